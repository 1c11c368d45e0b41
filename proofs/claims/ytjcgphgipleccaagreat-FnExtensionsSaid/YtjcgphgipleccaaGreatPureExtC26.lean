/- Plain laws: the reference's extensions, and both sides' codes and numbers by degree. No conditions beyond those that each lemma states. -/
import Derived.Test.YtjcgphgipleccaaGreatPureExtB26
set_option linter.unusedVariables false
set_option linter.unusedSimpArgs false
namespace Go.Proofs.YtjcgphgipleccaaGreat
open Go Go.RowKit Ab

/-- The points of a colour in l, as a set. -/
def setN (l : List Int) (c : Nat) : Nat := bitsN (fun p => decide (l.getD p 0 = (c : Int))) l.length
theorem setN_test (l : List Int) (c j : Nat) : (setN l c).testBit j = (decide (j < l.length) && decide (l.getD j 0 = (c : Int))) := bitsN_test _ _ _
theorem setN_lt (l : List Int) (c : Nat) : setN l c < 2 ^ l.length := bitsN_lt _ _
theorem setN_nil (c : Nat) : setN [] c = 0 := by
  apply bits_eq
  intro i
  rw [setN_test, Nat.zero_testBit]; simp
theorem setN_app (l : List Int) (d c : Nat) : setN (l ++ [(d : Int)]) c = if d = c then setN l c ||| 2 ^ l.length else setN l c := by
  apply bits_eq
  intro i
  rw [setN_test]
  have hlen : (l ++ [(d : Int)]).length = l.length + 1 := by simp
  rw [hlen]
  by_cases h1 : i < l.length
  · have hg : (l ++ [(d : Int)]).getD i 0 = l.getD i 0 := by simp [List.getD, List.getElem?_append, h1]
    rw [hg]
    have h2 : ¬ l.length = i := by omega
    split
    · rw [add_bit, setN_test]; simp [h1, h2, show i < l.length + 1 by omega]
    · rw [setN_test]; simp [h1, show i < l.length + 1 by omega]
  · by_cases h2 : l.length = i
    · subst h2
      have hg : (l ++ [(d : Int)]).getD l.length 0 = (d : Int) := by simp [List.getD]
      rw [hg]
      by_cases h3 : d = c
      · rw [if_pos h3, add_bit]; simp [h3]
      · rw [if_neg h3, setN_test]
        have : ¬ (d : Int) = (c : Int) := by omega
        simp [this]
    · have h4 : ¬ i < l.length + 1 := by omega
      split
      · rw [add_bit, setN_test]; simp [h1, h2, h4]
      · rw [setN_test]; simp [h1, h4]

def setsOK (x : Col) (l sets : List Int) : Prop := (sets.length : Int) = x.k ∧ ∀ c : Nat, (c : Int) < x.k → sets.getD c 0 = ((setN l c : Nat) : Int)

theorem near_mem (x : Col) (l : List Int) (c : Nat) (hl : l.length ≤ x.p.toNat) : mem (setN l c &&& nb x c l.length) 0 x.p.toNat = nearL x l c := by
  unfold mem nearL
  rw [ir_split hl, List.filter_append]
  have h2 : (ir l.length x.p.toNat).filter (fun a => (setN l c &&& nb x c l.length).testBit a.toNat) = [] := by
    rw [List.filter_eq_nil_iff]
    intro a ha
    have := mem_ir.1 ha
    rw [Nat.testBit_and, setN_test, decide_eq_false (by omega : ¬ a.toNat < l.length)]
    simp
  rw [h2, List.append_nil]
  refine List.filter_congr fun a ha => ?_
  have hm := mem_ir.1 ha
  obtain ⟨i, rfl⟩ : ∃ i : Nat, a = i := ⟨a.toNat, by omega⟩
  rw [Int.toNat_natCast, Nat.testBit_and, setN_test, nb_test, decide_eq_true (by omega : i < l.length), decide_eq_true (by omega : i < x.p.toNat), aB_comm]
  simp

theorem skip_val {x : Col} (hp : 1 ≤ x.p ∧ x.p ≤ 17) {sizes : List Int} (h : szOK x sizes) {l sets : List Int} (hs : setsOK x l sets) {c : Nat} (hc : (c : Int) < x.k) (hl : (l.length : Int) < x.p) (k : Nat) (hk : 300 ≤ k) :
    ((if 0 ≤ (c : Int) ∧ (c : Int) < (sizes.length : Int) then (if decide ((sizes.getD (c : Int).toNat 0) < 2) then some true else (if 0 ≤ (c : Int) ∧ (c : Int) < (sets.length : Int) then (spec_l01Around k x (l.length : Int) (c : Int)).bind fun r11 => (if 0 ≤ (c : Int) ∧ (c : Int) < (sizes.length : Int) then (spec_l03Clique k x c (bAnd .i64 (sets.getD (c : Int).toNat 0) r11) (w64 ((sizes.getD (c : Int).toNat 0) - 2))).bind fun r13 => some r13 else none) else none)) else none) : Option Bool) = some (!okX x sizes l c) := by
  obtain ⟨z1, z2, z3⟩ := sz_get h hc
  rw [if_pos ⟨by omega, by omega⟩, Int.toNat_natCast]
  unfold okX
  by_cases h2 : sizes.getD c 0 < 2
  · rw [if_pos (decide_eq_true h2), show (sizes.getD c 0 - 2).toNat = 0 by omega, cl_zero]; simp
  · have h63 : setN l c < 2 ^ 63 := lt63 (lt17 (setN_lt l c) (by omega))
    have hlt : setN l c &&& nb x c l.length < 2 ^ x.p.toNat := Nat.lt_of_le_of_lt Nat.and_le_right (bitsN_lt _ _)
    obtain ⟨m, hm⟩ : ∃ m : Nat, sizes.getD c 0 - 2 = m := ⟨(sizes.getD c 0 - 2).toNat, by omega⟩
    rw [if_neg (by simpa using h2), if_pos ⟨by omega, by have := hs.1; omega⟩, around_nb k x hp (by omega) c l.length hl, Option.bind_some, if_pos ⟨by omega, by omega⟩, hs.2 c hc, bAnd_nat h63 (nb_lt x hp c _), w64_id (by omega), hm, clique3_val x hp c m _ k hlt (by omega), near_mem x l c (by omega), Int.toNat_natCast, Option.bind_some]
    by_cases e : cl (aB x c) m (nearL x l c) = [] <;> simp [e]

theorem sets_next {x : Col} {l sets : List Int} (hs : setsOK x l sets) {c : Nat} (hc : (c : Int) < x.k) (hl : l.length ≤ 17) :
    setsOK x (l ++ [(c : Int)]) (sets.set c (bOr .i64 (sets.getD c 0) (bShl .i64 1 (IntKind.u64.wrap (l.length : Int))))) := by
  have hcl : c < sets.length := by have := hs.1; omega
  refine ⟨by rw [List.length_set]; exact hs.1, fun d hd => ?_⟩
  have h63 : setN l c < 2 ^ 63 := lt63 (lt17 (setN_lt l c) hl)
  have hp63 : 2 ^ l.length < 2 ^ 63 := Nat.pow_lt_pow_right (by omega) (by omega)
  rw [setN_app]
  by_cases e : d = c
  · subst e
    rw [if_pos rfl, hs.2 d hc, u64_id (by omega), bShl_one (by omega), bOr_nat h63 hp63]
    simp [List.getD, hcl]
  · rw [if_neg (fun h => e h.symm)]
    have : (sets.set c (bOr .i64 (sets.getD c 0) (bShl .i64 1 (IntKind.u64.wrap (l.length : Int))))).getD d 0 = sets.getD d 0 := by
      simp only [List.getD, List.getElem?_set]
      rw [if_neg (fun h => e h.symm)]
    rw [this]
    exact hs.2 d hd

theorem search_val {x : Col} (hp : 1 ≤ x.p ∧ x.p ≤ 17) (hk4 : 0 ≤ x.k ∧ x.k ≤ 4) {sizes : List Int} (h : szOK x sizes) :
    ∀ (d : Nat) (l sets : List Int) (most k : Nat), l.length + d = x.p.toNat → setsOK x l sets → 1 ≤ most → most ≤ 2097152 → d + 400 ≤ k →
      spec_l05Search k x sizes l sets most = some ((exts x.k.toNat (okX x sizes) d l).take most) := by
  intro d
  induction d with
  | zero =>
    intro l sets most k hl hs hm hm2 hk
    obtain ⟨k, rfl⟩ : ∃ q, k = q + 1 := ⟨k - 1, by omega⟩
    rw [spec_l05Search, spec_l05Search_body, if_pos (decide_eq_true (by omega)), exts_zero, List.take_of_length_le (by simp; omega)]
  | succ d ih =>
    intro l sets most k hl hs hm hm2 hk
    have hs4 : sets.length ≤ 4 := by have := hs.1; omega
    obtain ⟨k, rfl⟩ : ∃ q, k = q + 1 := ⟨k - 1, by omega⟩
    rw [spec_l05Search, spec_l05Search_body, if_neg (by simp only [decide_eq_true_eq]; omega), exts_succ]
    have := loopI (f := fun k' c (st : List (List Int)) => spec_l05Search_l0 k (spec_l05Search k) x sizes l sets (most : Int) k' c st) x.k 0
      (fun c st => c ≤ x.k ∧ st = (epre x.k.toNat (okX x sizes) d l c.toNat).take most) (fun r => r = (epre x.k.toNat (okX x sizes) d l x.k.toNat).take most) ?_ ?_ k 0 [] (by omega) (by omega) ⟨by omega, by simp [epre_zero]⟩
    · obtain ⟨r, e, rfl⟩ := this
      rw [e]; rfl
    · rintro k' j st h0 h1 ⟨q1, rfl⟩
      obtain ⟨c, rfl⟩ : ∃ c : Nat, j = c := ⟨j.toNat, by omega⟩
      rw [Int.toNat_natCast]
      obtain ⟨B, hB⟩ := epre_more (K := x.k.toNat) (ok := okX x sizes) (n := d) (l := l) c (x.k.toNat - c)
      rw [show c + (x.k.toNat - c) = x.k.toNat by omega] at hB
      have hpre := epre_succ (K := x.k.toNat) (ok := okX x sizes) (n := d) (l := l) c
      by_cases hfull : ((epre x.k.toNat (okX x sizes) d l c).take most).length < most
      · left
        have hA : (epre x.k.toNat (okX x sizes) d l c).length < most := by rw [List.length_take] at hfull; omega
        have hst : (epre x.k.toNat (okX x sizes) d l c).take most = epre x.k.toNat (okX x sizes) d l c := List.take_of_length_le (by omega)
        refine ⟨(epre x.k.toNat (okX x sizes) d l (c + 1)).take most, ?_, by omega, by rw [show ((c : Int) + 1).toNat = c + 1 by omega]⟩
        show spec_l05Search_l0 k (spec_l05Search k) x sizes l sets (most : Int) (k' + 1) c _ = _
        rw [hst, hpre]
        generalize epre x.k.toNat (okX x sizes) d l c = A at hA
        rw [spec_l05Search_l0, skip_val hp h hs h1 (by omega) k (by omega), w64_succ h0 h1 (by omega)]
        simp only [letO, h1, decide_true, if_true, show (A.length : Int) < (most : Int) by omega, Option.bind_some]
        cases hok : okX x sizes l c with
        | false =>
          have hsub : esub x.k.toNat (okX x sizes) d l c = [] := by unfold esub; rw [hok, if_neg (by simp)]
          rw [hsub, List.append_nil, List.take_of_length_le (by omega)]
          simp
        | true =>
          have hsub : esub x.k.toNat (okX x sizes) d l c = exts x.k.toNat (okX x sizes) d (l ++ [(c : Int)]) := by unfold esub; rw [hok, if_pos rfl]
          have hcl : (c : Int) < (sets.length : Int) := by have := hs.1; omega
          have hu : (0 : Int) ≤ IntKind.u64.wrap (l.length : Int) := by rw [u64_id (by omega)]; omega
          have hrec := ih (l ++ [(c : Int)]) (sets.set c (bOr .i64 (sets.getD c 0) (bShl .i64 1 (IntKind.u64.wrap (l.length : Int))))) (most - A.length) k (by simp; omega) (sets_next hs h1 (by omega)) (by omega) (by omega) (by omega)
          have hmm : w64 ((most : Int) - (A.length : Int)) = ((most - A.length : Nat) : Int) := by rw [w64_id (by omega)]; omega
          simp only [Bool.not_true, Bool.false_eq_true, if_false, Option.bind_some, spec_l01Own, List.nil_append, List.length_nil, Nat.zero_add]
          rw [if_pos (by omega), Option.bind_some, if_pos ⟨h0, hcl⟩, if_pos hu, if_pos ⟨h0, hcl⟩, if_pos (by omega), Option.bind_some, if_pos (by simp; omega), Int.toNat_natCast, hmm, hrec, Option.bind_some]
          have htl : ((exts x.k.toNat (okX x sizes) d (l ++ [(c : Int)])).take (most - A.length)).length ≤ most := by rw [List.length_take]; omega
          rw [if_pos (by omega), hsub, take_app_le _ _ _ (by omega)]
          rfl
      · right
        refine ⟨(epre x.k.toNat (okX x sizes) d l c).take most, ?_, ?_⟩
        · show spec_l05Search_l0 k (spec_l05Search k) x sizes l sets (most : Int) (k' + 1) c _ = _
          rw [spec_l05Search_l0]
          have : ¬ (((epre x.k.toNat (okX x sizes) d l c).take most).length : Int) < (most : Int) := by omega
          simp only [letO, h1, decide_true, if_true, this, decide_false, Bool.false_eq_true, if_false, Option.bind_some]
        · rw [List.length_take] at hfull
          rw [hB, List.take_append_of_le_length (by omega)]
    · rintro k' j st h0 h1 ⟨q1, rfl⟩
      refine ⟨(epre x.k.toNat (okX x sizes) d l x.k.toNat).take most, ?_, rfl⟩
      show spec_l05Search_l0 k (spec_l05Search k) x sizes l sets (most : Int) (k' + 1) j _ = _
      have : ¬ j < x.k := by omega
      rw [spec_l05Search_l0, show j.toNat = x.k.toNat by omega]
      simp only [letO, this, decide_false, Bool.false_eq_true, if_false, Option.bind_some]

/-! ### Numbers by degree -/
def cbD (l s : List Int) : Bool × List Int := (true, s.set (l.count 0) (w64 (s.getD (l.count 0) 0 + 1)))
theorem runD_true : ∀ (L : List (List Int)) (s : List Int), (runT cbD L s).1 = true
  | [], s => rfl
  | a :: t, s => by
    rw [runT, if_pos (show (cbD a s).1 = true from rfl)]
    exact runD_true t _
theorem runD_len : ∀ (L : List (List Int)) (s : List Int), (runT cbD L s).2.length = s.length
  | [], s => rfl
  | a :: t, s => by
    rw [runT, if_pos (show (cbD a s).1 = true from rfl), runD_len t]
    simp [cbD]
theorem count_ix (v : Int) : ∀ (l : List Int), ((ir 0 l.length).filter fun a => decide (l.getD a.toNat 0 = v)).length = l.count v
  | [] => rfl
  | a :: t => by
    have hs : ir 0 (a :: t).length = 0 :: (ir 0 t.length).map (· + 1) := by
      rw [List.length_cons, ir_next (by omega), ← ir_shift]; rfl
    rw [hs, List.filter_cons, List.filter_map, List.count_cons]
    have hc : ((ir 0 t.length).filter ((fun b : Int => decide ((a :: t).getD b.toNat 0 = v)) ∘ (· + 1))).length = t.count v := by
      rw [← count_ix v t]
      congr 1
      refine List.filter_congr fun b hb => ?_
      have := mem_ir.1 hb
      show decide ((a :: t).getD (b + 1).toNat 0 = v) = _
      rw [show (b + 1).toNat = b.toNat + 1 by omega]
      rfl
    have hg : (a :: t).getD (0 : Int).toNat 0 = a := rfl
    rw [hg]
    by_cases e : a = v
    · subst e
      simp only [decide_true, if_true, List.length_cons, List.length_map, hc, beq_self_eq_true]
    · have : (a == v) = false := by simpa using e
      simp only [e, decide_false, Bool.false_eq_true, if_false, List.length_map, hc, this, Nat.add_zero]

theorem ones_set {l : List Int} (c : Nat) (hl : l.length ≤ 17) (k : Nat) (hk : 100 ≤ k) : spec_l01Ones k ((setN l c : Nat) : Int) = some ((l.count (c : Int) : Nat) : Int) := by
  rw [ones_val (n := l.length) hk (by omega) (setN_lt l c)]
  congr 2
  rw [← count_ix]
  unfold mem
  congr 1
  refine List.filter_congr fun a ha => ?_
  have := mem_ir.1 ha
  rw [setN_test, decide_eq_true (by omega : a.toNat < l.length)]
  simp

theorem countD_val {x : Col} (hp : 1 ≤ x.p ∧ x.p ≤ 17) (hk4 : 1 ≤ x.k ∧ x.k ≤ 4) {sizes : List Int} (h : szOK x sizes) :
    ∀ (d : Nat) (l sets s : List Int) (k : Nat), l.length + d = x.p.toNat → setsOK x l sets → s.length = x.p.toNat + 1 → d + 400 ≤ k →
      spec_l05Count k x sizes (l.length : Int) sets s = some (runT cbD (exts x.k.toNat (okX x sizes) d l) s).2 := by
  intro d
  induction d with
  | zero =>
    intro l sets s k hl hs hsl hk
    obtain ⟨k, rfl⟩ : ∃ q, k = q + 1 := ⟨k - 1, by omega⟩
    have hcl := List.count_le_length (a := (0 : Int)) (l := l)
    have h0 : (0 : Int) < x.k := by omega
    rw [spec_l05Count, spec_l05Count_body, if_pos (decide_eq_true (by omega)), if_pos ⟨by omega, by have := hs.1; omega⟩, exts_zero, runT_one]
    have e0 : sets.getD (0 : Int).toNat 0 = ((setN l 0 : Nat) : Int) := hs.2 0 (by omega)
    have e1 : spec_l01Ones k ((setN l 0 : Nat) : Int) = some ((l.count 0 : Nat) : Int) := ones_set 0 (by omega) k (by omega)
    rw [e0, e1, Option.bind_some, if_pos ⟨by omega, by omega⟩, if_pos ⟨by omega, by omega⟩, Int.toNat_natCast]
    rfl
  | succ d ih =>
    intro l sets s k hl hs hsl hk
    have hs4 : sets.length ≤ 4 := by have := hs.1; omega
    obtain ⟨k, rfl⟩ : ∃ q, k = q + 1 := ⟨k - 1, by omega⟩
    rw [spec_l05Count, spec_l05Count_body, if_neg (by simp only [decide_eq_true_eq]; omega), exts_succ]
    have := loopI (f := fun k' c (st : List Int) => spec_l05Count_l0 k (spec_l05Count k) x sizes (l.length : Int) sets k' c st) x.k 0
      (fun c st => c ≤ x.k ∧ st = (runT cbD (epre x.k.toNat (okX x sizes) d l c.toNat) s).2) (fun r => r = (runT cbD (epre x.k.toNat (okX x sizes) d l x.k.toNat) s).2) ?_ ?_ k 0 s (by omega) (by omega) ⟨by omega, rfl⟩
    · obtain ⟨r, e, rfl⟩ := this
      exact e
    · rintro k' j st h0 h1 ⟨q1, rfl⟩
      obtain ⟨c, rfl⟩ : ∃ c : Nat, j = c := ⟨j.toNat, by omega⟩
      rw [Int.toNat_natCast]
      have hpre := epre_succ (K := x.k.toNat) (ok := okX x sizes) (n := d) (l := l) c
      left
      refine ⟨(runT cbD (epre x.k.toNat (okX x sizes) d l (c + 1)) s).2, ?_, by omega, by rw [show ((c : Int) + 1).toNat = c + 1 by omega]⟩
      show spec_l05Count_l0 k (spec_l05Count k) x sizes (l.length : Int) sets (k' + 1) c _ = _
      rw [hpre, runT_app, if_pos (runD_true _ _)]
      have hslen : (runT cbD (epre x.k.toNat (okX x sizes) d l c) s).2.length = x.p.toNat + 1 := by rw [runD_len]; exact hsl
      generalize (runT cbD (epre x.k.toNat (okX x sizes) d l c) s).2 = t at hslen
      rw [spec_l05Count_l0, if_pos (decide_eq_true h1), skip_val hp h hs h1 (by omega) k (by omega), w64_succ h0 h1 (by omega)]
      cases hok : okX x sizes l c with
      | false =>
        have hsub : esub x.k.toNat (okX x sizes) d l c = [] := by unfold esub; rw [hok, if_neg (by simp)]
        rw [hsub, runT_nil]
        simp
      | true =>
        have hsub : esub x.k.toNat (okX x sizes) d l c = exts x.k.toNat (okX x sizes) d (l ++ [(c : Int)]) := by unfold esub; rw [hok, if_pos rfl]
        have hcl : (c : Int) < (sets.length : Int) := by have := hs.1; omega
        have hu : (0 : Int) ≤ IntKind.u64.wrap (l.length : Int) := by rw [u64_id (by omega)]; omega
        have hrec := ih (l ++ [(c : Int)]) (sets.set c (bOr .i64 (sets.getD c 0) (bShl .i64 1 (IntKind.u64.wrap (l.length : Int))))) t k (by simp; omega) (sets_next hs h1 (by omega)) hslen (by omega)
        have hnn : w64 ((l.length : Int) + 1) = (((l ++ [(c : Int)]).length : Nat) : Int) := by rw [w64_id (by omega)]; simp
        simp only [Bool.not_true, Bool.false_eq_true, if_false, Option.bind_some, spec_l01Own, List.nil_append, List.length_nil, Nat.zero_add]
        rw [if_pos (by omega), Option.bind_some, if_pos ⟨h0, hcl⟩, if_pos hu, if_pos ⟨h0, hcl⟩, Int.toNat_natCast, hnn, hrec, hsub]
        rfl
    · rintro k' j st h0 h1 ⟨q1, rfl⟩
      refine ⟨(runT cbD (epre x.k.toNat (okX x sizes) d l x.k.toNat) s).2, ?_, rfl⟩
      show spec_l05Count_l0 k (spec_l05Count k) x sizes (l.length : Int) sets (k' + 1) j _ = _
      rw [spec_l05Count_l0, if_neg (by simp only [decide_eq_true_eq]; omega), show j.toNat = x.k.toNat by omega]
end Go.Proofs.YtjcgphgipleccaaGreat
