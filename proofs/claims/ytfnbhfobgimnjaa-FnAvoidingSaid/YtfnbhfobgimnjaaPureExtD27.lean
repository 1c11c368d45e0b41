/- Plain laws: the reference's extensions, and both sides' codes and numbers by degree. No conditions beyond those that each lemma states. -/
import Derived.Test.YtfnbhfobgimnjaaPureExtB27
set_option linter.unusedVariables false
set_option linter.unusedSimpArgs false
namespace Go.Proofs.Ytfnbhfobgimnjaa
open Go Go.RowKit Ab

/-- The points of a colour in l, as a set. -/
def setN (l : List Int) (c : Nat) : Nat := bitsN (fun p => decide (l.getD p 0 = (c : Int))) l.length
theorem setN_test (l : List Int) (c j : Nat) : (setN l c).testBit j = (decide (j < l.length) && decide (l.getD j 0 = (c : Int))) := bitsN_test _ _ _
theorem setN_lt (l : List Int) (c : Nat) : setN l c < 2 ^ l.length := bitsN_lt _ _
theorem setN_nil (c : Nat) : setN [] c = 0 := by
  apply bits_eq
  intro i
  rw [setN_test, Nat.zero_testBit]; simp
theorem setN_app (l : List Int) (d c : Nat) : setN (l ++ [(d : Int)]) c = if d = c then setN l c ||| 2 ^ l.length else setN l c := by
  apply bits_eq
  intro i
  rw [setN_test]
  have hlen : (l ++ [(d : Int)]).length = l.length + 1 := by simp
  rw [hlen]
  by_cases h1 : i < l.length
  · have hg : (l ++ [(d : Int)]).getD i 0 = l.getD i 0 := by simp [List.getD, List.getElem?_append, h1]
    rw [hg]
    have h2 : ¬ l.length = i := by omega
    split
    · rw [add_bit, setN_test]; simp [h1, h2, show i < l.length + 1 by omega]
    · rw [setN_test]; simp [h1, show i < l.length + 1 by omega]
  · by_cases h2 : l.length = i
    · subst h2
      have hg : (l ++ [(d : Int)]).getD l.length 0 = (d : Int) := by simp [List.getD]
      rw [hg]
      by_cases h3 : d = c
      · rw [if_pos h3, add_bit]; simp [h3]
      · rw [if_neg h3, setN_test]
        have : ¬ (d : Int) = (c : Int) := by omega
        simp [this]
    · have h4 : ¬ i < l.length + 1 := by omega
      split
      · rw [add_bit, setN_test]; simp [h1, h2, h4]
      · rw [setN_test]; simp [h1, h4]

def setsOK (x : Col) (l sets : List Int) : Prop := (sets.length : Int) = x.k ∧ ∀ c : Nat, (c : Int) < x.k → sets.getD c 0 = ((setN l c : Nat) : Int)

theorem near_mem (x : Col) (l : List Int) (c : Nat) (hl : l.length ≤ x.p.toNat) : mem (setN l c &&& nb x c l.length) 0 x.p.toNat = nearL x l c := by
  unfold mem nearL
  rw [ir_split hl, List.filter_append]
  have h2 : (ir l.length x.p.toNat).filter (fun a => (setN l c &&& nb x c l.length).testBit a.toNat) = [] := by
    rw [List.filter_eq_nil_iff]
    intro a ha
    have := mem_ir.1 ha
    rw [Nat.testBit_and, setN_test, decide_eq_false (by omega : ¬ a.toNat < l.length)]
    simp
  rw [h2, List.append_nil]
  refine List.filter_congr fun a ha => ?_
  have hm := mem_ir.1 ha
  obtain ⟨i, rfl⟩ : ∃ i : Nat, a = i := ⟨a.toNat, by omega⟩
  rw [Int.toNat_natCast, Nat.testBit_and, setN_test, nb_test, decide_eq_true (by omega : i < l.length), decide_eq_true (by omega : i < x.p.toNat), aB_comm]
  simp

theorem skip_val {x : Col} (hp : 1 ≤ x.p ∧ x.p ≤ 17) {sizes : List Int} (h : szOK x sizes) {l sets : List Int} (hs : setsOK x l sets) {c : Nat} (hc : (c : Int) < x.k) (hl : (l.length : Int) < x.p) (k : Nat) (hk : 300 ≤ k) :
    ((if 0 ≤ (c : Int) ∧ (c : Int) < (sizes.length : Int) then (if decide ((sizes.getD (c : Int).toNat 0) < 2) then some true else (if 0 ≤ (c : Int) ∧ (c : Int) < (sets.length : Int) then (spec_l01Around k x (l.length : Int) (c : Int)).bind fun r11 => (if 0 ≤ (c : Int) ∧ (c : Int) < (sizes.length : Int) then (spec_l03Clique k x c (bAnd .i64 (sets.getD (c : Int).toNat 0) r11) (w64 ((sizes.getD (c : Int).toNat 0) - 2))).bind fun r13 => some r13 else none) else none)) else none) : Option Bool) = some (!okX x sizes l c) := by
  obtain ⟨z1, z2, z3⟩ := sz_get h hc
  rw [if_pos ⟨by omega, by omega⟩, Int.toNat_natCast]
  unfold okX
  by_cases h2 : sizes.getD c 0 < 2
  · rw [if_pos (decide_eq_true h2), show (sizes.getD c 0 - 2).toNat = 0 by omega, cl_zero]; simp
  · have h63 : setN l c < 2 ^ 63 := lt63 (lt17 (setN_lt l c) (by omega))
    have hlt : setN l c &&& nb x c l.length < 2 ^ x.p.toNat := Nat.lt_of_le_of_lt Nat.and_le_right (bitsN_lt _ _)
    obtain ⟨m, hm⟩ : ∃ m : Nat, sizes.getD c 0 - 2 = m := ⟨(sizes.getD c 0 - 2).toNat, by omega⟩
    rw [if_neg (by simpa using h2), if_pos ⟨by omega, by have := hs.1; omega⟩, around_nb k x hp (by omega) c l.length hl, Option.bind_some, if_pos ⟨by omega, by omega⟩, hs.2 c hc, bAnd_nat h63 (nb_lt x hp c _), w64_id (by omega), hm, clique3_val x hp c m _ k hlt (by omega), near_mem x l c (by omega), Int.toNat_natCast, Option.bind_some]
    by_cases e : cl (aB x c) m (nearL x l c) = [] <;> simp [e]

theorem sets_next {x : Col} {l sets : List Int} (hs : setsOK x l sets) {c : Nat} (hc : (c : Int) < x.k) (hl : l.length ≤ 17) :
    setsOK x (l ++ [(c : Int)]) (sets.set c (bOr .i64 (sets.getD c 0) (bShl .i64 1 (IntKind.u64.wrap (l.length : Int))))) := by
  have hcl : c < sets.length := by have := hs.1; omega
  refine ⟨by rw [List.length_set]; exact hs.1, fun d hd => ?_⟩
  have h63 : setN l c < 2 ^ 63 := lt63 (lt17 (setN_lt l c) hl)
  have hp63 : 2 ^ l.length < 2 ^ 63 := Nat.pow_lt_pow_right (by omega) (by omega)
  rw [setN_app]
  by_cases e : d = c
  · subst e
    rw [if_pos rfl, hs.2 d hc, u64_id (by omega), bShl_one (by omega), bOr_nat h63 hp63]
    simp [List.getD, hcl]
  · rw [if_neg (fun h => e h.symm)]
    have : (sets.set c (bOr .i64 (sets.getD c 0) (bShl .i64 1 (IntKind.u64.wrap (l.length : Int))))).getD d 0 = sets.getD d 0 := by
      simp only [List.getD, List.getElem?_set]
      rw [if_neg (fun h => e h.symm)]
    rw [this]
    exact hs.2 d hd

theorem search_val {x : Col} (hp : 1 ≤ x.p ∧ x.p ≤ 17) (hk4 : 0 ≤ x.k ∧ x.k ≤ 4) {sizes : List Int} (h : szOK x sizes) :
    ∀ (d : Nat) (l sets : List Int) (most k : Nat), l.length + d = x.p.toNat → setsOK x l sets → 1 ≤ most → most ≤ 2097152 → d + 400 ≤ k →
      spec_l05Search k x sizes l sets most = some ((exts x.k.toNat (okX x sizes) d l).take most) := by
  intro d
  induction d with
  | zero =>
    intro l sets most k hl hs hm hm2 hk
    obtain ⟨k, rfl⟩ : ∃ q, k = q + 1 := ⟨k - 1, by omega⟩
    rw [spec_l05Search, spec_l05Search_body, if_pos (decide_eq_true (by omega)), exts_zero, List.take_of_length_le (by simp; omega)]
  | succ d ih =>
    intro l sets most k hl hs hm hm2 hk
    have hs4 : sets.length ≤ 4 := by have := hs.1; omega
    obtain ⟨k, rfl⟩ : ∃ q, k = q + 1 := ⟨k - 1, by omega⟩
    rw [spec_l05Search, spec_l05Search_body, if_neg (by simp only [decide_eq_true_eq]; omega), exts_succ]
    have := loopI (f := fun k' c (st : List (List Int)) => spec_l05Search_l0 k (spec_l05Search k) x sizes l sets (most : Int) k' c st) x.k 0
      (fun c st => c ≤ x.k ∧ st = (epre x.k.toNat (okX x sizes) d l c.toNat).take most) (fun r => r = (epre x.k.toNat (okX x sizes) d l x.k.toNat).take most) ?_ ?_ k 0 [] (by omega) (by omega) ⟨by omega, by simp [epre_zero]⟩
    · obtain ⟨r, e, rfl⟩ := this
      rw [e]; rfl
    · rintro k' j st h0 h1 ⟨q1, rfl⟩
      obtain ⟨c, rfl⟩ : ∃ c : Nat, j = c := ⟨j.toNat, by omega⟩
      rw [Int.toNat_natCast]
      obtain ⟨B, hB⟩ := epre_more (K := x.k.toNat) (ok := okX x sizes) (n := d) (l := l) c (x.k.toNat - c)
      rw [show c + (x.k.toNat - c) = x.k.toNat by omega] at hB
      have hpre := epre_succ (K := x.k.toNat) (ok := okX x sizes) (n := d) (l := l) c
      by_cases hfull : ((epre x.k.toNat (okX x sizes) d l c).take most).length < most
      · left
        have hA : (epre x.k.toNat (okX x sizes) d l c).length < most := by rw [List.length_take] at hfull; omega
        have hst : (epre x.k.toNat (okX x sizes) d l c).take most = epre x.k.toNat (okX x sizes) d l c := List.take_of_length_le (by omega)
        refine ⟨(epre x.k.toNat (okX x sizes) d l (c + 1)).take most, ?_, by omega, by rw [show ((c : Int) + 1).toNat = c + 1 by omega]⟩
        show spec_l05Search_l0 k (spec_l05Search k) x sizes l sets (most : Int) (k' + 1) c _ = _
        rw [hst, hpre]
        generalize epre x.k.toNat (okX x sizes) d l c = A at hA
        rw [spec_l05Search_l0, skip_val hp h hs h1 (by omega) k (by omega), w64_succ h0 h1 (by omega)]
        simp only [letO, h1, decide_true, if_true, show (A.length : Int) < (most : Int) by omega, Option.bind_some]
        cases hok : okX x sizes l c with
        | false =>
          have hsub : esub x.k.toNat (okX x sizes) d l c = [] := by unfold esub; rw [hok, if_neg (by simp)]
          rw [hsub, List.append_nil, List.take_of_length_le (by omega)]
          simp
        | true =>
          have hsub : esub x.k.toNat (okX x sizes) d l c = exts x.k.toNat (okX x sizes) d (l ++ [(c : Int)]) := by unfold esub; rw [hok, if_pos rfl]
          have hcl : (c : Int) < (sets.length : Int) := by have := hs.1; omega
          have hu : (0 : Int) ≤ IntKind.u64.wrap (l.length : Int) := by rw [u64_id (by omega)]; omega
          have hrec := ih (l ++ [(c : Int)]) (sets.set c (bOr .i64 (sets.getD c 0) (bShl .i64 1 (IntKind.u64.wrap (l.length : Int))))) (most - A.length) k (by simp; omega) (sets_next hs h1 (by omega)) (by omega) (by omega) (by omega)
          have hmm : w64 ((most : Int) - (A.length : Int)) = ((most - A.length : Nat) : Int) := by rw [w64_id (by omega)]; omega
          simp only [Bool.not_true, Bool.false_eq_true, if_false, Option.bind_some, spec_l01Own, List.nil_append, List.length_nil, Nat.zero_add]
          rw [if_pos (by omega), Option.bind_some, if_pos ⟨h0, hcl⟩, if_pos hu, if_pos ⟨h0, hcl⟩, if_pos (by omega), Option.bind_some, if_pos (by simp; omega), Int.toNat_natCast, hmm, hrec, Option.bind_some]
          have htl : ((exts x.k.toNat (okX x sizes) d (l ++ [(c : Int)])).take (most - A.length)).length ≤ most := by rw [List.length_take]; omega
          rw [if_pos (by omega), hsub, take_app_le _ _ _ (by omega)]
          rfl
      · right
        refine ⟨(epre x.k.toNat (okX x sizes) d l c).take most, ?_, ?_⟩
        · show spec_l05Search_l0 k (spec_l05Search k) x sizes l sets (most : Int) (k' + 1) c _ = _
          rw [spec_l05Search_l0]
          have : ¬ (((epre x.k.toNat (okX x sizes) d l c).take most).length : Int) < (most : Int) := by omega
          simp only [letO, h1, decide_true, if_true, this, decide_false, Bool.false_eq_true, if_false, Option.bind_some]
        · rw [List.length_take] at hfull
          rw [hB, List.take_append_of_le_length (by omega)]
    · rintro k' j st h0 h1 ⟨q1, rfl⟩
      refine ⟨(epre x.k.toNat (okX x sizes) d l x.k.toNat).take most, ?_, rfl⟩
      show spec_l05Search_l0 k (spec_l05Search k) x sizes l sets (most : Int) (k' + 1) j _ = _
      have : ¬ j < x.k := by omega
      rw [spec_l05Search_l0, show j.toNat = x.k.toNat by omega]
      simp only [letO, this, decide_false, Bool.false_eq_true, if_false, Option.bind_some]

/-! ### Numbers by degree -/

/-! ### Codes -/
open Classical in
noncomputable def eC (x : Col) (sizes : List Int) : Int := if x.is then (if szOK x sizes then 0 else 2) else 1
open Classical in
noncomputable def eS (x : Col) (sizes : List Int) (lim : Int) : Int := if eC x sizes = 0 then (if avoidsP x sizes then (if lim < x.p then 3 else 0) else 5) else eC x sizes

theorem eC_zero {x : Col} {sizes : List Int} (h : eC x sizes = 0) : x.is ∧ szOK x sizes := by
  unfold eC at h
  split at h
  · split at h
    · exact ⟨by assumption, by assumption⟩
    · omega
  · omega
theorem eS_zero {x : Col} {sizes : List Int} {lim : Int} (h : eS x sizes lim = 0) : x.is ∧ szOK x sizes ∧ avoidsP x sizes ∧ x.p ≤ lim := by
  unfold eS at h
  split at h
  · rename_i h0
    obtain ⟨h1, h2⟩ := eC_zero h0
    split at h
    · split at h
      · omega
      · exact ⟨h1, h2, by assumption, by omega⟩
    · omega
  · exact absurd h (by assumption)
theorem is_range {x : Col} (h : x.is) : (1 ≤ x.p ∧ x.p ≤ 17) ∧ 1 ≤ x.k ∧ x.k ≤ 4 := ⟨h.1, h.2.1⟩

theorem specSizes_val (sizes : List Int) (K : Int) (k : Nat) (hk : sizes.length + 1 ≤ k) (hl : sizes.length ≤ 1000) : spec_l05Sizes k sizes K = some (if (sizes.length : Int) = K ∧ ∀ z ∈ sizes, 1 ≤ z ∧ z ≤ 17 then 0 else 2) := by
  classical
  unfold spec_l05Sizes
  by_cases h : (sizes.length : Int) = K
  · rw [if_neg (by simpa using h), loopAll (f := fun k' i => spec_l05Sizes_l0 sizes k' i) (sizes.length : Int) 2 (fun i => 1 ≤ sizes.getD i.toNat 0 ∧ sizes.getD i.toNat 0 ≤ 17) 0 ?_ ?_ ?_ k 0 (by omega) (by omega), Option.bind_some]
    · by_cases hq : ∀ z ∈ sizes, 1 ≤ z ∧ z ≤ 17
      · rw [if_pos, if_pos ⟨h, hq⟩]
        exact fun j h0 h1 => hq _ (mem_getD.2 ⟨j.toNat, by omega, rfl⟩)
      · rw [if_neg, if_neg (fun q => hq q.2)]
        intro h2
        refine hq fun z hz => ?_
        obtain ⟨a, h3, h4⟩ := mem_getD.1 hz
        have := h2 a (by omega) (by omega)
        rw [Int.toNat_natCast, h4] at this
        exact this
    all_goals intro k' i h0
    · intro h1 hq
      show spec_l05Sizes_l0 sizes (k' + 1) i = _
      rw [spec_l05Sizes_l0, if_pos (decide_eq_true h1), if_pos ⟨h0, h1⟩, specIn_eq, decide_eq_true hq, if_neg (by simp), w64_succ h0 h1 (by omega)]
    · intro h1 hq
      show spec_l05Sizes_l0 sizes (k' + 1) i = _
      rw [spec_l05Sizes_l0, if_pos (decide_eq_true h1), if_pos ⟨h0, h1⟩, specIn_eq, decide_eq_false hq, if_pos (by simp)]
    · show spec_l05Sizes_l0 sizes (k' + 1) i = _
      rw [spec_l05Sizes_l0, if_neg (by simp only [decide_eq_true_eq]; omega)]
  · rw [if_pos (by simpa using h), if_neg (fun q => h q.1)]

theorem specCode_val {k : Nat} (hk : 5000 ≤ k) (x : Col) (sizes : List Int) (hl : sizes.length ≤ 1000) : spec_l05Code k x sizes = some (eC x sizes) := by
  classical
  unfold spec_l05Code eC
  rw [specIs_eq k (by omega), Option.bind_some]
  by_cases h : x.is
  · rw [if_neg (by simpa using h), specSizes_val sizes x.k k (by omega) hl, if_pos h]
    by_cases h2 : szOK x sizes
    · rw [if_pos h2, if_pos (show (sizes.length : Int) = x.k ∧ ∀ z ∈ sizes, 1 ≤ z ∧ z ≤ 17 from h2)]; rfl
    · rw [if_neg h2, if_neg (show ¬ ((sizes.length : Int) = x.k ∧ ∀ z ∈ sizes, 1 ≤ z ∧ z ≤ 17) from h2)]; rfl
  · rw [if_pos (by simpa using h), if_neg h]

theorem whole_all (x : Col) (hp : 1 ≤ x.p ∧ x.p ≤ 17) : w64 ((bShl .i64 1 (IntKind.u64.wrap x.p)) - 1) = ((2 ^ x.p.toNat - 1 : Nat) : Int) ∧ 2 ^ x.p.toNat - 1 < 2 ^ x.p.toNat ∧ (0 : Int) ≤ IntKind.u64.wrap x.p := by
  obtain ⟨n, hn⟩ := nat_of (show 0 ≤ x.p by omega)
  have h2 : 2 ^ n < 2 ^ 18 := Nat.pow_lt_pow_right (by omega) (by omega)
  have h0 : 0 < 2 ^ n := Nat.two_pow_pos n
  rw [u64_id (by omega), hn, bShl_one (by omega)]
  simp only [Int.toNat_natCast]
  refine ⟨?_, by omega, by omega⟩
  rw [w64_id (by omega)]; omega

theorem specAvoids_val {k : Nat} (hk : 5000 ≤ k) (x : Col) (hp : 1 ≤ x.p ∧ x.p ≤ 17) (sizes : List Int) (h : szOK x sizes) (hk4 : 1 ≤ x.k ∧ x.k ≤ 4) : ∃ b, spec_l05Avoids k x sizes = some b ∧ (b = true ↔ avoidsP x sizes) := by
  classical
  obtain ⟨w1, w2, w3⟩ := whole_all x hp
  unfold spec_l05Avoids
  have hval : ∀ c : Nat, (c : Int) < x.k → spec_l03Clique k x c (w64 ((bShl .i64 1 (IntKind.u64.wrap x.p)) - 1)) (sizes.getD c 0) = some (decide (cl (aB x c) (sizes.getD c 0).toNat (pts x) ≠ [])) := fun c hc => by
    obtain ⟨z1, z2, _⟩ := sz_get h hc
    obtain ⟨m, hm⟩ : ∃ m : Nat, sizes.getD c 0 = m := ⟨(sizes.getD c 0).toNat, by omega⟩
    rw [w1, hm, clique3_val x hp c m _ k w2 (by omega), mem_all, Int.toNat_natCast]
    rfl
  rw [loopAll (f := fun k' i => spec_l05Avoids_l0 k x sizes k' i) x.k false (fun i => cl (aB x i) (sizes.getD i.toNat 0).toNat (pts x) = []) 0 ?_ ?_ ?_ k 0 (by omega) (by omega), Option.bind_some]
  · by_cases hq : avoidsP x sizes
    · refine ⟨true, ?_, by simp [hq]⟩
      rw [if_pos]
      intro j h0 h1
      have := hq j.toNat (by have := h.1; omega)
      rw [show ((j.toNat : Nat) : Int) = j by omega] at this
      exact this
    · refine ⟨false, ?_, by simp [hq]⟩
      rw [if_neg]
      intro h2
      refine hq fun c hc => ?_
      have := h2 c (by omega) (by have := h.1; omega)
      rw [Int.toNat_natCast] at this
      exact this
  all_goals intro k' i h0
  · intro h1 hq
    obtain ⟨c, rfl⟩ : ∃ c : Nat, i = c := ⟨i.toNat, by omega⟩
    show spec_l05Avoids_l0 k x sizes (k' + 1) c = _
    rw [Int.toNat_natCast] at hq
    rw [spec_l05Avoids_l0, if_pos (decide_eq_true h1), if_pos w3, if_pos ⟨h0, by have := h.1; omega⟩, Int.toNat_natCast, hval c h1, Option.bind_some, if_neg (by rw [hq]; simp), w64_succ h0 h1 (by omega)]
  · intro h1 hq
    obtain ⟨c, rfl⟩ : ∃ c : Nat, i = c := ⟨i.toNat, by omega⟩
    show spec_l05Avoids_l0 k x sizes (k' + 1) c = _
    rw [Int.toNat_natCast] at hq
    rw [spec_l05Avoids_l0, if_pos (decide_eq_true h1), if_pos w3, if_pos ⟨h0, by have := h.1; omega⟩, Int.toNat_natCast, hval c h1, Option.bind_some, if_pos (decide_eq_true hq)]
  · show spec_l05Avoids_l0 k x sizes (k' + 1) i = _
    rw [spec_l05Avoids_l0, if_neg (by simp only [decide_eq_true_eq]; omega)]

theorem implExt_val {k : Nat} (hk : 5000 ≤ k) (x : Col) (sizes : List Int) (hl : sizes.length ≤ 1000) (lim : Int) : impl_Colouring_extendingCode k x sizes (some true) lim = some (eS x sizes lim) := by
  classical
  unfold impl_Colouring_extendingCode eS eC
  obtain ⟨s1, s2⟩ := sizesCode_val hk x sizes hl true
  by_cases h : x.is
  · obtain ⟨hp, hk4⟩ := is_range h
    by_cases h2 : szOK x sizes
    · have e1 : impl_Colouring_sizesCode k x sizes (some true) = some 0 := by rw [s2 h, if_pos ⟨h2, rfl⟩]
      rw [e1, Option.bind_some, if_neg (by simp), if_pos h, if_pos h2, if_pos rfl, avoids_loop hk x hp sizes h2.2 hl, Option.bind_some]
      by_cases h3 : avoidsP x sizes
      · rw [if_neg (by simpa using h3), if_pos h3]
        by_cases h4 : lim < x.p
        · rw [if_pos (decide_eq_true h4), if_pos h4]
        · rw [if_neg (by simpa using h4), if_neg h4]
      · rw [if_pos (by simpa using h3), if_neg h3]
    · have e1 : impl_Colouring_sizesCode k x sizes (some true) = some 2 := by rw [s2 h, if_neg (fun q => h2 q.1)]
      rw [e1, Option.bind_some, if_pos (by simp), if_pos h, if_neg h2, if_neg (by omega)]
  · rw [s1 h, Option.bind_some, if_pos (by simp), if_neg h, if_neg (by omega)]

/-! ### All extensions -/
def EX (x : Col) (sizes : List Int) : List (List Int) := exts x.k.toNat (okX x sizes) x.p.toNat []

theorem no_one {x : Col} {sizes : List Int} (hp : 1 ≤ x.p) (h : avoidsP x sizes) : ∀ z ∈ sizes, z ≠ 1 := by
  intro z hz e
  obtain ⟨c, h1, h2⟩ := mem_getD.1 hz
  have := h c h1
  rw [h2, e, show (1 : Int).toNat = 0 + 1 from rfl] at this
  unfold pts at this
  rw [ir_next (by omega : 0 < x.p.toNat), cl_cons, cl_zero] at this
  simp at this

theorem all_val {k : Nat} (hk : 5000 ≤ k) {x : Col} (hp : 1 ≤ x.p ∧ x.p ≤ 17) (hk4 : 1 ≤ x.k ∧ x.k ≤ 4) {sizes : List Int} (h : szOK x sizes) (h1 : ∀ z ∈ sizes, z ≠ 1) (most : Nat) (hm : 1 ≤ most) (hm2 : most ≤ 2097152) :
    spec_l05All k x sizes most = some ((EX x sizes).take most) := by
  unfold spec_l05All
  have hl4 := h.1
  rw [loopAll (f := fun k' i => spec_l05All_l0 sizes k' i) (sizes.length : Int) [] (fun i => sizes.getD i.toNat 0 ≠ 1) 0 ?_ ?_ ?_ k 0 (by omega) (by omega), Option.bind_some, if_pos]
  · dsimp only
    rw [if_pos ⟨by omega, by omega, by omega⟩]
    have hs0 : setsOK x [] (List.replicate x.k.toNat (0 : Int)) := ⟨by simp; omega, fun c hc => by
      rw [setN_nil]
      simp [List.getD, List.getElem?_replicate, show c < x.k.toNat by omega]⟩
    rw [search_val hp (by omega) h x.p.toNat [] _ most k (by simp) hs0 hm hm2 (by omega)]
    rfl
  · exact fun j h0 h2 => h1 _ (mem_getD.2 ⟨j.toNat, by omega, rfl⟩)
  all_goals intro k' i h0
  · intro h2 hq
    show spec_l05All_l0 sizes (k' + 1) i = _
    rw [spec_l05All_l0, if_pos (decide_eq_true h2), if_pos ⟨h0, h2⟩, if_neg (by simpa using hq), w64_succ h0 h2 (by omega)]
  · intro h2 hq
    show spec_l05All_l0 sizes (k' + 1) i = _
    rw [spec_l05All_l0, if_pos (decide_eq_true h2), if_pos ⟨h0, h2⟩, if_pos (decide_eq_true (Classical.not_not.1 hq))]
  · show spec_l05All_l0 sizes (k' + 1) i = _
    rw [spec_l05All_l0, if_neg (by simp only [decide_eq_true_eq]; omega)]

/-! ### Numbers by degree -/
end Go.Proofs.Ytfnbhfobgimnjaa
