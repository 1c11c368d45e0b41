/- Plain laws of chapter 1: points put in and taken out, parts, renumbered points, exchanged and joined colours, names: the program and the reference. No conditions beyond those that each lemma states. -/
import Derived.Test.YtkknnbmmcmhngaaGreatPureMk22
set_option linter.unusedVariables false
set_option linter.unusedSimpArgs false
namespace Go.Proofs.YtkknnbmmcmhngaaGreat
open Go Go.RowKit Ab

abbrev noC : Col := ⟨0, 0, B136.zero⟩

/-! ### Points put in -/
theorem put_same {k : Nat} (hk : 5000 ≤ k) (x : Col) (l : List Int) (hl : l.length ≤ 1000) :
    (∃ z c, c ≠ 0 ∧ impl_PutPoint k x l = some (z, c) ∧ spec_PutPoint k x l = some (z, c)) ∨
    (x.is ∧ x.p < 17 ∧ (l.length : Int) = x.p ∧ (∀ a : Nat, a < l.length → 0 ≤ l.getD a 0 ∧ l.getD a 0 < x.k) ∧ impl_PutPoint k x l = some (putC x l, 0) ∧ spec_PutPoint k x l = some (putC x l, 0)) := by
  classical
  unfold impl_PutPoint spec_PutPoint impl_Colouring_code impl_PutPoint_c1
  rw [specIs_eq k (by omega), isColouring_eq k (by omega)]
  by_cases hx : x.is
  · have hp := hx.1
    have hkk := hx.2.1
    have hall : (∀ i : Int, 0 ≤ i → i < l.length → 0 ≤ li l i ∧ li l i ≤ x.k - 1) ↔ ∀ z ∈ l, 0 ≤ z ∧ z ≤ x.k - 1 := by
      constructor
      · intro h z hz
        obtain ⟨a, ha, rfl⟩ := mem_getD.1 hz
        have := h a (by omega) (by omega)
        simpa [li] using this
      · intro h i h0 h1
        exact h _ (mem_getD.2 ⟨i.toNat, by omega, rfl⟩)
    have hS : spec_l01All k l x.k = some (decide (∀ z ∈ l, 0 ≤ z ∧ z ≤ x.k - 1)) := by
      rw [specAll_eq k l x.k (by omega) (by omega) (by omega)]
      exact congrArg some (decide_eq_decide.2 hall)
    have hA : impl_areIn k l x.p 0 (x.k - 1) = some (decide ((l.length : Int) = x.p) && decide (∀ z ∈ l, 0 ≤ z ∧ z ≤ x.k - 1)) := by
      rw [areIn_val k l x.p 0 (x.k - 1) (by omega) (by omega)]
      congr 1
      exact Bool.decide_and _ _
    rw [w64_id (n := x.k - 1) (by omega), hS, hA]
    by_cases h2 : ∀ z ∈ l, 0 ≤ z ∧ z ≤ x.k - 1
    · rw [decide_eq_true h2]
      clear hS hA
      by_cases h1 : (l.length : Int) = x.p
      · by_cases h3 : x.p = 17
        · left
          refine ⟨noC, 3, by omega, ?_, ?_⟩
          · simp [hx, h1, h3, letO]
          · simp [hx, h1, h3]
        · right
          have hlt : x.p < 17 := by omega
          refine ⟨hx, hlt, h1, fun a ha => ?_, ?_, ?_⟩
          · have := h2 _ (mem_getD.2 ⟨a, ha, rfl⟩)
            omega
          · rw [grown_val hx hlt h1 (by omega)]
            simp [hx, h3, h1, letO]
          · rw [specPut_val hx hlt h1 (by omega)]
            simp [hx, h1, h3]
      · left
        exact ⟨noC, 2, by omega, by simp [hx, h1, letO], by simp [hx, h1]⟩
    · rw [decide_eq_false h2]
      clear hS hA
      left
      refine ⟨noC, 2, by omega, by simp [hx, letO], ?_⟩
      by_cases h1 : (l.length : Int) = x.p
      · simp [hx, h1]
      · simp [hx, h1]
  · left
    exact ⟨noC, 1, by omega, by simp [hx, letO], by simp [hx]⟩

/-! ### Parts -/
theorem inc_ge {l : List Int} (h : inc l) (h0 : ∀ i : Int, 0 ≤ i → i < l.length → 0 ≤ li l i) : ∀ i : Nat, i < l.length → (i : Int) ≤ l.getD i 0 := by
  intro i
  induction i with
  | zero => intro hi; have := h0 0 (by omega) (by omega); exact this
  | succ i ih =>
    intro hi
    have h1 := ih (by omega)
    have h2 := h ((i + 1 : Nat) : Int) (by omega) (by omega)
    have e1 : (((i + 1 : Nat) : Int) - 1).toNat = i := by omega
    have e2 : (((i + 1 : Nat) : Int)).toNat = i + 1 := by omega
    unfold li at h2
    rw [e1, e2] at h2
    omega
theorem okL_of {x : Col} (hp : 1 ≤ x.p ∧ x.p ≤ 17) {l : List Int} (h1 : inP x l) (h2 : inc l) : okL x l := by
  have hr : ∀ a : Nat, a < l.length → 0 ≤ l.getD a 0 ∧ l.getD a 0 < x.p := fun a ha => by
    have := h1 a (by omega) (by omega)
    simp only [li, Int.toNat_natCast] at this
    omega
  refine ⟨?_, hr, fun a b hab hb => ?_⟩
  · rcases Nat.eq_zero_or_pos l.length with h | h
    · omega
    · have h3 := inc_ge h2 (fun i h0 hi => (h1 i h0 hi).1) (l.length - 1) (by omega)
      have h4 := hr (l.length - 1) (by omega)
      omega
  · have := inc_at h2 (i := (a : Int)) (j := (b : Int)) (by omega) (by omega) (by omega)
    simp only [li, Int.toNat_natCast] at this
    omega
theorem partOn_same {k : Nat} (hk : 5000 ≤ k) (x : Col) (l : List Int) (hl : l.length ≤ 1000) :
    (∃ z c, c ≠ 0 ∧ impl_PartOn k x l = some (z, c) ∧ spec_PartOn k x l = some (z, c)) ∨
    (x.is ∧ inP x l ∧ inc l ∧ 1 ≤ l.length ∧ impl_PartOn k x l = some (partC x l, 0) ∧ spec_PartOn k x l = some (partC x l, 0)) := by
  classical
  unfold impl_PartOn spec_PartOn impl_Colouring_code impl_PartOn_c1
  have hset := specSet_eq k x l (by omega) (by omega)
  by_cases hx : x.is
  · have hp := hx.1
    rw [isColouring_eq k (by omega), isSet_eq k x hx l (by omega) (by omega)]
    rw [if_pos hx] at hset
    by_cases h1 : inP x l ∧ inc l
    · rw [if_pos h1] at hset
      rw [hset, decide_eq_true h1]
      by_cases h2 : (l.length : Int) = 0
      · left
        exact ⟨noC, 2, by omega, by simp [hx, h2], by simp [h2, letO]⟩
      · right
        have hpos : (0 : Int) < (l.length : Int) := by omega
        have hok := okL_of hp h1.1 h1.2
        refine ⟨hx, h1.1, h1.2, by omega, ?_, ?_⟩
        · simp only [hx, hpos, decide_true, Bool.not_true, Bool.false_eq_true, if_false, if_true, Option.bind_some, part_val hp hok (show 19 ≤ k by omega)]
        · simp only [h2, letO, decide_true, decide_false, Bool.not_true, Bool.false_eq_true, if_false, if_true, Option.bind_some, specPart_val hp hok (show 1 ≤ l.length by omega) (show 19 ≤ k by omega)]
    · rw [if_neg h1] at hset
      rw [hset, decide_eq_false h1]
      left
      exact ⟨noC, 2, by omega, by simp [hx], by simp [letO]⟩
  · rw [if_neg hx] at hset
    rw [hset, isColouring_eq k (by omega)]
    left
    exact ⟨noC, 1, by omega, by simp [hx], by simp [letO]⟩
def lessL (n : Nat) (v : Int) : List Int := (ir 0 n).filter fun i => !decide (i = v)
theorem ir_get (n i : Nat) (h : i < n) : (ir 0 n).getD i 0 = (i : Int) := by
  unfold ir
  rw [List.getD_eq_getElem?_getD, List.getElem?_map, List.getElem?_range' (by omega)]
  simp
theorem ir_mem (n : Nat) (z : Int) : z ∈ ir 0 n ↔ 0 ≤ z ∧ z < n := by
  rw [mem_getD]
  constructor
  · rintro ⟨a, ha, rfl⟩
    rw [ir_length] at ha
    rw [ir_get n a (by omega)]
    omega
  · intro ⟨h0, h1⟩
    exact ⟨z.toNat, by rw [ir_length]; omega, by rw [ir_get n _ (by omega)]; omega⟩
theorem pw_okL {x : Col} {l : List Int} (hn : x.p ≤ 17) (h : l.Pairwise (· < ·)) (hr : ∀ z ∈ l, 0 ≤ z ∧ z < x.p) (hlen : l.length ≤ 17) : okL x l := by
  refine ⟨hlen, fun a ha => hr _ (mem_getD.2 ⟨a, ha, rfl⟩), fun a b hab hb => ?_⟩
  have := (List.pairwise_iff_getElem.1 h) a b (by omega) hb hab
  have e1 : l.getD a 0 = l[a] := by simp [List.getD, show a < l.length by omega]
  have e2 : l.getD b 0 = l[b] := by simp [List.getD, hb]
  omega
theorem lessL_ok {x : Col} (hp : 1 ≤ x.p ∧ x.p ≤ 17) (v : Int) : okL x (lessL x.p.toNat v) := by
  refine pw_okL hp.2 ((ir_pw 0 _).filter _) (fun z hz => ?_) ?_
  · have := (ir_mem _ z).1 (List.mem_filter.1 hz).1
    omega
  · refine Nat.le_trans (List.length_filter_le _ _) ?_
    rw [ir_length]; omega
theorem lessL_pos {n : Nat} (hn : 2 ≤ n) (v : Int) : 1 ≤ (lessL n v).length := by
  by_cases h : v = 0
  · exact List.length_pos_of_mem (List.mem_filter.2 ⟨(ir_mem n 1).2 (by omega), by simp [h]⟩)
  · exact List.length_pos_of_mem (List.mem_filter.2 ⟨(ir_mem n 0).2 (by omega), by simpa using fun e => h e.symm⟩)
theorem specTake_that (x : Col) (v : Int) : ∀ (k : Nat) (i : Int) (s : List Int), spec_l01Take_l0 x v k i s = impl_Colouring_that_l0 x (fun a0 => some (impl_TakePoint_c2 a0 v)) k i s := by
  intro k
  induction k with
  | zero => intro i s; rfl
  | succ k ih =>
    intro i s
    rw [spec_l01Take_l0, impl_Colouring_that_l0]
    simp only [Option.bind_some, impl_TakePoint_c2, ih]
theorem take_same {k : Nat} (hk : 5000 ≤ k) (x : Col) (v : Int) :
    (∃ z c, c ≠ 0 ∧ impl_TakePoint k x v = some (z, c) ∧ spec_TakePoint k x v = some (z, c)) ∨
    (x.is ∧ (0 ≤ v ∧ v < x.p) ∧ x.p ≠ 1 ∧ impl_TakePoint k x v = some (partC x (lessL x.p.toNat v), 0) ∧ spec_TakePoint k x v = some (partC x (lessL x.p.toNat v), 0)) := by
  classical
  have hg := specGiven_eq k x 0 [v] (by simp; omega) (by simp)
  by_cases hx : x.is
  · have hp := hx.1
    have hkk := hx.2.1
    have hthat := that_val (k := k) x hp (by omega) (fun a0 => some (impl_TakePoint_c2 a0 v)) (fun i => !decide (i = v)) (fun a _ => rfl)
    have hin : inP x [v] ↔ 0 ≤ v ∧ v ≤ x.p - 1 := by
      constructor
      · intro h; have := h 0 (by omega) (by simp); simpa [li] using this
      · intro h i h0 h1
        have : i = 0 := by simp at h1; omega
        subst this
        simpa [li] using h
    rw [if_pos hx] at hg
    have hc1 : impl_TakePoint_c1 x v = decide (0 ≤ v ∧ v ≤ x.p - 1) := by
      unfold impl_TakePoint_c1 impl_Colouring_has
      rw [in_eq, w64_id (by omega)]
    unfold impl_TakePoint spec_TakePoint impl_Colouring_code
    rw [hg, isColouring_eq k (by omega), hc1, decide_eq_true hx]
    by_cases h1 : 0 ≤ v ∧ v ≤ x.p - 1
    · rw [if_pos ⟨by omega, hin.2 h1⟩, decide_eq_true h1]
      by_cases h2 : x.p = 1
      · left
        exact ⟨noC, 5, by omega, by simp [letO, h2], by simp [h2]⟩
      · right
        have ht : impl_Colouring_that k x (fun a0 => some (impl_TakePoint_c2 a0 v)) = some (lessL x.p.toNat v) := hthat
        have ht' : spec_l01Take_l0 x v k 0 [] = some (lessL x.p.toNat v) := by
          rw [specTake_that]
          have := ht
          unfold impl_Colouring_that at this
          cases e : impl_Colouring_that_l0 x (fun a0 => some (impl_TakePoint_c2 a0 v)) k 0 ([] : List Int) with
          | none => rw [e] at this; cases this
          | some q => rw [e] at this; exact this
        refine ⟨hx, by omega, h2, ?_, ?_⟩
        · simp only [letO, h2, decide_true, decide_false, Bool.not_true, Bool.false_eq_true, if_false, if_true, Option.bind_some, ht, part_val hp (lessL_ok hp v) (show 19 ≤ k by omega)]
        · unfold spec_l01Take
          simp only [h2, decide_true, decide_false, Bool.not_true, Bool.false_eq_true, if_false, if_true, Option.bind_some, ht', specPart_val hp (lessL_ok hp v) (lessL_pos (show 2 ≤ x.p.toNat by omega) v) (show 19 ≤ k by omega)]
    · rw [if_neg (fun q => h1 (hin.1 q.2)), decide_eq_false h1]
      left
      exact ⟨noC, 2, by omega, by simp [letO], by simp⟩
  · rw [if_neg hx] at hg
    unfold impl_TakePoint spec_TakePoint impl_Colouring_code
    rw [hg, isColouring_eq k (by omega), decide_eq_false hx]
    left
    exact ⟨noC, 1, by omega, by simp [letO], by simp⟩

/-- A point that was put in is taken out. -/
theorem put_is {x : Col} (h : x.is) (hp : x.p < 17) {l : List Int} (hl : (l.length : Int) = x.p) (hr : ∀ a : Nat, a < l.length → 0 ≤ l.getD a 0 ∧ l.getD a 0 < x.k) : (putC x l).is := by
  have hp1 := h.1
  refine mkC_is (by omega) (by omega) h.2.1 _ fun a b hab hb => ?_
  split
  · exact hr a (by omega)
  · exact is_cc h (by omega) (by omega) (by omega)
theorem put_part {x : Col} (h : x.is) (hp : x.p < 17) {l : List Int} : partC (putC x l) (ir 0 x.p.toNat) = x := by
  have hp1 := h.1
  have hkk := h.2.1
  have e := is_mk h
  unfold partC
  rw [show (ir 0 x.p.toNat).length = x.p.toNat by rw [ir_length]; omega]
  refine Eq.trans ?_ e.symm
  show mkC x.p.toNat x.k _ = _
  refine mkC_congr (by omega) _ fun a b hab hb => ?_
  rw [ir_get _ a (by omega), ir_get _ b hb]
  have hc := is_cc h (a := a) (b := b) (by omega) (by omega) (by omega)
  have e2 : (if (b : Int) = x.p then l.getD a 0 else x.cc a b) = x.cc a b := if_neg (by omega)
  unfold putC
  rw [mkC_cc (by omega) _ _ hab (by omega) (by rw [e2]; omega), e2]
theorem less_last (n : Nat) : lessL (n + 1) n = ir 0 n := by
  have snoc : ir 0 (n + 1) = ir 0 n ++ [(n : Int)] := by
    unfold ir
    rw [show n + 1 - 0 = n + 1 by omega, List.range'_concat]
    simp
  unfold lessL
  rw [snoc, List.filter_append]
  have : (ir 0 n).filter (fun i => !decide (i = (n : Int))) = ir 0 n := List.filter_eq_self.2 fun z hz => by
    have := (ir_mem n z).1 hz
    have : ¬ z = (n : Int) := by omega
    simp [this]
  rw [this]
  simp
theorem take_back {x : Col} (h : x.is) (hp : x.p < 17) {l : List Int} (hl : (l.length : Int) = x.p) (hr : ∀ a : Nat, a < l.length → 0 ≤ l.getD a 0 ∧ l.getD a 0 < x.k) {k : Nat} (hk : 5000 ≤ k) : impl_TakePoint k (putC x l) x.p = some (x, 0) := by
  have hp1 := h.1
  have hq : (putC x l).p = x.p + 1 := by show ((x.p.toNat + 1 : Nat) : Int) = _; omega
  rcases take_same hk (putC x l) x.p with ⟨z, c, hc, e1, e2⟩ | ⟨_, _, _, e, _⟩
  · exfalso
    -- the code is 0
    have h1 := put_is h hp hl hr
    have hc1 : impl_TakePoint_c1 (putC x l) x.p = true := by
      unfold impl_TakePoint_c1 impl_Colouring_has
      rw [in_eq, hq, w64_id (by omega)]
      simp; omega
    have hthat := that_val (k := k) (putC x l) h1.1 (by omega) (fun a0 => some (impl_TakePoint_c2 a0 x.p)) (fun i => !decide (i = x.p)) (fun a _ => rfl)
    have ht : impl_Colouring_that k (putC x l) (fun a0 => some (impl_TakePoint_c2 a0 x.p)) = some (lessL (putC x l).p.toNat x.p) := hthat
    unfold impl_TakePoint at e1
    rw [hc1, ((code_cases hk (putC x l)).1 h1).1] at e1
    have hne : ¬ (putC x l).p = 1 := by omega
    simp only [letO, hne, decide_true, decide_false, Bool.not_true, Bool.false_eq_true, if_false, if_true, Option.bind_some, ht, part_val h1.1 (lessL_ok h1.1 x.p) (show 19 ≤ k by omega)] at e1
    cases e1
    exact hc rfl
  · rw [e]
    have e1 : (putC x l).p.toNat = x.p.toNat + 1 := by omega
    have e2 : x.p = (x.p.toNat : Int) := by omega
    rw [e1]
    have : lessL (x.p.toNat + 1) x.p = ir 0 x.p.toNat := by
      conv => lhs; rw [e2, Int.toNat_natCast]
      exact less_last _
    rw [this, put_part h hp]
end Go.Proofs.YtkknnbmmcmhngaaGreat
