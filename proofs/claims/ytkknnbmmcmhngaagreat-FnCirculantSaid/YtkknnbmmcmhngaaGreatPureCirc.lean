/- Plain laws of chapter 3: circular colourings, their lists and multipliers. No conditions beyond those that each lemma states. -/
import Derived.Test.YtkknnbmmcmhngaaGreatPureCore23
set_option linter.unusedVariables false
set_option linter.unusedSimpArgs false
namespace Go.Proofs.YtkknnbmmcmhngaaGreat
open Go Go.RowKit Ab

theorem implDist {n : Nat} (hn : n ≤ 17) {a b : Nat} (ha : a < n) (hb : b < n) : impl_distance n a b = (dst n a b : Int) := by
  have : ∀ n : Nat, n < 18 → ∀ a : Nat, a < n → ∀ b : Nat, b < n → impl_distance (n : Int) (a : Int) (b : Int) = (dst n a b : Int) := by decide +kernel
  exact this n (by omega) a ha b hb
theorem specDist {n : Nat} (hn : n ≤ 17) {a b : Nat} (ha : a < n) (hb : b < n) : spec_l03Distance a b n = (dst n a b : Int) := by
  have : ∀ n : Nat, n < 18 → ∀ a : Nat, a < n → ∀ b : Nat, b < n → spec_l03Distance (a : Int) (b : Int) (n : Int) = (dst n a b : Int) := by decide +kernel
  exact this n (by omega) a ha b hb
theorem halfI {n : Nat} (hn : n ≤ 100) : w64 ((n : Int).tdiv 2) = ((n / 2 : Nat) : Int) := by
  rw [Int.tdiv_eq_ediv_of_nonneg (by omega), w64_id (by omega)]
  omega

/-! ### Circular colourings -/
def cirC (n : Nat) (k : Int) (L : List Int) : Col := mkC n k (fun a b => L.getD (dst n a b - 1) 0)
theorem circularOf_val {k n : Nat} (hk : 19 ≤ k) (hn : n ≤ 17) (c : Int) {L : List Int} (hL : n / 2 ≤ L.length) : impl_circularOf k n c L = some (cirC n c L) := by
  unfold impl_circularOf
  rw [made_val (g := fun a b => L.getD (dst n a b - 1) 0) hn hk fun i j hij hj => by
    have hd := dst_range (n := n) (a := i) (b := j) (by omega) hj (by omega)
    unfold impl_circularOf_c1
    rw [implDist hn (by omega) hj, w64_id (by omega), if_pos (by omega)]
    have : (((dst n i j : Nat) : Int) - 1).toNat = dst n i j - 1 := by omega
    rw [this]]
  rfl
theorem specCircular_val {k n : Nat} (hk : 19 ≤ k) (h1 : 1 ≤ n) (hn : n ≤ 17) (c : Int) {L : List Int} (hL : n / 2 ≤ L.length) : spec_l03Circular k n c L = some (cirC n c L) := by
  unfold spec_l03Circular
  have := nest (fun k' j s => spec_l03Circular_l0 k n L k' j s) n hn (fun a b => L.getD (dst n a b - 1) 0) c
    (fun k' j s hj q1 q2 q3 => by
      obtain ⟨y, e, r⟩ := nest1 (fun K i s => spec_l03Circular_l1 n L j K i s) n hn (fun a b => L.getD (dst n a b - 1) 0) j hj c
        (fun k' i s hi _ _ => by
          have hd := dst_range (n := n) (a := i) (b := j) (by omega) hj (by omega)
          have he := edge_eq (i : Int) (j : Int) (by omega) (by omega)
          simp only [Int.toNat_natCast] at he
          have h136 := eN_136 (i := i) (j := j) (by omega) (by omega) (by omega)
          have c1 : (i : Int) < (j : Int) := by omega
          have c4 : ((eN i j : Nat) : Int) < 136 := by omega
          have c5 : (((dst n i j : Nat) : Int) - 1).toNat = dst n i j - 1 := by omega
          show spec_l03Circular_l1 n L j (k' + 1) i s = spec_l03Circular_l1 n L j k' ((i + 1 : Nat) : Int) _
          rw [spec_l03Circular_l1, he, w64_id (n := (i : Int) + 1) (by omega), specDist hn (by omega) hj, w64_id (n := ((dst n i j : Nat) : Int) - 1) (by omega), decide_eq_true c1, if_pos rfl, if_pos ⟨by omega, by omega⟩, if_pos ⟨by omega, c4⟩, Int.toNat_natCast, c5]
          rfl)
        (fun k' s => by
          show spec_l03Circular_l1 n L j (k' + 1) j s = _
          rw [spec_l03Circular_l1]; simp) j 0 k s (by omega) (by omega) q1 q2 q3
      refine ⟨y, r, ?_⟩
      have c1 : (j : Int) < (n : Int) := by omega
      show spec_l03Circular_l0 k n L (k' + 1) j s = spec_l03Circular_l0 k n L k' ((j + 1 : Nat) : Int) y
      have e' : spec_l03Circular_l1 n L j k 0 s = some y := e
      rw [spec_l03Circular_l0, e', w64_id (n := (j : Int) + 1) (by omega)]
      simp only [c1, decide_true, if_true, Option.bind_some]
      rfl)
    (fun k' s q1 => by
      show spec_l03Circular_l0 k n L (k' + 1) (n : Int) s = _
      rw [spec_l03Circular_l0]; simp) k 1 (by omega) h1 (by omega)
  have e' : spec_l03Circular_l0 k n L k 1 ⟨(n : Int), c, B136.zero⟩ = some (cirC n c L) := this
  rw [e']; rfl

/-! ### Lists of circular colourings -/
def cirL (x : Col) : List Int := mapL (x.p.toNat / 2) (fun i => x.cc 0 ((i + 1 : Nat) : Int))
theorem cirL_len (x : Col) : (cirL x).length = x.p.toNat / 2 := mapL_length _ _
theorem implList_loop {k : Nat} (hk : 20 ≤ k) {x : Col} (hp : 1 ≤ x.p ∧ x.p ≤ 17) : impl_Colouring_listOfCircular_l0 x k 1 [] = some (cirL x) := by
  have hz := (toN hp)
  have hh : w64 (x.p.tdiv 2) = ((x.p.toNat / 2 : Nat) : Int) := by rw [← hz]; exact halfI (by omega)
  have := collect (fun K i s => impl_Colouring_listOfCircular_l0 x K (i + 1) s) (x.p.toNat / 2) (fun i => x.cc 0 ((i + 1 : Nat) : Int)) (fun k' i s hi hs => by
    have hl : ∀ z : Int, s.length + ([z]).length ≤ 1099511627776 := fun z => by simp; omega
    have c1 : (i : Int) + 1 ≤ ((x.p.toNat / 2 : Nat) : Int) := by omega
    show impl_Colouring_listOfCircular_l0 x (k' + 1) ((i : Int) + 1) s = impl_Colouring_listOfCircular_l0 x k' (((i + 1 : Nat) : Int) + 1) _
    rw [impl_Colouring_listOfCircular_l0, hh, implAt_eq x 0 ((i : Int) + 1) (by omega) (by omega) (by omega) (by omega), w64_id (n := (i : Int) + 1 + 1) (by omega)]
    simp only [c1, hl, decide_true, if_true, Option.bind_some]
    rfl) (fun k' s => by
    show impl_Colouring_listOfCircular_l0 x (k' + 1) (((x.p.toNat / 2 : Nat) : Int) + 1) s = _
    rw [impl_Colouring_listOfCircular_l0, hh, decide_eq_false (by omega)]
    rfl) k (by omega)
  exact this
theorem specList_loop {k : Nat} (hk : 20 ≤ k) {x : Col} (hp : 1 ≤ x.p ∧ x.p ≤ 17) : spec_l03List_l0 x k 1 [] = some (cirL x) := by
  have hz := (toN hp)
  have hh : w64 (x.p.tdiv 2) = ((x.p.toNat / 2 : Nat) : Int) := by rw [← hz]; exact halfI (by omega)
  have := collect (fun K i s => spec_l03List_l0 x K (i + 1) s) (x.p.toNat / 2) (fun i => x.cc 0 ((i + 1 : Nat) : Int)) (fun k' i s hi hs => by
    have hl : ∀ z : Int, s.length + ([z]).length ≤ 1099511627776 := fun z => by simp; omega
    have c1 : (i : Int) + 1 ≤ ((x.p.toNat / 2 : Nat) : Int) := by omega
    show spec_l03List_l0 x (k' + 1) ((i : Int) + 1) s = spec_l03List_l0 x k' (((i + 1 : Nat) : Int) + 1) _
    rw [spec_l03List_l0, hh, specAt_eq x 0 ((i : Int) + 1) (by omega) (by omega) (by omega) (by omega), w64_id (n := (i : Int) + 1 + 1) (by omega)]
    simp only [c1, hl, decide_true, if_true, Option.bind_some]
    rfl) (fun k' s => by
    show spec_l03List_l0 x (k' + 1) (((x.p.toNat / 2 : Nat) : Int) + 1) s = _
    rw [spec_l03List_l0, hh, decide_eq_false (by omega)]
    rfl) k (by omega)
  exact this
def isCir (x : Col) : Prop := 2 ≤ x.p ∧ cirC x.p.toNat x.k (cirL x) = x
theorem listC_same {k : Nat} (hk : 5000 ≤ k) (x : Col) :
    (∃ c, c ≠ 0 ∧ impl_ListOfCircular k x = some (none, c) ∧ spec_ListOfCircular k x = some ([], c) ∧ spec_MultipliersOf k x = some ([], c)) ∨
    (x.is ∧ isCir x ∧ impl_ListOfCircular k x = some (some (cirL x), 0) ∧ spec_ListOfCircular k x = some (cirL x, 0) ∧ spec_MultipliersOf k x = (spec_MultipliersOf_l0 k x (cirL x, true) k 1 []).bind fun s => some (s, 0)) := by
  classical
  unfold impl_ListOfCircular spec_ListOfCircular spec_MultipliersOf impl_always
  rw [specIs_eq k (by omega)]
  by_cases hx : x.is
  · have hp := hx.1
    have hz := (toN hp)
    rw [((code_cases hk x).1 hx).1, decide_eq_true hx]
    unfold impl_Colouring_listOfCircular spec_l03List
    by_cases h2 : x.p < 2
    · left
      exact ⟨5, by omega, by simp [h2], by simp [h2], by simp [h2]⟩
    · rw [implList_loop (by omega) hp, specList_loop (by omega) hp, decide_eq_false h2]
      have e1 := circularOf_val (k := k) (n := x.p.toNat) (by omega) (by omega) x.k (L := cirL x) (by rw [cirL_len]; exact Nat.le_refl _)
      have e2 := specCircular_val (k := k) (n := x.p.toNat) (by omega) (by omega) (by omega) x.k (L := cirL x) (by rw [cirL_len]; exact Nat.le_refl _)
      rw [hz] at e1 e2
      simp only [e1, e2, Option.bind_some, Bool.false_eq_true, if_false, decide_true, Bool.not_true]
      by_cases hc : cirC x.p.toNat x.k (cirL x) = x
      · right
        have : (cirC x.p.toNat x.k (cirL x)).eqb x = true := (Col.eqb_iff _ _).2 hc
        rw [this]
        exact ⟨hx, ⟨by omega, hc⟩, by simp, by simp, by simp⟩
      · left
        have : (cirC x.p.toNat x.k (cirL x)).eqb x = false := by
          cases h : (cirC x.p.toNat x.k (cirL x)).eqb x with
          | false => rfl
          | true => exact absurd ((Col.eqb_iff _ _).1 h) hc
        rw [this]
        exact ⟨5, by omega, by simp, by simp, by simp⟩
  · left
    rw [((code_cases hk x).2 hx) true, decide_eq_false hx]
    exact ⟨1, by omega, by simp, by simp, by simp⟩
/-- The colours of a circular colouring. -/
theorem cir_cc {x : Col} (h : x.is) (hc : isCir x) {a b : Nat} (ha : (a : Int) < x.p) (hb : (b : Int) < x.p) (hab : a ≠ b) : x.cc a b = (cirL x).getD (dst x.p.toNat a b - 1) 0 := by
  have hp := h.1
  have hkk := h.2.1
  have key : ∀ a b : Nat, a < b → (b : Int) < x.p → x.cc a b = (cirL x).getD (dst x.p.toNat a b - 1) 0 := fun a b hab hb => by
    have hd := dst_range (n := x.p.toNat) (a := a) (b := b) (by omega) (by omega) (by omega)
    have hg : (cirL x).getD (dst x.p.toNat a b - 1) 0 = x.cc (0 : Nat) ((dst x.p.toNat a b - 1 + 1 : Nat) : Int) := mapL_get _ _ _ (by omega)
    have hr := is_cc h (a := 0) (b := dst x.p.toNat a b - 1 + 1) (by omega) (by omega) (by omega)
    have e := hc.2
    have : (cirC x.p.toNat x.k (cirL x)).cc a b = (cirL x).getD (dst x.p.toNat a b - 1) 0 := mkC_cc (by omega) _ _ hab (by omega) (by rw [hg]; omega)
    rw [e] at this
    exact this
  rcases Nat.lt_or_ge a b with r | r
  · exact key a b r hb
  · rw [cc_comm, dst_comm]
    exact key b a (by omega) ha

/-! ### Multipliers -/
theorem implGcd {k a b : Nat} (h : b < k) : impl_divisor k a b = some ((Nat.gcd a b : Nat) : Int) := by
  unfold impl_divisor
  have := gcd_step impl_divisor_l0 (fun k a => by rw [impl_divisor_l0]; simp) (fun k a b hb => by rw [impl_divisor_l0]; simp [hb]) b a k h
  rw [this]; rfl
theorem specGcd {k a b : Nat} (h : b < k) : spec_l03Gcd k a b = some ((Nat.gcd a b : Nat) : Int) := by
  unfold spec_l03Gcd
  have := gcd_step spec_l03Gcd_l0 (fun k a => by rw [spec_l03Gcd_l0]; simp) (fun k a b hb => by rw [spec_l03Gcd_l0]; simp [hb]) b a k h
  rw [this]; rfl
theorem copr_dec (t p : Nat) : decide (((Nat.gcd t p : Nat) : Int) = 1) = copr t p := by
  unfold copr
  by_cases h : Nat.gcd t p = 1
  · rw [h]; rfl
  · rw [decide_eq_false (by omega)]
    exact (beq_eq_false_iff_ne.2 h).symm
/-- Whether turning by t leaves the list's entry at d. -/
def keeps (x : Col) (t i : Nat) : Bool := decide ((cirL x).getD (dst x.p.toNat 0 (t * (i + 1) % x.p.toNat) - 1) 0 = (cirL x).getD i 0)
def isMul (x : Col) (t : Nat) : Bool := copr t x.p.toNat && (List.range (x.p.toNat / 2)).all fun i => keeps x t i
theorem turned_at {x : Col} (hp : 1 ≤ x.p ∧ x.p ≤ 17) {t i : Nat} (ht : (t : Int) < x.p) (hc : copr t x.p.toNat = true) (hi : i < x.p.toNat / 2) :
    (w64 ((t : Int) * (w64 ((i : Int) + 1)))).tmod x.p = ((t * (i + 1) % x.p.toNat : Nat) : Int) ∧ 1 ≤ dst x.p.toNat 0 (t * (i + 1) % x.p.toNat) ∧ dst x.p.toNat 0 (t * (i + 1) % x.p.toNat) ≤ x.p.toNat / 2 := by
  have hne := turn_ne x.p.toNat (by omega) t (by omega) hc (i + 1) (by omega) (by omega)
  have hlt := Nat.mod_lt (t * (i + 1)) (show x.p.toNat > 0 by omega)
  have hd := dst_range (n := x.p.toNat) (a := 0) (b := t * (i + 1) % x.p.toNat) (by omega) hlt (fun e => hne e.symm)
  refine ⟨?_, hd⟩
  have hb : t * (i + 1) ≤ 17 * 17 := Nat.mul_le_mul (by omega) (by omega)
  have e1 : (t : Int) * ((i : Int) + 1) = ((t * (i + 1) : Nat) : Int) := by rw [Int.natCast_mul, Int.natCast_add]; rfl
  rw [w64_id (n := (i : Int) + 1) (by omega), e1, w64_id (by omega), Int.tmod_eq_emod_of_nonneg (by omega)]
  conv => lhs; rw [← toN hp]
  rfl
theorem all_snoc (m : Nat) (P : Nat → Bool) : (List.range (m + 1)).all P = ((List.range m).all P && P m) := by
  rw [List.range_succ, List.all_append]; simp
theorem all_false {n m : Nat} (h : m ≤ n) (P : Nat → Bool) (e : (List.range m).all P = false) : (List.range n).all P = false := by
  cases h2 : (List.range n).all P with
  | false => rfl
  | true =>
    rw [List.all_eq_true] at h2
    have : (List.range m).all P = true := List.all_eq_true.2 fun i hi => h2 i (List.mem_range.2 (by have := List.mem_range.1 hi; omega))
    rw [e] at this
    cases this
theorem implMul_in {k : Nat} (hk : 20 ≤ k) {x : Col} (hp : 1 ≤ x.p ∧ x.p ≤ 17) {t : Nat} (ht : (t : Int) < x.p) : impl_MultipliersOf_l3 x (cirL x) t k (copr t x.p.toNat) 0 = some (isMul x t) := by
  have hlen := cirL_len x
  have := loopI (f := fun k' i (b : Bool) => impl_MultipliersOf_l3 x (cirL x) t k' b i) ((cirL x).length : Int) 0 (fun i b => i ≤ (cirL x).length ∧ b = (copr t x.p.toNat && (List.range i.toNat).all fun i => keeps x t i)) (fun r => r = isMul x t) ?_ ?_ k 0 (copr t x.p.toNat) (by omega) (by omega) ⟨by omega, by simp⟩
  · obtain ⟨r, e, rfl⟩ := this; exact e
  · intro k' i b h0 h1 ⟨_, q⟩
    left
    obtain ⟨m, rfl⟩ := nat_of h0
    have e0 : ((m : Int) + 1).toNat = m + 1 := by omega
    simp only [Int.toNat_natCast] at q
    refine ⟨b && keeps x t m, ?_, by omega, by rw [e0, all_snoc, q, Bool.and_assoc]⟩
    show impl_MultipliersOf_l3 x (cirL x) t (k' + 1) b m = _
    rw [impl_MultipliersOf_l3, w64_id (n := (m : Int) + 1) (by omega), decide_eq_true h1, if_pos rfl, if_pos ⟨h0, h1⟩]
    cases b with
    | false => rfl
    | true =>
      have hc : copr t x.p.toNat = true := by
        cases h : copr t x.p.toNat with
        | true => rfl
        | false => rw [h] at q; cases q
      obtain ⟨r1, r2, r3⟩ := turned_at hp ht hc (show m < x.p.toNat / 2 by omega)
      rw [w64_id (n := (m : Int) + 1) (by omega)] at r1
      have hlt := Nat.mod_lt (t * (m + 1)) (show x.p.toNat > 0 by omega)
      have hd := implDist (n := x.p.toNat) (by omega) (a := 0) (b := t * (m + 1) % x.p.toNat) (by omega) hlt
      rw [toN hp] at hd
      have hd' : impl_distance x.p 0 ((t * (m + 1) % x.p.toNat : Nat) : Int) = (dst x.p.toNat 0 (t * (m + 1) % x.p.toNat) : Int) := hd
      rw [if_pos rfl, if_pos (by omega), r1, hd', w64_id (n := ((dst x.p.toNat 0 (t * (m + 1) % x.p.toNat) : Nat) : Int) - 1) (by omega), if_pos (by omega)]
      have e5 : (((dst x.p.toNat 0 (t * (m + 1) % x.p.toNat) : Nat) : Int) - 1).toNat = dst x.p.toNat 0 (t * (m + 1) % x.p.toNat) - 1 := by omega
      rw [e5, Int.toNat_natCast]
      rfl
  · intro k' i b h0 h1 ⟨q1, q⟩
    have : i = (cirL x).length := by omega
    subst this
    refine ⟨b, ?_, by rw [q, Int.toNat_natCast, hlen]; rfl⟩
    show impl_MultipliersOf_l3 x (cirL x) t (k' + 1) b ((cirL x).length : Int) = _
    rw [impl_MultipliersOf_l3, decide_eq_false (by omega)]
    rfl
theorem specMul_in {k : Nat} (hk : 20 ≤ k) {x : Col} (hp : 1 ≤ x.p ∧ x.p ≤ 17) {t : Nat} (ht : (t : Int) < x.p) : spec_MultipliersOf_l1 x (cirL x, true) t k (copr t x.p.toNat) 1 = some (isMul x t) := by
  have hlen := cirL_len x
  have hh : w64 (x.p.tdiv 2) = ((x.p.toNat / 2 : Nat) : Int) := by rw [← toN hp]; exact halfI (by omega)
  have := loopI (f := fun k' i (b : Bool) => spec_MultipliersOf_l1 x (cirL x, true) t k' b i) (((x.p.toNat / 2 : Nat) : Int) + 1) 1 (fun i b => i ≤ ((x.p.toNat / 2 : Nat) : Int) + 1 ∧ b = (copr t x.p.toNat && (List.range (i - 1).toNat).all fun i => keeps x t i)) (fun r => r = isMul x t) ?_ ?_ k 1 (copr t x.p.toNat) (by omega) (by omega) ⟨by omega, by simp⟩
  · obtain ⟨r, e, rfl⟩ := this; exact e
  · intro k' i b h0 h1 ⟨_, q⟩
    obtain ⟨m, rfl⟩ : ∃ m : Nat, i = ((m + 1 : Nat) : Int) := ⟨(i - 1).toNat, by omega⟩
    have e0 : (((m + 1 : Nat) : Int) - 1).toNat = m := by omega
    have e1 : (((m + 1 : Nat) : Int) + 1 - 1).toNat = m + 1 := by omega
    rw [e0] at q
    have c1 : ((m + 1 : Nat) : Int) ≤ ((x.p.toNat / 2 : Nat) : Int) := by omega
    cases b with
    | false =>
      right
      refine ⟨false, ?_, ?_⟩
      · show spec_MultipliersOf_l1 x (cirL x, true) t (k' + 1) false ((m + 1 : Nat) : Int) = _
        rw [spec_MultipliersOf_l1, hh, decide_eq_true c1]
        rfl
      · unfold isMul
        cases hc : copr t x.p.toNat with
        | false => rfl
        | true =>
          rw [hc, Bool.true_and] at q
          rw [Bool.true_and]
          exact (all_false (show m ≤ x.p.toNat / 2 by omega) _ q.symm).symm
    | true =>
      left
      refine ⟨keeps x t m, ?_, by omega, ?_⟩
      · show spec_MultipliersOf_l1 x (cirL x, true) t (k' + 1) true ((m + 1 : Nat) : Int) = _
        have hc : copr t x.p.toNat = true := by
          cases h : copr t x.p.toNat with
          | true => rfl
          | false => rw [h] at q; cases q
        obtain ⟨r1, r2, r3⟩ := turned_at hp ht hc (show m < x.p.toNat / 2 by omega)
        rw [w64_id (n := (m : Int) + 1) (by omega)] at r1
        have r1' : (w64 ((t : Int) * ((m + 1 : Nat) : Int))).tmod x.p = ((t * (m + 1) % x.p.toNat : Nat) : Int) := r1
        have hlt := Nat.mod_lt (t * (m + 1)) (show x.p.toNat > 0 by omega)
        have hd := specDist (n := x.p.toNat) (by omega) (a := 0) (b := t * (m + 1) % x.p.toNat) (by omega) hlt
        rw [toN hp] at hd
        have hd' : spec_l03Distance 0 ((t * (m + 1) % x.p.toNat : Nat) : Int) x.p = (dst x.p.toNat 0 (t * (m + 1) % x.p.toNat) : Int) := hd
        have e5 : (((dst x.p.toNat 0 (t * (m + 1) % x.p.toNat) : Nat) : Int) - 1).toNat = dst x.p.toNat 0 (t * (m + 1) % x.p.toNat) - 1 := by omega
        have e6 : w64 (((m + 1 : Nat) : Int) - 1) = (m : Int) := by rw [w64_id (by omega)]; omega
        rw [spec_MultipliersOf_l1, hh, decide_eq_true c1, r1', hd', w64_id (n := ((dst x.p.toNat 0 (t * (m + 1) % x.p.toNat) : Nat) : Int) - 1) (by omega), e6, e5, w64_id (n := ((m + 1 : Nat) : Int) + 1) (by omega)]
        have g1 : (0 : Int) ≤ (m : Int) ∧ (m : Int) < ((cirL x).length : Int) := by omega
        have g2 : 0 ≤ ((dst x.p.toNat 0 (t * (m + 1) % x.p.toNat) : Nat) : Int) - 1 ∧ ((dst x.p.toNat 0 (t * (m + 1) % x.p.toNat) : Nat) : Int) - 1 < ((cirL x).length : Int) := by omega
        have g3 : x.p ≠ 0 := by omega
        simp only [letO, if_true, Option.bind_some, g1, g2, g3, and_self, ne_eq, not_false_eq_true, Int.toNat_natCast]
        unfold keeps
        rw [show decide ((cirL x).getD m 0 = (cirL x).getD (dst x.p.toNat 0 (t * (m + 1) % x.p.toNat) - 1) 0) = decide ((cirL x).getD (dst x.p.toNat 0 (t * (m + 1) % x.p.toNat) - 1) 0 = (cirL x).getD m 0) from decide_eq_decide.2 eq_comm]
      · rw [e1, all_snoc, ← Bool.and_assoc, ← q, Bool.true_and]
  · intro k' i b h0 h1 ⟨q1, q⟩
    have : i = ((x.p.toNat / 2 : Nat) : Int) + 1 := by omega
    subst this
    refine ⟨b, ?_, ?_⟩
    · show spec_MultipliersOf_l1 x (cirL x, true) t (k' + 1) b (((x.p.toNat / 2 : Nat) : Int) + 1) = _
      rw [spec_MultipliersOf_l1, hh, decide_eq_false (by omega)]
      rfl
    · rw [q]
      have : (((x.p.toNat / 2 : Nat) : Int) + 1 - 1).toNat = x.p.toNat / 2 := by omega
      rw [this]; rfl
def mulL (x : Col) : List Int := (ir 1 x.p.toNat).filter fun t => isMul x t.toNat
theorem ir1_snoc (j : Nat) (h : 1 ≤ j) : ir 1 (j + 1) = ir 1 j ++ [(j : Int)] := by
  unfold ir
  rw [show j + 1 - 1 = (j - 1) + 1 by omega, List.range'_concat, show 1 + 1 * (j - 1) = j by omega]
  simp
theorem mul_loop {x : Col} (hp : 1 ≤ x.p ∧ x.p ≤ 17) (F : Nat → Int → List Int → Option (List Int)) (hstep : ∀ (k' t : Nat) (s : List Int), 1 ≤ t → (t : Int) < x.p → s.length ≤ 17 → F (k' + 1) t s = F k' ((t : Int) + 1) (if isMul x t then s ++ [(t : Int)] else s)) (hfin : ∀ (k' : Nat) (s : List Int), F (k' + 1) x.p s = some s) {k : Nat} (hk : 20 ≤ k) : F k 1 [] = some (mulL x) := by
  have := loopI (f := fun k' i (s : List Int) => F k' i s) x.p 1 (fun i s => i ≤ x.p ∧ s = (ir 1 i.toNat).filter fun t => isMul x t.toNat) (fun r => r = mulL x) ?_ ?_ k 1 [] (by omega) (by omega) ⟨by omega, rfl⟩
  · obtain ⟨r, e, rfl⟩ := this; exact e
  · intro k' i s h0 h1 ⟨_, q⟩
    left
    obtain ⟨t, rfl⟩ := nat_of (show 0 ≤ i by omega)
    have hl : s.length ≤ 17 := by
      rw [q]
      exact Nat.le_trans (List.length_filter_le _ _) (by rw [ir_length]; omega)
    have e0 : ((t : Int) + 1).toNat = t + 1 := by omega
    refine ⟨_, hstep k' t s (by omega) h1 hl, by omega, ?_⟩
    rw [e0, ir1_snoc t (by omega), List.filter_append]
    simp only [Int.toNat_natCast] at q
    rw [← q]
    cases h : isMul x t with
    | true =>
      rw [if_pos rfl]
      have : [(t : Int)].filter (fun t => isMul x t.toNat) = [(t : Int)] := by simp [h]
      rw [this]
    | false =>
      rw [if_neg (by simp)]
      have : [(t : Int)].filter (fun t => isMul x t.toNat) = [] := by simp [h]
      rw [this, List.append_nil]
  · intro k' i s h0 h1 ⟨q1, q⟩
    have : i = x.p := by omega
    subst this
    exact ⟨s, hfin k' s, q⟩
theorem mul_same {k : Nat} (hk : 5000 ≤ k) {x : Col} (h : x.is) : impl_MultipliersOf_l2 k x (cirL x) k 1 [] = some (mulL x) ∧ spec_MultipliersOf_l0 k x (cirL x, true) k 1 [] = some (mulL x) := by
  have hp := h.1
  constructor
  · refine mul_loop hp (fun k' i s => impl_MultipliersOf_l2 k x (cirL x) k' i s) (fun k' t s h1 ht hs => ?_) (fun k' s => ?_) (by omega)
    · show impl_MultipliersOf_l2 k x (cirL x) (k' + 1) t s = _
      have hg := implGcd (k := k) (a := t) (b := x.p.toNat) (by omega)
      rw [toN hp] at hg
      rw [impl_MultipliersOf_l2, hg, w64_id (n := (t : Int) + 1) (by omega), decide_eq_true ht, if_pos rfl]
      simp only [Option.bind_some]
      rw [copr_dec, implMul_in (by omega) hp ht]
      simp only [Option.bind_some]
      have hl : s.length + ([(t : Int)]).length ≤ 1099511627776 := by simp; omega
      cases hm : isMul x t with
      | true => simp only [if_true, hl, Option.bind_some]
      | false => simp only [Bool.false_eq_true, if_false, Option.bind_some]
    · show impl_MultipliersOf_l2 k x (cirL x) (k' + 1) x.p s = _
      rw [impl_MultipliersOf_l2]; simp
  · refine mul_loop hp (fun k' i s => spec_MultipliersOf_l0 k x (cirL x, true) k' i s) (fun k' t s h1 ht hs => ?_) (fun k' s => ?_) (by omega)
    · show spec_MultipliersOf_l0 k x (cirL x, true) (k' + 1) t s = _
      have hg := specGcd (k := k) (a := t) (b := x.p.toNat) (by omega)
      rw [toN hp] at hg
      rw [spec_MultipliersOf_l0, hg, w64_id (n := (t : Int) + 1) (by omega), decide_eq_true ht, if_pos rfl]
      simp only [Option.bind_some]
      rw [copr_dec, specMul_in (by omega) hp ht]
      simp only [Option.bind_some]
      have hl : s.length + ([(t : Int)]).length ≤ 1099511627776 := by simp; omega
      cases hm : isMul x t with
      | true => simp only [if_true, hl, Option.bind_some]
      | false => simp only [Bool.false_eq_true, if_false, Option.bind_some]
    · show spec_MultipliersOf_l0 k x (cirL x, true) (k' + 1) x.p s = _
      rw [spec_MultipliersOf_l0]; simp
end Go.Proofs.YtkknnbmmcmhngaaGreat
