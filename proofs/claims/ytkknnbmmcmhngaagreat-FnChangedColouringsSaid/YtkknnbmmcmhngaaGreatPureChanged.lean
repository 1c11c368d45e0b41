/- The plain law of FnChangedColourings. No conditions beyond those that each lemma states. -/
import Derived.Test.YtkknnbmmcmhngaaGreatPureDraw22
import Derived.Test.YtkknnbmmcmhngaaGreatPureSameB22
set_option linter.unusedVariables false
set_option linter.unusedSimpArgs false
namespace Go.Proofs.YtkknnbmmcmhngaaGreat
open Go Go.RowKit Ab

/-! ### Draws -/
theorem drawPut_ok {K : Nat} (hK : 5000 ≤ K) (c : List UInt8) (hc : c.length ≤ 4096) : ∃ x l, spec_DrawPutPoint K c = some (x, l) ∧ l.length ≤ 1000 := by
  unfold spec_DrawPutPoint
  obtain ⟨s0, e0, h0⟩ := from_ok hK c hc
  obtain ⟨x, s1, e1, h1, hg⟩ := draw2 hK s0 h0
  have hp := hg.1
  have := loopI (f := fun k' i (t : Src × List Int) => spec_DrawPutPoint_l0 K (x, s1) k' i t.1 t.2) x.p 0 (fun i t => i ≤ x.p ∧ okS t.1 ∧ (t.2.length : Int) = i) (fun t => okS t.1 ∧ (t.2.length : Int) = x.p) ?_ ?_ K 0 (s1, []) (by omega) (by omega) ⟨by omega, h1, by simp⟩
  · obtain ⟨⟨s2, l⟩, e2, h2, h3⟩ := this
    simp only at e2 h2 h3
    obtain ⟨v, s3, e3, h4, _, _⟩ := next_ok s2 16 h2
    rw [e0]
    simp only [Option.bind_some, e1, e2, e3]
    by_cases hv : v = 0
    · have hl : l.length + ([0] : List Nat).length ≤ 1099511627776 := by simp; omega
      obtain ⟨y, s4, e5, _⟩ := bad_ok s3 x h4
      exact ⟨y, l ++ [0], by simp only [hv, decide_true, if_true, hl, Option.bind_some, e5], by simp; omega⟩
    · by_cases hv1 : v = 1
      · have h10 : ¬ ((1 : Int) = 0) := by omega
        obtain ⟨u, s4, e4, h5, _⟩ := pick_ok s3 [-1, x.k] h4 (by simp)
        obtain ⟨y, s5, e5, _⟩ := bad_ok s4 x h5
        have hl0 : (0 : Int) < (l.length : Int) := by omega
        exact ⟨y, l.set 0 u, by simp only [hv1, h10, decide_true, decide_false, Bool.false_eq_true, if_false, if_true, e4, Option.bind_some, hl0, Int.le_refl, and_self, e5]; rfl, by simp; omega⟩
      · obtain ⟨y, s5, e5, _⟩ := bad_ok s3 x h4
        exact ⟨y, l, by simp only [hv, hv1, decide_false, Bool.false_eq_true, if_false, Option.bind_some, e5], by omega⟩
  · rintro k' i ⟨t, l⟩ g0 g1 ⟨_, q1, q2⟩
    left
    obtain ⟨v, t', e, ht, _, _⟩ := next_ok t x.k q1
    simp only at q2
    have hl : l.length + ([v]).length ≤ 1099511627776 := by simp; omega
    refine ⟨(t', l ++ [v]), ?_, by omega, ht, by simp; omega⟩
    show spec_DrawPutPoint_l0 K (x, s1) (k' + 1) i t l = _
    rw [spec_DrawPutPoint_l0, w64_succ g0 g1 (by omega)]
    simp only [e, g1, decide_true, if_true, Option.bind_some, hl]
  · rintro k' i ⟨t, l⟩ g0 g1 ⟨q0, q1, q2⟩
    simp only at q2
    refine ⟨(t, l), ?_, q1, by simp only; omega⟩
    show spec_DrawPutPoint_l0 K (x, s1) (k' + 1) i t l = _
    rw [spec_DrawPutPoint_l0]
    have : ¬ i < x.p := by omega
    simp [this]
/-- An order drawn and perhaps spoilt. -/
theorem spoilt_ok {K : Nat} (hK : 5000 ≤ K) (s : Src) (h : okS s) (n w : Int) (hn : 1 ≤ n ∧ n ≤ 17) : ∃ (l : List Int) (s' : Src), (spec_l01DrawOrder K s n).bind (fun r3 => ((spec_l01Next r3.2 16).bind fun r4 => (if decide (r4.1 = 0) then (if r3.1.length + ([0]).length ≤ 1099511627776 then some (r4.2, (r3.1 ++ ([0]))) else none) else (if decide (r4.1 = 1) then (if 0 ≤ w64 ((r3.1.length : Int) - 1) ∧ w64 ((r3.1.length : Int) - 1) < (r3.1.length : Int) then (spec_l01Pick r4.2 ([(-1), w, (r3.1.getD (w64 ((r3.1.length : Int) - 1)).toNat 0)])).bind fun r9 => (if 0 ≤ (0 : Int) ∧ (0 : Int) < (r3.1.length : Int) then some (r9.2, r3.1.set (0 : Int).toNat r9.1) else none) else none) else some (r4.2, r3.1))) : Option (Src × List Int))) = some (s', l) ∧ okS s' ∧ l.length ≤ 1000 := by
  obtain ⟨m, rfl⟩ := nat_of (show 0 ≤ n by omega)
  obtain ⟨l, s1, e1, h1, ho⟩ := order_ok hK s m h (by omega)
  have hlen := ho.1
  obtain ⟨v, s2, e2, h2, _, _⟩ := next_ok s1 16 h1
  rw [e1]
  simp only [Option.bind_some, e2]
  by_cases hv : v = 0
  · have hl : l.length + ([0] : List Nat).length ≤ 1099511627776 := by simp; omega
    exact ⟨l ++ [0], s2, by simp only [hv, decide_true, if_true, hl], h2, by simp; omega⟩
  · by_cases hv1 : v = 1
    · have h10 : ¬ ((1 : Int) = 0) := by omega
      have hw : w64 ((l.length : Int) - 1) = (l.length : Int) - 1 := w64_id (by omega)
      obtain ⟨u, s3, e3, h3, _⟩ := pick_ok s2 [-1, w, l.getD ((l.length : Int) - 1).toNat 0] h2 (by simp)
      have hl0 : (0 : Int) < (l.length : Int) := by omega
      have c1 : 0 ≤ (l.length : Int) - 1 := by omega
      have c2 : (l.length : Int) - 1 < (l.length : Int) := by omega
      exact ⟨l.set 0 u, s3, by simp only [hv1, h10, hw, c1, c2, decide_true, decide_false, Bool.false_eq_true, if_false, if_true, e3, Option.bind_some, hl0, Int.le_refl, and_self]; rfl, h3, by simp; omega⟩
    · exact ⟨l, s2, by simp only [hv, hv1, decide_false, Bool.false_eq_true, if_false], h2, by omega⟩
theorem drawRen_ok {K : Nat} (hK : 5000 ≤ K) (c : List UInt8) (hc : c.length ≤ 4096) : ∃ x l, spec_DrawRenumberPoints K c = some (x, l) ∧ l.length ≤ 1000 := by
  unfold spec_DrawRenumberPoints
  obtain ⟨s0, e0, h0⟩ := from_ok hK c hc
  obtain ⟨x, s1, e1, h1, hg⟩ := draw2 hK s0 h0
  obtain ⟨l, s2, e2, h2, h3⟩ := spoilt_ok hK s1 h1 x.p x.p hg.1
  obtain ⟨y, s3, e3, _⟩ := bad_ok s2 x h2
  rw [e0]
  simp only [Option.bind_some, e1]
  cases e4 : spec_l01DrawOrder K s1 x.p with
  | none => rw [e4] at e2; cases e2
  | some r =>
    rw [e4] at e2
    simp only [Option.bind_some] at e2 ⊢
    rw [e2]
    exact ⟨y, l, by simp only [Option.bind_some, e3], h3⟩
theorem drawExch_ok {K : Nat} (hK : 5000 ≤ K) (c : List UInt8) (hc : c.length ≤ 4096) : ∃ x l, spec_DrawExchangeColours K c = some (x, l) ∧ l.length ≤ 1000 := by
  unfold spec_DrawExchangeColours
  obtain ⟨s0, e0, h0⟩ := from_ok hK c hc
  obtain ⟨x, s1, e1, h1, hg⟩ := draw2 hK s0 h0
  have hkk := hg.2
  obtain ⟨l, s2, e2, h2, h3⟩ := spoilt_ok hK s1 h1 x.k x.k (by omega)
  obtain ⟨y, s3, e3, _⟩ := bad_ok s2 x h2
  rw [e0]
  simp only [Option.bind_some, e1]
  cases e4 : spec_l01DrawOrder K s1 x.k with
  | none => rw [e4] at e2; cases e2
  | some r =>
    rw [e4] at e2
    simp only [Option.bind_some] at e2 ⊢
    rw [e2]
    exact ⟨y, l, by simp only [Option.bind_some, e3], h3⟩
theorem drawJoin_ok {K : Nat} (hK : 5000 ≤ K) (c : List UInt8) (hc : c.length ≤ 4096) : ∃ r, spec_DrawJoinColours K c = some r := by
  unfold spec_DrawJoinColours
  obtain ⟨s0, e0, h0⟩ := from_ok hK c hc
  obtain ⟨x, s1, e1, h1, hg⟩ := draw2 hK s0 h0
  obtain ⟨a, s2, e2, h2⟩ := near_ok s1 (if w64 (x.k - 2) < 0 then 0 else w64 (x.k - 2)) h1
  obtain ⟨b, s3, e3, h3⟩ := near_ok s2 (w64 (x.k - 1)) h2
  obtain ⟨v, s4, e4, h4, _, _⟩ := next_ok s3 2 h3
  obtain ⟨y, s5, e5, _⟩ := bad_ok s4 x h4
  rw [e0]
  simp only [Option.bind_some, e1, e2, e3, e4]
  by_cases hv : v = 0
  · exact ⟨(y, a, w64 (x.k - 1)), by simp only [hv, decide_true, if_true, Option.bind_some, e5]⟩
  · exact ⟨(y, a, b), by simp only [hv, decide_false, Bool.false_eq_true, if_false, Option.bind_some, e5]⟩
theorem drawPart_ok {K : Nat} (hK : 5000 ≤ K) (c : List UInt8) (hc : c.length ≤ 4096) : ∃ x l, spec_DrawPartOn K c = some (x, l) ∧ l.length ≤ 1000 := by
  unfold spec_DrawPartOn
  obtain ⟨s0, e0, h0⟩ := from_ok hK c hc
  obtain ⟨x, s1, e1, h1, hg⟩ := draw2 hK s0 h0
  obtain ⟨l, s2, e2, h2, h3⟩ := drawSet_ok hK s1 x.p h1 hg.1
  obtain ⟨y, s3, e3, _⟩ := bad_ok s2 x h2
  rw [e0]
  simp only [Option.bind_some, e1, e2, e3]
  exact ⟨y, l, rfl, by omega⟩
theorem drawTake_ok {K : Nat} (hK : 5000 ≤ K) (c : List UInt8) (hc : c.length ≤ 4096) : ∃ x v, spec_DrawTakePoint K c = some (x, v) := by
  unfold spec_DrawTakePoint spec_l01Given2
  obtain ⟨s0, e0, h0⟩ := from_ok hK c hc
  obtain ⟨x, s1, e1, h1, hg⟩ := draw2 hK s0 h0
  obtain ⟨a, s2, e2, h2⟩ := near_ok s1 (w64 (x.p - 1)) h1
  obtain ⟨b, s3, e3, h3⟩ := near_ok s2 (w64 (x.p - 1)) h2
  obtain ⟨d, s4, e4, h4⟩ := near_ok s3 (w64 (x.k - 1)) h3
  obtain ⟨y, s5, e5, _⟩ := bad_ok s4 x h4
  rw [e0]
  simp only [Option.bind_some, e1, e2, e3, e4, e5]
  exact ⟨_, _, rfl⟩
theorem drawName_ok {K : Nat} (hK : 5000 ≤ K) (c : List UInt8) (hc : c.length ≤ 4096) : ∃ r, spec_DrawNamedColouring K c = some r := by
  unfold spec_DrawNamedColouring
  obtain ⟨s0, e0, h0⟩ := from_ok hK c hc
  have h8 : (((spec_l01Names) ++ ([(⟨#[]⟩ : ByteArray), (⟨#[69, 105, 103, 104, 116]⟩ : ByteArray), (⟨#[102, 105, 118, 101]⟩ : ByteArray)])).length : Int) = 8 := rfl
  have h3 : (spec_l01Names).length + ([(⟨#[]⟩ : ByteArray), (⟨#[69, 105, 103, 104, 116]⟩ : ByteArray), (⟨#[102, 105, 118, 101]⟩ : ByteArray)]).length ≤ 1099511627776 := by decide
  obtain ⟨v, s1, e1, h1, hv, _⟩ := next_ok s0 8 h0
  have hv' := hv (by omega)
  rw [e0]
  simp only [Option.bind_some]
  rw [if_pos h3, h8, e1]
  simp only [Option.bind_some, hv', and_self, if_true]
  exact ⟨_, rfl⟩

/-! ### The law's four parts -/
theorem ir_mapL (n : Nat) : mapL n (fun i => (i : Int)) = ir 0 n := by
  unfold mapL ir
  rw [Nat.sub_zero, List.range_eq_range']
  rfl
theorem partOn_val {k : Nat} (hk : 5000 ≤ k) {x : Col} (hx : x.is) {l : List Int} (h1 : inP x l) (h2 : inc l) (h3 : 1 ≤ l.length) (hl : l.length ≤ 1000) : impl_PartOn k x l = some (partC x l, 0) := by
  classical
  have hc : impl_PartOn_c1 k x l = some true := by
    unfold impl_PartOn_c1
    rw [isSet_eq k x hx l (by omega) (by omega), decide_eq_true ⟨h1, h2⟩, decide_eq_true (show (0 : Int) < (l.length : Int) by omega)]
    rfl
  unfold impl_PartOn
  rw [hc, ((code_cases hk x).1 hx).1]
  simp only [decide_true, Bool.not_true, Bool.false_eq_true, if_false, Option.bind_some, part_val hx.1 (okL_of hx.1 h1 h2) (show 19 ≤ k by omega)]
theorem st1 {k : Nat} (hk : 5000 ≤ k) (x : Col) (l : List Int) (hl : l.length ≤ 1000) : ∃ z c, impl_PutPoint k x l = some (z, c) ∧ spec_PutPoint k x l = some (z, c) ∧ (c = 0 → impl_TakePoint k z x.p = some (x, 0) ∧ ∃ L, laws_FnChangedColourings_l0 (x, l) k 0 [] = some L ∧ impl_PartOn k z L = some (x, 0)) := by
  rcases put_same hk x l hl with ⟨z, c, hc, e1, e2⟩ | ⟨hx, hp, hlen, hr, e1, e2⟩
  · exact ⟨z, c, e1, e2, fun h => absurd h hc⟩
  · refine ⟨_, _, e1, e2, fun _ => ⟨take_back hx hp hlen hr hk, ir 0 x.p.toNat, ?_, ?_⟩⟩
    · have hp1 := hx.1
      rw [← ir_mapL]
      refine collect (fun k' i s => laws_FnChangedColourings_l0 (x, l) k' i s) x.p.toNat (fun i => (i : Int)) (fun k' i s hi hs => ?_) (fun k' s => ?_) k (by omega)
      · show laws_FnChangedColourings_l0 (x, l) (k' + 1) i s = laws_FnChangedColourings_l0 (x, l) k' ((i + 1 : Nat) : Int) _
        have h1 : (i : Int) < x.p := by omega
        have hl : s.length + ([(i : Int)]).length ≤ 1099511627776 := by simp; omega
        rw [laws_FnChangedColourings_l0, w64_id (n := (i : Int) + 1) (by omega)]
        simp only [h1, hl, decide_true, if_true]
        rfl
      · show laws_FnChangedColourings_l0 (x, l) (k' + 1) (x.p.toNat : Nat) s = _
        rw [laws_FnChangedColourings_l0]
        simp only
        rw [decide_eq_false (show ¬ ((x.p.toNat : Nat) : Int) < x.p by omega)]
        rfl
    · have hp1 := hx.1
      have hpi := put_is hx hp hlen hr
      have hlen2 : (ir 0 x.p.toNat).length = x.p.toNat := by rw [ir_length]; omega
      have e : partC (putC x l) (ir 0 x.p.toNat) = x := put_part hx hp
      have := partOn_val hk hpi (l := ir 0 x.p.toNat) (fun i h0 h1 => by
        have := ir_get x.p.toNat i.toNat (by omega)
        unfold li
        rw [this]
        show 0 ≤ _ ∧ _ ≤ ((x.p.toNat + 1 : Nat) : Int) - 1
        omega) (fun i h0 h1 => by
        unfold li
        rw [ir_get _ (i - 1).toNat (by omega), ir_get _ i.toNat (by omega)]
        omega) (by omega) (by omega)
      rw [this, e]
theorem back_loop {k : Nat} (hk : 5000 ≤ k) (x : Col) (l : List Int) (n : Nat) (hn : n ≤ 1000) (ho : isOrd l n) : ∃ bk, laws_FnChangedColourings_l1 (x, l) k 0 (List.replicate (l.length : Int).toNat 0) = some bk ∧ isOrd bk n ∧ ∀ i : Nat, i < n → bk.getD (l.getD i 0).toNat 0 = i := by
  have hlen := ho.1
  have := loopI (f := fun k' i (s : List Int) => laws_FnChangedColourings_l1 (x, l) k' i s) (n : Int) 0 (fun i s => i ≤ n ∧ s.length = n ∧ ∀ a : Nat, (a : Int) < i → s.getD (l.getD a 0).toNat 0 = a) (fun r => r.length = n ∧ ∀ a : Nat, a < n → r.getD (l.getD a 0).toNat 0 = a) ?_ ?_ k 0 (List.replicate (l.length : Int).toNat 0) (by omega) (by omega) ⟨by omega, by simp; omega, fun a h => by omega⟩
  · obtain ⟨bk, e, h1, h2⟩ := this
    refine ⟨bk, e, ⟨by omega, fun v hv => ?_, fun u v huv hv => ?_⟩, h2⟩
    · obtain ⟨i, hi, ei⟩ := ord_surj ho (show v < n by omega)
      have := h2 i hi
      rw [ei, Int.toNat_natCast] at this
      rw [this]; omega
    · obtain ⟨i, hi, ei⟩ := ord_surj ho (show u < n by omega)
      obtain ⟨j, hj, ej⟩ := ord_surj ho (show v < n by omega)
      have q1 := h2 i hi
      have q2 := h2 j hj
      rw [ei, Int.toNat_natCast] at q1
      rw [ej, Int.toNat_natCast] at q2
      rw [q1, q2]
      intro e
      have : i = j := by omega
      subst this
      omega
  · intro k' i s h0 h1 ⟨_, q1, q2⟩
    left
    obtain ⟨m, rfl⟩ := nat_of h0
    obtain ⟨u, eu, hu⟩ := ord_at ho (show m < n by omega)
    refine ⟨s.set u m, ?_, by omega, by rw [List.length_set]; exact q1, fun a ha => ?_⟩
    · show laws_FnChangedColourings_l1 (x, l) (k' + 1) m s = _
      have c1 : (m : Int) < (l.length : Int) := by omega
      have c2 : (u : Int) < (s.length : Int) := by omega
      rw [laws_FnChangedColourings_l1, w64_succ h0 h1 (by omega)]
      simp only [Int.toNat_natCast, eu, c1, c2, decide_true, if_true, Int.natCast_nonneg, and_self]
    · obtain ⟨v, ev, hv⟩ := ord_at ho (show a < n by omega)
      rw [ev, Int.toNat_natCast, List.getD_eq_getElem?_getD, List.getElem?_set]
      by_cases e : u = v
      · rw [if_pos e, if_pos (by omega)]
        have := ord_ne ho (show a < n by omega) (show m < n by omega) (by rw [ev, eu, e])
        simp [this]
      · rw [if_neg e]
        have ham : (a : Int) < (m : Int) := by
          have : a ≠ m := fun q => by subst q; rw [ev] at eu; omega
          omega
        have := q2 a ham
        rw [ev, Int.toNat_natCast, List.getD_eq_getElem?_getD] at this
        exact this
  · intro k' i s h0 h1 ⟨q0, q1, q2⟩
    have : i = n := by omega
    subst this
    refine ⟨s, ?_, q1, fun a ha => q2 a (by omega)⟩
    show laws_FnChangedColourings_l1 (x, l) (k' + 1) (n : Int) s = _
    rw [laws_FnChangedColourings_l1]
    simp only
    rw [decide_eq_false (show ¬ (n : Int) < (l.length : Int) by omega)]
    rfl
theorem st2 {k : Nat} (hk : 5000 ≤ k) (x : Col) (l : List Int) (hl : l.length ≤ 1000) : ∃ z c, impl_RenumberPoints k x l = some (z, c) ∧ spec_RenumberPoints k x l = some (z, c) ∧ (c = 0 → ∃ bk, laws_FnChangedColourings_l1 (x, l) k 0 (List.replicate (l.length : Int).toNat 0) = some bk ∧ impl_RenumberPoints k z bk = some (x, 0)) := by
  rcases renum_same hk x l hl with ⟨z, c, hc, e1, e2⟩ | ⟨hx, ho, e1, e2⟩
  · exact ⟨z, c, e1, e2, fun h => absurd h hc⟩
  · classical
    have hp := hx.1
    have hn := (toN hp).symm
    have ho' := ho
    rw [hn] at ho'
    obtain ⟨bk, e3, hb, hlb⟩ := back_loop hk x l x.p.toNat (by omega) ho'
    refine ⟨_, _, e1, e2, fun _ => ⟨bk, e3, ?_⟩⟩
    rw [← hn] at hb
    have hy := ren_is hx ho
    have hyp : (ren x l).p = x.p := (ren_RI hp ho).p
    have hb' : isOrd bk (ren x l).p := by rw [hyp]; exact hb
    have hlen := hb.1
    have hc : impl_RenumberPoints_c1 k bk (ren x l) = some true := by
      unfold impl_RenumberPoints_c1
      rw [implOrder_eq k bk _ (by omega) (by omega), decide_eq_true hb']
      rfl
    unfold impl_RenumberPoints
    rw [hc, ((code_cases hk (ren x l)).1 hy).1]
    simp only [decide_true, Bool.not_true, Bool.false_eq_true, if_false, Option.bind_some]
    rw [implRen_eq _ bk hy.1 hb' k (by omega), ren_back hx ho hb (fun i hi => hlb i (by omega))]
    rfl
theorem st3 {k : Nat} (hk : 5000 ≤ k) (x : Col) (l : List Int) (hl : l.length ≤ 1000) : ∃ z c, impl_ExchangeColours k x l = some (z, c) ∧ spec_ExchangeColours k x l = some (z, c) ∧ (c = 0 → ∃ a b : List Int, a.length = l.length ∧ b.length = l.length ∧ impl_CountEdges k x = some (some a, 0) ∧ impl_CountEdges k z = some (some b, 0) ∧ laws_FnChangedColourings_l2 (x, l) (some a, 0) (some b, 0) k 0 = some (.inl ())) := by
  rcases exch_same hk x l hl with ⟨z, c, hc, e1, e2⟩ | ⟨hx, ho, e1, e2⟩
  · exact ⟨z, c, e1, e2, fun h => absurd h hc⟩
  · have hkk := hx.2.1
    have hlen := ho.1
    refine ⟨_, _, e1, e2, fun _ => ⟨_, _, ?_, ?_, counts_code hk hx, counts_code hk (exC_is hx ho), ?_⟩⟩
    · rw [mapL_length]; omega
    · rw [mapL_length]; show x.k.toNat = _; omega
    · have := loopI (f := fun k' i (_ : Unit) => laws_FnChangedColourings_l2 (x, l) (some (mapL x.k.toNat fun c => (cnt x c : Int)), 0) (some (mapL (exC x l).k.toNat fun c => (cnt (exC x l) c : Int)), 0) k' i) (l.length : Int) 0 (fun _ _ => True) (fun r => r = .inl ()) ?_ ?_ k 0 () (by omega) (by omega) trivial
      · obtain ⟨r, e, rfl⟩ := this; exact e
      · intro k' i _ h0 h1 _
        left
        obtain ⟨m, rfl⟩ := nat_of h0
        refine ⟨(), ?_, trivial⟩
        show laws_FnChangedColourings_l2 _ _ _ (k' + 1) (m : Int) = laws_FnChangedColourings_l2 _ _ _ k' ((m : Int) + 1)
        have hr := ho.2.1 m (by omega)
        have g1 : (mapL (exC x l).k.toNat fun c => (cnt (exC x l) c : Int)).getD (l.getD m 0).toNat 0 = (cnt x m : Int) := by
          rw [mapL_get _ _ _ (show (l.getD m 0).toNat < (exC x l).k.toNat by show _ < x.k.toNat; omega), Int.toNat_of_nonneg hr.1, exC_cnt hx ho m (by omega)]
        have g2 : (mapL x.k.toNat fun c => (cnt x c : Int)).getD m 0 = (cnt x m : Int) := mapL_get _ _ _ (by omega)
        have c1 : l.getD m 0 < ((mapL (exC x l).k.toNat fun c => (cnt (exC x l) c : Int)).length : Int) := by
          rw [mapL_length]
          show _ < ((x.k.toNat : Nat) : Int)
          omega
        have c2 : (m : Int) < ((mapL x.k.toNat fun c => (cnt x c : Int)).length : Int) := by rw [mapL_length]; omega
        rw [laws_FnChangedColourings_l2, w64_succ h0 h1 (by omega)]
        simp only [Option.getD_some, Int.toNat_natCast, h1, c1, c2, hr.1, g1, g2, decide_true, if_true, Int.natCast_nonneg, and_self, Bool.not_true, Bool.false_eq_true, if_false]
      · intro k' i _ h0 h1 _
        refine ⟨.inl (), ?_, rfl⟩
        show laws_FnChangedColourings_l2 _ _ _ (k' + 1) i = _
        rw [laws_FnChangedColourings_l2]
        simp only
        rw [decide_eq_false (show ¬ i < (l.length : Int) by omega)]
        rfl
theorem cnt_le {x : Col} (h : x.is) (c : Int) : cnt x c ≤ 136 := by
  unfold cnt
  refine Nat.le_trans (List.countP_le_length) ?_
  rw [edL_length h.1]
  exact tri_le (by have := h.1; omega)
theorem st4 {k : Nat} (hk : 5000 ≤ k) (x : Col) (c d : Int) : ∃ z e, impl_JoinColours k x c d = some (z, e) ∧ spec_JoinColours k x c d = some (z, e) ∧ (e = 0 → ∃ a b : List Int, impl_CountEdges k x = some (some a, 0) ∧ impl_CountEdges k z = some (some b, 0) ∧ w64 ((b.length : Int) + 1) = a.length ∧ (0 ≤ c ∧ c < b.length) ∧ (0 ≤ c ∧ c < a.length) ∧ (0 ≤ d ∧ d < a.length) ∧ b.getD c.toNat 0 = w64 (a.getD c.toNat 0 + a.getD d.toNat 0)) := by
  rcases join_same hk x c d with ⟨z, e, he, e1, e2⟩ | ⟨hx, hcd, e1, e2⟩
  · exact ⟨z, e, e1, e2, fun h => absurd h he⟩
  · have hkk := hx.2.1
    have hjk : (joC x c d).k = x.k - 1 := rfl
    have hj := joC_is hx hcd
    have h1 := cnt_le hx c
    have h2 := cnt_le hx d
    refine ⟨_, _, e1, e2, fun _ => ⟨_, _, counts_code hk hx, counts_code hk hj, ?_, ?_, ?_, ?_, ?_⟩⟩
    · rw [mapL_length, mapL_length, hjk, w64_id (by omega)]; omega
    · rw [mapL_length, hjk]; omega
    · rw [mapL_length]; omega
    · rw [mapL_length]; omega
    · rw [mapL_get _ _ _ (by rw [hjk]; omega), mapL_get _ _ _ (by omega), mapL_get _ _ _ (by omega), Int.toNat_of_nonneg hcd.1, Int.toNat_of_nonneg (show 0 ≤ d by omega), joC_cnt hx hcd, w64_id (by omega)]
      omega

theorem bindIf {α β : Type} {b : Bool} {t e : Option α} {f : α → Option β} {r : Option β} (v : α) (h : b = true → t = some v) (he : e = some v) (hf : f v = r) : (if b = true then t else e).bind f = r := by
  cases b with
  | true => rw [if_pos rfl, h rfl]; exact hf
  | false => rw [if_neg (by simp), he]; exact hf

theorem changed_pure (c : List UInt8) : laws_FnChangedColourings 6000 c = some true := by
  have hK : 5000 ≤ 6000 := by omega
  unfold laws_FnChangedColourings
  by_cases hb : laws_big c = true
  · rw [if_pos hb]
  rw [if_neg hb]
  have hc : c.length ≤ 4096 := by
    unfold laws_big at hb
    have : (c.length : Int) ≤ 4096 := by simpa using hb
    omega
  obtain ⟨x, l, d1, hl⟩ := drawPut_ok hK c hc
  obtain ⟨z, e, a1, a2, a3⟩ := st1 hK x l hl
  obtain ⟨x', l', d2, hl'⟩ := drawRen_ok hK c hc
  obtain ⟨z', e', b1, b2, b3⟩ := st2 hK x' l' hl'
  obtain ⟨y, q, d3, hq⟩ := drawExch_ok hK c hc
  obtain ⟨w, f, g1, g2, g3⟩ := st3 hK y q hq
  obtain ⟨⟨u, m, n⟩, d4⟩ := drawJoin_ok hK c hc
  obtain ⟨v, o, j1, j2, j3⟩ := st4 hK u m n
  obtain ⟨p, t, d5, ht⟩ := drawPart_ok hK c hc
  obtain ⟨p', t', d6⟩ := drawTake_ok hK c hc
  obtain ⟨nm, d7⟩ := drawName_ok hK c hc
  obtain ⟨r, k1, k2⟩ := named_same hK nm
  have hpart : ∃ r, impl_PartOn 6000 p t = some r ∧ spec_PartOn 6000 p t = some r := by
    rcases partOn_same hK p t ht with ⟨z, c, _, e1, e2⟩ | ⟨_, _, _, _, e1, e2⟩ <;> exact ⟨_, e1, e2⟩
  have htake : ∃ r, impl_TakePoint 6000 p' t' = some r ∧ spec_TakePoint 6000 p' t' = some r := by
    rcases take_same hK p' t' with ⟨z, c, _, e1, e2⟩ | ⟨_, _, _, e1, e2⟩ <;> exact ⟨_, e1, e2⟩
  obtain ⟨r1, m1, m2⟩ := hpart
  obtain ⟨r2, n1, n2⟩ := htake
  simp only [d1, a1, a2, Option.bind_some, letO, decide_true, Bool.not_true, eqb_refl', Bool.false_eq_true, if_false]
  refine bindIf (.inl ()) (fun h => ?_) rfl ?_
  · obtain ⟨t1, L, t2, t3⟩ := a3 (by simpa using h)
    simp only [t1, t2, t3, Option.bind_some, decide_true, Bool.not_true, eqb_refl', Bool.false_eq_true, if_false]
  simp only [d2, b1, b2, Option.bind_some, letO, decide_true, Bool.not_true, eqb_refl', Bool.false_eq_true, if_false]
  refine bindIf (.inl ()) (fun h => ?_) rfl ?_
  · obtain ⟨bk, t1, t2⟩ := b3 (by simpa using h)
    rw [if_pos (by omega)]
    simp only [t1, t2, Option.bind_some, decide_true, Bool.not_true, eqb_refl', Bool.false_eq_true, if_false]
  simp only [d3, g1, g2, Option.bind_some, letO, decide_true, Bool.not_true, eqb_refl', Bool.false_eq_true, if_false]
  refine bindIf (.inl ()) (fun h => ?_) rfl ?_
  · obtain ⟨a, b, l1, l2, t1, t2, t3⟩ := g3 (by simpa using h)
    have l1' : ((a.length : Nat) : Int) = (q.length : Int) := by omega
    have l2' : ((b.length : Nat) : Int) = (q.length : Int) := by omega
    simp only [t1, t2, t3, l1', l2', Option.getD_some, Option.bind_some, decide_true, Bool.not_true, Bool.false_eq_true, if_false]
  simp only [d4, j1, j2, Option.bind_some, letO, decide_true, Bool.not_true, eqb_refl', Bool.false_eq_true, if_false]
  refine bindIf (.inl ()) (fun h => ?_) rfl ?_
  · obtain ⟨a, b, t1, t2, w1, w2, w3, w4, w5⟩ := j3 (by simpa using h)
    simp only [t1, t2, w1, w2, w3, w4, w5, and_self, Option.getD_some, Option.bind_some, decide_true, Bool.not_true, Bool.false_eq_true, if_false, if_true]
  simp only [d5, d6, d7, m1, m2, n1, n2, k1, k2, Option.bind_some, letO, decide_true, eqb_refl', if_true]
end Go.Proofs.YtkknnbmmcmhngaaGreat
