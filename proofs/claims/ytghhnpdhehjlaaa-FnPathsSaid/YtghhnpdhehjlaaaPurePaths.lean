/- The plain law of FnPaths. No conditions beyond those that each lemma states. -/
import Derived.Test.YtghhnpdhehjlaaaPureCh37
import Derived.Test.YtghhnpdhehjlaaaPureDraw37
import Derived.Test.YtghhnpdhehjlaaaGer
set_option linter.unusedVariables false
set_option linter.unusedSimpArgs false
namespace Go.Proofs.Ytghhnpdhehjlaaa
open Go Go.RowKit Ab

/-! ### The draws -/
theorem drawLP_ok {k : Nat} (hk : 5000 ≤ k) (c : List UInt8) (hc : c.length ≤ 4096) : ∃ x d, spec_DrawLongestPath k c = some (x, d) := by
  obtain ⟨s, h1, hs⟩ := from_ok hk c hc
  obtain ⟨x, d, s', h2, _⟩ := draw4_ok hk s hs
  unfold spec_DrawLongestPath spec_l04With
  rw [h1, Option.bind_some, h2]
  exact ⟨x, d, rfl⟩
theorem drawFC_ok {k : Nat} (hk : 5000 ≤ k) (c : List UInt8) (hc : c.length ≤ 4096) : ∃ x d m, spec_DrawFirstCycle k c = some (x, d, m) := by
  obtain ⟨s, h1, hs⟩ := from_ok hk c hc
  obtain ⟨x, d, s2, h2, hs2⟩ := draw4_ok hk s hs
  obtain ⟨b, s3, h3, hs3⟩ := near_ok s2 17 hs2
  obtain ⟨e, s4, h4, _⟩ := pick_ok s3 [3, 3, 4, 4, 5, 6, b] hs3 (by simp)
  unfold spec_DrawFirstCycle
  rw [h1, Option.bind_some, h2, Option.bind_some]
  simp only
  rw [h3, Option.bind_some]
  simp only
  rw [h4]
  exact ⟨x, d, e, rfl⟩
theorem drawPN_ok {k : Nat} (hk : 5000 ≤ k) (c : List UInt8) (hc : c.length ≤ 4096) : ∃ a b, spec_DrawPathNumber k c = some (a, b) := by
  obtain ⟨s, h1, hs⟩ := from_ok hk c hc
  obtain ⟨v2, s2, h2, hs2, _⟩ := next_ok s (w64 ((w64 (1000 - 2)) + 1)) hs
  obtain ⟨v3, s3, h3, hs3, _⟩ := pick_ok s2 [4, w64 ((w64 (1000 - 2)) + 1)] hs2 (by simp)
  obtain ⟨v4, s4, h4, hs4, _⟩ := next_ok s3 v3 hs3
  obtain ⟨v5, s5, h5, hs5, _⟩ := next_ok s4 24 hs4
  obtain ⟨v6, s6, h6, _⟩ := pick_ok s5 [w64 (2 - 1), w64 (1000 + 1), (-4611686018427387904)] hs5 (by simp)
  obtain ⟨v7, s7, h7, _⟩ := pick_ok s5 [w64 (2 - 1), w64 (1000 + 1), 1099511627776] hs5 (by simp)
  unfold spec_DrawPathNumber spec_l08Two
  rw [h1, Option.bind_some, h2, Option.bind_some]
  simp only
  rw [h3, Option.bind_some]
  simp only
  rw [h4, Option.bind_some]
  simp only
  rw [h5, Option.bind_some]
  simp only
  by_cases e0 : v5 = 0
  · rw [decide_eq_true e0, if_pos rfl, h6]
    exact ⟨_, _, rfl⟩
  · rw [decide_eq_false e0, if_neg (by simp)]
    by_cases e1 : v5 = 1
    · rw [decide_eq_true e1, if_pos rfl, h7]
      exact ⟨_, _, rfl⟩
    · rw [decide_eq_false e1, if_neg (by simp)]
      exact ⟨_, _, rfl⟩

/-! ### The codes -/
theorem has_colour (x : Col) (hx : x.is) (c : Int) : impl_Colouring_hasColour x c = decide (0 ≤ c ∧ c ≤ x.k - 1) := by
  have := hx.2.1
  unfold impl_Colouring_hasColour
  rw [in_eq, w64_id (by omega)]
theorem cc_ok {k : Nat} (hk : 5000 ≤ k) {x : Col} (hx : x.is) {c : Int} (hc : 0 ≤ c ∧ c ≤ x.k - 1) : impl_Colouring_colourCode k x c true = some 0 := by
  unfold impl_Colouring_colourCode impl_Colouring_colourCode_c1
  rw [has_colour x hx c, decide_eq_true hc]
  simp only [letO, if_true]
  rw [((code_cases hk x).1 hx).1]; rfl
theorem cc_bad {k : Nat} (hk : 5000 ≤ k) {x : Col} (hx : x.is) {c : Int} {r : Bool} (h : ¬ (0 ≤ c ∧ c ≤ x.k - 1) ∨ r = false) : impl_Colouring_colourCode k x c r = some 2 := by
  unfold impl_Colouring_colourCode impl_Colouring_colourCode_c1
  rw [has_colour x hx c]
  have : (letO (if decide (0 ≤ c ∧ c ≤ x.k - 1) = true then r else false) fun (s3 : Bool) => s3) = false := by
    rcases h with h | rfl
    · rw [decide_eq_false h]; rfl
    · cases decide (0 ≤ c ∧ c ≤ x.k - 1) <;> rfl
  rw [this, ((code_cases hk x).1 hx).2]; rfl
theorem cc_inv {k : Nat} (hk : 5000 ≤ k) {x : Col} (hx : ¬ x.is) (c : Int) (r : Bool) : impl_Colouring_colourCode k x c r = some 1 := by
  unfold impl_Colouring_colourCode
  rw [(code_cases hk x).2 hx]; rfl
/-- .. of a colouring, a colour and something else that is to be right, before the limit. -/
noncomputable def cdr (x : Col) (c : Int) (r : Prop) : Int := open Classical in if x.is then (if (0 ≤ c ∧ c ≤ x.k - 1) ∧ r then 0 else 2) else 1
noncomputable def fcr (x : Col) (c : Int) (r : Prop) : Int := if cdr x c r = 0 then (if 11 < x.p then 3 else 0) else cdr x c r
theorem cdr_zero {x : Col} {c : Int} {r : Prop} (h : cdr x c r = 0) : x.is ∧ (0 ≤ c ∧ c ≤ x.k - 1) ∧ r := by
  unfold cdr at h
  split at h
  · rename_i hx
    split at h
    · rename_i hc; exact ⟨hx, hc.1, hc.2⟩
    · cases h
  · cases h
theorem fcr_zero {x : Col} {c : Int} {r : Prop} (h : fcr x c r = 0) : x.is ∧ (0 ≤ c ∧ c ≤ x.k - 1) ∧ r ∧ x.p ≤ 11 := by
  unfold fcr at h
  split at h
  · rename_i h0
    obtain ⟨h1, h2, h3⟩ := cdr_zero h0
    split at h
    · cases h
    · exact ⟨h1, h2, h3, by omega⟩
  · rename_i h0; exact absurd h h0
theorem fcr_ok {x : Col} {c : Int} {r : Prop} (hx : x.is) (hc : 0 ≤ c ∧ c ≤ x.k - 1) (hr : r) (hp : x.p ≤ 11) : fcr x c r = 0 := by
  have h0 : cdr x c r = 0 := by unfold cdr; rw [if_pos hx, if_pos ⟨hc, hr⟩]
  unfold fcr
  rw [if_pos h0, if_neg (by omega)]
theorem impl_cd {k : Nat} (hk : 5000 ≤ k) (x : Col) (c : Int) (r : Prop) [Decidable r] : impl_Colouring_colourCode k x c (decide r) = some (cdr x c r) := by
  classical
  unfold cdr
  by_cases hx : x.is
  · rw [if_pos hx]
    by_cases hr : r
    · rw [decide_eq_true hr]
      by_cases hc : 0 ≤ c ∧ c ≤ x.k - 1
      · rw [if_pos ⟨hc, hr⟩, cc_ok hk hx hc]
      · rw [if_neg (fun h => hc h.1), cc_bad hk hx (.inl hc)]
    · rw [decide_eq_false hr, if_neg (fun h => hr h.2), cc_bad hk hx (.inr rfl)]
  · rw [if_neg hx, cc_inv hk hx]
theorem impl_pc {k : Nat} (hk : 5000 ≤ k) (x : Col) (c : Int) (r : Prop) [Decidable r] : impl_Colouring_patternCode k x c (decide r) = some (fcr x c r) := by
  unfold impl_Colouring_patternCode fcr
  rw [impl_cd hk, Option.bind_some]
  by_cases h0 : cdr x c r = 0
  · rw [if_pos h0, decide_eq_true h0]
    by_cases h1 : 11 < x.p
    · simp [letO, h1]
    · simp [letO, h1, h0]
  · rw [if_neg h0, decide_eq_false h0]
    simp [letO]
theorem spec_cd {k : Nat} (hk : 5000 ≤ k) (x : Col) (c : Int) : spec_l01Given k x c [] = some (cdr x c True) := by
  classical
  obtain ⟨g1, g2, g3⟩ := given_cases hk x c
  unfold cdr
  by_cases hx : x.is
  · rw [if_pos hx]
    by_cases hc : 0 ≤ c ∧ c ≤ x.k - 1
    · rw [if_pos ⟨hc, trivial⟩, g1 hx hc]
    · rw [if_neg (fun h => hc h.1), g2 hx hc]
  · rw [if_neg hx, g3 hx]
theorem spec_pc {k : Nat} (hk : 5000 ≤ k) (x : Col) (c : Int) : spec_l04Code k x c true = some (fcr x c True) := by
  unfold spec_l04Code fcr
  rw [spec_cd hk, Option.bind_some]
  by_cases h0 : cdr x c True = 0
  · rw [if_pos h0, decide_eq_true h0]
    by_cases h1 : 11 < x.p
    · simp [letO, h1]
    · simp [letO, h1, h0]
  · rw [if_neg h0, decide_eq_false h0]
    simp [letO]

/-! ### Longest paths -/
noncomputable def lpR (x : Col) (c : Int) : Option (List Int) × Int := if fcr x c True = 0 then (some (lp (aB x c) x.p.toNat), 0) else (none, fcr x c True)
theorem lp_impl {k : Nat} (hk : 200000 ≤ k) (x : Col) (c : Int) : impl_LongestPath k x c = some (lpR x c) := by
  unfold impl_LongestPath lpR
  have e := impl_pc (k := k) (by omega) x c True
  rw [show decide True = true from rfl] at e
  rw [e, Option.bind_some]
  by_cases h : fcr x c True = 0
  · obtain ⟨hx, _, _, hp⟩ := fcr_zero h
    rw [decide_eq_true h, if_neg (by simp), if_pos h, path_val ⟨hx.1.1, hp⟩ (by omega)]; rfl
  · rw [decide_eq_false h, if_pos (by simp), if_neg h]
theorem lp_spec {k : Nat} (hk : 200000 ≤ k) (x : Col) (c : Int) : spec_LongestPath k x c = some ((lpR x c).1.getD [], (lpR x c).2) := by
  unfold spec_LongestPath lpR
  rw [spec_pc (by omega), Option.bind_some]
  by_cases h : fcr x c True = 0
  · obtain ⟨hx, _, _, hp⟩ := fcr_zero h
    rw [decide_eq_true h, if_neg (by simp), if_pos h, spath_val ⟨hx.1.1, hp⟩ hk]; rfl
  · rw [decide_eq_false h, if_pos (by simp), if_neg h]; rfl

/-! ### The lengths of cycles -/
def cyL (x : Col) (c : Int) : List Int := (ir 3 (x.p.toNat + 1)).filter fun m => (fcyc (aB x c) x.p.toNat m.toNat).isSome
noncomputable def clR (x : Col) (c : Int) : Option (List Int) × Int := if fcr x c True = 0 then (some (cyL x c), 0) else (none, fcr x c True)
theorem cl_loop {k : Nat} (hk : 200000 ≤ k) {x : Col} (hp : 1 ≤ x.p ∧ x.p ≤ 11) (c : Int) : impl_CycleLengths_l0 k x c k 3 ([] : List Int) = some (cyL x c) := by
  obtain ⟨r, h1, rfl⟩ := loopI (fun k' m (L : List Int) => impl_CycleLengths_l0 k x c k' m L) (x.p + 1) 3
    (fun m L => ∃ mn : Nat, m = mn ∧ 3 ≤ mn ∧ L ++ ((ir mn (x.p.toNat + 1)).filter fun m => (fcyc (aB x c) x.p.toNat m.toNat).isSome) = cyL x c ∧ L.length ≤ mn)
    (fun r => r = cyL x c)
    (fun k' m L h0 h1 hI => by
      obtain ⟨mn, rfl, hm3, hL, hlen⟩ := hI
      left
      have hmn : mn < x.p.toNat + 1 := by omega
      have hwm : w64 ((mn : Int) + 1) = ((mn : Int) + 1) := w64_id (by omega)
      rw [ir_next hmn, List.filter_cons, Int.toNat_natCast] at hL
      rw [impl_CycleLengths_l0, decide_eq_true (show (mn : Int) ≤ x.p by omega), if_pos rfl, firstCycle_val hp (by omega) (by omega), hwm, Option.bind_some]
      cases hc : fcyc (aB x c) x.p.toNat mn with
      | none =>
        rw [hc] at hL
        exact ⟨L, by simp, mn + 1, by omega, by omega, by simpa using hL, by omega⟩
      | some z =>
        rw [hc] at hL
        simp only
        rw [if_pos (by simp; omega)]
        exact ⟨L ++ [(mn : Int)], rfl, mn + 1, by omega, by omega, by simpa using hL, by simp; omega⟩)
    (fun k' m L h0 h1 hI => by
      obtain ⟨mn, rfl, hm3, hL, hlen⟩ := hI
      rw [impl_CycleLengths_l0, decide_eq_false (by omega), if_neg (by simp)]
      rw [ir_end (by omega), List.filter_nil, List.append_nil] at hL
      exact ⟨_, rfl, hL⟩)
    k 3 [] (by omega) (by omega) ⟨3, rfl, by omega, by simp [cyL], by simp⟩
  exact h1
theorem cl_impl {k : Nat} (hk : 200000 ≤ k) (x : Col) (c : Int) : impl_CycleLengths k x c = some (clR x c) := by
  unfold impl_CycleLengths clR
  have e := impl_pc (k := k) (by omega) x c True
  rw [show decide True = true from rfl] at e
  rw [e, Option.bind_some]
  by_cases h : fcr x c True = 0
  · obtain ⟨hx, _, _, hp⟩ := fcr_zero h
    rw [decide_eq_true h, if_neg (by simp), if_pos h, cl_loop hk ⟨hx.1.1, hp⟩ c]; rfl
  · rw [decide_eq_false h, if_pos (by simp), if_neg h]
theorem cl_spec {k : Nat} (hk : 200000 ≤ k) (x : Col) (c : Int) : spec_CycleLengths k x c = some ((clR x c).1.getD [], (clR x c).2) := by
  unfold spec_CycleLengths clR
  rw [spec_pc (by omega), Option.bind_some]
  by_cases h : fcr x c True = 0
  · obtain ⟨hx, _, _, hp⟩ := fcr_zero h
    rw [decide_eq_true h, if_neg (by simp), if_pos h, lengths_val ⟨hx.1.1, hp⟩ hk]; rfl
  · rw [decide_eq_false h, if_pos (by simp), if_neg h]; rfl

/-! ### The first cycle -/
noncomputable def fcR (x : Col) (c m : Int) : Option (List Int) × Int := if fcr x c (3 ≤ m ∧ m ≤ 17) = 0 then (match fcyc (aB x c) x.p.toNat m.toNat with | none => (none, 4) | some l => (some l, 0)) else (none, fcr x c (3 ≤ m ∧ m ≤ 17))
theorem fc_impl {k : Nat} (hk : 200000 ≤ k) (x : Col) (c m : Int) : impl_FirstCycle k x c m = some (fcR x c m) := by
  unfold impl_FirstCycle fcR
  rw [in_eq, impl_pc (by omega), Option.bind_some]
  by_cases h : fcr x c (3 ≤ m ∧ m ≤ 17) = 0
  · obtain ⟨hx, _, hm, hp⟩ := fcr_zero h
    have hv := firstCycle_val (c := c) ⟨hx.1.1, hp⟩ (k := k) (by omega) (m := m.toNat) (by omega)
    rw [show ((m.toNat : Nat) : Int) = m by omega] at hv
    rw [decide_eq_true h, if_neg (by simp), if_pos h, hv, Option.bind_some]
    cases fcyc (aB x c) x.p.toNat m.toNat <;> rfl
  · rw [decide_eq_false h, if_pos (by simp), if_neg h]
theorem cdr_ok {x : Col} {c : Int} {r : Prop} (hx : x.is) (hc : (0 ≤ c ∧ c ≤ x.k - 1) ∧ r) : cdr x c r = 0 := by unfold cdr; rw [if_pos hx, if_pos hc]
theorem cdr_bad {x : Col} {c : Int} {r : Prop} (hx : x.is) (hc : ¬ ((0 ≤ c ∧ c ≤ x.k - 1) ∧ r)) : cdr x c r = 2 := by unfold cdr; rw [if_pos hx, if_neg hc]
theorem cdr_inv {x : Col} {c : Int} {r : Prop} (hx : ¬ x.is) : cdr x c r = 1 := by unfold cdr; rw [if_neg hx]
theorem fcr_eq (x : Col) (c m : Int) : (if (if decide (cdr x c True = 0) = true then !decide (3 ≤ m ∧ m ≤ 17) else false) = true then (2 : Int) else cdr x c True) = cdr x c (3 ≤ m ∧ m ≤ 17) := by
  by_cases hx : x.is
  · by_cases hc : 0 ≤ c ∧ c ≤ x.k - 1
    · rw [cdr_ok (r := True) hx ⟨hc, trivial⟩]
      by_cases hm : 3 ≤ m ∧ m ≤ 17
      · rw [cdr_ok hx ⟨hc, hm⟩, decide_eq_true hm]; rfl
      · rw [cdr_bad hx (fun h => hm h.2), decide_eq_false hm]; rfl
    · rw [cdr_bad (r := True) hx (fun h => hc h.1), cdr_bad (r := 3 ≤ m ∧ m ≤ 17) hx (fun h => hc h.1)]; rfl
  · rw [cdr_inv hx, cdr_inv hx]; rfl
theorem fc_spec {k : Nat} (hk : 200000 ≤ k) (x : Col) (c m : Int) : spec_FirstCycle k x c m = some ((fcR x c m).1.getD [], (fcR x c m).2) := by
  unfold spec_FirstCycle
  rw [spec_cd (by omega), Option.bind_some, specIn_eq]
  have e1 := fcr_eq x c m
  have e2 : ((if decide (cdr x c (3 ≤ m ∧ m ≤ 17) = 0) = true then (spec_l04Code k x c true).bind fun r8 => some r8 else some (cdr x c (3 ≤ m ∧ m ≤ 17))) : Option Int) = some (fcr x c (3 ≤ m ∧ m ≤ 17)) := by
    by_cases h0 : cdr x c (3 ≤ m ∧ m ≤ 17) = 0
    · obtain ⟨hx, hc, hm⟩ := cdr_zero h0
      rw [decide_eq_true h0, if_pos rfl, spec_pc (by omega), Option.bind_some]
      have h1 : cdr x c True = 0 := cdr_ok hx ⟨hc, trivial⟩
      unfold fcr
      rw [if_pos h0, if_pos h1]
    · rw [decide_eq_false h0, if_neg (by simp)]
      unfold fcr
      rw [if_neg h0]
  have main : ∀ s6 : Int, s6 = cdr x c (3 ≤ m ∧ m ≤ 17) → (((if decide (s6 = 0) then (spec_l04Code k x c true).bind fun r8 => some r8 else some s6) : Option (Int)).bind fun s9 => (if !decide (s9 = 0) then some ([], s9) else (spec_l04First k x c m).bind fun r11 => (if !r11.2 then some ([], 4) else some (r11.1, 0)))) = some ((fcR x c m).1.getD [], (fcR x c m).2) := by
    rintro s6 rfl
    rw [e2, Option.bind_some]
    unfold fcR
    by_cases h : fcr x c (3 ≤ m ∧ m ≤ 17) = 0
    · obtain ⟨hx, _, hm, hp⟩ := fcr_zero h
      have hv := sfirst_val (c := c) ⟨hx.1.1, hp⟩ hk (m := m.toNat) (by omega) (by omega)
      rw [show ((m.toNat : Nat) : Int) = m by omega] at hv
      rw [decide_eq_true h, if_neg (by simp), if_pos h, hv, Option.bind_some]
      cases fcyc (aB x c) x.p.toNat m.toNat <;> rfl
    · rw [decide_eq_false h, if_pos (by simp), if_neg h]; rfl
  exact main _ e1

/-! ### The number of paths -/
theorem pn_ok (a b : Int) : ∃ v, impl_PathNumber a b = some v ∧ spec_PathNumber a b = some v := by
  unfold impl_PathNumber spec_PathNumber
  rw [in_eq, in_eq, specIn_eq, specIn_eq]
  simp only [letO]
  cases decide (2 ≤ a ∧ a ≤ 1000) <;> cases decide (2 ≤ b ∧ b ≤ 1000) <;> exact ⟨_, rfl, rfl⟩
theorem pn_val {a b : Nat} (ha : 2 ≤ a ∧ a ≤ 100) (hb : 2 ≤ b ∧ b ≤ 100) : impl_PathNumber (a : Int) (b : Int) = some (((max a b + min a b / 2 : Nat) : Int) - 1, 0) := by
  unfold impl_PathNumber
  rw [in_eq, in_eq, decide_eq_true (show 2 ≤ (a : Int) ∧ (a : Int) ≤ 1000 by omega), decide_eq_true (show 2 ≤ (b : Int) ∧ (b : Int) ≤ 1000 by omega)]
  simp only [letO, Bool.not_true, Bool.false_eq_true, if_false, Option.bind_some]
  have e1 : (if (a : Int) < (b : Int) then (b : Int) else (a : Int)) = ((max a b : Nat) : Int) := by split <;> omega
  have e2 : (if (b : Int) < (a : Int) then (b : Int) else (a : Int)) = ((min a b : Nat) : Int) := by split <;> omega
  have e3 : ((min a b : Nat) : Int).tdiv 2 = ((min a b / 2 : Nat) : Int) := rfl
  rw [e1, e2, e3, w64_id (n := ((min a b / 2 : Nat) : Int)) (by omega), w64_id (n := ((max a b : Nat) : Int) + ((min a b / 2 : Nat) : Int)) (by omega), w64_id (by omega)]
  refine congrArg some (Prod.ext ?_ rfl)
  show _ = ((max a b + min a b / 2 : Nat) : Int) - 1
  omega

/-! ### The edges -/
theorem cc_lt {x : Col} (hx : x.is) (a b : Nat) (ha : a < x.p.toNat) (hb : b < x.p.toNat) (h : a ≠ b) : 0 ≤ x.cc a b ∧ x.cc a b < x.k.toNat := by
  have main : ∀ a b : Nat, a < b → b < x.p.toNat → 0 ≤ x.cc a b ∧ x.cc a b < x.k.toNat := fun a b hab hb => by
    have hp := hx.1
    have h136 := eN_136 (i := a) (j := b) (by omega) (by omega) (by omega)
    have hlt := eN_lt (i := a) (j := b) (n := x.p.toNat) hab hb (by omega)
    have key : ∀ n : Nat, n ≤ 17 → 1 ≤ n → w64 ((w64 ((n : Int) * (w64 ((n : Int) - 1)))).tdiv 2) = (tri n : Nat) := by decide +kernel
    obtain ⟨n, hn⟩ := nat_of (show 0 ≤ x.p by omega)
    have hE : tE x = (tri n : Nat) := by
      unfold tE
      rw [hn]
      exact key n (by omega) (by omega)
    have hok := (hx.2.2 (eN a b : Nat) (by omega) (by omega)).1 (by rw [hE]; rw [hn] at hlt; simp at hlt; omega)
    have e : x.cc a b = ((x.get (eN a b)).toNat : Int) := rfl
    simp only [Int.toNat_natCast] at hok
    omega
  rcases Nat.lt_or_ge a b with q | q
  · exact main a b q hb
  · rw [cc_comm]; exact main b a (by omega) ha
theorem has_val' {x : Col} (hx : x.is) (i : Int) : impl_Colouring_has x i = decide (0 ≤ i ∧ i ≤ x.p - 1) := by
  have := hx.1
  unfold impl_Colouring_has
  rw [in_eq, w64_id (by omega)]
theorem two_val {x : Col} (hx : x.is) {i j : Int} (hi : 0 ≤ i ∧ i < x.p) (hj : 0 ≤ j ∧ j < x.p) (h : i ≠ j) : impl_Colouring_hasTwo x i j = true := by
  unfold impl_Colouring_hasTwo
  rw [has_val' hx, has_val' hx, decide_eq_true (by omega), decide_eq_true (by omega), decide_eq_false h]; rfl
theorem colour_val {x : Col} {k : Nat} (hk : 5000 ≤ k) (hx : x.is) {i j : Int} (hi : 0 ≤ i ∧ i < x.p) (hj : 0 ≤ j ∧ j < x.p) (h : i ≠ j) : impl_ColourOf k x i j = some (x.cc i j, 0) := by
  have hp := hx.1
  unfold impl_ColourOf impl_ColourOf_c1
  rw [two_val hx hi hj h, ((code_cases hk x).1 hx).1, Option.bind_some, implAt_ne x i j (by omega) (by omega) (by omega) (by omega) h]
  rfl
theorem edge_val {x : Col} {c : Int} {k : Nat} (hk : 5000 ≤ k) (hx : x.is) {i j : Int} (hi : 0 ≤ i ∧ i < x.p) (hj : 0 ≤ j ∧ j < x.p) (h : aB x c i j = true) : impl_ColourOf k x i j = some (c, 0) := by
  unfold aB at h
  simp at h
  rw [colour_val hk hx hi hj h.1, h.2]
theorem ch_get {A : Int → Int → Prop} : ∀ (l : List Int) (i : Nat), ch A l → i + 1 < l.length → A (l.getD i 0) (l.getD (i + 1) 0)
  | a :: b :: t, 0, h, _ => h.1
  | a :: b :: t, i + 1, h, hl => by
    have := ch_get (b :: t) i h.2 (by simp at hl ⊢; omega)
    simpa using this
theorem getD_in {l : List Int} {n i : Nat} (h : ∀ z ∈ l, 0 ≤ z ∧ z < (n : Int)) (hi : i < l.length) : 0 ≤ l.getD i 0 ∧ l.getD i 0 < n := by
  rw [List.getD_eq_getElem?_getD, List.getElem?_eq_getElem hi]
  exact h _ (List.getElem_mem hi)

/-- All points of a path are joined in the colour. -/
theorem path_loop {k : Nat} (hk : 200000 ≤ k) {x : Col} {c : Int} (hx : x.is) (L : List Int) (e : Int) (hc : ch (tr (aB x c)) L) (hr : ∀ z ∈ L, 0 ≤ z ∧ z < (x.p.toNat : Int)) (hl : L.length ≤ 100) : laws_FnPaths_l1 k (x, c) (some L, e) k 0 = some (.inl ()) := by
  have hp := hx.1
  obtain ⟨r, h1, rfl⟩ := loopI (fun k' i (_ : Unit) => laws_FnPaths_l1 k (x, c) (some L, e) k' i) ((L.length : Int) - 1) 0 (fun i _ => ∃ n : Nat, i = n ∧ n ≤ 200) (fun r => r = .inl ())
    (fun k' i _ h0 h1 hI => by
      obtain ⟨n, rfl, hn⟩ := hI
      left
      have hw : w64 ((n : Int) + 1) = ((n + 1 : Nat) : Int) := by rw [w64_id (by omega)]; omega
      have g1 := getD_in hr (i := n) (by omega)
      have g2 := getD_in hr (i := n + 1) (by omega)
      have hv := edge_val (k := k) (by omega) hx (by omega) (by omega) (ch_get L n hc (by omega))
      rw [laws_FnPaths_l1, hw]
      simp only [Option.getD_some]
      rw [decide_eq_true (by omega), if_pos rfl, if_pos (by omega), if_pos (by omega), Int.toNat_natCast, Int.toNat_natCast, hv]
      exact ⟨(), by simp [letO], n + 1, by omega, by omega⟩)
    (fun k' i _ h0 h1 hI => by
      obtain ⟨n, rfl, hn⟩ := hI
      refine ⟨.inl (), ?_, rfl⟩
      rw [laws_FnPaths_l1, w64_id (by omega)]
      simp only [Option.getD_some]
      rw [decide_eq_false (by omega), if_neg (by simp)])
    k 0 () (by omega) (by omega) ⟨0, rfl, by omega⟩
  exact h1

theorem fcyc_some {A : Int → Int → Bool} {n m : Nat} {L : List Int} (h : fcyc A n m = some L) : 3 ≤ m ∧ ∃ (f : Nat) (t : List Int), L = (f : Int) :: t ∧ f < n ∧ Cy A n f t ∧ t.length + 1 = m := by
  unfold fcyc at h
  split at h
  · cases h
  · rename_i hm
    refine ⟨by omega, ?_⟩
    obtain ⟨f, hf, h⟩ := List.exists_of_findSome?_eq_some h
    rw [List.mem_range] at hf
    rw [Option.map_eq_some_iff] at h
    obtain ⟨t, ht, rfl⟩ := h
    obtain ⟨e, h1, h2, h3, _⟩ := dfs_some (m - 1) [] t ⟨trivial, List.nodup_nil, fun z hz => by cases hz⟩ ht
    rw [List.nil_append] at h2
    subst h2
    exact ⟨f, t, rfl, by omega, h3, by omega⟩
theorem cyc_loop {k : Nat} (hk : 200000 ≤ k) {x : Col} {c m : Int} (hx : x.is) {f : Nat} {t : List Int} (e : Int) (hf : f < x.p.toNat) (hC : Cy (aB x c) x.p.toNat f t) (hl : t.length ≤ 100) : laws_FnPaths_l0 k (x, c, m) (some ((f : Int) :: t), e) k 0 = some (.inl ()) := by
  have hp := hx.1
  have hr : ∀ z ∈ (f : Int) :: t, 0 ≤ z ∧ z < (x.p.toNat : Int) := fun z hz => by
    rcases List.mem_cons.1 hz with rfl | hz
    · exact ⟨by omega, by omega⟩
    · have := hC.1.rg z hz; exact ⟨by omega, this.2⟩
  have hlen : ((f : Int) :: t).length = t.length + 1 := rfl
  obtain ⟨r, h1, rfl⟩ := loopI (fun k' i (_ : Unit) => laws_FnPaths_l0 k (x, c, m) (some ((f : Int) :: t), e) k' i) ((t.length + 1 : Nat) : Int) 0 (fun i _ => ∃ n : Nat, i = n) (fun r => r = .inl ())
    (fun k' i _ h0 h1 hI => by
      obtain ⟨n, rfl⟩ := hI
      left
      have hw : w64 ((n : Int) + 1) = ((n + 1 : Nat) : Int) := by rw [w64_id (by omega)]; omega
      obtain ⟨j, hj, hjl, ha⟩ : ∃ j : Nat, (((n + 1 : Nat) : Int)).tmod ((((f : Int) :: t).length : Nat) : Int) = (j : Int) ∧ j < t.length + 1 ∧ aB x c (((f : Int) :: t).getD n 0) (((f : Int) :: t).getD j 0) = true := by
        refine ⟨(n + 1) % (t.length + 1), rfl, Nat.mod_lt _ (by omega), ?_⟩
        by_cases e : n + 1 < t.length + 1
        · rw [Nat.mod_eq_of_lt e]
          exact ch_get _ n (chn_ch _ _ hC.1.ch) (by rw [hlen]; exact e)
        · have : n = t.length := by omega
          subst this
          rw [Nat.mod_self, lst_getD]
          exact hC.2
      have g1 := getD_in hr (i := n) (by omega)
      have g2 := getD_in hr (i := j) (by omega)
      have hv := edge_val (k := k) (by omega) hx (by omega) (by omega) ha
      rw [laws_FnPaths_l0, hw]
      simp only [Option.getD_some]
      rw [hj, decide_eq_true (by rw [hlen]; omega), if_pos rfl, if_pos (by rw [hlen]; omega), if_pos (by rw [hlen]; omega), if_pos (by rw [hlen]; omega), Int.toNat_natCast, Int.toNat_natCast, hv]
      exact ⟨(), by simp [letO], n + 1, by omega⟩)
    (fun k' i _ h0 h1 hI => by
      obtain ⟨n, rfl⟩ := hI
      refine ⟨.inl (), ?_, rfl⟩
      rw [laws_FnPaths_l0]
      simp only [Option.getD_some]
      rw [decide_eq_false (by rw [hlen]; omega), if_neg (by simp)])
    k 0 () (by omega) (by omega) ⟨0, rfl⟩
  exact h1

theorem bindK {α β : Type} {X : Option α} (v : α) {F : α → Option β} {r : Option β} (h : X = some v) (h2 : F v = r) : X.bind F = r := by subst h; exact h2
theorem lp_len {A : Int → Int → Bool} {n : Nat} (hn : 1 ≤ n) : (lp A n).length ≤ n + 1 := by
  obtain ⟨f, m, e, hf, hm, h1, h2⟩ := lpF_spec (A := A) (n := n) n hn
  have el : lp A n = (f : Int) :: lpN A n m (add 0 f) f := by unfold lp; rw [e]; simp
  have hl := lpN_length m (add 0 f) (f : Int) hm.symm
  have := eX_le (A := A) (n := n) (n - cnt n (add 0 f)) (add 0 f) (f : Int) rfl
  rw [el, List.length_cons, hl]; omega

theorem paths_k {k : Nat} (hk : 200000 ≤ k) (code : List UInt8) : laws_FnPaths k code = some true := by
  classical
  have hk5 : 5000 ≤ k := by omega
  unfold laws_FnPaths
  by_cases hb : laws_big code = true
  · rw [if_pos hb]
  have hc : code.length ≤ 4096 := by
    unfold laws_big at hb
    simp at hb; omega
  rw [if_neg hb]
  obtain ⟨x, c, d1⟩ := drawLP_ok hk5 code hc
  obtain ⟨y, d, m, d2⟩ := drawFC_ok hk5 code hc
  obtain ⟨a, b, d3⟩ := drawPN_ok hk5 code hc
  obtain ⟨v, v1, v2⟩ := pn_ok a b
  have hlp : ((lpR x c).1.getD []).length ≤ 100 := by
    unfold lpR
    split
    · rename_i h
      obtain ⟨hx, _, _, hp⟩ := fcr_zero h
      have := lp_len (A := aB x c) (n := x.p.toNat) (by have := hx.1; omega)
      simp only [Option.getD_some]; omega
    · simp
  have hcl : ((clR x c).1.getD []).length ≤ 100 := by
    unfold clR
    split
    · rename_i h
      obtain ⟨hx, _, _, hp⟩ := fcr_zero h
      have : (cyL x c).length ≤ (ir 3 (x.p.toNat + 1)).length := List.length_filter_le _ _
      rw [ir_length] at this
      simp only [Option.getD_some]; omega
    · simp
  have hfc : ((fcR y d m).1.getD []).length ≤ 100 := by
    unfold fcR
    split
    · rename_i h
      obtain ⟨hx, _, _, hp⟩ := fcr_zero h
      cases hq : fcyc (aB y d) y.p.toNat m.toNat with
      | none => simp
      | some L =>
        obtain ⟨_, f, t, rfl, hf, hC, _⟩ := fcyc_some hq
        have := hC.1.len hf
        simp; omega
    · simp
  rw [d1, Option.bind_some]
  simp only
  rw [lp_impl hk, Option.bind_some, lp_spec hk, Option.bind_some]
  simp only [decide_true, Bool.not_true, Bool.false_eq_true, if_false]
  rw [like_refl k _ (by omega) (by omega), Option.bind_some]
  simp only [Bool.not_true, Option.bind_some, Bool.false_eq_true, if_false]
  rw [cl_impl hk, Option.bind_some, cl_spec hk, Option.bind_some]
  simp only [decide_true, Bool.not_true, Bool.false_eq_true, if_false]
  rw [like_refl k _ (by omega) (by omega), Option.bind_some]
  simp only [Bool.not_true, Option.bind_some, Bool.false_eq_true, if_false]
  rw [d2, Option.bind_some]
  simp only
  rw [fc_impl hk, Option.bind_some, fc_spec hk, Option.bind_some]
  simp only [decide_true, Bool.not_true, Bool.false_eq_true, if_false]
  rw [like_refl k _ (by omega) (by omega), Option.bind_some]
  simp only [Bool.not_true, Option.bind_some, Bool.false_eq_true, if_false]
  rw [d3, Option.bind_some]
  simp only
  rw [v1, Option.bind_some, v2, Option.bind_some]
  simp only [decide_true, Bool.not_true, Bool.false_eq_true, if_false, letO, Option.bind_some]
  refine bindK (.inl ()) ?_ ?_
  · unfold fcR
    by_cases h : fcr y d (3 ≤ m ∧ m ≤ 17) = 0
    · obtain ⟨hx, _, hm, hp⟩ := fcr_zero h
      rw [if_pos h]
      cases hq : fcyc (aB y d) y.p.toNat m.toNat with
      | none => simp
      | some L =>
        obtain ⟨hm3, f, t, rfl, hf, hC, hl⟩ := fcyc_some hq
        have hlen := hC.1.len hf
        simp only [decide_true, if_true, Option.getD_some]
        rw [decide_eq_true (show ((((f : Int) :: t).length : Int) = m) by simp; omega), Bool.not_true, if_neg (by simp)]
        exact cyc_loop hk hx 0 hf hC (by omega)
    · rw [if_neg h]
      simp only [decide_eq_false h, Bool.false_eq_true, if_false]
  simp only
  by_cases h : fcr x c True = 0
  · obtain ⟨hx, hcr, _, hp⟩ := fcr_zero h
    have hx1 := hx.1
    have eL : lpR x c = (some (lp (aB x c) x.p.toNat), 0) := by unfold lpR; rw [if_pos h]
    have eC : clR x c = (some (cyL x c), 0) := by unfold clR; rw [if_pos h]
    obtain ⟨a1, a2, a3, a4, a5⟩ := lp_ok (A := aB x c) (n := x.p.toNat) (by omega)
    have alen := lp_len (A := aB x c) (n := x.p.toNat) (by omega)
    rw [eL, eC]
    simp only [decide_true, Bool.not_true, Bool.false_eq_true, if_false, Option.getD_some]
    rw [path_loop hk hx _ 0 a1 a3 (by omega), Option.bind_some]
    simp only
    refine bindK (.inl ()) ?_ ?_
    · rw [decide_eq_false (show ¬ ((lp (aB x c) x.p.toNat).length : Int) < 1 by omega), if_neg (by simp)]
      refine bindK false ?_ (by simp)
      by_cases hz : 0 < ((cyL x c).length : Int)
      · have hw : w64 (((cyL x c).length : Int) - 1) = (((cyL x c).length - 1 : Nat) : Int) := by
          have : (cyL x c).length ≤ (ir 3 (x.p.toNat + 1)).length := List.length_filter_le _ _
          rw [ir_length] at this
          rw [w64_id (by omega)]; omega
        rw [decide_eq_true hz, if_pos rfl, if_pos (by rw [hw]; omega)]
        refine congrArg some (decide_eq_false ?_)
        show ¬ ((lp (aB x c) x.p.toNat).length : Int) < (cyL x c).getD (w64 (((cyL x c).length : Int) - 1)).toNat 0
        rw [hw, Int.toNat_natCast]
        have hi : (cyL x c).length - 1 < (cyL x c).length := by omega
        rw [List.getD_eq_getElem?_getD, List.getElem?_eq_getElem hi, Option.getD_some]
        have hmem := List.getElem_mem hi
        obtain ⟨z1, z2⟩ := List.mem_filter.1 (show _ ∈ (ir 3 (x.p.toNat + 1)).filter fun m => (fcyc (aB x c) x.p.toNat m.toNat).isSome from hmem)
        rw [mem_ir] at z1
        obtain ⟨L, hL⟩ := Option.isSome_iff_exists.1 z2
        obtain ⟨_, f, t, _, hf, hC, hl⟩ := fcyc_some hL
        have := cy_le (by omega) hf hC
        omega
      · rw [decide_eq_false hz, if_neg (by simp)]
    simp only
    by_cases hk2 : x.k = 2
    · rw [decide_eq_true hk2, Bool.not_true, if_neg (by simp), w64_id (by omega), lp_impl hk, Option.bind_some]
      have h' : fcr x (1 - c) True = 0 := fcr_ok hx (by omega) trivial hp
      have eL' : lpR x (1 - c) = (some (lp (aB x (1 - c)) x.p.toNat), 0) := by unfold lpR; rw [if_pos h']
      obtain ⟨b1, b2, b3, b4, b5⟩ := lp_ok (A := aB x (1 - c)) (n := x.p.toNat) (by omega)
      have blen := lp_len (A := aB x (1 - c)) (n := x.p.toNat) (by omega)
      have two := two_paths (A := aB x c) (B := aB x (1 - c)) (n := x.p.toNat) (by omega) (fun a b => aB_comm ..) (fun a b => aB_comm ..) (fun a b h0 h1 h2 h3 h4 => by
        have hcc := cc_lt hx a.toNat b.toNat (by omega) (by omega) (by omega)
        rw [show ((a.toNat : Nat) : Int) = a by omega, show ((b.toNat : Nat) : Int) = b by omega] at hcc
        by_cases e : x.cc a b = c
        · left; unfold aB; rw [decide_eq_true ⟨h4, e⟩]
        · right; unfold aB; rw [decide_eq_true ⟨h4, by omega⟩])
      rw [eL']
      simp only [Option.getD_some]
      generalize (lp (aB x c) x.p.toNat).length = p at *
      generalize (lp (aB x (1 - c)) x.p.toNat).length = q at *
      have hv := pn_val (a := p + 1) (b := q + 1) (by omega) (by omega)
      rw [w64_id (by omega), w64_id (by omega), show (p : Int) + 1 = ((p + 1 : Nat) : Int) by omega, show (q : Int) + 1 = ((q + 1 : Nat) : Int) by omega, hv, Option.bind_some]
      simp only [decide_true, if_true]
      rw [decide_eq_true (by omega)]
    · rw [decide_eq_false hk2]; rfl
  · have eL : lpR x c = (none, fcr x c True) := by unfold lpR; rw [if_neg h]
    rw [eL]
    simp [h]
theorem paths_pure (code : List UInt8) : laws_FnPaths 200000 code = some true := paths_k (Nat.le_refl _) code
end Go.Proofs.Ytghhnpdhehjlaaa
