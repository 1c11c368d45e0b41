/- Plain laws: connected colours. No conditions beyond those that each lemma states. -/
import Derived.Test.YtfpcopidcagdaaaPureWalk17
import Derived.Test.YtfpcopidcagdaaaPBits
set_option linter.unusedVariables false
set_option linter.unusedSimpArgs false
namespace Go.Proofs.Ytfpcopidcagdaaa
open Go Go.RowKit Ab

def bitsN (P : Nat → Bool) : Nat → Nat
  | 0 => 0
  | n + 1 => if P n then bitsN P n ||| 2 ^ n else bitsN P n
theorem bitsN_test (P : Nat → Bool) (n j : Nat) : (bitsN P n).testBit j = (decide (j < n) && P j) := by
  induction n with
  | zero => simp [bitsN]
  | succ n ih =>
    unfold bitsN
    by_cases h : P n
    · rw [if_pos h, add_bit, ih]
      by_cases e : n = j
      · subst e; simp [h]
      · have : decide (j < n + 1) = decide (j < n) := by simp; omega
        simp [e, this]
    · rw [if_neg h, ih]
      by_cases e : n = j
      · subst e; simp [h]
      · have : decide (j < n + 1) = decide (j < n) := by simp; omega
        rw [this]
theorem bitsN_lt (P : Nat → Bool) (n : Nat) : bitsN P n < 2 ^ n := bits_lt fun i h => by
  rw [bitsN_test]
  have : ¬ i < n := by omega
  simp [this]
theorem lt17 {s n : Nat} (h : s < 2 ^ n) (hn : n ≤ 17) : s < 2 ^ 17 := Nat.lt_of_lt_of_le h (Nat.pow_le_pow_right (by omega) hn)
theorem lt63 {s : Nat} (h : s < 2 ^ 17) : s < 2 ^ 63 := Nat.lt_of_lt_of_le h (by decide)

theorem around_eq (k : Nat) (x : Col) (hx : 1 ≤ x.p ∧ x.p ≤ 17) (hk : 20 ≤ k) (c : Int) (i : Nat) (hi : (i : Int) < x.p) : spec_l01Around k x i c = some ((bitsN (fun j => decide (adj x c i j)) x.p.toNat : Nat) : Int) := by
  unfold spec_l01Around
  have := loopI (f := fun k t (s : Int) => spec_l01Around_l0 x i c k s t) x.p 0 (fun t s => t ≤ x.p ∧ s = ((bitsN (fun j => decide (adj x c i j)) t.toNat : Nat) : Int)) (fun r => r = ((bitsN (fun j => decide (adj x c i j)) x.p.toNat : Nat) : Int)) ?_ ?_ k 0 0 (by omega) (by omega) ⟨by omega, rfl⟩
  · obtain ⟨r, e, rfl⟩ := this
    rw [e]; rfl
  · intro k t s h0 h1 ⟨_, q⟩
    left
    obtain ⟨m, rfl⟩ := nat_of h0
    refine ⟨_, ?_, by omega, rfl⟩
    show spec_l01Around_l0 x i c (k + 1) s m = _
    have e0 : ((m : Int) + 1).toNat = m + 1 := by omega
    rw [spec_l01Around_l0, w64_succ h0 h1 (by omega), e0, u64_id (by omega)]
    simp only [Int.toNat_natCast] at q
    have hb := lt63 (lt17 (bitsN_lt (fun j => decide (adj x c i j)) m) (by omega))
    have hor := bOr_nat (a := bitsN (fun j => decide (adj x c i j)) m) (b := 2 ^ m) hb (Nat.pow_lt_pow_right (by omega) (by omega))
    simp only [h1, decide_true, if_true]
    by_cases e : m = i
    · subst e
      have : ¬ adj x c m m := fun h => h.2.2.1 rfl
      simp [this, bitsN, q]
    · have e' : ¬ (m : Int) = i := by omega
      rw [specAt_ne x i m (by omega) (by omega) (by omega) (by omega) (by omega)]
      have ha : adj x c i m ↔ x.cc i m = c := ⟨fun h => h.2.2.2, fun h => ⟨hi, h1, by omega, h⟩⟩
      by_cases h : x.cc i m = c
      · have ha' : adj x c i m := ha.2 h
        simp only [e', h, decide_false, Bool.not_false, if_true, Option.bind_some, decide_true, h0, q]
        rw [bShl_one (by omega), hor]
        simp [bitsN, ha']
      · have ha' : ¬ adj x c i m := fun h' => h (ha.1 h')
        simp [e', h, bitsN, ha', q]
  · intro k t s h0 h1 ⟨q1, q2⟩
    have : t = x.p := by omega
    subst this
    refine ⟨s, ?_, q2⟩
    show spec_l01Around_l0 x i c (k + 1) s x.p = _
    rw [spec_l01Around_l0]; simp

def rowsB (x : Col) (c : Int) (n : Nat) : List Int := (List.range n).map fun i => ((bitsN (fun j => decide (adj x c i j)) x.p.toNat : Nat) : Int)
theorem rowsB_length (x : Col) (c : Int) (n : Nat) : (rowsB x c n).length = n := by simp [rowsB]
theorem rowsB_get (x : Col) (c : Int) (n i : Nat) (h : i < n) : (rowsB x c n).getD i 0 = ((bitsN (fun j => decide (adj x c i j)) x.p.toNat : Nat) : Int) := by simp [rowsB, List.getD, h]

theorem rows_eq (k : Nat) (x : Col) (hx : 1 ≤ x.p ∧ x.p ≤ 17) (hk : 20 ≤ k) (c : Int) : spec_l02Rows k x c = some (rowsB x c x.p.toNat) := by
  unfold spec_l02Rows
  have := loopI (f := fun k' t (s : List Int) => spec_l02Rows_l0 k x c k' t s) x.p 0 (fun t s => t ≤ x.p ∧ s = rowsB x c t.toNat) (fun r => r = rowsB x c x.p.toNat) ?_ ?_ k 0 [] (by omega) (by omega) ⟨by omega, rfl⟩
  · obtain ⟨r, e, rfl⟩ := this
    rw [e]; rfl
  · intro k' t s h0 h1 ⟨_, q⟩
    left
    obtain ⟨m, rfl⟩ := nat_of h0
    simp only [Int.toNat_natCast] at q
    refine ⟨_, ?_, by omega, rfl⟩
    show spec_l02Rows_l0 k x c (k' + 1) m s = _
    have e0 : ((m : Int) + 1).toNat = m + 1 := by omega
    rw [spec_l02Rows_l0, w64_succ h0 h1 (by omega), e0, around_eq k x hx hk c m h1, q, rowsB_length]
    have : m + 1 ≤ 1099511627776 := by omega
    simp only [h1, decide_true, if_true, Option.bind_some, List.length_singleton, this]
    rw [show rowsB x c (m + 1) = rowsB x c m ++ [((bitsN (fun j => decide (adj x c m j)) x.p.toNat : Nat) : Int)] by simp [rowsB, List.range_succ]]
  · intro k' t s h0 h1 ⟨q1, q2⟩
    have : t = x.p := by omega
    subst this
    refine ⟨s, ?_, q2⟩
    show spec_l02Rows_l0 k x c (k' + 1) x.p s = _
    rw [spec_l02Rows_l0]; simp

/-! ### The reference's components -/
def defc (n S : Nat) : Nat := ((List.range n).filter fun i => !S.testBit i).length
theorem filter_le (P Q : Nat → Bool) (n : Nat) (h : ∀ i, i < n → Q i = true → P i = true) : ((List.range n).filter Q).length ≤ ((List.range n).filter P).length := by
  induction n with
  | zero => simp
  | succ n ih =>
    rw [List.range_succ, List.filter_append, List.filter_append, List.length_append, List.length_append]
    have h1 := ih fun i hi => h i (by omega)
    have h2 := h n (by omega)
    cases hq : Q n with
    | false => simp [hq]; omega
    | true => simp [hq, h2 hq]; omega
theorem filter_lt (P Q : Nat → Bool) (n : Nat) (h : ∀ i, i < n → Q i = true → P i = true) (j : Nat) (hj : j < n) (hp : P j = true) (hq : Q j = false) : ((List.range n).filter Q).length < ((List.range n).filter P).length := by
  induction n with
  | zero => omega
  | succ n ih =>
    rw [List.range_succ, List.filter_append, List.filter_append, List.length_append, List.length_append]
    by_cases e : j = n
    · subst e
      have h1 := filter_le P Q j fun i hi => h i (by omega)
      simp [hp, hq]; omega
    · have h1 := ih (fun i hi => h i (by omega)) (by omega)
      have h2 := h n (by omega)
      cases hq' : Q n with
      | false => simp [hq']; omega
      | true => simp [hq', h2 hq']; omega

theorem comp_l1 (x : Col) (hx : 1 ≤ x.p ∧ x.p ≤ 17) (c : Int) (S : Nat) (hS : S < 2 ^ x.p.toNat) (k : Nat) (hk : 20 ≤ k) :
    ∃ T : Nat, spec_l04Component_l1 (rowsB x c x.p.toNat) S k S 0 = some (T : Int) ∧ T < 2 ^ x.p.toNat ∧ ∀ v, T.testBit v = true ↔ S.testBit v = true ∨ ∃ q, q < x.p.toNat ∧ S.testBit q = true ∧ adj x c q v := by
  obtain ⟨n, hn⟩ := nat_of (show 0 ≤ x.p by omega)
  have hn17 : n ≤ 17 := by omega
  rw [hn, Int.toNat_natCast] at hS ⊢
  have hS63 := lt63 (lt17 hS hn17)
  have := loopI (f := fun k t (s : Int) => spec_l04Component_l1 (rowsB x c n) S k s t) (n : Int) 0
    (fun t s => t ≤ n ∧ ∃ T : Nat, s = T ∧ T < 2 ^ n ∧ ∀ v, T.testBit v = true ↔ S.testBit v = true ∨ ∃ q, q < t.toNat ∧ S.testBit q = true ∧ adj x c q v)
    (fun r => ∃ T : Nat, r = T ∧ T < 2 ^ n ∧ ∀ v, T.testBit v = true ↔ S.testBit v = true ∨ ∃ q, q < n ∧ S.testBit q = true ∧ adj x c q v) ?_ ?_ k 0 (S : Int) (by omega) (by omega)
    ⟨by omega, S, rfl, hS, fun v => by simp⟩
  · obtain ⟨r, e, T, rfl, h1, h2⟩ := this
    exact ⟨T, e, h1, h2⟩
  · rintro k t s h0 h1 ⟨_, T, rfl, q1, q2⟩
    left
    obtain ⟨m, rfl⟩ := nat_of h0
    have hm : m < n := by omega
    simp only [Int.toNat_natCast] at q2
    have hT63 := lt63 (lt17 q1 hn17)
    have e0 : ((m : Int) + 1).toNat = m + 1 := by omega
    have hb := bit_eq (a := S) (i := m) hS63 (by omega)
    have hlen : (m : Int) < ((rowsB x c n).length : Int) := by rw [rowsB_length]; omega
    have step : ∀ r : Nat, (if decide ((if S.testBit m then (1 : Int) else 0) = 1) then (if 0 ≤ (m : Int) ∧ (m : Int) < ((rowsB x c n).length : Int) then some (bOr .i64 (T : Int) ((rowsB x c n).getD (m : Int).toNat 0)) else none) else some (T : Int)) = some (r : Int) →
        spec_l04Component_l1 (rowsB x c n) S (k + 1) (T : Int) m = spec_l04Component_l1 (rowsB x c n) S k (r : Int) (m + 1) := fun r hr => by
      rw [spec_l04Component_l1, w64_succ h0 h1 (by omega), u64_id (by omega), hb, hr]
      simp only [hlen, decide_true, if_true, h0, Option.bind_some]
    by_cases hs : S.testBit m = true
    · have hr63 := lt63 (lt17 (bitsN_lt (fun j => decide (adj x c m j)) n) hn17)
      have hrow : (rowsB x c n).getD m 0 = ((bitsN (fun j => decide (adj x c m j)) n : Nat) : Int) := by
        have := rowsB_get x c n m hm
        rw [hn, Int.toNat_natCast] at this
        exact this
      refine ⟨((T ||| bitsN (fun j => decide (adj x c m j)) n : Nat) : Int), step _ ?_, by omega, _, rfl, Nat.or_lt_two_pow q1 (bitsN_lt _ _), fun v => ?_⟩
      · rw [Int.toNat_natCast, hrow, bOr_nat hT63 hr63]
        simp [hs, rowsB_length, hm]
      · rw [e0, Nat.testBit_or, bitsN_test]
        simp only [Bool.or_eq_true, Bool.and_eq_true, decide_eq_true_eq]
        constructor
        · rintro (h | ⟨_, h⟩)
          · rcases (q2 v).1 h with h | ⟨q, h1, h2, h3⟩
            · exact .inl h
            · exact .inr ⟨q, by omega, h2, h3⟩
          · exact .inr ⟨m, by omega, hs, h⟩
        · rintro (h | ⟨q, h1, h2, h3⟩)
          · exact .inl ((q2 v).2 (.inl h))
          · by_cases e : q = m
            · subst e; exact .inr ⟨by have := h3.2.1; omega, h3⟩
            · exact .inl ((q2 v).2 (.inr ⟨q, by omega, h2, h3⟩))
    · refine ⟨(T : Int), step T (by simp [hs]), by omega, T, rfl, q1, fun v => ?_⟩
      rw [e0, q2 v]
      constructor
      · rintro (h | ⟨q, h1, h2, h3⟩)
        · exact .inl h
        · exact .inr ⟨q, by omega, h2, h3⟩
      · rintro (h | ⟨q, h1, h2, h3⟩)
        · exact .inl h
        · by_cases e : q = m
          · subst e; exact absurd h2 hs
          · exact .inr ⟨q, by omega, h2, h3⟩
  · rintro k t s h0 h1 ⟨q0, T, rfl, q1, q2⟩
    have : t = n := by omega
    subst this
    simp only [Int.toNat_natCast] at q2
    refine ⟨(T : Int), ?_, T, rfl, q1, q2⟩
    show spec_l04Component_l1 (rowsB x c n) S (k + 1) (T : Int) n = _
    rw [spec_l04Component_l1, rowsB_length]; simp

theorem comp_l0 (x : Col) (hx : 1 ≤ x.p ∧ x.p ≤ 17) (c : Int) (p : Nat) (k : Nat) (hk : 20 ≤ k) : ∀ (k' S : Nat), S < 2 ^ x.p.toNat → S.testBit p = true → (∀ v, S.testBit v = true → Rch (adj x c) p v) → defc x.p.toNat S + 2 ≤ k' →
    ∃ T : Nat, spec_l04Component_l0 k (rowsB x c x.p.toNat) k' S true = some (T : Int) ∧ T < 2 ^ x.p.toNat ∧ ∀ v, T.testBit v = true ↔ Rch (adj x c) p v := by
  intro k'
  induction k' with
  | zero => intro S _ _ _ h; omega
  | succ k' ih =>
    intro S hS hp hr hd
    obtain ⟨T, e, h1, h2⟩ := comp_l1 x hx c S hS k hk
    rw [spec_l04Component_l0, e]
    simp only [if_true, Option.bind_some]
    have hsub : ∀ v, S.testBit v = true → T.testBit v = true := fun v h => (h2 v).2 (.inl h)
    by_cases he : T = S
    · subst he
      have : (!decide ((T : Int) = T)) = false := by simp
      rw [this]
      obtain ⟨k2, rfl⟩ : ∃ k2, k' = k2 + 1 := ⟨k' - 1, by omega⟩
      rw [spec_l04Component_l0]
      refine ⟨T, by simp, hS, fun v => ⟨hr v, fun h => ?_⟩⟩
      refine Rch.closed (S := fun v => T.testBit v = true) (fun a b ha hab => (h2 b).2 (.inr ⟨a, by have := hab.1; omega, ha, hab⟩)) hp h
    · have : (!decide ((T : Int) = S)) = true := by simp; omega
      rw [this]
      refine ih T h1 (hsub p hp) (fun v hv => ?_) ?_
      · rcases (h2 v).1 hv with h | ⟨q, _, h3, h4⟩
        · exact hr v h
        · exact .step (hr q h3) h4
      · have : ∃ j, j < x.p.toNat ∧ S.testBit j = false ∧ T.testBit j = true := by
          apply Classical.byContradiction
          intro hno
          refine he (bits_eq fun v => ?_)
          cases hs : S.testBit v with
          | true => exact hsub v hs
          | false =>
            apply Bool.eq_false_iff.2
            intro ht
            refine hno ⟨v, ?_, hs, ht⟩
            apply Classical.byContradiction
            intro hv
            have := Nat.testBit_lt_two_pow (Nat.lt_of_lt_of_le h1 (Nat.pow_le_pow_right (by omega) (show x.p.toNat ≤ v by omega)))
            rw [this] at ht; cases ht
        obtain ⟨j, hj, hs, ht⟩ := this
        have := filter_lt (fun i => !S.testBit i) (fun i => !T.testBit i) x.p.toNat (fun i _ h => by
          cases h' : S.testBit i with
          | false => rfl
          | true => rw [hsub i h'] at h; cases h) j hj (by simp [hs]) (by simp [ht])
        unfold defc at hd ⊢
        omega

theorem compS_eq (x : Col) (hx : 1 ≤ x.p ∧ x.p ≤ 17) (c : Int) (p : Nat) (hp : (p : Int) < x.p) (k : Nat) (hk : 30 ≤ k) :
    ∃ T : Nat, spec_l04Component k (rowsB x c x.p.toNat) p = some (T : Int) ∧ T < 2 ^ x.p.toNat ∧ ∀ v, T.testBit v = true ↔ Rch (adj x c) p v := by
  unfold spec_l04Component
  rw [u64_id (by omega), if_pos (by omega), bShl_one (by omega)]
  obtain ⟨T, e, h1, h2⟩ := comp_l0 x hx c p k (by omega) k (2 ^ p) (Nat.pow_lt_pow_right (by omega) (by omega)) (by simp) (fun v hv => by
    rw [Nat.testBit_two_pow] at hv
    have : p = v := by simpa using hv
    subst this; exact .refl) (by
    have : defc x.p.toNat (2 ^ p) ≤ x.p.toNat := by unfold defc; exact Nat.le_trans (List.length_filter_le _ _) (by simp)
    omega)
  exact ⟨T, by rw [e]; rfl, h1, h2⟩

/-! ### Connected colours -/
theorem least_of (x : Col) (c : Int) : ∀ v : Nat, ∃ u, u ≤ v ∧ Rch (adj x c) u v ∧ least x c u := by
  intro v
  induction v using Nat.strongRecOn with
  | _ v ih =>
    by_cases h : least x c v
    · exact ⟨v, Nat.le_refl _, .refl, h⟩
    · have : ∃ u, u < v ∧ Rch (adj x c) u v := by
        apply Classical.byContradiction
        intro hno
        exact h fun u hu hr => hno ⟨u, hu, hr⟩
      obtain ⟨u, hu, hr⟩ := this
      obtain ⟨w, h1, h2, h3⟩ := ih u hu
      exact ⟨w, by omega, h2.trans hr, h3⟩

def conn (x : Col) (c : Int) : Prop := ∀ v : Nat, (v : Int) < x.p → Rch (adj x c) 0 v

theorem comps_one (x : Col) (hx : 1 ≤ x.p) (c : Int) : (comps x c x.p.toNat).length = 1 ↔ conn x c := by
  classical
  have h0 : least x c 0 := fun u h => by omega
  have e1 : comps x c 1 = [comp x c 0] := by
    have := comps_succ x c 0
    rw [if_pos h0] at this
    simpa [comps] using this
  have mono : ∀ (n d : Nat), (comps x c n).length ≤ (comps x c (n + d)).length := fun n d => by
    induction d with
    | zero => exact Nat.le_refl _
    | succ d ih => rw [← Nat.add_assoc, comps_succ, List.length_append]; omega
  constructor
  · intro h v hv
    obtain ⟨u, hu, hr, hl⟩ := least_of x c v
    by_cases e : u = 0
    · subst e; exact hr
    · have h1 := mono 1 (u - 1)
      have h2 := mono (u + 1) (x.p.toNat - (u + 1))
      rw [show 1 + (u - 1) = u by omega, e1] at h1
      rw [show u + 1 + (x.p.toNat - (u + 1)) = x.p.toNat by omega, h, comps_succ, if_pos hl, List.length_append] at h2
      simp only [List.length_singleton] at h1 h2
      omega
  · intro h
    have : ∀ n : Nat, 1 ≤ n → (n : Int) ≤ x.p → (comps x c n).length = 1 := by
      intro n
      induction n with
      | zero => intro h; omega
      | succ n ih =>
        intro _ hn
        by_cases e : n = 0
        · subst e; rw [e1]; rfl
        · have hnl : ¬ least x c n := fun hl => hl 0 (by omega) (h n (by omega))
          rw [comps_succ, if_neg hnl, List.append_nil]
          exact ih (by omega) (by omega)
    exact this _ (by omega) (by omega)

open Classical in
theorem specConn_l0 (x : Col) (hx : x.is) (k : Nat) (hk : 60 ≤ k) : spec_ConnectedColours_l0 k x k 0 [] = some (pick x.k.toNat fun c => decide (conn x c)) := by
  have hp := hx.1
  have hkk := hx.2.1
  obtain ⟨n, hn⟩ := nat_of (show 0 ≤ x.p by omega)
  have := loopI (f := fun k' t (s : List Int) => spec_ConnectedColours_l0 k x k' t s) x.k 0 (fun t s => t ≤ x.k ∧ s = pick t.toNat fun c => decide (conn x c)) (fun r => r = pick x.k.toNat fun c => decide (conn x c)) ?_ ?_ k 0 [] (by omega) (by omega) ⟨by omega, rfl⟩
  · obtain ⟨r, e, rfl⟩ := this
    exact e
  · intro k' t s h0 h1 ⟨_, q⟩
    left
    obtain ⟨m, rfl⟩ := nat_of h0
    simp only [Int.toNat_natCast] at q
    refine ⟨_, ?_, by omega, rfl⟩
    show spec_ConnectedColours_l0 k x (k' + 1) m s = _
    have e0 : ((m : Int) + 1).toNat = m + 1 := by omega
    obtain ⟨T, e, hT, hb⟩ := compS_eq x hp m 0 (by omega) k (by omega)
    rw [spec_ConnectedColours_l0, w64_succ h0 h1 (by omega), e0, rows_eq k x hp (by omega), u64_id (by omega), pick_succ, q]
    simp only [h1, decide_true, if_true, Option.bind_some, show 0 ≤ x.p by omega]
    have e' : spec_l04Component k (rowsB x m x.p.toNat) 0 = some (T : Int) := e
    rw [e']
    rw [hn, Int.toNat_natCast] at hT
    rw [hn, bShl_one (by omega)]
    have hpos : 0 < 2 ^ n := Nat.pow_pos (by omega)
    have h17 : 2 ^ n ≤ 2 ^ 17 := Nat.pow_le_pow_right (by omega) (by omega)
    have e2 : w64 (((2 ^ n : Nat) : Int) - 1) = ((2 ^ n - 1 : Nat) : Int) := by
      rw [w64_id (by have : (2 : Nat) ^ 17 = 131072 := rfl; omega)]; omega
    rw [e2]
    have hiff : ((T : Int) = ((2 ^ n - 1 : Nat) : Int)) ↔ conn x m := by
      constructor
      · intro h v hv
        have : T = 2 ^ n - 1 := by omega
        refine (hb v).1 ?_
        rw [this, Nat.testBit_two_pow_sub_one]
        simp; omega
      · intro h
        have : T = 2 ^ n - 1 := bits_eq fun v => by
          rw [Nat.testBit_two_pow_sub_one]
          by_cases hv : v < n
          · rw [(hb v).2 (h v (by omega))]; simp [hv]
          · rw [Nat.testBit_lt_two_pow (Nat.lt_of_lt_of_le hT (Nat.pow_le_pow_right (by omega) (by omega)))]; simp [hv]
        omega
    have hl := pick_length m fun c => decide (conn x c)
    have hl' : (pick m fun c => decide (conn x c)).length + 1 ≤ 1099511627776 := by omega
    simp only [Option.bind_some, hiff]
    by_cases hc : conn x m
    · simp [hc, hl']
    · simp [hc]
  · intro k' t s h0 h1 ⟨q1, q2⟩
    have : t = x.k := by omega
    subst this
    refine ⟨s, ?_, q2⟩
    show spec_ConnectedColours_l0 k x (k' + 1) x.k s = _
    rw [spec_ConnectedColours_l0]; simp

open Classical in
theorem implConn_l0 (x : Col) (hx : x.is) (k : Nat) (hk : 60 ≤ k) : impl_ConnectedColours_l0 k x k 0 [] = some (pick x.k.toNat fun c => decide (conn x c)) := by
  have hp := hx.1
  have hkk := hx.2.1
  have := loopI (f := fun k' t (s : List Int) => impl_ConnectedColours_l0 k x k' t s) x.k 0 (fun t s => t ≤ x.k ∧ s = pick t.toNat fun c => decide (conn x c)) (fun r => r = pick x.k.toNat fun c => decide (conn x c)) ?_ ?_ k 0 [] (by omega) (by omega) ⟨by omega, rfl⟩
  · obtain ⟨r, e, rfl⟩ := this
    exact e
  · intro k' t s h0 h1 ⟨_, q⟩
    left
    obtain ⟨m, rfl⟩ := nat_of h0
    simp only [Int.toNat_natCast] at q
    refine ⟨_, ?_, by omega, rfl⟩
    show impl_ConnectedColours_l0 k x (k' + 1) m s = _
    have e0 : ((m : Int) + 1).toNat = m + 1 := by omega
    obtain ⟨far, e, _⟩ := walk_eq x hp m k (by omega)
    rw [impl_ConnectedColours_l0, w64_succ h0 h1 (by omega), e0, e, pick_succ, q]
    have hiff : (((comps x m x.p.toNat).length : Int) = 1) ↔ conn x m := by rw [← comps_one x hp.1 m]; omega
    have hl := pick_length m fun c => decide (conn x c)
    have hl' : (pick m fun c => decide (conn x c)).length + 1 ≤ 1099511627776 := by omega
    simp only [h1, decide_true, if_true, Option.bind_some, hiff]
    by_cases hc : conn x m
    · simp [hc, hl']
    · simp [hc]
  · intro k' t s h0 h1 ⟨q1, q2⟩
    have : t = x.k := by omega
    subst this
    refine ⟨s, ?_, q2⟩
    show impl_ConnectedColours_l0 k x (k' + 1) x.k s = _
    rw [impl_ConnectedColours_l0]; simp
end Go.Proofs.Ytfpcopidcagdaaa
