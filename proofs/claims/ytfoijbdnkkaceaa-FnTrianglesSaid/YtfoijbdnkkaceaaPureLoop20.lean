/- Plain laws: loops that collect and loops that add up; points of which something is so. No conditions beyond those that each lemma states. -/
import Derived.Test.YtfoijbdnkkaceaaPureClq20
import Derived.Test.YtfoijbdnkkaceaaTri
set_option linter.unusedVariables false
set_option linter.unusedSimpArgs false
namespace Go.Proofs.Ytfoijbdnkkaceaa
open Go Go.RowKit Ab

def mapL (m : Nat) (f : Nat → Int) : List Int := (List.range m).map f
theorem mapL_length (m : Nat) (f : Nat → Int) : (mapL m f).length = m := by simp [mapL]
theorem mapL_succ (m : Nat) (f : Nat → Int) : mapL (m + 1) f = mapL m f ++ [f m] := by simp [mapL, List.range_succ]
theorem mapL_get (m : Nat) (f : Nat → Int) (i : Nat) (h : i < m) : (mapL m f).getD i 0 = f i := by simp [mapL, List.getD, h]

/-- A loop that collects a list. -/
theorem collect (F : Nat → Int → List Int → Option (List Int)) (m : Nat) (f : Nat → Int) (hstep : ∀ (k' i : Nat) (s : List Int), i < m → s.length ≤ i → F (k' + 1) i s = F k' ((i + 1 : Nat) : Int) (s ++ [f i])) (hfin : ∀ (k' : Nat) (s : List Int), F (k' + 1) m s = some s) (k : Nat) (hk : m < k) : F k 0 [] = some (mapL m f) := by
  have key : ∀ (d i k : Nat), m - i = d → i ≤ m → d < k → F k i (mapL i f) = some (mapL m f) := by
    intro d
    induction d with
    | zero =>
      intro i k h1 h2 h3
      obtain ⟨k, rfl⟩ : ∃ q, k = q + 1 := ⟨k - 1, by omega⟩
      obtain rfl : i = m := by omega
      exact hfin k _
    | succ d ih =>
      intro i k h1 h2 h3
      obtain ⟨k, rfl⟩ : ∃ q, k = q + 1 := ⟨k - 1, by omega⟩
      rw [hstep k i _ (by omega) (by rw [mapL_length]; exact Nat.le_refl _), ← mapL_succ]
      exact ih (i + 1) k (by omega) (by omega) (by omega)
  exact key m 0 k (by omega) (by omega) hk

/-- A loop that adds up. -/
theorem accum (F : Nat → Int → Int → Option Int) (m : Nat) (f : Nat → Int) (b S : Int) (hf : ∀ i, i < m → 0 ≤ f i ∧ f i ≤ b) (hstep : ∀ (k' i : Nat) (s : Int), i < m → 0 ≤ s → s + b ≤ S → F (k' + 1) s i = F k' (s + f i) ((i + 1 : Nat) : Int)) (hfin : ∀ (k' : Nat) (s : Int), F (k' + 1) s m = some s)
    (k : Nat) (hk : m < k) (hb : 0 ≤ b) (s0 : Int) (h0 : 0 ≤ s0) (h1 : s0 + m * b ≤ S) : F k s0 0 = some (s0 + sg m f) := by
  have key : ∀ (d i k : Nat) (s : Int), m - i = d → i ≤ m → d < k → 0 ≤ s → s + d * b ≤ S → F k s i = some (s + (sg m f - sg i f)) := by
    intro d
    induction d with
    | zero =>
      intro i k s h1 h2 h3 _ _
      obtain ⟨k, rfl⟩ : ∃ q, k = q + 1 := ⟨k - 1, by omega⟩
      obtain rfl : i = m := by omega
      rw [hfin k s]; congr 1; omega
    | succ d ih =>
      intro i k s h1 h2 h3 h4 h5
      obtain ⟨k, rfl⟩ : ∃ q, k = q + 1 := ⟨k - 1, by omega⟩
      have := hf i (by omega)
      have e : ((d + 1 : Nat) : Int) * b = d * b + b := by rw [Int.natCast_add, Int.add_mul]; simp
      have hdb : 0 ≤ (d : Int) * b := Int.mul_nonneg (by omega) hb
      rw [e] at h5
      rw [hstep k i s (by omega) h4 (by omega), ih (i + 1) k _ (by omega) (by omega) (by omega) (by omega) (by omega)]
      congr 1
      simp only [sg]; omega
  have := key m 0 k s0 (by omega) (by omega) hk h0 h1
  rw [show ((0 : Nat) : Int) = 0 from rfl] at this
  rw [this]
  simp [sg]

theorem sg_range {n : Nat} {f : Nat → Int} {b : Int} (h : ∀ i, i < n → 0 ≤ f i ∧ f i ≤ b) : 0 ≤ sg n f ∧ sg n f ≤ n * b := by
  have h1 : sg n (fun _ => 0) ≤ sg n f := sg_le fun i hi => (h i hi).1
  have h2 : sg n f ≤ sg n (fun _ => b) := sg_le fun i hi => (h i hi).2
  rw [sg_zero] at h1
  rw [sg_const] at h2
  exact ⟨h1, h2⟩

/-- All points of which something is so. -/
theorem that_val {k : Nat} (x : Col) (hp : 1 ≤ x.p ∧ x.p ≤ 17) (hk : 20 ≤ k) (so : Int → Option Bool) (S : Int → Bool) (hs : ∀ a : Nat, (a : Int) < x.p → so a = some (S a)) : impl_Colouring_that k x so = some ((ir 0 x.p.toNat).filter S) := by
  have snoc : ∀ j, ir 0 (j + 1) = ir 0 j ++ [(j : Int)] := fun j => by
    unfold ir
    rw [show j + 1 - 0 = j + 1 by omega, List.range'_concat]
    simp
  unfold impl_Colouring_that
  have := loopI (f := fun k' i (s : List Int) => impl_Colouring_that_l0 x so k' i s) x.p 0 (fun i s => i ≤ x.p ∧ s = (ir 0 i.toNat).filter S) (fun r => r = (ir 0 x.p.toNat).filter S) ?_ ?_ k 0 [] (by omega) (by omega) ⟨by omega, rfl⟩
  · obtain ⟨r, e, rfl⟩ := this
    rw [e]; rfl
  · intro k' i s h0 h1 ⟨_, q⟩
    left
    obtain ⟨m, rfl⟩ := nat_of h0
    refine ⟨_, ?_, by omega, rfl⟩
    show impl_Colouring_that_l0 x so (k' + 1) m s = _
    have e0 : ((m : Int) + 1).toNat = m + 1 := by omega
    simp only [Int.toNat_natCast] at q
    have hl : s.length ≤ m := by
      rw [q]
      exact Nat.le_trans (List.length_filter_le _ _) (by rw [ir_length]; omega)
    have hl' : s.length + ([(m : Int)]).length ≤ 1099511627776 := by simp; omega
    rw [impl_Colouring_that_l0, w64_succ h0 h1 (by omega), e0, hs m h1, snoc, List.filter_append, ← q]
    cases hS : S m with
    | true =>
      have : [(m : Int)].filter S = [(m : Int)] := by simp [hS]
      rw [this]
      simp only [h1, decide_true, if_true, Option.bind_some, if_pos hl']
    | false => simp [h1, hS]
  · intro k' i s h0 h1 ⟨q1, q2⟩
    have : i = x.p := by omega
    subst this
    refine ⟨s, ?_, q2⟩
    show impl_Colouring_that_l0 x so (k' + 1) x.p s = _
    rw [impl_Colouring_that_l0]; simp

theorem aB_ad (x : Col) (c : Int) : aB x c = ad x.cc c := rfl
def dgN (x : Col) (c a : Int) : Nat := ((pts x).filter (aB x c a)).length
theorem dgN_dg (x : Col) (c a : Int) : (dgN x c a : Int) = dg x.cc x.p.toNat c a := by
  unfold dgN dg pts
  rw [flt_sg, aB_ad]
theorem dgN_le {x : Col} (hp : 1 ≤ x.p ∧ x.p ≤ 17) (c a : Int) : dgN x c a ≤ 17 := by
  unfold dgN
  refine Nat.le_trans (List.length_filter_le _ _) ?_
  unfold pts
  rw [ir_length]; omega

theorem neigh_val {k : Nat} (x : Col) (hp : 1 ≤ x.p ∧ x.p ≤ 17) (hk : 20 ≤ k) (c : Int) (a : Nat) (ha : (a : Int) < x.p) : impl_Colouring_neighbours k x a c = some ((pts x).filter (aB x c a)) := by
  unfold impl_Colouring_neighbours
  rw [that_val x hp hk (fun a0 => impl_Colouring_neighbours_c1 a0 x a c) (aB x c a) fun b hb => by
    unfold impl_Colouring_neighbours_c1 impl_Colouring_joins aB
    by_cases e : (a : Int) = b
    · rw [decide_eq_true e]
      have : ¬ ((a : Int) ≠ (b : Int) ∧ x.cc a b = c) := fun h => h.1 e
      rw [decide_eq_false this]
      simp
    · rw [decide_eq_false e, implAt_ne x a b (by omega) (by omega) (by omega) (by omega) e]
      simp [e]]
  rfl

theorem degrees_val {k : Nat} (x : Col) (hp : 1 ≤ x.p ∧ x.p ≤ 17) (hk : 20 ≤ k) (c : Int) : impl_Colouring_degrees k x c = some (mapL x.p.toNat fun a => (dgN x c a : Int)) := by
  unfold impl_Colouring_degrees
  have := collect (fun k' i s => impl_Colouring_degrees_l0 k x c k' i s) x.p.toNat (fun a => (dgN x c a : Int)) (fun k' i s hi hl => by
    have h1 : (i : Int) < x.p := by omega
    have hl' : s.length + ([(impl_size ((pts x).filter (aB x c i)))]).length ≤ 1099511627776 := by simp; omega
    rw [impl_Colouring_degrees_l0, neigh_val x hp hk c i h1, w64_id (by omega)]
    simp only [h1, decide_true, if_true, Option.bind_some, hl']
    rfl) (fun k' s => by
    have : ((x.p.toNat : Nat) : Int) = x.p := by omega
    rw [this, impl_Colouring_degrees_l0]; simp) k (by omega)
  rw [this]; rfl
end Go.Proofs.Ytfoijbdnkkaceaa
