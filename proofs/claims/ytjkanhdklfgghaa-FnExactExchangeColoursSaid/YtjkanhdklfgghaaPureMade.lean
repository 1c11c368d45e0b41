/- Colourings that are built edge by edge, and their equality. No conditions beyond those that each lemma states. -/
import Derived.Test.YtjkanhdklfgghaaPureBase
import Derived.Test.YtjkanhdklfgghaaGen6
set_option linter.unusedVariables false
set_option linter.unusedSimpArgs false
namespace Go.Proofs.Ytjkanhdklfgghaa
open Go Go.RowKit Ab

/-! ### Colourings that are built edge by edge -/
def MInv (n : Nat) (g : Nat → Nat → UInt8) (j i : Nat) (x : B136) : Prop :=
  (∀ a b, a < b → b < n → x.get (eN a b) = if b < j ∨ (b = j ∧ a < i) then g a b else 0) ∧ ∀ e, tri n ≤ e → e < 136 → x.get e = 0
theorem MInv.start (n : Nat) (g : Nat → Nat → UInt8) : MInv n g 0 0 B136.zero :=
  ⟨fun a b h hb => by rw [B136.get_zero, if_neg (by omega)], fun e _ _ => B136.get_zero e⟩
theorem MInv.row {n : Nat} {g : Nat → Nat → UInt8} {j : Nat} {x : B136} (h : MInv n g j j x) : MInv n g (j + 1) 0 x := by
  refine ⟨fun a b ha hb => ?_, h.2⟩
  rw [h.1 a b ha hb]
  by_cases hc : b < j ∨ (b = j ∧ a < j)
  · rw [if_pos hc, if_pos (by omega)]
  · rw [if_neg hc, if_neg (by omega)]
theorem MInv.step {n : Nat} {g : Nat → Nat → UInt8} {j i : Nat} {x : B136} (hn : n ≤ 17) (h : MInv n g j i x) (hj : j < n) (hi : i < j) : MInv n g j (i + 1) (x.set (eN i j) (g i j)) := by
  have h136 := eN_136 (i := i) (j := j) (by omega) (by omega) (by omega)
  refine ⟨fun a b ha hb => ?_, fun e he h1 => ?_⟩
  · rw [B136.get_set _ _ _ _ h136]
    by_cases e : eN a b = eN i j
    · obtain ⟨rfl, rfl⟩ := eN_inj ha (by omega) hi (by omega) e
      rw [if_pos rfl, if_pos (by omega)]
    · rw [if_neg e, h.1 a b ha hb]
      by_cases hc : b < j ∨ (b = j ∧ a < i)
      · rw [if_pos hc, if_pos (by omega)]
      · have : ¬ (a = i ∧ b = j) := fun ⟨x, y⟩ => e (by rw [x, y])
        rw [if_neg hc, if_neg (by omega)]
  · have := eN_lt hi hj hn
    rw [B136.get_set _ _ _ _ h136, if_neg (by omega), h.2 e he h1]
theorem MInv.keep {n : Nat} {g : Nat → Nat → UInt8} {j i : Nat} {x : B136} (hn : n ≤ 17) (h : MInv n g j i x) (hj : j < n) (hi : i < j) (h0 : g i j = 0) : MInv n g j (i + 1) x := by
  have := MInv.step hn h hj hi
  have e : x.get (eN i j) = g i j := by rw [h.1 i j hi hj, if_neg (by omega), h0]
  rwa [← e, B136.set_get] at this
/-- A colouring with these colours between the points and nothing behind them. -/
structure Made (x : Col) (n k : Int) (g : Nat → Nat → UInt8) : Prop where
  p : x.p = n
  k : x.k = k
  e : ∀ a b : Nat, a < b → (b : Int) < n → x.e.get (eN a b) = g a b
  z : ∀ e, tri n.toNat ≤ e → e < 136 → x.e.get e = 0
theorem MInv.made {n : Nat} {g : Nat → Nat → UInt8} {x : Col} {k : Int} (h : MInv n g n 0 x.e) (hp : x.p = n) (hk : x.k = k) : Made x n k g :=
  ⟨hp, hk, fun a b ha hb => by rw [h.1 a b ha (by omega), if_pos (by omega)], fun e he h1 => h.2 e (by simpa using he) h1⟩
theorem Made.eq {x y : Col} {n k : Int} {g g' : Nat → Nat → UInt8} (hn0 : 0 ≤ n) (hn : n ≤ 17) (h : Made x n k g) (h' : Made y n k g') (hg : ∀ a b : Nat, a < b → (b : Int) < n → g a b = g' a b) : x = y := by
  refine Col.ext' (by rw [h.p, h'.p]) (by rw [h.k, h'.k]) (B136.ext_get fun e he => ?_)
  by_cases ht : e < tri n.toNat
  · obtain ⟨j, hj, i, hi, rfl⟩ := eN_surj (n := n.toNat) (by omega) ht
    rw [h.e i j hi (by omega), h'.e i j hi (by omega), hg i j hi (by omega)]
  · rw [h.z e (by omega) he, h'.z e (by omega) he]

theorem made_l1 (f : Int → Int → Option Int) (n : Nat) (hn : n ≤ 17) (g : Nat → Nat → Int) (j : Nat) (hj : j < n) (hf : ∀ i : Nat, i < j → f i j = some (g i j)) (p c : Int) :
    ∀ k, 18 ≤ k → ∀ x : Col, x.p = p → x.k = c → MInv n (fun a b => toByte (g a b)) j 0 x.e → ∃ y : Col, impl_made_l1 f (j : Int) k 0 x = some y ∧ y.p = p ∧ y.k = c ∧ MInv n (fun a b => toByte (g a b)) j j y.e := by
  intro k hk x hp hc hx
  refine loopI (f := fun k i s => impl_made_l1 f (j : Int) k i s) (j : Int) 0 (fun i s => s.p = p ∧ s.k = c ∧ MInv n (fun a b => toByte (g a b)) j i.toNat s.e ∧ i ≤ j) (fun y => y.p = p ∧ y.k = c ∧ MInv n (fun a b => toByte (g a b)) j j y.e) ?_ ?_ k 0 x (by omega) (by omega) ⟨hp, hc, hx, by omega⟩
  · intro k i s h0 h1 ⟨q1, q2, q3, _⟩
    left
    obtain ⟨m, rfl⟩ := nat_of h0
    refine ⟨s.set (eN m j) (toByte (g m j)), ?_, q1, q2, ?_, by omega⟩
    · show impl_made_l1 f (j : Int) (k + 1) m s = _
      rw [impl_made_l1, hf m (by omega), w64_succ h0 h1 (by omega)]
      unfold impl_Colouring_put
      rw [number_eq m j (by omega) (by omega)]
      have := eN_136 (i := m) (j := j) (by omega) (by omega) (by omega)
      have h136 : ((eN m j : Nat) : Int) < 136 := by omega
      have hmj : m < j := by omega
      simp [hmj, this, h136]
    · have := MInv.step hn q3 hj (show m < j by omega)
      exact this
  · intro k i s h0 h1 ⟨q1, q2, q3, q4⟩
    have : i = j := by omega
    subst this
    refine ⟨s, ?_, q1, q2, q3⟩
    show impl_made_l1 f (j : Int) (k + 1) j s = _
    rw [impl_made_l1]; simp
theorem made_eq (f : Int → Int → Option Int) (n : Int) (hn0 : 0 ≤ n) (hn : n ≤ 17) (g : Nat → Nat → Int) (hf : ∀ i j : Nat, i < j → (j : Int) < n → f i j = some (g i j)) (c : Int) :
    ∀ k, 19 ≤ k → ∃ y : Col, impl_made k n c f = some y ∧ Made y n c (fun a b => toByte (g a b)) := by
  intro k hk
  obtain ⟨n, rfl⟩ := nat_of hn0
  unfold impl_made
  have := loopI (f := fun k' i s => impl_made_l0 k n f k' i s) (n : Int) 0 (fun i (s : Col) => s.p = n ∧ s.k = c ∧ MInv n (fun a b => toByte (g a b)) i.toNat 0 s.e ∧ i ≤ n) (fun y => Made y n c (fun a b => toByte (g a b))) ?_ ?_ k 0 (⟨n, c, B136.zero⟩ : Col) (by omega) (by omega) ⟨rfl, rfl, MInv.start _ _, by omega⟩
  · obtain ⟨y, e, h⟩ := this
    exact ⟨y, by rw [e]; rfl, h⟩
  · intro k' i s h0 h1 ⟨q1, q2, q3, _⟩
    left
    obtain ⟨j, rfl⟩ := nat_of h0
    obtain ⟨y, e, h1', h2', h3'⟩ := made_l1 f n (by omega) g j (by omega) (fun i hi => hf i j hi h1) n c k (by omega) s q1 q2 q3
    refine ⟨y, ?_, h1', h2', MInv.row h3', by omega⟩
    show impl_made_l0 k n f (k' + 1) j s = _
    rw [impl_made_l0, e, w64_succ h0 h1 (by omega)]
    have : j < n := by omega
    simp [this]
  · intro k' i s h0 h1 ⟨q1, q2, q3, q4⟩
    have : i = n := by omega
    subst this
    refine ⟨s, ?_, MInv.made q3 q1 q2⟩
    show impl_made_l0 k n f (k' + 1) n s = _
    rw [impl_made_l0]; simp

/-! ### Equality of colourings -/
theorem eqB_refl (k : Nat) (h : 137 ≤ k) (x : B136) : laws_eqByteA136 k x x = some true := by
  unfold laws_eqByteA136
  have := loopAll (f := fun k' i => laws_eqByteA136_l0 x x k' i) 136 false (fun _ => True) 0
    (fun k' i h0 h1 _ => by
      show laws_eqByteA136_l0 x x (k' + 1) i = _
      rw [laws_eqByteA136_l0, w64_succ h0 h1 (by omega)]
      simp [h0, h1])
    (fun k' i h0 h1 hq => (hq trivial).elim)
    (fun k' i h1 => by
      show laws_eqByteA136_l0 x x (k' + 1) i = _
      rw [laws_eqByteA136_l0]
      have : ¬ i < 136 := by omega
      simp [this]) k 0 (by omega) (by omega)
  rw [this]; simp
theorem eqCol_refl (k : Nat) (h : 137 ≤ k) (x : Col) : laws_eqColouring k x x = some true := by
  unfold laws_eqColouring
  rw [eqB_refl k h]; simp
end Go.Proofs.Ytjkanhdklfgghaa
