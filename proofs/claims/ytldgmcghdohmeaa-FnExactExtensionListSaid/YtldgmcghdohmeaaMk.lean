/- Colourings that are built edge by edge: mkC, the colouring with these colours between its points. No program. No conditions beyond those that each lemma states. -/
import Derived.Test.YtldgmcghdohmeaaPKit
import Derived.Test.YtldgmcghdohmeaaCol
set_option linter.unusedVariables false
set_option linter.unusedSimpArgs false
namespace Go.Proofs.Ytldgmcghdohmeaa
open Go Go.RowKit Ab

def MInv (n : Nat) (g : Nat → Nat → UInt8) (j i : Nat) (x : B136) : Prop :=
  (∀ a b, a < b → b < n → x.get (eN a b) = if b < j ∨ (b = j ∧ a < i) then g a b else 0) ∧ ∀ e, tri n ≤ e → e < 136 → x.get e = 0

theorem MInv.row {n : Nat} {g : Nat → Nat → UInt8} {j : Nat} {x : B136} (h : MInv n g j j x) : MInv n g (j + 1) 0 x := by
  refine ⟨fun a b ha hb => ?_, h.2⟩
  rw [h.1 a b ha hb]
  by_cases hc : b < j ∨ (b = j ∧ a < j)
  · rw [if_pos hc, if_pos (by omega)]
  · rw [if_neg hc, if_neg (by omega)]

theorem MInv.step {n : Nat} {g : Nat → Nat → UInt8} {j i : Nat} {x : B136} (hn : n ≤ 17) (h : MInv n g j i x) (hj : j < n) (hi : i < j) : MInv n g j (i + 1) (x.set (eN i j) (g i j)) := by
  have h136 := eN_136 (i := i) (j := j) (by omega) (by omega) (by omega)
  refine ⟨fun a b ha hb => ?_, fun e he h1 => ?_⟩
  · rw [B136.get_set _ _ _ _ h136]
    by_cases e : eN a b = eN i j
    · obtain ⟨rfl, rfl⟩ := eN_inj ha (by omega) hi (by omega) e
      rw [if_pos rfl, if_pos (by omega)]
    · rw [if_neg e, h.1 a b ha hb]
      by_cases hc : b < j ∨ (b = j ∧ a < i)
      · rw [if_pos hc, if_pos (by omega)]
      · have : ¬ (a = i ∧ b = j) := fun ⟨x, y⟩ => e (by rw [x, y])
        rw [if_neg hc, if_neg (by omega)]
  · have := eN_lt hi hj hn
    rw [B136.get_set _ _ _ _ h136, if_neg (by omega), h.2 e he h1]

theorem MInv.keep {n : Nat} {g : Nat → Nat → UInt8} {j i : Nat} {x : B136} (hn : n ≤ 17) (h : MInv n g j i x) (hj : j < n) (hi : i < j) (h0 : g i j = 0) : MInv n g j (i + 1) x := by
  have := MInv.step hn h hj hi
  have e : x.get (eN i j) = g i j := by rw [h.1 i j hi hj, if_neg (by omega), h0]
  rwa [← e, B136.set_get] at this

/-- A colouring with these colours between the points and nothing behind them. -/
structure Made (x : Col) (n k : Int) (g : Nat → Nat → UInt8) : Prop where
  p : x.p = n
  k : x.k = k
  e : ∀ a b : Nat, a < b → (b : Int) < n → x.e.get (eN a b) = g a b
  z : ∀ e, tri n.toNat ≤ e → e < 136 → x.e.get e = 0

theorem MInv.made {n : Nat} {g : Nat → Nat → UInt8} {x : Col} {k : Int} (h : MInv n g n 0 x.e) (hp : x.p = n) (hk : x.k = k) : Made x n k g :=
  ⟨hp, hk, fun a b ha hb => by rw [h.1 a b ha (by omega), if_pos (by omega)], fun e he h1 => h.2 e (by simpa using he) h1⟩

theorem Made.eq {x y : Col} {n k : Int} {g g' : Nat → Nat → UInt8} (hn0 : 0 ≤ n) (hn : n ≤ 17) (h : Made x n k g) (h' : Made y n k g') (hg : ∀ a b : Nat, a < b → (b : Int) < n → g a b = g' a b) : x = y := by
  refine Col.ext' (by rw [h.p, h'.p]) (by rw [h.k, h'.k]) (B136.ext_get fun e he => ?_)
  by_cases ht : e < tri n.toNat
  · obtain ⟨j, hj, i, hi, rfl⟩ := eN_surj (n := n.toNat) (by omega) ht
    rw [h.e i j hi (by omega), h'.e i j hi (by omega), hg i j hi (by omega)]
  · rw [h.z e (by omega) he, h'.z e (by omega) he]

/-! ### The colouring with these colours -/
def B136.ofF (f : Nat → UInt8) : B136 := ⟨(List.range 136).map f, by simp⟩
theorem B136.get_ofF (f : Nat → UInt8) (e : Nat) (h : e < 136) : (B136.ofF f).get e = f e := by
  simp [B136.get, B136.ofF, List.getD, h]
/-- The lesser and the greater point of an edge. -/
def eLo (e : Nat) : Nat := e - tri (eHi e)
theorem eN_parts : ∀ j, j < 17 → ∀ i, i < j → eHi (eN i j) = j ∧ eLo (eN i j) = i := by
  have h : ∀ j, j < 17 → ∀ i, i < j → eHi (eN i j) = j ∧ eN i j - tri j = i := by decide +kernel
  intro j hj i hi
  refine ⟨(h j hj i hi).1, ?_⟩
  unfold eLo
  rw [(h j hj i hi).1]
  exact (h j hj i hi).2
def mkC (n : Nat) (k : Int) (g : Nat → Nat → Int) : Col := ⟨n, k, B136.ofF fun e => if e < tri n then toByte (g (eLo e) (eHi e)) else 0⟩
theorem mkC_get {n : Nat} (hn : n ≤ 17) (k : Int) (g : Nat → Nat → Int) {a b : Nat} (hab : a < b) (hb : b < n) : (mkC n k g).e.get (eN a b) = toByte (g a b) := by
  have h1 := eN_lt hab hb hn
  have h2 := tri_le hn
  show (B136.ofF _).get _ = _
  rw [B136.get_ofF _ _ (by omega), if_pos h1, (eN_parts b (by omega) a hab).1, (eN_parts b (by omega) a hab).2]
theorem mkC_made {n : Nat} (hn : n ≤ 17) (k : Int) (g : Nat → Nat → Int) : Made (mkC n k g) n k (fun a b => toByte (g a b)) := by
  refine ⟨rfl, rfl, fun a b hab hb => mkC_get hn k g hab (by omega), fun e he h1 => ?_⟩
  show (B136.ofF _).get _ = _
  rw [B136.get_ofF _ _ h1, if_neg (by simpa using he)]
theorem Made.to {x : Col} {n : Nat} {k : Int} {g : Nat → Nat → Int} {g' : Nat → Nat → UInt8} (hn : n ≤ 17) (h : Made x n k g') (hg : ∀ a b : Nat, a < b → b < n → g' a b = toByte (g a b)) : x = mkC n k g :=
  Made.eq (by omega) (by omega) h (mkC_made hn k g) fun a b hab hb => hg a b hab (by omega)
end Go.Proofs.Ytldgmcghdohmeaa
