/- Colourings that are built edge by edge: mkC, the colouring with these colours between its points. No program. No conditions beyond those that each lemma states. -/
import Derived.Test.YtldgmcghdohmeaaGreatMg14
import Derived.Test.YtldgmcghdohmeaaGreatCol
set_option linter.unusedVariables false
set_option linter.unusedSimpArgs false
namespace Go.Proofs.YtldgmcghdohmeaaGreat
open Go Go.RowKit Ab

def MInv (n : Nat) (g : Nat → Nat → UInt8) (j i : Nat) (x : B136) : Prop :=
 (∀ a b, a < b → b < n → x.get (eN a b) = if b < j ∨ (b = j ∧ a < i) then g a b else 0) ∧ ∀ e, tri n ≤ e → e < 136 → x.get e = 0

theorem MInv.start (n : Nat) (g : Nat → Nat → UInt8) : MInv n g 0 0 B136.zero :=
 ⟨fun a b h hb => by rw [B136.get_zero, if_neg (by omega)], fun e _ _ => B136.get_zero e⟩

theorem MInv.row {n : Nat} {g : Nat → Nat → UInt8} {j : Nat} {x : B136} (h : MInv n g j j x) : MInv n g (j + 1) 0 x := by
 refine ⟨fun a b ha hb => ?_, h.2⟩
 rw [h.1 a b ha hb]
 by_cases hc : b < j ∨ (b = j ∧ a < j)
 ·rw [if_pos hc, if_pos (by omega)]
 ·rw [if_neg hc, if_neg (by omega)]

theorem MInv.step {n : Nat} {g : Nat → Nat → UInt8} {j i : Nat} {x : B136} (hn : n ≤ 17) (h : MInv n g j i x) (hj : j < n) (hi : i < j) : MInv n g j (i + 1) (x.set (eN i j) (g i j)) := by
 have h136 := eN_136 (i := i) (j := j) (by omega) (by omega) (by omega)
 refine ⟨fun a b ha hb => ?_, fun e he h1 => ?_⟩
 ·rw [B136.get_set _ _ _ _ h136]
  by_cases e : eN a b = eN i j
  ·obtain ⟨rfl, rfl⟩ := eN_inj ha (by omega) hi (by omega) e
   rw [if_pos rfl, if_pos (by omega)]
  ·rw [if_neg e, h.1 a b ha hb]
   by_cases hc : b < j ∨ (b = j ∧ a < i)
   ·rw [if_pos hc, if_pos (by omega)]
   ·have : ¬ (a = i ∧ b = j) := fun ⟨x, y⟩ => e (by rw [x, y])
    rw [if_neg hc, if_neg (by omega)]
 ·have := eN_lt hi hj hn
  rw [B136.get_set _ _ _ _ h136, if_neg (by omega), h.2 e he h1]

theorem MInv.keep {n : Nat} {g : Nat → Nat → UInt8} {j i : Nat} {x : B136} (hn : n ≤ 17) (h : MInv n g j i x) (hj : j < n) (hi : i < j) (h0 : g i j = 0) : MInv n g j (i + 1) x := by
 have := MInv.step hn h hj hi
 have e : x.get (eN i j) = g i j := by rw [h.1 i j hi hj, if_neg (by omega), h0]
 rwa [← e, B136.set_get] at this

/-- A colouring with these colours between the points and nothing behind them. -/
structure Made (x : Col) (n k : Int) (g : Nat → Nat → UInt8) : Prop where
 p : x.p = n
 k : x.k = k
 e : ∀ a b : Nat, a < b → (b : Int) < n → x.e.get (eN a b) = g a b
 z : ∀ e, tri n.toNat ≤ e → e < 136 → x.e.get e = 0

theorem MInv.made {n : Nat} {g : Nat → Nat → UInt8} {x : Col} {k : Int} (h : MInv n g n 0 x.e) (hp : x.p = n) (hk : x.k = k) : Made x n k g :=
 ⟨hp, hk, fun a b ha hb => by rw [h.1 a b ha (by omega), if_pos (by omega)], fun e he h1 => h.2 e (by simpa using he) h1⟩

theorem Made.eq {x y : Col} {n k : Int} {g g' : Nat → Nat → UInt8} (hn0 : 0 ≤ n) (hn : n ≤ 17) (h : Made x n k g) (h' : Made y n k g') (hg : ∀ a b : Nat, a < b → (b : Int) < n → g a b = g' a b) : x = y := by
 refine Col.ext' (by rw [h.p, h'.p]) (by rw [h.k, h'.k]) (B136.ext_get fun e he => ?_)
 by_cases ht : e < tri n.toNat
 ·obtain ⟨j, hj, i, hi, rfl⟩ := eN_surj (n := n.toNat) (by omega) ht
  rw [h.e i j hi (by omega), h'.e i j hi (by omega), hg i j hi (by omega)]
 ·rw [h.z e (by omega) he, h'.z e (by omega) he]

/-! ### The colouring with these colours -/
def B136.ofF (f : Nat → UInt8) : B136 := ⟨(List.range 136).map f, by simp⟩
theorem B136.get_ofF (f : Nat → UInt8) (e : Nat) (h : e < 136) : (B136.ofF f).get e = f e := by
 simp [B136.get, B136.ofF, List.getD, h]
/-- The lesser and the greater point of an edge. -/
def eLo (e : Nat) : Nat := e - tri (eHi e)
theorem eN_parts : ∀ j, j < 17 → ∀ i, i < j → eHi (eN i j) = j ∧ eLo (eN i j) = i := by
 have h : ∀ j, j < 17 → ∀ i, i < j → eHi (eN i j) = j ∧ eN i j - tri j = i := by decide +kernel
 intro j hj i hi
 refine ⟨(h j hj i hi).1, ?_⟩
 unfold eLo
 rw [(h j hj i hi).1]
 exact (h j hj i hi).2
def mkC (n : Nat) (k : Int) (g : Nat → Nat → Int) : Col := ⟨n, k, B136.ofF fun e => if e < tri n then toByte (g (eLo e) (eHi e)) else 0⟩
theorem mkC_get {n : Nat} (hn : n ≤ 17) (k : Int) (g : Nat → Nat → Int) {a b : Nat} (hab : a < b) (hb : b < n) : (mkC n k g).e.get (eN a b) = toByte (g a b) := by
 have h1 := eN_lt hab hb hn
 have h2 := tri_le hn
 show (B136.ofF _).get _ = _
 rw [B136.get_ofF _ _ (by omega), if_pos h1, (eN_parts b (by omega) a hab).1, (eN_parts b (by omega) a hab).2]
theorem mkC_made {n : Nat} (hn : n ≤ 17) (k : Int) (g : Nat → Nat → Int) : Made (mkC n k g) n k (fun a b => toByte (g a b)) := by
 refine ⟨rfl, rfl, fun a b hab hb => mkC_get hn k g hab (by omega), fun e he h1 => ?_⟩
 show (B136.ofF _).get _ = _
 rw [B136.get_ofF _ _ h1, if_neg (by simpa using he)]
theorem Made.to {x : Col} {n : Nat} {k : Int} {g : Nat → Nat → Int} {g' : Nat → Nat → UInt8} (hn : n ≤ 17) (h : Made x n k g') (hg : ∀ a b : Nat, a < b → b < n → g' a b = toByte (g a b)) : x = mkC n k g :=
 Made.eq (by omega) (by omega) h (mkC_made hn k g) fun a b hab hb => hg a b hab (by omega)
theorem mkC_congr {n : Nat} (hn : n ≤ 17) (k : Int) {g g' : Nat → Nat → Int} (h : ∀ a b : Nat, a < b → b < n → g a b = g' a b) : mkC n k g = mkC n k g' :=
 Made.to hn (mkC_made hn k g) fun a b hab hb => by rw [h a b hab hb]
/-- Two loops, one in the other, that put each edge: what they make. -/
theorem nest1 (F : Nat → Int → Col → Option Col) (n : Nat) (hn : n ≤ 17) (g : Nat → Nat → Int) (j : Nat) (hj : j < n) (c : Int)
  (hs : ∀ (k' i : Nat) (s : Col), i < j → s.p = n → s.k = c → F (k' + 1) i s = F k' ((i + 1 : Nat) : Int) (s.set (eN i j) (toByte (g i j)))) (he : ∀ (k' : Nat) (s : Col), F (k' + 1) j s = some s) :
  ∀ (d i K : Nat) (s : Col), i + d = j → d < K → s.p = n → s.k = c → MInv n (fun a b => toByte (g a b)) j i s.e → ∃ y, F K i s = some y ∧ y.p = n ∧ y.k = c ∧ MInv n (fun a b => toByte (g a b)) j j y.e := by
 intro d
 induction d with
 | zero =>
  intro i K s h1 h2 q1 q2 q3
  obtain ⟨K, rfl⟩ : ∃ q, K = q + 1 := ⟨K - 1, by omega⟩
  obtain rfl : i = j := by omega
  exact ⟨s, he K s, q1, q2, q3⟩
 | succ d ih =>
  intro i K s h1 h2 q1 q2 q3
  obtain ⟨K, rfl⟩ : ∃ q, K = q + 1 := ⟨K - 1, by omega⟩
  rw [hs K i s (by omega) q1 q2]
  exact ih (i + 1) K _ (by omega) (by omega) q1 q2 (MInv.step hn q3 hj (by omega))
theorem nest (F : Nat → Int → Col → Option Col) (n : Nat) (hn : n ≤ 17) (g : Nat → Nat → Int) (c : Int)
  (hs : ∀ (k' j : Nat) (s : Col), j < n → s.p = n → s.k = c → MInv n (fun a b => toByte (g a b)) j 0 s.e → ∃ y : Col, (y.p = n ∧ y.k = c ∧ MInv n (fun a b => toByte (g a b)) j j y.e) ∧ F (k' + 1) j s = F k' ((j + 1 : Nat) : Int) y)
  (he : ∀ (k' : Nat) (s : Col), s.p = n → F (k' + 1) n s = some s) (K j0 : Nat) (hj : j0 ≤ 1) (hj0 : j0 ≤ n) (hK : n < K) : F K j0 ⟨n, c, B136.zero⟩ = some (mkC n c g) := by
 have key : ∀ (d j K : Nat) (s : Col), j + d = n → d < K → s.p = n → s.k = c → MInv n (fun a b => toByte (g a b)) j 0 s.e → F K j s = some (mkC n c g) := by
  intro d
  induction d with
  | zero =>
   intro j K s h1 h2 q1 q2 q3
   obtain ⟨K, rfl⟩ : ∃ q, K = q + 1 := ⟨K - 1, by omega⟩
   obtain rfl : j = n := by omega
   rw [he K s q1]
   exact congrArg some (Made.to hn (MInv.made q3 q1 q2) fun _ _ _ _ => rfl)
  | succ d ih =>
   intro j K s h1 h2 q1 q2 q3
   obtain ⟨K, rfl⟩ : ∃ q, K = q + 1 := ⟨K - 1, by omega⟩
   obtain ⟨y, ⟨r1, r2, r3⟩, e⟩ := hs K j s (by omega) q1 q2 q3
   rw [e]
   exact ih (j + 1) K y (by omega) (by omega) r1 r2 (MInv.row r3)
 refine key (n - j0) j0 K _ (by omega) (by omega) rfl rfl ?_
 refine ⟨fun a b hab hb => ?_, fun e _ _ => B136.get_zero e⟩
 show B136.zero.get _ = _
 rw [B136.get_zero, if_neg (by omega)]
end Go.Proofs.YtldgmcghdohmeaaGreat
