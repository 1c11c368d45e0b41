/- Own library: a byte taken out of a text everywhere, as the library's replaceAll. No conditions. -/
import Derived.Test.YtfhdihekehlkiaaGreatDoorAb18
import Derived.Test.YtfhdihekehlkiaaGreatDoorCol
import Derived.Lib.ReplaceLaws
import Derived.Lib.IndexBytes
import Derived.Lib.CountLaws
set_option linter.unusedVariables false
set_option linter.unusedSimpArgs false
namespace Go.Proofs.YtfhdihekehlkiaaGreatDoor
open Go Go.RowKit Ab

theorem colD_setW (x : Col) (i : Nat) (z : Int) : (colD x).set (2 + i) (.s (.int .u8 (IntKind.u8.wrap z))) = colD (x.set i (toByte z)) := by
  rw [toByte_spec]
  exact colD_setE x i (toByte z)
theorem ixb_none (c : UInt8) (T : List UInt8) (h : c ∉ T) : Lib.indexByte T c = -1 := by
  induction T with
  | nil => rfl
  | cons b l ih =>
    have h1 : (b == c) = false := by simpa using fun e => h (by simp [e])
    rw [Lib.indexByte, h1, ih (fun e => h (by simp [e]))]; rfl
theorem ixb_some (c : UInt8) (a r : List UInt8) (ha : c ∉ a) : Lib.indexByte (a ++ c :: r) c = a.length := by
  induction a with
  | nil => simp [Lib.indexByte]
  | cons b l ih =>
    have h1 : (b == c) = false := by simpa using fun e => ha (by simp [e])
    rw [List.cons_append, Lib.indexByte, h1, ih (fun e => ha (by simp [e]))]
    have : ((l.length : Int) == -1) = false := by simp
    rw [this]
    simp
theorem firstOne (c : UInt8) (T : List UInt8) (h : c ∈ T) : ∃ a r, T = a ++ c :: r ∧ c ∉ a := by
  induction T with
  | nil => simp at h
  | cons b l ih =>
    by_cases e : b = c
    · exact ⟨[], l, by simp [e], by simp⟩
    · obtain ⟨a, r, rfl, ha⟩ := ih (by rcases List.mem_cons.1 h with h | h; exact absurd h.symm e; exact h)
      exact ⟨b :: a, r, by simp, by simp [ha, Ne.symm e]⟩
def outC (c : UInt8) (T : List UInt8) : List UInt8 := T.filter fun b => decide (b ≠ c)
theorem outC_no (c : UInt8) (T : List UInt8) (h : c ∉ T) : outC c T = T := by
  unfold outC
  rw [List.filter_eq_self]
  intro b hb
  exact decide_eq_true fun e => h (e ▸ hb)
theorem repl_k (c : UInt8) : ∀ (n : Nat) (T : List UInt8), T.length ≤ n → Lib.replaceK [c] [] (Lib.count T [c]) T = outC c T := by
  intro n
  induction n with
  | zero =>
    intro T hT
    have : T = [] := List.length_eq_zero_iff.1 (by omega)
    subst this
    rfl
  | succ n ih =>
    intro T hT
    by_cases h : c ∈ T
    · obtain ⟨a, r, rfl, ha⟩ := firstOne c T h
      have hi : Lib.index (a ++ c :: r) [c] = (a.length : Int) := by rw [Lib.index_one, ixb_some c a r ha]
      rw [Lib.count_hit (by simp) hi, Nat.add_comm 1, Lib.replaceK_hit _ _ _ _ _ hi]
      have hd : (a ++ c :: r).drop (a.length + [c].length) = r := by
        rw [show a ++ c :: r = (a ++ [c]) ++ r by simp, show a.length + [c].length = (a ++ [c]).length by simp, List.drop_left]
      rw [hd, ih r (by simp at hT; omega)]
      unfold outC
      rw [List.filter_append, List.filter_cons, if_neg (by simp)]
      have := outC_no c a ha
      unfold outC at this
      rw [this]
      simp
    · have hi : Lib.index T [c] = -1 := by rw [Lib.index_one, ixb_none c T h]
      rw [Lib.count_miss hi, outC_no c T h, Lib.replaceK]
theorem repl_all (c : UInt8) (T : List UInt8) : Lib.replaceAll T [c] [] = outC c T := by
  unfold Lib.replaceAll Lib.replace Lib.replaceNum
  rw [if_neg (by simp), if_pos (.inl (by omega)), repl_k c T.length T (Nat.le_refl _)]
end Go.Proofs.YtfhdihekehlkiaaGreatDoor
