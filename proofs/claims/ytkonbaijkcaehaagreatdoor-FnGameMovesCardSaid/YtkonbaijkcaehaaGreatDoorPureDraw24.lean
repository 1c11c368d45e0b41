/- Plain laws, collected out of own texts. No conditions beyond those that each lemma states. -/
import Derived.Test.YtkonbaijkcaehaaGreatDoorPKit
import Derived.Test.YtkonbaijkcaehaaGreatDoorPBits
import Derived.Test.YtkonbaijkcaehaaGreatDoorGen24
set_option linter.unusedVariables false
set_option linter.unusedSimpArgs false
namespace Go.Proofs.YtkonbaijkcaehaaGreatDoor
open Go Go.RowKit Ab

def okS (s : Src) : Prop := 0 ≤ s.i ∧ s.c.length ≤ 4096

theorem mask_range (a : Int) : 0 ≤ bAnd .u64 a 16777215 ∧ bAnd .u64 a 16777215 ≤ 16777215 := by
  unfold bAnd
  have e : (BitVec.ofInt IntKind.u64.bits a &&& BitVec.ofInt IntKind.u64.bits 16777215).toNat ≤ 16777215 := by
    show (BitVec.ofInt 64 a &&& BitVec.ofInt 64 16777215).toNat ≤ 16777215
    rw [BitVec.toNat_and]
    have : (BitVec.ofInt 64 16777215).toNat = 16777215 := by decide
    rw [this]
    exact Nat.and_le_right
  generalize (BitVec.ofInt IntKind.u64.bits a &&& BitVec.ofInt IntKind.u64.bits 16777215).toNat = m at e
  rw [u64_id (by omega)]
  omega

theorem next_ok (s : Src) (n : Int) (h : okS s) : ∃ v s', spec_l01Next s n = some (v, s') ∧ okS s' ∧ (1 ≤ n → 0 ≤ v ∧ v < n) ∧ (n < 1 → v = 0) := by
  unfold spec_l01Next
  obtain ⟨h0, h1⟩ := h
  by_cases hn : n < 1
  · exact ⟨0, s, by simp [hn], ⟨h0, h1⟩, fun h => by omega, fun _ => rfl⟩
  · generalize IntKind.u64.wrap ((IntKind.u64.wrap (s.h * 6364136223846793005)) + 1442695040888963407) = hh
    have hm := mask_range (bShr .u64 hh 33)
    generalize bAnd .u64 (bShr .u64 hh 33) 16777215 = v at hm
    have hn0 : n ≠ 0 := by omega
    have key : ∀ w : Int, 0 ≤ w → (1 ≤ n → 0 ≤ w.tmod n ∧ w.tmod n < n) := fun w hw hn => ⟨Int.tmod_nonneg n hw, Int.tmod_lt_of_pos w (by omega)⟩
    by_cases hi : s.i < (s.c.length : Int)
    · have hb : ((s.c.getD s.i.toNat 0).toNat : Int) < 256 := by have := (s.c.getD s.i.toNat 0).toNat_lt; omega
      refine ⟨(w64 (w64 v + ((s.c.getD s.i.toNat 0).toNat : Int))).tmod n, ⟨s.c, w64 (s.i + 1), hh⟩, ?_, ⟨?_, h1⟩, key _ ?_, fun h => by omega⟩
      · simp only [hn, decide_false, Bool.false_eq_true, if_false, hi, decide_true, if_true, h0, and_self, Option.bind_some, hn0, ne_eq, not_false_eq_true]
      · rw [w64_id (by omega)]; show 0 ≤ s.i + 1; omega
      · rw [w64_id (n := v) (by omega), w64_id (by omega)]; omega
    · refine ⟨(w64 v).tmod n, ⟨s.c, s.i, hh⟩, ?_, ⟨h0, h1⟩, key _ ?_, fun h => by omega⟩
      · simp only [hn, decide_false, Bool.false_eq_true, if_false, hi, Option.bind_some, hn0, ne_eq, not_false_eq_true, if_true]
      · rw [w64_id (by omega)]; omega

theorem pick_ok (s : Src) (l : List Int) (h : okS s) (hl : 1 ≤ l.length) : ∃ v s', spec_l01Pick s l = some (v, s') ∧ okS s' ∧ v ∈ l := by
  unfold spec_l01Pick
  obtain ⟨v, s', e, hs, hv, _⟩ := next_ok s l.length h
  obtain ⟨v0, v1⟩ := hv (by omega)
  have hlt : v.toNat < l.length := by omega
  refine ⟨l.getD v.toNat 0, s', ?_, hs, by simp [List.getD, hlt]⟩
  rw [e]
  simp [v0, v1]

theorem from_ok {k : Nat} (hk : 5000 ≤ k) (c : List UInt8) (hc : c.length ≤ 4096) : ∃ s, spec_l01From k c = some s ∧ okS s := by
  unfold spec_l01From
  have := loopI (f := fun k' i (s : Src) => spec_l01From_l0 c k' i s) (c.length : Int) 0 (fun i s => s.i = 0 ∧ s.c = c) (fun s => okS s) ?_ ?_ k 0 ⟨c, 0, IntKind.u64.wrap (13621 + (IntKind.u64.wrap (c.length : Int)))⟩ (by omega) (by omega) ⟨rfl, rfl⟩
  · obtain ⟨s, e, h⟩ := this
    exact ⟨s, by rw [e]; rfl, h⟩
  · rintro k' i s h0 h1 ⟨q1, q2⟩
    left
    refine ⟨⟨s.c, s.i, IntKind.u64.wrap ((IntKind.u64.wrap ((IntKind.u64.wrap (s.h * 1099511628211)) + ((c.getD i.toNat 0).toNat : Int))) + 193)⟩, ?_, q1, q2⟩
    show spec_l01From_l0 c (k' + 1) i s = _
    rw [spec_l01From_l0, w64_succ h0 h1 (by omega)]
    have h2 : i < 4096 := by omega
    simp only [letO, h1, h2, decide_true, if_true, Option.bind_some, h0, and_self]
  · rintro k' i s h0 h1 ⟨q1, q2⟩
    have hn : ¬ i < (c.length : Int) := by omega
    refine ⟨s, ?_, by rw [q1]; exact Int.le_refl _, by rw [q2]; exact hc⟩
    show spec_l01From_l0 c (k' + 1) i s = _
    rw [spec_l01From_l0]
    simp [letO, hn]

theorem near_ok (s : Src) (m : Int) (h : okS s) : ∃ v s', spec_l01Near s m = some (v, s') ∧ okS s' := by
  unfold spec_l01Near
  obtain ⟨v, s1, e1, hs1, _⟩ := next_ok s 14 h
  rw [e1]
  simp only [Option.bind_some]
  by_cases h0 : v = 0
  · obtain ⟨a, s2, e2, hs2, _⟩ := pick_ok s1 [-1, w64 (m + 1), 1099511627776, -4611686018427387904] hs1 (by simp)
    exact ⟨a, s2, by simp only [h0, decide_true, if_true, e2, Option.bind_some], hs2⟩
  · obtain ⟨a, s2, e2, hs2, _⟩ := next_ok s1 (w64 (m + 1)) hs1
    exact ⟨a, s2, by simp only [h0, decide_false, Bool.false_eq_true, if_false, e2, Option.bind_some], hs2⟩

end Go.Proofs.YtkonbaijkcaehaaGreatDoor
