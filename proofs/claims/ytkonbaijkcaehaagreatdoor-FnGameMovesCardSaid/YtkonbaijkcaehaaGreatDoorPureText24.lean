/- The plain law of FnExactPositionText: the program's answer is the reference's. No conditions beyond those that each lemma states. -/
import Derived.Test.YtkonbaijkcaehaaGreatDoorPurePosn24
set_option linter.unusedVariables false
set_option linter.unusedSimpArgs false
namespace Go.Proofs.YtkonbaijkcaehaaGreatDoor
open Go Go.RowKit Ab

/-- The sign of an edge. -/
def sgn (z : Int) : UInt8 := if z = -1 then 46 else if z = 0 then 48 else 49

theorem tx_app (x : ByteArray) (a b : List UInt8) : (x ++ (⟨a.toArray⟩ : ByteArray)) ++ (⟨b.toArray⟩ : ByteArray) = x ++ (⟨(a ++ b).toArray⟩ : ByteArray) := by
  apply ByteArray.ext
  simp only [ByteArray.data_append]
  rw [Array.append_assoc]
  simp

theorem tx_size (a : List UInt8) : (⟨a.toArray⟩ : ByteArray).size = a.length := by simp [ByteArray.size]

theorem dec_small (n : Int) (hn : 1 ≤ n ∧ n ≤ 5) (k : Nat) (hk : 2 ≤ k) : spec_l01Dec k n = some ⟨[toByte (48 + n)].toArray⟩ ∧ impl_decimal n = some ⟨[toByte (48 + n)].toArray⟩ := by
  constructor
  · obtain ⟨k, rfl⟩ : ∃ k', k = k' + 1 := ⟨k - 1, by omega⟩
    rw [spec_l01Dec, spec_l01Dec_body]
    have h1 : ¬ n < 0 := by omega
    have h2 : n < 10 := by omega
    simp only [h1, h2, decide_true, decide_false, Bool.false_eq_true, if_false, if_true]
    rw [w64_id (by omega)]
  · obtain ⟨m, rfl⟩ := nat_of (show 0 ≤ n by omega)
    have : ∀ m : Nat, m < 6 → impl_decimal (m : Int) = some ⟨[toByte (48 + (m : Int))].toArray⟩ := by decide +kernel
    exact this m (by omega)

theorem text_eq (k : Nat) (base : ByteArray) (l : List Int) (hl : l.length ≤ 10) (hr : ∀ a : Nat, a < l.length → -1 ≤ l.getD a 0 ∧ l.getD a 0 ≤ 1) (hk : 20 ≤ k) (hb : base.size ≤ 100) : spec_l09Text_l0 l k base 0 = some (base ++ ⟨(l.map sgn).toArray⟩) := by
  have := loopI (f := fun k' t (s : ByteArray) => spec_l09Text_l0 l k' s t) (l.length : Int) 0 (fun t s => t ≤ l.length ∧ s = base ++ ⟨((l.take t.toNat).map sgn).toArray⟩) (fun r => r = base ++ ⟨(l.map sgn).toArray⟩) ?_ ?_ k 0 base (by omega) (by omega) ⟨by omega, by
    apply ByteArray.ext
    simp⟩
  · obtain ⟨r, e, rfl⟩ := this
    exact e
  · rintro k' t s h0 h1 ⟨_, q⟩
    left
    obtain ⟨m, rfl⟩ := nat_of h0
    have hm : m < l.length := by omega
    rw [Int.toNat_natCast] at q
    have htk : l.take (m + 1) = l.take m ++ [l.getD m 0] := by
      rw [List.take_succ_eq_append_getElem hm]; simp [List.getD, hm]
    have hz := hr m hm
    refine ⟨base ++ ⟨((l.take (m + 1)).map sgn).toArray⟩, ?_, by omega, by rw [show ((m : Int) + 1).toNat = m + 1 by omega]⟩
    show spec_l09Text_l0 l (k' + 1) s m = _
    have hsz : s.size ≤ 110 := by
      have e1 := tx_size ((l.take m).map sgn)
      rw [List.length_map, List.length_take] at e1
      rw [q, ByteArray.size_append, e1]
      omega
    have hsgn : (([(⟨#[46]⟩ : ByteArray), (⟨#[48]⟩ : ByteArray), (⟨#[49]⟩ : ByteArray)]).getD (w64 ((l.getD m 0) + 1)).toNat ByteArray.empty) = ⟨[sgn (l.getD m 0)].toArray⟩ := by
      rw [w64_id (by omega)]
      generalize l.getD m 0 = z at hz
      have : z = -1 ∨ z = 0 ∨ z = 1 := by omega
      rcases this with rfl | rfl | rfl <;> rfl
    rw [spec_l09Text_l0, w64_succ h0 h1 (by omega), if_pos (decide_eq_true h1), if_pos ⟨h0, h1⟩, Int.toNat_natCast, if_pos ?_, hsgn, if_pos ?_]
    · rw [htk, List.map_append, List.map_singleton, ← tx_app, ← q]
    · have e1 : (⟨[sgn (l.getD m 0)].toArray⟩ : ByteArray).size = 1 := tx_size _
      rw [e1]; omega
    · show 0 ≤ w64 (l.getD m 0 + 1) ∧ w64 (l.getD m 0 + 1) < 3
      rw [w64_id (by omega)]; omega
  · rintro k' t s h0 h1 ⟨q0, q⟩
    have : t = l.length := by omega
    subst this
    rw [Int.toNat_natCast, List.take_length] at q
    refine ⟨s, ?_, q⟩
    show spec_l09Text_l0 l (k' + 1) s l.length = _
    rw [spec_l09Text_l0]; simp

theorem key_eq (k : Nat) (n : Int) (l : List Int) (hl : l.length ≤ 10) (hr : ∀ a : Nat, a < l.length → -1 ≤ l.getD a 0 ∧ l.getD a 0 ≤ 1) (hk : 20 ≤ k) : impl_position_key k ⟨n, l⟩ = some ⟨(l.map sgn).toArray⟩ := by
  unfold impl_position_key
  have := loopI (f := fun k' t (s : List UInt8) => impl_position_key_l0 ⟨n, l⟩ k' t s) (l.length : Int) 0 (fun t s => t ≤ l.length ∧ s = (l.take t.toNat).map sgn) (fun r => r = l.map sgn) ?_ ?_ k 0 [] (by omega) (by omega) ⟨by omega, by simp⟩
  · obtain ⟨r, e, rfl⟩ := this
    rw [e]; rfl
  · rintro k' t s h0 h1 ⟨_, q⟩
    left
    obtain ⟨m, rfl⟩ := nat_of h0
    have hm : m < l.length := by omega
    rw [Int.toNat_natCast] at q
    have htk : l.take (m + 1) = l.take m ++ [l.getD m 0] := by
      rw [List.take_succ_eq_append_getElem hm]; simp [List.getD, hm]
    have hz := hr m hm
    refine ⟨(l.take (m + 1)).map sgn, ?_, by omega, by rw [show ((m : Int) + 1).toNat = m + 1 by omega]⟩
    show impl_position_key_l0 ⟨n, l⟩ (k' + 1) m s = _
    have hsgn : ((⟨#[46, 48, 49]⟩ : ByteArray).data.toList.getD (w64 ((l.getD m 0) + 1)).toNat 0) = sgn (l.getD m 0) := by
      rw [w64_id (by omega)]
      generalize l.getD m 0 = z at hz
      have : z = -1 ∨ z = 0 ∨ z = 1 := by omega
      rcases this with rfl | rfl | rfl <;> rfl
    have hs : s.length ≤ 10 := by rw [q, List.length_map, List.length_take]; omega
    rw [impl_position_key_l0, w64_succ h0 h1 (by omega), if_pos (decide_eq_true h1), if_pos ⟨h0, h1⟩, Int.toNat_natCast, if_pos ?_, hsgn, if_pos ?_]
    · rw [htk, List.map_append, List.map_singleton, ← q]
    · simp; omega
    · show 0 ≤ w64 (l.getD m 0 + 1) ∧ w64 (l.getD m 0 + 1) < 3
      rw [w64_id (by omega)]; omega
  · rintro k' t s h0 h1 ⟨q0, q⟩
    have : t = l.length := by omega
    subst this
    rw [Int.toNat_natCast, List.take_length] at q
    refine ⟨s, ?_, q⟩
    show impl_position_key_l0 ⟨n, l⟩ (k' + 1) l.length s = _
    rw [impl_position_key_l0]; simp

theorem text_same (n : Int) (l : List Int) (k : Nat) (hk : l.length + 200 ≤ k) (hl : (l.length : Int) ≤ 1099511627776) : ∃ r, spec_PositionText k n l = some r ∧ impl_PositionText k n l = some r ∧ (sh n l → isPos n l → r = (((⟨[toByte (48 + n)].toArray⟩ : ByteArray) ++ (⟨#[58]⟩ : ByteArray)) ++ ⟨(l.map sgn).toArray⟩, 0)) := by
  classical
  unfold spec_PositionText impl_PositionText impl_position_code impl_always spec_l09Code
  rw [lists_eq k n l (by omega) hl, shape_eq k n l (by omega) hl]
  by_cases hs : sh n l
  · have h10 : l.length ≤ 10 := by rw [hs.2.1]; exact tri5 n hs.1
    rw [if_pos hs, decide_eq_true hs, isPosition_eq l n hs k (by omega), specIs9_eq l n hs k (by omega)]
    by_cases hi : isPos n l
    · rw [decide_eq_true hi]
      obtain ⟨d1, d2⟩ := dec_small n hs.1 k (by omega)
      have hsz : ((⟨[toByte (48 + n)].toArray⟩ : ByteArray) ++ (⟨#[58]⟩ : ByteArray)).size = 2 := by rw [ByteArray.size_append]; rfl
      refine ⟨(((⟨[toByte (48 + n)].toArray⟩ : ByteArray) ++ (⟨#[58]⟩ : ByteArray)) ++ ⟨(l.map sgn).toArray⟩, 0), ?_, ?_, fun _ _ => rfl⟩
      · unfold spec_l09Text
        rw [d1]
        simp only [Option.bind_some, decide_true, Bool.not_true, Bool.false_eq_true, if_false]
        rw [if_pos (by rw [tx_size]; show (1 : Nat) + 1 ≤ 1099511627776; omega), text_eq k _ l h10 hs.2.2 (by omega) (by rw [hsz]; omega)]
        rfl
      · rw [d2, key_eq k n l h10 hs.2.2 (by omega)]
        simp only [Option.bind_some, decide_true, Bool.not_true, Bool.false_eq_true, if_false]
        rw [if_pos (by rw [tx_size]; show (1 : Nat) + 1 ≤ 1099511627776; omega), if_pos (by rw [hsz, tx_size, List.length_map]; omega)]
    · rw [decide_eq_false hi]
      exact ⟨(⟨#[]⟩, 1), by simp, by simp, fun _ h => absurd h hi⟩
  · rw [if_neg hs, decide_eq_false hs]
    exact ⟨(⟨#[]⟩, 2), by simp, by simp, fun h => absurd h hs⟩

end Go.Proofs.YtkonbaijkcaehaaGreatDoor
