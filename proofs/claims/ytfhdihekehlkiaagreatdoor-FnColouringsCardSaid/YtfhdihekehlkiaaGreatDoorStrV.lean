/- Own library: strings.Join as a contract over data, at this program's numbers. No conditions. -/
import Derived.Test.YtfhdihekehlkiaaGreatDoorAb18
import Derived.Test.YtfhdihekehlkiaaGreatDoorShelfJ
set_option linter.unusedVariables false
set_option linter.unusedSimpArgs false
namespace Go.Proofs.YtfhdihekehlkiaaGreatDoor.Ab
open Go Go.RowKit

theorem RepL.strs {w : World} {I : Nat → Prop} {zs : List ByteArray} {vs : List Value} (h : RepL w I (stsD zs) vs) : vs = zs.map Value.string := by
  have : stsD zs = (zs.map Value.string).map D.s := by simp [stsD, sD]
  rw [this] at h
  exact h.of_map_s

def joinL (xs : List ByteArray) (sep : ByteArray) : List UInt8 := Lib.join (xs.map (·.data.toList)) sep.data.toList
/-- strings.Join. -/
def joinS (xs : List ByteArray) (sep : ByteArray) : Option ByteArray := if xs.length ≤ 1099511627776 ∧ (joinL xs sep).length ≤ 1099511627776 then some ⟨(joinL xs sep).toArray⟩ else none
end Go.Proofs.YtfhdihekehlkiaaGreatDoor.Ab
namespace Go.Proofs.YtfhdihekehlkiaaGreatDoor
open Go Go.RowKit Ab

theorem joinS_ac (xs : List ByteArray) (sep r : ByteArray) (h : joinS xs sep = some r) : AC Tryz.prog 90 [.d (.sl none (stsD xs)), .d (.s (.string sep))] [] (fun res H' => res = [.d (.s (.string r))] ∧ H' = []) := by
  unfold joinS at h
  split at h
  case isFalse => cases h
  rename_i hb
  cases h
  intro F w rb vs hh hvs
  obtain ⟨x, y, rfl⟩ : ∃ x y, vs = #[x, y] := by
    have := hvs.1
    cases vs with
    | mk l => match l, this with
      | [x, y], _ => exact ⟨x, y, rfl⟩
  have h0 := hvs.2 0 _ x rfl rfl
  have h1 := hvs.2 1 _ y rfl rfl
  cases h1 with
  | d _ _ hd1 =>
    cases hd1
    cases h0 with
    | d _ _ hd =>
      cases hd with
      | sl _ _ us A cap hl hn hc hA hr =>
        have hus := RepL.strs (zs := xs) ⟨hl, hr⟩
        have hlen : (stsD xs).length = xs.length := by simp [stsD]
        by_cases hz : xs = []
        · subst hz
          refine (Tryz.strings_Join_none A cap sep w).mono ?_
          rintro e w' ⟨rfl, rfl⟩
          refine ⟨_, [], rb, _, rfl, ⟨rfl, rfl⟩, hh, ?_, Step.refl _ _ _⟩
          exact .d _ _ (.s _)
        · obtain ⟨b, off, rfl, hb', hcs⟩ := hA (by cases xs with | nil => exact absurd rfl hz | cons a l => simp [stsD])
          rw [hlen]
          refine (Tryz.strings_Join b off cap xs sep w (fun j x hj => hcs j _ (by rw [hus]; simp [hj])) hb'.1.1 (by omega) (by rw [← hlen]; exact hc) (Nat.le_trans hb.2 (by decide))).mono ?_
          rintro e w' ⟨rfl, hbw⟩
          refine ⟨_, [], rb, _, rfl, ⟨rfl, rfl⟩, hrel_of_below hh hbw, ?_, step_of_below hh hbw⟩
          exact .d _ _ (.s _)
end Go.Proofs.YtfhdihekehlkiaaGreatDoor
