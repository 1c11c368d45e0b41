/- Own library: a struct with a pointer to a colouring, a colour and a map (impl.longest, impl.matcher), as data. No conditions. -/
import Derived.Test.YtghhnpdhehjlaaaGreatAb29
import Derived.Test.YtghhnpdhehjlaaaGreatCol
set_option linter.unusedVariables false
namespace Go.Proofs.YtghhnpdhehjlaaaGreat.Ab
open Go Go.RowKit
structure Lon where
  x : Col
  c : Int
theorem ints_all (xs : List Int) {n : Nat} (h : xs.length = n) : ((intsD xs).drop 0).take n = intsD xs := by
  rw [List.drop_zero, List.take_of_length_le (by rw [intsD_length]; omega)]
theorem ints_whole (xs ys : List Int) (h : xs.length = ys.length) : (intsD xs).take 0 ++ intsD ys ++ (intsD xs).drop (0 + (intsD ys).length) = intsD ys := by
  rw [intsD_length, List.take_zero, List.drop_of_length_le (by rw [intsD_length]; omega)]; simp
theorem isKey_l (xs : List Int) : isKey (.agg (intsD xs)) (.l xs) := by
  intro w I v h
  cases h with
  | agg _ vs hl h =>
    have hr : RepL w I (intsD xs) vs.toList := ⟨by simpa using hl, by simpa using h⟩
    have : intsD xs = (xs.map (Value.int .i64)).map D.s := by simp [intsD, iD]
    rw [this] at hr
    have e := hr.of_map_s
    simp only [MK.enc]
    congr 1
    rw [← e]
end Go.Proofs.YtghhnpdhehjlaaaGreat.Ab
