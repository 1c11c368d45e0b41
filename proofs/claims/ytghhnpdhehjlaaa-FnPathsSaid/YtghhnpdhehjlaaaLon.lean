/- Own library: a struct with a pointer to a colouring, a colour and a map (impl.longest, impl.matcher), as data. No conditions. -/
import Derived.Test.YtghhnpdhehjlaaaAb29
import Derived.Test.YtghhnpdhehjlaaaCol
set_option linter.unusedVariables false
namespace Go.Proofs.Ytghhnpdhehjlaaa.Ab
open Go Go.RowKit
structure Lon where
  x : Col
  c : Int
def lonD (l : Lon) (vm : Value) : List D := [.pv (colD l.x) 0, iD l.c, .s vm]
theorem lonD_one (l : Lon) (vm : Value) (hv : vm.oneCell' = true) : ∀ c ∈ lonD l vm, c.one = true := by
  intro c hc
  simp [lonD] at hc
  rcases hc with rfl | rfl | rfl
  · rfl
  · rfl
  · exact hv
theorem lonZ_fill (l : Lon) (vm : Value) : fillD [(0, 1), (1, 1), (2, 1)] [.s (.pointer none), iD 0, .s (.map none)] ([0, 1, 2].zip [.pv (colD l.x) 0, iD l.c, .s vm]) = some (lonD l vm) := rfl
theorem ints_all (xs : List Int) {n : Nat} (h : xs.length = n) : ((intsD xs).drop 0).take n = intsD xs := by
  rw [List.drop_zero, List.take_of_length_le (by rw [intsD_length]; omega)]
theorem ints_whole (xs ys : List Int) (h : xs.length = ys.length) : (intsD xs).take 0 ++ intsD ys ++ (intsD xs).drop (0 + (intsD ys).length) = intsD ys := by
  rw [intsD_length, List.take_zero, List.drop_of_length_le (by rw [intsD_length]; omega)]; simp
theorem isKey_l (xs : List Int) : isKey (.agg (intsD xs)) (.l xs) := by
  intro w I v h
  cases h with
  | agg _ vs hl h =>
    have hr : RepL w I (intsD xs) vs.toList := ⟨by simpa using hl, by simpa using h⟩
    have : intsD xs = (xs.map (Value.int .i64)).map D.s := by simp [intsD, iD]
    rw [this] at hr
    have e := hr.of_map_s
    simp only [MK.enc]
    congr 1
    rw [← e]
end Go.Proofs.Ytghhnpdhehjlaaa.Ab
