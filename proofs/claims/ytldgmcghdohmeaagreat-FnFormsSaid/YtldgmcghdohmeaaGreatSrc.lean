/- Sources of numbers as plain data: bytes, a place, a hash; their cells. No conditions. -/
import Derived.Test.YtldgmcghdohmeaaGreatCol
set_option linter.unusedVariables false
namespace Go.Proofs.YtldgmcghdohmeaaGreat
open Go Go.RowKit Ab

/-- spec.l01Source and laws.dice. -/
structure Src where
 c : List UInt8
 i : Int
 h : Int

def srcD (x : Src) : List D := [.sl none (bysD x.c), iD x.i, .s (.int .u64 x.h)]
theorem srcD_length (x : Src) : (srcD x).length = 3 := rfl
theorem srcD_one (x : Src) : ∀ c ∈ srcD x, c.one = true := by
 intro c hc
 simp only [srcD, List.mem_cons, List.not_mem_nil, or_false] at hc
 rcases hc with rfl | rfl | rfl <;> rfl
theorem srcD_set1 (x : Src) (v : Int) : (srcD x).set 1 (iD v) = srcD ⟨x.c, v, x.h⟩ := rfl
theorem srcD_set2 (x : Src) (v : Int) : (srcD x).set 2 (.s (.int .u64 v)) = srcD ⟨x.c, x.i, v⟩ := rfl
end Go.Proofs.YtldgmcghdohmeaaGreat
