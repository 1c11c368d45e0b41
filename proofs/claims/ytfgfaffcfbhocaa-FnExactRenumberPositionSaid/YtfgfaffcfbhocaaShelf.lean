/-
  DERIVED: THE SHELF's CONTRACTS AT THIS DUMP, IN PLAIN WORDS (tools/lay-plain.mjs out of 'YtfgfaffcfbhocaaShelf.lean', which tools/lay-shelf.mjs wrote): THE SAME DECLARATIONS UNDER THE SAME NAMES: 'import', 'namespace', 'open', 'def', 'theorem' AND NOTHING ELSE: no command of the shelf's: FOR A HAND-IN. Each laying: the table of numbers ('.._ren') and one theorem, a field a fact of the dump's own or the kernel's comparison; each contract: ONE APPLICATION.
-/
import Derived.Shelf.SlGeneric
import Derived.Shelf.SortG.SortNone
import Derived.Shelf.SortG.Plain
import Derived.Shelf.SlIterI.Sorted
import Derived.Ground.GgzProg
import Derived.Ground.SlgnProg
import Derived.Test.YtfgfaffcfbhocaaProg
namespace Go.Proofs
open Go.Shelf
def Try.sortL_ren : Go.Shelf.Ren := ⟨fun | 53 => 174 | 64 => 206 | 63 => 205 | 78 => 236 | 79 => 237 | 70 => 227 | 71 => 228 | 72 => 229 | 73 => 230 | 74 => 231 | 75 => 232 | 59 => 233 | 76 => 234 | 77 => 235 | 88 => 241 | 89 => 242 | 90 => 243 | 91 => 244 | 92 => 245 | 68 => 246 | 96 => 247 | n => n, fun | 22 => 25 | 23 => 2 | 3 => 3 | 51 => 149 | 0 => 0 | 67 => 183 | 69 => 97 | 4 => 4 | 61 => 190 | 60 => 189 | 44 => 194 | 5 => 5 | 9 => 9 | 75 => 200 | 79 => 204 | 83 => 206 | 84 => 207 | n => n, fun | n => n⟩
theorem Try.sortL : Go.Proofs.SlLaysN.n53 Try.prog Try.sortL_ren := {
  mixed := by kernel_rfl
  f53 := ⟨Try.f174.name, by decide, Try.func174.trans (congrArg some (by kernel_rfl))⟩
  f59 := ⟨Try.f233.name, by decide, Try.func233.trans (congrArg some (by kernel_rfl))⟩
  f63 := ⟨Try.f205.name, by decide, Try.func205.trans (congrArg some (by kernel_rfl))⟩
  f64 := Try.func206.trans (congrArg some (by kernel_rfl))
  f68 := ⟨Try.f246.name, by decide, Try.func246.trans (congrArg some (by kernel_rfl))⟩
  f70 := ⟨Try.f227.name, by decide, Try.func227.trans (congrArg some (by kernel_rfl))⟩
  f71 := ⟨Try.f228.name, by decide, Try.func228.trans (congrArg some (by kernel_rfl))⟩
  f72 := ⟨Try.f229.name, by decide, Try.func229.trans (congrArg some (by kernel_rfl))⟩
  f73 := ⟨Try.f230.name, by decide, Try.func230.trans (congrArg some (by kernel_rfl))⟩
  f74 := ⟨Try.f231.name, by decide, Try.func231.trans (congrArg some (by kernel_rfl))⟩
  f75 := ⟨Try.f232.name, by decide, Try.func232.trans (congrArg some (by kernel_rfl))⟩
  f76 := ⟨Try.f234.name, by decide, Try.func234.trans (congrArg some (by kernel_rfl))⟩
  f77 := ⟨Try.f235.name, by decide, Try.func235.trans (congrArg some (by kernel_rfl))⟩
  f78 := Try.func236.trans (congrArg some (by kernel_rfl))
  f79 := Try.func237.trans (congrArg some (by kernel_rfl))
  f88 := ⟨Try.f241.name, by decide, Try.func241.trans (congrArg some (by kernel_rfl))⟩
  f89 := Try.func242.trans (congrArg some (by kernel_rfl))
  f90 := Try.func243.trans (congrArg some (by kernel_rfl))
  f91 := ⟨Try.f244.name, by decide, Try.func244.trans (congrArg some (by kernel_rfl))⟩
  f92 := ⟨Try.f245.name, by decide, Try.func245.trans (congrArg some (by kernel_rfl))⟩
  f96 := ⟨Try.f247.name, by decide, Try.func247.trans (congrArg some (by kernel_rfl))⟩
  t0 := Try.underlying0
  a0 := Try.isAgg0
  z0 := Try.sizeOf0
  v0 := Try.zeroValue0
  t3 := Try.underlying3
  a3 := Try.isAgg3
  z3 := Try.sizeOf3
  v3 := Try.zeroValue3
  t4 := Try.underlying4
  a4 := Try.isAgg4
  z4 := Try.sizeOf4
  v4 := Try.zeroValue4
  t5 := Try.underlying5
  a5 := Try.isAgg5
  z5 := Try.sizeOf5
  v5 := Try.zeroValue5
  t9 := Try.underlying9
  a9 := Try.isAgg9
  z9 := Try.sizeOf9
  v9 := Try.zeroValue9
  t22 := Try.underlying25
  a22 := Try.isAgg25
  z22 := Try.sizeOf25
  v22 := Try.zeroValue25
  t23 := Try.underlying2
  a23 := Try.isAgg2
  z23 := Try.sizeOf2
  v23 := Try.zeroValue2
  t44 := Try.underlying194
  a44 := Try.isAgg194
  z44 := Try.sizeOf194
  v44 := Try.zeroValue194
  t51 := Try.underlying149
  a51 := Try.isAgg149
  z51 := Try.sizeOf149
  v51 := Try.zeroValue149
  t60 := Try.underlying189
  a60 := Try.isAgg189
  z60 := Try.sizeOf189
  v60 := Try.zeroValue189
  t61 := Try.underlying190
  a61 := Try.isAgg190
  z61 := Try.sizeOf190
  v61 := Try.zeroValue190
  t67 := Try.underlying183
  a67 := Try.isAgg183
  z67 := Try.sizeOf183
  v67 := Try.zeroValue183
  t69 := Try.underlying97
  a69 := Try.isAgg97
  z69 := Try.sizeOf97
  v69 := Try.zeroValue97
  t75 := Try.underlying200
  a75 := Try.isAgg200
  z75 := Try.sizeOf200
  v75 := Try.zeroValue200
  t79 := Try.underlying204
  a79 := Try.isAgg204
  z79 := Try.sizeOf204
  v79 := Try.zeroValue204
  t83 := Try.underlying206
  a83 := Try.isAgg206
  z83 := Try.sizeOf206
  v83 := Try.zeroValue206
  t84 := Try.underlying207
  a84 := Try.isAgg207
  z84 := Try.sizeOf207
  v84 := Try.zeroValue207 }
def Try.sortedL_ren : Go.Shelf.Ren := ⟨fun | 6 => 170 | 8 => 202 | 9 => 174 | 11 => 224 | 13 => 206 | 12 => 205 | 23 => 236 | 24 => 237 | 14 => 227 | 15 => 228 | 16 => 229 | 17 => 230 | 18 => 231 | 19 => 232 | 20 => 233 | 21 => 234 | 22 => 235 | 25 => 241 | 26 => 242 | 27 => 243 | 28 => 244 | 29 => 245 | 30 => 246 | 31 => 247 | n => n, fun | 26 => 2 | 28 => 144 | 24 => 25 | 0 => 0 | 3 => 3 | 37 => 149 | 48 => 183 | 50 => 97 | 4 => 4 | 40 => 190 | 39 => 189 | 45 => 194 | 5 => 5 | 9 => 9 | 51 => 200 | 55 => 204 | 57 => 206 | 58 => 207 | 33 => 105 | n => n, fun | n => n⟩
theorem Try.sortedL : Go.Proofs.SlLaysZI.n6 Try.prog Try.sortedL_ren := {
  mixed := by kernel_rfl
  f6 := ⟨Try.f170.name, by decide, Try.func170.trans (congrArg some (by kernel_rfl))⟩
  f8 := ⟨Try.f202.name, by decide, Try.func202.trans (congrArg some (by kernel_rfl))⟩
  f11 := ⟨Try.f224.name, by decide, Try.func224.trans (congrArg some (by kernel_rfl))⟩
  t0 := Try.underlying0
  a0 := Try.isAgg0
  z0 := Try.sizeOf0
  v0 := Try.zeroValue0
  t24 := Try.underlying25
  a24 := Try.isAgg25
  z24 := Try.sizeOf25
  v24 := Try.zeroValue25
  t26 := Try.underlying2
  a26 := Try.isAgg2
  z26 := Try.sizeOf2
  v26 := Try.zeroValue2
  t28 := Try.underlying144
  a28 := Try.isAgg144
  z28 := Try.sizeOf144
  v28 := Try.zeroValue144
  i26 := by kernel_rfl }
end Go.Proofs
