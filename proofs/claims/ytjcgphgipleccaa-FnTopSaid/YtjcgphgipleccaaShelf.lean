/-
  DERIVED: THE SHELF's CONTRACTS AT THIS DUMP, IN PLAIN WORDS (tools/lay-plain.mjs out of 'YtjcgphgipleccaaShelf.lean', which tools/lay-shelf.mjs wrote): THE SAME DECLARATIONS UNDER THE SAME NAMES: 'import', 'namespace', 'open', 'def', 'theorem' AND NOTHING ELSE: no command of the shelf's: FOR A HAND-IN. Each laying: the table of numbers ('.._ren') and one theorem, a field a fact of the dump's own or the kernel's comparison; each contract: ONE APPLICATION.
-/
import Derived.Shelf.SlGeneric
import Derived.Shelf.SortG.SortNone
import Derived.Shelf.SortG.Plain
import Derived.Shelf.SlIterI.Sorted
import Derived.Ground.GgzProg
import Derived.Ground.SlgnProg
import Derived.Test.YtjcgphgipleccaaProg
namespace Go.Proofs
open Go.Shelf
def Try.sortL_ren : Go.Shelf.Ren := ⟨fun | 53 => 81 | 64 => 96 | 63 => 95 | 78 => 113 | 79 => 114 | 70 => 104 | 71 => 105 | 72 => 106 | 73 => 107 | 74 => 108 | 75 => 109 | 59 => 110 | 76 => 111 | 77 => 112 | 88 => 116 | 89 => 117 | 90 => 118 | 91 => 119 | 92 => 120 | 68 => 121 | 96 => 122 | n => n, fun | 22 => 25 | 23 => 2 | 3 => 3 | 51 => 62 | 0 => 0 | 67 => 121 | 69 => 41 | 4 => 4 | 61 => 114 | 60 => 113 | 44 => 118 | 5 => 5 | 9 => 9 | 75 => 123 | 79 => 127 | 83 => 129 | 84 => 130 | n => n, fun | n => n⟩
theorem Try.sortL : Go.Proofs.SlLaysN.n53 Try.prog Try.sortL_ren := {
  mixed := by kernel_rfl
  f53 := ⟨Try.f81.name, by decide, Try.func81.trans (congrArg some (by kernel_rfl))⟩
  f59 := ⟨Try.f110.name, by decide, Try.func110.trans (congrArg some (by kernel_rfl))⟩
  f63 := ⟨Try.f95.name, by decide, Try.func95.trans (congrArg some (by kernel_rfl))⟩
  f64 := Try.func96.trans (congrArg some (by kernel_rfl))
  f68 := ⟨Try.f121.name, by decide, Try.func121.trans (congrArg some (by kernel_rfl))⟩
  f70 := ⟨Try.f104.name, by decide, Try.func104.trans (congrArg some (by kernel_rfl))⟩
  f71 := ⟨Try.f105.name, by decide, Try.func105.trans (congrArg some (by kernel_rfl))⟩
  f72 := ⟨Try.f106.name, by decide, Try.func106.trans (congrArg some (by kernel_rfl))⟩
  f73 := ⟨Try.f107.name, by decide, Try.func107.trans (congrArg some (by kernel_rfl))⟩
  f74 := ⟨Try.f108.name, by decide, Try.func108.trans (congrArg some (by kernel_rfl))⟩
  f75 := ⟨Try.f109.name, by decide, Try.func109.trans (congrArg some (by kernel_rfl))⟩
  f76 := ⟨Try.f111.name, by decide, Try.func111.trans (congrArg some (by kernel_rfl))⟩
  f77 := ⟨Try.f112.name, by decide, Try.func112.trans (congrArg some (by kernel_rfl))⟩
  f78 := Try.func113.trans (congrArg some (by kernel_rfl))
  f79 := Try.func114.trans (congrArg some (by kernel_rfl))
  f88 := ⟨Try.f116.name, by decide, Try.func116.trans (congrArg some (by kernel_rfl))⟩
  f89 := Try.func117.trans (congrArg some (by kernel_rfl))
  f90 := Try.func118.trans (congrArg some (by kernel_rfl))
  f91 := ⟨Try.f119.name, by decide, Try.func119.trans (congrArg some (by kernel_rfl))⟩
  f92 := ⟨Try.f120.name, by decide, Try.func120.trans (congrArg some (by kernel_rfl))⟩
  f96 := ⟨Try.f122.name, by decide, Try.func122.trans (congrArg some (by kernel_rfl))⟩
  t0 := Try.underlying0
  a0 := Try.isAgg0
  z0 := Try.sizeOf0
  v0 := Try.zeroValue0
  t3 := Try.underlying3
  a3 := Try.isAgg3
  z3 := Try.sizeOf3
  v3 := Try.zeroValue3
  t4 := Try.underlying4
  a4 := Try.isAgg4
  z4 := Try.sizeOf4
  v4 := Try.zeroValue4
  t5 := Try.underlying5
  a5 := Try.isAgg5
  z5 := Try.sizeOf5
  v5 := Try.zeroValue5
  t9 := Try.underlying9
  a9 := Try.isAgg9
  z9 := Try.sizeOf9
  v9 := Try.zeroValue9
  t22 := Try.underlying25
  a22 := Try.isAgg25
  z22 := Try.sizeOf25
  v22 := Try.zeroValue25
  t23 := Try.underlying2
  a23 := Try.isAgg2
  z23 := Try.sizeOf2
  v23 := Try.zeroValue2
  t44 := Try.underlying118
  a44 := Try.isAgg118
  z44 := Try.sizeOf118
  v44 := Try.zeroValue118
  t51 := Try.underlying62
  a51 := Try.isAgg62
  z51 := Try.sizeOf62
  v51 := Try.zeroValue62
  t60 := Try.underlying113
  a60 := Try.isAgg113
  z60 := Try.sizeOf113
  v60 := Try.zeroValue113
  t61 := Try.underlying114
  a61 := Try.isAgg114
  z61 := Try.sizeOf114
  v61 := Try.zeroValue114
  t67 := Try.underlying121
  a67 := Try.isAgg121
  z67 := Try.sizeOf121
  v67 := Try.zeroValue121
  t69 := Try.underlying41
  a69 := Try.isAgg41
  z69 := Try.sizeOf41
  v69 := Try.zeroValue41
  t75 := Try.underlying123
  a75 := Try.isAgg123
  z75 := Try.sizeOf123
  v75 := Try.zeroValue123
  t79 := Try.underlying127
  a79 := Try.isAgg127
  z79 := Try.sizeOf127
  v79 := Try.zeroValue127
  t83 := Try.underlying129
  a83 := Try.isAgg129
  z83 := Try.sizeOf129
  v83 := Try.zeroValue129
  t84 := Try.underlying130
  a84 := Try.isAgg130
  z84 := Try.sizeOf130
  v84 := Try.zeroValue130 }
end Go.Proofs
