/-
  DERIVED: THE SHELF's CONTRACTS AT THIS DUMP, IN PLAIN WORDS (tools/lay-plain.mjs out of 'YtldgmcghdohmeaaGreatShelf.lean', which tools/lay-shelf.mjs wrote): THE SAME DECLARATIONS UNDER THE SAME NAMES: 'import', 'namespace', 'open', 'def', 'theorem' AND NOTHING ELSE: no command of the shelf's: FOR A HAND-IN. Each laying: the table of numbers ('.._ren') and one theorem, a field a fact of the dump's own or the kernel's comparison; each contract: ONE APPLICATION.
-/
import Derived.Shelf.SlGeneric
import Derived.Shelf.SortG.SortNone
import Derived.Shelf.SortG.Plain
import Derived.Shelf.SlIterI.Sorted
import Derived.Ground.GgzProg
import Derived.Ground.SlgnProg
import Derived.Test.YtldgmcghdohmeaaGreatProg
namespace Go.Proofs
open Go.Shelf
def Tryz.sortL_ren : Go.Shelf.Ren := ⟨fun | 53 => 99 | 64 => 105 | 63 => 104 | 78 => 115 | 79 => 116 | 70 => 106 | 71 => 107 | 72 => 108 | 73 => 109 | 74 => 110 | 75 => 111 | 59 => 112 | 76 => 113 | 77 => 114 | 88 => 117 | 89 => 118 | 90 => 119 | 91 => 120 | 92 => 121 | 68 => 122 | 96 => 123 | n => n, fun | 22 => 40 | 23 => 2 | 3 => 3 | 51 => 81 | 0 => 0 | 67 => 134 | 69 => 78 | 4 => 4 | 61 => 127 | 60 => 126 | 44 => 131 | 5 => 5 | 9 => 9 | 75 => 136 | 79 => 140 | 83 => 142 | 84 => 143 | n => n, fun | n => n⟩
theorem Tryz.sortL : Go.Proofs.SlLaysN.n53 Tryz.prog Tryz.sortL_ren := {
  mixed := by kernel_rfl
  f53 := ⟨Tryz.f99.name, by decide, Tryz.func99.trans (congrArg some (by kernel_rfl))⟩
  f59 := ⟨Tryz.f112.name, by decide, Tryz.func112.trans (congrArg some (by kernel_rfl))⟩
  f63 := ⟨Tryz.f104.name, by decide, Tryz.func104.trans (congrArg some (by kernel_rfl))⟩
  f64 := Tryz.func105.trans (congrArg some (by kernel_rfl))
  f68 := ⟨Tryz.f122.name, by decide, Tryz.func122.trans (congrArg some (by kernel_rfl))⟩
  f70 := ⟨Tryz.f106.name, by decide, Tryz.func106.trans (congrArg some (by kernel_rfl))⟩
  f71 := ⟨Tryz.f107.name, by decide, Tryz.func107.trans (congrArg some (by kernel_rfl))⟩
  f72 := ⟨Tryz.f108.name, by decide, Tryz.func108.trans (congrArg some (by kernel_rfl))⟩
  f73 := ⟨Tryz.f109.name, by decide, Tryz.func109.trans (congrArg some (by kernel_rfl))⟩
  f74 := ⟨Tryz.f110.name, by decide, Tryz.func110.trans (congrArg some (by kernel_rfl))⟩
  f75 := ⟨Tryz.f111.name, by decide, Tryz.func111.trans (congrArg some (by kernel_rfl))⟩
  f76 := ⟨Tryz.f113.name, by decide, Tryz.func113.trans (congrArg some (by kernel_rfl))⟩
  f77 := ⟨Tryz.f114.name, by decide, Tryz.func114.trans (congrArg some (by kernel_rfl))⟩
  f78 := Tryz.func115.trans (congrArg some (by kernel_rfl))
  f79 := Tryz.func116.trans (congrArg some (by kernel_rfl))
  f88 := ⟨Tryz.f117.name, by decide, Tryz.func117.trans (congrArg some (by kernel_rfl))⟩
  f89 := Tryz.func118.trans (congrArg some (by kernel_rfl))
  f90 := Tryz.func119.trans (congrArg some (by kernel_rfl))
  f91 := ⟨Tryz.f120.name, by decide, Tryz.func120.trans (congrArg some (by kernel_rfl))⟩
  f92 := ⟨Tryz.f121.name, by decide, Tryz.func121.trans (congrArg some (by kernel_rfl))⟩
  f96 := ⟨Tryz.f123.name, by decide, Tryz.func123.trans (congrArg some (by kernel_rfl))⟩
  t0 := Tryz.underlying0
  a0 := Tryz.isAgg0
  z0 := Tryz.sizeOf0
  v0 := Tryz.zeroValue0
  t3 := Tryz.underlying3
  a3 := Tryz.isAgg3
  z3 := Tryz.sizeOf3
  v3 := Tryz.zeroValue3
  t4 := Tryz.underlying4
  a4 := Tryz.isAgg4
  z4 := Tryz.sizeOf4
  v4 := Tryz.zeroValue4
  t5 := Tryz.underlying5
  a5 := Tryz.isAgg5
  z5 := Tryz.sizeOf5
  v5 := Tryz.zeroValue5
  t9 := Tryz.underlying9
  a9 := Tryz.isAgg9
  z9 := Tryz.sizeOf9
  v9 := Tryz.zeroValue9
  t22 := Tryz.underlying40
  a22 := Tryz.isAgg40
  z22 := Tryz.sizeOf40
  v22 := Tryz.zeroValue40
  t23 := Tryz.underlying2
  a23 := Tryz.isAgg2
  z23 := Tryz.sizeOf2
  v23 := Tryz.zeroValue2
  t44 := Tryz.underlying131
  a44 := Tryz.isAgg131
  z44 := Tryz.sizeOf131
  v44 := Tryz.zeroValue131
  t51 := Tryz.underlying81
  a51 := Tryz.isAgg81
  z51 := Tryz.sizeOf81
  v51 := Tryz.zeroValue81
  t60 := Tryz.underlying126
  a60 := Tryz.isAgg126
  z60 := Tryz.sizeOf126
  v60 := Tryz.zeroValue126
  t61 := Tryz.underlying127
  a61 := Tryz.isAgg127
  z61 := Tryz.sizeOf127
  v61 := Tryz.zeroValue127
  t67 := Tryz.underlying134
  a67 := Tryz.isAgg134
  z67 := Tryz.sizeOf134
  v67 := Tryz.zeroValue134
  t69 := Tryz.underlying78
  a69 := Tryz.isAgg78
  z69 := Tryz.sizeOf78
  v69 := Tryz.zeroValue78
  t75 := Tryz.underlying136
  a75 := Tryz.isAgg136
  z75 := Tryz.sizeOf136
  v75 := Tryz.zeroValue136
  t79 := Tryz.underlying140
  a79 := Tryz.isAgg140
  z79 := Tryz.sizeOf140
  v79 := Tryz.zeroValue140
  t83 := Tryz.underlying142
  a83 := Tryz.isAgg142
  z83 := Tryz.sizeOf142
  v83 := Tryz.zeroValue142
  t84 := Tryz.underlying143
  a84 := Tryz.isAgg143
  z84 := Tryz.sizeOf143
  v84 := Tryz.zeroValue143 }
end Go.Proofs
