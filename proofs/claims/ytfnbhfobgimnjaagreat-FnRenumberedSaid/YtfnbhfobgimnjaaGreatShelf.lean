/-
  DERIVED: THE SHELF's CONTRACTS AT THIS DUMP, IN PLAIN WORDS (tools/lay-plain.mjs out of 'YtfnbhfobgimnjaaGreatShelf.lean', which tools/lay-shelf.mjs wrote): THE SAME DECLARATIONS UNDER THE SAME NAMES: 'import', 'namespace', 'open', 'def', 'theorem' AND NOTHING ELSE: no command of the shelf's: FOR A HAND-IN. Each laying: the table of numbers ('.._ren') and one theorem, a field a fact of the dump's own or the kernel's comparison; each contract: ONE APPLICATION.
-/
import Derived.Shelf.SlGeneric
import Derived.Shelf.SortG.SortNone
import Derived.Shelf.SortG.Plain
import Derived.Shelf.SlIterI.Sorted
import Derived.Ground.GgzProg
import Derived.Ground.SlgnProg
import Derived.Test.YtfnbhfobgimnjaaGreatProg
namespace Go.Proofs
open Go.Shelf
def Tryz.sortL_ren : Go.Shelf.Ren := ⟨fun | 53 => 114 | 64 => 125 | 63 => 124 | 78 => 136 | 79 => 137 | 70 => 127 | 71 => 128 | 72 => 129 | 73 => 130 | 74 => 131 | 75 => 132 | 59 => 133 | 76 => 134 | 77 => 135 | 88 => 141 | 89 => 142 | 90 => 143 | 91 => 144 | 92 => 145 | 68 => 146 | 96 => 148 | n => n, fun | 22 => 29 | 23 => 2 | 3 => 3 | 51 => 104 | 0 => 0 | 67 => 144 | 69 => 97 | 4 => 4 | 61 => 137 | 60 => 136 | 44 => 141 | 5 => 5 | 9 => 9 | 75 => 147 | 79 => 151 | 83 => 154 | 84 => 155 | n => n, fun | n => n⟩
theorem Tryz.sortL : Go.Proofs.SlLaysN.n53 Tryz.prog Tryz.sortL_ren := {
  mixed := by kernel_rfl
  f53 := ⟨Tryz.f114.name, by decide, Tryz.func114.trans (congrArg some (by kernel_rfl))⟩
  f59 := ⟨Tryz.f133.name, by decide, Tryz.func133.trans (congrArg some (by kernel_rfl))⟩
  f63 := ⟨Tryz.f124.name, by decide, Tryz.func124.trans (congrArg some (by kernel_rfl))⟩
  f64 := Tryz.func125.trans (congrArg some (by kernel_rfl))
  f68 := ⟨Tryz.f146.name, by decide, Tryz.func146.trans (congrArg some (by kernel_rfl))⟩
  f70 := ⟨Tryz.f127.name, by decide, Tryz.func127.trans (congrArg some (by kernel_rfl))⟩
  f71 := ⟨Tryz.f128.name, by decide, Tryz.func128.trans (congrArg some (by kernel_rfl))⟩
  f72 := ⟨Tryz.f129.name, by decide, Tryz.func129.trans (congrArg some (by kernel_rfl))⟩
  f73 := ⟨Tryz.f130.name, by decide, Tryz.func130.trans (congrArg some (by kernel_rfl))⟩
  f74 := ⟨Tryz.f131.name, by decide, Tryz.func131.trans (congrArg some (by kernel_rfl))⟩
  f75 := ⟨Tryz.f132.name, by decide, Tryz.func132.trans (congrArg some (by kernel_rfl))⟩
  f76 := ⟨Tryz.f134.name, by decide, Tryz.func134.trans (congrArg some (by kernel_rfl))⟩
  f77 := ⟨Tryz.f135.name, by decide, Tryz.func135.trans (congrArg some (by kernel_rfl))⟩
  f78 := Tryz.func136.trans (congrArg some (by kernel_rfl))
  f79 := Tryz.func137.trans (congrArg some (by kernel_rfl))
  f88 := ⟨Tryz.f141.name, by decide, Tryz.func141.trans (congrArg some (by kernel_rfl))⟩
  f89 := Tryz.func142.trans (congrArg some (by kernel_rfl))
  f90 := Tryz.func143.trans (congrArg some (by kernel_rfl))
  f91 := ⟨Tryz.f144.name, by decide, Tryz.func144.trans (congrArg some (by kernel_rfl))⟩
  f92 := ⟨Tryz.f145.name, by decide, Tryz.func145.trans (congrArg some (by kernel_rfl))⟩
  f96 := ⟨Tryz.f148.name, by decide, Tryz.func148.trans (congrArg some (by kernel_rfl))⟩
  t0 := Tryz.underlying0
  a0 := Tryz.isAgg0
  z0 := Tryz.sizeOf0
  v0 := Tryz.zeroValue0
  t3 := Tryz.underlying3
  a3 := Tryz.isAgg3
  z3 := Tryz.sizeOf3
  v3 := Tryz.zeroValue3
  t4 := Tryz.underlying4
  a4 := Tryz.isAgg4
  z4 := Tryz.sizeOf4
  v4 := Tryz.zeroValue4
  t5 := Tryz.underlying5
  a5 := Tryz.isAgg5
  z5 := Tryz.sizeOf5
  v5 := Tryz.zeroValue5
  t9 := Tryz.underlying9
  a9 := Tryz.isAgg9
  z9 := Tryz.sizeOf9
  v9 := Tryz.zeroValue9
  t22 := Tryz.underlying29
  a22 := Tryz.isAgg29
  z22 := Tryz.sizeOf29
  v22 := Tryz.zeroValue29
  t23 := Tryz.underlying2
  a23 := Tryz.isAgg2
  z23 := Tryz.sizeOf2
  v23 := Tryz.zeroValue2
  t44 := Tryz.underlying141
  a44 := Tryz.isAgg141
  z44 := Tryz.sizeOf141
  v44 := Tryz.zeroValue141
  t51 := Tryz.underlying104
  a51 := Tryz.isAgg104
  z51 := Tryz.sizeOf104
  v51 := Tryz.zeroValue104
  t60 := Tryz.underlying136
  a60 := Tryz.isAgg136
  z60 := Tryz.sizeOf136
  v60 := Tryz.zeroValue136
  t61 := Tryz.underlying137
  a61 := Tryz.isAgg137
  z61 := Tryz.sizeOf137
  v61 := Tryz.zeroValue137
  t67 := Tryz.underlying144
  a67 := Tryz.isAgg144
  z67 := Tryz.sizeOf144
  v67 := Tryz.zeroValue144
  t69 := Tryz.underlying97
  a69 := Tryz.isAgg97
  z69 := Tryz.sizeOf97
  v69 := Tryz.zeroValue97
  t75 := Tryz.underlying147
  a75 := Tryz.isAgg147
  z75 := Tryz.sizeOf147
  v75 := Tryz.zeroValue147
  t79 := Tryz.underlying151
  a79 := Tryz.isAgg151
  z79 := Tryz.sizeOf151
  v79 := Tryz.zeroValue151
  t83 := Tryz.underlying154
  a83 := Tryz.isAgg154
  z83 := Tryz.sizeOf154
  v83 := Tryz.zeroValue154
  t84 := Tryz.underlying155
  a84 := Tryz.isAgg155
  z84 := Tryz.sizeOf155
  v84 := Tryz.zeroValue155 }
end Go.Proofs
