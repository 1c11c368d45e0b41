/-
  DERIVED: THE SHELF's CONTRACTS AT THIS DUMP, IN PLAIN WORDS (tools/lay-plain.mjs out of 'YtfpcopidcagdaaaShelf.lean', which tools/lay-shelf.mjs wrote): THE SAME DECLARATIONS UNDER THE SAME NAMES: 'import', 'namespace', 'open', 'def', 'theorem' AND NOTHING ELSE: no command of the shelf's: FOR A HAND-IN. Each laying: the table of numbers ('.._ren') and one theorem, a field a fact of the dump's own or the kernel's comparison; each contract: ONE APPLICATION.
-/
import Derived.Shelf.SlGeneric
import Derived.Shelf.SortG.SortNone
import Derived.Shelf.SortG.Plain
import Derived.Ground.SlgnProg
import Derived.Test.YtfpcopidcagdaaaProg
namespace Go.Proofs
open Go.Shelf
def Try.sortL_ren : Go.Shelf.Ren := ⟨fun | 53 => 127 | 64 => 143 | 63 => 142 | 78 => 157 | 79 => 158 | 70 => 148 | 71 => 149 | 72 => 150 | 73 => 151 | 74 => 152 | 75 => 153 | 59 => 154 | 76 => 155 | 77 => 156 | 88 => 159 | 89 => 160 | 90 => 161 | 91 => 162 | 92 => 163 | 68 => 164 | 96 => 165 | n => n, fun | 22 => 29 | 23 => 2 | 3 => 3 | 51 => 102 | 0 => 0 | 67 => 128 | 69 => 85 | 4 => 4 | 61 => 135 | 60 => 134 | 44 => 139 | 5 => 5 | 9 => 9 | 75 => 143 | 79 => 147 | 83 => 149 | 84 => 150 | n => n, fun | n => n⟩
theorem Try.sortL : Go.Proofs.SlLaysN.n53 Try.prog Try.sortL_ren := {
  mixed := by kernel_rfl
  f53 := ⟨Try.f127.name, by decide, Try.func127.trans (congrArg some (by kernel_rfl))⟩
  f59 := ⟨Try.f154.name, by decide, Try.func154.trans (congrArg some (by kernel_rfl))⟩
  f63 := ⟨Try.f142.name, by decide, Try.func142.trans (congrArg some (by kernel_rfl))⟩
  f64 := Try.func143.trans (congrArg some (by kernel_rfl))
  f68 := ⟨Try.f164.name, by decide, Try.func164.trans (congrArg some (by kernel_rfl))⟩
  f70 := ⟨Try.f148.name, by decide, Try.func148.trans (congrArg some (by kernel_rfl))⟩
  f71 := ⟨Try.f149.name, by decide, Try.func149.trans (congrArg some (by kernel_rfl))⟩
  f72 := ⟨Try.f150.name, by decide, Try.func150.trans (congrArg some (by kernel_rfl))⟩
  f73 := ⟨Try.f151.name, by decide, Try.func151.trans (congrArg some (by kernel_rfl))⟩
  f74 := ⟨Try.f152.name, by decide, Try.func152.trans (congrArg some (by kernel_rfl))⟩
  f75 := ⟨Try.f153.name, by decide, Try.func153.trans (congrArg some (by kernel_rfl))⟩
  f76 := ⟨Try.f155.name, by decide, Try.func155.trans (congrArg some (by kernel_rfl))⟩
  f77 := ⟨Try.f156.name, by decide, Try.func156.trans (congrArg some (by kernel_rfl))⟩
  f78 := Try.func157.trans (congrArg some (by kernel_rfl))
  f79 := Try.func158.trans (congrArg some (by kernel_rfl))
  f88 := ⟨Try.f159.name, by decide, Try.func159.trans (congrArg some (by kernel_rfl))⟩
  f89 := Try.func160.trans (congrArg some (by kernel_rfl))
  f90 := Try.func161.trans (congrArg some (by kernel_rfl))
  f91 := ⟨Try.f162.name, by decide, Try.func162.trans (congrArg some (by kernel_rfl))⟩
  f92 := ⟨Try.f163.name, by decide, Try.func163.trans (congrArg some (by kernel_rfl))⟩
  f96 := ⟨Try.f165.name, by decide, Try.func165.trans (congrArg some (by kernel_rfl))⟩
  t0 := Try.underlying0
  a0 := Try.isAgg0
  z0 := Try.sizeOf0
  v0 := Try.zeroValue0
  t3 := Try.underlying3
  a3 := Try.isAgg3
  z3 := Try.sizeOf3
  v3 := Try.zeroValue3
  t4 := Try.underlying4
  a4 := Try.isAgg4
  z4 := Try.sizeOf4
  v4 := Try.zeroValue4
  t5 := Try.underlying5
  a5 := Try.isAgg5
  z5 := Try.sizeOf5
  v5 := Try.zeroValue5
  t9 := Try.underlying9
  a9 := Try.isAgg9
  z9 := Try.sizeOf9
  v9 := Try.zeroValue9
  t22 := Try.underlying29
  a22 := Try.isAgg29
  z22 := Try.sizeOf29
  v22 := Try.zeroValue29
  t23 := Try.underlying2
  a23 := Try.isAgg2
  z23 := Try.sizeOf2
  v23 := Try.zeroValue2
  t44 := Try.underlying139
  a44 := Try.isAgg139
  z44 := Try.sizeOf139
  v44 := Try.zeroValue139
  t51 := Try.underlying102
  a51 := Try.isAgg102
  z51 := Try.sizeOf102
  v51 := Try.zeroValue102
  t60 := Try.underlying134
  a60 := Try.isAgg134
  z60 := Try.sizeOf134
  v60 := Try.zeroValue134
  t61 := Try.underlying135
  a61 := Try.isAgg135
  z61 := Try.sizeOf135
  v61 := Try.zeroValue135
  t67 := Try.underlying128
  a67 := Try.isAgg128
  z67 := Try.sizeOf128
  v67 := Try.zeroValue128
  t69 := Try.underlying85
  a69 := Try.isAgg85
  z69 := Try.sizeOf85
  v69 := Try.zeroValue85
  t75 := Try.underlying143
  a75 := Try.isAgg143
  z75 := Try.sizeOf143
  v75 := Try.zeroValue143
  t79 := Try.underlying147
  a79 := Try.isAgg147
  z79 := Try.sizeOf147
  v79 := Try.zeroValue147
  t83 := Try.underlying149
  a83 := Try.isAgg149
  z83 := Try.sizeOf149
  v83 := Try.zeroValue149
  t84 := Try.underlying150
  a84 := Try.isAgg150
  z84 := Try.sizeOf150
  v84 := Try.zeroValue150 }
end Go.Proofs
