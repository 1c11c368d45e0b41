/-
  DERIVED: THE SHELF's CONTRACTS AT THIS DUMP, IN PLAIN WORDS (tools/lay-plain.mjs out of 'YtkknnbmmcmhngaaGreatShelf.lean', which tools/lay-shelf.mjs wrote): THE SAME DECLARATIONS UNDER THE SAME NAMES: 'import', 'namespace', 'open', 'def', 'theorem' AND NOTHING ELSE: no command of the shelf's: FOR A HAND-IN. Each laying: the table of numbers ('.._ren') and one theorem, a field a fact of the dump's own or the kernel's comparison; each contract: ONE APPLICATION.
-/
import Derived.Shelf.SlGeneric
import Derived.Shelf.SortG.SortNone
import Derived.Shelf.SortG.Plain
import Derived.Shelf.SlIterI.Sorted
import Derived.Ground.GgzProg
import Derived.Ground.SlgnProg
import Derived.Test.YtkknnbmmcmhngaaGreatProg
namespace Go.Proofs
open Go.Shelf
def Tryz.sortL_ren : Go.Shelf.Ren := ⟨fun | 53 => 174 | 64 => 185 | 63 => 184 | 78 => 201 | 79 => 202 | 70 => 192 | 71 => 193 | 72 => 194 | 73 => 195 | 74 => 196 | 75 => 197 | 59 => 198 | 76 => 199 | 77 => 200 | 88 => 204 | 89 => 205 | 90 => 206 | 91 => 207 | 92 => 208 | 68 => 209 | 96 => 210 | n => n, fun | 22 => 27 | 23 => 2 | 3 => 3 | 51 => 115 | 0 => 0 | 67 => 158 | 69 => 56 | 4 => 4 | 61 => 151 | 60 => 150 | 44 => 155 | 5 => 5 | 9 => 9 | 75 => 160 | 79 => 164 | 83 => 166 | 84 => 167 | n => n, fun | n => n⟩
theorem Tryz.sortL : Go.Proofs.SlLaysN.n53 Tryz.prog Tryz.sortL_ren := {
  mixed := by kernel_rfl
  f53 := ⟨Tryz.f174.name, by decide, Tryz.func174.trans (congrArg some (by kernel_rfl))⟩
  f59 := ⟨Tryz.f198.name, by decide, Tryz.func198.trans (congrArg some (by kernel_rfl))⟩
  f63 := ⟨Tryz.f184.name, by decide, Tryz.func184.trans (congrArg some (by kernel_rfl))⟩
  f64 := Tryz.func185.trans (congrArg some (by kernel_rfl))
  f68 := ⟨Tryz.f209.name, by decide, Tryz.func209.trans (congrArg some (by kernel_rfl))⟩
  f70 := ⟨Tryz.f192.name, by decide, Tryz.func192.trans (congrArg some (by kernel_rfl))⟩
  f71 := ⟨Tryz.f193.name, by decide, Tryz.func193.trans (congrArg some (by kernel_rfl))⟩
  f72 := ⟨Tryz.f194.name, by decide, Tryz.func194.trans (congrArg some (by kernel_rfl))⟩
  f73 := ⟨Tryz.f195.name, by decide, Tryz.func195.trans (congrArg some (by kernel_rfl))⟩
  f74 := ⟨Tryz.f196.name, by decide, Tryz.func196.trans (congrArg some (by kernel_rfl))⟩
  f75 := ⟨Tryz.f197.name, by decide, Tryz.func197.trans (congrArg some (by kernel_rfl))⟩
  f76 := ⟨Tryz.f199.name, by decide, Tryz.func199.trans (congrArg some (by kernel_rfl))⟩
  f77 := ⟨Tryz.f200.name, by decide, Tryz.func200.trans (congrArg some (by kernel_rfl))⟩
  f78 := Tryz.func201.trans (congrArg some (by kernel_rfl))
  f79 := Tryz.func202.trans (congrArg some (by kernel_rfl))
  f88 := ⟨Tryz.f204.name, by decide, Tryz.func204.trans (congrArg some (by kernel_rfl))⟩
  f89 := Tryz.func205.trans (congrArg some (by kernel_rfl))
  f90 := Tryz.func206.trans (congrArg some (by kernel_rfl))
  f91 := ⟨Tryz.f207.name, by decide, Tryz.func207.trans (congrArg some (by kernel_rfl))⟩
  f92 := ⟨Tryz.f208.name, by decide, Tryz.func208.trans (congrArg some (by kernel_rfl))⟩
  f96 := ⟨Tryz.f210.name, by decide, Tryz.func210.trans (congrArg some (by kernel_rfl))⟩
  t0 := Tryz.underlying0
  a0 := Tryz.isAgg0
  z0 := Tryz.sizeOf0
  v0 := Tryz.zeroValue0
  t3 := Tryz.underlying3
  a3 := Tryz.isAgg3
  z3 := Tryz.sizeOf3
  v3 := Tryz.zeroValue3
  t4 := Tryz.underlying4
  a4 := Tryz.isAgg4
  z4 := Tryz.sizeOf4
  v4 := Tryz.zeroValue4
  t5 := Tryz.underlying5
  a5 := Tryz.isAgg5
  z5 := Tryz.sizeOf5
  v5 := Tryz.zeroValue5
  t9 := Tryz.underlying9
  a9 := Tryz.isAgg9
  z9 := Tryz.sizeOf9
  v9 := Tryz.zeroValue9
  t22 := Tryz.underlying27
  a22 := Tryz.isAgg27
  z22 := Tryz.sizeOf27
  v22 := Tryz.zeroValue27
  t23 := Tryz.underlying2
  a23 := Tryz.isAgg2
  z23 := Tryz.sizeOf2
  v23 := Tryz.zeroValue2
  t44 := Tryz.underlying155
  a44 := Tryz.isAgg155
  z44 := Tryz.sizeOf155
  v44 := Tryz.zeroValue155
  t51 := Tryz.underlying115
  a51 := Tryz.isAgg115
  z51 := Tryz.sizeOf115
  v51 := Tryz.zeroValue115
  t60 := Tryz.underlying150
  a60 := Tryz.isAgg150
  z60 := Tryz.sizeOf150
  v60 := Tryz.zeroValue150
  t61 := Tryz.underlying151
  a61 := Tryz.isAgg151
  z61 := Tryz.sizeOf151
  v61 := Tryz.zeroValue151
  t67 := Tryz.underlying158
  a67 := Tryz.isAgg158
  z67 := Tryz.sizeOf158
  v67 := Tryz.zeroValue158
  t69 := Tryz.underlying56
  a69 := Tryz.isAgg56
  z69 := Tryz.sizeOf56
  v69 := Tryz.zeroValue56
  t75 := Tryz.underlying160
  a75 := Tryz.isAgg160
  z75 := Tryz.sizeOf160
  v75 := Tryz.zeroValue160
  t79 := Tryz.underlying164
  a79 := Tryz.isAgg164
  z79 := Tryz.sizeOf164
  v79 := Tryz.zeroValue164
  t83 := Tryz.underlying166
  a83 := Tryz.isAgg166
  z83 := Tryz.sizeOf166
  v83 := Tryz.zeroValue166
  t84 := Tryz.underlying167
  a84 := Tryz.isAgg167
  z84 := Tryz.sizeOf167
  v84 := Tryz.zeroValue167 }
end Go.Proofs
