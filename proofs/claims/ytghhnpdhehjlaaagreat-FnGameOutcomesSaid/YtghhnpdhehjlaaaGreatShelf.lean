/-
  DERIVED: THE SHELF's CONTRACTS AT THIS DUMP, IN PLAIN WORDS (tools/lay-plain.mjs out of 'YtghhnpdhehjlaaaGreatShelf.lean', which tools/lay-shelf.mjs wrote): THE SAME DECLARATIONS UNDER THE SAME NAMES: 'import', 'namespace', 'open', 'def', 'theorem' AND NOTHING ELSE: no command of the shelf's: FOR A HAND-IN. Each laying: the table of numbers ('.._ren') and one theorem, a field a fact of the dump's own or the kernel's comparison; each contract: ONE APPLICATION.
-/
import Derived.Shelf.SlGeneric
import Derived.Shelf.SortG.SortNone
import Derived.Shelf.SortG.Plain
import Derived.Shelf.SlIterI.Sorted
import Derived.Ground.GgzProg
import Derived.Ground.SlgnProg
import Derived.Test.YtghhnpdhehjlaaaGreatProg
namespace Go.Proofs
open Go.Shelf
def Tryz.sortL_ren : Go.Shelf.Ren := ⟨fun | 53 => 127 | 64 => 168 | 63 => 167 | 78 => 196 | 79 => 197 | 70 => 187 | 71 => 188 | 72 => 189 | 73 => 190 | 74 => 191 | 75 => 192 | 59 => 193 | 76 => 194 | 77 => 195 | 88 => 200 | 89 => 201 | 90 => 202 | 91 => 203 | 92 => 204 | 68 => 186 | 96 => 205 | n => n, fun | 22 => 27 | 23 => 2 | 3 => 3 | 51 => 118 | 0 => 0 | 67 => 161 | 69 => 73 | 4 => 4 | 61 => 154 | 60 => 153 | 44 => 158 | 5 => 5 | 9 => 9 | 75 => 165 | 79 => 169 | 83 => 171 | 84 => 172 | n => n, fun | n => n⟩
theorem Tryz.sortL : Go.Proofs.SlLaysN.n53 Tryz.prog Tryz.sortL_ren := {
  mixed := by kernel_rfl
  f53 := ⟨Tryz.f127.name, by decide, Tryz.func127.trans (congrArg some (by kernel_rfl))⟩
  f59 := ⟨Tryz.f193.name, by decide, Tryz.func193.trans (congrArg some (by kernel_rfl))⟩
  f63 := ⟨Tryz.f167.name, by decide, Tryz.func167.trans (congrArg some (by kernel_rfl))⟩
  f64 := Tryz.func168.trans (congrArg some (by kernel_rfl))
  f68 := ⟨Tryz.f186.name, by decide, Tryz.func186.trans (congrArg some (by kernel_rfl))⟩
  f70 := ⟨Tryz.f187.name, by decide, Tryz.func187.trans (congrArg some (by kernel_rfl))⟩
  f71 := ⟨Tryz.f188.name, by decide, Tryz.func188.trans (congrArg some (by kernel_rfl))⟩
  f72 := ⟨Tryz.f189.name, by decide, Tryz.func189.trans (congrArg some (by kernel_rfl))⟩
  f73 := ⟨Tryz.f190.name, by decide, Tryz.func190.trans (congrArg some (by kernel_rfl))⟩
  f74 := ⟨Tryz.f191.name, by decide, Tryz.func191.trans (congrArg some (by kernel_rfl))⟩
  f75 := ⟨Tryz.f192.name, by decide, Tryz.func192.trans (congrArg some (by kernel_rfl))⟩
  f76 := ⟨Tryz.f194.name, by decide, Tryz.func194.trans (congrArg some (by kernel_rfl))⟩
  f77 := ⟨Tryz.f195.name, by decide, Tryz.func195.trans (congrArg some (by kernel_rfl))⟩
  f78 := Tryz.func196.trans (congrArg some (by kernel_rfl))
  f79 := Tryz.func197.trans (congrArg some (by kernel_rfl))
  f88 := ⟨Tryz.f200.name, by decide, Tryz.func200.trans (congrArg some (by kernel_rfl))⟩
  f89 := Tryz.func201.trans (congrArg some (by kernel_rfl))
  f90 := Tryz.func202.trans (congrArg some (by kernel_rfl))
  f91 := ⟨Tryz.f203.name, by decide, Tryz.func203.trans (congrArg some (by kernel_rfl))⟩
  f92 := ⟨Tryz.f204.name, by decide, Tryz.func204.trans (congrArg some (by kernel_rfl))⟩
  f96 := ⟨Tryz.f205.name, by decide, Tryz.func205.trans (congrArg some (by kernel_rfl))⟩
  t0 := Tryz.underlying0
  a0 := Tryz.isAgg0
  z0 := Tryz.sizeOf0
  v0 := Tryz.zeroValue0
  t3 := Tryz.underlying3
  a3 := Tryz.isAgg3
  z3 := Tryz.sizeOf3
  v3 := Tryz.zeroValue3
  t4 := Tryz.underlying4
  a4 := Tryz.isAgg4
  z4 := Tryz.sizeOf4
  v4 := Tryz.zeroValue4
  t5 := Tryz.underlying5
  a5 := Tryz.isAgg5
  z5 := Tryz.sizeOf5
  v5 := Tryz.zeroValue5
  t9 := Tryz.underlying9
  a9 := Tryz.isAgg9
  z9 := Tryz.sizeOf9
  v9 := Tryz.zeroValue9
  t22 := Tryz.underlying27
  a22 := Tryz.isAgg27
  z22 := Tryz.sizeOf27
  v22 := Tryz.zeroValue27
  t23 := Tryz.underlying2
  a23 := Tryz.isAgg2
  z23 := Tryz.sizeOf2
  v23 := Tryz.zeroValue2
  t44 := Tryz.underlying158
  a44 := Tryz.isAgg158
  z44 := Tryz.sizeOf158
  v44 := Tryz.zeroValue158
  t51 := Tryz.underlying118
  a51 := Tryz.isAgg118
  z51 := Tryz.sizeOf118
  v51 := Tryz.zeroValue118
  t60 := Tryz.underlying153
  a60 := Tryz.isAgg153
  z60 := Tryz.sizeOf153
  v60 := Tryz.zeroValue153
  t61 := Tryz.underlying154
  a61 := Tryz.isAgg154
  z61 := Tryz.sizeOf154
  v61 := Tryz.zeroValue154
  t67 := Tryz.underlying161
  a67 := Tryz.isAgg161
  z67 := Tryz.sizeOf161
  v67 := Tryz.zeroValue161
  t69 := Tryz.underlying73
  a69 := Tryz.isAgg73
  z69 := Tryz.sizeOf73
  v69 := Tryz.zeroValue73
  t75 := Tryz.underlying165
  a75 := Tryz.isAgg165
  z75 := Tryz.sizeOf165
  v75 := Tryz.zeroValue165
  t79 := Tryz.underlying169
  a79 := Tryz.isAgg169
  z79 := Tryz.sizeOf169
  v79 := Tryz.zeroValue169
  t83 := Tryz.underlying171
  a83 := Tryz.isAgg171
  z83 := Tryz.sizeOf171
  v83 := Tryz.zeroValue171
  t84 := Tryz.underlying172
  a84 := Tryz.isAgg172
  z84 := Tryz.sizeOf172
  v84 := Tryz.zeroValue172 }
end Go.Proofs
