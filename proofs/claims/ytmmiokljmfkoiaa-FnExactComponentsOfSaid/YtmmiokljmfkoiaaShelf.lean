/-
  DERIVED: THE SHELF's CONTRACTS AT THIS DUMP, IN PLAIN WORDS (tools/lay-plain.mjs out of 'YtmmiokljmfkoiaaShelf.lean', which tools/lay-shelf.mjs wrote): THE SAME DECLARATIONS UNDER THE SAME NAMES: 'import', 'namespace', 'open', 'def', 'theorem' AND NOTHING ELSE: no command of the shelf's: FOR A HAND-IN. Each laying: the table of numbers ('.._ren') and one theorem, a field a fact of the dump's own or the kernel's comparison; each contract: ONE APPLICATION.
-/
import Derived.Shelf.SlGeneric
import Derived.Shelf.SortG.SortNone
import Derived.Shelf.SortG.Plain
import Derived.Ground.SlgnProg
import Derived.Test.YtmmiokljmfkoiaaProg
namespace Go.Proofs
open Go.Shelf
def Try.sortL_ren : Go.Shelf.Ren := ⟨fun | 53 => 67 | 64 => 92 | 63 => 91 | 78 => 118 | 79 => 119 | 70 => 109 | 71 => 110 | 72 => 111 | 73 => 112 | 74 => 113 | 75 => 114 | 59 => 115 | 76 => 116 | 77 => 117 | 88 => 126 | 89 => 127 | 90 => 128 | 91 => 129 | 92 => 130 | 68 => 131 | 96 => 133 | n => n, fun | 22 => 40 | 23 => 2 | 3 => 3 | 51 => 104 | 0 => 0 | 67 => 119 | 69 => 48 | 4 => 4 | 61 => 126 | 60 => 125 | 44 => 131 | 5 => 5 | 9 => 9 | 75 => 138 | 79 => 142 | 83 => 145 | 84 => 146 | n => n, fun | n => n⟩
theorem Try.sortL : Go.Proofs.SlLaysN.n53 Try.prog Try.sortL_ren := {
  mixed := by kernel_rfl
  f53 := ⟨Try.f67.name, by decide, Try.func67.trans (congrArg some (by kernel_rfl))⟩
  f59 := ⟨Try.f115.name, by decide, Try.func115.trans (congrArg some (by kernel_rfl))⟩
  f63 := ⟨Try.f91.name, by decide, Try.func91.trans (congrArg some (by kernel_rfl))⟩
  f64 := Try.func92.trans (congrArg some (by kernel_rfl))
  f68 := ⟨Try.f131.name, by decide, Try.func131.trans (congrArg some (by kernel_rfl))⟩
  f70 := ⟨Try.f109.name, by decide, Try.func109.trans (congrArg some (by kernel_rfl))⟩
  f71 := ⟨Try.f110.name, by decide, Try.func110.trans (congrArg some (by kernel_rfl))⟩
  f72 := ⟨Try.f111.name, by decide, Try.func111.trans (congrArg some (by kernel_rfl))⟩
  f73 := ⟨Try.f112.name, by decide, Try.func112.trans (congrArg some (by kernel_rfl))⟩
  f74 := ⟨Try.f113.name, by decide, Try.func113.trans (congrArg some (by kernel_rfl))⟩
  f75 := ⟨Try.f114.name, by decide, Try.func114.trans (congrArg some (by kernel_rfl))⟩
  f76 := ⟨Try.f116.name, by decide, Try.func116.trans (congrArg some (by kernel_rfl))⟩
  f77 := ⟨Try.f117.name, by decide, Try.func117.trans (congrArg some (by kernel_rfl))⟩
  f78 := Try.func118.trans (congrArg some (by kernel_rfl))
  f79 := Try.func119.trans (congrArg some (by kernel_rfl))
  f88 := ⟨Try.f126.name, by decide, Try.func126.trans (congrArg some (by kernel_rfl))⟩
  f89 := Try.func127.trans (congrArg some (by kernel_rfl))
  f90 := Try.func128.trans (congrArg some (by kernel_rfl))
  f91 := ⟨Try.f129.name, by decide, Try.func129.trans (congrArg some (by kernel_rfl))⟩
  f92 := ⟨Try.f130.name, by decide, Try.func130.trans (congrArg some (by kernel_rfl))⟩
  f96 := ⟨Try.f133.name, by decide, Try.func133.trans (congrArg some (by kernel_rfl))⟩
  t0 := Try.underlying0
  a0 := Try.isAgg0
  z0 := Try.sizeOf0
  v0 := Try.zeroValue0
  t3 := Try.underlying3
  a3 := Try.isAgg3
  z3 := Try.sizeOf3
  v3 := Try.zeroValue3
  t4 := Try.underlying4
  a4 := Try.isAgg4
  z4 := Try.sizeOf4
  v4 := Try.zeroValue4
  t5 := Try.underlying5
  a5 := Try.isAgg5
  z5 := Try.sizeOf5
  v5 := Try.zeroValue5
  t9 := Try.underlying9
  a9 := Try.isAgg9
  z9 := Try.sizeOf9
  v9 := Try.zeroValue9
  t22 := Try.underlying40
  a22 := Try.isAgg40
  z22 := Try.sizeOf40
  v22 := Try.zeroValue40
  t23 := Try.underlying2
  a23 := Try.isAgg2
  z23 := Try.sizeOf2
  v23 := Try.zeroValue2
  t44 := Try.underlying131
  a44 := Try.isAgg131
  z44 := Try.sizeOf131
  v44 := Try.zeroValue131
  t51 := Try.underlying104
  a51 := Try.isAgg104
  z51 := Try.sizeOf104
  v51 := Try.zeroValue104
  t60 := Try.underlying125
  a60 := Try.isAgg125
  z60 := Try.sizeOf125
  v60 := Try.zeroValue125
  t61 := Try.underlying126
  a61 := Try.isAgg126
  z61 := Try.sizeOf126
  v61 := Try.zeroValue126
  t67 := Try.underlying119
  a67 := Try.isAgg119
  z67 := Try.sizeOf119
  v67 := Try.zeroValue119
  t69 := Try.underlying48
  a69 := Try.isAgg48
  z69 := Try.sizeOf48
  v69 := Try.zeroValue48
  t75 := Try.underlying138
  a75 := Try.isAgg138
  z75 := Try.sizeOf138
  v75 := Try.zeroValue138
  t79 := Try.underlying142
  a79 := Try.isAgg142
  z79 := Try.sizeOf142
  v79 := Try.zeroValue142
  t83 := Try.underlying145
  a83 := Try.isAgg145
  z83 := Try.sizeOf145
  v83 := Try.zeroValue145
  t84 := Try.underlying146
  a84 := Try.isAgg146
  z84 := Try.sizeOf146
  v84 := Try.zeroValue146 }
end Go.Proofs
