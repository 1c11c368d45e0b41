/-
  No cell of these rows narrows 'for every input' (looked for: loops, veiled, ifaces, maps, wideKeys, modest, calm, conditions, laid).
  DERIVED. THE GIVEN ROWS OF THIS SEAT. 7 by the template 'for every input the law returns true; each argument reads behind the call as it read before'; 0 by the template 'total and deterministic' (their statements: YtfgfaffcfbhocaaTotals.lean).
  GIVEN WITH THE SEED: the statements are not yours to turn. If you find one false, say at which input.
  Laid BY PROGRAM, IN A SANDBOX (cutbox-rows.mjs): the forced cells as the released guide's own fill.sh prints them over the translation dab8a282a5d4f31e… (all of the seat's roots in one cut). By AI agents, Wed Nov 11 2026. No macro, syntax, notation, axiom, sorry.
-/
import Derived.Test.YtfgfaffcfbhocaaChecked
import GoSem.Claim
import GoSem.ClaimJoined
import GoSem.ClaimMapViews
import Derived.JoinedTies
import Derived.KernelRfl
namespace Go.Proofs.Ytfgfaffcfbhocaa
/- THE CELL 'sum', in the pinned program and in every row, IS THE sha256 OF THE DUMP (.gsa) THAT YtfgfaffcfbhocaaProg.lean LOADS. Nothing in Lean hashes anything: it is a label: what it is worth is what the hold of that sum in a sandbox is worth. -/
noncomputable def Try.pinned : Pinned := { name := "ytfgfaffcfbhocaa", sum := "dab8a282a5d4f31eb0f92362cdb69b7fe632f8a897290a712514c08caf602e04", checked := Try.checked }
namespace Rows
def none {H : Type} : Left H := { results := [], args := [] }

/-- 'laws.FnExactExtensionList': WHATEVER THE INPUT: true; the input reads as it did. -/
def fnExactExtensionListSpec : ChangeSpec := { name := "fnExactExtensionList", fn := fun _ => fun
  | [d1, d2] => { results := [.lit (.bool true)], args := [d1, d2] }
  | _ => none }
def fnExactExtensionListRow : OpenClaim := { program := "ytfgfaffcfbhocaa", sum := "dab8a282a5d4f31eb0f92362cdb69b7fe632f8a897290a712514c08caf602e04", func := "loop.example/g01362/laws.FnExactExtensionList", spec := "fnExactExtensionList", unfollowed := true, recurses := true, plainKeys := false, apart := false }
def FnExactExtensionListSaid : Prop := fnExactExtensionListRow.holds Try.pinned (OpenSpec.ofChange fnExactExtensionListSpec)

/-- ITS FALSE NEIGHBOUR: 'it returns false'. Refute it at one input. -/
def fnExactExtensionListWrong : ChangeSpec := { name := "fnExactExtensionList", fn := fun _ => fun
  | [d1, d2] => { results := [.lit (.bool false)], args := [d1, d2] }
  | _ => none }
def FnExactExtensionListWrongFalsely : Prop := fnExactExtensionListRow.holds Try.pinned (OpenSpec.ofChange fnExactExtensionListWrong)

/-- 'laws.FnExactAvoidsPattern': WHATEVER THE INPUT: true; the input reads as it did. -/
def fnExactAvoidsPatternSpec : ChangeSpec := { name := "fnExactAvoidsPattern", fn := fun _ => fun
  | [d1, d2, d3, d4] => { results := [.lit (.bool true)], args := [d1, d2, d3, d4] }
  | _ => none }
def fnExactAvoidsPatternRow : OpenClaim := { program := "ytfgfaffcfbhocaa", sum := "dab8a282a5d4f31eb0f92362cdb69b7fe632f8a897290a712514c08caf602e04", func := "loop.example/g01362/laws.FnExactAvoidsPattern", spec := "fnExactAvoidsPattern", unfollowed := true, recurses := true, plainKeys := false, apart := false }
def FnExactAvoidsPatternSaid : Prop := fnExactAvoidsPatternRow.holds Try.pinned (OpenSpec.ofChange fnExactAvoidsPatternSpec)

/-- ITS FALSE NEIGHBOUR: 'it returns false'. Refute it at one input. -/
def fnExactAvoidsPatternWrong : ChangeSpec := { name := "fnExactAvoidsPattern", fn := fun _ => fun
  | [d1, d2, d3, d4] => { results := [.lit (.bool false)], args := [d1, d2, d3, d4] }
  | _ => none }
def FnExactAvoidsPatternWrongFalsely : Prop := fnExactAvoidsPatternRow.holds Try.pinned (OpenSpec.ofChange fnExactAvoidsPatternWrong)

/-- 'laws.FnExactRenumberPosition': WHATEVER THE INPUT: true; the input reads as it did. -/
def fnExactRenumberPositionSpec : ChangeSpec := { name := "fnExactRenumberPosition", fn := fun _ => fun
  | [d1, d2, d3] => { results := [.lit (.bool true)], args := [d1, d2, d3] }
  | _ => none }
def fnExactRenumberPositionRow : OpenClaim := { program := "ytfgfaffcfbhocaa", sum := "dab8a282a5d4f31eb0f92362cdb69b7fe632f8a897290a712514c08caf602e04", func := "loop.example/g01362/laws.FnExactRenumberPosition", spec := "fnExactRenumberPosition", unfollowed := true, recurses := true, plainKeys := false, apart := false }
def FnExactRenumberPositionSaid : Prop := fnExactRenumberPositionRow.holds Try.pinned (OpenSpec.ofChange fnExactRenumberPositionSpec)

/-- ITS FALSE NEIGHBOUR: 'it returns false'. Refute it at one input. -/
def fnExactRenumberPositionWrong : ChangeSpec := { name := "fnExactRenumberPosition", fn := fun _ => fun
  | [d1, d2, d3] => { results := [.lit (.bool false)], args := [d1, d2, d3] }
  | _ => none }
def FnExactRenumberPositionWrongFalsely : Prop := fnExactRenumberPositionRow.holds Try.pinned (OpenSpec.ofChange fnExactRenumberPositionWrong)

/-- 'laws.FnExactComponentsOf': WHATEVER THE INPUT: true; the input reads as it did. -/
def fnExactComponentsOfSpec : ChangeSpec := { name := "fnExactComponentsOf", fn := fun _ => fun
  | [d1, d2] => { results := [.lit (.bool true)], args := [d1, d2] }
  | _ => none }
def fnExactComponentsOfRow : OpenClaim := { program := "ytfgfaffcfbhocaa", sum := "dab8a282a5d4f31eb0f92362cdb69b7fe632f8a897290a712514c08caf602e04", func := "loop.example/g01362/laws.FnExactComponentsOf", spec := "fnExactComponentsOf", unfollowed := true, recurses := true, plainKeys := false, apart := false }
def FnExactComponentsOfSaid : Prop := fnExactComponentsOfRow.holds Try.pinned (OpenSpec.ofChange fnExactComponentsOfSpec)

/-- ITS FALSE NEIGHBOUR: 'it returns false'. Refute it at one input. -/
def fnExactComponentsOfWrong : ChangeSpec := { name := "fnExactComponentsOf", fn := fun _ => fun
  | [d1, d2] => { results := [.lit (.bool false)], args := [d1, d2] }
  | _ => none }
def FnExactComponentsOfWrongFalsely : Prop := fnExactComponentsOfRow.holds Try.pinned (OpenSpec.ofChange fnExactComponentsOfWrong)

/-- 'laws.FnUps': WHATEVER THE INPUT: true; the input reads as it did. -/
def fnUpsSpec : ChangeSpec := { name := "fnUps", fn := fun _ => fun
  | [d] => { results := [.lit (.bool true)], args := [d] }
  | _ => none }
def fnUpsRow : OpenClaim := { program := "ytfgfaffcfbhocaa", sum := "dab8a282a5d4f31eb0f92362cdb69b7fe632f8a897290a712514c08caf602e04", func := "loop.example/g01362/laws.FnUps", spec := "fnUps", unfollowed := true, recurses := true, plainKeys := false, apart := false }
def FnUpsSaid : Prop := fnUpsRow.holds Try.pinned (OpenSpec.ofChange fnUpsSpec)

/-- ITS FALSE NEIGHBOUR: 'it returns false'. Refute it at one input. -/
def fnUpsWrong : ChangeSpec := { name := "fnUps", fn := fun _ => fun
  | [d] => { results := [.lit (.bool false)], args := [d] }
  | _ => none }
def FnUpsWrongFalsely : Prop := fnUpsRow.holds Try.pinned (OpenSpec.ofChange fnUpsWrong)

/-- 'laws.FnPartColourings': WHATEVER THE INPUT: true; the input reads as it did. -/
def fnPartColouringsSpec : ChangeSpec := { name := "fnPartColourings", fn := fun _ => fun
  | [d] => { results := [.lit (.bool true)], args := [d] }
  | _ => none }
def fnPartColouringsRow : OpenClaim := { program := "ytfgfaffcfbhocaa", sum := "dab8a282a5d4f31eb0f92362cdb69b7fe632f8a897290a712514c08caf602e04", func := "loop.example/g01362/laws.FnPartColourings", spec := "fnPartColourings", unfollowed := true, recurses := true, plainKeys := false, apart := false }
def FnPartColouringsSaid : Prop := fnPartColouringsRow.holds Try.pinned (OpenSpec.ofChange fnPartColouringsSpec)

/-- ITS FALSE NEIGHBOUR: 'it returns false'. Refute it at one input. -/
def fnPartColouringsWrong : ChangeSpec := { name := "fnPartColourings", fn := fun _ => fun
  | [d] => { results := [.lit (.bool false)], args := [d] }
  | _ => none }
def FnPartColouringsWrongFalsely : Prop := fnPartColouringsRow.holds Try.pinned (OpenSpec.ofChange fnPartColouringsWrong)

/-- 'laws.FnParts': WHATEVER THE INPUT: true; the input reads as it did. -/
def fnPartsSpec : ChangeSpec := { name := "fnParts", fn := fun _ => fun
  | [d] => { results := [.lit (.bool true)], args := [d] }
  | _ => none }
def fnPartsRow : OpenClaim := { program := "ytfgfaffcfbhocaa", sum := "dab8a282a5d4f31eb0f92362cdb69b7fe632f8a897290a712514c08caf602e04", func := "loop.example/g01362/laws.FnParts", spec := "fnParts", unfollowed := true, recurses := true, plainKeys := false, apart := false }
def FnPartsSaid : Prop := fnPartsRow.holds Try.pinned (OpenSpec.ofChange fnPartsSpec)

/-- ITS FALSE NEIGHBOUR: 'it returns false'. Refute it at one input. -/
def fnPartsWrong : ChangeSpec := { name := "fnParts", fn := fun _ => fun
  | [d] => { results := [.lit (.bool false)], args := [d] }
  | _ => none }
def FnPartsWrongFalsely : Prop := fnPartsRow.holds Try.pinned (OpenSpec.ofChange fnPartsWrong)

/- THE SECOND FORM. 'bulk': how many values and letters a reading holds, each counted each time it is reached (what is shared counts as often as it is met; a slice's spare places count too). A statement '..UptoSaid' is the law's where the arguments, and the package variables that the reading takes, are together of bulk at most 1048576: NARROWER than '..Said'. Prove '..Said' where nothing that the law and all that it calls make is longer than what came in: it says more and counts as full. Else prove '..UptoSaid'. A law counts once. -/
mutual
def uptoBulk {H : Type} : DataW H → Nat
  | .lit (.string bytes) => bytes.length + 1
  | .lit _ => 1
  | .nil => 1
  | .ptr d => uptoBulk d + 1
  | .slice elems spare => uptoBulkAll elems + uptoBulkAll spare + 1
  | .agg parts => uptoBulkAll parts + 1
  | .iface _ d => uptoBulk d + 1
  | .map entries => uptoBulkEntries entries + 1
  | .held _ => 1
def uptoBulkAll {H : Type} : List (DataW H) → Nat
  | [] => 0
  | d :: r => uptoBulk d + uptoBulkAll r
def uptoBulkEntries {H : Type} : List (Lit × DataW H) → Nat
  | [] => 0
  | x :: r => uptoBulkEntry x + uptoBulkEntries r
def uptoBulkEntry {H : Type} : Lit × DataW H → Nat
  | (.string bytes, d) => bytes.length + uptoBulk d + 1
  | (_, d) => uptoBulk d + 1
 end
def uptoSmall : (H : Type) → List (DataW H) → Bool := fun _ ds => decide (uptoBulkAll ds ≤ 1048576)
def OpenSpec.upto (s : _root_.Go.ChangeSpec) : _root_.Go.OpenSpec := { _root_.Go.OpenSpec.ofChange s with cond := some uptoSmall }

/-- 'laws.FnExactExtensionList', WHERE WHAT IT READS IS OF BULK AT MOST 1048576: true; the input reads as it did. -/
def fnExactExtensionListUptoRow : OpenClaim := { program := "ytfgfaffcfbhocaa", sum := "dab8a282a5d4f31eb0f92362cdb69b7fe632f8a897290a712514c08caf602e04", func := "loop.example/g01362/laws.FnExactExtensionList", spec := "fnExactExtensionList", unfollowed := true, recurses := true, plainKeys := false, apart := false, narrowed := true }
def FnExactExtensionListUptoSaid : Prop := fnExactExtensionListUptoRow.holds Try.pinned (OpenSpec.upto fnExactExtensionListSpec)

/-- 'laws.FnExactAvoidsPattern', WHERE WHAT IT READS IS OF BULK AT MOST 1048576: true; the input reads as it did. -/
def fnExactAvoidsPatternUptoRow : OpenClaim := { program := "ytfgfaffcfbhocaa", sum := "dab8a282a5d4f31eb0f92362cdb69b7fe632f8a897290a712514c08caf602e04", func := "loop.example/g01362/laws.FnExactAvoidsPattern", spec := "fnExactAvoidsPattern", unfollowed := true, recurses := true, plainKeys := false, apart := false, narrowed := true }
def FnExactAvoidsPatternUptoSaid : Prop := fnExactAvoidsPatternUptoRow.holds Try.pinned (OpenSpec.upto fnExactAvoidsPatternSpec)

/-- 'laws.FnExactRenumberPosition', WHERE WHAT IT READS IS OF BULK AT MOST 1048576: true; the input reads as it did. -/
def fnExactRenumberPositionUptoRow : OpenClaim := { program := "ytfgfaffcfbhocaa", sum := "dab8a282a5d4f31eb0f92362cdb69b7fe632f8a897290a712514c08caf602e04", func := "loop.example/g01362/laws.FnExactRenumberPosition", spec := "fnExactRenumberPosition", unfollowed := true, recurses := true, plainKeys := false, apart := false, narrowed := true }
def FnExactRenumberPositionUptoSaid : Prop := fnExactRenumberPositionUptoRow.holds Try.pinned (OpenSpec.upto fnExactRenumberPositionSpec)

/-- 'laws.FnExactComponentsOf', WHERE WHAT IT READS IS OF BULK AT MOST 1048576: true; the input reads as it did. -/
def fnExactComponentsOfUptoRow : OpenClaim := { program := "ytfgfaffcfbhocaa", sum := "dab8a282a5d4f31eb0f92362cdb69b7fe632f8a897290a712514c08caf602e04", func := "loop.example/g01362/laws.FnExactComponentsOf", spec := "fnExactComponentsOf", unfollowed := true, recurses := true, plainKeys := false, apart := false, narrowed := true }
def FnExactComponentsOfUptoSaid : Prop := fnExactComponentsOfUptoRow.holds Try.pinned (OpenSpec.upto fnExactComponentsOfSpec)

/-- 'laws.FnUps', WHERE WHAT IT READS IS OF BULK AT MOST 1048576: true; the input reads as it did. -/
def fnUpsUptoRow : OpenClaim := { program := "ytfgfaffcfbhocaa", sum := "dab8a282a5d4f31eb0f92362cdb69b7fe632f8a897290a712514c08caf602e04", func := "loop.example/g01362/laws.FnUps", spec := "fnUps", unfollowed := true, recurses := true, plainKeys := false, apart := false, narrowed := true }
def FnUpsUptoSaid : Prop := fnUpsUptoRow.holds Try.pinned (OpenSpec.upto fnUpsSpec)

/-- 'laws.FnPartColourings', WHERE WHAT IT READS IS OF BULK AT MOST 1048576: true; the input reads as it did. -/
def fnPartColouringsUptoRow : OpenClaim := { program := "ytfgfaffcfbhocaa", sum := "dab8a282a5d4f31eb0f92362cdb69b7fe632f8a897290a712514c08caf602e04", func := "loop.example/g01362/laws.FnPartColourings", spec := "fnPartColourings", unfollowed := true, recurses := true, plainKeys := false, apart := false, narrowed := true }
def FnPartColouringsUptoSaid : Prop := fnPartColouringsUptoRow.holds Try.pinned (OpenSpec.upto fnPartColouringsSpec)

/-- 'laws.FnParts', WHERE WHAT IT READS IS OF BULK AT MOST 1048576: true; the input reads as it did. -/
def fnPartsUptoRow : OpenClaim := { program := "ytfgfaffcfbhocaa", sum := "dab8a282a5d4f31eb0f92362cdb69b7fe632f8a897290a712514c08caf602e04", func := "loop.example/g01362/laws.FnParts", spec := "fnParts", unfollowed := true, recurses := true, plainKeys := false, apart := false, narrowed := true }
def FnPartsUptoSaid : Prop := fnPartsUptoRow.holds Try.pinned (OpenSpec.upto fnPartsSpec)

end Rows
end Go.Proofs.Ytfgfaffcfbhocaa
