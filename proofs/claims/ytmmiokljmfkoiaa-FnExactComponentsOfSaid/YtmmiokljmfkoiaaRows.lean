/-
  No cell of these rows narrows 'for every input' (looked for: loops, veiled, ifaces, maps, wideKeys, modest, calm, conditions, laid).
  DERIVED. THE GIVEN ROWS OF THIS SEAT. 4 by the template 'for every input the law returns true; each argument reads behind the call as it read before'; 0 by the template 'total and deterministic' (their statements: YtmmiokljmfkoiaaTotals.lean).
  GIVEN WITH THE SEED: the statements are not yours to turn. If you find one false, say at which input.
  Laid BY PROGRAM, IN A SANDBOX (cutbox-rows.mjs): the forced cells as the released guide's own fill.sh prints them over the translation fc6617eda23513f6… (all of the seat's roots in one cut). By AI agents, Wed Nov 11 2026. No macro, syntax, notation, axiom, sorry.
-/
import Derived.Test.YtmmiokljmfkoiaaChecked
import GoSem.Claim
import GoSem.ClaimJoined
import GoSem.ClaimMapViews
import Derived.JoinedTies
import Derived.KernelRfl
namespace Go.Proofs.Ytmmiokljmfkoiaa
/- THE CELL 'sum', in the pinned program and in every row, IS THE sha256 OF THE DUMP (.gsa) THAT YtmmiokljmfkoiaaProg.lean LOADS. Nothing in Lean hashes anything: it is a label: what it is worth is what the hold of that sum in a sandbox is worth. -/
noncomputable def Try.pinned : Pinned := { name := "ytmmiokljmfkoiaa", sum := "fc6617eda23513f68d87c89722bb340fb764d6259052b519e310ce151f69640e", checked := Try.checked }
namespace Rows
def none {H : Type} : Left H := { results := [], args := [] }

/-- 'laws.FnExactComponentsOf': WHATEVER THE INPUT: true; the input reads as it did. -/
def fnExactComponentsOfSpec : ChangeSpec := { name := "fnExactComponentsOf", fn := fun _ => fun
  | [d1, d2] => { results := [.lit (.bool true)], args := [d1, d2] }
  | _ => none }
def fnExactComponentsOfRow : OpenClaim := { program := "ytmmiokljmfkoiaa", sum := "fc6617eda23513f68d87c89722bb340fb764d6259052b519e310ce151f69640e", func := "loop.example/g01362/laws.FnExactComponentsOf", spec := "fnExactComponentsOf", unfollowed := true, recurses := true, plainKeys := false, apart := false }
def FnExactComponentsOfSaid : Prop := fnExactComponentsOfRow.holds Try.pinned (OpenSpec.ofChange fnExactComponentsOfSpec)

/-- ITS FALSE NEIGHBOUR: 'it returns false'. Refute it at one input. -/
def fnExactComponentsOfWrong : ChangeSpec := { name := "fnExactComponentsOf", fn := fun _ => fun
  | [d1, d2] => { results := [.lit (.bool false)], args := [d1, d2] }
  | _ => none }
def FnExactComponentsOfWrongFalsely : Prop := fnExactComponentsOfRow.holds Try.pinned (OpenSpec.ofChange fnExactComponentsOfWrong)

/-- 'laws.FnExactCupsAndCaps': WHATEVER THE INPUT: true; the input reads as it did. -/
def fnExactCupsAndCapsSpec : ChangeSpec := { name := "fnExactCupsAndCaps", fn := fun _ => fun
  | [d] => { results := [.lit (.bool true)], args := [d] }
  | _ => none }
def fnExactCupsAndCapsRow : OpenClaim := { program := "ytmmiokljmfkoiaa", sum := "fc6617eda23513f68d87c89722bb340fb764d6259052b519e310ce151f69640e", func := "loop.example/g01362/laws.FnExactCupsAndCaps", spec := "fnExactCupsAndCaps", unfollowed := true, recurses := true, plainKeys := false, apart := false }
def FnExactCupsAndCapsSaid : Prop := fnExactCupsAndCapsRow.holds Try.pinned (OpenSpec.ofChange fnExactCupsAndCapsSpec)

/-- ITS FALSE NEIGHBOUR: 'it returns false'. Refute it at one input. -/
def fnExactCupsAndCapsWrong : ChangeSpec := { name := "fnExactCupsAndCaps", fn := fun _ => fun
  | [d] => { results := [.lit (.bool false)], args := [d] }
  | _ => none }
def FnExactCupsAndCapsWrongFalsely : Prop := fnExactCupsAndCapsRow.holds Try.pinned (OpenSpec.ofChange fnExactCupsAndCapsWrong)

/-- 'laws.FnExactAvoidsPattern': WHATEVER THE INPUT: true; the input reads as it did. -/
def fnExactAvoidsPatternSpec : ChangeSpec := { name := "fnExactAvoidsPattern", fn := fun _ => fun
  | [d1, d2, d3, d4] => { results := [.lit (.bool true)], args := [d1, d2, d3, d4] }
  | _ => none }
def fnExactAvoidsPatternRow : OpenClaim := { program := "ytmmiokljmfkoiaa", sum := "fc6617eda23513f68d87c89722bb340fb764d6259052b519e310ce151f69640e", func := "loop.example/g01362/laws.FnExactAvoidsPattern", spec := "fnExactAvoidsPattern", unfollowed := true, recurses := true, plainKeys := false, apart := false }
def FnExactAvoidsPatternSaid : Prop := fnExactAvoidsPatternRow.holds Try.pinned (OpenSpec.ofChange fnExactAvoidsPatternSpec)

/-- ITS FALSE NEIGHBOUR: 'it returns false'. Refute it at one input. -/
def fnExactAvoidsPatternWrong : ChangeSpec := { name := "fnExactAvoidsPattern", fn := fun _ => fun
  | [d1, d2, d3, d4] => { results := [.lit (.bool false)], args := [d1, d2, d3, d4] }
  | _ => none }
def FnExactAvoidsPatternWrongFalsely : Prop := fnExactAvoidsPatternRow.holds Try.pinned (OpenSpec.ofChange fnExactAvoidsPatternWrong)

/-- 'laws.FnExactExtensionList': WHATEVER THE INPUT: true; the input reads as it did. -/
def fnExactExtensionListSpec : ChangeSpec := { name := "fnExactExtensionList", fn := fun _ => fun
  | [d1, d2] => { results := [.lit (.bool true)], args := [d1, d2] }
  | _ => none }
def fnExactExtensionListRow : OpenClaim := { program := "ytmmiokljmfkoiaa", sum := "fc6617eda23513f68d87c89722bb340fb764d6259052b519e310ce151f69640e", func := "loop.example/g01362/laws.FnExactExtensionList", spec := "fnExactExtensionList", unfollowed := true, recurses := true, plainKeys := false, apart := false }
def FnExactExtensionListSaid : Prop := fnExactExtensionListRow.holds Try.pinned (OpenSpec.ofChange fnExactExtensionListSpec)

/-- ITS FALSE NEIGHBOUR: 'it returns false'. Refute it at one input. -/
def fnExactExtensionListWrong : ChangeSpec := { name := "fnExactExtensionList", fn := fun _ => fun
  | [d1, d2] => { results := [.lit (.bool false)], args := [d1, d2] }
  | _ => none }
def FnExactExtensionListWrongFalsely : Prop := fnExactExtensionListRow.holds Try.pinned (OpenSpec.ofChange fnExactExtensionListWrong)

/- THE SECOND FORM. 'bulk': how many values and letters a reading holds, each counted each time it is reached (what is shared counts as often as it is met; a slice's spare places count too). A statement '..UptoSaid' is the law's where the arguments, and the package variables that the reading takes, are together of bulk at most 1048576: NARROWER than '..Said'. Prove '..Said' where nothing that the law and all that it calls make is longer than what came in: it says more and counts as full. Else prove '..UptoSaid'. A law counts once. -/
mutual
def uptoBulk {H : Type} : DataW H → Nat
  | .lit (.string bytes) => bytes.length + 1
  | .lit _ => 1
  | .nil => 1
  | .ptr d => uptoBulk d + 1
  | .slice elems spare => uptoBulkAll elems + uptoBulkAll spare + 1
  | .agg parts => uptoBulkAll parts + 1
  | .iface _ d => uptoBulk d + 1
  | .map entries => uptoBulkEntries entries + 1
  | .held _ => 1
def uptoBulkAll {H : Type} : List (DataW H) → Nat
  | [] => 0
  | d :: r => uptoBulk d + uptoBulkAll r
def uptoBulkEntries {H : Type} : List (Lit × DataW H) → Nat
  | [] => 0
  | x :: r => uptoBulkEntry x + uptoBulkEntries r
def uptoBulkEntry {H : Type} : Lit × DataW H → Nat
  | (.string bytes, d) => bytes.length + uptoBulk d + 1
  | (_, d) => uptoBulk d + 1
 end
def uptoSmall : (H : Type) → List (DataW H) → Bool := fun _ ds => decide (uptoBulkAll ds ≤ 1048576)
def OpenSpec.upto (s : _root_.Go.ChangeSpec) : _root_.Go.OpenSpec := { _root_.Go.OpenSpec.ofChange s with cond := some uptoSmall }

/-- 'laws.FnExactComponentsOf', WHERE WHAT IT READS IS OF BULK AT MOST 1048576: true; the input reads as it did. -/
def fnExactComponentsOfUptoRow : OpenClaim := { program := "ytmmiokljmfkoiaa", sum := "fc6617eda23513f68d87c89722bb340fb764d6259052b519e310ce151f69640e", func := "loop.example/g01362/laws.FnExactComponentsOf", spec := "fnExactComponentsOf", unfollowed := true, recurses := true, plainKeys := false, apart := false, narrowed := true }
def FnExactComponentsOfUptoSaid : Prop := fnExactComponentsOfUptoRow.holds Try.pinned (OpenSpec.upto fnExactComponentsOfSpec)

/-- 'laws.FnExactCupsAndCaps', WHERE WHAT IT READS IS OF BULK AT MOST 1048576: true; the input reads as it did. -/
def fnExactCupsAndCapsUptoRow : OpenClaim := { program := "ytmmiokljmfkoiaa", sum := "fc6617eda23513f68d87c89722bb340fb764d6259052b519e310ce151f69640e", func := "loop.example/g01362/laws.FnExactCupsAndCaps", spec := "fnExactCupsAndCaps", unfollowed := true, recurses := true, plainKeys := false, apart := false, narrowed := true }
def FnExactCupsAndCapsUptoSaid : Prop := fnExactCupsAndCapsUptoRow.holds Try.pinned (OpenSpec.upto fnExactCupsAndCapsSpec)

/-- 'laws.FnExactAvoidsPattern', WHERE WHAT IT READS IS OF BULK AT MOST 1048576: true; the input reads as it did. -/
def fnExactAvoidsPatternUptoRow : OpenClaim := { program := "ytmmiokljmfkoiaa", sum := "fc6617eda23513f68d87c89722bb340fb764d6259052b519e310ce151f69640e", func := "loop.example/g01362/laws.FnExactAvoidsPattern", spec := "fnExactAvoidsPattern", unfollowed := true, recurses := true, plainKeys := false, apart := false, narrowed := true }
def FnExactAvoidsPatternUptoSaid : Prop := fnExactAvoidsPatternUptoRow.holds Try.pinned (OpenSpec.upto fnExactAvoidsPatternSpec)

/-- 'laws.FnExactExtensionList', WHERE WHAT IT READS IS OF BULK AT MOST 1048576: true; the input reads as it did. -/
def fnExactExtensionListUptoRow : OpenClaim := { program := "ytmmiokljmfkoiaa", sum := "fc6617eda23513f68d87c89722bb340fb764d6259052b519e310ce151f69640e", func := "loop.example/g01362/laws.FnExactExtensionList", spec := "fnExactExtensionList", unfollowed := true, recurses := true, plainKeys := false, apart := false, narrowed := true }
def FnExactExtensionListUptoSaid : Prop := fnExactExtensionListUptoRow.holds Try.pinned (OpenSpec.upto fnExactExtensionListSpec)

end Rows
end Go.Proofs.Ytmmiokljmfkoiaa
