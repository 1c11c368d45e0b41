/-
  No cell of these rows narrows 'for every input' (looked for: loops, veiled, ifaces, maps, wideKeys, modest, calm, conditions, laid).
  DERIVED. THE GIVEN ROWS OF THIS SEAT. 6 by the template 'for every input the law returns true; each argument reads behind the call as it read before'; 0 by the template 'total and deterministic' (their statements: YtfoijbdnkkaceaaTotals.lean).
  GIVEN WITH THE SEED: the statements are not yours to turn. If you find one false, say at which input.
  Laid BY PROGRAM, IN A SANDBOX (cutbox-rows.mjs): the forced cells as the released guide's own fill.sh prints them over the translation 83185e6911037f95… (all of the seat's roots in one cut). By AI agents, Wed Nov 11 2026. No macro, syntax, notation, axiom, sorry.
-/
import Derived.Test.YtfoijbdnkkaceaaChecked
import GoSem.Claim
import GoSem.ClaimJoined
import GoSem.ClaimMapViews
import Derived.JoinedTies
import Derived.KernelRfl
namespace Go.Proofs.Ytfoijbdnkkaceaa
/- THE CELL 'sum', in the pinned program and in every row, IS THE sha256 OF THE DUMP (.gsa) THAT YtfoijbdnkkaceaaProg.lean LOADS. Nothing in Lean hashes anything: it is a label: what it is worth is what the hold of that sum in a sandbox is worth. -/
noncomputable def Try.pinned : Pinned := { name := "ytfoijbdnkkaceaa", sum := "83185e6911037f95310bef592f6511d93b7e8358b68cbf2723205037c231a95b", checked := Try.checked }
namespace Rows
def none {H : Type} : Left H := { results := [], args := [] }

/-- 'laws.FnPartColourings': WHATEVER THE INPUT: true; the input reads as it did. -/
def fnPartColouringsSpec : ChangeSpec := { name := "fnPartColourings", fn := fun _ => fun
  | [d] => { results := [.lit (.bool true)], args := [d] }
  | _ => none }
def fnPartColouringsRow : OpenClaim := { program := "ytfoijbdnkkaceaa", sum := "83185e6911037f95310bef592f6511d93b7e8358b68cbf2723205037c231a95b", func := "loop.example/g01362/laws.FnPartColourings", spec := "fnPartColourings", unfollowed := true, recurses := true, plainKeys := false, apart := false }
def FnPartColouringsSaid : Prop := fnPartColouringsRow.holds Try.pinned (OpenSpec.ofChange fnPartColouringsSpec)

/-- ITS FALSE NEIGHBOUR: 'it returns false'. Refute it at one input. -/
def fnPartColouringsWrong : ChangeSpec := { name := "fnPartColourings", fn := fun _ => fun
  | [d] => { results := [.lit (.bool false)], args := [d] }
  | _ => none }
def FnPartColouringsWrongFalsely : Prop := fnPartColouringsRow.holds Try.pinned (OpenSpec.ofChange fnPartColouringsWrong)

/-- 'laws.FnCliques': WHATEVER THE INPUT: true; the input reads as it did. -/
def fnCliquesSpec : ChangeSpec := { name := "fnCliques", fn := fun _ => fun
  | [d] => { results := [.lit (.bool true)], args := [d] }
  | _ => none }
def fnCliquesRow : OpenClaim := { program := "ytfoijbdnkkaceaa", sum := "83185e6911037f95310bef592f6511d93b7e8358b68cbf2723205037c231a95b", func := "loop.example/g01362/laws.FnCliques", spec := "fnCliques", unfollowed := true, recurses := true, plainKeys := false, apart := false }
def FnCliquesSaid : Prop := fnCliquesRow.holds Try.pinned (OpenSpec.ofChange fnCliquesSpec)

/-- ITS FALSE NEIGHBOUR: 'it returns false'. Refute it at one input. -/
def fnCliquesWrong : ChangeSpec := { name := "fnCliques", fn := fun _ => fun
  | [d] => { results := [.lit (.bool false)], args := [d] }
  | _ => none }
def FnCliquesWrongFalsely : Prop := fnCliquesRow.holds Try.pinned (OpenSpec.ofChange fnCliquesWrong)

/-- 'laws.FnTriangles': WHATEVER THE INPUT: true; the input reads as it did. -/
def fnTrianglesSpec : ChangeSpec := { name := "fnTriangles", fn := fun _ => fun
  | [d] => { results := [.lit (.bool true)], args := [d] }
  | _ => none }
def fnTrianglesRow : OpenClaim := { program := "ytfoijbdnkkaceaa", sum := "83185e6911037f95310bef592f6511d93b7e8358b68cbf2723205037c231a95b", func := "loop.example/g01362/laws.FnTriangles", spec := "fnTriangles", unfollowed := true, recurses := true, plainKeys := false, apart := false }
def FnTrianglesSaid : Prop := fnTrianglesRow.holds Try.pinned (OpenSpec.ofChange fnTrianglesSpec)

/-- ITS FALSE NEIGHBOUR: 'it returns false'. Refute it at one input. -/
def fnTrianglesWrong : ChangeSpec := { name := "fnTriangles", fn := fun _ => fun
  | [d] => { results := [.lit (.bool false)], args := [d] }
  | _ => none }
def FnTrianglesWrongFalsely : Prop := fnTrianglesRow.holds Try.pinned (OpenSpec.ofChange fnTrianglesWrong)

/-- 'laws.FnExactAvoidsPattern': WHATEVER THE INPUT: true; the input reads as it did. -/
def fnExactAvoidsPatternSpec : ChangeSpec := { name := "fnExactAvoidsPattern", fn := fun _ => fun
  | [d1, d2, d3, d4] => { results := [.lit (.bool true)], args := [d1, d2, d3, d4] }
  | _ => none }
def fnExactAvoidsPatternRow : OpenClaim := { program := "ytfoijbdnkkaceaa", sum := "83185e6911037f95310bef592f6511d93b7e8358b68cbf2723205037c231a95b", func := "loop.example/g01362/laws.FnExactAvoidsPattern", spec := "fnExactAvoidsPattern", unfollowed := true, recurses := true, plainKeys := false, apart := false }
def FnExactAvoidsPatternSaid : Prop := fnExactAvoidsPatternRow.holds Try.pinned (OpenSpec.ofChange fnExactAvoidsPatternSpec)

/-- ITS FALSE NEIGHBOUR: 'it returns false'. Refute it at one input. -/
def fnExactAvoidsPatternWrong : ChangeSpec := { name := "fnExactAvoidsPattern", fn := fun _ => fun
  | [d1, d2, d3, d4] => { results := [.lit (.bool false)], args := [d1, d2, d3, d4] }
  | _ => none }
def FnExactAvoidsPatternWrongFalsely : Prop := fnExactAvoidsPatternRow.holds Try.pinned (OpenSpec.ofChange fnExactAvoidsPatternWrong)

/-- 'laws.FnExactExtensionList': WHATEVER THE INPUT: true; the input reads as it did. -/
def fnExactExtensionListSpec : ChangeSpec := { name := "fnExactExtensionList", fn := fun _ => fun
  | [d1, d2] => { results := [.lit (.bool true)], args := [d1, d2] }
  | _ => none }
def fnExactExtensionListRow : OpenClaim := { program := "ytfoijbdnkkaceaa", sum := "83185e6911037f95310bef592f6511d93b7e8358b68cbf2723205037c231a95b", func := "loop.example/g01362/laws.FnExactExtensionList", spec := "fnExactExtensionList", unfollowed := true, recurses := true, plainKeys := false, apart := false }
def FnExactExtensionListSaid : Prop := fnExactExtensionListRow.holds Try.pinned (OpenSpec.ofChange fnExactExtensionListSpec)

/-- ITS FALSE NEIGHBOUR: 'it returns false'. Refute it at one input. -/
def fnExactExtensionListWrong : ChangeSpec := { name := "fnExactExtensionList", fn := fun _ => fun
  | [d1, d2] => { results := [.lit (.bool false)], args := [d1, d2] }
  | _ => none }
def FnExactExtensionListWrongFalsely : Prop := fnExactExtensionListRow.holds Try.pinned (OpenSpec.ofChange fnExactExtensionListWrong)

/-- 'laws.FnLesserParts': WHATEVER THE INPUT: true; the input reads as it did. -/
def fnLesserPartsSpec : ChangeSpec := { name := "fnLesserParts", fn := fun _ => fun
  | [d] => { results := [.lit (.bool true)], args := [d] }
  | _ => none }
def fnLesserPartsRow : OpenClaim := { program := "ytfoijbdnkkaceaa", sum := "83185e6911037f95310bef592f6511d93b7e8358b68cbf2723205037c231a95b", func := "loop.example/g01362/laws.FnLesserParts", spec := "fnLesserParts", unfollowed := true, recurses := true, plainKeys := false, apart := false }
def FnLesserPartsSaid : Prop := fnLesserPartsRow.holds Try.pinned (OpenSpec.ofChange fnLesserPartsSpec)

/-- ITS FALSE NEIGHBOUR: 'it returns false'. Refute it at one input. -/
def fnLesserPartsWrong : ChangeSpec := { name := "fnLesserParts", fn := fun _ => fun
  | [d] => { results := [.lit (.bool false)], args := [d] }
  | _ => none }
def FnLesserPartsWrongFalsely : Prop := fnLesserPartsRow.holds Try.pinned (OpenSpec.ofChange fnLesserPartsWrong)

/- THE SECOND FORM. 'bulk': how many values and letters a reading holds, each counted each time it is reached (what is shared counts as often as it is met; a slice's spare places count too). A statement '..UptoSaid' is the law's where the arguments, and the package variables that the reading takes, are together of bulk at most 1048576: NARROWER than '..Said'. Prove '..Said' where nothing that the law and all that it calls make is longer than what came in: it says more and counts as full. Else prove '..UptoSaid'. A law counts once. -/
mutual
def uptoBulk {H : Type} : DataW H → Nat
  | .lit (.string bytes) => bytes.length + 1
  | .lit _ => 1
  | .nil => 1
  | .ptr d => uptoBulk d + 1
  | .slice elems spare => uptoBulkAll elems + uptoBulkAll spare + 1
  | .agg parts => uptoBulkAll parts + 1
  | .iface _ d => uptoBulk d + 1
  | .map entries => uptoBulkEntries entries + 1
  | .held _ => 1
def uptoBulkAll {H : Type} : List (DataW H) → Nat
  | [] => 0
  | d :: r => uptoBulk d + uptoBulkAll r
def uptoBulkEntries {H : Type} : List (Lit × DataW H) → Nat
  | [] => 0
  | x :: r => uptoBulkEntry x + uptoBulkEntries r
def uptoBulkEntry {H : Type} : Lit × DataW H → Nat
  | (.string bytes, d) => bytes.length + uptoBulk d + 1
  | (_, d) => uptoBulk d + 1
 end
def uptoSmall : (H : Type) → List (DataW H) → Bool := fun _ ds => decide (uptoBulkAll ds ≤ 1048576)
def OpenSpec.upto (s : _root_.Go.ChangeSpec) : _root_.Go.OpenSpec := { _root_.Go.OpenSpec.ofChange s with cond := some uptoSmall }

/-- 'laws.FnPartColourings', WHERE WHAT IT READS IS OF BULK AT MOST 1048576: true; the input reads as it did. -/
def fnPartColouringsUptoRow : OpenClaim := { program := "ytfoijbdnkkaceaa", sum := "83185e6911037f95310bef592f6511d93b7e8358b68cbf2723205037c231a95b", func := "loop.example/g01362/laws.FnPartColourings", spec := "fnPartColourings", unfollowed := true, recurses := true, plainKeys := false, apart := false, narrowed := true }
def FnPartColouringsUptoSaid : Prop := fnPartColouringsUptoRow.holds Try.pinned (OpenSpec.upto fnPartColouringsSpec)

/-- 'laws.FnCliques', WHERE WHAT IT READS IS OF BULK AT MOST 1048576: true; the input reads as it did. -/
def fnCliquesUptoRow : OpenClaim := { program := "ytfoijbdnkkaceaa", sum := "83185e6911037f95310bef592f6511d93b7e8358b68cbf2723205037c231a95b", func := "loop.example/g01362/laws.FnCliques", spec := "fnCliques", unfollowed := true, recurses := true, plainKeys := false, apart := false, narrowed := true }
def FnCliquesUptoSaid : Prop := fnCliquesUptoRow.holds Try.pinned (OpenSpec.upto fnCliquesSpec)

/-- 'laws.FnTriangles', WHERE WHAT IT READS IS OF BULK AT MOST 1048576: true; the input reads as it did. -/
def fnTrianglesUptoRow : OpenClaim := { program := "ytfoijbdnkkaceaa", sum := "83185e6911037f95310bef592f6511d93b7e8358b68cbf2723205037c231a95b", func := "loop.example/g01362/laws.FnTriangles", spec := "fnTriangles", unfollowed := true, recurses := true, plainKeys := false, apart := false, narrowed := true }
def FnTrianglesUptoSaid : Prop := fnTrianglesUptoRow.holds Try.pinned (OpenSpec.upto fnTrianglesSpec)

/-- 'laws.FnExactAvoidsPattern', WHERE WHAT IT READS IS OF BULK AT MOST 1048576: true; the input reads as it did. -/
def fnExactAvoidsPatternUptoRow : OpenClaim := { program := "ytfoijbdnkkaceaa", sum := "83185e6911037f95310bef592f6511d93b7e8358b68cbf2723205037c231a95b", func := "loop.example/g01362/laws.FnExactAvoidsPattern", spec := "fnExactAvoidsPattern", unfollowed := true, recurses := true, plainKeys := false, apart := false, narrowed := true }
def FnExactAvoidsPatternUptoSaid : Prop := fnExactAvoidsPatternUptoRow.holds Try.pinned (OpenSpec.upto fnExactAvoidsPatternSpec)

/-- 'laws.FnExactExtensionList', WHERE WHAT IT READS IS OF BULK AT MOST 1048576: true; the input reads as it did. -/
def fnExactExtensionListUptoRow : OpenClaim := { program := "ytfoijbdnkkaceaa", sum := "83185e6911037f95310bef592f6511d93b7e8358b68cbf2723205037c231a95b", func := "loop.example/g01362/laws.FnExactExtensionList", spec := "fnExactExtensionList", unfollowed := true, recurses := true, plainKeys := false, apart := false, narrowed := true }
def FnExactExtensionListUptoSaid : Prop := fnExactExtensionListUptoRow.holds Try.pinned (OpenSpec.upto fnExactExtensionListSpec)

/-- 'laws.FnLesserParts', WHERE WHAT IT READS IS OF BULK AT MOST 1048576: true; the input reads as it did. -/
def fnLesserPartsUptoRow : OpenClaim := { program := "ytfoijbdnkkaceaa", sum := "83185e6911037f95310bef592f6511d93b7e8358b68cbf2723205037c231a95b", func := "loop.example/g01362/laws.FnLesserParts", spec := "fnLesserParts", unfollowed := true, recurses := true, plainKeys := false, apart := false, narrowed := true }
def FnLesserPartsUptoSaid : Prop := fnLesserPartsUptoRow.holds Try.pinned (OpenSpec.upto fnLesserPartsSpec)

end Rows
end Go.Proofs.Ytfoijbdnkkaceaa
