/-
  No cell of these rows narrows 'for every input' (looked for: loops, veiled, ifaces, maps, wideKeys, modest, calm, conditions, laid).
  DERIVED. THE GIVEN ROWS OF THIS SEAT. 12 by the template 'for every input the law returns true; each argument reads behind the call as it read before'; 0 by the template 'total and deterministic' (their statements: YtjkanhdklfgghaaTotals.lean).
  GIVEN WITH THE SEED: the statements are not yours to turn. If you find one false, say at which input.
  Laid BY PROGRAM, IN A SANDBOX (cutbox-rows.mjs): the forced cells as the released guide's own fill.sh prints them over the translation 31384e6254b965c3… (all of the seat's roots in one cut). By AI agents, Wed Nov 11 2026. No macro, syntax, notation, axiom, sorry.
-/
import Derived.Test.YtjkanhdklfgghaaChecked
import GoSem.Claim
import GoSem.ClaimJoined
import GoSem.ClaimMapViews
import Derived.JoinedTies
import Derived.KernelRfl
namespace Go.Proofs.Ytjkanhdklfgghaa
/- THE CELL 'sum', in the pinned program and in every row, IS THE sha256 OF THE DUMP (.gsa) THAT YtjkanhdklfgghaaProg.lean LOADS. Nothing in Lean hashes anything: it is a label: what it is worth is what the hold of that sum in a sandbox is worth. -/
noncomputable def Try.pinned : Pinned := { name := "ytjkanhdklfgghaa", sum := "31384e6254b965c3a39355d4be5bab831fadbdee7a76af5b466b923bdae1f21e", checked := Try.checked }
namespace Rows
def none {H : Type} : Left H := { results := [], args := [] }

/-- 'laws.FnExactNewDesk': WHATEVER THE INPUT: true; the input reads as it did. -/
def fnExactNewDeskSpec : ChangeSpec := { name := "fnExactNewDesk", fn := fun _ => fun
  | [] => { results := [.lit (.bool true)], args := [] }
  | _ => none }
def fnExactNewDeskRow : OpenClaim := { program := "ytjkanhdklfgghaa", sum := "31384e6254b965c3a39355d4be5bab831fadbdee7a76af5b466b923bdae1f21e", func := "loop.example/g01362/laws.FnExactNewDesk", spec := "fnExactNewDesk", unfollowed := true, recurses := true, apart := false }
def FnExactNewDeskSaid : Prop := fnExactNewDeskRow.holds Try.pinned (OpenSpec.ofChange fnExactNewDeskSpec)

/-- ITS FALSE NEIGHBOUR: 'it returns false'. Refute it at one input. -/
def fnExactNewDeskWrong : ChangeSpec := { name := "fnExactNewDesk", fn := fun _ => fun
  | [] => { results := [.lit (.bool false)], args := [] }
  | _ => none }
def FnExactNewDeskWrongFalsely : Prop := fnExactNewDeskRow.holds Try.pinned (OpenSpec.ofChange fnExactNewDeskWrong)

/-- 'laws.FnExactCupsAndCaps': WHATEVER THE INPUT: true; the input reads as it did. -/
def fnExactCupsAndCapsSpec : ChangeSpec := { name := "fnExactCupsAndCaps", fn := fun _ => fun
  | [d] => { results := [.lit (.bool true)], args := [d] }
  | _ => none }
def fnExactCupsAndCapsRow : OpenClaim := { program := "ytjkanhdklfgghaa", sum := "31384e6254b965c3a39355d4be5bab831fadbdee7a76af5b466b923bdae1f21e", func := "loop.example/g01362/laws.FnExactCupsAndCaps", spec := "fnExactCupsAndCaps", unfollowed := true, recurses := true, apart := false }
def FnExactCupsAndCapsSaid : Prop := fnExactCupsAndCapsRow.holds Try.pinned (OpenSpec.ofChange fnExactCupsAndCapsSpec)

/-- ITS FALSE NEIGHBOUR: 'it returns false'. Refute it at one input. -/
def fnExactCupsAndCapsWrong : ChangeSpec := { name := "fnExactCupsAndCaps", fn := fun _ => fun
  | [d] => { results := [.lit (.bool false)], args := [d] }
  | _ => none }
def FnExactCupsAndCapsWrongFalsely : Prop := fnExactCupsAndCapsRow.holds Try.pinned (OpenSpec.ofChange fnExactCupsAndCapsWrong)

/-- 'laws.FnExactIsLesserColoured': WHATEVER THE INPUT: true; the input reads as it did. -/
def fnExactIsLesserColouredSpec : ChangeSpec := { name := "fnExactIsLesserColoured", fn := fun _ => fun
  | [d1, d2] => { results := [.lit (.bool true)], args := [d1, d2] }
  | _ => none }
def fnExactIsLesserColouredRow : OpenClaim := { program := "ytjkanhdklfgghaa", sum := "31384e6254b965c3a39355d4be5bab831fadbdee7a76af5b466b923bdae1f21e", func := "loop.example/g01362/laws.FnExactIsLesserColoured", spec := "fnExactIsLesserColoured", unfollowed := true, recurses := true, apart := false }
def FnExactIsLesserColouredSaid : Prop := fnExactIsLesserColouredRow.holds Try.pinned (OpenSpec.ofChange fnExactIsLesserColouredSpec)

/-- ITS FALSE NEIGHBOUR: 'it returns false'. Refute it at one input. -/
def fnExactIsLesserColouredWrong : ChangeSpec := { name := "fnExactIsLesserColoured", fn := fun _ => fun
  | [d1, d2] => { results := [.lit (.bool false)], args := [d1, d2] }
  | _ => none }
def FnExactIsLesserColouredWrongFalsely : Prop := fnExactIsLesserColouredRow.holds Try.pinned (OpenSpec.ofChange fnExactIsLesserColouredWrong)

/-- 'laws.FnExactUpLengths': WHATEVER THE INPUT: true; the input reads as it did. -/
def fnExactUpLengthsSpec : ChangeSpec := { name := "fnExactUpLengths", fn := fun _ => fun
  | [d1, d2] => { results := [.lit (.bool true)], args := [d1, d2] }
  | _ => none }
def fnExactUpLengthsRow : OpenClaim := { program := "ytjkanhdklfgghaa", sum := "31384e6254b965c3a39355d4be5bab831fadbdee7a76af5b466b923bdae1f21e", func := "loop.example/g01362/laws.FnExactUpLengths", spec := "fnExactUpLengths", unfollowed := true, recurses := true, apart := false }
def FnExactUpLengthsSaid : Prop := fnExactUpLengthsRow.holds Try.pinned (OpenSpec.ofChange fnExactUpLengthsSpec)

/-- ITS FALSE NEIGHBOUR: 'it returns false'. Refute it at one input. -/
def fnExactUpLengthsWrong : ChangeSpec := { name := "fnExactUpLengths", fn := fun _ => fun
  | [d1, d2] => { results := [.lit (.bool false)], args := [d1, d2] }
  | _ => none }
def FnExactUpLengthsWrongFalsely : Prop := fnExactUpLengthsRow.holds Try.pinned (OpenSpec.ofChange fnExactUpLengthsWrong)

/-- 'laws.FnExactOrderOf': WHATEVER THE INPUT: true; the input reads as it did. -/
def fnExactOrderOfSpec : ChangeSpec := { name := "fnExactOrderOf", fn := fun _ => fun
  | [d] => { results := [.lit (.bool true)], args := [d] }
  | _ => none }
def fnExactOrderOfRow : OpenClaim := { program := "ytjkanhdklfgghaa", sum := "31384e6254b965c3a39355d4be5bab831fadbdee7a76af5b466b923bdae1f21e", func := "loop.example/g01362/laws.FnExactOrderOf", spec := "fnExactOrderOf", unfollowed := true, recurses := true, apart := false }
def FnExactOrderOfSaid : Prop := fnExactOrderOfRow.holds Try.pinned (OpenSpec.ofChange fnExactOrderOfSpec)

/-- ITS FALSE NEIGHBOUR: 'it returns false'. Refute it at one input. -/
def fnExactOrderOfWrong : ChangeSpec := { name := "fnExactOrderOf", fn := fun _ => fun
  | [d] => { results := [.lit (.bool false)], args := [d] }
  | _ => none }
def FnExactOrderOfWrongFalsely : Prop := fnExactOrderOfRow.holds Try.pinned (OpenSpec.ofChange fnExactOrderOfWrong)

/-- 'laws.FnExactLongestUp': WHATEVER THE INPUT: true; the input reads as it did. -/
def fnExactLongestUpSpec : ChangeSpec := { name := "fnExactLongestUp", fn := fun _ => fun
  | [d1, d2] => { results := [.lit (.bool true)], args := [d1, d2] }
  | _ => none }
def fnExactLongestUpRow : OpenClaim := { program := "ytjkanhdklfgghaa", sum := "31384e6254b965c3a39355d4be5bab831fadbdee7a76af5b466b923bdae1f21e", func := "loop.example/g01362/laws.FnExactLongestUp", spec := "fnExactLongestUp", unfollowed := true, recurses := true, apart := false }
def FnExactLongestUpSaid : Prop := fnExactLongestUpRow.holds Try.pinned (OpenSpec.ofChange fnExactLongestUpSpec)

/-- ITS FALSE NEIGHBOUR: 'it returns false'. Refute it at one input. -/
def fnExactLongestUpWrong : ChangeSpec := { name := "fnExactLongestUp", fn := fun _ => fun
  | [d1, d2] => { results := [.lit (.bool false)], args := [d1, d2] }
  | _ => none }
def FnExactLongestUpWrongFalsely : Prop := fnExactLongestUpRow.holds Try.pinned (OpenSpec.ofChange fnExactLongestUpWrong)

/-- 'laws.FnExactLesserPart': WHATEVER THE INPUT: true; the input reads as it did. -/
def fnExactLesserPartSpec : ChangeSpec := { name := "fnExactLesserPart", fn := fun _ => fun
  | [d] => { results := [.lit (.bool true)], args := [d] }
  | _ => none }
def fnExactLesserPartRow : OpenClaim := { program := "ytjkanhdklfgghaa", sum := "31384e6254b965c3a39355d4be5bab831fadbdee7a76af5b466b923bdae1f21e", func := "loop.example/g01362/laws.FnExactLesserPart", spec := "fnExactLesserPart", unfollowed := true, recurses := true, apart := false }
def FnExactLesserPartSaid : Prop := fnExactLesserPartRow.holds Try.pinned (OpenSpec.ofChange fnExactLesserPartSpec)

/-- ITS FALSE NEIGHBOUR: 'it returns false'. Refute it at one input. -/
def fnExactLesserPartWrong : ChangeSpec := { name := "fnExactLesserPart", fn := fun _ => fun
  | [d] => { results := [.lit (.bool false)], args := [d] }
  | _ => none }
def FnExactLesserPartWrongFalsely : Prop := fnExactLesserPartRow.holds Try.pinned (OpenSpec.ofChange fnExactLesserPartWrong)

/-- 'laws.FnExactLeadsTo': WHATEVER THE INPUT: true; the input reads as it did. -/
def fnExactLeadsToSpec : ChangeSpec := { name := "fnExactLeadsTo", fn := fun _ => fun
  | [d1, d2, d3] => { results := [.lit (.bool true)], args := [d1, d2, d3] }
  | _ => none }
def fnExactLeadsToRow : OpenClaim := { program := "ytjkanhdklfgghaa", sum := "31384e6254b965c3a39355d4be5bab831fadbdee7a76af5b466b923bdae1f21e", func := "loop.example/g01362/laws.FnExactLeadsTo", spec := "fnExactLeadsTo", unfollowed := true, recurses := true, apart := false }
def FnExactLeadsToSaid : Prop := fnExactLeadsToRow.holds Try.pinned (OpenSpec.ofChange fnExactLeadsToSpec)

/-- ITS FALSE NEIGHBOUR: 'it returns false'. Refute it at one input. -/
def fnExactLeadsToWrong : ChangeSpec := { name := "fnExactLeadsTo", fn := fun _ => fun
  | [d1, d2, d3] => { results := [.lit (.bool false)], args := [d1, d2, d3] }
  | _ => none }
def FnExactLeadsToWrongFalsely : Prop := fnExactLeadsToRow.holds Try.pinned (OpenSpec.ofChange fnExactLeadsToWrong)

/-- 'laws.FnExactExchangeColours': WHATEVER THE INPUT: true; the input reads as it did. -/
def fnExactExchangeColoursSpec : ChangeSpec := { name := "fnExactExchangeColours", fn := fun _ => fun
  | [d1, d2] => { results := [.lit (.bool true)], args := [d1, d2] }
  | _ => none }
def fnExactExchangeColoursRow : OpenClaim := { program := "ytjkanhdklfgghaa", sum := "31384e6254b965c3a39355d4be5bab831fadbdee7a76af5b466b923bdae1f21e", func := "loop.example/g01362/laws.FnExactExchangeColours", spec := "fnExactExchangeColours", unfollowed := true, recurses := true, apart := false }
def FnExactExchangeColoursSaid : Prop := fnExactExchangeColoursRow.holds Try.pinned (OpenSpec.ofChange fnExactExchangeColoursSpec)

/-- ITS FALSE NEIGHBOUR: 'it returns false'. Refute it at one input. -/
def fnExactExchangeColoursWrong : ChangeSpec := { name := "fnExactExchangeColours", fn := fun _ => fun
  | [d1, d2] => { results := [.lit (.bool false)], args := [d1, d2] }
  | _ => none }
def FnExactExchangeColoursWrongFalsely : Prop := fnExactExchangeColoursRow.holds Try.pinned (OpenSpec.ofChange fnExactExchangeColoursWrong)

/-- 'laws.FnExactRenumberPoints': WHATEVER THE INPUT: true; the input reads as it did. -/
def fnExactRenumberPointsSpec : ChangeSpec := { name := "fnExactRenumberPoints", fn := fun _ => fun
  | [d1, d2] => { results := [.lit (.bool true)], args := [d1, d2] }
  | _ => none }
def fnExactRenumberPointsRow : OpenClaim := { program := "ytjkanhdklfgghaa", sum := "31384e6254b965c3a39355d4be5bab831fadbdee7a76af5b466b923bdae1f21e", func := "loop.example/g01362/laws.FnExactRenumberPoints", spec := "fnExactRenumberPoints", unfollowed := true, recurses := true, apart := false }
def FnExactRenumberPointsSaid : Prop := fnExactRenumberPointsRow.holds Try.pinned (OpenSpec.ofChange fnExactRenumberPointsSpec)

/-- ITS FALSE NEIGHBOUR: 'it returns false'. Refute it at one input. -/
def fnExactRenumberPointsWrong : ChangeSpec := { name := "fnExactRenumberPoints", fn := fun _ => fun
  | [d1, d2] => { results := [.lit (.bool false)], args := [d1, d2] }
  | _ => none }
def FnExactRenumberPointsWrongFalsely : Prop := fnExactRenumberPointsRow.holds Try.pinned (OpenSpec.ofChange fnExactRenumberPointsWrong)

/-- 'laws.FnExactConnectedColours': WHATEVER THE INPUT: true; the input reads as it did. -/
def fnExactConnectedColoursSpec : ChangeSpec := { name := "fnExactConnectedColours", fn := fun _ => fun
  | [d] => { results := [.lit (.bool true)], args := [d] }
  | _ => none }
def fnExactConnectedColoursRow : OpenClaim := { program := "ytjkanhdklfgghaa", sum := "31384e6254b965c3a39355d4be5bab831fadbdee7a76af5b466b923bdae1f21e", func := "loop.example/g01362/laws.FnExactConnectedColours", spec := "fnExactConnectedColours", unfollowed := true, recurses := true, apart := false }
def FnExactConnectedColoursSaid : Prop := fnExactConnectedColoursRow.holds Try.pinned (OpenSpec.ofChange fnExactConnectedColoursSpec)

/-- ITS FALSE NEIGHBOUR: 'it returns false'. Refute it at one input. -/
def fnExactConnectedColoursWrong : ChangeSpec := { name := "fnExactConnectedColours", fn := fun _ => fun
  | [d] => { results := [.lit (.bool false)], args := [d] }
  | _ => none }
def FnExactConnectedColoursWrongFalsely : Prop := fnExactConnectedColoursRow.holds Try.pinned (OpenSpec.ofChange fnExactConnectedColoursWrong)

/-- 'laws.FnExactSidesOf': WHATEVER THE INPUT: true; the input reads as it did. -/
def fnExactSidesOfSpec : ChangeSpec := { name := "fnExactSidesOf", fn := fun _ => fun
  | [d1, d2] => { results := [.lit (.bool true)], args := [d1, d2] }
  | _ => none }
def fnExactSidesOfRow : OpenClaim := { program := "ytjkanhdklfgghaa", sum := "31384e6254b965c3a39355d4be5bab831fadbdee7a76af5b466b923bdae1f21e", func := "loop.example/g01362/laws.FnExactSidesOf", spec := "fnExactSidesOf", unfollowed := true, recurses := true, apart := false }
def FnExactSidesOfSaid : Prop := fnExactSidesOfRow.holds Try.pinned (OpenSpec.ofChange fnExactSidesOfSpec)

/-- ITS FALSE NEIGHBOUR: 'it returns false'. Refute it at one input. -/
def fnExactSidesOfWrong : ChangeSpec := { name := "fnExactSidesOf", fn := fun _ => fun
  | [d1, d2] => { results := [.lit (.bool false)], args := [d1, d2] }
  | _ => none }
def FnExactSidesOfWrongFalsely : Prop := fnExactSidesOfRow.holds Try.pinned (OpenSpec.ofChange fnExactSidesOfWrong)

/- THE SECOND FORM. 'bulk': how many values and letters a reading holds, each counted each time it is reached (what is shared counts as often as it is met; a slice's spare places count too). A statement '..UptoSaid' is the law's where the arguments, and the package variables that the reading takes, are together of bulk at most 1048576: NARROWER than '..Said'. Prove '..Said' where nothing that the law and all that it calls make is longer than what came in: it says more and counts as full. Else prove '..UptoSaid'. A law counts once. -/
mutual
def uptoBulk {H : Type} : DataW H → Nat
  | .lit (.string bytes) => bytes.length + 1
  | .lit _ => 1
  | .nil => 1
  | .ptr d => uptoBulk d + 1
  | .slice elems spare => uptoBulkAll elems + uptoBulkAll spare + 1
  | .agg parts => uptoBulkAll parts + 1
  | .iface _ d => uptoBulk d + 1
  | .map entries => uptoBulkEntries entries + 1
  | .held _ => 1
def uptoBulkAll {H : Type} : List (DataW H) → Nat
  | [] => 0
  | d :: r => uptoBulk d + uptoBulkAll r
def uptoBulkEntries {H : Type} : List (Lit × DataW H) → Nat
  | [] => 0
  | x :: r => uptoBulkEntry x + uptoBulkEntries r
def uptoBulkEntry {H : Type} : Lit × DataW H → Nat
  | (.string bytes, d) => bytes.length + uptoBulk d + 1
  | (_, d) => uptoBulk d + 1
 end
def uptoSmall : (H : Type) → List (DataW H) → Bool := fun _ ds => decide (uptoBulkAll ds ≤ 1048576)
def OpenSpec.upto (s : _root_.Go.ChangeSpec) : _root_.Go.OpenSpec := { _root_.Go.OpenSpec.ofChange s with cond := some uptoSmall }

/-- 'laws.FnExactNewDesk', WHERE WHAT IT READS IS OF BULK AT MOST 1048576: true; the input reads as it did. -/
def fnExactNewDeskUptoRow : OpenClaim := { program := "ytjkanhdklfgghaa", sum := "31384e6254b965c3a39355d4be5bab831fadbdee7a76af5b466b923bdae1f21e", func := "loop.example/g01362/laws.FnExactNewDesk", spec := "fnExactNewDesk", unfollowed := true, recurses := true, apart := false, narrowed := true }
def FnExactNewDeskUptoSaid : Prop := fnExactNewDeskUptoRow.holds Try.pinned (OpenSpec.upto fnExactNewDeskSpec)

/-- 'laws.FnExactCupsAndCaps', WHERE WHAT IT READS IS OF BULK AT MOST 1048576: true; the input reads as it did. -/
def fnExactCupsAndCapsUptoRow : OpenClaim := { program := "ytjkanhdklfgghaa", sum := "31384e6254b965c3a39355d4be5bab831fadbdee7a76af5b466b923bdae1f21e", func := "loop.example/g01362/laws.FnExactCupsAndCaps", spec := "fnExactCupsAndCaps", unfollowed := true, recurses := true, apart := false, narrowed := true }
def FnExactCupsAndCapsUptoSaid : Prop := fnExactCupsAndCapsUptoRow.holds Try.pinned (OpenSpec.upto fnExactCupsAndCapsSpec)

/-- 'laws.FnExactIsLesserColoured', WHERE WHAT IT READS IS OF BULK AT MOST 1048576: true; the input reads as it did. -/
def fnExactIsLesserColouredUptoRow : OpenClaim := { program := "ytjkanhdklfgghaa", sum := "31384e6254b965c3a39355d4be5bab831fadbdee7a76af5b466b923bdae1f21e", func := "loop.example/g01362/laws.FnExactIsLesserColoured", spec := "fnExactIsLesserColoured", unfollowed := true, recurses := true, apart := false, narrowed := true }
def FnExactIsLesserColouredUptoSaid : Prop := fnExactIsLesserColouredUptoRow.holds Try.pinned (OpenSpec.upto fnExactIsLesserColouredSpec)

/-- 'laws.FnExactUpLengths', WHERE WHAT IT READS IS OF BULK AT MOST 1048576: true; the input reads as it did. -/
def fnExactUpLengthsUptoRow : OpenClaim := { program := "ytjkanhdklfgghaa", sum := "31384e6254b965c3a39355d4be5bab831fadbdee7a76af5b466b923bdae1f21e", func := "loop.example/g01362/laws.FnExactUpLengths", spec := "fnExactUpLengths", unfollowed := true, recurses := true, apart := false, narrowed := true }
def FnExactUpLengthsUptoSaid : Prop := fnExactUpLengthsUptoRow.holds Try.pinned (OpenSpec.upto fnExactUpLengthsSpec)

/-- 'laws.FnExactOrderOf', WHERE WHAT IT READS IS OF BULK AT MOST 1048576: true; the input reads as it did. -/
def fnExactOrderOfUptoRow : OpenClaim := { program := "ytjkanhdklfgghaa", sum := "31384e6254b965c3a39355d4be5bab831fadbdee7a76af5b466b923bdae1f21e", func := "loop.example/g01362/laws.FnExactOrderOf", spec := "fnExactOrderOf", unfollowed := true, recurses := true, apart := false, narrowed := true }
def FnExactOrderOfUptoSaid : Prop := fnExactOrderOfUptoRow.holds Try.pinned (OpenSpec.upto fnExactOrderOfSpec)

/-- 'laws.FnExactLongestUp', WHERE WHAT IT READS IS OF BULK AT MOST 1048576: true; the input reads as it did. -/
def fnExactLongestUpUptoRow : OpenClaim := { program := "ytjkanhdklfgghaa", sum := "31384e6254b965c3a39355d4be5bab831fadbdee7a76af5b466b923bdae1f21e", func := "loop.example/g01362/laws.FnExactLongestUp", spec := "fnExactLongestUp", unfollowed := true, recurses := true, apart := false, narrowed := true }
def FnExactLongestUpUptoSaid : Prop := fnExactLongestUpUptoRow.holds Try.pinned (OpenSpec.upto fnExactLongestUpSpec)

/-- 'laws.FnExactLesserPart', WHERE WHAT IT READS IS OF BULK AT MOST 1048576: true; the input reads as it did. -/
def fnExactLesserPartUptoRow : OpenClaim := { program := "ytjkanhdklfgghaa", sum := "31384e6254b965c3a39355d4be5bab831fadbdee7a76af5b466b923bdae1f21e", func := "loop.example/g01362/laws.FnExactLesserPart", spec := "fnExactLesserPart", unfollowed := true, recurses := true, apart := false, narrowed := true }
def FnExactLesserPartUptoSaid : Prop := fnExactLesserPartUptoRow.holds Try.pinned (OpenSpec.upto fnExactLesserPartSpec)

/-- 'laws.FnExactLeadsTo', WHERE WHAT IT READS IS OF BULK AT MOST 1048576: true; the input reads as it did. -/
def fnExactLeadsToUptoRow : OpenClaim := { program := "ytjkanhdklfgghaa", sum := "31384e6254b965c3a39355d4be5bab831fadbdee7a76af5b466b923bdae1f21e", func := "loop.example/g01362/laws.FnExactLeadsTo", spec := "fnExactLeadsTo", unfollowed := true, recurses := true, apart := false, narrowed := true }
def FnExactLeadsToUptoSaid : Prop := fnExactLeadsToUptoRow.holds Try.pinned (OpenSpec.upto fnExactLeadsToSpec)

/-- 'laws.FnExactExchangeColours', WHERE WHAT IT READS IS OF BULK AT MOST 1048576: true; the input reads as it did. -/
def fnExactExchangeColoursUptoRow : OpenClaim := { program := "ytjkanhdklfgghaa", sum := "31384e6254b965c3a39355d4be5bab831fadbdee7a76af5b466b923bdae1f21e", func := "loop.example/g01362/laws.FnExactExchangeColours", spec := "fnExactExchangeColours", unfollowed := true, recurses := true, apart := false, narrowed := true }
def FnExactExchangeColoursUptoSaid : Prop := fnExactExchangeColoursUptoRow.holds Try.pinned (OpenSpec.upto fnExactExchangeColoursSpec)

/-- 'laws.FnExactRenumberPoints', WHERE WHAT IT READS IS OF BULK AT MOST 1048576: true; the input reads as it did. -/
def fnExactRenumberPointsUptoRow : OpenClaim := { program := "ytjkanhdklfgghaa", sum := "31384e6254b965c3a39355d4be5bab831fadbdee7a76af5b466b923bdae1f21e", func := "loop.example/g01362/laws.FnExactRenumberPoints", spec := "fnExactRenumberPoints", unfollowed := true, recurses := true, apart := false, narrowed := true }
def FnExactRenumberPointsUptoSaid : Prop := fnExactRenumberPointsUptoRow.holds Try.pinned (OpenSpec.upto fnExactRenumberPointsSpec)

/-- 'laws.FnExactConnectedColours', WHERE WHAT IT READS IS OF BULK AT MOST 1048576: true; the input reads as it did. -/
def fnExactConnectedColoursUptoRow : OpenClaim := { program := "ytjkanhdklfgghaa", sum := "31384e6254b965c3a39355d4be5bab831fadbdee7a76af5b466b923bdae1f21e", func := "loop.example/g01362/laws.FnExactConnectedColours", spec := "fnExactConnectedColours", unfollowed := true, recurses := true, apart := false, narrowed := true }
def FnExactConnectedColoursUptoSaid : Prop := fnExactConnectedColoursUptoRow.holds Try.pinned (OpenSpec.upto fnExactConnectedColoursSpec)

/-- 'laws.FnExactSidesOf', WHERE WHAT IT READS IS OF BULK AT MOST 1048576: true; the input reads as it did. -/
def fnExactSidesOfUptoRow : OpenClaim := { program := "ytjkanhdklfgghaa", sum := "31384e6254b965c3a39355d4be5bab831fadbdee7a76af5b466b923bdae1f21e", func := "loop.example/g01362/laws.FnExactSidesOf", spec := "fnExactSidesOf", unfollowed := true, recurses := true, apart := false, narrowed := true }
def FnExactSidesOfUptoSaid : Prop := fnExactSidesOfUptoRow.holds Try.pinned (OpenSpec.upto fnExactSidesOfSpec)

end Rows
end Go.Proofs.Ytjkanhdklfgghaa
