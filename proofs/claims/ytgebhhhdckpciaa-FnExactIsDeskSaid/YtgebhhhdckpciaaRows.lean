/-
  No cell of these rows narrows 'for every input' (looked for: loops, veiled, ifaces, maps, wideKeys, modest, calm, conditions, laid).
  DERIVED. THE GIVEN ROWS OF THIS SEAT. 5 by the template 'for every input the law returns true; each argument reads behind the call as it read before'; 0 by the template 'total and deterministic' (their statements: YtgebhhhdckpciaaTotals.lean).
  GIVEN WITH THE SEED: the statements are not yours to turn. If you find one false, say at which input.
  Laid BY PROGRAM, IN A SANDBOX (cutbox-rows.mjs): the forced cells as the released guide's own fill.sh prints them over the translation 29b05c2693b28c7c… (all of the seat's roots in one cut). By AI agents, Wed Nov 11 2026. No macro, syntax, notation, axiom, sorry.
-/
import Derived.Test.YtgebhhhdckpciaaChecked
import GoSem.Claim
import GoSem.ClaimJoined
import GoSem.ClaimMapViews
import Derived.JoinedTies
import Derived.KernelRfl
namespace Go.Proofs.Ytgebhhhdckpciaa
/- THE CELL 'sum', in the pinned program and in every row, IS THE sha256 OF THE DUMP (.gsa) THAT YtgebhhhdckpciaaProg.lean LOADS. Nothing in Lean hashes anything: it is a label: what it is worth is what the hold of that sum in a sandbox is worth. -/
noncomputable def Try.pinned : Pinned := { name := "ytgebhhhdckpciaa", sum := "29b05c2693b28c7c2043ec77c053924ef5b217c4eb2de9785eedbb8d45aa4bb5", checked := Try.checked }
namespace Rows
def none {H : Type} : Left H := { results := [], args := [] }

/-- 'laws.FnExactErdosNumber': WHATEVER THE INPUT: true; the input reads as it did. -/
def fnExactErdosNumberSpec : ChangeSpec := { name := "fnExactErdosNumber", fn := fun _ => fun
  | [d1, d2] => { results := [.lit (.bool true)], args := [d1, d2] }
  | _ => none }
def fnExactErdosNumberRow : OpenClaim := { program := "ytgebhhhdckpciaa", sum := "29b05c2693b28c7c2043ec77c053924ef5b217c4eb2de9785eedbb8d45aa4bb5", func := "loop.example/g01362/laws.FnExactErdosNumber", spec := "fnExactErdosNumber", apart := false }
def FnExactErdosNumberSaid : Prop := fnExactErdosNumberRow.holds Try.pinned (OpenSpec.ofChange fnExactErdosNumberSpec)

/-- ITS FALSE NEIGHBOUR: 'it returns false'. Refute it at one input. -/
def fnExactErdosNumberWrong : ChangeSpec := { name := "fnExactErdosNumber", fn := fun _ => fun
  | [d1, d2] => { results := [.lit (.bool false)], args := [d1, d2] }
  | _ => none }
def FnExactErdosNumberWrongFalsely : Prop := fnExactErdosNumberRow.holds Try.pinned (OpenSpec.ofChange fnExactErdosNumberWrong)

/-- 'laws.FnExactCupNumber': WHATEVER THE INPUT: true; the input reads as it did. -/
def fnExactCupNumberSpec : ChangeSpec := { name := "fnExactCupNumber", fn := fun _ => fun
  | [d1, d2] => { results := [.lit (.bool true)], args := [d1, d2] }
  | _ => none }
def fnExactCupNumberRow : OpenClaim := { program := "ytgebhhhdckpciaa", sum := "29b05c2693b28c7c2043ec77c053924ef5b217c4eb2de9785eedbb8d45aa4bb5", func := "loop.example/g01362/laws.FnExactCupNumber", spec := "fnExactCupNumber", apart := false }
def FnExactCupNumberSaid : Prop := fnExactCupNumberRow.holds Try.pinned (OpenSpec.ofChange fnExactCupNumberSpec)

/-- ITS FALSE NEIGHBOUR: 'it returns false'. Refute it at one input. -/
def fnExactCupNumberWrong : ChangeSpec := { name := "fnExactCupNumber", fn := fun _ => fun
  | [d1, d2] => { results := [.lit (.bool false)], args := [d1, d2] }
  | _ => none }
def FnExactCupNumberWrongFalsely : Prop := fnExactCupNumberRow.holds Try.pinned (OpenSpec.ofChange fnExactCupNumberWrong)

/-- 'laws.FnExactIsDesk': WHATEVER THE INPUT: true; the input reads as it did. -/
def fnExactIsDeskSpec : ChangeSpec := { name := "fnExactIsDesk", fn := fun _ => fun
  | [d] => { results := [.lit (.bool true)], args := [d] }
  | _ => none }
def fnExactIsDeskRow : OpenClaim := { program := "ytgebhhhdckpciaa", sum := "29b05c2693b28c7c2043ec77c053924ef5b217c4eb2de9785eedbb8d45aa4bb5", func := "loop.example/g01362/laws.FnExactIsDesk", spec := "fnExactIsDesk", apart := false }
def FnExactIsDeskSaid : Prop := fnExactIsDeskRow.holds Try.pinned (OpenSpec.ofChange fnExactIsDeskSpec)

/-- ITS FALSE NEIGHBOUR: 'it returns false'. Refute it at one input. -/
def fnExactIsDeskWrong : ChangeSpec := { name := "fnExactIsDesk", fn := fun _ => fun
  | [d] => { results := [.lit (.bool false)], args := [d] }
  | _ => none }
def FnExactIsDeskWrongFalsely : Prop := fnExactIsDeskRow.holds Try.pinned (OpenSpec.ofChange fnExactIsDeskWrong)

/-- 'laws.FnExactSequenceColouring': WHATEVER THE INPUT: true; the input reads as it did. -/
def fnExactSequenceColouringSpec : ChangeSpec := { name := "fnExactSequenceColouring", fn := fun _ => fun
  | [d] => { results := [.lit (.bool true)], args := [d] }
  | _ => none }
def fnExactSequenceColouringRow : OpenClaim := { program := "ytgebhhhdckpciaa", sum := "29b05c2693b28c7c2043ec77c053924ef5b217c4eb2de9785eedbb8d45aa4bb5", func := "loop.example/g01362/laws.FnExactSequenceColouring", spec := "fnExactSequenceColouring", unfollowed := true, recurses := true, apart := false }
def FnExactSequenceColouringSaid : Prop := fnExactSequenceColouringRow.holds Try.pinned (OpenSpec.ofChange fnExactSequenceColouringSpec)

/-- ITS FALSE NEIGHBOUR: 'it returns false'. Refute it at one input. -/
def fnExactSequenceColouringWrong : ChangeSpec := { name := "fnExactSequenceColouring", fn := fun _ => fun
  | [d] => { results := [.lit (.bool false)], args := [d] }
  | _ => none }
def FnExactSequenceColouringWrongFalsely : Prop := fnExactSequenceColouringRow.holds Try.pinned (OpenSpec.ofChange fnExactSequenceColouringWrong)

/-- 'laws.FnExactIsClosedColour': WHATEVER THE INPUT: true; the input reads as it did. -/
def fnExactIsClosedColourSpec : ChangeSpec := { name := "fnExactIsClosedColour", fn := fun _ => fun
  | [d1, d2] => { results := [.lit (.bool true)], args := [d1, d2] }
  | _ => none }
def fnExactIsClosedColourRow : OpenClaim := { program := "ytgebhhhdckpciaa", sum := "29b05c2693b28c7c2043ec77c053924ef5b217c4eb2de9785eedbb8d45aa4bb5", func := "loop.example/g01362/laws.FnExactIsClosedColour", spec := "fnExactIsClosedColour", unfollowed := true, recurses := true, apart := false }
def FnExactIsClosedColourSaid : Prop := fnExactIsClosedColourRow.holds Try.pinned (OpenSpec.ofChange fnExactIsClosedColourSpec)

/-- ITS FALSE NEIGHBOUR: 'it returns false'. Refute it at one input. -/
def fnExactIsClosedColourWrong : ChangeSpec := { name := "fnExactIsClosedColour", fn := fun _ => fun
  | [d1, d2] => { results := [.lit (.bool false)], args := [d1, d2] }
  | _ => none }
def FnExactIsClosedColourWrongFalsely : Prop := fnExactIsClosedColourRow.holds Try.pinned (OpenSpec.ofChange fnExactIsClosedColourWrong)

/- THE SECOND FORM. 'bulk': how many values and letters a reading holds, each counted each time it is reached (what is shared counts as often as it is met; a slice's spare places count too). A statement '..UptoSaid' is the law's where the arguments, and the package variables that the reading takes, are together of bulk at most 1048576: NARROWER than '..Said'. Prove '..Said' where nothing that the law and all that it calls make is longer than what came in: it says more and counts as full. Else prove '..UptoSaid'. A law counts once. -/
mutual
def uptoBulk {H : Type} : DataW H → Nat
  | .lit (.string bytes) => bytes.length + 1
  | .lit _ => 1
  | .nil => 1
  | .ptr d => uptoBulk d + 1
  | .slice elems spare => uptoBulkAll elems + uptoBulkAll spare + 1
  | .agg parts => uptoBulkAll parts + 1
  | .iface _ d => uptoBulk d + 1
  | .map entries => uptoBulkEntries entries + 1
  | .held _ => 1
def uptoBulkAll {H : Type} : List (DataW H) → Nat
  | [] => 0
  | d :: r => uptoBulk d + uptoBulkAll r
def uptoBulkEntries {H : Type} : List (Lit × DataW H) → Nat
  | [] => 0
  | x :: r => uptoBulkEntry x + uptoBulkEntries r
def uptoBulkEntry {H : Type} : Lit × DataW H → Nat
  | (.string bytes, d) => bytes.length + uptoBulk d + 1
  | (_, d) => uptoBulk d + 1
 end
def uptoSmall : (H : Type) → List (DataW H) → Bool := fun _ ds => decide (uptoBulkAll ds ≤ 1048576)
def OpenSpec.upto (s : _root_.Go.ChangeSpec) : _root_.Go.OpenSpec := { _root_.Go.OpenSpec.ofChange s with cond := some uptoSmall }

/-- 'laws.FnExactErdosNumber', WHERE WHAT IT READS IS OF BULK AT MOST 1048576: true; the input reads as it did. -/
def fnExactErdosNumberUptoRow : OpenClaim := { program := "ytgebhhhdckpciaa", sum := "29b05c2693b28c7c2043ec77c053924ef5b217c4eb2de9785eedbb8d45aa4bb5", func := "loop.example/g01362/laws.FnExactErdosNumber", spec := "fnExactErdosNumber", apart := false, narrowed := true }
def FnExactErdosNumberUptoSaid : Prop := fnExactErdosNumberUptoRow.holds Try.pinned (OpenSpec.upto fnExactErdosNumberSpec)

/-- 'laws.FnExactCupNumber', WHERE WHAT IT READS IS OF BULK AT MOST 1048576: true; the input reads as it did. -/
def fnExactCupNumberUptoRow : OpenClaim := { program := "ytgebhhhdckpciaa", sum := "29b05c2693b28c7c2043ec77c053924ef5b217c4eb2de9785eedbb8d45aa4bb5", func := "loop.example/g01362/laws.FnExactCupNumber", spec := "fnExactCupNumber", apart := false, narrowed := true }
def FnExactCupNumberUptoSaid : Prop := fnExactCupNumberUptoRow.holds Try.pinned (OpenSpec.upto fnExactCupNumberSpec)

/-- 'laws.FnExactIsDesk', WHERE WHAT IT READS IS OF BULK AT MOST 1048576: true; the input reads as it did. -/
def fnExactIsDeskUptoRow : OpenClaim := { program := "ytgebhhhdckpciaa", sum := "29b05c2693b28c7c2043ec77c053924ef5b217c4eb2de9785eedbb8d45aa4bb5", func := "loop.example/g01362/laws.FnExactIsDesk", spec := "fnExactIsDesk", apart := false, narrowed := true }
def FnExactIsDeskUptoSaid : Prop := fnExactIsDeskUptoRow.holds Try.pinned (OpenSpec.upto fnExactIsDeskSpec)

/-- 'laws.FnExactSequenceColouring', WHERE WHAT IT READS IS OF BULK AT MOST 1048576: true; the input reads as it did. -/
def fnExactSequenceColouringUptoRow : OpenClaim := { program := "ytgebhhhdckpciaa", sum := "29b05c2693b28c7c2043ec77c053924ef5b217c4eb2de9785eedbb8d45aa4bb5", func := "loop.example/g01362/laws.FnExactSequenceColouring", spec := "fnExactSequenceColouring", unfollowed := true, recurses := true, apart := false, narrowed := true }
def FnExactSequenceColouringUptoSaid : Prop := fnExactSequenceColouringUptoRow.holds Try.pinned (OpenSpec.upto fnExactSequenceColouringSpec)

/-- 'laws.FnExactIsClosedColour', WHERE WHAT IT READS IS OF BULK AT MOST 1048576: true; the input reads as it did. -/
def fnExactIsClosedColourUptoRow : OpenClaim := { program := "ytgebhhhdckpciaa", sum := "29b05c2693b28c7c2043ec77c053924ef5b217c4eb2de9785eedbb8d45aa4bb5", func := "loop.example/g01362/laws.FnExactIsClosedColour", spec := "fnExactIsClosedColour", unfollowed := true, recurses := true, apart := false, narrowed := true }
def FnExactIsClosedColourUptoSaid : Prop := fnExactIsClosedColourUptoRow.holds Try.pinned (OpenSpec.upto fnExactIsClosedColourSpec)

end Rows
end Go.Proofs.Ytgebhhhdckpciaa
