/-
  No cell of these rows narrows 'for every input' (looked for: loops, veiled, ifaces, maps, wideKeys, modest, calm, conditions, laid).
  DERIVED. THE GIVEN ROWS OF THIS SEAT. 3 by the template 'for every input the law returns true; each argument reads behind the call as it read before'; 0 by the template 'total and deterministic' (their statements: YtghhnpdhehjlaaaGreatTotals.lean).
  GIVEN WITH THE SEED: the statements are not yours to turn. If you find one false, say at which input.
  Laid BY PROGRAM, IN A SANDBOX (cutbox-rows.mjs): the forced cells as the released guide's own fill.sh prints them over the translation c4a53d3e7e10ac81… (all of the seat's roots in one cut). By AI agents, Wed Nov 11 2026. No macro, syntax, notation, axiom, sorry.
-/
import Derived.Test.YtghhnpdhehjlaaaGreatChecked
import GoSem.Claim
import GoSem.ClaimJoined
import GoSem.ClaimMapViews
import Derived.JoinedTies
import Derived.KernelRfl
namespace Go.Proofs.YtghhnpdhehjlaaaGreat
/- THE CELL 'sum', in the pinned program and in every row, IS THE sha256 OF THE DUMP (.gsa) THAT YtghhnpdhehjlaaaGreatProg.lean LOADS. Nothing in Lean hashes anything: it is a label: what it is worth is what the hold of that sum in a sandbox is worth. -/
noncomputable def Tryz.pinned : Pinned := { name := "ytghhnpdhehjlaaagreat", sum := "c4a53d3e7e10ac81bddd2e991eeb5f5534eb5d40a37af4ae5e6e4e6c3a368300", checked := Tryz.checked }
namespace Rows
def none {H : Type} : Left H := { results := [], args := [] }

/-- 'laws.FnBounds': WHATEVER THE INPUT: true; the input reads as it did. -/
def fnBoundsSpec : ChangeSpec := { name := "fnBounds", fn := fun _ => fun
  | [d] => { results := [.lit (.bool true)], args := [d] }
  | _ => none }
def fnBoundsRow : OpenClaim := { program := "ytghhnpdhehjlaaagreat", sum := "c4a53d3e7e10ac81bddd2e991eeb5f5534eb5d40a37af4ae5e6e4e6c3a368300", func := "loop.example/g01362/laws.FnBounds", spec := "fnBounds", unfollowed := true, recurses := true, plainKeys := false, apart := false }
def FnBoundsSaid : Prop := fnBoundsRow.holds Tryz.pinned (OpenSpec.ofChange fnBoundsSpec)

/-- ITS FALSE NEIGHBOUR: 'it returns false'. Refute it at one input. -/
def fnBoundsWrong : ChangeSpec := { name := "fnBounds", fn := fun _ => fun
  | [d] => { results := [.lit (.bool false)], args := [d] }
  | _ => none }
def FnBoundsWrongFalsely : Prop := fnBoundsRow.holds Tryz.pinned (OpenSpec.ofChange fnBoundsWrong)

/-- 'laws.FnAvoided': WHATEVER THE INPUT: true; the input reads as it did. -/
def fnAvoidedSpec : ChangeSpec := { name := "fnAvoided", fn := fun _ => fun
  | [d] => { results := [.lit (.bool true)], args := [d] }
  | _ => none }
def fnAvoidedRow : OpenClaim := { program := "ytghhnpdhehjlaaagreat", sum := "c4a53d3e7e10ac81bddd2e991eeb5f5534eb5d40a37af4ae5e6e4e6c3a368300", func := "loop.example/g01362/laws.FnAvoided", spec := "fnAvoided", unfollowed := true, recurses := true, plainKeys := false, apart := false }
def FnAvoidedSaid : Prop := fnAvoidedRow.holds Tryz.pinned (OpenSpec.ofChange fnAvoidedSpec)

/-- ITS FALSE NEIGHBOUR: 'it returns false'. Refute it at one input. -/
def fnAvoidedWrong : ChangeSpec := { name := "fnAvoided", fn := fun _ => fun
  | [d] => { results := [.lit (.bool false)], args := [d] }
  | _ => none }
def FnAvoidedWrongFalsely : Prop := fnAvoidedRow.holds Tryz.pinned (OpenSpec.ofChange fnAvoidedWrong)

/-- 'laws.FnGameOutcomes': WHATEVER THE INPUT: true; the input reads as it did. -/
def fnGameOutcomesSpec : ChangeSpec := { name := "fnGameOutcomes", fn := fun _ => fun
  | [d] => { results := [.lit (.bool true)], args := [d] }
  | _ => none }
def fnGameOutcomesRow : OpenClaim := { program := "ytghhnpdhehjlaaagreat", sum := "c4a53d3e7e10ac81bddd2e991eeb5f5534eb5d40a37af4ae5e6e4e6c3a368300", func := "loop.example/g01362/laws.FnGameOutcomes", spec := "fnGameOutcomes", unfollowed := true, recurses := true, plainKeys := false, apart := false }
def FnGameOutcomesSaid : Prop := fnGameOutcomesRow.holds Tryz.pinned (OpenSpec.ofChange fnGameOutcomesSpec)

/-- ITS FALSE NEIGHBOUR: 'it returns false'. Refute it at one input. -/
def fnGameOutcomesWrong : ChangeSpec := { name := "fnGameOutcomes", fn := fun _ => fun
  | [d] => { results := [.lit (.bool false)], args := [d] }
  | _ => none }
def FnGameOutcomesWrongFalsely : Prop := fnGameOutcomesRow.holds Tryz.pinned (OpenSpec.ofChange fnGameOutcomesWrong)

/- THE SECOND FORM. 'bulk': how many values and letters a reading holds, each counted each time it is reached (what is shared counts as often as it is met; a slice's spare places count too). A statement '..UptoSaid' is the law's where the arguments, and the package variables that the reading takes, are together of bulk at most 1048576: NARROWER than '..Said'. Prove '..Said' where nothing that the law and all that it calls make is longer than what came in: it says more and counts as full. Else prove '..UptoSaid'. A law counts once. -/
mutual
def uptoBulk {H : Type} : DataW H → Nat
  | .lit (.string bytes) => bytes.length + 1
  | .lit _ => 1
  | .nil => 1
  | .ptr d => uptoBulk d + 1
  | .slice elems spare => uptoBulkAll elems + uptoBulkAll spare + 1
  | .agg parts => uptoBulkAll parts + 1
  | .iface _ d => uptoBulk d + 1
  | .map entries => uptoBulkEntries entries + 1
  | .held _ => 1
def uptoBulkAll {H : Type} : List (DataW H) → Nat
  | [] => 0
  | d :: r => uptoBulk d + uptoBulkAll r
def uptoBulkEntries {H : Type} : List (Lit × DataW H) → Nat
  | [] => 0
  | x :: r => uptoBulkEntry x + uptoBulkEntries r
def uptoBulkEntry {H : Type} : Lit × DataW H → Nat
  | (.string bytes, d) => bytes.length + uptoBulk d + 1
  | (_, d) => uptoBulk d + 1
 end
def uptoSmall : (H : Type) → List (DataW H) → Bool := fun _ ds => decide (uptoBulkAll ds ≤ 1048576)
def OpenSpec.upto (s : _root_.Go.ChangeSpec) : _root_.Go.OpenSpec := { _root_.Go.OpenSpec.ofChange s with cond := some uptoSmall }

/-- 'laws.FnBounds', WHERE WHAT IT READS IS OF BULK AT MOST 1048576: true; the input reads as it did. -/
def fnBoundsUptoRow : OpenClaim := { program := "ytghhnpdhehjlaaagreat", sum := "c4a53d3e7e10ac81bddd2e991eeb5f5534eb5d40a37af4ae5e6e4e6c3a368300", func := "loop.example/g01362/laws.FnBounds", spec := "fnBounds", unfollowed := true, recurses := true, plainKeys := false, apart := false, narrowed := true }
def FnBoundsUptoSaid : Prop := fnBoundsUptoRow.holds Tryz.pinned (OpenSpec.upto fnBoundsSpec)

/-- 'laws.FnAvoided', WHERE WHAT IT READS IS OF BULK AT MOST 1048576: true; the input reads as it did. -/
def fnAvoidedUptoRow : OpenClaim := { program := "ytghhnpdhehjlaaagreat", sum := "c4a53d3e7e10ac81bddd2e991eeb5f5534eb5d40a37af4ae5e6e4e6c3a368300", func := "loop.example/g01362/laws.FnAvoided", spec := "fnAvoided", unfollowed := true, recurses := true, plainKeys := false, apart := false, narrowed := true }
def FnAvoidedUptoSaid : Prop := fnAvoidedUptoRow.holds Tryz.pinned (OpenSpec.upto fnAvoidedSpec)

/-- 'laws.FnGameOutcomes', WHERE WHAT IT READS IS OF BULK AT MOST 1048576: true; the input reads as it did. -/
def fnGameOutcomesUptoRow : OpenClaim := { program := "ytghhnpdhehjlaaagreat", sum := "c4a53d3e7e10ac81bddd2e991eeb5f5534eb5d40a37af4ae5e6e4e6c3a368300", func := "loop.example/g01362/laws.FnGameOutcomes", spec := "fnGameOutcomes", unfollowed := true, recurses := true, plainKeys := false, apart := false, narrowed := true }
def FnGameOutcomesUptoSaid : Prop := fnGameOutcomesUptoRow.holds Tryz.pinned (OpenSpec.upto fnGameOutcomesSpec)

end Rows
end Go.Proofs.YtghhnpdhehjlaaaGreat
