/-
  DERIVED. GIVEN WITH THE SEED: THE CARDS: each row of YtfhdihekehlkiaaGreatDoorRows.lean that lists a variable, with what it lists TIED to the program's text (the seventh form; the later family's looks); each row that meets fmt, with fmt's text TOLD by the authors' own Lean function (tested against real Go, not proved from fmt's source: count such statements apart). THE CARD IS WHAT COUNTS. Prove the row's statement (the work); the ties are given (YtfhdihekehlkiaaGreatDoorTie.lean); close each card by the builder's one call (the guide's Derived/Test/ToyasCard.lean, 'card_holds'). Laid BY PROGRAM, IN A SANDBOX (cutbox-door.mjs). By AI agents, Wed Nov 11 2026. No macro, syntax, notation, axiom, sorry.
-/
import Derived.Test.YtfhdihekehlkiaaGreatDoorRows
import GoSem.ClaimSeven
namespace Go.Proofs.YtfhdihekehlkiaaGreatDoor
namespace Rows

/-- THE TIED CARD OF 'laws.FnColourings'. -/
def fnColouringsCard : Claim7 := { stood := { row := fnColouringsRow, standIns := [], harness := (true, "b8d890b363358b3cab11eb560b9270ce5af8e3abb77890f22d1625c366051df5"), looks := true }, kinds := [], alts := [], laidByText := true, laidKinds := [.data, .data, .data, .data, .sentinel, .sentinel, .pinned], laidTests := true, laidLooks := .later }
def FnColouringsCardSaid : Prop := Claim7.holds Tryz.pinned (.plain (OpenSpec.ofChange fnColouringsSpec)) fnColouringsCard

/-- THE SECOND FORM's CARD OF 'laws.FnColourings'. -/
def fnColouringsUptoCard : Claim7 := { stood := { row := fnColouringsUptoRow, standIns := [], harness := (true, "b8d890b363358b3cab11eb560b9270ce5af8e3abb77890f22d1625c366051df5"), looks := true }, kinds := [], alts := [], laidByText := true, laidKinds := [.data, .data, .data, .data, .sentinel, .sentinel, .pinned], laidTests := true, laidLooks := .later }
def FnColouringsUptoCardSaid : Prop := Claim7.holds Tryz.pinned (.plain (OpenSpec.upto fnColouringsSpec)) fnColouringsUptoCard
end Rows
end Go.Proofs.YtfhdihekehlkiaaGreatDoor
