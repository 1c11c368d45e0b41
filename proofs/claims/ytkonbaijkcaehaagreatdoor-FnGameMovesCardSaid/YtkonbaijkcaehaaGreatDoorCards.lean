/-
  DERIVED. GIVEN WITH THE SEED: THE CARDS: each row of YtkonbaijkcaehaaGreatDoorRows.lean that lists a variable, with what it lists TIED to the program's text (the seventh form; the later family's looks); each row that meets fmt, with fmt's text TOLD by the authors' own Lean function (tested against real Go, not proved from fmt's source: count such statements apart). THE CARD IS WHAT COUNTS. Prove the row's statement (the work); the ties are given (YtkonbaijkcaehaaGreatDoorTie.lean); close each card by the builder's one call (the guide's Derived/Test/ToyasCard.lean, 'card_holds'). Laid BY PROGRAM, IN A SANDBOX (cutbox-door.mjs). By AI agents, Wed Nov 11 2026. No macro, syntax, notation, axiom, sorry.
-/
import Derived.Test.YtkonbaijkcaehaaGreatDoorRows
import GoSem.ClaimSeven
namespace Go.Proofs.YtkonbaijkcaehaaGreatDoor
namespace Rows

/-- THE TIED CARD OF 'laws.FnColourings'. -/
def fnColouringsCard : Claim7 := { stood := { row := fnColouringsRow, standIns := [], harness := (true, "0434f5c7181d29ba27a04b8ff3b7e94f712381507c9a591a2e90c72e21aa4558"), looks := true }, kinds := [], alts := [], laidByText := true, laidKinds := [.data, .data, .data, .data, .sentinel, .sentinel, .pinned], laidTests := true, laidLooks := .later }
def FnColouringsCardSaid : Prop := Claim7.holds Tryz.pinned (.plain (OpenSpec.ofChange fnColouringsSpec)) fnColouringsCard

/-- THE TIED CARD OF 'laws.FnGameMoves'. -/
def fnGameMovesCard : Claim7 := { stood := { row := fnGameMovesRow, standIns := [], harness := (true, "0434f5c7181d29ba27a04b8ff3b7e94f712381507c9a591a2e90c72e21aa4558"), looks := true }, kinds := [], alts := [], laidByText := true, laidKinds := [.data, .data, .data, .sentinel, .sentinel], laidTests := true, laidLooks := .later }
def FnGameMovesCardSaid : Prop := Claim7.holds Tryz.pinned (.plain (OpenSpec.ofChange fnGameMovesSpec)) fnGameMovesCard

/-- THE SECOND FORM's CARD OF 'laws.FnColourings'. -/
def fnColouringsUptoCard : Claim7 := { stood := { row := fnColouringsUptoRow, standIns := [], harness := (true, "0434f5c7181d29ba27a04b8ff3b7e94f712381507c9a591a2e90c72e21aa4558"), looks := true }, kinds := [], alts := [], laidByText := true, laidKinds := [.data, .data, .data, .data, .sentinel, .sentinel, .pinned], laidTests := true, laidLooks := .later }
def FnColouringsUptoCardSaid : Prop := Claim7.holds Tryz.pinned (.plain (OpenSpec.upto fnColouringsSpec)) fnColouringsUptoCard

/-- THE SECOND FORM's CARD OF 'laws.FnGameMoves'. -/
def fnGameMovesUptoCard : Claim7 := { stood := { row := fnGameMovesUptoRow, standIns := [], harness := (true, "0434f5c7181d29ba27a04b8ff3b7e94f712381507c9a591a2e90c72e21aa4558"), looks := true }, kinds := [], alts := [], laidByText := true, laidKinds := [.data, .data, .data, .sentinel, .sentinel], laidTests := true, laidLooks := .later }
def FnGameMovesUptoCardSaid : Prop := Claim7.holds Tryz.pinned (.plain (OpenSpec.upto fnGameMovesSpec)) fnGameMovesUptoCard
end Rows
end Go.Proofs.YtkonbaijkcaehaaGreatDoor
