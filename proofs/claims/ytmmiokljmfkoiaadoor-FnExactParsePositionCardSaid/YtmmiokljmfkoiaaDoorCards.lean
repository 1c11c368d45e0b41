/-
  DERIVED. GIVEN WITH THE SEED: THE CARDS: each row of YtmmiokljmfkoiaaDoorRows.lean that lists a variable, with what it lists TIED to the program's text (the seventh form; the later family's looks); each row that meets fmt, with fmt's text TOLD by the authors' own Lean function (tested against real Go, not proved from fmt's source: count such statements apart). THE CARD IS WHAT COUNTS. Prove the row's statement (the work); the ties are given (YtmmiokljmfkoiaaDoorTie.lean); close each card by the builder's one call (the guide's Derived/Test/ToyasCard.lean, 'card_holds'). Laid BY PROGRAM, IN A SANDBOX (cutbox-door.mjs). By AI agents, Wed Nov 11 2026. No macro, syntax, notation, axiom, sorry.
-/
import Derived.Test.YtmmiokljmfkoiaaDoorRows
import GoSem.ClaimSeven
namespace Go.Proofs.YtmmiokljmfkoiaaDoor
namespace Rows

/-- THE TIED CARD OF 'laws.FnExactColouringText'. -/
def fnExactColouringTextCard : Claim7 := { stood := { row := fnExactColouringTextRow, standIns := [], harness := (true, "9a2bacfd5ee0fb0c9c6f8f5237d3fc1abcb0be66d3b2afb1ddf7d258e585b768"), looks := true }, kinds := [], alts := [], laidByText := true, laidKinds := [.data, .data, .data], laidTests := true, laidLooks := .later }
def FnExactColouringTextCardSaid : Prop := Claim7.holds Tryd.pinned (.plain (OpenSpec.ofChange fnExactColouringTextSpec)) fnExactColouringTextCard

/-- THE TIED CARD OF 'laws.FnExactPositionText'. -/
def fnExactPositionTextCard : Claim7 := { stood := { row := fnExactPositionTextRow, standIns := [], harness := (true, "9a2bacfd5ee0fb0c9c6f8f5237d3fc1abcb0be66d3b2afb1ddf7d258e585b768"), looks := true }, kinds := [], alts := [], laidByText := true, laidKinds := [.data, .data, .data], laidTests := true, laidLooks := .later }
def FnExactPositionTextCardSaid : Prop := Claim7.holds Tryd.pinned (.plain (OpenSpec.ofChange fnExactPositionTextSpec)) fnExactPositionTextCard

/-- THE TIED CARD OF 'laws.FnExactParsePosition'. -/
def fnExactParsePositionCard : Claim7 := { stood := { row := fnExactParsePositionRow, standIns := [], harness := (true, "9a2bacfd5ee0fb0c9c6f8f5237d3fc1abcb0be66d3b2afb1ddf7d258e585b768"), looks := true }, kinds := [], alts := [], laidByText := true, laidKinds := [.data, .data, .data, .sentinel, .sentinel], laidTests := true, laidLooks := .later }
def FnExactParsePositionCardSaid : Prop := Claim7.holds Tryd.pinned (.plain (OpenSpec.ofChange fnExactParsePositionSpec)) fnExactParsePositionCard

/-- THE SECOND FORM's CARD OF 'laws.FnExactColouringText'. -/
def fnExactColouringTextUptoCard : Claim7 := { stood := { row := fnExactColouringTextUptoRow, standIns := [], harness := (true, "9a2bacfd5ee0fb0c9c6f8f5237d3fc1abcb0be66d3b2afb1ddf7d258e585b768"), looks := true }, kinds := [], alts := [], laidByText := true, laidKinds := [.data, .data, .data], laidTests := true, laidLooks := .later }
def FnExactColouringTextUptoCardSaid : Prop := Claim7.holds Tryd.pinned (.plain (OpenSpec.upto fnExactColouringTextSpec)) fnExactColouringTextUptoCard

/-- THE SECOND FORM's CARD OF 'laws.FnExactPositionText'. -/
def fnExactPositionTextUptoCard : Claim7 := { stood := { row := fnExactPositionTextUptoRow, standIns := [], harness := (true, "9a2bacfd5ee0fb0c9c6f8f5237d3fc1abcb0be66d3b2afb1ddf7d258e585b768"), looks := true }, kinds := [], alts := [], laidByText := true, laidKinds := [.data, .data, .data], laidTests := true, laidLooks := .later }
def FnExactPositionTextUptoCardSaid : Prop := Claim7.holds Tryd.pinned (.plain (OpenSpec.upto fnExactPositionTextSpec)) fnExactPositionTextUptoCard

/-- THE SECOND FORM's CARD OF 'laws.FnExactParsePosition'. -/
def fnExactParsePositionUptoCard : Claim7 := { stood := { row := fnExactParsePositionUptoRow, standIns := [], harness := (true, "9a2bacfd5ee0fb0c9c6f8f5237d3fc1abcb0be66d3b2afb1ddf7d258e585b768"), looks := true }, kinds := [], alts := [], laidByText := true, laidKinds := [.data, .data, .data, .sentinel, .sentinel], laidTests := true, laidLooks := .later }
def FnExactParsePositionUptoCardSaid : Prop := Claim7.holds Tryd.pinned (.plain (OpenSpec.upto fnExactParsePositionSpec)) fnExactParsePositionUptoCard
end Rows
end Go.Proofs.YtmmiokljmfkoiaaDoor
