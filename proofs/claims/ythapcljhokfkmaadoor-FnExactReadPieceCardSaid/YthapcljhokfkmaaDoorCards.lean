/-
  DERIVED. GIVEN WITH THE SEED: THE CARDS: each row of YthapcljhokfkmaaDoorRows.lean that lists a variable, with what it lists TIED to the program's text (the seventh form; the later family's looks); each row that meets fmt, with fmt's text TOLD by the authors' own Lean function (tested against real Go, not proved from fmt's source: count such statements apart). THE CARD IS WHAT COUNTS. Prove the row's statement (the work); the ties are given (YthapcljhokfkmaaDoorTie.lean); close each card by the builder's one call (the guide's Derived/Test/ToyasCard.lean, 'card_holds'). Laid BY PROGRAM, IN A SANDBOX (cutbox-door.mjs). By AI agents, Wed Nov 11 2026. No macro, syntax, notation, axiom, sorry.
-/
import Derived.Test.YthapcljhokfkmaaDoorRows
import GoSem.ClaimSeven
namespace Go.Proofs.YthapcljhokfkmaaDoor
namespace Rows

/-- THE TIED CARD OF 'laws.FnExactStripText'. -/
def fnExactStripTextCard : Claim7 := { stood := { row := fnExactStripTextRow, standIns := [], harness := (true, "42cd25938b9f28bde2d10d45462340b9a56b8c261913f1c53c3de2767a8cd307"), looks := true }, kinds := [], alts := [], laidByText := true, laidKinds := [.data, .data, .data], laidTests := true, laidLooks := .later }
def FnExactStripTextCardSaid : Prop := Claim7.holds Tryd.pinned (.plain (OpenSpec.ofChange fnExactStripTextSpec)) fnExactStripTextCard

/-- THE TIED CARD OF 'laws.FnExactOutlineText'. -/
def fnExactOutlineTextCard : Claim7 := { stood := { row := fnExactOutlineTextRow, standIns := [], harness := (true, "42cd25938b9f28bde2d10d45462340b9a56b8c261913f1c53c3de2767a8cd307"), looks := true }, kinds := [], alts := [], laidByText := true, laidKinds := [.data, .data, .data], laidTests := true, laidLooks := .later }
def FnExactOutlineTextCardSaid : Prop := Claim7.holds Tryd.pinned (.plain (OpenSpec.ofChange fnExactOutlineTextSpec)) fnExactOutlineTextCard

/-- THE TIED CARD OF 'laws.FnExactReadStrip'. -/
def fnExactReadStripCard : Claim7 := { stood := { row := fnExactReadStripRow, standIns := [], harness := (true, "42cd25938b9f28bde2d10d45462340b9a56b8c261913f1c53c3de2767a8cd307"), looks := true }, kinds := [], alts := [], laidByText := true, laidKinds := [.data, .data, .data, .data, .sentinel, .sentinel, .pinned], laidTests := true, laidLooks := .later }
def FnExactReadStripCardSaid : Prop := Claim7.holds Tryd.pinned (.plain (OpenSpec.ofChange fnExactReadStripSpec)) fnExactReadStripCard

/-- THE TIED CARD OF 'laws.FnExactReadPiece'. -/
def fnExactReadPieceCard : Claim7 := { stood := { row := fnExactReadPieceRow, standIns := [], harness := (true, "42cd25938b9f28bde2d10d45462340b9a56b8c261913f1c53c3de2767a8cd307"), looks := true }, kinds := [], alts := [], laidByText := true, laidKinds := [.data, .data, .data, .data, .sentinel, .sentinel, .pinned], laidTests := true, laidLooks := .later }
def FnExactReadPieceCardSaid : Prop := Claim7.holds Tryd.pinned (.plain (OpenSpec.ofChange fnExactReadPieceSpec)) fnExactReadPieceCard

/-- THE TIED CARD OF 'laws.FnExactReadOutline'. -/
def fnExactReadOutlineCard : Claim7 := { stood := { row := fnExactReadOutlineRow, standIns := [], harness := (true, "42cd25938b9f28bde2d10d45462340b9a56b8c261913f1c53c3de2767a8cd307"), looks := true }, kinds := [], alts := [], laidByText := true, laidKinds := [.data, .data, .data, .data, .sentinel, .sentinel, .pinned], laidTests := true, laidLooks := .later }
def FnExactReadOutlineCardSaid : Prop := Claim7.holds Tryd.pinned (.plain (OpenSpec.ofChange fnExactReadOutlineSpec)) fnExactReadOutlineCard

/-- THE SECOND FORM's CARD OF 'laws.FnExactStripText'. -/
def fnExactStripTextUptoCard : Claim7 := { stood := { row := fnExactStripTextUptoRow, standIns := [], harness := (true, "42cd25938b9f28bde2d10d45462340b9a56b8c261913f1c53c3de2767a8cd307"), looks := true }, kinds := [], alts := [], laidByText := true, laidKinds := [.data, .data, .data], laidTests := true, laidLooks := .later }
def FnExactStripTextUptoCardSaid : Prop := Claim7.holds Tryd.pinned (.plain (OpenSpec.upto fnExactStripTextSpec)) fnExactStripTextUptoCard

/-- THE SECOND FORM's CARD OF 'laws.FnExactOutlineText'. -/
def fnExactOutlineTextUptoCard : Claim7 := { stood := { row := fnExactOutlineTextUptoRow, standIns := [], harness := (true, "42cd25938b9f28bde2d10d45462340b9a56b8c261913f1c53c3de2767a8cd307"), looks := true }, kinds := [], alts := [], laidByText := true, laidKinds := [.data, .data, .data], laidTests := true, laidLooks := .later }
def FnExactOutlineTextUptoCardSaid : Prop := Claim7.holds Tryd.pinned (.plain (OpenSpec.upto fnExactOutlineTextSpec)) fnExactOutlineTextUptoCard

/-- THE SECOND FORM's CARD OF 'laws.FnExactReadStrip'. -/
def fnExactReadStripUptoCard : Claim7 := { stood := { row := fnExactReadStripUptoRow, standIns := [], harness := (true, "42cd25938b9f28bde2d10d45462340b9a56b8c261913f1c53c3de2767a8cd307"), looks := true }, kinds := [], alts := [], laidByText := true, laidKinds := [.data, .data, .data, .data, .sentinel, .sentinel, .pinned], laidTests := true, laidLooks := .later }
def FnExactReadStripUptoCardSaid : Prop := Claim7.holds Tryd.pinned (.plain (OpenSpec.upto fnExactReadStripSpec)) fnExactReadStripUptoCard

/-- THE SECOND FORM's CARD OF 'laws.FnExactReadPiece'. -/
def fnExactReadPieceUptoCard : Claim7 := { stood := { row := fnExactReadPieceUptoRow, standIns := [], harness := (true, "42cd25938b9f28bde2d10d45462340b9a56b8c261913f1c53c3de2767a8cd307"), looks := true }, kinds := [], alts := [], laidByText := true, laidKinds := [.data, .data, .data, .data, .sentinel, .sentinel, .pinned], laidTests := true, laidLooks := .later }
def FnExactReadPieceUptoCardSaid : Prop := Claim7.holds Tryd.pinned (.plain (OpenSpec.upto fnExactReadPieceSpec)) fnExactReadPieceUptoCard

/-- THE SECOND FORM's CARD OF 'laws.FnExactReadOutline'. -/
def fnExactReadOutlineUptoCard : Claim7 := { stood := { row := fnExactReadOutlineUptoRow, standIns := [], harness := (true, "42cd25938b9f28bde2d10d45462340b9a56b8c261913f1c53c3de2767a8cd307"), looks := true }, kinds := [], alts := [], laidByText := true, laidKinds := [.data, .data, .data, .data, .sentinel, .sentinel, .pinned], laidTests := true, laidLooks := .later }
def FnExactReadOutlineUptoCardSaid : Prop := Claim7.holds Tryd.pinned (.plain (OpenSpec.upto fnExactReadOutlineSpec)) fnExactReadOutlineUptoCard
end Rows
end Go.Proofs.YthapcljhokfkmaaDoor
