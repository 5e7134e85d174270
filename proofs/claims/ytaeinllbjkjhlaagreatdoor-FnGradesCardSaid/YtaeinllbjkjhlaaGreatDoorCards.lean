/-
  DERIVED. GIVEN WITH THE SEED: THE CARDS: each row of YtaeinllbjkjhlaaGreatDoorRows.lean that lists a variable, with what it lists TIED to the program's text (the seventh form; the later family's looks); each row that meets fmt, with fmt's text TOLD by the authors' own Lean function (tested against real Go, not proved from fmt's source: count such statements apart). THE CARD IS WHAT COUNTS. Prove the row's statement (the work); the ties are given (YtaeinllbjkjhlaaGreatDoorTie.lean); close each card by the builder's one call (the guide's Derived/Test/ToyasCard.lean, 'card_holds'). Laid BY PROGRAM, IN A SANDBOX (cutbox-door.mjs). By AI agents, Wed Nov 11 2026. No macro, syntax, notation, axiom, sorry.
-/
import Derived.Test.YtaeinllbjkjhlaaGreatDoorRows
import GoSem.ClaimSeven
namespace Go.Proofs.YtaeinllbjkjhlaaGreatDoor
namespace Rows

/-- THE TIED CARD OF 'laws.FnLastLists'. -/
def fnLastListsCard : Claim7 := { stood := { row := fnLastListsRow, standIns := [], harness := (true, "0a61aec7cde597d7644321e0f9546a6cd8ccb0e542c4c49864731dff24c8dc58"), looks := true }, kinds := [], alts := [], laidByText := true, laidKinds := [.data, .data, .data, .data, .sentinel, .sentinel, .pinned], laidTests := true, laidLooks := .later }
def FnLastListsCardSaid : Prop := Claim7.holds Tryz.pinned (.plain (OpenSpec.ofChange fnLastListsSpec)) fnLastListsCard

/-- THE TIED CARD OF 'laws.FnGrades'. -/
def fnGradesCard : Claim7 := { stood := { row := fnGradesRow, standIns := [], harness := (true, "0a61aec7cde597d7644321e0f9546a6cd8ccb0e542c4c49864731dff24c8dc58"), looks := true }, kinds := [], alts := [], laidByText := true, laidKinds := [.data, .data, .data, .data, .sentinel, .sentinel, .pinned], laidTests := true, laidLooks := .later }
def FnGradesCardSaid : Prop := Claim7.holds Tryz.pinned (.plain (OpenSpec.ofChange fnGradesSpec)) fnGradesCard

/-- THE SECOND FORM's CARD OF 'laws.FnLastLists'. -/
def fnLastListsUptoCard : Claim7 := { stood := { row := fnLastListsUptoRow, standIns := [], harness := (true, "0a61aec7cde597d7644321e0f9546a6cd8ccb0e542c4c49864731dff24c8dc58"), looks := true }, kinds := [], alts := [], laidByText := true, laidKinds := [.data, .data, .data, .data, .sentinel, .sentinel, .pinned], laidTests := true, laidLooks := .later }
def FnLastListsUptoCardSaid : Prop := Claim7.holds Tryz.pinned (.plain (OpenSpec.upto fnLastListsSpec)) fnLastListsUptoCard

/-- THE SECOND FORM's CARD OF 'laws.FnGrades'. -/
def fnGradesUptoCard : Claim7 := { stood := { row := fnGradesUptoRow, standIns := [], harness := (true, "0a61aec7cde597d7644321e0f9546a6cd8ccb0e542c4c49864731dff24c8dc58"), looks := true }, kinds := [], alts := [], laidByText := true, laidKinds := [.data, .data, .data, .data, .sentinel, .sentinel, .pinned], laidTests := true, laidLooks := .later }
def FnGradesUptoCardSaid : Prop := Claim7.holds Tryz.pinned (.plain (OpenSpec.upto fnGradesSpec)) fnGradesUptoCard
end Rows
end Go.Proofs.YtaeinllbjkjhlaaGreatDoor
