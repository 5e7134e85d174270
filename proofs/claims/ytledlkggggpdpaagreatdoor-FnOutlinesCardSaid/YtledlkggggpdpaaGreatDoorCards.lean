/-
  DERIVED. GIVEN WITH THE SEED: THE CARDS: each row of YtledlkggggpdpaaGreatDoorRows.lean that lists a variable, with what it lists TIED to the program's text (the seventh form; the later family's looks); each row that meets fmt, with fmt's text TOLD by the authors' own Lean function (tested against real Go, not proved from fmt's source: count such statements apart). THE CARD IS WHAT COUNTS. Prove the row's statement (the work); the ties are given (YtledlkggggpdpaaGreatDoorTie.lean); close each card by the builder's one call (the guide's Derived/Test/ToyasCard.lean, 'card_holds'). Laid BY PROGRAM, IN A SANDBOX (cutbox-door.mjs). By AI agents, Wed Nov 11 2026. No macro, syntax, notation, axiom, sorry.
-/
import Derived.Test.YtledlkggggpdpaaGreatDoorRows
import GoSem.ClaimSeven
namespace Go.Proofs.YtledlkggggpdpaaGreatDoor
namespace Rows

/-- THE TIED CARD OF 'laws.FnLastLists'. -/
def fnLastListsCard : Claim7 := { stood := { row := fnLastListsRow, standIns := [], harness := (true, "15e64c6eb81d9c13b25a7f0cc63ce32687d99fc936dca131dcdbed36e22d255c"), looks := true }, kinds := [], alts := [], laidByText := true, laidKinds := [.data, .data, .data, .data, .sentinel, .sentinel, .pinned], laidTests := true, laidLooks := .later }
def FnLastListsCardSaid : Prop := Claim7.holds Tryz.pinned (.plain (OpenSpec.ofChange fnLastListsSpec)) fnLastListsCard

/-- THE TIED CARD OF 'laws.FnAllowances'. -/
def fnAllowancesCard : Claim7 := { stood := { row := fnAllowancesRow, standIns := [], harness := (true, "15e64c6eb81d9c13b25a7f0cc63ce32687d99fc936dca131dcdbed36e22d255c"), looks := true }, kinds := [], alts := [], laidByText := true, laidKinds := [.data, .data, .data, .data, .sentinel, .sentinel, .pinned], laidTests := true, laidLooks := .later }
def FnAllowancesCardSaid : Prop := Claim7.holds Tryz.pinned (.plain (OpenSpec.ofChange fnAllowancesSpec)) fnAllowancesCard

/-- THE TIED CARD OF 'laws.FnFootPairs'. -/
def fnFootPairsCard : Claim7 := { stood := { row := fnFootPairsRow, standIns := [], harness := (true, "15e64c6eb81d9c13b25a7f0cc63ce32687d99fc936dca131dcdbed36e22d255c"), looks := true }, kinds := [], alts := [], laidByText := true, laidKinds := [.data, .data, .data, .data, .sentinel, .sentinel, .pinned], laidTests := true, laidLooks := .later }
def FnFootPairsCardSaid : Prop := Claim7.holds Tryz.pinned (.plain (OpenSpec.ofChange fnFootPairsSpec)) fnFootPairsCard

/-- THE TIED CARD OF 'laws.FnGrades'. -/
def fnGradesCard : Claim7 := { stood := { row := fnGradesRow, standIns := [], harness := (true, "15e64c6eb81d9c13b25a7f0cc63ce32687d99fc936dca131dcdbed36e22d255c"), looks := true }, kinds := [], alts := [], laidByText := true, laidKinds := [.data, .data, .data, .data, .sentinel, .sentinel, .pinned], laidTests := true, laidLooks := .later }
def FnGradesCardSaid : Prop := Claim7.holds Tryz.pinned (.plain (OpenSpec.ofChange fnGradesSpec)) fnGradesCard

/-- THE TIED CARD OF 'laws.FnOutlines'. -/
def fnOutlinesCard : Claim7 := { stood := { row := fnOutlinesRow, standIns := [], harness := (true, "15e64c6eb81d9c13b25a7f0cc63ce32687d99fc936dca131dcdbed36e22d255c"), looks := true }, kinds := [], alts := [], laidByText := true, laidKinds := [.data, .data, .data, .data, .sentinel, .sentinel, .pinned], laidTests := true, laidLooks := .later }
def FnOutlinesCardSaid : Prop := Claim7.holds Tryz.pinned (.plain (OpenSpec.ofChange fnOutlinesSpec)) fnOutlinesCard

/-- THE SECOND FORM's CARD OF 'laws.FnLastLists'. -/
def fnLastListsUptoCard : Claim7 := { stood := { row := fnLastListsUptoRow, standIns := [], harness := (true, "15e64c6eb81d9c13b25a7f0cc63ce32687d99fc936dca131dcdbed36e22d255c"), looks := true }, kinds := [], alts := [], laidByText := true, laidKinds := [.data, .data, .data, .data, .sentinel, .sentinel, .pinned], laidTests := true, laidLooks := .later }
def FnLastListsUptoCardSaid : Prop := Claim7.holds Tryz.pinned (.plain (OpenSpec.upto fnLastListsSpec)) fnLastListsUptoCard

/-- THE SECOND FORM's CARD OF 'laws.FnAllowances'. -/
def fnAllowancesUptoCard : Claim7 := { stood := { row := fnAllowancesUptoRow, standIns := [], harness := (true, "15e64c6eb81d9c13b25a7f0cc63ce32687d99fc936dca131dcdbed36e22d255c"), looks := true }, kinds := [], alts := [], laidByText := true, laidKinds := [.data, .data, .data, .data, .sentinel, .sentinel, .pinned], laidTests := true, laidLooks := .later }
def FnAllowancesUptoCardSaid : Prop := Claim7.holds Tryz.pinned (.plain (OpenSpec.upto fnAllowancesSpec)) fnAllowancesUptoCard

/-- THE SECOND FORM's CARD OF 'laws.FnFootPairs'. -/
def fnFootPairsUptoCard : Claim7 := { stood := { row := fnFootPairsUptoRow, standIns := [], harness := (true, "15e64c6eb81d9c13b25a7f0cc63ce32687d99fc936dca131dcdbed36e22d255c"), looks := true }, kinds := [], alts := [], laidByText := true, laidKinds := [.data, .data, .data, .data, .sentinel, .sentinel, .pinned], laidTests := true, laidLooks := .later }
def FnFootPairsUptoCardSaid : Prop := Claim7.holds Tryz.pinned (.plain (OpenSpec.upto fnFootPairsSpec)) fnFootPairsUptoCard

/-- THE SECOND FORM's CARD OF 'laws.FnGrades'. -/
def fnGradesUptoCard : Claim7 := { stood := { row := fnGradesUptoRow, standIns := [], harness := (true, "15e64c6eb81d9c13b25a7f0cc63ce32687d99fc936dca131dcdbed36e22d255c"), looks := true }, kinds := [], alts := [], laidByText := true, laidKinds := [.data, .data, .data, .data, .sentinel, .sentinel, .pinned], laidTests := true, laidLooks := .later }
def FnGradesUptoCardSaid : Prop := Claim7.holds Tryz.pinned (.plain (OpenSpec.upto fnGradesSpec)) fnGradesUptoCard

/-- THE SECOND FORM's CARD OF 'laws.FnOutlines'. -/
def fnOutlinesUptoCard : Claim7 := { stood := { row := fnOutlinesUptoRow, standIns := [], harness := (true, "15e64c6eb81d9c13b25a7f0cc63ce32687d99fc936dca131dcdbed36e22d255c"), looks := true }, kinds := [], alts := [], laidByText := true, laidKinds := [.data, .data, .data, .data, .sentinel, .sentinel, .pinned], laidTests := true, laidLooks := .later }
def FnOutlinesUptoCardSaid : Prop := Claim7.holds Tryz.pinned (.plain (OpenSpec.upto fnOutlinesSpec)) fnOutlinesUptoCard
end Rows
end Go.Proofs.YtledlkggggpdpaaGreatDoor
