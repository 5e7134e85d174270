/-
  DERIVED. GIVEN WITH THE SEED: THE CARDS: each row of YtlmhiocmldhkhaaGreatDoorRows.lean that lists a variable, with what it lists TIED to the program's text (the seventh form; the later family's looks); each row that meets fmt, with fmt's text TOLD by the authors' own Lean function (tested against real Go, not proved from fmt's source: count such statements apart). THE CARD IS WHAT COUNTS. Prove the row's statement (the work); the ties are given (YtlmhiocmldhkhaaGreatDoorTie.lean); close each card by the builder's one call (the guide's Derived/Test/ToyasCard.lean, 'card_holds'). Laid BY PROGRAM, IN A SANDBOX (cutbox-door.mjs). By AI agents, Wed Nov 11 2026. No macro, syntax, notation, axiom, sorry.
-/
import Derived.Test.YtlmhiocmldhkhaaGreatDoorRows
import GoSem.ClaimSeven
namespace Go.Proofs.YtlmhiocmldhkhaaGreatDoor
namespace Rows

/-- THE TIED CARD OF 'laws.FnOpenings'. -/
def fnOpeningsCard : Claim7 := { stood := { row := fnOpeningsRow, standIns := [], harness := (true, "033983ddda1e51ba9ae2a66ec1b541a8ac74761f401f62bd8e120451ba65e165"), looks := true }, kinds := [], alts := [], laidByText := true, laidKinds := [.data, .data, .data, .data, .sentinel, .sentinel, .pinned], laidTests := true, laidLooks := .later }
def FnOpeningsCardSaid : Prop := Claim7.holds Tryz.pinned (.plain (OpenSpec.ofChange fnOpeningsSpec)) fnOpeningsCard

/-- THE SECOND FORM's CARD OF 'laws.FnOpenings'. -/
def fnOpeningsUptoCard : Claim7 := { stood := { row := fnOpeningsUptoRow, standIns := [], harness := (true, "033983ddda1e51ba9ae2a66ec1b541a8ac74761f401f62bd8e120451ba65e165"), looks := true }, kinds := [], alts := [], laidByText := true, laidKinds := [.data, .data, .data, .data, .sentinel, .sentinel, .pinned], laidTests := true, laidLooks := .later }
def FnOpeningsUptoCardSaid : Prop := Claim7.holds Tryz.pinned (.plain (OpenSpec.upto fnOpeningsSpec)) fnOpeningsUptoCard
end Rows
end Go.Proofs.YtlmhiocmldhkhaaGreatDoor
