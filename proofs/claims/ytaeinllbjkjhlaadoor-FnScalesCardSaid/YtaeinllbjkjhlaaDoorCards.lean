/-
  DERIVED. GIVEN WITH THE SEED: THE CARDS: each row of YtaeinllbjkjhlaaDoorRows.lean that lists a variable, with what it lists TIED to the program's text (the seventh form; the later family's looks); each row that meets fmt, with fmt's text TOLD by the authors' own Lean function (tested against real Go, not proved from fmt's source: count such statements apart). THE CARD IS WHAT COUNTS. Prove the row's statement (the work); the ties are given (YtaeinllbjkjhlaaDoorTie.lean); close each card by the builder's one call (the guide's Derived/Test/ToyasCard.lean, 'card_holds'). Laid BY PROGRAM, IN A SANDBOX (cutbox-door.mjs). By AI agents, Wed Nov 11 2026. No macro, syntax, notation, axiom, sorry.
-/
import Derived.Test.YtaeinllbjkjhlaaDoorRows
import GoSem.ClaimSeven
namespace Go.Proofs.YtaeinllbjkjhlaaDoor
namespace Rows

/-- THE TIED CARD OF 'laws.FnScales'. -/
def fnScalesCard : Claim7 := { stood := { row := fnScalesRow, standIns := [], harness := (true, "7c78bd6959f43ee97284b3c43c7e0053bac9bde8e32afbd629b1f469b471db36"), looks := true }, kinds := [], alts := [], laidByText := true, laidKinds := [.data, .data, .data, .sentinel, .sentinel], laidTests := true, laidLooks := .later }
def FnScalesCardSaid : Prop := Claim7.holds Tryd.pinned (.plain (OpenSpec.ofChange fnScalesSpec)) fnScalesCard

/-- THE SECOND FORM's CARD OF 'laws.FnScales'. -/
def fnScalesUptoCard : Claim7 := { stood := { row := fnScalesUptoRow, standIns := [], harness := (true, "7c78bd6959f43ee97284b3c43c7e0053bac9bde8e32afbd629b1f469b471db36"), looks := true }, kinds := [], alts := [], laidByText := true, laidKinds := [.data, .data, .data, .sentinel, .sentinel], laidTests := true, laidLooks := .later }
def FnScalesUptoCardSaid : Prop := Claim7.holds Tryd.pinned (.plain (OpenSpec.upto fnScalesSpec)) fnScalesUptoCard
end Rows
end Go.Proofs.YtaeinllbjkjhlaaDoor
