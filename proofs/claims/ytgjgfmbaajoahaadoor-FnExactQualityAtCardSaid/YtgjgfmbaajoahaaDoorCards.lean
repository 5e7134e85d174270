/-
  DERIVED. GIVEN WITH THE SEED: THE CARDS: each row of YtgjgfmbaajoahaaDoorRows.lean that lists a variable, with what it lists TIED to the program's text (the seventh form; the later family's looks); each row that meets fmt, with fmt's text TOLD by the authors' own Lean function (tested against real Go, not proved from fmt's source: count such statements apart). THE CARD IS WHAT COUNTS. Prove the row's statement (the work); the ties are given (YtgjgfmbaajoahaaDoorTie.lean); close each card by the builder's one call (the guide's Derived/Test/ToyasCard.lean, 'card_holds'). Laid BY PROGRAM, IN A SANDBOX (cutbox-door.mjs). By AI agents, Wed Nov 11 2026. No macro, syntax, notation, axiom, sorry.
-/
import Derived.Test.YtgjgfmbaajoahaaDoorRows
import GoSem.ClaimSeven
namespace Go.Proofs.YtgjgfmbaajoahaaDoor
namespace Rows

/-- THE TIED CARD OF 'laws.FnExactValidHide'. -/
def fnExactValidHideCard : Claim7 := { stood := { row := fnExactValidHideRow, standIns := [], harness := (true, "6658d835e59aec6dcf4b2a9c0fffd2752812e642f0f11eac8235c7b8aee4a047"), looks := false }, kinds := [], alts := [], laidByText := true, laidKinds := [.data, .pinned], laidTests := true, laidLooks := .later }
def FnExactValidHideCardSaid : Prop := Claim7.holds Tryd.pinned (.plain (OpenSpec.ofChange fnExactValidHideSpec)) fnExactValidHideCard

/-- THE TIED CARD OF 'laws.FnExactQualityAt'. -/
def fnExactQualityAtCard : Claim7 := { stood := { row := fnExactQualityAtRow, standIns := [], harness := (true, "6658d835e59aec6dcf4b2a9c0fffd2752812e642f0f11eac8235c7b8aee4a047"), looks := false }, kinds := [], alts := [], laidByText := true, laidKinds := [.data, .pinned], laidTests := true, laidLooks := .later }
def FnExactQualityAtCardSaid : Prop := Claim7.holds Tryd.pinned (.plain (OpenSpec.ofChange fnExactQualityAtSpec)) fnExactQualityAtCard

/-- THE SECOND FORM's CARD OF 'laws.FnExactValidHide'. -/
def fnExactValidHideUptoCard : Claim7 := { stood := { row := fnExactValidHideUptoRow, standIns := [], harness := (true, "6658d835e59aec6dcf4b2a9c0fffd2752812e642f0f11eac8235c7b8aee4a047"), looks := false }, kinds := [], alts := [], laidByText := true, laidKinds := [.data, .pinned], laidTests := true, laidLooks := .later }
def FnExactValidHideUptoCardSaid : Prop := Claim7.holds Tryd.pinned (.plain (OpenSpec.upto fnExactValidHideSpec)) fnExactValidHideUptoCard

/-- THE SECOND FORM's CARD OF 'laws.FnExactQualityAt'. -/
def fnExactQualityAtUptoCard : Claim7 := { stood := { row := fnExactQualityAtUptoRow, standIns := [], harness := (true, "6658d835e59aec6dcf4b2a9c0fffd2752812e642f0f11eac8235c7b8aee4a047"), looks := false }, kinds := [], alts := [], laidByText := true, laidKinds := [.data, .pinned], laidTests := true, laidLooks := .later }
def FnExactQualityAtUptoCardSaid : Prop := Claim7.holds Tryd.pinned (.plain (OpenSpec.upto fnExactQualityAtSpec)) fnExactQualityAtUptoCard
end Rows
end Go.Proofs.YtgjgfmbaajoahaaDoor
