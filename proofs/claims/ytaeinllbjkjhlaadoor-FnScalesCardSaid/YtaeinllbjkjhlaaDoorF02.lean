/- Feet and lasts: what the small functions on one of them answer. -/
import Derived.Test.YtaeinllbjkjhlaaDoorFoot
import Derived.Test.YtaeinllbjkjhlaaDoorLastT
import Derived.Test.YtaeinllbjkjhlaaDoorNames
import Derived.Test.YtaeinllbjkjhlaaDoorL09
import Derived.Test.YtaeinllbjkjhlaaDoorLists
namespace Go.Proofs.YtaeinllbjkjhlaaDoor
open Go.RowKit

/-- A foot is valid. -/
def okFoot (f : Foot) : Bool := inr f.Length 500 5000 && inr f.Ball 500 5000 && inr f.Instep 500 5000 && inr f.Heel 500 5000
theorem okFoot_iff {f : Foot} : okFoot f = true ↔ (500 ≤ f.Length ∧ f.Length ≤ 5000) ∧ (500 ≤ f.Ball ∧ f.Ball ≤ 5000) ∧ (500 ≤ f.Instep ∧ f.Instep ≤ 5000) ∧ (500 ≤ f.Heel ∧ f.Heel ≤ 5000) := by
  simp [okFoot, inr, and_assoc]
def fourOf (f : Foot) : List Int := [f.Length, f.Ball, f.Instep, f.Heel]
theorem outs_four (f : Foot) : outs (fourOf f) 500 5000 = !okFoot f := by
  simp [outs, fourOf, okFoot, Bool.not_and, Bool.or_assoc]
def lastFoot (x : Last) : Foot := ⟨x.Length, x.Ball, x.Instep, x.Heel⟩
/-- A last is valid. -/
def okLast (x : Last) : Bool := isName x.Name && okFoot (lastFoot x) && inr x.Pitch 0 1000
end Go.Proofs.YtaeinllbjkjhlaaDoor
