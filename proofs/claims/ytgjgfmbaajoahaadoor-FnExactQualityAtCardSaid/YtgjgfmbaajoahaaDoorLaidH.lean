/- The tables that the rows of hides list: a world that meets their condition. -/
import Derived.Test.YtgjgfmbaajoahaaDoorH10
import Derived.Test.YtgjgfmbaajoahaaDoorStrs
import Derived.Test.YtgjgfmbaajoahaaDoorCards
import Derived.Test.YtgjgfmbaajoahaaDoorTie
import Derived.Stop.LaidErr
import Derived.LaidLaws
import Derived.JoinedOf
import Derived.SevenTiedAt
import Derived.ChangeMaps5
namespace Go.Proofs.YtgjgfmbaajoahaaDoor
open Go.RowKit

def laidLH : List (String × DataW Unit) := [("unicode/utf8.acceptRanges", Rows.laid_unicode_utf8_acceptRanges), ("unicode/utf8.first", Rows.laid_unicode_utf8_first)]
/-- A listed table's cells. -/
def flatData : DataW Unit → List Value
  | .lit (.int k z) => [.int k z]
  | _ => []
def flatRow : DataW Unit → List Value
  | .agg ps => ps.flatMap flatData
  | x => flatData x
def cellsOfDataR : DataW Unit → Array Value
  | .agg ps => (ps.flatMap flatRow).toArray
  | _ => #[]
def layAtR (d : DataW Unit) : Obj → Obj
  | .cells _ t frozen => .cells (cellsOfDataR d) t frozen
  | o => o
/-- The settled world, the listed tables lying as their initialisers lay them: the witness. -/
noncomputable def laidWorldH (os : Os) : World :=
  { World.holding Tryd.prog os ⟨#[], #[], []⟩ with heap := ((World.holding Tryd.prog os ⟨#[], #[], []⟩).heap.modify 1 (layAtR Rows.laid_unicode_utf8_acceptRanges)).modify 0 (layAtR Rows.laid_unicode_utf8_first) }
theorem laid_metH (os : Os) (args : Array Value) : laidMet Tryd.prog laidLH ((laidWorldH os).forCall (fun _ _ => 0) ⟨#[], args, []⟩).memory :=
  laidMet_of_run' 8 (by kernel_rfl) (by kernel_rfl)
end Go.Proofs.YtgjgfmbaajoahaaDoor
