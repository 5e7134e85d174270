/- A variable of the law's own keeps what it holds. Nothing of the program stands here. -/
import Derived.Test.YtokoallbhbgkkaaBase
namespace Go.Proofs.Ytokoallbhbgkkaa
open Go.RowKit
theorem kept_cell {w w' : World} {a : Addr} {v : Value} (h : w.cell? a = some v) (hb : Below w.heap.size w w') : w'.cell? a = some v := by rw [hb.cell (block_lt_of_cell h)]; exact h
end Go.Proofs.Ytokoallbhbgkkaa
