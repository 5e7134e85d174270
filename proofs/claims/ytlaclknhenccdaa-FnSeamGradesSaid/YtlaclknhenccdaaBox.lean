/- A variable of the law's own keeps what it holds. Nothing of the program stands here. -/
import Derived.Test.YtlaclknhenccdaaBase
namespace Go.Proofs.Ytlaclknhenccdaa
open Go.RowKit
theorem kept_cell {w w' : World} {a : Addr} {v : Value} (h : w.cell? a = some v) (hb : Below w.heap.size w w') : w'.cell? a = some v := by rw [hb.cell (block_lt_of_cell h)]; exact h
theorem newB (w : World) (o : Obj) : Below w.heap.size w (w.alloc o) := (Below.refl _ _).alloc (Nat.le_refl _) _
theorem own_slice {B : Nat} {w : World} {e : TypeId} {v : Value} {xs : List Int} (h : Own B w e v xs) : ∃ a c, v = .slice a xs.length c := by
  rcases h.cases with ⟨hv, hL⟩ | ⟨g, cap, hv⟩
  · exact ⟨none, 0, by rw [hv, hL]; rfl⟩
  · exact ⟨_, cap, hv⟩
end Go.Proofs.Ytlaclknhenccdaa
