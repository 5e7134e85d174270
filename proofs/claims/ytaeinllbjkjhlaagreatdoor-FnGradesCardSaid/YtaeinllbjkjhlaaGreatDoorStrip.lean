/- Strip: the type, how it lies in cells, and what the functions on it and on lists of it compute. (Printed by wip/genflat.py.) -/
import Derived.Test.YtaeinllbjkjhlaaGreatDoorRows
import Derived.Test.YtaeinllbjkjhlaaGreatDoorBase
namespace Go.Proofs.YtaeinllbjkjhlaaGreatDoor
open Go.RowKit

@[ext] structure Strip where
  Length : Int
  Allow : Int
  Left : Int
  Right : Int
deriving DecidableEq

instance : Flat Strip := ⟨4, by decide, fun s => [.int .i64 s.Length, .int .i64 s.Allow, .int .i64 s.Left, .int .i64 s.Right], fun _ => rfl, fun x u h => by simp at h; rcases h with h | h | h | h <;> subst h <;> rfl, fun s => (-9223372036854775808 ≤ s.Length ∧ s.Length ≤ 9223372036854775807) ∧ (-9223372036854775808 ≤ s.Allow ∧ s.Allow ≤ 9223372036854775807) ∧ (-9223372036854775808 ≤ s.Left ∧ s.Left ≤ 9223372036854775807) ∧ (-9223372036854775808 ≤ s.Right ∧ s.Right ≤ 9223372036854775807)⟩

theorem At.strip {w : World} {b off : Nat} {xs : List Strip} (h : At w (some ⟨b, off, none⟩) xs) {i : Nat} (hi : i < xs.length) :
    w.cell? ⟨b, off + i * 4, none⟩ = some (.int .i64 xs[i].Length) ∧ w.cell? ⟨b, off + i * 4 + 1, none⟩ = some (.int .i64 xs[i].Allow) ∧ w.cell? ⟨b, off + i * 4 + 2, none⟩ = some (.int .i64 xs[i].Left) ∧ w.cell? ⟨b, off + i * 4 + 3, none⟩ = some (.int .i64 xs[i].Right) := by
  obtain ⟨cs, hr, hc⟩ := h.elem hi
  have h0 := hc 0 (.int .i64 xs[i].Length) (by rw [hr]; rfl)
  have h1 := hc 1 (.int .i64 xs[i].Allow) (by rw [hr]; rfl)
  have h2 := hc 2 (.int .i64 xs[i].Left) (by rw [hr]; rfl)
  have h3 := hc 3 (.int .i64 xs[i].Right) (by rw [hr]; rfl)
  exact ⟨by simpa [Rep.k, Flat.k] using h0, by simpa [Rep.k, Flat.k] using h1, by simpa [Rep.k, Flat.k] using h2, by simpa [Rep.k, Flat.k] using h3⟩

theorem strip_eq (p q : Strip) : (p == q) = (p.Length == q.Length && p.Allow == q.Allow && p.Left == q.Left && p.Right == q.Right) := by
  cases p; cases q; rw [Bool.eq_iff_iff]; simp [Strip.mk.injEq, and_assoc]


/-- The cells of a new variable. -/
theorem newStrip_cells (w : World) (t : TypeId) (s : Strip) : (w.alloc (.cells #[.int .i64 s.Length, .int .i64 s.Allow, .int .i64 s.Left, .int .i64 s.Right] t)).cell? ⟨w.heap.size, 0, none⟩ = some (.int .i64 s.Length) ∧ (w.alloc (.cells #[.int .i64 s.Length, .int .i64 s.Allow, .int .i64 s.Left, .int .i64 s.Right] t)).cell? ⟨w.heap.size, 1, none⟩ = some (.int .i64 s.Allow) ∧ (w.alloc (.cells #[.int .i64 s.Length, .int .i64 s.Allow, .int .i64 s.Left, .int .i64 s.Right] t)).cell? ⟨w.heap.size, 2, none⟩ = some (.int .i64 s.Left) ∧ (w.alloc (.cells #[.int .i64 s.Length, .int .i64 s.Allow, .int .i64 s.Left, .int .i64 s.Right] t)).cell? ⟨w.heap.size, 3, none⟩ = some (.int .i64 s.Right) := by
  refine ⟨?_, ?_, ?_, ?_⟩ <;> go_simp

end Go.Proofs.YtaeinllbjkjhlaaGreatDoor
