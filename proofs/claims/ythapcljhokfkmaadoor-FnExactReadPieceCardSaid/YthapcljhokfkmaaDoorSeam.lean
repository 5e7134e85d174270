/- Seam: the type, how it lies in cells, and what the functions on it and on lists of it compute. (Printed by wip/genflat.py.) -/
import Derived.Test.YthapcljhokfkmaaDoorRows
import Derived.Test.YthapcljhokfkmaaDoorBase
namespace Go.Proofs.YthapcljhokfkmaaDoor
open Go.RowKit

@[ext] structure Seam where
  A : Int
  EdgeA : Int
  B : Int
  EdgeB : Int
deriving DecidableEq

instance : Flat Seam := ⟨4, by decide, fun s => [.int .i64 s.A, .int .i64 s.EdgeA, .int .i64 s.B, .int .i64 s.EdgeB], fun _ => rfl, fun x u h => by simp at h; rcases h with h | h | h | h <;> subst h <;> rfl, fun s => (-9223372036854775808 ≤ s.A ∧ s.A ≤ 9223372036854775807) ∧ (-9223372036854775808 ≤ s.EdgeA ∧ s.EdgeA ≤ 9223372036854775807) ∧ (-9223372036854775808 ≤ s.B ∧ s.B ≤ 9223372036854775807) ∧ (-9223372036854775808 ≤ s.EdgeB ∧ s.EdgeB ≤ 9223372036854775807)⟩

theorem At.seam {w : World} {b off : Nat} {xs : List Seam} (h : At w (some ⟨b, off, none⟩) xs) {i : Nat} (hi : i < xs.length) :
    w.cell? ⟨b, off + i * 4, none⟩ = some (.int .i64 xs[i].A) ∧ w.cell? ⟨b, off + i * 4 + 1, none⟩ = some (.int .i64 xs[i].EdgeA) ∧ w.cell? ⟨b, off + i * 4 + 2, none⟩ = some (.int .i64 xs[i].B) ∧ w.cell? ⟨b, off + i * 4 + 3, none⟩ = some (.int .i64 xs[i].EdgeB) := by
  obtain ⟨cs, hr, hc⟩ := h.elem hi
  have h0 := hc 0 (.int .i64 xs[i].A) (by rw [hr]; rfl)
  have h1 := hc 1 (.int .i64 xs[i].EdgeA) (by rw [hr]; rfl)
  have h2 := hc 2 (.int .i64 xs[i].B) (by rw [hr]; rfl)
  have h3 := hc 3 (.int .i64 xs[i].EdgeB) (by rw [hr]; rfl)
  exact ⟨by simpa [Rep.k, Flat.k] using h0, by simpa [Rep.k, Flat.k] using h1, by simpa [Rep.k, Flat.k] using h2, by simpa [Rep.k, Flat.k] using h3⟩

theorem seam_eq (p q : Seam) : (p == q) = (p.A == q.A && p.EdgeA == q.EdgeA && p.B == q.B && p.EdgeB == q.EdgeB) := by
  cases p; cases q; rw [Bool.eq_iff_iff]; simp [Seam.mk.injEq, and_assoc]


/-- The cells of a new variable. -/
theorem newSeam_cells (w : World) (t : TypeId) (s : Seam) : (w.alloc (.cells #[.int .i64 s.A, .int .i64 s.EdgeA, .int .i64 s.B, .int .i64 s.EdgeB] t)).cell? ⟨w.heap.size, 0, none⟩ = some (.int .i64 s.A) ∧ (w.alloc (.cells #[.int .i64 s.A, .int .i64 s.EdgeA, .int .i64 s.B, .int .i64 s.EdgeB] t)).cell? ⟨w.heap.size, 1, none⟩ = some (.int .i64 s.EdgeA) ∧ (w.alloc (.cells #[.int .i64 s.A, .int .i64 s.EdgeA, .int .i64 s.B, .int .i64 s.EdgeB] t)).cell? ⟨w.heap.size, 2, none⟩ = some (.int .i64 s.B) ∧ (w.alloc (.cells #[.int .i64 s.A, .int .i64 s.EdgeA, .int .i64 s.B, .int .i64 s.EdgeB] t)).cell? ⟨w.heap.size, 3, none⟩ = some (.int .i64 s.EdgeB) := by
  refine ⟨?_, ?_, ?_, ?_⟩ <;> go_simp

end Go.Proofs.YthapcljhokfkmaaDoor
