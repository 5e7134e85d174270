/- Last: the type, how it lies in cells, and how it is read. (Printed by wip/genflat.py.) -/
import Derived.Test.YtaeinllbjkjhlaaGreatDoorRows
import Derived.Test.YtaeinllbjkjhlaaGreatDoorBase
namespace Go.Proofs.YtaeinllbjkjhlaaGreatDoor
open Go.RowKit

@[ext] structure Last where
  Name : ByteArray
  Length : Int
  Ball : Int
  Instep : Int
  Heel : Int
  Pitch : Int
deriving DecidableEq

instance : Flat Last := ⟨6, by decide, fun s => [.string s.Name, .int .i64 s.Length, .int .i64 s.Ball, .int .i64 s.Instep, .int .i64 s.Heel, .int .i64 s.Pitch], fun _ => rfl, fun x u h => by simp at h; rcases h with h | h | h | h | h | h <;> subst h <;> rfl, fun s => s.Name.size ≤ 9223372036854775807 ∧ (-9223372036854775808 ≤ s.Length ∧ s.Length ≤ 9223372036854775807) ∧ (-9223372036854775808 ≤ s.Ball ∧ s.Ball ≤ 9223372036854775807) ∧ (-9223372036854775808 ≤ s.Instep ∧ s.Instep ≤ 9223372036854775807) ∧ (-9223372036854775808 ≤ s.Heel ∧ s.Heel ≤ 9223372036854775807) ∧ (-9223372036854775808 ≤ s.Pitch ∧ s.Pitch ≤ 9223372036854775807)⟩

theorem At.last {w : World} {b off : Nat} {xs : List Last} (h : At w (some ⟨b, off, none⟩) xs) {i : Nat} (hi : i < xs.length) :
    w.cell? ⟨b, off + i * 6, none⟩ = some (.string xs[i].Name) ∧ w.cell? ⟨b, off + i * 6 + 1, none⟩ = some (.int .i64 xs[i].Length) ∧ w.cell? ⟨b, off + i * 6 + 2, none⟩ = some (.int .i64 xs[i].Ball) ∧ w.cell? ⟨b, off + i * 6 + 3, none⟩ = some (.int .i64 xs[i].Instep) ∧ w.cell? ⟨b, off + i * 6 + 4, none⟩ = some (.int .i64 xs[i].Heel) ∧ w.cell? ⟨b, off + i * 6 + 5, none⟩ = some (.int .i64 xs[i].Pitch) := by
  obtain ⟨cs, hr, hc⟩ := h.elem hi
  have h0 := hc 0 (.string xs[i].Name) (by rw [hr]; rfl)
  have h1 := hc 1 (.int .i64 xs[i].Length) (by rw [hr]; rfl)
  have h2 := hc 2 (.int .i64 xs[i].Ball) (by rw [hr]; rfl)
  have h3 := hc 3 (.int .i64 xs[i].Instep) (by rw [hr]; rfl)
  have h4 := hc 4 (.int .i64 xs[i].Heel) (by rw [hr]; rfl)
  have h5 := hc 5 (.int .i64 xs[i].Pitch) (by rw [hr]; rfl)
  exact ⟨by simpa [Rep.k, Flat.k] using h0, by simpa [Rep.k, Flat.k] using h1, by simpa [Rep.k, Flat.k] using h2, by simpa [Rep.k, Flat.k] using h3, by simpa [Rep.k, Flat.k] using h4, by simpa [Rep.k, Flat.k] using h5⟩

/-- The cells of a new variable. -/
theorem newLast_cells (w : World) (t : TypeId) (s : Last) : (w.alloc (.cells #[.string s.Name, .int .i64 s.Length, .int .i64 s.Ball, .int .i64 s.Instep, .int .i64 s.Heel, .int .i64 s.Pitch] t)).cell? ⟨w.heap.size, 0, none⟩ = some (.string s.Name) ∧ (w.alloc (.cells #[.string s.Name, .int .i64 s.Length, .int .i64 s.Ball, .int .i64 s.Instep, .int .i64 s.Heel, .int .i64 s.Pitch] t)).cell? ⟨w.heap.size, 1, none⟩ = some (.int .i64 s.Length) ∧ (w.alloc (.cells #[.string s.Name, .int .i64 s.Length, .int .i64 s.Ball, .int .i64 s.Instep, .int .i64 s.Heel, .int .i64 s.Pitch] t)).cell? ⟨w.heap.size, 2, none⟩ = some (.int .i64 s.Ball) ∧ (w.alloc (.cells #[.string s.Name, .int .i64 s.Length, .int .i64 s.Ball, .int .i64 s.Instep, .int .i64 s.Heel, .int .i64 s.Pitch] t)).cell? ⟨w.heap.size, 3, none⟩ = some (.int .i64 s.Instep) ∧ (w.alloc (.cells #[.string s.Name, .int .i64 s.Length, .int .i64 s.Ball, .int .i64 s.Instep, .int .i64 s.Heel, .int .i64 s.Pitch] t)).cell? ⟨w.heap.size, 4, none⟩ = some (.int .i64 s.Heel) ∧ (w.alloc (.cells #[.string s.Name, .int .i64 s.Length, .int .i64 s.Ball, .int .i64 s.Instep, .int .i64 s.Heel, .int .i64 s.Pitch] t)).cell? ⟨w.heap.size, 5, none⟩ = some (.int .i64 s.Pitch) := by
  refine ⟨?_, ?_, ?_, ?_, ?_, ?_⟩ <;> go_simp

theorem infoLast : (Tryz.prog.info? 30).map (fun i => (i.zero, i.size, i.bytes)) = some (some (.agg #[.string ByteArray.empty, .int .i64 0, .int .i64 0, .int .i64 0, .int .i64 0, .int .i64 0]), 6, 56) := by kernel_rfl
end Go.Proofs.YtaeinllbjkjhlaaGreatDoor
