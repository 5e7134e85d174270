/- Foot: the type, how it lies in cells, and what the functions on it and on lists of it compute. (Printed by wip/genflat.py.) -/
import Derived.Test.YtaeinllbjkjhlaaGreatDoorRows
import Derived.Test.YtaeinllbjkjhlaaGreatDoorBase
namespace Go.Proofs.YtaeinllbjkjhlaaGreatDoor
open Go.RowKit

@[ext] structure Foot where
  Length : Int
  Ball : Int
  Instep : Int
  Heel : Int
deriving DecidableEq

instance : Flat Foot := ⟨4, by decide, fun s => [.int .i64 s.Length, .int .i64 s.Ball, .int .i64 s.Instep, .int .i64 s.Heel], fun _ => rfl, fun x u h => by simp at h; rcases h with h | h | h | h <;> subst h <;> rfl, fun s => (-9223372036854775808 ≤ s.Length ∧ s.Length ≤ 9223372036854775807) ∧ (-9223372036854775808 ≤ s.Ball ∧ s.Ball ≤ 9223372036854775807) ∧ (-9223372036854775808 ≤ s.Instep ∧ s.Instep ≤ 9223372036854775807) ∧ (-9223372036854775808 ≤ s.Heel ∧ s.Heel ≤ 9223372036854775807)⟩

theorem At.foot {w : World} {b off : Nat} {xs : List Foot} (h : At w (some ⟨b, off, none⟩) xs) {i : Nat} (hi : i < xs.length) :
    w.cell? ⟨b, off + i * 4, none⟩ = some (.int .i64 xs[i].Length) ∧ w.cell? ⟨b, off + i * 4 + 1, none⟩ = some (.int .i64 xs[i].Ball) ∧ w.cell? ⟨b, off + i * 4 + 2, none⟩ = some (.int .i64 xs[i].Instep) ∧ w.cell? ⟨b, off + i * 4 + 3, none⟩ = some (.int .i64 xs[i].Heel) := by
  obtain ⟨cs, hr, hc⟩ := h.elem hi
  have h0 := hc 0 (.int .i64 xs[i].Length) (by rw [hr]; rfl)
  have h1 := hc 1 (.int .i64 xs[i].Ball) (by rw [hr]; rfl)
  have h2 := hc 2 (.int .i64 xs[i].Instep) (by rw [hr]; rfl)
  have h3 := hc 3 (.int .i64 xs[i].Heel) (by rw [hr]; rfl)
  exact ⟨by simpa [Rep.k, Flat.k] using h0, by simpa [Rep.k, Flat.k] using h1, by simpa [Rep.k, Flat.k] using h2, by simpa [Rep.k, Flat.k] using h3⟩

theorem foot_eq (p q : Foot) : (p == q) = (p.Length == q.Length && p.Ball == q.Ball && p.Instep == q.Instep && p.Heel == q.Heel) := by
  cases p; cases q; rw [Bool.eq_iff_iff]; simp [Foot.mk.injEq, and_assoc]

theorem foot_neq (length1 length2 : Int) (ball1 ball2 : Int) (instep1 instep2 : Int) (heel1 heel2 : Int) (w : World) : (binOp .neq 25 (.agg #[.int .i64 length1, .int .i64 ball1, .int .i64 instep1, .int .i64 heel1]) (.agg #[.int .i64 length2, .int .i64 ball2, .int .i64 instep2, .int .i64 heel2])).run Tryz.prog w = .ok (.bool (!((⟨length1, ball1, instep1, heel1⟩ : Foot) == ⟨length2, ball2, instep2, heel2⟩))) w := by
  by_cases h0 : length1 = length2 <;> by_cases h1 : ball1 = ball2 <;> by_cases h2 : instep1 = instep2 <;> by_cases h3 : heel1 = heel2 <;> simp [go_sem, h0, h1, h2, h3, foot_eq]
theorem foot_eql (length1 length2 : Int) (ball1 ball2 : Int) (instep1 instep2 : Int) (heel1 heel2 : Int) (w : World) : (binOp .eql 25 (.agg #[.int .i64 length1, .int .i64 ball1, .int .i64 instep1, .int .i64 heel1]) (.agg #[.int .i64 length2, .int .i64 ball2, .int .i64 instep2, .int .i64 heel2])).run Tryz.prog w = .ok (.bool (((⟨length1, ball1, instep1, heel1⟩ : Foot) == ⟨length2, ball2, instep2, heel2⟩))) w := by
  by_cases h0 : length1 = length2 <;> by_cases h1 : ball1 = ball2 <;> by_cases h2 : instep1 = instep2 <;> by_cases h3 : heel1 = heel2 <;> simp [go_sem, h0, h1, h2, h3, foot_eq]

/-- The cells of a new variable. -/
theorem newFoot_cells (w : World) (t : TypeId) (s : Foot) : (w.alloc (.cells #[.int .i64 s.Length, .int .i64 s.Ball, .int .i64 s.Instep, .int .i64 s.Heel] t)).cell? ⟨w.heap.size, 0, none⟩ = some (.int .i64 s.Length) ∧ (w.alloc (.cells #[.int .i64 s.Length, .int .i64 s.Ball, .int .i64 s.Instep, .int .i64 s.Heel] t)).cell? ⟨w.heap.size, 1, none⟩ = some (.int .i64 s.Ball) ∧ (w.alloc (.cells #[.int .i64 s.Length, .int .i64 s.Ball, .int .i64 s.Instep, .int .i64 s.Heel] t)).cell? ⟨w.heap.size, 2, none⟩ = some (.int .i64 s.Instep) ∧ (w.alloc (.cells #[.int .i64 s.Length, .int .i64 s.Ball, .int .i64 s.Instep, .int .i64 s.Heel] t)).cell? ⟨w.heap.size, 3, none⟩ = some (.int .i64 s.Heel) := by
  refine ⟨?_, ?_, ?_, ?_⟩ <;> go_simp

theorem infoFoot : (Tryz.prog.info? 25).map (fun i => (i.zero, i.size, i.bytes)) = some (some (.agg #[.int .i64 0, .int .i64 0, .int .i64 0, .int .i64 0]), 4, 32) := by kernel_rfl

end Go.Proofs.YtaeinllbjkjhlaaGreatDoor
