/- Last: the type, how it lies in cells, and how it is read. (Printed by wip/genflat.py.) -/
import Derived.Test.YtokoallbhbgkkaaRows
import Derived.Test.YtokoallbhbgkkaaBase
namespace Go.Proofs.Ytokoallbhbgkkaa
open Go.RowKit

@[ext] structure Last where
  Name : ByteArray
  Length : Int
  Ball : Int
  Instep : Int
  Heel : Int
  Pitch : Int
deriving DecidableEq

instance : Flat Last := ⟨6, by decide, fun s => [.string s.Name, .int .i64 s.Length, .int .i64 s.Ball, .int .i64 s.Instep, .int .i64 s.Heel, .int .i64 s.Pitch], fun _ => rfl, fun x u h => by simp at h; rcases h with h | h | h | h | h | h <;> subst h <;> rfl, fun s => s.Name.size ≤ 9223372036854775807 ∧ (-9223372036854775808 ≤ s.Length ∧ s.Length ≤ 9223372036854775807) ∧ (-9223372036854775808 ≤ s.Ball ∧ s.Ball ≤ 9223372036854775807) ∧ (-9223372036854775808 ≤ s.Instep ∧ s.Instep ≤ 9223372036854775807) ∧ (-9223372036854775808 ≤ s.Heel ∧ s.Heel ≤ 9223372036854775807) ∧ (-9223372036854775808 ≤ s.Pitch ∧ s.Pitch ≤ 9223372036854775807)⟩

theorem At.last {w : World} {b off : Nat} {xs : List Last} (h : At w (some ⟨b, off, none⟩) xs) {i : Nat} (hi : i < xs.length) :
    w.cell? ⟨b, off + i * 6, none⟩ = some (.string xs[i].Name) ∧ w.cell? ⟨b, off + i * 6 + 1, none⟩ = some (.int .i64 xs[i].Length) ∧ w.cell? ⟨b, off + i * 6 + 2, none⟩ = some (.int .i64 xs[i].Ball) ∧ w.cell? ⟨b, off + i * 6 + 3, none⟩ = some (.int .i64 xs[i].Instep) ∧ w.cell? ⟨b, off + i * 6 + 4, none⟩ = some (.int .i64 xs[i].Heel) ∧ w.cell? ⟨b, off + i * 6 + 5, none⟩ = some (.int .i64 xs[i].Pitch) := by
  obtain ⟨cs, hr, hc⟩ := h.elem hi
  have h0 := hc 0 (.string xs[i].Name) (by rw [hr]; rfl)
  have h1 := hc 1 (.int .i64 xs[i].Length) (by rw [hr]; rfl)
  have h2 := hc 2 (.int .i64 xs[i].Ball) (by rw [hr]; rfl)
  have h3 := hc 3 (.int .i64 xs[i].Instep) (by rw [hr]; rfl)
  have h4 := hc 4 (.int .i64 xs[i].Heel) (by rw [hr]; rfl)
  have h5 := hc 5 (.int .i64 xs[i].Pitch) (by rw [hr]; rfl)
  exact ⟨by simpa [Rep.k, Flat.k] using h0, by simpa [Rep.k, Flat.k] using h1, by simpa [Rep.k, Flat.k] using h2, by simpa [Rep.k, Flat.k] using h3, by simpa [Rep.k, Flat.k] using h4, by simpa [Rep.k, Flat.k] using h5⟩

/-- The cells of a new variable. -/
theorem newLast_cells (w : World) (t : TypeId) (s : Last) : (w.alloc (.cells #[.string s.Name, .int .i64 s.Length, .int .i64 s.Ball, .int .i64 s.Instep, .int .i64 s.Heel, .int .i64 s.Pitch] t)).cell? ⟨w.heap.size, 0, none⟩ = some (.string s.Name) ∧ (w.alloc (.cells #[.string s.Name, .int .i64 s.Length, .int .i64 s.Ball, .int .i64 s.Instep, .int .i64 s.Heel, .int .i64 s.Pitch] t)).cell? ⟨w.heap.size, 1, none⟩ = some (.int .i64 s.Length) ∧ (w.alloc (.cells #[.string s.Name, .int .i64 s.Length, .int .i64 s.Ball, .int .i64 s.Instep, .int .i64 s.Heel, .int .i64 s.Pitch] t)).cell? ⟨w.heap.size, 2, none⟩ = some (.int .i64 s.Ball) ∧ (w.alloc (.cells #[.string s.Name, .int .i64 s.Length, .int .i64 s.Ball, .int .i64 s.Instep, .int .i64 s.Heel, .int .i64 s.Pitch] t)).cell? ⟨w.heap.size, 3, none⟩ = some (.int .i64 s.Instep) ∧ (w.alloc (.cells #[.string s.Name, .int .i64 s.Length, .int .i64 s.Ball, .int .i64 s.Instep, .int .i64 s.Heel, .int .i64 s.Pitch] t)).cell? ⟨w.heap.size, 4, none⟩ = some (.int .i64 s.Heel) ∧ (w.alloc (.cells #[.string s.Name, .int .i64 s.Length, .int .i64 s.Ball, .int .i64 s.Instep, .int .i64 s.Heel, .int .i64 s.Pitch] t)).cell? ⟨w.heap.size, 5, none⟩ = some (.int .i64 s.Pitch) := by
  refine ⟨?_, ?_, ?_, ?_, ?_, ?_⟩ <;> go_simp

theorem toLast_any (name : ByteArray) (length : Int) (ball : Int) (instep : Int) (heel : Int) (pitch : Int) (w : World) :
    Calls Try.prog 18 #[.agg #[.string name, .int .i64 length, .int .i64 ball, .int .i64 instep, .int .i64 heel, .int .i64 pitch]] w fun e w' => e = .returned (.agg #[.string name, .int .i64 length, .int .i64 ball, .int .i64 instep, .int .i64 heel, .int .i64 pitch]) ∧ Below w.heap.size w w' := by
  go_enter Try.func18, Try.ntmps18
  go_wp2
  refine bodyPost_ret (v := .agg #[.string name, .int .i64 length, .int .i64 ball, .int .i64 instep, .int .i64 heel, .int .i64 pitch]) (by simp [results, Try.results18, go_sem]) rfl ⟨rfl, ?_⟩
  exact (((Below.refl _ _).alloc (by simp) _).alloc (by simp) _).alloc (by simp; omega) _

theorem infoLast : (Try.prog.info? 37).map (fun i => (i.zero, i.size, i.bytes)) = some (some (.agg #[.string ByteArray.empty, .int .i64 0, .int .i64 0, .int .i64 0, .int .i64 0, .int .i64 0]), 6, 56) := by kernel_rfl
theorem opens_llast : Opens Try.prog 30 Last := by
  intro H enc w fuel cs x h
  obtain ⟨hl, n, hf⟩ := trod_fields Try.underlying30 (by kernel_rfl) h
  match cs, hl with
  | [v0, v1, v2, v3, v4, v5], _ =>
    obtain ⟨y0, g0⟩ := hf 0 _ v0 rfl rfl
    obtain ⟨z0, r0, k0⟩ := opens_string Try.underlying9 g0
    obtain ⟨y1, g1⟩ := hf 1 _ v1 rfl rfl
    obtain ⟨z1, r1, k1⟩ := opens_int Try.underlying2 g1
    obtain ⟨y2, g2⟩ := hf 2 _ v2 rfl rfl
    obtain ⟨z2, r2, k2⟩ := opens_int Try.underlying2 g2
    obtain ⟨y3, g3⟩ := hf 3 _ v3 rfl rfl
    obtain ⟨z3, r3, k3⟩ := opens_int Try.underlying2 g3
    obtain ⟨y4, g4⟩ := hf 4 _ v4 rfl rfl
    obtain ⟨z4, r4, k4⟩ := opens_int Try.underlying2 g4
    obtain ⟨y5, g5⟩ := hf 5 _ v5 rfl rfl
    obtain ⟨z5, r5, k5⟩ := opens_int Try.underlying2 g5
    cases r0; cases r1; cases r2; cases r3; cases r4; cases r5
    exact ⟨⟨z0, z1, z2, z3, z4, z5⟩, rfl, k0, k1, k2, k3, k4, k5⟩
set_option maxRecDepth 100000 in
theorem open_llast {H : Type} {enc : TypeId × Value → H} {w : World} {r : Reach} {b0 : Nat} {v : Value} {d : DataW H} {p : List MemPlace} (hv : Value.okWide Try.prog w r b0 30 v) (h : DataW.Trod enc Try.prog w 0 (fun _ => true) true 30 v d p) :
    ∃ x : Last, v = .agg #[.string x.Name, .int .i64 x.Length, .int .i64 x.Ball, .int .i64 x.Instep, .int .i64 x.Heel, .int .i64 x.Pitch] ∧ Rep.ok x := by
  obtain ⟨cs, rfl, _⟩ := Go.WideShapes.okWide_struct Try.underlying30 hv
  obtain ⟨fuel, hf⟩ := h
  obtain ⟨x, hr, hk⟩ := opens_llast hf
  have hr' : cs.toList = Flat.el x := hr
  have : cs = (Flat.el x).toArray := by rw [← hr']
  subst this
  exact ⟨x, rfl, hk⟩
end Go.Proofs.Ytokoallbhbgkkaa
