/- Strip: the type, how it lies in cells, and what the functions on it and on lists of it compute. (Printed by wip/genflat.py.) -/
import Derived.Test.YthapcljhokfkmaaDoorRows
import Derived.Test.YthapcljhokfkmaaDoorBase
namespace Go.Proofs.YthapcljhokfkmaaDoor
open Go.RowKit

@[ext] structure Strip where
  Length : Int
  Allow : Int
  Left : Int
  Right : Int
deriving DecidableEq

instance : Flat Strip := ⟨4, by decide, fun s => [.int .i64 s.Length, .int .i64 s.Allow, .int .i64 s.Left, .int .i64 s.Right], fun _ => rfl, fun x u h => by simp at h; rcases h with h | h | h | h <;> subst h <;> rfl, fun s => (-9223372036854775808 ≤ s.Length ∧ s.Length ≤ 9223372036854775807) ∧ (-9223372036854775808 ≤ s.Allow ∧ s.Allow ≤ 9223372036854775807) ∧ (-9223372036854775808 ≤ s.Left ∧ s.Left ≤ 9223372036854775807) ∧ (-9223372036854775808 ≤ s.Right ∧ s.Right ≤ 9223372036854775807)⟩

theorem At.strip {w : World} {b off : Nat} {xs : List Strip} (h : At w (some ⟨b, off, none⟩) xs) {i : Nat} (hi : i < xs.length) :
    w.cell? ⟨b, off + i * 4, none⟩ = some (.int .i64 xs[i].Length) ∧ w.cell? ⟨b, off + i * 4 + 1, none⟩ = some (.int .i64 xs[i].Allow) ∧ w.cell? ⟨b, off + i * 4 + 2, none⟩ = some (.int .i64 xs[i].Left) ∧ w.cell? ⟨b, off + i * 4 + 3, none⟩ = some (.int .i64 xs[i].Right) := by
  obtain ⟨cs, hr, hc⟩ := h.elem hi
  have h0 := hc 0 (.int .i64 xs[i].Length) (by rw [hr]; rfl)
  have h1 := hc 1 (.int .i64 xs[i].Allow) (by rw [hr]; rfl)
  have h2 := hc 2 (.int .i64 xs[i].Left) (by rw [hr]; rfl)
  have h3 := hc 3 (.int .i64 xs[i].Right) (by rw [hr]; rfl)
  exact ⟨by simpa [Rep.k, Flat.k] using h0, by simpa [Rep.k, Flat.k] using h1, by simpa [Rep.k, Flat.k] using h2, by simpa [Rep.k, Flat.k] using h3⟩

theorem strip_eq (p q : Strip) : (p == q) = (p.Length == q.Length && p.Allow == q.Allow && p.Left == q.Left && p.Right == q.Right) := by
  cases p; cases q; rw [Bool.eq_iff_iff]; simp [Strip.mk.injEq, and_assoc]

theorem strip_neq (length1 length2 : Int) (allow1 allow2 : Int) (left1 left2 : Int) (right1 right2 : Int) (w : World) : (binOp .neq 25 (.agg #[.int .i64 length1, .int .i64 allow1, .int .i64 left1, .int .i64 right1]) (.agg #[.int .i64 length2, .int .i64 allow2, .int .i64 left2, .int .i64 right2])).run Tryd.prog w = .ok (.bool (!((⟨length1, allow1, left1, right1⟩ : Strip) == ⟨length2, allow2, left2, right2⟩))) w := by
  by_cases h0 : length1 = length2 <;> by_cases h1 : allow1 = allow2 <;> by_cases h2 : left1 = left2 <;> by_cases h3 : right1 = right2 <;> simp [go_sem, h0, h1, h2, h3, strip_eq]
theorem strip_eql (length1 length2 : Int) (allow1 allow2 : Int) (left1 left2 : Int) (right1 right2 : Int) (w : World) : (binOp .eql 25 (.agg #[.int .i64 length1, .int .i64 allow1, .int .i64 left1, .int .i64 right1]) (.agg #[.int .i64 length2, .int .i64 allow2, .int .i64 left2, .int .i64 right2])).run Tryd.prog w = .ok (.bool (((⟨length1, allow1, left1, right1⟩ : Strip) == ⟨length2, allow2, left2, right2⟩))) w := by
  by_cases h0 : length1 = length2 <;> by_cases h1 : allow1 = allow2 <;> by_cases h2 : left1 = left2 <;> by_cases h3 : right1 = right2 <;> simp [go_sem, h0, h1, h2, h3, strip_eq]

/-- The cells of a new variable. -/
theorem newStrip_cells (w : World) (t : TypeId) (s : Strip) : (w.alloc (.cells #[.int .i64 s.Length, .int .i64 s.Allow, .int .i64 s.Left, .int .i64 s.Right] t)).cell? ⟨w.heap.size, 0, none⟩ = some (.int .i64 s.Length) ∧ (w.alloc (.cells #[.int .i64 s.Length, .int .i64 s.Allow, .int .i64 s.Left, .int .i64 s.Right] t)).cell? ⟨w.heap.size, 1, none⟩ = some (.int .i64 s.Allow) ∧ (w.alloc (.cells #[.int .i64 s.Length, .int .i64 s.Allow, .int .i64 s.Left, .int .i64 s.Right] t)).cell? ⟨w.heap.size, 2, none⟩ = some (.int .i64 s.Left) ∧ (w.alloc (.cells #[.int .i64 s.Length, .int .i64 s.Allow, .int .i64 s.Left, .int .i64 s.Right] t)).cell? ⟨w.heap.size, 3, none⟩ = some (.int .i64 s.Right) := by
  refine ⟨?_, ?_, ?_, ?_⟩ <;> go_simp

theorem toStrip_any (length : Int) (allow : Int) (left : Int) (right : Int) (w : World) :
    Calls Tryd.prog 9 #[.agg #[.int .i64 length, .int .i64 allow, .int .i64 left, .int .i64 right]] w fun e w' => e = .returned (.agg #[.int .i64 length, .int .i64 allow, .int .i64 left, .int .i64 right]) ∧ Below w.heap.size w w' := by
  go_enter Tryd.func9, Tryd.ntmps9
  go_wp2
  refine bodyPost_ret (v := .agg #[.int .i64 length, .int .i64 allow, .int .i64 left, .int .i64 right]) (by simp [results, Tryd.results9, go_sem]) rfl ⟨rfl, ?_⟩
  exact (((Below.refl _ _).alloc (by simp) _).alloc (by simp) _).alloc (by simp; omega) _

theorem eqStrip_any (p q : Strip) (w : World) :
    Calls Tryd.prog 18 #[.agg #[.int .i64 p.Length, .int .i64 p.Allow, .int .i64 p.Left, .int .i64 p.Right], .agg #[.int .i64 q.Length, .int .i64 q.Allow, .int .i64 q.Left, .int .i64 q.Right]] w fun e w' => e = .returned (.bool (p == q)) ∧ Below w.heap.size w w' := by
  rw [strip_eq]
  go_enter Tryd.func18, Tryd.ntmps18
  go_wp2
  all_goals go_ret
  all_goals refine ⟨?_, ((Below.refl _ _).alloc (by simp) _).alloc (by simp) _⟩
  all_goals simp_all

theorem eqStrip_same (p : Strip) (w : World) :
    Calls Tryd.prog 18 #[.agg #[.int .i64 p.Length, .int .i64 p.Allow, .int .i64 p.Left, .int .i64 p.Right], .agg #[.int .i64 p.Length, .int .i64 p.Allow, .int .i64 p.Left, .int .i64 p.Right]] w fun e w' => e = .returned (.bool true) ∧ Below w.heap.size w w' := by
  simpa using eqStrip_any p p w

theorem infoStrip : (Tryd.prog.info? 25).map (fun i => (i.zero, i.size, i.bytes)) = some (some (.agg #[.int .i64 0, .int .i64 0, .int .i64 0, .int .i64 0]), 4, 32) := by kernel_rfl

theorem opens_lstrip : Opens Tryd.prog 23 Strip := by
  intro H enc w fuel cs x h
  obtain ⟨hl, n, hf⟩ := trod_fields Tryd.underlying23 (by kernel_rfl) h
  match cs, hl with
  | [v0, v1, v2, v3], _ =>
    obtain ⟨y0, g0⟩ := hf 0 _ v0 rfl rfl
    obtain ⟨z0, r0, k0⟩ := opens_int Tryd.underlying2 g0
    obtain ⟨y1, g1⟩ := hf 1 _ v1 rfl rfl
    obtain ⟨z1, r1, k1⟩ := opens_int Tryd.underlying2 g1
    obtain ⟨y2, g2⟩ := hf 2 _ v2 rfl rfl
    obtain ⟨z2, r2, k2⟩ := opens_int Tryd.underlying2 g2
    obtain ⟨y3, g3⟩ := hf 3 _ v3 rfl rfl
    obtain ⟨z3, r3, k3⟩ := opens_int Tryd.underlying2 g3
    cases r0; cases r1; cases r2; cases r3
    exact ⟨⟨z0, z1, z2, z3⟩, rfl, k0, k1, k2, k3⟩
set_option maxRecDepth 100000 in
theorem open_lstrip {H : Type} {enc : TypeId × Value → H} {w : World} {r : Reach} {b0 : Nat} {v : Value} {d : DataW H} {p : List MemPlace} (hv : Value.okWide Tryd.prog w r b0 23 v) (h : DataW.Trod enc Tryd.prog w 0 (fun _ => true) true 23 v d p) :
    ∃ x : Strip, v = .agg #[.int .i64 x.Length, .int .i64 x.Allow, .int .i64 x.Left, .int .i64 x.Right] ∧ Rep.ok x := by
  obtain ⟨cs, rfl, _⟩ := Go.WideShapes.okWide_struct Tryd.underlying23 hv
  obtain ⟨fuel, hf⟩ := h
  obtain ⟨x, hr, hk⟩ := opens_lstrip hf
  have hr' : cs.toList = Flat.el x := hr
  have : cs = (Flat.el x).toArray := by rw [← hr']
  subst this
  exact ⟨x, rfl, hk⟩
end Go.Proofs.YthapcljhokfkmaaDoor
