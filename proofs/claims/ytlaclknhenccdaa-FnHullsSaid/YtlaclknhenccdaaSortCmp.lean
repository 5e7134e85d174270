/- Chapter 7, hulls: the comparison of two spots that the program sorts by. -/
import Derived.Shelf.SlSortCmp.WholeK
import Derived.StillTailTactics
import Derived.Lib.Small
import Derived.Test.YtlaclknhenccdaaL07w
namespace Go.Proofs.Ytlaclknhenccdaa
open Go.RowKit Go.Sort

theorem isNaN_c (x : Int) (w : World) : Calls Try.prog 164 #[.int .i64 x] w fun e w' => e = .returned (.bool false) ∧ w' = w := by
  go_enter Try.func164, Try.ntmps164
  go_wp2
  go_ret
  exact ⟨by simp, rfl⟩
set_option maxHeartbeats 1000000 in
theorem compare_c (x y : Int) (w : World) : Calls Try.prog 120 #[.int .i64 x, .int .i64 y] w fun e w' => e = .returned (.int .i64 (Lib.compareInt x y)) ∧ w' = w := by
  go_enter Try.func120, Try.ntmps120
  go_wp2_with (go_at_call 164; refine (isNaN_c _ _).mono ?_; rintro e w' ⟨rfl, hw⟩; rw [hw])
  all_goals (go_ret; refine ⟨?_, rfl⟩; unfold Lib.compareInt; (repeat' split) <;> first | rfl | (exfalso; omega))
theorem at_two (W : World) (x y : Int) : At (W.alloc (.cells #[.int .i64 x, .int .i64 y] 3)) (some ⟨W.heap.size, 0, none⟩) [x, y] := by
  refine Or.inr ⟨_, _, rfl, by simp, fun i hi => ?_⟩
  have hi2 : i < 2 := hi
  have hh : (W.alloc (.cells #[.int .i64 x, .int .i64 y] 3)).heap[W.heap.size]? = some (.cells #[.int .i64 x, .int .i64 y] 3) := by
    show (W.heap.push _)[_]? = _
    simp
  match i, hi2 with
  | 0, _ => exact ⟨_, rfl, fun j v hv => by
      match j, hv with
      | 0, hv => obtain rfl : Value.int .i64 x = v := Option.some.inj hv; unfold World.cell?; rw [hh]; rfl⟩
  | 1, _ => exact ⟨_, rfl, fun j v hv => by
      match j, hv with
      | 0, hv => obtain rfl : Value.int .i64 y = v := Option.some.inj hv; unfold World.cell?; rw [hh]; rfl⟩
/-- The first of two numbers that is not nought. -/
def orInt (a b : Int) : Int := if a ≠ 0 then a else b
set_option maxHeartbeats 1000000 in
theorem or_c (blk : Nat) (a b : Int) (w : World) (hx : At w (some ⟨blk, 0, none⟩) [a, b]) :
    Calls Try.prog 179 #[.slice (some ⟨blk, 0, none⟩) 2 2] w fun e w' => e = .returned (.int .i64 (orInt a b)) ∧ w' = w := by
  have c0 := hx.int (i := 0) (by simp)
  have c1 := hx.int (i := 1) (by simp)
  simp only [List.getElem_cons_zero, List.getElem_cons_succ, Nat.zero_add] at c0 c1
  clear hx
  go_enter Try.func179, Try.ntmps179
  go_wp2_with fail
  go_loop [8, 5] (fun i _ => ∃ k : Nat, k ≤ 2 ∧ i = .int .i64 k ∧ (0 < k → a = 0) ∧ (1 < k → b = 0)) (fun i _ => 2 - (intOf i).toNat)
  case atStart => exact ⟨0, by omega, rfl, by omega, by omega⟩
  case round =>
    obtain ⟨k, hk, rfl, ha, hb⟩ := hrel
    rcases (by omega : k = 0 ∨ k = 1 ∨ k = 2) with rfl | rfl | rfl
    · by_cases h : a = 0
      · go_wp2_with fail
        go_round
        case rel => exact ⟨1, by omega, rfl, by omega, by omega⟩
        case measure => simp [intOf]
      · go_wp2_with fail
        go_ret
        exact ⟨by simp [orInt, h], rfl⟩
    · have ha := ha (by omega)
      by_cases h : b = 0
      · go_wp2_with fail
        go_round
        case rel => exact ⟨2, by omega, rfl, by omega, by omega⟩
        case measure => simp [intOf]
      · go_wp2_with fail
        go_ret
        exact ⟨by simp [orInt, ha], rfl⟩
    · have ha := ha (by omega)
      have hb := hb (by omega)
      go_wp2_with fail
      go_ret
      exact ⟨by simp [orInt, ha, hb], rfl⟩
/-- The order of two spots: by X, then by Y. -/
def cmpSpot (p q : Spot) : Int := orInt (Lib.compareInt p.X q.X) (Lib.compareInt p.Y q.Y)
set_option maxRecDepth 100000 in
set_option maxHeartbeats 4000000 in
theorem closure_c (p q : Spot) (w : World) :
    Calls Try.prog 178 #[.agg #[.int .i64 p.X, .int .i64 p.Y], .agg #[.int .i64 q.X, .int .i64 q.Y]] w fun e w' => e = .returned (.int .i64 (cmpSpot p q)) ∧ ∃ n os', w' = grow (w.drewN n) os' := by
  have h1 := fun W => compare_c p.X q.X W
  have h2 := fun W => compare_c p.Y q.Y W
  unfold cmpSpot
  generalize Lib.compareInt p.X q.X = x at h1 ⊢
  generalize Lib.compareInt p.Y q.Y = y at h2 ⊢
  go_enter Try.func178, Try.ntmps178
  go_wp2_with fail
  go_still_tail 10, (by kernel_rfl)
  have hd : ∀ W : World, ({ heap := W.heap, tape := W.tape, drawn := W.drawn + 1, os := W.os, output := W.output } : World) = W.drew := fun _ => rfl
  rw [hd]
  clear hd
  repeat still_step
  still_call (h1 _)
  repeat still_step
  still_call (h2 _)
  repeat still_step
  refine wpStill_nil ?_
  generalize hW : World.drew _ = W
  have hor := or_c W.heap.size x y _ (at_two W x y)
  go_wp2_with (go_at_call 179; refine hor.mono ?_; rintro e w' ⟨rfl, hw⟩; rw [hw])
  go_ret
  subst hW
  refine ⟨rfl, 1, (#[.cells #[.int .i64 p.X, .int .i64 p.Y] 83] ++ #[.cells #[.int .i64 q.X, .int .i64 q.Y] 83]) ++ #[.cells #[.int .i64 x, .int .i64 y] 3], ?_⟩
  have e : ∀ (w : World) os, (grow w os).drew = grow w.drew os := fun _ _ => rfl
  rw [alloc_eq_grow, alloc_eq_grow, alloc_eq_grow, grow_grow, e, grow_grow]
  rfl
end Go.Proofs.Ytlaclknhenccdaa
