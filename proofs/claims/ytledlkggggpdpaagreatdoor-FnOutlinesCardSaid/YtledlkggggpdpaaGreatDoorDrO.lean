/- Chapter 7, outlines that are drawn. (Printed by wip/genDrO.py.) -/
import Derived.Test.YtledlkggggpdpaaGreatDoorSrcN
import Derived.Test.YtledlkggggpdpaaGreatDoorSep
import Derived.Test.YtledlkggggpdpaaGreatDoorSpot
import Derived.Test.YtledlkggggpdpaaGreatDoorL07
import Derived.Test.YtledlkggggpdpaaGreatDoorLists
import Derived.Test.YtledlkggggpdpaaGreatDoorFld
namespace Go.Proofs.YtledlkggggpdpaaGreatDoor
open Go.RowKit

/-- A spot as it is drawn. -/
def Drawn7 (p : Spot) : Prop := (0 ≤ p.X ∧ p.X ≤ 60) ∧ 0 ≤ p.Y ∧ p.Y ≤ 60
theorem Drawn7.ok {p : Spot} (h : Drawn7 p) : okSpot p = true := by unfold Drawn7 at h; rw [okSpot_iff]; omega
def All7 (xs : List Spot) : Prop := ∀ x ∈ xs, Drawn7 x
theorem All7.nil : All7 [] := fun x h => by simp at h
theorem All7.snoc {xs : List Spot} (h : All7 xs) {x : Spot} (hx : Drawn7 x) : All7 (xs ++ [x]) := fun y hy => by
  rcases List.mem_append.1 hy with hy | hy
  · exact h y hy
  · simp at hy; rw [hy]; exact hx
def spotC (x : Spot) : List OneCell := [⟨.int .i64 x.X, rfl⟩, ⟨.int .i64 x.Y, rfl⟩]
theorem spotC_cells {B : Nat} {w : World} {e : TypeId} {g n c : Nat} {x : Spot} (h : Own B w e (.slice (some ⟨g, 0, none⟩) n c) (spotC x)) :
    w.cell? ⟨g, 0, none⟩ = some (.int .i64 x.X) ∧ w.cell? ⟨g, 1, none⟩ = some (.int .i64 x.Y) :=
  ⟨own_one h (i := 0) (by show 0 < 2; omega), own_one h (i := 1) (by show 1 < 2; omega)⟩
set_option maxRecDepth 100000 in
set_option maxHeartbeats 4000000 in
theorem l07Draw_c (g M : Nat) (w : World) (hS : SrcAt w g (M + 40)) :
    Calls Tryz.prog 178 #[.pointer (some ⟨g, 0, none⟩)] w fun e w' => ∃ (v : Value) (xs : List Spot), e = .returned v ∧ Own w.heap.size w' 106 v xs ∧ (3 ≤ xs.length ∧ xs.length ≤ 11) ∧ All7 xs ∧ SrcAt w' g M ∧ w.grownBy w' (some g) := by
  have D := Lib.hid ((Dr.start hS).add (newB w (.cells #[] 106)) (own_new (α := Spot) w 106))
  obtain ⟨w1, hw1⟩ : ∃ w1, w1 = w.alloc (.cells #[] 106) := ⟨_, rfl⟩
  rw [← hw1] at D
  replace hw1 := Lib.hid hw1
  clear hS
  go_enter Tryz.func178, Tryz.ntmps178
  go_wp2_with (rw [← hw1.out])
  refine (pick_c g (M + 38) 4 w1 (D.out.src.less (by omega)) (by omega) (by omega)).mono ?_
  rintro e w2 ⟨T, rfl, T0, T1, hS2, hg2⟩
  replace D := Lib.hid (D.out.drew hS2 hg2)
  clear hS2 hg2
  clear hw1
  by_cases e0 : T = 0
  · subst e0
    go_wp2_with fail
    refine (pick_c g (M + 36) 2 w2 (D.out.src.less (by omega)) (by omega) (by omega)).mono ?_
    rintro e w3 ⟨U, rfl, U0, U1, hS3, hg3⟩
    replace D := Lib.hid (D.out.drew hS3 hg3)
    clear hS3 hg3
    obtain ⟨U, rfl⟩ : ∃ q : Nat, U = q := ⟨U.toNat, by omega⟩
    have hU : U ≤ 1 := by omega
    clear U0 U1 T0 T1
    go_wp2_with fail
    go_loopw [3, 4] (fun v i wr => ∃ (j : Nat) (xs : List Spot), i = .int .i64 j ∧ j + xs.length = 3 + U ∧ Hid (All7 xs) ∧ Hid (Dr w wr g (M + 4 + 4 * j) [ite' 106 v xs])) (fun _ i _ => (intOf i).toNat)
    case atStart => exact ⟨3 + U, [], by first | rfl | go_num, by simp, Lib.hid All7.nil, Lib.hid (D.out.less (by omega))⟩
    case round =>
      clear D
      obtain ⟨j, xs, rfl, hj, hin, D⟩ := hrel
      cases j with
      | succ j =>
        have hj1 : ((j + 1 : Nat) : Int) - 1 = j := by omega
        have hjp : (0 : Int) < ((j + 1 : Nat) : Int) := by omega
        go_wp2_with fail
        refine (pick_c g (M + 4 + 4 * j + 2) 30 wr (D.out.src.less (by omega)) (by omega) (by omega)).mono ?_
        rintro e w4 ⟨x, rfl, x0, x1, hS4, hg4⟩
        replace D := Lib.hid (D.out.drew hS4 hg4)
        clear hS4 hg4
        obtain ⟨w5, hw5⟩ : ∃ w5, w5 = w4.alloc (.cells #[.int .i64 x, .int .i64 0] 106) := ⟨_, rfl⟩
        have D5 := Lib.hid (D.out.add (newB w4 (.cells #[.int .i64 x, .int .i64 0] 106)) (own_alloc w4 106 #[.int .i64 x, .int .i64 0] (spotC ⟨x, 0⟩) rfl (by show 2 ≤ 1048576; omega)))
        rw [← hw5] at D5
        replace hw5 := Lib.hid hw5
        clear D
        go_wp2_with (rw [← hw5.out])
        refine (pick_c g (M + 4 + 4 * j) 30 w5 (D5.out.src.less (by omega)) (by omega) (by omega)).mono ?_
        rintro e w6 ⟨y, rfl, y0, y1, hS6, hg6⟩
        replace D5 := Lib.hid (D5.out.drew hS6 hg6)
        clear hS6 hg6
        clear hw5
        go_wp2_with (first | ((with_reducible refine at_st 2 (.tmp 29) (.tmp 28) ?_); refine wpList_store_own rfl 2 (.tmp 29) (.tmp 28) rfl w.heap.size 106 w4.heap.size 2 2 (spotC ⟨x, 0⟩) 1 1 (⟨.int .i64 y, rfl⟩ : OneCell) rfl rfl rfl (by kernel_rfl) rfl (D5.out.get 0 rfl) (by show 1 < 2; omega) ?_; intro w7 hO7 hg7; have D7 : Hid (Dr w w7 g (M + 4 + 4 * j) [ite' 106 (.slice (some ⟨w4.heap.size, 0, none⟩) 2 2) (spotC ⟨x, y⟩), ite' 106 _ xs]) := Lib.hid (D5.out.set 0 rfl hO7 hg7 (Or.inl rfl)); clear hO7 hg7 D5; obtain ⟨q0, q1⟩ := spotC_cells (D7.out.get 0 rfl); simp only at q0 q1; replace D7 := Lib.hid D7.out.tail) | (at_builtin; refine wpList_pushTo rfl (.tmp 30) (.tmp 32) 96 rfl w.heap.size 106 (.agg #[.int .i64 0, .int .i64 0]) 16 Tryz.underlying96 infoSpot rfl _ (xs) (⟨x, y⟩ : Spot) rfl ((D7.out.get 0 rfl).later (newB _ _)) _ _ rfl 106 (heap_alloc_new _ _) (by first | omega | (simp; done) | (simp; omega)) (by decide) (by have := D7.out.up.size; simp; omega) ?_; intro g' cap w5 hO5 hg5 hl5))
        have D8 := Lib.hid ((D7.out.later (newB _ _)).push 0 rfl hO5 hg5 hl5)
        go_roundw
        case rel => exact ⟨j, xs ++ [(⟨x, y⟩ : Spot)], by first | rfl | go_num, by rw [List.length_append, List.length_singleton]; omega, Lib.hid (hin.out.snoc (x := ⟨x, y⟩) (by unfold Drawn7; simp only; omega)), D8⟩
        case measure => first | (simp [intOf]; done) | (simp [intOf]; omega)
      | zero =>
        go_wp2_with fail
        go_ret
        exact ⟨_, xs, rfl, D.out.get 0 rfl, by omega, hin.out, D.out.src.less (by omega), D.out.up⟩
  · have e0B : (T == 0) = false := beq_eq_false_iff_ne.2 e0
    by_cases e1 : T = 1
    · subst e1
      clear e0B
      go_wp2_with fail
      refine (pick_c g (M + 36) 5 w2 (D.out.src.less (by omega)) (by omega) (by omega)).mono ?_
      rintro e w3 ⟨a, rfl, a0, a1, hS3, hg3⟩
      replace D := Lib.hid (D.out.drew hS3 hg3)
      clear hS3 hg3
      clear T0 T1
      go_wp2_with (first | (at_builtin; refine wpList_pushTo rfl (.tmp 40) (.tmp 43) 96 rfl w.heap.size 106 (.agg #[.int .i64 0, .int .i64 0]) 16 Tryz.underlying96 infoSpot rfl _ (([] : List Spot)) (⟨2 + a, 40⟩ : Spot) rfl ((D.out.get 0 rfl).later (newB _ _)) _ _ rfl 106 (heap_alloc_new _ _) (by first | omega | (simp; done) | (simp; omega)) (by decide) (by have := D.out.up.size; simp; omega) ?_; intro g' cap w5 hO5 hg5 hl5; have D4 := Lib.hid ((D.out.later (newB _ _)).push 0 rfl hO5 hg5 hl5); clear hO5 hg5 hl5) | (at_builtin; refine wpList_pushTo rfl (.tmp 45) (.tmp 48) 96 rfl w.heap.size 106 (.agg #[.int .i64 0, .int .i64 0]) 16 Tryz.underlying96 infoSpot rfl _ ([] ++ [⟨2 + a, 40⟩]) (⟨2 + a, 0⟩ : Spot) rfl ((D4.out.get 0 rfl).later (newB _ _)) _ _ rfl 106 (heap_alloc_new _ _) (by first | omega | (simp; done) | (simp; omega)) (by decide) (by have := D4.out.up.size; simp; omega) ?_; intro g' cap w5 hO5 hg5 hl5; have D6 := Lib.hid ((D4.out.later (newB _ _)).push 0 rfl hO5 hg5 hl5); clear hO5 hg5 hl5))
      refine (pick_c g (M + 34) 4 _ (D6.out.src.less (by omega)) (by omega) (by omega)).mono ?_
      rintro e w7 ⟨b, rfl, b0, b1, hS7, hg7⟩
      replace D6 := Lib.hid (D6.out.drew hS7 hg7)
      clear hS7 hg7
      obtain ⟨b, rfl⟩ : ∃ q : Nat, b = q := ⟨b.toNat, by omega⟩
      have hb3 : b ≤ 3 := by omega
      clear b0 b1
      go_wp2_with fail
      go_loopw [3, 6, 7, 8] (fun v x y i wr => ∃ (j : Nat) (xs : List Spot) (X Y : Int), i = .int .i64 j ∧ x = .int .i64 X ∧ y = .int .i64 Y ∧ xs.length + 2 * j = 4 + 2 * b ∧ (2 ≤ X ∧ X + 8 * j ≤ 38) ∧ (0 ≤ Y ∧ Y + 6 * j ≤ 24) ∧ Hid (All7 xs) ∧ Hid (Dr w wr g (M + 4 + 4 * j) [ite' 106 v xs])) (fun _ _ _ i _ => (intOf i).toNat)
      case atStart => exact ⟨1 + b, [⟨2 + a, 40⟩, ⟨2 + a, 0⟩], 2 + a, 0, by first | rfl | go_num, rfl, rfl, by simp; omega, by omega, by omega, Lib.hid (fun x hx => by simp at hx; rcases hx with rfl | rfl <;> (unfold Drawn7; simp only; omega)), Lib.hid (D6.out.less (by omega))⟩
      case round =>
        clear D D4 D6
        obtain ⟨j, xs, X, Y, rfl, rfl, rfl, hj, hX, hY, hin, D⟩ := hrel
        cases j with
        | succ j =>
          have hj1 : ((j + 1 : Nat) : Int) - 1 = j := by omega
          have hjp : (0 : Int) < ((j + 1 : Nat) : Int) := by omega
          go_wp2_with fail
          refine (pick_c g (M + 4 + 4 * j + 2) 8 wr (D.out.src.less (by omega)) (by omega) (by omega)).mono ?_
          rintro e w8 ⟨c, rfl, c0, c1, hS8, hg8⟩
          replace D := Lib.hid (D.out.drew hS8 hg8)
          clear hS8 hg8
          go_wp2_with (at_builtin; refine wpList_pushTo rfl (.tmp 62) (.tmp 66) 96 rfl w.heap.size 106 (.agg #[.int .i64 0, .int .i64 0]) 16 Tryz.underlying96 infoSpot rfl _ (xs) (⟨X + (1 + c), Y⟩ : Spot) rfl ((D.out.get 0 rfl).later (newB _ _)) _ _ rfl 106 (heap_alloc_new _ _) (by first | omega | (simp; done) | (simp; omega)) (by decide) (by have := D.out.up.size; simp; omega) ?_; intro g' cap w5 hO5 hg5 hl5; have D5 := Lib.hid ((D.out.later (newB _ _)).push 0 rfl hO5 hg5 hl5); clear hO5 hg5 hl5)
          refine (pick_c g (M + 4 + 4 * j) 6 _ (D5.out.src.less (by omega)) (by omega) (by omega)).mono ?_
          rintro e w9 ⟨d, rfl, d0, d1, hS9, hg9⟩
          replace D5 := Lib.hid (D5.out.drew hS9 hg9)
          clear hS9 hg9
          go_wp2_with (at_builtin; refine wpList_pushTo rfl (.tmp 73) (.tmp 77) 96 rfl w.heap.size 106 (.agg #[.int .i64 0, .int .i64 0]) 16 Tryz.underlying96 infoSpot rfl _ (xs ++ [⟨X + (1 + c), Y⟩]) (⟨X + (1 + c), Y + (1 + d)⟩ : Spot) rfl ((D5.out.get 0 rfl).later (newB _ _)) _ _ rfl 106 (heap_alloc_new _ _) (by first | omega | (simp; done) | (simp; omega)) (by decide) (by have := D5.out.up.size; simp; omega) ?_; intro g' cap w5 hO5 hg5 hl5; have D6 := Lib.hid ((D5.out.later (newB _ _)).push 0 rfl hO5 hg5 hl5); clear hO5 hg5 hl5)
          simp only [List.length_append, List.length_singleton, List.set_cons_zero] at D6
          go_roundw
          case rel => exact ⟨j, xs ++ [(⟨X + (1 + c), Y⟩ : Spot)] ++ [(⟨X + (1 + c), Y + (1 + d)⟩ : Spot)], X + (1 + c), Y + (1 + d), by first | rfl | go_num, rfl, rfl, by rw [List.length_append, List.length_append, List.length_singleton, List.length_singleton]; omega, by omega, by omega, Lib.hid ((hin.out.snoc (x := ⟨X + (1 + c), Y⟩) (by unfold Drawn7; simp only; omega)).snoc (x := ⟨X + (1 + c), Y + (1 + d)⟩) (by unfold Drawn7; simp only; omega)), D6⟩
          case measure => first | (simp [intOf]; done) | (simp [intOf]; omega)
        | zero =>
          go_wp2_with (at_builtin; refine wpList_pushTo rfl (.tmp 79) (.tmp 83) 96 rfl w.heap.size 106 (.agg #[.int .i64 0, .int .i64 0]) 16 Tryz.underlying96 infoSpot rfl _ (xs) (⟨X - 1, 40⟩ : Spot) rfl ((D.out.get 0 rfl).later (newB _ _)) _ _ rfl 106 (heap_alloc_new _ _) (by first | omega | (simp; done) | (simp; omega)) (by decide) (by have := D.out.up.size; simp; omega) ?_; intro g' cap w5 hO5 hg5 hl5; have D5 := Lib.hid ((D.out.later (newB _ _)).push 0 rfl hO5 hg5 hl5); clear hO5 hg5 hl5)
          go_ret
          exact ⟨_, xs ++ [(⟨X - 1, 40⟩ : Spot)], rfl, D5.out.get 0 rfl, by rw [List.length_append, List.length_singleton]; omega, hin.out.snoc (x := ⟨X - 1, 40⟩) (by unfold Drawn7; simp only; omega), D5.out.src.less (by omega), D5.out.up⟩
    · have e1B : (T == 1) = false := beq_eq_false_iff_ne.2 e1
      replace e0 := Lib.hid e0
      replace e1 := Lib.hid e1
      go_wp2_with fail
      refine (pick_c g (M + 36) 4 w2 (D.out.src.less (by omega)) (by omega) (by omega)).mono ?_
      rintro e w3 ⟨n, rfl, n0, n1, hS3, hg3⟩
      replace D := Lib.hid (D.out.drew hS3 hg3)
      clear hS3 hg3
      obtain ⟨n, rfl⟩ : ∃ q : Nat, n = q := ⟨n.toNat, by omega⟩
      have hn3 : n ≤ 3 := by omega
      clear n0 n1 T0 T1
      go_wp2_with (at_builtin; refine wpList_pushTo rfl (.tmp 88) (.tmp 90) 96 rfl w.heap.size 106 (.agg #[.int .i64 0, .int .i64 0]) 16 Tryz.underlying96 infoSpot rfl _ (([] : List Spot)) (⟨0, 20⟩ : Spot) rfl ((D.out.get 0 rfl).later (newB _ _)) _ _ rfl 106 (heap_alloc_new _ _) (by first | omega | (simp; done) | (simp; omega)) (by decide) (by have := D.out.up.size; simp; omega) ?_; intro g' cap w5 hO5 hg5 hl5; have D4 := Lib.hid ((D.out.later (newB _ _)).push 0 rfl hO5 hg5 hl5); clear hO5 hg5 hl5)
      go_loopw [3, 10] (fun v i wr => ∃ (k : Nat) (xs : List Spot), i = .int .i64 k ∧ (1 ≤ k ∧ k ≤ n + 2) ∧ Hid (xs.length = k) ∧ Hid (All7 xs) ∧ Hid (Dr w wr g (M + 20 - 2 * k) [ite' 106 v xs])) (fun _ i _ => n + 2 - (intOf i).toNat)
      case atStart => exact ⟨1, [⟨0, 20⟩], rfl, by omega, Lib.hid rfl, Lib.hid (fun x hx => by simp at hx; subst hx; unfold Drawn7; simp only; omega), Lib.hid (D4.out.less (by omega))⟩
      case round =>
        clear D D4
        obtain ⟨k, xs, rfl, hk, hl, hin, D⟩ := hrel
        by_cases hlt : k ≤ n + 1
        · have hle : (k : Int) ≤ 1 + n := by omega
          have hxl : xs.length ≤ 20 := by rw [hl.out]; omega
          go_wp2_with fail
          refine (pick_c g (M + 20 - 2 * (k + 1)) 19 wr (D.out.src.less (by omega)) (by omega) (by omega)).mono ?_
          rintro e w8 ⟨y, rfl, y0, y1, hS8, hg8⟩
          replace D := Lib.hid (D.out.drew hS8 hg8)
          clear hS8 hg8
          go_wp2_with (at_builtin; refine wpList_pushTo rfl (.tmp 97) (.tmp 103) 96 rfl w.heap.size 106 (.agg #[.int .i64 0, .int .i64 0]) 16 Tryz.underlying96 infoSpot rfl _ (xs) (⟨6 * k, y⟩ : Spot) rfl ((D.out.get 0 rfl).later (newB _ _)) _ _ rfl 106 (heap_alloc_new _ _) (by first | omega | (simp; done) | (simp; omega)) (by decide) (by have := D.out.up.size; simp; omega) ?_; intro g' cap w5 hO5 hg5 hl5; have D5 := Lib.hid ((D.out.later (newB _ _)).push 0 rfl hO5 hg5 hl5); clear hO5 hg5 hl5)
          go_roundw
          case rel => exact ⟨k + 1, xs ++ [(⟨6 * k, y⟩ : Spot)], by first | rfl | go_num, by omega, Lib.hid (by rw [List.length_append, List.length_singleton, hl.out]), Lib.hid (hin.out.snoc (x := ⟨6 * k, y⟩) (by unfold Drawn7; simp only; omega)), D5⟩
          case measure => first | (simp [intOf]; done) | (simp [intOf]; omega)
        · have hle : ¬ (k : Int) ≤ 1 + n := by omega
          have hxl : xs.length ≤ 20 := by rw [hl.out]; omega
          go_wp2_with (at_builtin; refine wpList_pushTo rfl (.tmp 105) (.tmp 110) 96 rfl w.heap.size 106 (.agg #[.int .i64 0, .int .i64 0]) 16 Tryz.underlying96 infoSpot rfl _ (xs) (⟨6 * (1 + n) + 5, 20⟩ : Spot) rfl ((D.out.get 0 rfl).later (newB _ _)) _ _ rfl 106 (heap_alloc_new _ _) (by first | omega | (simp; done) | (simp; omega)) (by decide) (by have := D.out.up.size; simp; omega) ?_; intro g' cap w5 hO5 hg5 hl5; have D5 := Lib.hid ((D.out.later (newB _ _)).push 0 rfl hO5 hg5 hl5); clear hO5 hg5 hl5)
          have hin5 := Lib.hid (hin.out.snoc (x := ⟨6 * (1 + n) + 5, 20⟩) (by unfold Drawn7; simp only; omega))
          go_loopw [3, 11] (fun v i wr => ∃ (j : Nat) (zs : List Spot), i = .int .i64 j ∧ j ≤ n + 1 ∧ zs.length + j = 2 * n + 4 ∧ Hid (All7 zs) ∧ Hid (Dr w wr g (M + 2 * j) [ite' 106 v zs])) (fun _ i _ => (intOf i).toNat)
          case atStart => exact ⟨1 + n, xs ++ [⟨6 * (1 + n) + 5, 20⟩], by first | rfl | go_num, by omega, by rw [List.length_append, List.length_singleton, hl.out]; omega, hin5, Lib.hid (D5.out.less (by omega))⟩
          case round =>
            clear D D5
            obtain ⟨j, zs, rfl, hjn, hzl, hzn, D⟩ := hrel
            cases j with
            | succ j =>
              have hj1 : ((j + 1 : Nat) : Int) - 1 = j := by omega
              have hjp : (1 : Int) ≤ ((j + 1 : Nat) : Int) := by omega
              go_wp2_with fail
              refine (pick_c g (M + 2 * j) 19 wr (D.out.src.less (by omega)) (by omega) (by omega)).mono ?_
              rintro e w9 ⟨y, rfl, y0, y1, hS9, hg9⟩
              replace D := Lib.hid (D.out.drew hS9 hg9)
              clear hS9 hg9
              go_wp2_with (at_builtin; refine wpList_pushTo rfl (.tmp 117) (.tmp 125) 96 rfl w.heap.size 106 (.agg #[.int .i64 0, .int .i64 0]) 16 Tryz.underlying96 infoSpot rfl _ (zs) (⟨6 * ((j + 1 : Nat) : Int) - 1, 21 + y⟩ : Spot) rfl ((D.out.get 0 rfl).later (newB _ _)) _ _ rfl 106 (heap_alloc_new _ _) (by first | omega | (simp; done) | (simp; omega)) (by decide) (by have := D.out.up.size; simp; omega) ?_; intro g' cap w5 hO5 hg5 hl5; have D6 := Lib.hid ((D.out.later (newB _ _)).push 0 rfl hO5 hg5 hl5); clear hO5 hg5 hl5)
              go_roundw
              case rel => exact ⟨j, zs ++ [(⟨6 * ((j + 1 : Nat) : Int) - 1, 21 + y⟩ : Spot)], by first | rfl | go_num, by omega, by rw [List.length_append, List.length_singleton]; omega, Lib.hid (hzn.out.snoc (x := ⟨6 * ((j + 1 : Nat) : Int) - 1, 21 + y⟩) (by unfold Drawn7; simp only; omega)), D6⟩
              case measure => first | (simp [intOf]; done) | (simp [intOf]; omega)
            | zero =>
              go_wp2_with fail
              go_ret
              exact ⟨_, zs, rfl, D.out.get 0 rfl, by omega, hzn.out, D.out.src.less (by omega), D.out.up⟩
/-- A spot of any numbers that an int64 holds. -/
def Wide7 (xs : List Spot) : Prop := ∀ x ∈ xs, Rep.ok x
theorem Drawn7.rep {x : Spot} (h : Drawn7 x) : Rep.ok x := by
  unfold Drawn7 at h
  exact ⟨by omega, by omega⟩
theorem All7.wide {xs : List Spot} (h : All7 xs) : Wide7 xs := fun x hx => (h x hx).rep
theorem Wide7.set {xs : List Spot} (h : Wide7 xs) (i : Nat) {x : Spot} (hx : Rep.ok x) : Wide7 (xs.set i x) := fun y hy => by
  rcases List.mem_or_eq_of_mem_set hy with hy | hy
  · exact h y hy
  · rw [hy]; exact hx
theorem flat_front {α : Type} [Flat α] (xs : List α) (m : Nat) (h : m ≤ xs.length) : flat (xs.take m) = (flat xs).take (m * Flat.k α) := by
  have e : flat xs = flat (xs.take m) ++ flat (xs.drop m) := by rw [← flat_append, List.take_append_drop]
  have hl : (flat (xs.take m)).length = m * Flat.k α := by rw [flat_length, List.length_take, Nat.min_eq_left h]
  rw [e, ← hl, List.take_left]
theorem own_cap7 {α : Type} [Flat α] {B : Nat} {w : World} {e : TypeId} {g n c : Nat} {xs : List α} (h : Own B w e (.slice (some ⟨g, 0, none⟩) n c) xs) : xs.length ≤ c ∧ c ≤ maxLen := by
  rcases h.2 with ⟨h', _⟩ | ⟨g', cap', cur, h', hb, hg, hnc, hcm, hcs, htake⟩
  · simp at h'
  · simp only [Value.slice.injEq, Option.some.injEq, Addr.mk.injEq, and_true] at h'
    obtain ⟨rfl, _, rfl⟩ := h'
    exact ⟨hnc, hcm⟩
theorem own_front {α : Type} [Flat α] {B : Nat} {w : World} {e : TypeId} {g n c : Nat} {xs : List α} (h : Own B w e (.slice (some ⟨g, 0, none⟩) n c) xs) (m : Nat) (hm : m ≤ xs.length) : Own B w e (.slice (some ⟨g, 0, none⟩) m c) (xs.take m) := by
  have hl : (xs.take m).length = m := by rw [List.length_take, Nat.min_eq_left hm]
  rcases h.2 with ⟨h', _⟩ | ⟨g', cap', cur, h', hb, hg, hnc, hcm, hcs, htake⟩
  · simp at h'
  · simp only [Value.slice.injEq, Option.some.injEq, Addr.mk.injEq, and_true] at h'
    obtain ⟨rfl, _, rfl⟩ := h'
    unfold Own
    rw [hl]
    refine ⟨by rw [flat_length, hl], .inr ⟨g, c, cur, rfl, hb, hg, by omega, hcm, hcs, ?_⟩⟩
    rw [flat_front _ _ hm, ← htake, List.take_take, Nat.min_eq_left (Nat.mul_le_mul_right _ hm)]
set_option maxRecDepth 100000 in
set_option maxHeartbeats 4000000 in
theorem l07Bent_c (g M : Nat) (w : World) (hS : SrcAt w g (M + 120)) :
    Calls Tryz.prog 164 #[.pointer (some ⟨g, 0, none⟩)] w fun e w' => ∃ (v : Value) (xs : List Spot), e = .returned v ∧ Own w.heap.size w' 106 v xs ∧ (2 ≤ xs.length ∧ xs.length ≤ 26) ∧ Wide7 xs ∧ SrcAt w' g M ∧ w.grownBy w' (some g) := by
  have L0 := Lib.hid (l07Draw_c g (M + 80) w (hS.less (by omega)))
  have D := Lib.hid (Dr.start hS)
  clear hS
  go_enter Tryz.func164, Tryz.ntmps164
  go_wp2_with fail
  refine L0.out.mono ?_
  rintro e w1 ⟨v, xs, rfl, hO, hl, hA, hS1, hg1⟩
  replace D := Lib.hid (D.out.made hS1 hg1 hO)
  replace hA := Lib.hid hA.wide
  obtain ⟨gb, cap, rfl⟩ := hO.row (by omega)
  clear hS1 hg1 hO L0
  go_wp2_with fail
  refine (pick_c g (M + 78) xs.length w1 (D.out.src.less (by omega)) (by omega) (by omega)).mono ?_
  rintro e w2 ⟨i, rfl, i0, i1, hS2, hg2⟩
  replace D := Lib.hid (D.out.drew hS2 hg2)
  clear hS2 hg2
  obtain ⟨i, rfl⟩ : ∃ q : Nat, i = q := ⟨i.toNat, by omega⟩
  have hi : i < xs.length := by omega
  clear i0 i1
  go_wp2_with fail
  refine (pick_c g (M + 76) 24 w2 (D.out.src.less (by omega)) (by omega) (by omega)).mono ?_
  rintro e w3 ⟨T, rfl, T0, T1, hS3, hg3⟩
  replace D := Lib.hid (D.out.drew hS3 hg3)
  clear hS3 hg3
  by_cases e0 : T = 0
  · subst e0
    have hAA := at_lits w3 2 [-1, 0, 10000, 10001, -9223372036854775808]
    obtain ⟨w4, hw4⟩ : ∃ w4, w4 = w3.alloc (.cells #[.int .i64 (-1), .int .i64 0, .int .i64 10000, .int .i64 10001, .int .i64 (-9223372036854775808)] 2) := ⟨_, rfl⟩
    have hb4 : Below w3.heap.size w3 w4 := by rw [hw4]; exact newB _ _
    have hA' : At w4 (some ⟨w3.heap.size, 0, none⟩) [-1, 0, 10000, 10001, -9223372036854775808] := by rw [hw4]; exact hAA
    have ho := off_new D.out.src.lt
    replace hw4 := Lib.hid hw4
    replace D := Lib.hid (D.out.later hb4)
    clear hb4 hAA
    go_wp2_with (rw [← hw4.out])
    refine (among_c g (M + 70) _ [-1, 0, 10000, 10001, -9223372036854775808] _ _ (D.out.src.less (by omega)) hA' ho (by simp) (by simp)).mono ?_
    rintro e w5 ⟨z, rfl, hz, hS5, hg5⟩
    have hz' : -9223372036854775808 ≤ z ∧ z ≤ 9223372036854775807 := by simp at hz; omega
    replace D := Lib.hid (D.out.drew hS5 hg5)
    clear hS5 hg5 hz hA' ho
    have hw9 := hA.out xs[i] (List.getElem_mem hi)
    go_wp2_with ((with_reducible refine at_st 2 (.tmp 23) (.tmp 21) ?_); refine wpList_store_fld rfl 2 (.tmp 23) (.tmp 21) rfl w.heap.size 106 gb cap xs.length xs i 0 _ (⟨z, xs[i].Y⟩ : Spot) (.int .i64 z) rfl (by first | rfl | (simp [Flat.k]; done) | (simp [Flat.k]; omega)) (by decide) rfl rfl (by kernel_rfl) rfl (D.out.get 0 rfl) hi rfl ?_; intro w7 hO7 hg7)
    replace D := Lib.hid (D.out.set 0 rfl hO7 hg7 (Or.inl rfl))
    go_ret
    exact ⟨_, _, rfl, D.out.get 0 rfl, by simp; omega, hA.out.set i ⟨hz', hw9.2⟩, D.out.src.less (by omega), D.out.up⟩
  · have e0B : (T == 0) = false := beq_eq_false_iff_ne.2 e0
    by_cases e1 : T = 1
    · subst e1
      have hAA := at_lits w3 2 [-1, 0, 10000, 10001]
      obtain ⟨w4, hw4⟩ : ∃ w4, w4 = w3.alloc (.cells #[.int .i64 (-1), .int .i64 0, .int .i64 10000, .int .i64 10001] 2) := ⟨_, rfl⟩
      have hb4 : Below w3.heap.size w3 w4 := by rw [hw4]; exact newB _ _
      have hA' : At w4 (some ⟨w3.heap.size, 0, none⟩) [-1, 0, 10000, 10001] := by rw [hw4]; exact hAA
      have ho := off_new D.out.src.lt
      replace hw4 := Lib.hid hw4
      replace D := Lib.hid (D.out.later hb4)
      clear hb4 hAA
      go_wp2_with (rw [← hw4.out])
      refine (among_c g (M + 70) _ [-1, 0, 10000, 10001] _ _ (D.out.src.less (by omega)) hA' ho (by simp) (by simp)).mono ?_
      rintro e w5 ⟨z, rfl, hz, hS5, hg5⟩
      have hz' : -9223372036854775808 ≤ z ∧ z ≤ 9223372036854775807 := by simp at hz; omega
      replace D := Lib.hid (D.out.drew hS5 hg5)
      clear hS5 hg5 hz hA' ho
      have hw9 := hA.out xs[i] (List.getElem_mem hi)
      go_wp2_with ((with_reducible refine at_st 2 (.tmp 31) (.tmp 29) ?_); refine wpList_store_fld rfl 2 (.tmp 31) (.tmp 29) rfl w.heap.size 106 gb cap xs.length xs i 1 _ (⟨xs[i].X, z⟩ : Spot) (.int .i64 z) rfl (by first | rfl | (simp [Flat.k]; done) | (simp [Flat.k]; omega)) (by decide) rfl rfl (by kernel_rfl) rfl (D.out.get 0 rfl) hi rfl ?_; intro w7 hO7 hg7)
      replace D := Lib.hid (D.out.set 0 rfl hO7 hg7 (Or.inl rfl))
      go_ret
      exact ⟨_, _, rfl, D.out.get 0 rfl, by simp; omega, hA.out.set i ⟨hw9.1, hz'⟩, D.out.src.less (by omega), D.out.up⟩
    · have e1B : (T == 1) = false := beq_eq_false_iff_ne.2 e1
      by_cases e2 : T = 2
      · subst e2
        have h2 : (2 : Int) ≤ cap := by have := (own_cap7 (D.out.get 0 rfl)).1; omega
        go_wp2_with fail
        go_ret
        exact ⟨_, xs.take 2, rfl, own_front (D.out.get 0 rfl) 2 (by omega), by simp; omega, fun x hx => hA.out x (List.mem_of_mem_take hx), D.out.src.less (by omega), D.out.up⟩
      · have e2B : (T == 2) = false := beq_eq_false_iff_ne.2 e2
        by_cases e3 : T = 3
        · subst e3
          have D4 := Lib.hid ((D.out.add (newB w3 (.cells #[.int .i64 0, .int .i64 100] 106)) (own_alloc w3 106 #[.int .i64 0, .int .i64 100] [(⟨0, 100⟩ : Spot)] rfl (by simp))).sub (js := [ite' 106 (.slice (some ⟨w3.heap.size, 0, none⟩) 1 1) [(⟨0, 100⟩ : Spot)]]) (by simp))
          obtain ⟨w4, hw4⟩ : ∃ w4, w4 = w3.alloc (.cells #[.int .i64 0, .int .i64 100] 106) := ⟨_, rfl⟩
          rw [← hw4] at D4
          replace hw4 := Lib.hid hw4
          clear D hA
          go_wp2_with (rw [← hw4.out])
          clear hw4
          go_loopw [3, 5] (fun v i wr => ∃ (k : Nat) (zs : List Spot), i = .int .i64 k ∧ k ≤ 23 ∧ Hid (zs.length = k + 1) ∧ Hid (Wide7 zs) ∧ Hid (Dr w wr g (M + 60 - 2 * k) [ite' 106 v zs])) (fun _ i _ => 24 - (intOf i).toNat)
          case atStart => exact ⟨0, [⟨0, 100⟩], rfl, by omega, Lib.hid rfl, Lib.hid (fun x hx => by simp at hx; subst hx; exact ⟨by decide, by decide⟩), Lib.hid (D4.out.less (by omega))⟩
          case round =>
            clear D4
            obtain ⟨k, zs, rfl, hk, hl3, hz, D⟩ := hrel
            have hzl : zs.length ≤ 24 := by rw [hl3.out]; omega
            go_wp2_with fail
            refine (pick_c g (M + 58 - 2 * k) 2 wr (D.out.src.less (by omega)) (by omega) (by omega)).mono ?_
            rintro e w8 ⟨p, rfl, p0, p1, hS8, hg8⟩
            replace D := Lib.hid (D.out.drew hS8 hg8)
            clear hS8 hg8
            by_cases hlt : (k : Int) < 22 + p
            · obtain ⟨m, hm⟩ : ∃ m : Int, (k : Int).tmod 2 = m := ⟨_, rfl⟩
              have hm2 : 0 ≤ m ∧ m ≤ 1 := by rw [← hm, Int.tmod_eq_emod_of_nonneg (by omega)]; omega
              go_wp2_with (at_builtin; refine wpList_pushTo rfl (.tmp 47) (.tmp 55) 96 rfl w.heap.size 106 (.agg #[.int .i64 0, .int .i64 0]) 16 Tryz.underlying96 infoSpot rfl _ (zs) (⟨10 * (k + 1), 5 * m⟩ : Spot) rfl ((D.out.get 0 rfl).later (newB _ _)) _ _ rfl 106 (heap_alloc_new _ _) (by first | omega | (simp; done) | (simp; omega)) (by decide) (by have := D.out.up.size; simp; omega) ?_; intro g' cap w5 hO5 hg5 hl5; have D5 := Lib.hid ((D.out.later (newB _ _)).push 0 rfl hO5 hg5 hl5); clear hO5 hg5 hl5)
              go_roundw
              case rel => exact ⟨k + 1, zs ++ [(⟨10 * (k + 1), 5 * m⟩ : Spot)], by first | rfl | go_num, by omega, Lib.hid (by rw [List.length_append, List.length_singleton, hl3.out]), Lib.hid (fun x hx => by rcases List.mem_append.1 hx with hx | hx; exact hz.out x hx; simp at hx; subst hx; exact ⟨by simp only; omega, by simp only; omega⟩), Lib.hid (D5.out.less (by omega))⟩
              case measure => first | (simp [intOf]; done) | (simp [intOf]; omega)
            · go_wp2_with (at_builtin; refine wpList_pushTo rfl (.tmp 57) (.tmp 59) 96 rfl w.heap.size 106 (.agg #[.int .i64 0, .int .i64 0]) 16 Tryz.underlying96 infoSpot rfl _ (zs) (⟨1000, 100⟩ : Spot) rfl ((D.out.get 0 rfl).later (newB _ _)) _ _ rfl 106 (heap_alloc_new _ _) (by first | omega | (simp; done) | (simp; omega)) (by decide) (by have := D.out.up.size; simp; omega) ?_; intro g' cap w5 hO5 hg5 hl5; have D5 := Lib.hid ((D.out.later (newB _ _)).push 0 rfl hO5 hg5 hl5); clear hO5 hg5 hl5)
              go_ret
              exact ⟨_, zs ++ [(⟨1000, 100⟩ : Spot)], rfl, D5.out.get 0 rfl, by rw [List.length_append, List.length_singleton, hl3.out]; omega, fun x hx => by rcases List.mem_append.1 hx with hx | hx; exact hz.out x hx; simp at hx; subst hx; exact ⟨by decide, by decide⟩, D5.out.src.less (by omega), D5.out.up⟩
        · have e3B : (T == 3) = false := beq_eq_false_iff_ne.2 e3
          replace e0 := Lib.hid e0
          replace e1 := Lib.hid e1
          replace e2 := Lib.hid e2
          replace e3 := Lib.hid e3
          go_wp2_with fail
          go_ret
          exact ⟨_, xs, rfl, D.out.get 0 rfl, by omega, hA.out, D.out.src.less (by omega), D.out.up⟩
end Go.Proofs.YtledlkggggpdpaaGreatDoor
