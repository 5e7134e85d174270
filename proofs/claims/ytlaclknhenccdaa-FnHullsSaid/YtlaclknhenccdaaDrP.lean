/- Chapter 7, an outline and a spot that are drawn. (Printed by wip/genDrP.py.) -/
import Derived.Test.YtlaclknhenccdaaDrO
import Derived.Laws.ResultCell
import Derived.Deep.RegionHeld3
namespace Go.Proofs.Ytlaclknhenccdaa
open Go.RowKit

theorem spot_cell2 {B : Nat} {w : World} {e : TypeId} {g n c : Nat} {x : Spot} (h : Own B w e (.slice (some ⟨g, 0, none⟩) n c) [x]) :
    w.cell? ⟨g, 0, none⟩ = some (.int .i64 x.X) ∧ w.cell? ⟨g, 1, none⟩ = some (.int .i64 x.Y) := by
  have := h.at'.spot (i := 0) (by simp)
  simpa using this
theorem ne_blk7 {a b n c : Nat} (h : a ≠ b) : (Value.slice (some ⟨a, 0, none⟩) n c).ownBlock ≠ some b := fun e => h (Option.some.inj (show some a = some b from e))
set_option maxRecDepth 100000 in
set_option maxHeartbeats 4000000 in
theorem drawPlaceOfSpot_c (ca : Option Addr) (L : List UInt8) (cc : Nat) (w : World) (hx : At w ca L) (hl : L.length ≤ 9223372036854775807) :
    Calls Try.prog 55 #[.slice ca L.length cc] w fun e w' => ∃ (v : Value) (xs : List Spot) (p : Spot), e = .returned (.tuple #[v, .agg #[.int .i64 p.X, .int .i64 p.Y]]) ∧ (2 ≤ xs.length ∧ xs.length ≤ 26) ∧ Rep.ok p ∧ Wide7 xs ∧ Own w.heap.size w' 83 v xs ∧ Below w.heap.size w w' := by
  obtain ⟨w0, hw0⟩ : ∃ w0, w0 = w.alloc (.cells #[.int .i64 0, .int .i64 0] 83) := ⟨_, rfl⟩
  have hs0 : w0.heap.size = w.heap.size + 1 := by rw [hw0]; exact World.size_alloc _ _
  have R2 : Own w.heap.size w0 83 (.slice (some ⟨w.heap.size, 0, none⟩) 1 1) ([⟨0, 0⟩] : List Spot) := by rw [hw0]; exact own_alloc w _ _ ([⟨0, 0⟩] : List Spot) rfl (by show 1 ≤ 1048576; omega)
  have hb0 : Below w.heap.size w w0 := by rw [hw0]; exact newB w _
  replace hw0 := Lib.hid hw0
  replace hx := hx.below hb0
  go_enter Try.func55, Try.ntmps55
  go_wp2_with (rw [← hw0.out])
  refine (l00From_c ca L cc w0 hx hl).mono ?_
  rintro e w1 ⟨rfl, hS1, hb1⟩
  replace R2 := Lib.hid (R2.later hb1)
  have D := Lib.hid (Dr.start (hS1.less (M' := 200) (by omega)))
  replace hb0 := upw hb0 hb1
  have hw1s : w.heap.size + 1 ≤ w1.heap.size := by have := hb1.size; omega
  clear hS1 hb1 hx hl hw0
  replace hs0 := Lib.hid hs0
  go_wp2_with fail
  refine (l07Bent_c w0.heap.size 40 w1 (D.out.src.less (by omega))).mono ?_
  rintro e w2 ⟨v, xs, rfl, hO, hln, hA, hS2, hg2⟩
  replace D := Lib.hid (D.out.made hS2 hg2 hO)
  obtain ⟨gb, cap, rfl⟩ := hO.row (by omega)
  replace hA := Lib.hid hA
  clear hS2 hg2 hO
  go_wp2_with fail
  refine (pick_c w0.heap.size (38) 34 w2 (D.out.src.less (by omega)) (by omega) (by omega)).mono ?_
  rintro e w3 ⟨x, rfl, x0, x1, hS3, hg3⟩
  replace D := Lib.hid (D.out.drew hS3 hg3)
  clear hS3 hg3
  obtain ⟨w4, hw4⟩ : ∃ w4, w4 = w3.alloc (.cells #[.int .i64 x, .int .i64 0] 83) := ⟨_, rfl⟩
  replace D := Lib.hid (D.out.add (w' := w4) (by rw [hw4]; exact newB w3 _) (by rw [hw4]; exact own_alloc w3 83 #[.int .i64 x, .int .i64 0] (spotC ⟨x, 0⟩) rfl (by show 2 ≤ 1048576; omega)))
  obtain ⟨np, hnp⟩ : ∃ n, n = w3.heap.size := ⟨_, rfl⟩
  rw [← hnp] at D
  replace hw4 := Lib.hid hw4
  replace hnp := Lib.hid hnp
  go_wp2_with (rw [← hw4.out])
  try rw [← hnp.out]
  refine (pick_c w0.heap.size (36) 42 w4 (D.out.src.less (by omega)) (by omega) (by omega)).mono ?_
  rintro e w4' ⟨y, rfl, y0, y1, hS4, hg4⟩
  replace D := Lib.hid (D.out.drew hS4 hg4)
  clear hS4 hg4
  clear hw4 hnp w3
  go_wp2_with ((with_reducible refine at_st 2 (.tmp 16) (.tmp 15) ?_); refine wpList_store_own rfl 2 (.tmp 16) (.tmp 15) rfl w1.heap.size 83 np 2 2 (spotC ⟨x, 0⟩) 1 1 (⟨.int .i64 y, rfl⟩ : OneCell) rfl rfl rfl (by kernel_rfl) rfl (D.out.get 0 rfl) (by show 1 < 2; omega) ?_; intro w5q hO7 hg7; replace D : Hid (Dr w1 w5q w0.heap.size  36 [ite' 83 (.slice (some ⟨np, 0, none⟩) 2 2) (spotC ⟨x, y⟩), ite' 83 (.slice (some ⟨gb, 0, none⟩) xs.length cap) xs]) := Lib.hid ((D.out.set 0 rfl hO7 hg7 (Or.inl rfl)).less (by omega)); clear hO7 hg7)
  refine (pick_c w0.heap.size (34) 12 w5q (D.out.src.less (by omega)) (by omega) (by omega)).mono ?_
  rintro e w5 ⟨T, rfl, T0, T1, hS5, hg5⟩
  replace D := Lib.hid (D.out.drew hS5 hg5)
  clear hS5 hg5
  by_cases e0 : T = 0
  · subst e0
    have hA9 := at_lits w5 2 [-1, 0, 10000, 10001]
    obtain ⟨w6, hw6⟩ : ∃ w6, w6 = w5.alloc (.cells #[.int .i64 (-1), .int .i64 0, .int .i64 10000, .int .i64 10001] 2) := ⟨_, rfl⟩
    have hb6 : Below w5.heap.size w5 w6 := by rw [hw6]; exact newB _ _
    have hA' : At w6 (some ⟨w5.heap.size, 0, none⟩) [-1, 0, 10000, 10001] := by rw [hw6]; exact hA9
    have ho := off_new D.out.src.lt
    replace hw6 := Lib.hid hw6
    replace D := Lib.hid (D.out.later hb6)
    clear hb6 hA9
    go_wp2_with (rw [← hw6.out])
    refine (among_c w0.heap.size 24 _ [-1, 0, 10000, 10001] _ _ (D.out.src.less (by omega)) hA' ho (by simp) (by simp)).mono ?_
    rintro e w7 ⟨z, rfl, hz, hS5, hg5⟩
    have hz' : -9223372036854775808 ≤ z ∧ z ≤ 9223372036854775807 := by simp at hz; omega
    replace D := Lib.hid (D.out.drew hS5 hg5)
    clear hS5 hg5 hz hA' ho hw6
    go_wp2_with ((with_reducible refine at_st 2 (.tmp 24) (.tmp 23) ?_); refine wpList_store_own rfl 2 (.tmp 24) (.tmp 23) rfl w1.heap.size 83 np 2 2 (spotC ⟨x, y⟩) 0 0 (⟨.int .i64 z, rfl⟩ : OneCell) rfl rfl rfl (by kernel_rfl) rfl (D.out.get 0 rfl) (by show 0 < 2; omega) ?_; intro w8 hO7 hg7; replace D : Hid (Dr w1 w8 w0.heap.size 20 [ite' 83 (.slice (some ⟨np, 0, none⟩) 2 2) (spotC ⟨z, y⟩), ite' 83 (.slice (some ⟨gb, 0, none⟩) xs.length cap) xs]) := Lib.hid ((D.out.set 0 rfl hO7 hg7 (Or.inl rfl)).less (by omega)); clear hO7 hg7)
    have x0 := spotC_cells (D.out.get 0 rfl : Own _ _ _ _ (spotC ⟨z, y⟩))
    simp only at x0
    refine wp_region_held_drew (S := (fun w' => w'.cell? ⟨np, 0, none⟩ = some (.int .i64 z) ∧ w'.cell? ⟨np, 1, none⟩ = some (.int .i64 y))) (by kernel_rfl) x0 (fun hHeld => ?_)
    obtain ⟨wo, hwo⟩ : ∃ wo, wo = w8.drew := ⟨_, rfl⟩
    rw [← hwo] at hHeld ⊢
    replace D := Lib.hid (D.out.later (w' := wo) (by rw [hwo]; exact (Below.refl _ _).drew))
    clear hwo x0
    refine wpAnyH_take (i := 0) (v := _) rfl (by kernel_rfl) (by kernel_rfl) (by kernel_rfl) (fun _ _ _ h => h) (Or.inl ⟨by rfl, (by intro w hSw; (try dsimp only at hSw); go_simp; try with_reducible rfl)⟩) (by assumption) ?_
    go_simp
    refine wpAnyH_take (i := 1) (v := _) rfl (by kernel_rfl) (by kernel_rfl) (by kernel_rfl) (fun _ _ _ h => h) (Or.inl ⟨by rfl, (by intro w hSw; (try dsimp only at hSw); go_simp; try with_reducible rfl)⟩) (by assumption) ?_
    go_simp
    refine wpAnyH_take (i := 2) (v := _) rfl (by kernel_rfl) (by kernel_rfl) (by kernel_rfl) (fun _ _ _ h => h) (Or.inl ⟨by rfl, (by intro w hSw; (try dsimp only at hSw); go_simp; try with_reducible rfl)⟩) (by assumption) ?_
    go_simp
    have G := D.out.up
    have V1 : Own _ _ _ _ (spotC ⟨z, y⟩) := D.out.get 0 rfl
    have V2 : Own _ _ _ _ xs := D.out.get 1 rfl
    have hn2 : w.heap.size ≠ np := by have := V1.lt np rfl; omega
    have hn3 : w.heap.size ≠ gb := by have := V2.lt gb rfl; omega
    have R2p := R2.out.kept G (Or.inr (ne_blk7 (by have := hs0.out; omega)))
    refine wpAnyH_ready (rs := [3]) (by kernel_rfl) (by simp) ?_
    refine AllReadyH.cons rfl (fun K hK => ?_) AllReadyH.nil
    refine cast (if_pos (by rfl)).symm ?_; refine wp_store_own 83 (.tmp 3) (.tmp 38) rfl w.heap.size 83 w.heap.size 1 1 ([⟨0, 0⟩] : List Spot) 0 _ (⟨z, y⟩ : Spot) rfl rfl rfl (by kernel_rfl) rfl R2p (by simp) ?_; intro wq hV2 hg2
    refine hK.out _ _ (spotC_cells (V1.kept hg2 (Or.inr (ne_blk7 hn2.symm)))) (fun hHeld => ?_)
    clear hK K
    go_simp
    refine wpAnyH_done (by kernel_rfl) ?_ _
    obtain ⟨q0, q1⟩ := spot_cell2 hV2
    have hF := below_mark (drew_up hb0 G (by have := hs0.out; omega)) R2p (Nat.le_refl _) hg2
    have oX := (V2.kept hg2 (Or.inr (ne_blk7 hn3.symm))).base (by have := hb0.size; omega : w.heap.size ≤ w1.heap.size)
    go_wp2_with fail
    refine bodyPost_ret (v := .tuple #[.slice (some ⟨gb, 0, none⟩) xs.length cap, .agg #[.int .i64 z, .int .i64 y]]) (by simp [results, Try.results55, go_sem, q0, q1]) rfl ?_
    exact ⟨_, xs, ⟨z, y⟩, rfl, hln, ⟨hz', by simp only; omega⟩, hA.out, oX, hF⟩

  · have e0B : (T == 0) = false := beq_eq_false_iff_ne.2 e0
    by_cases e1 : T = 1
    · subst e1
      have hA9 := at_lits w5 2 [-1, 0, 10000, 10001]
      obtain ⟨w6, hw6⟩ : ∃ w6, w6 = w5.alloc (.cells #[.int .i64 (-1), .int .i64 0, .int .i64 10000, .int .i64 10001] 2) := ⟨_, rfl⟩
      have hb6 : Below w5.heap.size w5 w6 := by rw [hw6]; exact newB _ _
      have hA' : At w6 (some ⟨w5.heap.size, 0, none⟩) [-1, 0, 10000, 10001] := by rw [hw6]; exact hA9
      have ho := off_new D.out.src.lt
      replace hw6 := Lib.hid hw6
      replace D := Lib.hid (D.out.later hb6)
      clear hb6 hA9
      go_wp2_with (rw [← hw6.out])
      refine (among_c w0.heap.size 24 _ [-1, 0, 10000, 10001] _ _ (D.out.src.less (by omega)) hA' ho (by simp) (by simp)).mono ?_
      rintro e w7 ⟨z, rfl, hz, hS5, hg5⟩
      have hz' : -9223372036854775808 ≤ z ∧ z ≤ 9223372036854775807 := by simp at hz; omega
      replace D := Lib.hid (D.out.drew hS5 hg5)
      clear hS5 hg5 hz hA' ho hw6
      go_wp2_with ((with_reducible refine at_st 2 (.tmp 30) (.tmp 29) ?_); refine wpList_store_own rfl 2 (.tmp 30) (.tmp 29) rfl w1.heap.size 83 np 2 2 (spotC ⟨x, y⟩) 1 1 (⟨.int .i64 z, rfl⟩ : OneCell) rfl rfl rfl (by kernel_rfl) rfl (D.out.get 0 rfl) (by show 1 < 2; omega) ?_; intro w8 hO7 hg7; replace D : Hid (Dr w1 w8 w0.heap.size 20 [ite' 83 (.slice (some ⟨np, 0, none⟩) 2 2) (spotC ⟨x, z⟩), ite' 83 (.slice (some ⟨gb, 0, none⟩) xs.length cap) xs]) := Lib.hid ((D.out.set 0 rfl hO7 hg7 (Or.inl rfl)).less (by omega)); clear hO7 hg7)
      have x0 := spotC_cells (D.out.get 0 rfl : Own _ _ _ _ (spotC ⟨x, z⟩))
      simp only at x0
      refine wp_region_held_drew (S := (fun w' => w'.cell? ⟨np, 0, none⟩ = some (.int .i64 x) ∧ w'.cell? ⟨np, 1, none⟩ = some (.int .i64 z))) (by kernel_rfl) x0 (fun hHeld => ?_)
      obtain ⟨wo, hwo⟩ : ∃ wo, wo = w8.drew := ⟨_, rfl⟩
      rw [← hwo] at hHeld ⊢
      replace D := Lib.hid (D.out.later (w' := wo) (by rw [hwo]; exact (Below.refl _ _).drew))
      clear hwo x0
      refine wpAnyH_take (i := 0) (v := _) rfl (by kernel_rfl) (by kernel_rfl) (by kernel_rfl) (fun _ _ _ h => h) (Or.inl ⟨by rfl, (by intro w hSw; (try dsimp only at hSw); go_simp; try with_reducible rfl)⟩) (by assumption) ?_
      go_simp
      refine wpAnyH_take (i := 1) (v := _) rfl (by kernel_rfl) (by kernel_rfl) (by kernel_rfl) (fun _ _ _ h => h) (Or.inl ⟨by rfl, (by intro w hSw; (try dsimp only at hSw); go_simp; try with_reducible rfl)⟩) (by assumption) ?_
      go_simp
      refine wpAnyH_take (i := 2) (v := _) rfl (by kernel_rfl) (by kernel_rfl) (by kernel_rfl) (fun _ _ _ h => h) (Or.inl ⟨by rfl, (by intro w hSw; (try dsimp only at hSw); go_simp; try with_reducible rfl)⟩) (by assumption) ?_
      go_simp
      have G := D.out.up
      have V1 : Own _ _ _ _ (spotC ⟨x, z⟩) := D.out.get 0 rfl
      have V2 : Own _ _ _ _ xs := D.out.get 1 rfl
      have hn2 : w.heap.size ≠ np := by have := V1.lt np rfl; omega
      have hn3 : w.heap.size ≠ gb := by have := V2.lt gb rfl; omega
      have R2p := R2.out.kept G (Or.inr (ne_blk7 (by have := hs0.out; omega)))
      refine wpAnyH_ready (rs := [3]) (by kernel_rfl) (by simp) ?_
      refine AllReadyH.cons rfl (fun K hK => ?_) AllReadyH.nil
      refine cast (if_pos (by rfl)).symm ?_; refine wp_store_own 83 (.tmp 3) (.tmp 38) rfl w.heap.size 83 w.heap.size 1 1 ([⟨0, 0⟩] : List Spot) 0 _ (⟨x, z⟩ : Spot) rfl rfl rfl (by kernel_rfl) rfl R2p (by simp) ?_; intro wq hV2 hg2
      refine hK.out _ _ (spotC_cells (V1.kept hg2 (Or.inr (ne_blk7 hn2.symm)))) (fun hHeld => ?_)
      clear hK K
      go_simp
      refine wpAnyH_done (by kernel_rfl) ?_ _
      obtain ⟨q0, q1⟩ := spot_cell2 hV2
      have hF := below_mark (drew_up hb0 G (by have := hs0.out; omega)) R2p (Nat.le_refl _) hg2
      have oX := (V2.kept hg2 (Or.inr (ne_blk7 hn3.symm))).base (by have := hb0.size; omega : w.heap.size ≤ w1.heap.size)
      go_wp2_with fail
      refine bodyPost_ret (v := .tuple #[.slice (some ⟨gb, 0, none⟩) xs.length cap, .agg #[.int .i64 x, .int .i64 z]]) (by simp [results, Try.results55, go_sem, q0, q1]) rfl ?_
      exact ⟨_, xs, ⟨x, z⟩, rfl, hln, ⟨by simp only; omega, hz'⟩, hA.out, oX, hF⟩

    · have e1B : (T == 1) = false := beq_eq_false_iff_ne.2 e1
      by_cases e2 : T = 2
      · subst e2
        have h0 : 0 < xs.length := by omega
        have h0I : (0 : Int) < xs.length := by omega
        obtain ⟨c0, c1⟩ := (D.out.get 1 rfl : Own _ _ _ _ xs).at'.spot h0
        simp only [Nat.zero_mul, Nat.add_zero] at c0 c1
        have hcell := Lib.hid (fun w' (h : Own w1.heap.size w' 83 (.slice (some ⟨gb, 0, none⟩) xs.length cap) xs) => show w'.cell? ⟨gb, 0, none⟩ = some (.int .i64 xs[0].X) ∧ w'.cell? ⟨gb, 1, none⟩ = some (.int .i64 xs[0].Y) by
          obtain ⟨h1, h2⟩ := h.at'.spot h0
          exact ⟨by simpa using h1, by simpa using h2⟩)
        have hw9 := hA.out xs[0] (List.getElem_mem h0)
        obtain ⟨p, hp⟩ : ∃ p, p = xs[0] := ⟨_, rfl⟩
        rw [← hp] at c0 c1 hcell hw9
        clear hp
        have x0 := hcell.out _ (D.out.get 1 rfl)
        clear c0 c1
        go_wp2_with fail
        refine wp_region_held_drew (S := (fun w' => w'.cell? ⟨gb, 0, none⟩ = some (.int .i64 p.X) ∧ w'.cell? ⟨gb, 1, none⟩ = some (.int .i64 p.Y))) (by kernel_rfl) x0 (fun hHeld => ?_)
        obtain ⟨wo, hwo⟩ : ∃ wo, wo = w5.drew := ⟨_, rfl⟩
        rw [← hwo] at hHeld ⊢
        replace D := Lib.hid (D.out.later (w' := wo) (by rw [hwo]; exact (Below.refl _ _).drew))
        clear hwo x0
        refine wpAnyH_take (i := 0) (v := _) rfl (by kernel_rfl) (by kernel_rfl) (by kernel_rfl) (fun _ _ _ h => h) (Or.inl ⟨by rfl, (by intro w hSw; (try dsimp only at hSw); go_simp; try with_reducible rfl)⟩) (by assumption) ?_
        go_simp
        refine wpAnyH_take (i := 1) (v := _) rfl (by kernel_rfl) (by kernel_rfl) (by kernel_rfl) (fun _ _ _ h => h) (Or.inl ⟨by rfl, (by intro w hSw; (try dsimp only at hSw); go_simp; try with_reducible rfl)⟩) (by assumption) ?_
        go_simp
        refine wpAnyH_take (i := 2) (v := _) rfl (by kernel_rfl) (by kernel_rfl) (by kernel_rfl) (fun _ _ _ h => h) (Or.inl ⟨by rfl, (by intro w hSw; (try dsimp only at hSw); go_simp; try with_reducible rfl)⟩) (by assumption) ?_
        go_simp
        refine wpAnyH_take (i := 3) (v := _) rfl (by kernel_rfl) (by kernel_rfl) (by kernel_rfl) (fun _ _ _ h => h) (Or.inl ⟨by rfl, (by intro w hSw; (try dsimp only at hSw); go_simp; try with_reducible rfl)⟩) (by assumption) ?_
        go_simp
        refine wpAnyH_take (i := 4) (v := _) rfl (by kernel_rfl) (by kernel_rfl) (by kernel_rfl) (fun _ _ _ h => h) (Or.inl ⟨by rfl, (by intro w hSw; (try dsimp only at hSw); go_simp; try with_reducible rfl)⟩) (by assumption) ?_
        go_simp
        have G := D.out.up
        have V1 : Own _ _ _ _ (spotC ⟨x, y⟩) := D.out.get 0 rfl
        have V2 : Own _ _ _ _ xs := D.out.get 1 rfl
        have hn2 : w.heap.size ≠ np := by have := V1.lt np rfl; omega
        have hn3 : w.heap.size ≠ gb := by have := V2.lt gb rfl; omega
        have R2p := R2.out.kept G (Or.inr (ne_blk7 (by have := hs0.out; omega)))
        refine wpAnyH_ready (rs := [5]) (by kernel_rfl) (by simp) ?_
        refine AllReadyH.cons rfl (fun K hK => ?_) AllReadyH.nil
        refine cast (if_pos (by rfl)).symm ?_; refine wp_store_own 83 (.tmp 3) (.tmp 36) rfl w.heap.size 83 w.heap.size 1 1 ([⟨0, 0⟩] : List Spot) 0 _ (p : Spot) rfl rfl rfl (by kernel_rfl) rfl R2p (by simp) ?_; intro wq hV2 hg2
        refine hK.out _ _ (hcell.out _ (V2.kept hg2 (Or.inr (ne_blk7 hn3.symm)))) (fun hHeld => ?_)
        clear hK K
        go_simp
        refine wpAnyH_done (by kernel_rfl) ?_ _
        obtain ⟨q0, q1⟩ := spot_cell2 hV2
        have hF := below_mark (drew_up hb0 G (by have := hs0.out; omega)) R2p (Nat.le_refl _) hg2
        have oX := (V2.kept hg2 (Or.inr (ne_blk7 hn3.symm))).base (by have := hb0.size; omega : w.heap.size ≤ w1.heap.size)
        go_wp2_with fail
        refine bodyPost_ret (v := .tuple #[.slice (some ⟨gb, 0, none⟩) xs.length cap, .agg #[.int .i64 p.X, .int .i64 p.Y]]) (by simp [results, Try.results55, go_sem, q0, q1]) rfl ?_
        exact ⟨_, xs, p, rfl, hln, hw9, hA.out, oX, hF⟩

      · have e2B : (T == 2) = false := beq_eq_false_iff_ne.2 e2
        replace e0 := Lib.hid e0
        replace e1 := Lib.hid e1
        replace e2 := Lib.hid e2
        go_wp2_with fail
        have x0 := spotC_cells (D.out.get 0 rfl : Own _ _ _ _ (spotC ⟨x, y⟩))
        simp only at x0
        refine wp_region_held_drew (S := (fun w' => w'.cell? ⟨np, 0, none⟩ = some (.int .i64 x) ∧ w'.cell? ⟨np, 1, none⟩ = some (.int .i64 y))) (by kernel_rfl) x0 (fun hHeld => ?_)
        obtain ⟨wo, hwo⟩ : ∃ wo, wo = w5.drew := ⟨_, rfl⟩
        rw [← hwo] at hHeld ⊢
        replace D := Lib.hid (D.out.later (w' := wo) (by rw [hwo]; exact (Below.refl _ _).drew))
        clear hwo x0
        refine wpAnyH_take (i := 0) (v := _) rfl (by kernel_rfl) (by kernel_rfl) (by kernel_rfl) (fun _ _ _ h => h) (Or.inl ⟨by rfl, (by intro w hSw; (try dsimp only at hSw); go_simp; try with_reducible rfl)⟩) (by assumption) ?_
        go_simp
        refine wpAnyH_take (i := 1) (v := _) rfl (by kernel_rfl) (by kernel_rfl) (by kernel_rfl) (fun _ _ _ h => h) (Or.inl ⟨by rfl, (by intro w hSw; (try dsimp only at hSw); go_simp; try with_reducible rfl)⟩) (by assumption) ?_
        go_simp
        refine wpAnyH_take (i := 2) (v := _) rfl (by kernel_rfl) (by kernel_rfl) (by kernel_rfl) (fun _ _ _ h => h) (Or.inl ⟨by rfl, (by intro w hSw; (try dsimp only at hSw); go_simp; try with_reducible rfl)⟩) (by assumption) ?_
        go_simp
        have G := D.out.up
        have V1 : Own _ _ _ _ (spotC ⟨x, y⟩) := D.out.get 0 rfl
        have V2 : Own _ _ _ _ xs := D.out.get 1 rfl
        have hn2 : w.heap.size ≠ np := by have := V1.lt np rfl; omega
        have hn3 : w.heap.size ≠ gb := by have := V2.lt gb rfl; omega
        have R2p := R2.out.kept G (Or.inr (ne_blk7 (by have := hs0.out; omega)))
        refine wpAnyH_ready (rs := [3]) (by kernel_rfl) (by simp) ?_
        refine AllReadyH.cons rfl (fun K hK => ?_) AllReadyH.nil
        refine cast (if_pos (by rfl)).symm ?_; refine wp_store_own 83 (.tmp 3) (.tmp 38) rfl w.heap.size 83 w.heap.size 1 1 ([⟨0, 0⟩] : List Spot) 0 _ (⟨x, y⟩ : Spot) rfl rfl rfl (by kernel_rfl) rfl R2p (by simp) ?_; intro wq hV2 hg2
        refine hK.out _ _ (spotC_cells (V1.kept hg2 (Or.inr (ne_blk7 hn2.symm)))) (fun hHeld => ?_)
        clear hK K
        go_simp
        refine wpAnyH_done (by kernel_rfl) ?_ _
        obtain ⟨q0, q1⟩ := spot_cell2 hV2
        have hF := below_mark (drew_up hb0 G (by have := hs0.out; omega)) R2p (Nat.le_refl _) hg2
        have oX := (V2.kept hg2 (Or.inr (ne_blk7 hn3.symm))).base (by have := hb0.size; omega : w.heap.size ≤ w1.heap.size)
        go_wp2_with fail
        refine bodyPost_ret (v := .tuple #[.slice (some ⟨gb, 0, none⟩) xs.length cap, .agg #[.int .i64 x, .int .i64 y]]) (by simp [results, Try.results55, go_sem, q0, q1]) rfl ?_
        exact ⟨_, xs, ⟨x, y⟩, rfl, hln, ⟨by simp only; omega, by simp only; omega⟩, hA.out, oX, hF⟩

end Go.Proofs.Ytlaclknhenccdaa
