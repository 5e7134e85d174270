/- Chapter 5, gradings: the reference's last after half sizes. (Printed by wip/genGr3.py.) -/
import Derived.Test.YtaeinllbjkjhlaaGreatDoorGr2
namespace Go.Proofs.YtaeinllbjkjhlaaGreatDoor
open Go.RowKit

set_option maxRecDepth 100000 in
set_option maxHeartbeats 4000000 in
theorem l05Last_c (x : Last) (g : Grade) (s : Int) (w : World) (hx : okLast x = true) (hg : okGrade g = true) (hs : -30 ≤ s ∧ s ≤ 30) :
    Calls Tryz.prog 70 #[.agg #[.string x.Name, .int .i64 x.Length, .int .i64 x.Ball, .int .i64 x.Instep, .int .i64 x.Heel, .int .i64 x.Pitch], .agg #[.int .i64 g.Length, .int .i64 g.Ball, .int .i64 g.Instep, .int .i64 g.Heel, .int .i64 g.Pitch], .int .i64 s] w fun e w' => e = .returned (.agg #[.string (gLast x g s).Name, .int .i64 (gLast x g s).Length, .int .i64 (gLast x g s).Ball, .int .i64 (gLast x g s).Instep, .int .i64 (gLast x g s).Heel, .int .i64 (gLast x g s).Pitch]) ∧ Below w.heap.size w w' := by
  obtain ⟨w3, hw3, D⟩ := box_lgl w x g
  obtain ⟨_, ⟨h1, h2, h3, h4⟩, h5⟩ := okLast_iff2.1 hx
  obtain ⟨j1, j2, j3, j4, j5⟩ := okGrade_iff.1 hg
  have k0 := Lib.hid (fun w' => l05Add_c x.Length g.Length s w' j1 hs (by omega))
  have k1 := Lib.hid (fun w' => l05Add_c x.Ball g.Ball s w' j2 hs (by omega))
  have k2 := Lib.hid (fun w' => l05Add_c x.Instep g.Instep s w' j3 hs (by omega))
  have k3 := Lib.hid (fun w' => l05Add_c x.Heel g.Heel s w' j4 hs (by omega))
  have k4 := Lib.hid (fun w' => l05Add_c x.Pitch g.Pitch s w' j5 hs (by omega))
  unfold gLast
  generalize addG x.Length g.Length s = a0 at *
  generalize addG x.Ball g.Ball s = a1 at *
  generalize addG x.Instep g.Instep s = a2 at *
  generalize addG x.Heel g.Heel s = a3 at *
  generalize addG x.Pitch g.Pitch s = a4 at *
  clear hx hg h1 h2 h3 h4 h5 j1 j2 j3 j4 j5 hs
  replace hw3 := Lib.hid hw3
  replace D := Lib.hid D
  go_enter Tryz.func70, Tryz.ntmps70
  go_wp2_with (rw [← hw3.out])
  refine wp_region_held_drew (S := (fun w' => w'.cell? ⟨w.heap.size, 0, none⟩ = some (.string x.Name) ∧ w'.cell? ⟨w.heap.size, 1, none⟩ = some (.int .i64 x.Length) ∧ w'.cell? ⟨w.heap.size + 1, 0, none⟩ = some (.int .i64 g.Length))) (by kernel_rfl) ⟨(lastC_cells (D.out.get 2 rfl : Own _ _ _ _ (lastC x))).1, (lastC_cells (D.out.get 2 rfl : Own _ _ _ _ (lastC x))).2.1, (gradeC_cells (D.out.get 1 rfl : Own _ _ _ _ (gradeC g))).1⟩ (fun hHeld => ?_)
  obtain ⟨wo, hwo⟩ : ∃ wo, wo = w3.drew := ⟨_, rfl⟩
  rw [← hwo] at hHeld ⊢
  have hbo : Below w3.heap.size w3 wo := by rw [hwo]; exact (Below.refl _ _).drew
  replace D := Lib.hid (D.out.later hbo)
  clear hwo hbo hw3
  refine wpAnyH_take (i := 0) (v := _) rfl (by kernel_rfl) (by kernel_rfl) (by kernel_rfl) (fun _ _ _ h => h) (Or.inl ⟨by rfl, (by intro w hSw; (try dsimp only at hSw); go_simp; try with_reducible rfl)⟩) (by assumption) ?_
  go_simp
  refine wpAnyH_take (i := 1) (v := _) rfl (by kernel_rfl) (by kernel_rfl) (by kernel_rfl) (fun _ _ _ h => h) (Or.inl ⟨by rfl, (by intro w hSw; (try dsimp only at hSw); go_simp; try with_reducible rfl)⟩) (by assumption) ?_
  go_simp
  refine wpAnyH_take (i := 2) (v := _) rfl (by kernel_rfl) (by kernel_rfl) (by kernel_rfl) (fun _ _ _ h => h) (Or.inl ⟨by rfl, (by intro w hSw; (try dsimp only at hSw); go_simp; try with_reducible rfl)⟩) (by assumption) ?_
  go_simp
  refine wpAnyH_take (i := 3) (v := _) rfl (by kernel_rfl) (by kernel_rfl) (by kernel_rfl) (fun _ _ _ h => h) (Or.inl ⟨by rfl, (by intro w hSw; (try dsimp only at hSw); go_simp; try with_reducible rfl)⟩) (by assumption) ?_
  go_simp
  refine wpAnyH_take (i := 4) (v := _) rfl (by kernel_rfl) (by kernel_rfl) (by kernel_rfl) (fun _ _ _ h => h) (Or.inl ⟨by rfl, (by intro w hSw; (try dsimp only at hSw); go_simp; try with_reducible rfl)⟩) (by assumption) ?_
  go_simp
  refine wpAnyH_take (i := 5) (v := _) rfl (by kernel_rfl) (by kernel_rfl) (by kernel_rfl) (fun _ _ _ h => h) (Or.inl ⟨by rfl, (by intro w hSw; (try dsimp only at hSw); go_simp; try with_reducible rfl)⟩) (by assumption) ?_
  go_simp
  refine wpAnyH_take (i := 6) (v := _) rfl (by kernel_rfl) (by kernel_rfl) (by kernel_rfl) (fun _ _ _ h => h) (Or.inl ⟨by rfl, (by intro w hSw; (try dsimp only at hSw); go_simp; try with_reducible rfl)⟩) (by assumption) ?_
  go_simp
  refine wpAnyH_ready (rs := [7, 9]) (by kernel_rfl) (by simp) ?_
  refine AllReadyH.cons rfl (fun K hK => ?_) (AllReadyH.cons rfl (fun K hK => ?_) AllReadyH.nil)
  · go_simp
    refine (k0.out _).mono ?_
    rintro e w' ⟨rfl, rfl⟩
    refine hK.out _ _ ⟨(lastC_cells (D.out.get 2 rfl : Own _ _ _ _ (lastC x))).1, (lastC_cells (D.out.get 2 rfl : Own _ _ _ _ (lastC x))).2.1, (gradeC_cells (D.out.get 1 rfl : Own _ _ _ _ (gradeC g))).1⟩ (fun hHeld => ?_)
    clear hK K
    go_simp
    refine wpAnyH_take (i := 8) (v := _) rfl (by kernel_rfl) (by kernel_rfl) (by kernel_rfl) (fun _ _ _ h => h) (Or.inl ⟨by rfl, (by intro w hSw; (try dsimp only at hSw); go_simp; try with_reducible rfl)⟩) (by assumption) ?_
    go_simp
    refine wpAnyH_ready (rs := [9]) (by kernel_rfl) (by simp) ?_
    refine AllReadyH.cons rfl (fun K hK => ?_) AllReadyH.nil
    go_simp
    obtain ⟨wt, hwt⟩ : ∃ wt, wt = wo.alloc (.cells #[.string { data := #[] }, .int .i64 0, .int .i64 0, .int .i64 0, .int .i64 0, .int .i64 0] 30) := ⟨_, rfl⟩
    rw [← hwt]
    have hst : Below wo.heap.size wo wt := by rw [hwt]; exact newB _ _
    have V0 : Own wo.heap.size wt 30 (.slice (some ⟨wo.heap.size, 0, none⟩) 1 1) [lastZ] := by rw [hwt]; exact own_last1 wo _ lastZ
    clear hwt
    replace D := Lib.hid (D.out.add hst V0)
    obtain ⟨nx, hnx⟩ : ∃ b, b = wo.heap.size := ⟨_, rfl⟩
    rw [← hnx] at D ⊢
    clear hnx hst V0
    refine hK.out _ _ ⟨(lastC_cells (D.out.get 3 rfl : Own _ _ _ _ (lastC x))).1, (lastC_cells (D.out.get 3 rfl : Own _ _ _ _ (lastC x))).2.1, (gradeC_cells (D.out.get 2 rfl : Own _ _ _ _ (gradeC g))).1⟩ (fun hHeld => ?_)
    clear hK K
    go_simp
    refine wpAnyH_ready (rs := [10]) (by kernel_rfl) (by simp) ?_
    refine AllReadyH.cons rfl (fun K hK => ?_) AllReadyH.nil
    refine cast (if_pos (by rfl)).symm ?_
    refine wp_store_own 30 (.tmp 7) (.tmp 16) rfl w.heap.size 30 nx 1 1 [lastZ] 0 _ (⟨x.Name, a0, 0, 0, 0, 0⟩ : Last) rfl rfl rfl (by kernel_rfl) rfl (D.out.get 0 rfl) (by simp) ?_
    intro wz V1 hgz
    replace D := Lib.hid (D.out.set 0 rfl V1 hgz (Or.inl rfl))
    refine hK.out _ _ ⟨(lastC_cells (D.out.get 3 rfl : Own _ _ _ _ (lastC x))).1, (lastC_cells (D.out.get 3 rfl : Own _ _ _ _ (lastC x))).2.1, (gradeC_cells (D.out.get 2 rfl : Own _ _ _ _ (gradeC g))).1⟩ (fun hHeld => ?_)
    clear hK K V1 hgz
    go_simp
    refine wpAnyH_done (by kernel_rfl) ?_ _
    replace D := Lib.hid (D.out.set 0 rfl (own_cells6 (D.out.get 0 rfl : Own _ _ _ _ [(⟨x.Name, a0, 0, 0, 0, 0⟩ : Last)])) (World.grownBy.refl _ _) (Or.inl rfl))
    obtain ⟨x0, x1, x2, x3, x4, x5⟩ := lastC_cells (D.out.get 3 rfl : Own _ _ _ _ (lastC x))
    obtain ⟨g0, g1, g2, g3, g4⟩ := gradeC_cells (D.out.get 2 rfl : Own _ _ _ _ (gradeC g))
    go_wp2_with (first | (go_at_call 78; (first | (with_reducible refine (k1.out _).mono ?_) | (with_reducible refine (k2.out _).mono ?_) | (with_reducible refine (k3.out _).mono ?_) | (with_reducible refine (k4.out _).mono ?_)); rintro e w' ⟨rfl, rfl⟩) | ((with_reducible refine at_st 2 (.tmp 23) (.tmp 22) ?_); refine wpList_store_own rfl 2 (.tmp 23) (.tmp 22) rfl w.heap.size 30 nx 6 6 (lastC ⟨x.Name, a0, 0, 0, 0, 0⟩) 2 2 (⟨.int .i64 a1, rfl⟩ : OneCell) rfl rfl rfl (by kernel_rfl) rfl (D.out.get 0 rfl) (by show 2 < 6; omega) ?_; intro wz hRz hgz; replace D := Lib.hid (D.out.set 0 rfl (hRz : Own _ _ _ _ (lastC ⟨x.Name, a0, a1, 0, 0, 0⟩)) hgz (Or.inl rfl)); clear hRz hgz x0 x1 x2 x3 x4 x5 g0 g1 g2 g3 g4; obtain ⟨x0, x1, x2, x3, x4, x5⟩ := lastC_cells (D.out.get 3 rfl : Own _ _ _ _ (lastC x)); obtain ⟨g0, g1, g2, g3, g4⟩ := gradeC_cells (D.out.get 2 rfl : Own _ _ _ _ (gradeC g)); have y0 := lastC_cells (D.out.get 0 rfl : Own _ _ _ _ (lastC ⟨x.Name, a0, a1, 0, 0, 0⟩)); obtain ⟨y0, y1, y2, y3, y4, y5⟩ := y0) | ((with_reducible refine at_st 2 (.tmp 30) (.tmp 29) ?_); refine wpList_store_own rfl 2 (.tmp 30) (.tmp 29) rfl w.heap.size 30 nx 6 6 (lastC ⟨x.Name, a0, a1, 0, 0, 0⟩) 3 3 (⟨.int .i64 a2, rfl⟩ : OneCell) rfl rfl rfl (by kernel_rfl) rfl (D.out.get 0 rfl) (by show 3 < 6; omega) ?_; intro wz hRz hgz; replace D := Lib.hid (D.out.set 0 rfl (hRz : Own _ _ _ _ (lastC ⟨x.Name, a0, a1, a2, 0, 0⟩)) hgz (Or.inl rfl)); clear hRz hgz x0 x1 x2 x3 x4 x5 g0 g1 g2 g3 g4; obtain ⟨x0, x1, x2, x3, x4, x5⟩ := lastC_cells (D.out.get 3 rfl : Own _ _ _ _ (lastC x)); obtain ⟨g0, g1, g2, g3, g4⟩ := gradeC_cells (D.out.get 2 rfl : Own _ _ _ _ (gradeC g)); have y0 := lastC_cells (D.out.get 0 rfl : Own _ _ _ _ (lastC ⟨x.Name, a0, a1, a2, 0, 0⟩)); obtain ⟨y0, y1, y2, y3, y4, y5⟩ := y0) | ((with_reducible refine at_st 2 (.tmp 37) (.tmp 36) ?_); refine wpList_store_own rfl 2 (.tmp 37) (.tmp 36) rfl w.heap.size 30 nx 6 6 (lastC ⟨x.Name, a0, a1, a2, 0, 0⟩) 4 4 (⟨.int .i64 a3, rfl⟩ : OneCell) rfl rfl rfl (by kernel_rfl) rfl (D.out.get 0 rfl) (by show 4 < 6; omega) ?_; intro wz hRz hgz; replace D := Lib.hid (D.out.set 0 rfl (hRz : Own _ _ _ _ (lastC ⟨x.Name, a0, a1, a2, a3, 0⟩)) hgz (Or.inl rfl)); clear hRz hgz x0 x1 x2 x3 x4 x5 g0 g1 g2 g3 g4; obtain ⟨x0, x1, x2, x3, x4, x5⟩ := lastC_cells (D.out.get 3 rfl : Own _ _ _ _ (lastC x)); obtain ⟨g0, g1, g2, g3, g4⟩ := gradeC_cells (D.out.get 2 rfl : Own _ _ _ _ (gradeC g)); have y0 := lastC_cells (D.out.get 0 rfl : Own _ _ _ _ (lastC ⟨x.Name, a0, a1, a2, a3, 0⟩)); obtain ⟨y0, y1, y2, y3, y4, y5⟩ := y0) | ((with_reducible refine at_st 2 (.tmp 44) (.tmp 43) ?_); refine wpList_store_own rfl 2 (.tmp 44) (.tmp 43) rfl w.heap.size 30 nx 6 6 (lastC ⟨x.Name, a0, a1, a2, a3, 0⟩) 5 5 (⟨.int .i64 a4, rfl⟩ : OneCell) rfl rfl rfl (by kernel_rfl) rfl (D.out.get 0 rfl) (by show 5 < 6; omega) ?_; intro wz hRz hgz; replace D := Lib.hid (D.out.set 0 rfl (hRz : Own _ _ _ _ (lastC ⟨x.Name, a0, a1, a2, a3, a4⟩)) hgz (Or.inl rfl)); clear hRz hgz x0 x1 x2 x3 x4 x5 g0 g1 g2 g3 g4; obtain ⟨x0, x1, x2, x3, x4, x5⟩ := lastC_cells (D.out.get 3 rfl : Own _ _ _ _ (lastC x)); obtain ⟨g0, g1, g2, g3, g4⟩ := gradeC_cells (D.out.get 2 rfl : Own _ _ _ _ (gradeC g)); have y0 := lastC_cells (D.out.get 0 rfl : Own _ _ _ _ (lastC ⟨x.Name, a0, a1, a2, a3, a4⟩)); obtain ⟨y0, y1, y2, y3, y4, y5⟩ := y0) | ((with_reducible refine at_st 30 (.tmp 6) (.tmp 45) ?_); refine Hid.out ?_))
    refine Lib.hid ?_
    refine wpList_store_own rfl 30 (.tmp 6) (.tmp 45) rfl w.heap.size 30 _ 1 1 [lastZ] 0 _ (⟨x.Name, a0, a1, a2, a3, a4⟩ : Last) rfl rfl rfl (by kernel_rfl) rfl (D.out.get 1 rfl) (by simp) ?_
    intro wz hRz hgz
    replace D := Lib.hid (D.out.set 1 rfl hRz hgz (Or.inl rfl))
    obtain ⟨q0, q1, q2, q3, q4, q5⟩ := last1_cells hRz
    go_wp2_with fail
    refine bodyPost_ret (v := .agg #[.string (⟨x.Name, a0, a1, a2, a3, a4⟩ : Last).Name, .int .i64 (⟨x.Name, a0, a1, a2, a3, a4⟩ : Last).Length, .int .i64 (⟨x.Name, a0, a1, a2, a3, a4⟩ : Last).Ball, .int .i64 (⟨x.Name, a0, a1, a2, a3, a4⟩ : Last).Instep, .int .i64 (⟨x.Name, a0, a1, a2, a3, a4⟩ : Last).Heel, .int .i64 (⟨x.Name, a0, a1, a2, a3, a4⟩ : Last).Pitch]) (by simp [results, Tryz.results70, go_sem, q0, q1, q2, q3, q4, q5]) rfl ?_
    exact ⟨rfl, D.out.up⟩
  · go_simp
    obtain ⟨wt, hwt⟩ : ∃ wt, wt = wo.alloc (.cells #[.string { data := #[] }, .int .i64 0, .int .i64 0, .int .i64 0, .int .i64 0, .int .i64 0] 30) := ⟨_, rfl⟩
    rw [← hwt]
    have hst : Below wo.heap.size wo wt := by rw [hwt]; exact newB _ _
    have V0 : Own wo.heap.size wt 30 (.slice (some ⟨wo.heap.size, 0, none⟩) 1 1) [lastZ] := by rw [hwt]; exact own_last1 wo _ lastZ
    clear hwt
    replace D := Lib.hid (D.out.add hst V0)
    obtain ⟨nx, hnx⟩ : ∃ b, b = wo.heap.size := ⟨_, rfl⟩
    rw [← hnx] at D ⊢
    clear hnx hst V0
    refine hK.out _ _ ⟨(lastC_cells (D.out.get 3 rfl : Own _ _ _ _ (lastC x))).1, (lastC_cells (D.out.get 3 rfl : Own _ _ _ _ (lastC x))).2.1, (gradeC_cells (D.out.get 2 rfl : Own _ _ _ _ (gradeC g))).1⟩ (fun hHeld => ?_)
    clear hK K
    go_simp
    refine wpAnyH_ready (rs := [7]) (by kernel_rfl) (by simp) ?_
    refine AllReadyH.cons rfl (fun K hK => ?_) AllReadyH.nil
    go_simp
    refine (k0.out _).mono ?_
    rintro e w' ⟨rfl, rfl⟩
    refine hK.out _ _ ⟨(lastC_cells (D.out.get 3 rfl : Own _ _ _ _ (lastC x))).1, (lastC_cells (D.out.get 3 rfl : Own _ _ _ _ (lastC x))).2.1, (gradeC_cells (D.out.get 2 rfl : Own _ _ _ _ (gradeC g))).1⟩ (fun hHeld => ?_)
    clear hK K
    go_simp
    refine wpAnyH_take (i := 8) (v := _) rfl (by kernel_rfl) (by kernel_rfl) (by kernel_rfl) (fun _ _ _ h => h) (Or.inl ⟨by rfl, (by intro w hSw; (try dsimp only at hSw); go_simp; try with_reducible rfl)⟩) (by assumption) ?_
    go_simp
    refine wpAnyH_ready (rs := [10]) (by kernel_rfl) (by simp) ?_
    refine AllReadyH.cons rfl (fun K hK => ?_) AllReadyH.nil
    refine cast (if_pos (by rfl)).symm ?_
    refine wp_store_own 30 (.tmp 7) (.tmp 16) rfl w.heap.size 30 nx 1 1 [lastZ] 0 _ (⟨x.Name, a0, 0, 0, 0, 0⟩ : Last) rfl rfl rfl (by kernel_rfl) rfl (D.out.get 0 rfl) (by simp) ?_
    intro wz V1 hgz
    replace D := Lib.hid (D.out.set 0 rfl V1 hgz (Or.inl rfl))
    refine hK.out _ _ ⟨(lastC_cells (D.out.get 3 rfl : Own _ _ _ _ (lastC x))).1, (lastC_cells (D.out.get 3 rfl : Own _ _ _ _ (lastC x))).2.1, (gradeC_cells (D.out.get 2 rfl : Own _ _ _ _ (gradeC g))).1⟩ (fun hHeld => ?_)
    clear hK K V1 hgz
    go_simp
    refine wpAnyH_done (by kernel_rfl) ?_ _
    replace D := Lib.hid (D.out.set 0 rfl (own_cells6 (D.out.get 0 rfl : Own _ _ _ _ [(⟨x.Name, a0, 0, 0, 0, 0⟩ : Last)])) (World.grownBy.refl _ _) (Or.inl rfl))
    obtain ⟨x0, x1, x2, x3, x4, x5⟩ := lastC_cells (D.out.get 3 rfl : Own _ _ _ _ (lastC x))
    obtain ⟨g0, g1, g2, g3, g4⟩ := gradeC_cells (D.out.get 2 rfl : Own _ _ _ _ (gradeC g))
    go_wp2_with (first | (go_at_call 78; (first | (with_reducible refine (k1.out _).mono ?_) | (with_reducible refine (k2.out _).mono ?_) | (with_reducible refine (k3.out _).mono ?_) | (with_reducible refine (k4.out _).mono ?_)); rintro e w' ⟨rfl, rfl⟩) | ((with_reducible refine at_st 2 (.tmp 23) (.tmp 22) ?_); refine wpList_store_own rfl 2 (.tmp 23) (.tmp 22) rfl w.heap.size 30 nx 6 6 (lastC ⟨x.Name, a0, 0, 0, 0, 0⟩) 2 2 (⟨.int .i64 a1, rfl⟩ : OneCell) rfl rfl rfl (by kernel_rfl) rfl (D.out.get 0 rfl) (by show 2 < 6; omega) ?_; intro wz hRz hgz; replace D := Lib.hid (D.out.set 0 rfl (hRz : Own _ _ _ _ (lastC ⟨x.Name, a0, a1, 0, 0, 0⟩)) hgz (Or.inl rfl)); clear hRz hgz x0 x1 x2 x3 x4 x5 g0 g1 g2 g3 g4; obtain ⟨x0, x1, x2, x3, x4, x5⟩ := lastC_cells (D.out.get 3 rfl : Own _ _ _ _ (lastC x)); obtain ⟨g0, g1, g2, g3, g4⟩ := gradeC_cells (D.out.get 2 rfl : Own _ _ _ _ (gradeC g)); have y0 := lastC_cells (D.out.get 0 rfl : Own _ _ _ _ (lastC ⟨x.Name, a0, a1, 0, 0, 0⟩)); obtain ⟨y0, y1, y2, y3, y4, y5⟩ := y0) | ((with_reducible refine at_st 2 (.tmp 30) (.tmp 29) ?_); refine wpList_store_own rfl 2 (.tmp 30) (.tmp 29) rfl w.heap.size 30 nx 6 6 (lastC ⟨x.Name, a0, a1, 0, 0, 0⟩) 3 3 (⟨.int .i64 a2, rfl⟩ : OneCell) rfl rfl rfl (by kernel_rfl) rfl (D.out.get 0 rfl) (by show 3 < 6; omega) ?_; intro wz hRz hgz; replace D := Lib.hid (D.out.set 0 rfl (hRz : Own _ _ _ _ (lastC ⟨x.Name, a0, a1, a2, 0, 0⟩)) hgz (Or.inl rfl)); clear hRz hgz x0 x1 x2 x3 x4 x5 g0 g1 g2 g3 g4; obtain ⟨x0, x1, x2, x3, x4, x5⟩ := lastC_cells (D.out.get 3 rfl : Own _ _ _ _ (lastC x)); obtain ⟨g0, g1, g2, g3, g4⟩ := gradeC_cells (D.out.get 2 rfl : Own _ _ _ _ (gradeC g)); have y0 := lastC_cells (D.out.get 0 rfl : Own _ _ _ _ (lastC ⟨x.Name, a0, a1, a2, 0, 0⟩)); obtain ⟨y0, y1, y2, y3, y4, y5⟩ := y0) | ((with_reducible refine at_st 2 (.tmp 37) (.tmp 36) ?_); refine wpList_store_own rfl 2 (.tmp 37) (.tmp 36) rfl w.heap.size 30 nx 6 6 (lastC ⟨x.Name, a0, a1, a2, 0, 0⟩) 4 4 (⟨.int .i64 a3, rfl⟩ : OneCell) rfl rfl rfl (by kernel_rfl) rfl (D.out.get 0 rfl) (by show 4 < 6; omega) ?_; intro wz hRz hgz; replace D := Lib.hid (D.out.set 0 rfl (hRz : Own _ _ _ _ (lastC ⟨x.Name, a0, a1, a2, a3, 0⟩)) hgz (Or.inl rfl)); clear hRz hgz x0 x1 x2 x3 x4 x5 g0 g1 g2 g3 g4; obtain ⟨x0, x1, x2, x3, x4, x5⟩ := lastC_cells (D.out.get 3 rfl : Own _ _ _ _ (lastC x)); obtain ⟨g0, g1, g2, g3, g4⟩ := gradeC_cells (D.out.get 2 rfl : Own _ _ _ _ (gradeC g)); have y0 := lastC_cells (D.out.get 0 rfl : Own _ _ _ _ (lastC ⟨x.Name, a0, a1, a2, a3, 0⟩)); obtain ⟨y0, y1, y2, y3, y4, y5⟩ := y0) | ((with_reducible refine at_st 2 (.tmp 44) (.tmp 43) ?_); refine wpList_store_own rfl 2 (.tmp 44) (.tmp 43) rfl w.heap.size 30 nx 6 6 (lastC ⟨x.Name, a0, a1, a2, a3, 0⟩) 5 5 (⟨.int .i64 a4, rfl⟩ : OneCell) rfl rfl rfl (by kernel_rfl) rfl (D.out.get 0 rfl) (by show 5 < 6; omega) ?_; intro wz hRz hgz; replace D := Lib.hid (D.out.set 0 rfl (hRz : Own _ _ _ _ (lastC ⟨x.Name, a0, a1, a2, a3, a4⟩)) hgz (Or.inl rfl)); clear hRz hgz x0 x1 x2 x3 x4 x5 g0 g1 g2 g3 g4; obtain ⟨x0, x1, x2, x3, x4, x5⟩ := lastC_cells (D.out.get 3 rfl : Own _ _ _ _ (lastC x)); obtain ⟨g0, g1, g2, g3, g4⟩ := gradeC_cells (D.out.get 2 rfl : Own _ _ _ _ (gradeC g)); have y0 := lastC_cells (D.out.get 0 rfl : Own _ _ _ _ (lastC ⟨x.Name, a0, a1, a2, a3, a4⟩)); obtain ⟨y0, y1, y2, y3, y4, y5⟩ := y0) | ((with_reducible refine at_st 30 (.tmp 6) (.tmp 45) ?_); refine Hid.out ?_))
    refine Lib.hid ?_
    refine wpList_store_own rfl 30 (.tmp 6) (.tmp 45) rfl w.heap.size 30 _ 1 1 [lastZ] 0 _ (⟨x.Name, a0, a1, a2, a3, a4⟩ : Last) rfl rfl rfl (by kernel_rfl) rfl (D.out.get 1 rfl) (by simp) ?_
    intro wz hRz hgz
    replace D := Lib.hid (D.out.set 1 rfl hRz hgz (Or.inl rfl))
    obtain ⟨q0, q1, q2, q3, q4, q5⟩ := last1_cells hRz
    go_wp2_with fail
    refine bodyPost_ret (v := .agg #[.string (⟨x.Name, a0, a1, a2, a3, a4⟩ : Last).Name, .int .i64 (⟨x.Name, a0, a1, a2, a3, a4⟩ : Last).Length, .int .i64 (⟨x.Name, a0, a1, a2, a3, a4⟩ : Last).Ball, .int .i64 (⟨x.Name, a0, a1, a2, a3, a4⟩ : Last).Instep, .int .i64 (⟨x.Name, a0, a1, a2, a3, a4⟩ : Last).Heel, .int .i64 (⟨x.Name, a0, a1, a2, a3, a4⟩ : Last).Pitch]) (by simp [results, Tryz.results70, go_sem, q0, q1, q2, q3, q4, q5]) rfl ?_
    exact ⟨rfl, D.out.up⟩

end Go.Proofs.YtaeinllbjkjhlaaGreatDoor
