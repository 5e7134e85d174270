/- Chapter 5, gradings: grades and lasts that are drawn. (Printed by wip/genGr9.py.) -/
import Derived.Test.YtaeinllbjkjhlaaGreatDoorGr8
import Derived.Test.YtaeinllbjkjhlaaGreatDoorSpl
import Derived.Test.YtaeinllbjkjhlaaGreatDoorF05
namespace Go.Proofs.YtaeinllbjkjhlaaGreatDoor
open Go.RowKit

theorem l02DrawN_c (g M : Nat) (w : World) (hS : SrcAt w g (M + 4)) :
    Calls Tryz.prog 37 #[.pointer (some ⟨g, 0, none⟩)] w fun e w' => ∃ f : Foot, e = .returned (.agg #[.int .i64 f.Length, .int .i64 f.Ball, .int .i64 f.Instep, .int .i64 f.Heel]) ∧ DrawnF f ∧ SrcAt w' g M ∧ w.grownBy w' (some g) := by
  obtain ⟨L, q, sd, hI⟩ := hS.is
  refine (l02Draw_d g M L q sd w hI).mono ?_
  rintro e w' ⟨rfl, hS', hg⟩
  exact ⟨_, rfl, footD_is _ _ _, hS'.src, hg⟩
theorem own_cells5 {B : Nat} {w : World} {e : TypeId} {g : Nat} {x : Grade} (h : Own B w e (.slice (some ⟨g, 0, none⟩) 1 1) [x]) : Own B w e (.slice (some ⟨g, 0, none⟩) 5 5) (gradeC x) := by
  obtain ⟨h1, h2⟩ := h
  refine ⟨rfl, .inr ?_⟩
  rcases h2 with ⟨h2, _⟩ | ⟨g', cap, cur, h3, hb, hg, hn, hm, hs, ht⟩
  · simp at h2
  · simp only [Value.slice.injEq, Option.some.injEq, Addr.mk.injEq, and_true] at h3
    obtain ⟨rfl, -, rfl⟩ := h3
    exact ⟨g, 5, cur, rfl, hb, hg, Nat.le_refl _, by unfold maxLen; omega, hs, ht⟩
set_option maxRecDepth 100000 in
set_option maxHeartbeats 3200000 in
theorem l05Draw_c (g M : Nat) (w : World) (hS : SrcAt w g (M + 10)) :
    Calls Tryz.prog 71 #[.pointer (some ⟨g, 0, none⟩)] w fun e w' => ∃ x : Grade, e = .returned (.agg #[.int .i64 x.Length, .int .i64 x.Ball, .int .i64 x.Instep, .int .i64 x.Heel, .int .i64 x.Pitch]) ∧ okGrade x = true ∧ SrcAt w' g M ∧ w.grownBy w' (some g) := by
  have hgl := hS.lt
  obtain ⟨w1, hw1⟩ : ∃ w1, w1 = w.alloc (.cells #[.int .i64 0, .int .i64 0, .int .i64 0, .int .i64 0, .int .i64 0] 42) := ⟨_, rfl⟩
  have D := Lib.hid ((Dr.start hS).add (w' := w1) (by rw [hw1]; exact newB w _) (by rw [hw1]; exact own_grade1 w 42 gradeZ))
  replace hw1 := Lib.hid hw1
  clear hS
  go_enter Tryz.func71, Tryz.ntmps71
  go_wp2_with (rw [← hw1.out])
  refine (pick_c g (M + 8) 60 _ (D.out.src.less (by omega)) (by omega) (by omega)).mono ?_
  rintro e w2 ⟨p0, rfl, p00, p01, hS2, hg2⟩
  replace D := Lib.hid (D.out.drew hS2 hg2)
  clear hS2 hg2
  have h0 : IntKind.i64.wrap (100 * p0) = 100 * p0 := IntWalk.i64_in _ (by omega)
  obtain ⟨wn, hwn⟩ : ∃ wn, wn = w2.alloc (.cells #[.int .i64 (100 * p0), .int .i64 0, .int .i64 0, .int .i64 0, .int .i64 0] 42) := ⟨_, rfl⟩
  replace D := Lib.hid (D.out.add (w' := wn) (by rw [hwn]; exact newB w2 _) (by rw [hwn]; exact own_gradeC w2 42 ⟨100 * p0, 0, 0, 0, 0⟩))
  replace hwn := Lib.hid hwn
  obtain ⟨nx, hnx⟩ : ∃ b, b = w2.heap.size := ⟨_, rfl⟩
  go_wp2_with (rw [← hwn.out])
  rw [← hnx] at D ⊢
  clear hnx hwn w2
  refine (pick_c g (M + 6) 60 _ (D.out.src.less (by omega)) (by omega) (by omega)).mono ?_
  rintro e w2 ⟨p1, rfl, p10, p11, hS2, hg2⟩
  replace D := Lib.hid (D.out.drew hS2 hg2)
  clear hS2 hg2
  have h1 : IntKind.i64.wrap (50 * p1) = 50 * p1 := IntWalk.i64_in _ (by omega)
  go_wp2_with ((with_reducible refine at_st 2 (.tmp 11) (.tmp 10) ?_); refine wpList_store_own rfl 2 (.tmp 11) (.tmp 10) rfl w.heap.size 42 nx 5 5 (gradeC ⟨100 * p0, 0, 0, 0, 0⟩) 1 1 (⟨.int .i64 (50 * p1), rfl⟩ : OneCell) rfl rfl rfl (by kernel_rfl) rfl (D.out.get 0 rfl) (by show 1 < 5; omega) ?_; intro wz hRz hgz)
  replace D := Lib.hid (D.out.set 0 rfl (hRz : Own _ _ _ _ (gradeC ⟨100 * p0, 50 * p1, 0, 0, 0⟩)) hgz (Or.inl rfl))
  clear hRz hgz
  refine (pick_c g (M + 4) 60 _ (D.out.src.less (by omega)) (by omega) (by omega)).mono ?_
  rintro e w2 ⟨p2, rfl, p20, p21, hS2, hg2⟩
  replace D := Lib.hid (D.out.drew hS2 hg2)
  clear hS2 hg2
  have h2 : IntKind.i64.wrap (50 * p2) = 50 * p2 := IntWalk.i64_in _ (by omega)
  go_wp2_with ((with_reducible refine at_st 2 (.tmp 15) (.tmp 14) ?_); refine wpList_store_own rfl 2 (.tmp 15) (.tmp 14) rfl w.heap.size 42 nx 5 5 (gradeC ⟨100 * p0, 50 * p1, 0, 0, 0⟩) 2 2 (⟨.int .i64 (50 * p2), rfl⟩ : OneCell) rfl rfl rfl (by kernel_rfl) rfl (D.out.get 0 rfl) (by show 2 < 5; omega) ?_; intro wz hRz hgz)
  replace D := Lib.hid (D.out.set 0 rfl (hRz : Own _ _ _ _ (gradeC ⟨100 * p0, 50 * p1, 50 * p2, 0, 0⟩)) hgz (Or.inl rfl))
  clear hRz hgz
  refine (pick_c g (M + 2) 80 _ (D.out.src.less (by omega)) (by omega) (by omega)).mono ?_
  rintro e w2 ⟨p3, rfl, p30, p31, hS2, hg2⟩
  replace D := Lib.hid (D.out.drew hS2 hg2)
  clear hS2 hg2
  have h3 : IntKind.i64.wrap (25 * p3) = 25 * p3 := IntWalk.i64_in _ (by omega)
  go_wp2_with ((with_reducible refine at_st 2 (.tmp 19) (.tmp 18) ?_); refine wpList_store_own rfl 2 (.tmp 19) (.tmp 18) rfl w.heap.size 42 nx 5 5 (gradeC ⟨100 * p0, 50 * p1, 50 * p2, 0, 0⟩) 3 3 (⟨.int .i64 (25 * p3), rfl⟩ : OneCell) rfl rfl rfl (by kernel_rfl) rfl (D.out.get 0 rfl) (by show 3 < 5; omega) ?_; intro wz hRz hgz)
  replace D := Lib.hid (D.out.set 0 rfl (hRz : Own _ _ _ _ (gradeC ⟨100 * p0, 50 * p1, 50 * p2, 25 * p3, 0⟩)) hgz (Or.inl rfl))
  clear hRz hgz
  refine (pick_c g (M + 0) 30 _ (D.out.src.less (by omega)) (by omega) (by omega)).mono ?_
  rintro e w2 ⟨p4, rfl, p40, p41, hS2, hg2⟩
  replace D := Lib.hid (D.out.drew hS2 hg2)
  clear hS2 hg2
  have h4 : IntKind.i64.wrap (10 * p4) = 10 * p4 := IntWalk.i64_in _ (by omega)
  go_wp2_with (first | ((with_reducible refine at_st 2 (.tmp 23) (.tmp 22) ?_); refine wpList_store_own rfl 2 (.tmp 23) (.tmp 22) rfl w.heap.size 42 nx 5 5 (gradeC ⟨100 * p0, 50 * p1, 50 * p2, 25 * p3, 0⟩) 4 4 (⟨.int .i64 (10 * p4), rfl⟩ : OneCell) rfl rfl rfl (by kernel_rfl) rfl (D.out.get 0 rfl) (by show 4 < 5; omega) ?_; intro wz hRz hgz; replace D := Lib.hid (D.out.set 0 rfl (hRz : Own _ _ _ _ (gradeC ⟨100 * p0, 50 * p1, 50 * p2, 25 * p3, 10 * p4⟩)) hgz (Or.inl rfl)); clear hRz hgz; obtain ⟨y0, y1, y2, y3, y4⟩ := gradeC_cells (D.out.get 0 rfl : Own _ _ _ _ (gradeC ⟨100 * p0, 50 * p1, 50 * p2, 25 * p3, 10 * p4⟩))) | ((with_reducible refine at_st 42 (.tmp 2) (.tmp 24) ?_); refine Hid.out ?_))
  refine Lib.hid ?_
  refine wpList_store_own rfl 42 (.tmp 2) (.tmp 24) rfl w.heap.size 42 _ 1 1 [gradeZ] 0 _ (⟨100 * p0, 50 * p1, 50 * p2, 25 * p3, 10 * p4⟩ : Grade) rfl rfl rfl (by kernel_rfl) rfl (D.out.get 1 rfl) (by simp) ?_
  intro wz hRz hgz
  replace D := Lib.hid (D.out.set 1 rfl hRz hgz (Or.inl rfl))
  obtain ⟨q0, q1, q2, q3, q4⟩ := grade1_cells hRz
  go_wp2_with fail
  refine bodyPost_ret (v := .agg #[.int .i64 (⟨100 * p0, 50 * p1, 50 * p2, 25 * p3, 10 * p4⟩ : Grade).Length, .int .i64 (⟨100 * p0, 50 * p1, 50 * p2, 25 * p3, 10 * p4⟩ : Grade).Ball, .int .i64 (⟨100 * p0, 50 * p1, 50 * p2, 25 * p3, 10 * p4⟩ : Grade).Instep, .int .i64 (⟨100 * p0, 50 * p1, 50 * p2, 25 * p3, 10 * p4⟩ : Grade).Heel, .int .i64 (⟨100 * p0, 50 * p1, 50 * p2, 25 * p3, 10 * p4⟩ : Grade).Pitch]) (by simp [results, Tryz.results71, go_sem, q0, q1, q2, q3, q4]) rfl ?_
  exact ⟨_, rfl, okGrade_iff.2 (show (0 ≤ 100 * p0 ∧ 100 * p0 ≤ 20000) ∧ (0 ≤ 50 * p1 ∧ 50 * p1 ≤ 20000) ∧ (0 ≤ 50 * p2 ∧ 50 * p2 ≤ 20000) ∧ (0 ≤ 25 * p3 ∧ 25 * p3 ≤ 20000) ∧ (0 ≤ 10 * p4 ∧ 10 * p4 ≤ 20000) by omega), D.out.src.less (by omega), D.out.up⟩
set_option maxRecDepth 100000 in
set_option maxHeartbeats 3200000 in
theorem l05DrawSteps_c (g M : Nat) (w : World) (hS : SrcAt w g (M + 4)) :
    Calls Tryz.prog 58 #[.pointer (some ⟨g, 0, none⟩)] w fun e w' => ∃ v : Int, e = .returned (.int .i64 v) ∧ (-9223372036854775808 ≤ v ∧ v ≤ 31) ∧ SrcAt w' g M ∧ w.grownBy w' (some g) := by
  go_enter Tryz.func58, Tryz.ntmps58
  go_wp2_with fail
  refine (one_c g (M + 2) 8 w hS (by omega) (by omega)).mono ?_
  rintro e w2 ⟨b, rfl, hS2, hg2⟩
  cases b
  · go_wp2_with fail
    refine (pick_c g M 20 w2 hS2 (by omega) (by omega)).mono ?_
    rintro e w3 ⟨v, rfl, v0, v1, hS3, hg3⟩
    have hv : IntKind.i64.wrap (v - 8) = v - 8 := IntWalk.i64_in _ (by omega)
    go_wp2_with fail
    go_ret
    exact ⟨_, rfl, ⟨by omega, by omega⟩, hS3, grownBy_trans hg2 hg3⟩
  · have hgl := hS2.lt
    obtain ⟨wl, hwl⟩ : ∃ wl, wl = w2.alloc (.cells #[.int .i64 (-31), .int .i64 (-30), .int .i64 0, .int .i64 30, .int .i64 31, .int .i64 (-9223372036854775808)] 2) := ⟨_, rfl⟩
    have hbl : Below w2.heap.size w2 wl := by rw [hwl]; exact newB _ _
    have hA : At wl (some ⟨w2.heap.size, 0, none⟩) ([-31, -30, 0, 30, 31, -9223372036854775808] : List Int) := by rw [hwl]; exact at_lits w2 2 [-31, -30, 0, 30, 31, -9223372036854775808]
    replace hwl := Lib.hid hwl
    go_wp2_with (rw [← hwl.out])
    refine (among_c g M _ [-31, -30, 0, 30, 31, -9223372036854775808] 6 wl (hS2.later hbl) hA (off_gtS hgl) (by decide) (by decide)).mono ?_
    rintro e w3 ⟨v, rfl, hv, hS3, hg3⟩
    have hv : -9223372036854775808 ≤ v ∧ v ≤ 31 := by
      simp only [List.mem_cons, List.not_mem_nil, or_false] at hv
      omega
    go_wp2_with fail
    go_ret
    exact ⟨_, rfl, hv, hS3, grownBy_trans (grownBy_trans hg2 (drew_below g hbl)) hg3⟩
set_option maxRecDepth 100000 in
set_option maxHeartbeats 3200000 in
theorem l05Bent_c (g M : Nat) (w : World) (hS : SrcAt w g (M + 14)) :
    Calls Tryz.prog 57 #[.pointer (some ⟨g, 0, none⟩)] w fun e w' => ∃ x : Grade, e = .returned (.agg #[.int .i64 x.Length, .int .i64 x.Ball, .int .i64 x.Instep, .int .i64 x.Heel, .int .i64 x.Pitch]) ∧ SrcAt w' g M ∧ w.grownBy w' (some g) := by
  have hgl := hS.lt
  obtain ⟨w1, hw1⟩ : ∃ w1, w1 = w.alloc (.cells #[.int .i64 0, .int .i64 0, .int .i64 0, .int .i64 0, .int .i64 0] 42) := ⟨_, rfl⟩
  have D := Lib.hid ((Dr.start hS).add (w' := w1) (by rw [hw1]; exact newB w _) (by rw [hw1]; exact own_grade1 w 42 gradeZ))
  replace hw1 := Lib.hid hw1
  clear hS
  go_enter Tryz.func57, Tryz.ntmps57
  go_wp2_with (rw [← hw1.out])
  refine (l05Draw_c g (M + 4) _ (D.out.src.less (by omega))).mono ?_
  rintro e w2 ⟨x, rfl, -, hS2, hg2⟩
  replace D := Lib.hid (D.out.drew hS2 hg2)
  clear hS2 hg2
  obtain ⟨wn, hwn⟩ : ∃ wn, wn = w2.alloc (.cells #[.int .i64 x.Length, .int .i64 x.Ball, .int .i64 x.Instep, .int .i64 x.Heel, .int .i64 x.Pitch] 42) := ⟨_, rfl⟩
  replace D := Lib.hid (D.out.add (w' := wn) (by rw [hwn]; exact newB w2 _) (by rw [hwn]; exact own_gradeC w2 42 x))
  replace hwn := Lib.hid hwn
  obtain ⟨nx, hnx⟩ : ∃ b, b = w2.heap.size := ⟨_, rfl⟩
  obtain ⟨wl, hwl⟩ : ∃ wl, wl = wn.alloc (.cells #[.int .i64 (-1), .int .i64 0, .int .i64 20000, .int .i64 20001, .int .i64 (-9223372036854775808)] 2) := ⟨_, rfl⟩
  have hbl : Below wn.heap.size wn wl := by rw [hwl]; exact newB _ _
  have hA : At wl (some ⟨wn.heap.size, 0, none⟩) ([-1, 0, 20000, 20001, -9223372036854775808] : List Int) := by rw [hwl]; exact at_lits wn 2 [-1, 0, 20000, 20001, -9223372036854775808]
  replace hwl := Lib.hid hwl
  have hgw : g < wn.heap.size := D.out.src.lt
  replace D := Lib.hid (D.out.later hbl)
  go_wp2_with (first | rw [← hwn.out] | rw [← hwl.out])
  rw [← hnx] at D ⊢
  refine (among_c g (M + 2) _ [-1, 0, 20000, 20001, -9223372036854775808] 5 wl (D.out.src.less (by omega)) hA (off_gtS hgw) (by decide) (by decide)).mono ?_
  rintro e w3 ⟨u, rfl, hu, hS2, hg2⟩
  replace D := Lib.hid (D.out.drew hS2 hg2)
  clear hS2 hg2 hA hbl hwl hwn hnx hw1 hgw hu
  go_wp2_with fail
  refine (pick_c g M 24 _ (D.out.src.less (by omega)) (by omega) (by omega)).mono ?_
  rintro e w4 ⟨s, rfl, s0, s1, hS2, hg2⟩
  replace D := Lib.hid (D.out.drew hS2 hg2)
  clear hS2 hg2 s0 s1
  by_cases h0 : s = 0
  · subst h0
    go_wp2_with (first | ((with_reducible refine at_st 2 (.tmp 15) (.tmp 14) ?_); refine wpList_store_own rfl 2 (.tmp 15) (.tmp 14) rfl w.heap.size 42 nx 5 5 (gradeC x) 0 0 (⟨.int .i64 u, rfl⟩ : OneCell) rfl rfl rfl (by kernel_rfl) rfl (D.out.get 0 rfl) (by show 0 < 5; omega) ?_; intro wz hRz hgz; replace D := Lib.hid (D.out.set 0 rfl (hRz : Own _ _ _ _ (gradeC ⟨u, x.Ball, x.Instep, x.Heel, x.Pitch⟩)) hgz (Or.inl rfl)); clear hRz hgz; obtain ⟨y0, y1, y2, y3, y4⟩ := gradeC_cells (D.out.get 0 rfl : Own _ _ _ _ (gradeC ⟨u, x.Ball, x.Instep, x.Heel, x.Pitch⟩))) | ((with_reducible refine at_st 42 (.tmp 2) (.tmp 24) ?_); refine Hid.out ?_))
    refine Lib.hid ?_
    refine wpList_store_own rfl 42 (.tmp 2) (.tmp 24) rfl w.heap.size 42 _ 1 1 [gradeZ] 0 _ (⟨u, x.Ball, x.Instep, x.Heel, x.Pitch⟩ : Grade) rfl rfl rfl (by kernel_rfl) rfl (D.out.get 1 rfl) (by simp) ?_
    intro wz hRz hgz
    replace D := Lib.hid (D.out.set 1 rfl hRz hgz (Or.inl rfl))
    obtain ⟨q0, q1, q2, q3, q4⟩ := grade1_cells hRz
    go_wp2_with fail
    refine bodyPost_ret (v := .agg #[.int .i64 (⟨u, x.Ball, x.Instep, x.Heel, x.Pitch⟩ : Grade).Length, .int .i64 (⟨u, x.Ball, x.Instep, x.Heel, x.Pitch⟩ : Grade).Ball, .int .i64 (⟨u, x.Ball, x.Instep, x.Heel, x.Pitch⟩ : Grade).Instep, .int .i64 (⟨u, x.Ball, x.Instep, x.Heel, x.Pitch⟩ : Grade).Heel, .int .i64 (⟨u, x.Ball, x.Instep, x.Heel, x.Pitch⟩ : Grade).Pitch]) (by simp [results, Tryz.results57, go_sem, q0, q1, q2, q3, q4]) rfl ?_
    first | exact ⟨⟨_, rfl⟩, D.out.src.less (Nat.le_refl _), D.out.up⟩ | exact ⟨_, rfl, D.out.src.less (Nat.le_refl _), D.out.up⟩
  have h0' : (s == 0) = false := beq_eq_false_iff_ne.2 h0
  by_cases h1 : s = 1
  · subst h1
    go_wp2_with (first | ((with_reducible refine at_st 2 (.tmp 19) (.tmp 18) ?_); refine wpList_store_own rfl 2 (.tmp 19) (.tmp 18) rfl w.heap.size 42 nx 5 5 (gradeC x) 3 3 (⟨.int .i64 u, rfl⟩ : OneCell) rfl rfl rfl (by kernel_rfl) rfl (D.out.get 0 rfl) (by show 3 < 5; omega) ?_; intro wz hRz hgz; replace D := Lib.hid (D.out.set 0 rfl (hRz : Own _ _ _ _ (gradeC ⟨x.Length, x.Ball, x.Instep, u, x.Pitch⟩)) hgz (Or.inl rfl)); clear hRz hgz; obtain ⟨y0, y1, y2, y3, y4⟩ := gradeC_cells (D.out.get 0 rfl : Own _ _ _ _ (gradeC ⟨x.Length, x.Ball, x.Instep, u, x.Pitch⟩))) | ((with_reducible refine at_st 42 (.tmp 2) (.tmp 24) ?_); refine Hid.out ?_))
    refine Lib.hid ?_
    refine wpList_store_own rfl 42 (.tmp 2) (.tmp 24) rfl w.heap.size 42 _ 1 1 [gradeZ] 0 _ (⟨x.Length, x.Ball, x.Instep, u, x.Pitch⟩ : Grade) rfl rfl rfl (by kernel_rfl) rfl (D.out.get 1 rfl) (by simp) ?_
    intro wz hRz hgz
    replace D := Lib.hid (D.out.set 1 rfl hRz hgz (Or.inl rfl))
    obtain ⟨q0, q1, q2, q3, q4⟩ := grade1_cells hRz
    go_wp2_with fail
    refine bodyPost_ret (v := .agg #[.int .i64 (⟨x.Length, x.Ball, x.Instep, u, x.Pitch⟩ : Grade).Length, .int .i64 (⟨x.Length, x.Ball, x.Instep, u, x.Pitch⟩ : Grade).Ball, .int .i64 (⟨x.Length, x.Ball, x.Instep, u, x.Pitch⟩ : Grade).Instep, .int .i64 (⟨x.Length, x.Ball, x.Instep, u, x.Pitch⟩ : Grade).Heel, .int .i64 (⟨x.Length, x.Ball, x.Instep, u, x.Pitch⟩ : Grade).Pitch]) (by simp [results, Tryz.results57, go_sem, q0, q1, q2, q3, q4]) rfl ?_
    first | exact ⟨⟨_, rfl⟩, D.out.src.less (Nat.le_refl _), D.out.up⟩ | exact ⟨_, rfl, D.out.src.less (Nat.le_refl _), D.out.up⟩
  have h1' : (s == 1) = false := beq_eq_false_iff_ne.2 h1
  by_cases h2 : s = 2
  · subst h2
    go_wp2_with (first | ((with_reducible refine at_st 2 (.tmp 23) (.tmp 22) ?_); refine wpList_store_own rfl 2 (.tmp 23) (.tmp 22) rfl w.heap.size 42 nx 5 5 (gradeC x) 4 4 (⟨.int .i64 u, rfl⟩ : OneCell) rfl rfl rfl (by kernel_rfl) rfl (D.out.get 0 rfl) (by show 4 < 5; omega) ?_; intro wz hRz hgz; replace D := Lib.hid (D.out.set 0 rfl (hRz : Own _ _ _ _ (gradeC ⟨x.Length, x.Ball, x.Instep, x.Heel, u⟩)) hgz (Or.inl rfl)); clear hRz hgz; obtain ⟨y0, y1, y2, y3, y4⟩ := gradeC_cells (D.out.get 0 rfl : Own _ _ _ _ (gradeC ⟨x.Length, x.Ball, x.Instep, x.Heel, u⟩))) | ((with_reducible refine at_st 42 (.tmp 2) (.tmp 24) ?_); refine Hid.out ?_))
    refine Lib.hid ?_
    refine wpList_store_own rfl 42 (.tmp 2) (.tmp 24) rfl w.heap.size 42 _ 1 1 [gradeZ] 0 _ (⟨x.Length, x.Ball, x.Instep, x.Heel, u⟩ : Grade) rfl rfl rfl (by kernel_rfl) rfl (D.out.get 1 rfl) (by simp) ?_
    intro wz hRz hgz
    replace D := Lib.hid (D.out.set 1 rfl hRz hgz (Or.inl rfl))
    obtain ⟨q0, q1, q2, q3, q4⟩ := grade1_cells hRz
    go_wp2_with fail
    refine bodyPost_ret (v := .agg #[.int .i64 (⟨x.Length, x.Ball, x.Instep, x.Heel, u⟩ : Grade).Length, .int .i64 (⟨x.Length, x.Ball, x.Instep, x.Heel, u⟩ : Grade).Ball, .int .i64 (⟨x.Length, x.Ball, x.Instep, x.Heel, u⟩ : Grade).Instep, .int .i64 (⟨x.Length, x.Ball, x.Instep, x.Heel, u⟩ : Grade).Heel, .int .i64 (⟨x.Length, x.Ball, x.Instep, x.Heel, u⟩ : Grade).Pitch]) (by simp [results, Tryz.results57, go_sem, q0, q1, q2, q3, q4]) rfl ?_
    first | exact ⟨⟨_, rfl⟩, D.out.src.less (Nat.le_refl _), D.out.up⟩ | exact ⟨_, rfl, D.out.src.less (Nat.le_refl _), D.out.up⟩
  have h2' : (s == 2) = false := beq_eq_false_iff_ne.2 h2
  clear h0 h1 h2
  obtain ⟨y0, y1, y2, y3, y4⟩ := gradeC_cells (D.out.get 0 rfl : Own _ _ _ _ (gradeC x))
  go_wp2_with ((with_reducible refine at_st 42 (.tmp 2) (.tmp 24) ?_); refine Hid.out ?_)
  refine Lib.hid ?_
  refine wpList_store_own rfl 42 (.tmp 2) (.tmp 24) rfl w.heap.size 42 _ 1 1 [gradeZ] 0 _ (x : Grade) rfl rfl rfl (by kernel_rfl) rfl (D.out.get 1 rfl) (by simp) ?_
  intro wz hRz hgz
  replace D := Lib.hid (D.out.set 1 rfl hRz hgz (Or.inl rfl))
  obtain ⟨q0, q1, q2, q3, q4⟩ := grade1_cells hRz
  go_wp2_with fail
  refine bodyPost_ret (v := .agg #[.int .i64 (x : Grade).Length, .int .i64 (x : Grade).Ball, .int .i64 (x : Grade).Instep, .int .i64 (x : Grade).Heel, .int .i64 (x : Grade).Pitch]) (by simp [results, Tryz.results57, go_sem, q0, q1, q2, q3, q4]) rfl ?_
  first | exact ⟨⟨_, rfl⟩, D.out.src.less (Nat.le_refl _), D.out.up⟩ | exact ⟨_, rfl, D.out.src.less (Nat.le_refl _), D.out.up⟩
end Go.Proofs.YtaeinllbjkjhlaaGreatDoor
