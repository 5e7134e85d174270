/- Chapter 5, gradings: GradeLast, the program's and the reference's. (Printed by wip/genGr4.py.) -/
import Derived.Test.YtaeinllbjkjhlaaGreatDoorGr3
namespace Go.Proofs.YtaeinllbjkjhlaaGreatDoor
open Go.RowKit

set_option maxHeartbeats 3200000 in
theorem implGradeLast_c (x : Last) (g : Grade) (s : Int) (w : World) (hn : x.Name.size ≤ 9223372036854775807) :
    Calls Tryz.prog 20 #[.agg #[.string x.Name, .int .i64 x.Length, .int .i64 x.Ball, .int .i64 x.Instep, .int .i64 x.Heel, .int .i64 x.Pitch], .agg #[.int .i64 g.Length, .int .i64 g.Ball, .int .i64 g.Instep, .int .i64 g.Heel, .int .i64 g.Pitch], .int .i64 s] w fun e w' => e = .returned (.tuple #[.agg #[.string (glRes x g s).Name, .int .i64 (glRes x g s).Length, .int .i64 (glRes x g s).Ball, .int .i64 (glRes x g s).Instep, .int .i64 (glRes x g s).Heel, .int .i64 (glRes x g s).Pitch], .int .i64 (glCode x g s)]) ∧ Below w.heap.size w w' := by
  obtain ⟨w3, hw3, D⟩ := box_lgl w x g
  replace hw3 := Lib.hid hw3
  replace D := Lib.hid D
  have k1 := Lib.hid (fun w' => validLast_c x w' hn)
  have k2 := Lib.hid (fun w' => implValidGrade_c g w')
  have k3 := Lib.hid (fun w' => isSteps_c s w')
  cases hx : okLast x
  · have hG : glOk x g = false := by unfold glOk; rw [hx]; rfl
    rw [(gl_bad hG).1, (gl_bad hG).2]
    rw [hx] at k1
    clear hn hx hG k2 k3
    obtain ⟨x0, x1, x2, x3, x4, x5⟩ := lastC_cells (D.out.get 2 rfl : Own _ _ _ _ (lastC x))
    obtain ⟨g0, g1, g2, g3, g4⟩ := gradeC_cells (D.out.get 1 rfl : Own _ _ _ _ (gradeC g))
    go_enter Tryz.func20, Tryz.ntmps20
    go_wp2_with (rw [← hw3.out])
    refine (k1.out _).mono ?_
    rintro e w2 ⟨rfl, hb⟩
    replace D := Lib.hid (D.out.later hb)
    clear hb
    clear hw3 k1
    clear x0 x1 x2 x3 x4 x5
    clear g0 g1 g2 g3 g4
    go_wp2_with ((with_reducible refine at_st 30 (.tmp 6) (.tmp 18) ?_); refine wpList_store_own rfl 30 (.tmp 6) (.tmp 18) rfl w.heap.size 30 _ 1 1 [lastZ] 0 _ (lastZ : Last) rfl rfl rfl (by kernel_rfl) rfl (D.out.get 0 rfl) (by simp) ?_; intro wz hRz hgz)
    have Dz := D.out.set 0 rfl hRz hgz (Or.inl rfl)
    obtain ⟨q0, q1, q2, q3, q4, q5⟩ := last1_cells hRz
    refine bodyPost_ret (v := .tuple #[.agg #[.string (lastZ : Last).Name, .int .i64 (lastZ : Last).Length, .int .i64 (lastZ : Last).Ball, .int .i64 (lastZ : Last).Instep, .int .i64 (lastZ : Last).Heel, .int .i64 (lastZ : Last).Pitch], .int .i64 1]) (by simp [results, Tryz.results20, go_sem, q0, q1, q2, q3, q4, q5]) rfl ?_
    exact ⟨rfl, Dz.up⟩
  cases hg : okGrade g
  · have hG : glOk x g = false := by unfold glOk; rw [hx, hg]; rfl
    rw [(gl_bad hG).1, (gl_bad hG).2]
    rw [hx] at k1
    rw [hg] at k2
    clear hn hx hg hG k3
    obtain ⟨x0, x1, x2, x3, x4, x5⟩ := lastC_cells (D.out.get 2 rfl : Own _ _ _ _ (lastC x))
    obtain ⟨g0, g1, g2, g3, g4⟩ := gradeC_cells (D.out.get 1 rfl : Own _ _ _ _ (gradeC g))
    go_enter Tryz.func20, Tryz.ntmps20
    go_wp2_with (rw [← hw3.out])
    refine (k1.out _).mono ?_
    rintro e w2 ⟨rfl, hb⟩
    replace D := Lib.hid (D.out.later hb)
    clear hb
    clear hw3 k1
    clear x0 x1 x2 x3 x4 x5
    clear g0 g1 g2 g3 g4
    obtain ⟨x0, x1, x2, x3, x4, x5⟩ := lastC_cells (D.out.get 2 rfl : Own _ _ _ _ (lastC x))
    obtain ⟨g0, g1, g2, g3, g4⟩ := gradeC_cells (D.out.get 1 rfl : Own _ _ _ _ (gradeC g))
    go_wp2_with fail
    refine (k2.out _).mono ?_
    rintro e w2 ⟨rfl, hb⟩
    replace D := Lib.hid (D.out.later hb)
    clear hb
    clear k2
    clear x0 x1 x2 x3 x4 x5
    clear g0 g1 g2 g3 g4
    go_wp2_with ((with_reducible refine at_st 30 (.tmp 6) (.tmp 18) ?_); refine wpList_store_own rfl 30 (.tmp 6) (.tmp 18) rfl w.heap.size 30 _ 1 1 [lastZ] 0 _ (lastZ : Last) rfl rfl rfl (by kernel_rfl) rfl (D.out.get 0 rfl) (by simp) ?_; intro wz hRz hgz)
    have Dz := D.out.set 0 rfl hRz hgz (Or.inl rfl)
    obtain ⟨q0, q1, q2, q3, q4, q5⟩ := last1_cells hRz
    refine bodyPost_ret (v := .tuple #[.agg #[.string (lastZ : Last).Name, .int .i64 (lastZ : Last).Length, .int .i64 (lastZ : Last).Ball, .int .i64 (lastZ : Last).Instep, .int .i64 (lastZ : Last).Heel, .int .i64 (lastZ : Last).Pitch], .int .i64 1]) (by simp [results, Tryz.results20, go_sem, q0, q1, q2, q3, q4, q5]) rfl ?_
    exact ⟨rfl, Dz.up⟩
  have hG : glOk x g = true := by unfold glOk; rw [hx, hg]; rfl
  cases hs : isSt s
  · rw [(gl_range hG hs).1, (gl_range hG hs).2]
    rw [hx] at k1
    rw [hg] at k2
    rw [hs] at k3
    clear hn hx hg hG hs
    obtain ⟨x0, x1, x2, x3, x4, x5⟩ := lastC_cells (D.out.get 2 rfl : Own _ _ _ _ (lastC x))
    obtain ⟨g0, g1, g2, g3, g4⟩ := gradeC_cells (D.out.get 1 rfl : Own _ _ _ _ (gradeC g))
    go_enter Tryz.func20, Tryz.ntmps20
    go_wp2_with (rw [← hw3.out])
    refine (k1.out _).mono ?_
    rintro e w2 ⟨rfl, hb⟩
    replace D := Lib.hid (D.out.later hb)
    clear hb
    clear hw3 k1
    clear x0 x1 x2 x3 x4 x5
    clear g0 g1 g2 g3 g4
    obtain ⟨x0, x1, x2, x3, x4, x5⟩ := lastC_cells (D.out.get 2 rfl : Own _ _ _ _ (lastC x))
    obtain ⟨g0, g1, g2, g3, g4⟩ := gradeC_cells (D.out.get 1 rfl : Own _ _ _ _ (gradeC g))
    go_wp2_with fail
    refine (k2.out _).mono ?_
    rintro e w2 ⟨rfl, hb⟩
    replace D := Lib.hid (D.out.later hb)
    clear hb
    clear k2
    clear x0 x1 x2 x3 x4 x5
    clear g0 g1 g2 g3 g4
    go_wp2_with fail
    refine (k3.out _).mono ?_
    rintro e w' ⟨rfl, rfl⟩
    go_wp2_with ((with_reducible refine at_st 30 (.tmp 6) (.tmp 23) ?_); refine wpList_store_own rfl 30 (.tmp 6) (.tmp 23) rfl w.heap.size 30 _ 1 1 [lastZ] 0 _ (lastZ : Last) rfl rfl rfl (by kernel_rfl) rfl (D.out.get 0 rfl) (by simp) ?_; intro wz hRz hgz)
    have Dz := D.out.set 0 rfl hRz hgz (Or.inl rfl)
    obtain ⟨q0, q1, q2, q3, q4, q5⟩ := last1_cells hRz
    refine bodyPost_ret (v := .tuple #[.agg #[.string (lastZ : Last).Name, .int .i64 (lastZ : Last).Length, .int .i64 (lastZ : Last).Ball, .int .i64 (lastZ : Last).Instep, .int .i64 (lastZ : Last).Heel, .int .i64 (lastZ : Last).Pitch], .int .i64 2]) (by simp [results, Tryz.results20, go_sem, q0, q1, q2, q3, q4, q5]) rfl ?_
    exact ⟨rfl, Dz.up⟩
  have hn2 : (gLast x g s).Name.size ≤ 9223372036854775807 := hn
  have k4 := Lib.hid (fun w' => gradeLast_c x g s w' hx hg (isSt_iff.1 hs))
  have k5 := Lib.hid (fun w' => validLast_c (gLast x g s) w' hn2)
  cases hy : okLast (gLast x g s)
  · rw [(gl_full hG hs hy).1, (gl_full hG hs hy).2]
    rw [hx] at k1
    rw [hg] at k2
    rw [hs] at k3
    rw [hy] at k5
    generalize gLast x g s = y at *
    clear hn hx hg hG hs hy hn2
    obtain ⟨x0, x1, x2, x3, x4, x5⟩ := lastC_cells (D.out.get 2 rfl : Own _ _ _ _ (lastC x))
    obtain ⟨g0, g1, g2, g3, g4⟩ := gradeC_cells (D.out.get 1 rfl : Own _ _ _ _ (gradeC g))
    go_enter Tryz.func20, Tryz.ntmps20
    go_wp2_with (rw [← hw3.out])
    refine (k1.out _).mono ?_
    rintro e w2 ⟨rfl, hb⟩
    replace D := Lib.hid (D.out.later hb)
    clear hb
    clear hw3 k1
    clear x0 x1 x2 x3 x4 x5
    clear g0 g1 g2 g3 g4
    obtain ⟨x0, x1, x2, x3, x4, x5⟩ := lastC_cells (D.out.get 2 rfl : Own _ _ _ _ (lastC x))
    obtain ⟨g0, g1, g2, g3, g4⟩ := gradeC_cells (D.out.get 1 rfl : Own _ _ _ _ (gradeC g))
    go_wp2_with fail
    refine (k2.out _).mono ?_
    rintro e w2 ⟨rfl, hb⟩
    replace D := Lib.hid (D.out.later hb)
    clear hb
    clear k2
    clear x0 x1 x2 x3 x4 x5
    clear g0 g1 g2 g3 g4
    go_wp2_with fail
    refine (k3.out _).mono ?_
    rintro e w' ⟨rfl, rfl⟩
    obtain ⟨x0, x1, x2, x3, x4, x5⟩ := lastC_cells (D.out.get 2 rfl : Own _ _ _ _ (lastC x))
    obtain ⟨g0, g1, g2, g3, g4⟩ := gradeC_cells (D.out.get 1 rfl : Own _ _ _ _ (gradeC g))
    go_wp2_with fail
    refine (k4.out _).mono ?_
    rintro e w2 ⟨rfl, hb⟩
    replace D := Lib.hid (D.out.later hb)
    clear hb
    clear x0 x1 x2 x3 x4 x5
    clear g0 g1 g2 g3 g4
    obtain ⟨wn, hwn⟩ : ∃ wn, wn = w2.alloc (.cells #[.string y.Name, .int .i64 y.Length, .int .i64 y.Ball, .int .i64 y.Instep, .int .i64 y.Heel, .int .i64 y.Pitch] 30) := ⟨_, rfl⟩
    replace D := Lib.hid (D.out.add (w' := wn) (by rw [hwn]; exact newB w2 _) (by rw [hwn]; exact own_lastC w2 30 y))
    replace hwn := Lib.hid hwn
    obtain ⟨y0, y1, y2, y3, y4, y5⟩ := lastC_cells (D.out.get 0 rfl : Own _ _ _ _ (lastC y))
    obtain ⟨ny, hny⟩ : ∃ b, b = w2.heap.size := ⟨_, rfl⟩
    go_wp2_with (rw [← hwn.out])
    clear y0 y1 y2 y3 y4 y5
    rw [← hny] at D ⊢
    clear hny hwn w2
    refine (k5.out _).mono ?_
    rintro e w2 ⟨rfl, hb⟩
    replace D := Lib.hid (D.out.later hb)
    clear hb
    go_wp2_with ((with_reducible refine at_st 30 (.tmp 6) (.tmp 31) ?_); refine wpList_store_own rfl 30 (.tmp 6) (.tmp 31) rfl w.heap.size 30 _ 1 1 [lastZ] 0 _ (lastZ : Last) rfl rfl rfl (by kernel_rfl) rfl (D.out.get 1 rfl) (by simp) ?_; intro wz hRz hgz)
    have Dz := D.out.set 1 rfl hRz hgz (Or.inl rfl)
    obtain ⟨q0, q1, q2, q3, q4, q5⟩ := last1_cells hRz
    refine bodyPost_ret (v := .tuple #[.agg #[.string (lastZ : Last).Name, .int .i64 (lastZ : Last).Length, .int .i64 (lastZ : Last).Ball, .int .i64 (lastZ : Last).Instep, .int .i64 (lastZ : Last).Heel, .int .i64 (lastZ : Last).Pitch], .int .i64 5]) (by simp [results, Tryz.results20, go_sem, q0, q1, q2, q3, q4, q5]) rfl ?_
    exact ⟨rfl, Dz.up⟩
  · rw [(gl_ok hG hs hy).1, (gl_ok hG hs hy).2]
    rw [hx] at k1
    rw [hg] at k2
    rw [hs] at k3
    rw [hy] at k5
    generalize gLast x g s = y at *
    clear hn hx hg hG hs hy hn2
    obtain ⟨x0, x1, x2, x3, x4, x5⟩ := lastC_cells (D.out.get 2 rfl : Own _ _ _ _ (lastC x))
    obtain ⟨g0, g1, g2, g3, g4⟩ := gradeC_cells (D.out.get 1 rfl : Own _ _ _ _ (gradeC g))
    go_enter Tryz.func20, Tryz.ntmps20
    go_wp2_with (rw [← hw3.out])
    refine (k1.out _).mono ?_
    rintro e w2 ⟨rfl, hb⟩
    replace D := Lib.hid (D.out.later hb)
    clear hb
    clear hw3 k1
    clear x0 x1 x2 x3 x4 x5
    clear g0 g1 g2 g3 g4
    obtain ⟨x0, x1, x2, x3, x4, x5⟩ := lastC_cells (D.out.get 2 rfl : Own _ _ _ _ (lastC x))
    obtain ⟨g0, g1, g2, g3, g4⟩ := gradeC_cells (D.out.get 1 rfl : Own _ _ _ _ (gradeC g))
    go_wp2_with fail
    refine (k2.out _).mono ?_
    rintro e w2 ⟨rfl, hb⟩
    replace D := Lib.hid (D.out.later hb)
    clear hb
    clear k2
    clear x0 x1 x2 x3 x4 x5
    clear g0 g1 g2 g3 g4
    go_wp2_with fail
    refine (k3.out _).mono ?_
    rintro e w' ⟨rfl, rfl⟩
    obtain ⟨x0, x1, x2, x3, x4, x5⟩ := lastC_cells (D.out.get 2 rfl : Own _ _ _ _ (lastC x))
    obtain ⟨g0, g1, g2, g3, g4⟩ := gradeC_cells (D.out.get 1 rfl : Own _ _ _ _ (gradeC g))
    go_wp2_with fail
    refine (k4.out _).mono ?_
    rintro e w2 ⟨rfl, hb⟩
    replace D := Lib.hid (D.out.later hb)
    clear hb
    clear x0 x1 x2 x3 x4 x5
    clear g0 g1 g2 g3 g4
    obtain ⟨wn, hwn⟩ : ∃ wn, wn = w2.alloc (.cells #[.string y.Name, .int .i64 y.Length, .int .i64 y.Ball, .int .i64 y.Instep, .int .i64 y.Heel, .int .i64 y.Pitch] 30) := ⟨_, rfl⟩
    replace D := Lib.hid (D.out.add (w' := wn) (by rw [hwn]; exact newB w2 _) (by rw [hwn]; exact own_lastC w2 30 y))
    replace hwn := Lib.hid hwn
    obtain ⟨y0, y1, y2, y3, y4, y5⟩ := lastC_cells (D.out.get 0 rfl : Own _ _ _ _ (lastC y))
    obtain ⟨ny, hny⟩ : ∃ b, b = w2.heap.size := ⟨_, rfl⟩
    go_wp2_with (rw [← hwn.out])
    clear y0 y1 y2 y3 y4 y5
    rw [← hny] at D ⊢
    clear hny hwn w2
    refine (k5.out _).mono ?_
    rintro e w2 ⟨rfl, hb⟩
    replace D := Lib.hid (D.out.later hb)
    clear hb
    obtain ⟨y0, y1, y2, y3, y4, y5⟩ := lastC_cells (D.out.get 0 rfl : Own _ _ _ _ (lastC y))
    go_wp2_with ((with_reducible refine at_st 30 (.tmp 6) (.tmp 32) ?_); refine wpList_store_own rfl 30 (.tmp 6) (.tmp 32) rfl w.heap.size 30 _ 1 1 [lastZ] 0 _ (y : Last) rfl rfl rfl (by kernel_rfl) rfl (D.out.get 1 rfl) (by simp) ?_; intro wz hRz hgz)
    have Dz := D.out.set 1 rfl hRz hgz (Or.inl rfl)
    obtain ⟨q0, q1, q2, q3, q4, q5⟩ := last1_cells hRz
    refine bodyPost_ret (v := .tuple #[.agg #[.string (y : Last).Name, .int .i64 (y : Last).Length, .int .i64 (y : Last).Ball, .int .i64 (y : Last).Instep, .int .i64 (y : Last).Heel, .int .i64 (y : Last).Pitch], .int .i64 0]) (by simp [results, Tryz.results20, go_sem, q0, q1, q2, q3, q4, q5]) rfl ?_
    exact ⟨rfl, Dz.up⟩
set_option maxHeartbeats 3200000 in
theorem specGradeLast_c (x : Last) (g : Grade) (s : Int) (w : World) (hn : x.Name.size ≤ 9223372036854775807) :
    Calls Tryz.prog 21 #[.agg #[.string x.Name, .int .i64 x.Length, .int .i64 x.Ball, .int .i64 x.Instep, .int .i64 x.Heel, .int .i64 x.Pitch], .agg #[.int .i64 g.Length, .int .i64 g.Ball, .int .i64 g.Instep, .int .i64 g.Heel, .int .i64 g.Pitch], .int .i64 s] w fun e w' => e = .returned (.tuple #[.agg #[.string (glRes x g s).Name, .int .i64 (glRes x g s).Length, .int .i64 (glRes x g s).Ball, .int .i64 (glRes x g s).Instep, .int .i64 (glRes x g s).Heel, .int .i64 (glRes x g s).Pitch], .int .i64 (glCode x g s)]) ∧ Below w.heap.size w w' := by
  obtain ⟨w3, hw3, D⟩ := box_lgl w x g
  replace hw3 := Lib.hid hw3
  replace D := Lib.hid D
  have k1 := Lib.hid (fun w' => l04One_c x w' hn)
  have k2 := Lib.hid (fun w' => l05Ok_c g w')
  have k3 := Lib.hid (fun w' => l05Steps_c s w')
  cases hx : okLast x
  · have hG : glOk x g = false := by unfold glOk; rw [hx]; rfl
    rw [(gl_bad hG).1, (gl_bad hG).2]
    rw [hx] at k1
    clear hn hx hG k2 k3
    obtain ⟨x0, x1, x2, x3, x4, x5⟩ := lastC_cells (D.out.get 2 rfl : Own _ _ _ _ (lastC x))
    obtain ⟨g0, g1, g2, g3, g4⟩ := gradeC_cells (D.out.get 1 rfl : Own _ _ _ _ (gradeC g))
    go_enter Tryz.func21, Tryz.ntmps21
    go_wp2_with (rw [← hw3.out])
    refine (k1.out _).mono ?_
    rintro e w2 ⟨rfl, hb⟩
    replace D := Lib.hid (D.out.later hb)
    clear hb
    clear hw3 k1
    clear x0 x1 x2 x3 x4 x5
    clear g0 g1 g2 g3 g4
    go_wp2_with ((with_reducible refine at_st 30 (.tmp 6) (.tmp 17) ?_); refine wpList_store_own rfl 30 (.tmp 6) (.tmp 17) rfl w.heap.size 30 _ 1 1 [lastZ] 0 _ (lastZ : Last) rfl rfl rfl (by kernel_rfl) rfl (D.out.get 0 rfl) (by simp) ?_; intro wz hRz hgz)
    have Dz := D.out.set 0 rfl hRz hgz (Or.inl rfl)
    obtain ⟨q0, q1, q2, q3, q4, q5⟩ := last1_cells hRz
    refine bodyPost_ret (v := .tuple #[.agg #[.string (lastZ : Last).Name, .int .i64 (lastZ : Last).Length, .int .i64 (lastZ : Last).Ball, .int .i64 (lastZ : Last).Instep, .int .i64 (lastZ : Last).Heel, .int .i64 (lastZ : Last).Pitch], .int .i64 1]) (by simp [results, Tryz.results21, go_sem, q0, q1, q2, q3, q4, q5]) rfl ?_
    exact ⟨rfl, Dz.up⟩
  cases hg : okGrade g
  · have hG : glOk x g = false := by unfold glOk; rw [hx, hg]; rfl
    rw [(gl_bad hG).1, (gl_bad hG).2]
    rw [hx] at k1
    rw [hg] at k2
    clear hn hx hg hG k3
    obtain ⟨x0, x1, x2, x3, x4, x5⟩ := lastC_cells (D.out.get 2 rfl : Own _ _ _ _ (lastC x))
    obtain ⟨g0, g1, g2, g3, g4⟩ := gradeC_cells (D.out.get 1 rfl : Own _ _ _ _ (gradeC g))
    go_enter Tryz.func21, Tryz.ntmps21
    go_wp2_with (rw [← hw3.out])
    refine (k1.out _).mono ?_
    rintro e w2 ⟨rfl, hb⟩
    replace D := Lib.hid (D.out.later hb)
    clear hb
    clear hw3 k1
    clear x0 x1 x2 x3 x4 x5
    clear g0 g1 g2 g3 g4
    obtain ⟨x0, x1, x2, x3, x4, x5⟩ := lastC_cells (D.out.get 2 rfl : Own _ _ _ _ (lastC x))
    obtain ⟨g0, g1, g2, g3, g4⟩ := gradeC_cells (D.out.get 1 rfl : Own _ _ _ _ (gradeC g))
    go_wp2_with fail
    refine (k2.out _).mono ?_
    rintro e w2 ⟨rfl, hb⟩
    replace D := Lib.hid (D.out.later hb)
    clear hb
    clear k2
    clear x0 x1 x2 x3 x4 x5
    clear g0 g1 g2 g3 g4
    go_wp2_with ((with_reducible refine at_st 30 (.tmp 6) (.tmp 17) ?_); refine wpList_store_own rfl 30 (.tmp 6) (.tmp 17) rfl w.heap.size 30 _ 1 1 [lastZ] 0 _ (lastZ : Last) rfl rfl rfl (by kernel_rfl) rfl (D.out.get 0 rfl) (by simp) ?_; intro wz hRz hgz)
    have Dz := D.out.set 0 rfl hRz hgz (Or.inl rfl)
    obtain ⟨q0, q1, q2, q3, q4, q5⟩ := last1_cells hRz
    refine bodyPost_ret (v := .tuple #[.agg #[.string (lastZ : Last).Name, .int .i64 (lastZ : Last).Length, .int .i64 (lastZ : Last).Ball, .int .i64 (lastZ : Last).Instep, .int .i64 (lastZ : Last).Heel, .int .i64 (lastZ : Last).Pitch], .int .i64 1]) (by simp [results, Tryz.results21, go_sem, q0, q1, q2, q3, q4, q5]) rfl ?_
    exact ⟨rfl, Dz.up⟩
  have hG : glOk x g = true := by unfold glOk; rw [hx, hg]; rfl
  cases hs : isSt s
  · rw [(gl_range hG hs).1, (gl_range hG hs).2]
    rw [hx] at k1
    rw [hg] at k2
    rw [hs] at k3
    clear hn hx hg hG hs
    obtain ⟨x0, x1, x2, x3, x4, x5⟩ := lastC_cells (D.out.get 2 rfl : Own _ _ _ _ (lastC x))
    obtain ⟨g0, g1, g2, g3, g4⟩ := gradeC_cells (D.out.get 1 rfl : Own _ _ _ _ (gradeC g))
    go_enter Tryz.func21, Tryz.ntmps21
    go_wp2_with (rw [← hw3.out])
    refine (k1.out _).mono ?_
    rintro e w2 ⟨rfl, hb⟩
    replace D := Lib.hid (D.out.later hb)
    clear hb
    clear hw3 k1
    clear x0 x1 x2 x3 x4 x5
    clear g0 g1 g2 g3 g4
    obtain ⟨x0, x1, x2, x3, x4, x5⟩ := lastC_cells (D.out.get 2 rfl : Own _ _ _ _ (lastC x))
    obtain ⟨g0, g1, g2, g3, g4⟩ := gradeC_cells (D.out.get 1 rfl : Own _ _ _ _ (gradeC g))
    go_wp2_with fail
    refine (k2.out _).mono ?_
    rintro e w2 ⟨rfl, hb⟩
    replace D := Lib.hid (D.out.later hb)
    clear hb
    clear k2
    clear x0 x1 x2 x3 x4 x5
    clear g0 g1 g2 g3 g4
    go_wp2_with fail
    refine (k3.out _).mono ?_
    rintro e w' ⟨rfl, rfl⟩
    go_wp2_with ((with_reducible refine at_st 30 (.tmp 6) (.tmp 21) ?_); refine wpList_store_own rfl 30 (.tmp 6) (.tmp 21) rfl w.heap.size 30 _ 1 1 [lastZ] 0 _ (lastZ : Last) rfl rfl rfl (by kernel_rfl) rfl (D.out.get 0 rfl) (by simp) ?_; intro wz hRz hgz)
    have Dz := D.out.set 0 rfl hRz hgz (Or.inl rfl)
    obtain ⟨q0, q1, q2, q3, q4, q5⟩ := last1_cells hRz
    refine bodyPost_ret (v := .tuple #[.agg #[.string (lastZ : Last).Name, .int .i64 (lastZ : Last).Length, .int .i64 (lastZ : Last).Ball, .int .i64 (lastZ : Last).Instep, .int .i64 (lastZ : Last).Heel, .int .i64 (lastZ : Last).Pitch], .int .i64 2]) (by simp [results, Tryz.results21, go_sem, q0, q1, q2, q3, q4, q5]) rfl ?_
    exact ⟨rfl, Dz.up⟩
  have hn2 : (gLast x g s).Name.size ≤ 9223372036854775807 := hn
  have k4 := Lib.hid (fun w' => l05Last_c x g s w' hx hg (isSt_iff.1 hs))
  have k5 := Lib.hid (fun w' => l04One_c (gLast x g s) w' hn2)
  cases hy : okLast (gLast x g s)
  · rw [(gl_full hG hs hy).1, (gl_full hG hs hy).2]
    rw [hx] at k1
    rw [hg] at k2
    rw [hs] at k3
    rw [hy] at k5
    generalize gLast x g s = y at *
    clear hn hx hg hG hs hy hn2
    obtain ⟨x0, x1, x2, x3, x4, x5⟩ := lastC_cells (D.out.get 2 rfl : Own _ _ _ _ (lastC x))
    obtain ⟨g0, g1, g2, g3, g4⟩ := gradeC_cells (D.out.get 1 rfl : Own _ _ _ _ (gradeC g))
    go_enter Tryz.func21, Tryz.ntmps21
    go_wp2_with (rw [← hw3.out])
    refine (k1.out _).mono ?_
    rintro e w2 ⟨rfl, hb⟩
    replace D := Lib.hid (D.out.later hb)
    clear hb
    clear hw3 k1
    clear x0 x1 x2 x3 x4 x5
    clear g0 g1 g2 g3 g4
    obtain ⟨x0, x1, x2, x3, x4, x5⟩ := lastC_cells (D.out.get 2 rfl : Own _ _ _ _ (lastC x))
    obtain ⟨g0, g1, g2, g3, g4⟩ := gradeC_cells (D.out.get 1 rfl : Own _ _ _ _ (gradeC g))
    go_wp2_with fail
    refine (k2.out _).mono ?_
    rintro e w2 ⟨rfl, hb⟩
    replace D := Lib.hid (D.out.later hb)
    clear hb
    clear k2
    clear x0 x1 x2 x3 x4 x5
    clear g0 g1 g2 g3 g4
    go_wp2_with fail
    refine (k3.out _).mono ?_
    rintro e w' ⟨rfl, rfl⟩
    obtain ⟨x0, x1, x2, x3, x4, x5⟩ := lastC_cells (D.out.get 2 rfl : Own _ _ _ _ (lastC x))
    obtain ⟨g0, g1, g2, g3, g4⟩ := gradeC_cells (D.out.get 1 rfl : Own _ _ _ _ (gradeC g))
    go_wp2_with fail
    refine (k4.out _).mono ?_
    rintro e w2 ⟨rfl, hb⟩
    replace D := Lib.hid (D.out.later hb)
    clear hb
    clear x0 x1 x2 x3 x4 x5
    clear g0 g1 g2 g3 g4
    obtain ⟨wn, hwn⟩ : ∃ wn, wn = w2.alloc (.cells #[.string y.Name, .int .i64 y.Length, .int .i64 y.Ball, .int .i64 y.Instep, .int .i64 y.Heel, .int .i64 y.Pitch] 30) := ⟨_, rfl⟩
    replace D := Lib.hid (D.out.add (w' := wn) (by rw [hwn]; exact newB w2 _) (by rw [hwn]; exact own_lastC w2 30 y))
    replace hwn := Lib.hid hwn
    obtain ⟨y0, y1, y2, y3, y4, y5⟩ := lastC_cells (D.out.get 0 rfl : Own _ _ _ _ (lastC y))
    obtain ⟨ny, hny⟩ : ∃ b, b = w2.heap.size := ⟨_, rfl⟩
    go_wp2_with (rw [← hwn.out])
    clear y0 y1 y2 y3 y4 y5
    rw [← hny] at D ⊢
    clear hny hwn w2
    refine (k5.out _).mono ?_
    rintro e w2 ⟨rfl, hb⟩
    replace D := Lib.hid (D.out.later hb)
    clear hb
    go_wp2_with ((with_reducible refine at_st 30 (.tmp 6) (.tmp 29) ?_); refine wpList_store_own rfl 30 (.tmp 6) (.tmp 29) rfl w.heap.size 30 _ 1 1 [lastZ] 0 _ (lastZ : Last) rfl rfl rfl (by kernel_rfl) rfl (D.out.get 1 rfl) (by simp) ?_; intro wz hRz hgz)
    have Dz := D.out.set 1 rfl hRz hgz (Or.inl rfl)
    obtain ⟨q0, q1, q2, q3, q4, q5⟩ := last1_cells hRz
    refine bodyPost_ret (v := .tuple #[.agg #[.string (lastZ : Last).Name, .int .i64 (lastZ : Last).Length, .int .i64 (lastZ : Last).Ball, .int .i64 (lastZ : Last).Instep, .int .i64 (lastZ : Last).Heel, .int .i64 (lastZ : Last).Pitch], .int .i64 5]) (by simp [results, Tryz.results21, go_sem, q0, q1, q2, q3, q4, q5]) rfl ?_
    exact ⟨rfl, Dz.up⟩
  · rw [(gl_ok hG hs hy).1, (gl_ok hG hs hy).2]
    rw [hx] at k1
    rw [hg] at k2
    rw [hs] at k3
    rw [hy] at k5
    generalize gLast x g s = y at *
    clear hn hx hg hG hs hy hn2
    obtain ⟨x0, x1, x2, x3, x4, x5⟩ := lastC_cells (D.out.get 2 rfl : Own _ _ _ _ (lastC x))
    obtain ⟨g0, g1, g2, g3, g4⟩ := gradeC_cells (D.out.get 1 rfl : Own _ _ _ _ (gradeC g))
    go_enter Tryz.func21, Tryz.ntmps21
    go_wp2_with (rw [← hw3.out])
    refine (k1.out _).mono ?_
    rintro e w2 ⟨rfl, hb⟩
    replace D := Lib.hid (D.out.later hb)
    clear hb
    clear hw3 k1
    clear x0 x1 x2 x3 x4 x5
    clear g0 g1 g2 g3 g4
    obtain ⟨x0, x1, x2, x3, x4, x5⟩ := lastC_cells (D.out.get 2 rfl : Own _ _ _ _ (lastC x))
    obtain ⟨g0, g1, g2, g3, g4⟩ := gradeC_cells (D.out.get 1 rfl : Own _ _ _ _ (gradeC g))
    go_wp2_with fail
    refine (k2.out _).mono ?_
    rintro e w2 ⟨rfl, hb⟩
    replace D := Lib.hid (D.out.later hb)
    clear hb
    clear k2
    clear x0 x1 x2 x3 x4 x5
    clear g0 g1 g2 g3 g4
    go_wp2_with fail
    refine (k3.out _).mono ?_
    rintro e w' ⟨rfl, rfl⟩
    obtain ⟨x0, x1, x2, x3, x4, x5⟩ := lastC_cells (D.out.get 2 rfl : Own _ _ _ _ (lastC x))
    obtain ⟨g0, g1, g2, g3, g4⟩ := gradeC_cells (D.out.get 1 rfl : Own _ _ _ _ (gradeC g))
    go_wp2_with fail
    refine (k4.out _).mono ?_
    rintro e w2 ⟨rfl, hb⟩
    replace D := Lib.hid (D.out.later hb)
    clear hb
    clear x0 x1 x2 x3 x4 x5
    clear g0 g1 g2 g3 g4
    obtain ⟨wn, hwn⟩ : ∃ wn, wn = w2.alloc (.cells #[.string y.Name, .int .i64 y.Length, .int .i64 y.Ball, .int .i64 y.Instep, .int .i64 y.Heel, .int .i64 y.Pitch] 30) := ⟨_, rfl⟩
    replace D := Lib.hid (D.out.add (w' := wn) (by rw [hwn]; exact newB w2 _) (by rw [hwn]; exact own_lastC w2 30 y))
    replace hwn := Lib.hid hwn
    obtain ⟨y0, y1, y2, y3, y4, y5⟩ := lastC_cells (D.out.get 0 rfl : Own _ _ _ _ (lastC y))
    obtain ⟨ny, hny⟩ : ∃ b, b = w2.heap.size := ⟨_, rfl⟩
    go_wp2_with (rw [← hwn.out])
    clear y0 y1 y2 y3 y4 y5
    rw [← hny] at D ⊢
    clear hny hwn w2
    refine (k5.out _).mono ?_
    rintro e w2 ⟨rfl, hb⟩
    replace D := Lib.hid (D.out.later hb)
    clear hb
    obtain ⟨y0, y1, y2, y3, y4, y5⟩ := lastC_cells (D.out.get 0 rfl : Own _ _ _ _ (lastC y))
    go_wp2_with ((with_reducible refine at_st 30 (.tmp 6) (.tmp 30) ?_); refine wpList_store_own rfl 30 (.tmp 6) (.tmp 30) rfl w.heap.size 30 _ 1 1 [lastZ] 0 _ (y : Last) rfl rfl rfl (by kernel_rfl) rfl (D.out.get 1 rfl) (by simp) ?_; intro wz hRz hgz)
    have Dz := D.out.set 1 rfl hRz hgz (Or.inl rfl)
    obtain ⟨q0, q1, q2, q3, q4, q5⟩ := last1_cells hRz
    refine bodyPost_ret (v := .tuple #[.agg #[.string (y : Last).Name, .int .i64 (y : Last).Length, .int .i64 (y : Last).Ball, .int .i64 (y : Last).Instep, .int .i64 (y : Last).Heel, .int .i64 (y : Last).Pitch], .int .i64 0]) (by simp [results, Tryz.results21, go_sem, q0, q1, q2, q3, q4, q5]) rfl ?_
    exact ⟨rfl, Dz.up⟩
end Go.Proofs.YtaeinllbjkjhlaaGreatDoor
