/- Chapter 3, scales: the length of half sizes, the program's and the reference's. (Printed by wip/genS03b.py.) -/
import Derived.Test.YtaeinllbjkjhlaaDoorS03
namespace Go.Proofs.YtaeinllbjkjhlaaDoor
open Go.RowKit

theorem lh_bad {x : Scl} {h : Int} (h0 : scCode x h 120 ≠ 0) : lhN x h = 0 ∧ lhD x h = 0 := ⟨if_neg h0, if_neg h0⟩
theorem lh_ok {x : Scl} {h : Int} (h0 : scCode x h 120 = 0) : lhN x h = lenN x h ∧ lhD x h = lenD x h := ⟨if_pos h0, if_pos h0⟩
theorem scCode_zero {x : Scl} {n hi : Int} (h0 : scCode x n hi = 0) : okScl x = true ∧ 0 ≤ n ∧ n ≤ hi := by
  cases h : okScl x
  · rw [scCode_bad h] at h0; cases h0
  · cases h2 : inr n 0 hi
    · rw [scCode_out h h2] at h0; cases h0
    · exact ⟨rfl, inr_true.1 h2⟩
set_option maxHeartbeats 1600000 in
theorem implLengthOfHalf_c (x : Scl) (h : Int) (w : World) (hs : x.name.size ≤ 9223372036854775807) :
    Calls Tryd.prog 11 #[.agg #[.string x.name, .int .i64 x.base, .int .i64 x.num, .int .i64 x.den], .int .i64 h] w fun e w' => e = .returned (.tuple #[.agg #[.int .i64 (lhN x h), .int .i64 (lhD x h)], .int .i64 (scCode x h 120)]) ∧ Below w.heap.size w w' := by
  obtain ⟨w1, hw1, hb, c0, c1, c2, c3⟩ := scl_new w 25 x
  obtain ⟨w2, hw2⟩ : ∃ w2, w2 = w1.alloc (.cells #[.int .i64 0, .int .i64 0] 31) := ⟨_, rfl⟩
  have hs1 : w1.heap.size = w.heap.size + 1 := by rw [hw1]; simp
  have hb2 : Below w1.heap.size w1 w2 := by rw [hw2]; exact newB _ _
  have hR : Own w.heap.size w2 31 (.slice (some ⟨w.heap.size + 1, 0, none⟩) 1 1) [(⟨0, 0⟩ : Frac)] := by
    rw [hw2, ← hs1]; exact (own_frac w1 _ ⟨0, 0⟩).base (by omega)
  rw [hw1] at hw2
  replace c0 := kept_cell c0 hb2
  replace c1 := kept_cell c1 hb2
  replace c2 := kept_cell c2 hb2
  replace c3 := kept_cell c3 hb2
  replace hb := upw hb hb2
  replace hw2 := Lib.hid hw2
  replace hR := Lib.hid hR
  clear hw1 hb2 hs1
  have hV := Lib.hid (implValidScale_c x w2 hs)
  clear hs
  cases h1 : okScl x
  · have e0 := scCode_bad (n := h) (hi := 120) h1
    obtain ⟨e1, e2⟩ := lh_bad (x := x) (h := h) (by rw [e0]; decide)
    rw [e0, e1, e2]
    clear e0 e1 e2
    go_enter Tryd.func11, Tryd.ntmps11
    go_wp2_with (rw [← hw2.out])
    refine (as_boolB h1 hV.out).mono ?_
    rintro e w3 ⟨rfl, hb3⟩
    replace c0 := kept_cell c0 hb3
    replace c1 := kept_cell c1 hb3
    replace c2 := kept_cell c2 hb3
    replace c3 := kept_cell c3 hb3
    replace hR := Lib.hid (hR.out.later hb3)
    replace hb := upw hb hb3
    clear hb3
    go_wp2_with ((with_reducible refine at_st 31 (.tmp 4) (.tmp 10) ?_); refine wpList_store_own rfl 31 (.tmp 4) (.tmp 10) rfl w.heap.size 31 _ 1 1 [(⟨0, 0⟩ : Frac)] 0 _ (⟨0, 0⟩ : Frac) rfl rfl rfl (by kernel_rfl) rfl hR.out (by simp) ?_; intro wz hRz hgz)
    have hbz := below_mark hb hR.out (Nat.le_refl _) hgz
    obtain ⟨q0, q1⟩ := frac_cells hRz
    (try simp only [Exit.inBlock, Exit.then])
    refine bodyPost_ret (by rw [results_cell_tmp rfl]; simp [q0, q1, go_sem]; rfl) rfl ?_
    exact ⟨rfl, hbz⟩
  cases h2 : inr h 0 120
  · have e0 := scCode_out h1 h2
    obtain ⟨e1, e2⟩ := lh_bad (x := x) (h := h) (by rw [e0]; decide)
    rw [e0, e1, e2]
    clear e0 e1 e2
    go_enter Tryd.func11, Tryd.ntmps11
    go_wp2_with (rw [← hw2.out])
    refine (as_boolB h1 hV.out).mono ?_
    rintro e w3 ⟨rfl, hb3⟩
    replace c0 := kept_cell c0 hb3
    replace c1 := kept_cell c1 hb3
    replace c2 := kept_cell c2 hb3
    replace c3 := kept_cell c3 hb3
    replace hR := Lib.hid (hR.out.later hb3)
    replace hb := upw hb hb3
    clear hb3
    go_wp2_with (first | ((with_reducible refine (as_bool h2 (isHalf_c _ _)).mono ?_); rintro e w' ⟨rfl, rfl⟩) | ((with_reducible refine at_st 31 (.tmp 4) (.tmp 15) ?_); refine wpList_store_own rfl 31 (.tmp 4) (.tmp 15) rfl w.heap.size 31 _ 1 1 [(⟨0, 0⟩ : Frac)] 0 _ (⟨0, 0⟩ : Frac) rfl rfl rfl (by kernel_rfl) rfl hR.out (by simp) ?_; intro wz hRz hgz))
    have hbz := below_mark hb hR.out (Nat.le_refl _) hgz
    obtain ⟨q0, q1⟩ := frac_cells hRz
    (try simp only [Exit.inBlock, Exit.then])
    refine bodyPost_ret (by rw [results_cell_tmp rfl]; simp [q0, q1, go_sem]; rfl) rfl ?_
    exact ⟨rfl, hbz⟩
  · have e0 := scCode_ok h1 h2
    obtain ⟨e1, e2⟩ := lh_ok e0
    obtain ⟨ok, hh⟩ := scCode_zero e0
    rw [e0, e1, e2]
    clear e0 e1 e2
    have hl := len_in ok (by omega : 0 ≤ h ∧ h ≤ 120)
    obtain ⟨_, o1, o2, o3⟩ := okScl_iff.1 ok
    rw [lenN, lenD]
    have hL := Lib.hid (fun w' => lowest_c ((h + x.base) * x.num) x.den w' (by omega) (by omega))
    generalize lowN ((h + x.base) * x.num) x.den = u at *
    generalize lowD ((h + x.base) * x.num) x.den = v at *
    go_enter Tryd.func11, Tryd.ntmps11
    go_wp2_with (rw [← hw2.out])
    refine (as_boolB h1 hV.out).mono ?_
    rintro e w3 ⟨rfl, hb3⟩
    replace c0 := kept_cell c0 hb3
    replace c1 := kept_cell c1 hb3
    replace c2 := kept_cell c2 hb3
    replace c3 := kept_cell c3 hb3
    replace hR := Lib.hid (hR.out.later hb3)
    replace hb := upw hb hb3
    clear hb3
    go_wp2_with ((with_reducible refine (as_bool h2 (isHalf_c _ _)).mono ?_); rintro e w' ⟨rfl, rfl⟩)
    refine (hL.out _).mono ?_
    rintro e w4 ⟨rfl, hb4⟩
    replace hR := Lib.hid (hR.out.later hb4)
    replace hb := upw hb hb4
    clear hb4
    go_wp2_with ((with_reducible refine at_st 31 (.tmp 4) (.tmp 25) ?_); refine wpList_store_own rfl 31 (.tmp 4) (.tmp 25) rfl w.heap.size 31 _ 1 1 [(⟨0, 0⟩ : Frac)] 0 _ (⟨u, v⟩ : Frac) rfl rfl rfl (by kernel_rfl) rfl hR.out (by simp) ?_; intro wz hRz hgz)
    have hbz := below_mark hb hR.out (Nat.le_refl _) hgz
    obtain ⟨q0, q1⟩ := frac_cells hRz
    (try simp only [Exit.inBlock, Exit.then])
    refine bodyPost_ret (by rw [results_cell_tmp rfl]; simp [q0, q1, go_sem]; rfl) rfl ?_
    exact ⟨rfl, hbz⟩
set_option maxHeartbeats 1600000 in
theorem specLengthOfHalf_c (x : Scl) (h : Int) (w : World) (hs : x.name.size ≤ 9223372036854775807) :
    Calls Tryd.prog 12 #[.agg #[.string x.name, .int .i64 x.base, .int .i64 x.num, .int .i64 x.den], .int .i64 h] w fun e w' => e = .returned (.tuple #[.agg #[.int .i64 (lhN x h), .int .i64 (lhD x h)], .int .i64 (scCode x h 120)]) ∧ Below w.heap.size w w' := by
  obtain ⟨w1, hw1, hb, c0, c1, c2, c3⟩ := scl_new w 25 x
  obtain ⟨w2, hw2⟩ : ∃ w2, w2 = w1.alloc (.cells #[.int .i64 0, .int .i64 0] 31) := ⟨_, rfl⟩
  have hs1 : w1.heap.size = w.heap.size + 1 := by rw [hw1]; simp
  have hb2 : Below w1.heap.size w1 w2 := by rw [hw2]; exact newB _ _
  have hR : Own w.heap.size w2 31 (.slice (some ⟨w.heap.size + 1, 0, none⟩) 1 1) [(⟨0, 0⟩ : Frac)] := by
    rw [hw2, ← hs1]; exact (own_frac w1 _ ⟨0, 0⟩).base (by omega)
  rw [hw1] at hw2
  replace c0 := kept_cell c0 hb2
  replace c1 := kept_cell c1 hb2
  replace c2 := kept_cell c2 hb2
  replace c3 := kept_cell c3 hb2
  replace hb := upw hb hb2
  replace hw2 := Lib.hid hw2
  replace hR := Lib.hid hR
  clear hw1 hb2 hs1
  have hV := Lib.hid (l03Code_c x h w2 hs)
  clear hs
  by_cases e0 : scCode x h 120 = 0
  · obtain ⟨e1, e2⟩ := lh_ok e0
    obtain ⟨ok, hh⟩ := scCode_zero e0
    rw [e0] at hV ⊢
    rw [e1, e2]
    clear e0 e1 e2
    have hl := len_in ok (by omega : 0 ≤ h ∧ h ≤ 120)
    obtain ⟨_, o1, o2, o3⟩ := okScl_iff.1 ok
    rw [lenN, lenD]
    have hL := Lib.hid (fun w' => l02Make_c ((h + x.base) * x.num) x.den w' (by omega) (by omega))
    generalize lowN ((h + x.base) * x.num) x.den = u at *
    generalize lowD ((h + x.base) * x.num) x.den = v at *
    go_enter Tryd.func12, Tryd.ntmps12
    go_wp2_with (rw [← hw2.out])
    refine hV.out.mono ?_
    rintro e w3 ⟨rfl, hb3⟩
    replace c0 := kept_cell c0 hb3
    replace c1 := kept_cell c1 hb3
    replace c2 := kept_cell c2 hb3
    replace c3 := kept_cell c3 hb3
    replace hR := Lib.hid (hR.out.later hb3)
    replace hb := upw hb hb3
    clear hb3
    go_wp2_with fail
    refine (hL.out _).mono ?_
    rintro e w4 ⟨rfl, hb4⟩
    replace hR := Lib.hid (hR.out.later hb4)
    replace hb := upw hb hb4
    clear hb4
    go_wp2_with ((with_reducible refine at_st 31 (.tmp 4) (.tmp 23) ?_); refine wpList_store_own rfl 31 (.tmp 4) (.tmp 23) rfl w.heap.size 31 _ 1 1 [(⟨0, 0⟩ : Frac)] 0 _ (⟨u, v⟩ : Frac) rfl rfl rfl (by kernel_rfl) rfl hR.out (by simp) ?_; intro wz hRz hgz)
    have hbz := below_mark hb hR.out (Nat.le_refl _) hgz
    obtain ⟨q0, q1⟩ := frac_cells hRz
    (try simp only [Exit.inBlock, Exit.then])
    refine bodyPost_ret (by rw [results_cell_tmp rfl]; simp [q0, q1, go_sem]; rfl) rfl ?_
    exact ⟨rfl, hbz⟩
  · obtain ⟨e1, e2⟩ := lh_bad e0
    rw [e1, e2]
    clear e1 e2
    generalize scCode x h 120 = cd at *
    go_enter Tryd.func12, Tryd.ntmps12
    go_wp2_with (rw [← hw2.out])
    refine hV.out.mono ?_
    rintro e w3 ⟨rfl, hb3⟩
    replace c0 := kept_cell c0 hb3
    replace c1 := kept_cell c1 hb3
    replace c2 := kept_cell c2 hb3
    replace c3 := kept_cell c3 hb3
    replace hR := Lib.hid (hR.out.later hb3)
    replace hb := upw hb hb3
    clear hb3
    go_wp2_with ((with_reducible refine at_st 31 (.tmp 4) (.tmp 12) ?_); refine wpList_store_own rfl 31 (.tmp 4) (.tmp 12) rfl w.heap.size 31 _ 1 1 [(⟨0, 0⟩ : Frac)] 0 _ (⟨0, 0⟩ : Frac) rfl rfl rfl (by kernel_rfl) rfl hR.out (by simp) ?_; intro wz hRz hgz)
    have hbz := below_mark hb hR.out (Nat.le_refl _) hgz
    obtain ⟨q0, q1⟩ := frac_cells hRz
    (try simp only [Exit.inBlock, Exit.then])
    refine bodyPost_ret (by rw [results_cell_tmp rfl]; simp [q0, q1, go_sem]; rfl) rfl ?_
    exact ⟨rfl, hbz⟩
end Go.Proofs.YtaeinllbjkjhlaaDoor
