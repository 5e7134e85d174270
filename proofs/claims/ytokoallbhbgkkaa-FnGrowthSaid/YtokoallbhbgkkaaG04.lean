/- Growth, the program: GrowthOf and LengthOn. -/
import Derived.Test.YtokoallbhbgkkaaG03
namespace Go.Proofs.Ytokoallbhbgkkaa
open Go.RowKit

theorem line_bounds {ds : List Int} {fs : List Foot} (D : DaysOk ds fs) (h2 : 2 ≤ fs.length) : (-1000000000 ≤ numG ds (lens fs) ∧ numG ds (lens fs) ≤ 1000000000) ∧ (1 ≤ denG ds ∧ denG ds ≤ 1000000000) := by
  have hB := day_bounds D ds.length
  have e1 : ds.take ds.length = ds := List.take_length
  have e2 : (lens fs).take ds.length = lens fs := List.take_of_length_le (by rw [lens_length, D.len]; exact Nat.le_refl _)
  rw [e1, e2] at hB
  obtain ⟨a1, a2, a3, a4⟩ := hB
  have hp := denG_pos D.rise (by rw [D.len]; exact h2)
  have hn8 := D.n8
  have hl := D.len
  unfold numG denG at *
  rw [hl] at hp ⊢
  have m1 : 0 ≤ (fs.length : Int) * prI ds (lens fs) ∧ (fs.length : Int) * prI ds (lens fs) ≤ 8 * 80000000 := ⟨Int.mul_nonneg (by omega) a3.1, Int.mul_le_mul (by omega) a3.2 a3.1 (by omega)⟩
  have m2 : 0 ≤ sumI ds * sumI (lens fs) ∧ sumI ds * sumI (lens fs) ≤ 16000 * 40000 := ⟨Int.mul_nonneg a1.1 a2.1, Int.mul_le_mul a1.2 a2.2 a2.1 (by omega)⟩
  have m3 : 0 ≤ (fs.length : Int) * sqI ds ∧ (fs.length : Int) * sqI ds ≤ 8 * 32000000 := ⟨Int.mul_nonneg (by omega) a4.1, Int.mul_le_mul (by omega) a4.2 a4.1 (by omega)⟩
  have m4 : 0 ≤ sumI ds * sumI ds ∧ sumI ds * sumI ds ≤ 16000 * 16000 := ⟨Int.mul_nonneg a1.1 a1.1, Int.mul_le_mul a1.2 a1.2 a1.1 (by omega)⟩
  omega
theorem rnd_whole (x n : Int) (h : 0 < n) : rnd (x * n) n = x := by
  unfold rnd
  have e : 2 * (x * n) + n = n + x * (2 * n) := by rw [Int.mul_left_comm]; omega
  rw [e, Int.add_mul_ediv_right _ _ (by omega : 2 * n ≠ 0), Int.ediv_eq_zero_of_lt (by omega) (by omega)]
  omega
/-- What GrowthOf answers. -/
def growF (ds : List Int) (fs : List Foot) : Int × Int × Int := if fs.length < 2 then (0, 0, 3) else (lowN (numG ds (lens fs)) (denG ds), lowD (numG ds (lens fs)) (denG ds), 0)
set_option maxRecDepth 100000 in
set_option maxHeartbeats 4000000 in
theorem growthOfF_ok (a a' : Option Addr) (ds : List Int) (fs : List Foot) (c c' : Nat) (w : World) (hx : At w a ds) (hy : At w a' fs) (D : DaysOk ds fs) :
    Calls Try.prog 40 #[.slice a ds.length c, .slice a' fs.length c'] w fun e w' => e = .returned (.tuple #[.agg #[.int .i64 (growF ds fs).1, .int .i64 (growF ds fs).2.1], .int .i64 (growF ds fs).2.2]) ∧ Below w.heap.size w w' := by
  obtain ⟨w1, hw1⟩ : ∃ w1, w1 = w.alloc (.cells #[.int .i64 0, .int .i64 0] 65) := ⟨_, rfl⟩
  have hb : Below w.heap.size w w1 := by rw [hw1]; exact newB _ _
  have hR : Own w.heap.size w1 65 (.slice (some ⟨w.heap.size, 0, none⟩) 1 1) [(⟨0, 0⟩ : Frac)] := by rw [hw1]; exact own_frac w _ ⟨0, 0⟩
  have hC := growthOf_ok a a' ds fs c c' 0 w1 (hx.below hb) (hy.below hb) D (by omega)
  replace hw1 := Lib.hid hw1
  replace hR := Lib.hid hR
  by_cases hs : fs.length < 2
  · have hF : growF ds fs = (0, 0, 3) := if_pos hs
    have hV : growV ds fs = (⟨0, 0, 0, 0, 0⟩, 3) := if_pos hs
    rw [hF]
    rw [hV] at hC
    clear hF hV
    replace hC := Lib.hid hC
    go_enter Try.func40, Try.ntmps40
    go_wp2_with (rw [← hw1.out])
    refine hC.out.mono ?_
    rintro e w2 ⟨rfl, hb2⟩
    obtain ⟨w3, hw3⟩ : ∃ w3, w3 = w2.alloc (.cells #[.int .i64 0, .int .i64 0, .int .i64 0, .int .i64 0, .int .i64 0] 103) := ⟨_, rfl⟩
    have hb3 : Below w2.heap.size w2 w3 := by rw [hw3]; exact newB _ _
    replace hR := Lib.hid ((hR.out.later hb2).later hb3)
    replace hb := upw (upw hb hb2) hb3
    subst hw3
    go_wp2_with (((with_reducible refine at_st 65 (.tmp 4) (.tmp 16) ?_); refine wpList_store_own rfl 65 (.tmp 4) (.tmp 16) rfl w.heap.size 65 _ 1 1 [(⟨0, 0⟩ : Frac)] 0 _ (⟨0, 0⟩ : Frac) rfl rfl rfl (by kernel_rfl) rfl hR.out (by simp) ?_; intro wz hRz hgz))
    obtain ⟨q0, q1⟩ := frac_cells hRz
    have hbz := below_mark hb hR.out (Nat.le_refl _) hgz
    refine bodyPost_ret (v := .tuple #[.agg #[.int .i64 0, .int .i64 0], .int .i64 3]) (by simp [results, Try.results40, go_sem, q0, q1]) rfl ?_
    exact ⟨rfl, hbz⟩
  · have hF : growF ds fs = (lowN (numG ds (lens fs)) (denG ds), lowD (numG ds (lens fs)) (denG ds), 0) := if_neg hs
    have hV : growV ds fs = (⟨numG ds (lens fs), denG ds, sumI ds, sumI (lens fs), fs.length⟩, 0) := if_neg hs
    obtain ⟨n1, n2⟩ := line_bounds D (by omega)
    have hL := fun w' => lowest_c (numG ds (lens fs)) (denG ds) w' n1 n2
    rw [hF]
    rw [hV] at hC
    clear hF hV
    generalize lowN (numG ds (lens fs)) (denG ds) = X at *
    generalize lowD (numG ds (lens fs)) (denG ds) = Y at *
    generalize numG ds (lens fs) = nu at *
    generalize denG ds = de at *
    replace hC := Lib.hid hC
    replace hL := Lib.hid hL
    go_enter Try.func40, Try.ntmps40
    go_wp2_with (rw [← hw1.out])
    refine hC.out.mono ?_
    rintro e w2 ⟨rfl, hb2⟩
    obtain ⟨w3, hw3⟩ : ∃ w3, w3 = w2.alloc (.cells #[.int .i64 nu, .int .i64 de, .int .i64 (sumI ds), .int .i64 (sumI (lens fs)), .int .i64 (fs.length : Int)] 103) := ⟨_, rfl⟩
    have hb3 : Below w2.heap.size w2 w3 := by rw [hw3]; exact newB _ _
    have c0 : w3.cell? ⟨w2.heap.size, 0, none⟩ = some (.int .i64 nu) := by rw [hw3]; go_simp
    have c1 : w3.cell? ⟨w2.heap.size, 1, none⟩ = some (.int .i64 de) := by rw [hw3]; go_simp
    replace hR := Lib.hid ((hR.out.later hb2).later hb3)
    replace hb := upw (upw hb hb2) hb3
    replace hw3 := Lib.hid hw3
    go_wp2_with (first | rw [← hw3.out] | (go_at_call 84; refine (hL.out _).mono ?_; rintro e w4 ⟨rfl, hb4⟩; replace hR := Lib.hid (hR.out.later hb4); replace hb := upw hb hb4; clear hb4 c0 c1) | ((with_reducible refine at_st 65 (.tmp 4) (.tmp 22) ?_); refine wpList_store_own rfl 65 (.tmp 4) (.tmp 22) rfl w.heap.size 65 _ 1 1 [(⟨0, 0⟩ : Frac)] 0 _ (⟨X, Y⟩ : Frac) rfl rfl rfl (by kernel_rfl) rfl hR.out (by simp) ?_; intro wz hRz hgz))
    obtain ⟨q0, q1⟩ := frac_cells hRz
    have hbz := below_mark hb hR.out (Nat.le_refl _) hgz
    refine bodyPost_ret (v := .tuple #[.agg #[.int .i64 X, .int .i64 Y], .int .i64 0]) (by simp [results, Try.results40, go_sem, q0, q1]) rfl ?_
    exact ⟨rfl, hbz⟩
theorem line_low (r : Int) {ds : List Int} {fs : List Foot} (hr : 0 ≤ r ∧ r ≤ 1) (hd : 1 ≤ denG ds) (h : lens fs = ds.map fun d => 2000 + r * d) : lowN (numG ds (lens fs)) (denG ds) = r ∧ lowD (numG ds (lens fs)) (denG ds) = 1 := by
  rw [h, numG_line]
  generalize denG ds = e at *
  have hg : gcdI (r * e) e = e := by
    unfold gcdI
    rcases (by omega : r = 0 ∨ r = 1) with rfl | rfl
    · rw [Int.zero_mul]; simp; omega
    · rw [Int.one_mul]; simp; omega
  unfold lowN lowD
  rw [hg]
  rcases (by omega : r = 0 ∨ r = 1) with rfl | rfl
  · exact ⟨by rw [Int.zero_mul]; exact Int.zero_tdiv _, Int.tdiv_self (by omega)⟩
  · exact ⟨by rw [Int.one_mul]; exact Int.tdiv_self (by omega), Int.tdiv_self (by omega)⟩
set_option maxRecDepth 100000 in
set_option maxHeartbeats 4000000 in
theorem lengthOn_line (r : Int) (a a' : Option Addr) (ds : List Int) (fs : List Foot) (c c' : Nat) (day : Int) (w : World) (hx : At w a ds) (hy : At w a' fs) (D : DaysOk ds fs) (hday : 0 ≤ day ∧ day ≤ 2000) (h2 : 2 ≤ fs.length) (hr : 0 ≤ r ∧ r ≤ 1) (h : lens fs = ds.map fun d => 2000 + r * d) :
    Calls Try.prog 41 #[.slice a ds.length c, .slice a' fs.length c', .int .i64 day] w fun e w' => e = .returned (.tuple #[.int .i64 (2000 + r * day), .int .i64 0]) ∧ Below w.heap.size w w' := by
  have hC := growthOf_ok a a' ds fs c c' day w hx hy D (by omega)
  have hV : growV ds fs = (⟨numG ds (lens fs), denG ds, sumI ds, sumI (lens fs), fs.length⟩, 0) := if_neg (by omega)
  obtain ⟨n1, n2⟩ := line_bounds D h2
  have hL := fun w' => lowest_c (numG ds (lens fs)) (denG ds) w' n1 n2
  obtain ⟨l1, l2⟩ := line_low r hr n2.1 h
  rw [hV] at hC
  simp only [l1, l2] at hL
  have hsum := (prI_line r ds).2
  rw [← h] at hsum
  have hB := day_bounds D ds.length
  have e1 : ds.take ds.length = ds := List.take_length
  have e2 : (lens fs).take ds.length = lens fs := List.take_of_length_le (by rw [lens_length, D.len]; exact Nat.le_refl _)
  rw [e1, e2] at hB
  obtain ⟨a1, a2, _, _⟩ := hB
  have hn8 := D.n8
  have hlen := D.len
  rw [hlen] at hsum
  -- the value
  obtain ⟨nn, hnn⟩ : ∃ nn : Int, nn = (fs.length : Int) := ⟨_, rfl⟩
  have hnr : 2 ≤ nn ∧ nn ≤ 8 := by omega
  have hval : rnd (sumI (lens fs) * 1 + r * (nn * day - sumI ds)) (nn * 1) = 2000 + r * day := by
    rw [hsum, ← hnn, Int.mul_one, Int.mul_one, Int.mul_sub]
    have e3 : r * (nn * day) = nn * (r * day) := by rw [← Int.mul_assoc, Int.mul_comm r nn, Int.mul_assoc]
    rw [e3]
    have e4 : 2000 * nn + r * sumI ds + (nn * (r * day) - r * sumI ds) = (2000 + r * day) * nn := by rw [Int.add_mul, Int.mul_comm (r * day) nn]; omega
    rw [e4]
    exact rnd_whole _ _ (by omega)
  rw [Int.mul_one, Int.mul_one, hnn] at hval
  have hr2 : r = 0 ∨ r = 1 := by omega
  have hnd : 0 ≤ (fs.length : Int) * day ∧ (fs.length : Int) * day ≤ 8 * 2000 := ⟨Int.mul_nonneg (by omega) hday.1, Int.mul_le_mul (by omega) hday.2 hday.1 (by omega)⟩
  have hrq : -16000 ≤ r * ((fs.length : Int) * day - sumI ds) ∧ r * ((fs.length : Int) * day - sumI ds) ≤ 16000 := by rcases hr2 with rfl | rfl <;> omega
  have hRc := fun w' => rounded_c (sumI (lens fs) + r * ((fs.length : Int) * day - sumI ds)) fs.length w' (by omega) (by omega)
  rw [hval] at hRc
  clear hsum n1 n2 hV hnr hlen e1 e2 l1 l2 hval hnn nn h
  generalize 2000 + r * day = vv at *
  generalize numG ds (lens fs) = nu at *
  generalize denG ds = de at *
  generalize sumI ds = Dv at *
  generalize sumI (lens fs) = Sv at *
  generalize hq1 : (fs.length : Int) * day = nd at *
  generalize hq2 : r * (nd - Dv) = rq at *
  replace hC := Lib.hid hC
  replace hL := Lib.hid hL
  replace hRc := Lib.hid hRc
  clear D hr2
  go_enter Try.func41, Try.ntmps41
  go_wp2_with fail
  refine hC.out.mono ?_
  rintro e w2 ⟨rfl, hb⟩
  obtain ⟨w3, hw3⟩ : ∃ w3, w3 = w2.alloc (.cells #[.int .i64 nu, .int .i64 de, .int .i64 Dv, .int .i64 Sv, .int .i64 (fs.length : Int)] 103) := ⟨_, rfl⟩
  have hb3 : Below w2.heap.size w2 w3 := by rw [hw3]; exact newB _ _
  have hV3 := own_growC w2 103 nu de Dv Sv fs.length
  rw [← hw3] at hV3
  obtain ⟨c0, c1, c2, c3, c4⟩ := growC_cells hV3
  replace hb := upw hb hb3
  replace hw3 := Lib.hid hw3
  clear hV3
  go_wp2_with (rw [← hw3.out])
  refine (hL.out _).mono ?_
  rintro e w4 ⟨rfl, hb4⟩
  replace c0 := kept_cell c0 hb4
  replace c1 := kept_cell c1 hb4
  replace c2 := kept_cell c2 hb4
  replace c3 := kept_cell c3 hb4
  replace c4 := kept_cell c4 hb4
  replace hb := upw hb hb4
  obtain ⟨w5, hw5⟩ : ∃ w5, w5 = w4.alloc (.cells #[.int .i64 r, .int .i64 1] 65) := ⟨_, rfl⟩
  have hb5 : Below w4.heap.size w4 w5 := by rw [hw5]; exact newB _ _
  have d0 : w5.cell? ⟨w4.heap.size, 0, none⟩ = some (.int .i64 r) := by rw [hw5]; go_simp
  have d1 : w5.cell? ⟨w4.heap.size, 1, none⟩ = some (.int .i64 1) := by rw [hw5]; go_simp
  replace c0 := kept_cell c0 hb5
  replace c1 := kept_cell c1 hb5
  replace c2 := kept_cell c2 hb5
  replace c3 := kept_cell c3 hb5
  replace c4 := kept_cell c4 hb5
  replace hb := upw hb hb5
  replace hw5 := Lib.hid hw5
  clear hb4 hb5 hw3
  go_wp2_with (first | rw [← hw5.out] | (go_at_call 85; refine (hRc.out _).mono ?_; rintro e w6 ⟨rfl, rfl⟩))
  go_ret2
  exact ⟨rfl, hb⟩
end Go.Proofs.Ytokoallbhbgkkaa
