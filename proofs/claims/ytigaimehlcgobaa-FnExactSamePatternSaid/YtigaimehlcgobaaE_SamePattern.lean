/- FnExactSamePattern: for all arguments the law returns true, and its arguments read behind the call as before. (Printed by wip/genlaw2.py.) -/
import Derived.Test.YtigaimehlcgobaaP08o
import Derived.Test.YtigaimehlcgobaaP08s
import Derived.Deep.RegionHeld3
namespace Go.Proofs.Ytigaimehlcgobaa
open Go.ChangeShapes Go.WideShapes Go.ChangeAt Go.RowKit

set_option maxRecDepth 100000 in
set_option maxHeartbeats 4000000 in
theorem lawSamePattern (x0 : Pattern) (pa0 : Option Addr) (pc0 : Nat) (sa0 : Option Addr) (sc0 : Nat) (x1 : Pattern) (pa1 : Option Addr) (pc1 : Nat) (sa1 : Option Addr) (sc1 : Nat) (w : World) (hx0 : LieP w pa0 sa0 x0) (hk0 : okP x0) (hx1 : LieP w pa1 sa1 x1) (hk1 : okP x1) :
    Calls Try.prog 3 #[.agg #[.slice pa0 x0.pieces.length pc0, .slice sa0 x0.seams.length sc0, .int .i64 x0.openings], .agg #[.slice pa1 x1.pieces.length pc1, .slice sa1 x1.seams.length sc1, .int .i64 x1.openings]] w fun e w' => e = .returned (.bool true) ∧ Below w.heap.size w w' := by
  by_cases hh0 : totPattern x0 ≤ 1048576
  · skip
    by_cases hh1 : totPattern x0 + totPattern x1 ≤ 1048576
    · skip
      have hl0 : totPattern x0 ≤ 1048576 := by omega
      have hl1 : totPattern x1 ≤ 1048576 := by omega
      go_enter Try.func3, Try.ntmps3
      obtain ⟨w1, hw1⟩ : ∃ w1, w1 = ((w.alloc (.cells #[.slice pa0 x0.pieces.length pc0, .slice sa0 x0.seams.length sc0, .int .i64 x0.openings] 25)).alloc (.cells #[.slice pa1 x1.pieces.length pc1, .slice sa1 x1.seams.length sc1, .int .i64 x1.openings] 25)) := ⟨_, rfl⟩
      have hb1 : Below w.heap.size w w1 := by rw [hw1]; exact (((Below.refl _ _).alloc (by simp) _).alloc (by simp) _)
      have k0_0 : w1.cell? ⟨w.heap.size, 0, none⟩ = some (.slice pa0 x0.pieces.length pc0) := by rw [hw1]; go_simp
      have k0_1 : w1.cell? ⟨w.heap.size, 1, none⟩ = some (.slice sa0 x0.seams.length sc0) := by rw [hw1]; go_simp
      have k0_2 : w1.cell? ⟨w.heap.size, 2, none⟩ = some (.int .i64 x0.openings) := by rw [hw1]; go_simp
      have k1_0 : w1.cell? ⟨w.heap.size + 1, 0, none⟩ = some (.slice pa1 x1.pieces.length pc1) := by rw [hw1]; go_simp
      have k1_1 : w1.cell? ⟨w.heap.size + 1, 1, none⟩ = some (.slice sa1 x1.seams.length sc1) := by rw [hw1]; go_simp
      have k1_2 : w1.cell? ⟨w.heap.size + 1, 2, none⟩ = some (.int .i64 x1.openings) := by rw [hw1]; go_simp
      go_wp2_with fail
      rw [← hw1]
      clear hw1
      have hb := hb1
      go_wp2_with fail
      refine (szPattern_ok x0 _ _ _ _ _ _ (hx0.below hb) hk0 (by omega) (by omega)).mono ?_
      rintro e w2 ⟨rfl, hb2⟩
      have hb := upw hb hb2
      replace k0_0 := kept_cell k0_0 hb2
      replace k0_1 := kept_cell k0_1 hb2
      replace k0_2 := kept_cell k0_2 hb2
      replace k1_0 := kept_cell k1_0 hb2
      replace k1_1 := kept_cell k1_1 hb2
      replace k1_2 := kept_cell k1_2 hb2
      go_wp2_with fail
      refine (szPattern_ok x1 _ _ _ _ _ _ (hx1.below hb) hk1 (by omega) (by omega)).mono ?_
      rintro e w3 ⟨rfl, hb3⟩
      have hb := upw hb hb3
      replace k0_0 := kept_cell k0_0 hb3
      replace k0_1 := kept_cell k0_1 hb3
      replace k0_2 := kept_cell k0_2 hb3
      replace k1_0 := kept_cell k1_0 hb3
      replace k1_1 := kept_cell k1_1 hb3
      replace k1_2 := kept_cell k1_2 hb3
      go_wp2_with fail
      refine wp_region_held_drew (S := (fun w' => w'.cell? ⟨w.heap.size, 0, none⟩ = some (.slice pa0 x0.pieces.length pc0) ∧ w'.cell? ⟨w.heap.size, 1, none⟩ = some (.slice sa0 x0.seams.length sc0) ∧ w'.cell? ⟨w.heap.size, 2, none⟩ = some (.int .i64 x0.openings) ∧ w'.cell? ⟨w.heap.size + 1, 0, none⟩ = some (.slice pa1 x1.pieces.length pc1) ∧ w'.cell? ⟨w.heap.size + 1, 1, none⟩ = some (.slice sa1 x1.seams.length sc1) ∧ w'.cell? ⟨w.heap.size + 1, 2, none⟩ = some (.int .i64 x1.openings))) (by kernel_rfl) ⟨k0_0, k0_1, k0_2, k1_0, k1_1, k1_2⟩ (fun hHeld => ?_)
      refine wpAnyH_take (i := 0) (v := _) rfl (by kernel_rfl) (by kernel_rfl) (by kernel_rfl) (fun _ _ _ h => h) (Or.inl ⟨by rfl, (by intro w hSw; (try dsimp only at hSw); go_simp; try with_reducible rfl)⟩) (by assumption) ?_
      go_simp
      refine wpAnyH_take (i := 2) (v := _) rfl (by kernel_rfl) (by kernel_rfl) (by kernel_rfl) (fun _ _ _ h => h) (Or.inl ⟨by rfl, (by intro w hSw; (try dsimp only at hSw); go_simp; try with_reducible rfl)⟩) (by assumption) ?_
      go_simp
      refine wpAnyH_ready (rs := [1]) (by kernel_rfl) (by simp) ?_
      refine AllReadyH.cons rfl (fun K hK => ?_) AllReadyH.nil
      go_simp
      (refine (toPattern_c _ _ _ _ _ _ (hx0.below hb.drew) hl0).mono ?_; rintro e w4 ⟨pa_t1, pc_t1, sa_t1, sc_t1, rs_t1, rfl, hOt1, hb4⟩; replace hb4 := upw (Below.refl w3.heap.size w3).drew hb4; have hb := upw hb hb4; replace k0_0 := kept_cell (w := w3) k0_0 hb4; replace k0_1 := kept_cell (w := w3) k0_1 hb4; replace k0_2 := kept_cell (w := w3) k0_2 hb4; replace k1_0 := kept_cell (w := w3) k1_0 hb4; replace k1_1 := kept_cell (w := w3) k1_1 hb4; replace k1_2 := kept_cell (w := w3) k1_2 hb4; go_simp)
      refine hK.out _ _ ⟨k0_0, k0_1, k0_2, k1_0, k1_1, k1_2⟩ (fun hHeld => ?_)
      clear hK K
      go_simp
      refine wpAnyH_ready (rs := [3]) (by kernel_rfl) (by simp) ?_
      refine AllReadyH.cons rfl (fun K hK => ?_) AllReadyH.nil
      go_simp
      (refine (toPattern_c _ _ _ _ _ _ (hx1.below hb) hl1).mono ?_; rintro e w5 ⟨pa_t2, pc_t2, sa_t2, sc_t2, rs_t2, rfl, hOt2, hb5⟩; have hb := upw hb hb5; replace k0_0 := kept_cell k0_0 hb5; replace k0_1 := kept_cell k0_1 hb5; replace k0_2 := kept_cell k0_2 hb5; replace k1_0 := kept_cell k1_0 hb5; replace k1_1 := kept_cell k1_1 hb5; replace k1_2 := kept_cell k1_2 hb5; go_simp)
      refine hK.out _ _ ⟨k0_0, k0_1, k0_2, k1_0, k1_1, k1_2⟩ (fun hHeld => ?_)
      clear hK K
      go_simp
      refine wpAnyH_ready (rs := [4]) (by kernel_rfl) (by simp) ?_
      refine AllReadyH.cons rfl (fun K hK => ?_) AllReadyH.nil
      go_simp
      (refine (specSamePattern_c _ _ _ _ _ _ _ _ _ _ _ ((hOt1.later hb5)).lie hl0 (hOt2).lie hl1).mono ?_; rintro e w6 ⟨rfl, hb6⟩; have hb := upw hb hb6; replace k0_0 := kept_cell k0_0 hb6; replace k0_1 := kept_cell k0_1 hb6; replace k0_2 := kept_cell k0_2 hb6; replace k1_0 := kept_cell k1_0 hb6; replace k1_1 := kept_cell k1_1 hb6; replace k1_2 := kept_cell k1_2 hb6; go_simp)
      refine hK.out _ _ ⟨k0_0, k0_1, k0_2, k1_0, k1_1, k1_2⟩ (fun hHeld => ?_)
      clear hK K
      go_simp
      refine wpAnyH_take (i := 5) (v := _) rfl (by kernel_rfl) (by kernel_rfl) (by kernel_rfl) (fun _ _ _ h => h) (Or.inl ⟨by rfl, (by intro w hSw; (try dsimp only at hSw); go_simp; try with_reducible rfl)⟩) (by assumption) ?_
      go_simp
      refine wpAnyH_done (by kernel_rfl) ?_ _
      go_wp2_with fail
      refine (toPattern_c _ _ _ _ _ _ (hx0.below hb) hl0).mono ?_
      rintro e w7 ⟨pa_x0, pc_x0, sa_x0, sc_x0, rs_x0, rfl, hOx0, hb7⟩
      have hb := upw hb hb7
      replace k0_0 := kept_cell k0_0 hb7
      replace k0_1 := kept_cell k0_1 hb7
      replace k0_2 := kept_cell k0_2 hb7
      replace k1_0 := kept_cell k1_0 hb7
      replace k1_1 := kept_cell k1_1 hb7
      replace k1_2 := kept_cell k1_2 hb7
      obtain ⟨w8, hw8⟩ : ∃ w8, w8 = w7.alloc (.cells #[.slice pa_x0 x0.pieces.length pc_x0, .slice sa_x0 x0.seams.length sc_x0, .int .i64 x0.openings] 31) := ⟨_, rfl⟩
      have hb8 : Below w7.heap.size w7 w8 := by rw [hw8]; exact new_below _ _
      have k_x0_0 : w8.cell? ⟨w7.heap.size, 0, none⟩ = some (.slice pa_x0 x0.pieces.length pc_x0) := by rw [hw8]; go_simp
      have k_x0_1 : w8.cell? ⟨w7.heap.size, 1, none⟩ = some (.slice sa_x0 x0.seams.length sc_x0) := by rw [hw8]; go_simp
      have k_x0_2 : w8.cell? ⟨w7.heap.size, 2, none⟩ = some (.int .i64 x0.openings) := by rw [hw8]; go_simp
      have zk0_0 : w.heap.size < w7.heap.size := block_lt_of_cell k0_0
      have zk1_0 : w.heap.size + 1 < w7.heap.size := block_lt_of_cell k1_0
      replace hw8 := Lib.hid hw8
      go_wp2_with fail
      rw [← hw8.out]
      clear zk0_0
      clear zk1_0
      replace k0_0 := kept_cell k0_0 hb8
      replace k0_1 := kept_cell k0_1 hb8
      replace k0_2 := kept_cell k0_2 hb8
      replace k1_0 := kept_cell k1_0 hb8
      replace k1_1 := kept_cell k1_1 hb8
      replace k1_2 := kept_cell k1_2 hb8
      have hb := upw hb hb8
      go_wp2_with fail
      refine (toPattern_c _ _ _ _ _ _ (hx1.below hb) hl1).mono ?_
      rintro e w9 ⟨pa_x1, pc_x1, sa_x1, sc_x1, rs_x1, rfl, hOx1, hb9⟩
      have hb := upw hb hb9
      replace k0_0 := kept_cell k0_0 hb9
      replace k0_1 := kept_cell k0_1 hb9
      replace k0_2 := kept_cell k0_2 hb9
      replace k1_0 := kept_cell k1_0 hb9
      replace k1_1 := kept_cell k1_1 hb9
      replace k1_2 := kept_cell k1_2 hb9
      replace k_x0_0 := kept_cell k_x0_0 hb9
      replace k_x0_1 := kept_cell k_x0_1 hb9
      replace k_x0_2 := kept_cell k_x0_2 hb9
      obtain ⟨w10, hw10⟩ : ∃ w10, w10 = w9.alloc (.cells #[.slice pa_x1 x1.pieces.length pc_x1, .slice sa_x1 x1.seams.length sc_x1, .int .i64 x1.openings] 31) := ⟨_, rfl⟩
      have hb10 : Below w9.heap.size w9 w10 := by rw [hw10]; exact new_below _ _
      have k_x1_0 : w10.cell? ⟨w9.heap.size, 0, none⟩ = some (.slice pa_x1 x1.pieces.length pc_x1) := by rw [hw10]; go_simp
      have k_x1_1 : w10.cell? ⟨w9.heap.size, 1, none⟩ = some (.slice sa_x1 x1.seams.length sc_x1) := by rw [hw10]; go_simp
      have k_x1_2 : w10.cell? ⟨w9.heap.size, 2, none⟩ = some (.int .i64 x1.openings) := by rw [hw10]; go_simp
      have zk0_0 : w.heap.size < w9.heap.size := block_lt_of_cell k0_0
      have zk1_0 : w.heap.size + 1 < w9.heap.size := block_lt_of_cell k1_0
      have zk_x0_0 : w7.heap.size < w9.heap.size := block_lt_of_cell k_x0_0
      replace hw10 := Lib.hid hw10
      go_wp2_with fail
      rw [← hw10.out]
      clear zk0_0
      clear zk1_0
      clear zk_x0_0
      replace k0_0 := kept_cell k0_0 hb10
      replace k0_1 := kept_cell k0_1 hb10
      replace k0_2 := kept_cell k0_2 hb10
      replace k1_0 := kept_cell k1_0 hb10
      replace k1_1 := kept_cell k1_1 hb10
      replace k1_2 := kept_cell k1_2 hb10
      replace k_x0_0 := kept_cell k_x0_0 hb10
      replace k_x0_1 := kept_cell k_x0_1 hb10
      replace k_x0_2 := kept_cell k_x0_2 hb10
      have hb := upw hb hb10
      go_wp2_with fail
      refine (implSamePattern_c _ _ _ _ _ _ _ _ _ _ _ ((((hOx0.later hb8).later hb9).later hb10)).lie hl0 ((hOx1.later hb10)).lie hl1).mono ?_
      rintro e w11 ⟨rfl, hb11⟩
      have hb := upw hb hb11
      replace k0_0 := kept_cell k0_0 hb11
      replace k0_1 := kept_cell k0_1 hb11
      replace k0_2 := kept_cell k0_2 hb11
      replace k1_0 := kept_cell k1_0 hb11
      replace k1_1 := kept_cell k1_1 hb11
      replace k1_2 := kept_cell k1_2 hb11
      replace k_x0_0 := kept_cell k_x0_0 hb11
      replace k_x0_1 := kept_cell k_x0_1 hb11
      replace k_x0_2 := kept_cell k_x0_2 hb11
      replace k_x1_0 := kept_cell k_x1_0 hb11
      replace k_x1_1 := kept_cell k_x1_1 hb11
      replace k_x1_2 := kept_cell k_x1_2 hb11
      go_wp2_with fail
      refine wp_region_held_drew (S := (fun w' => w'.cell? ⟨w.heap.size, 0, none⟩ = some (.slice pa0 x0.pieces.length pc0) ∧ w'.cell? ⟨w.heap.size, 1, none⟩ = some (.slice sa0 x0.seams.length sc0) ∧ w'.cell? ⟨w.heap.size, 2, none⟩ = some (.int .i64 x0.openings) ∧ w'.cell? ⟨w.heap.size + 1, 0, none⟩ = some (.slice pa1 x1.pieces.length pc1) ∧ w'.cell? ⟨w.heap.size + 1, 1, none⟩ = some (.slice sa1 x1.seams.length sc1) ∧ w'.cell? ⟨w.heap.size + 1, 2, none⟩ = some (.int .i64 x1.openings) ∧ w'.cell? ⟨w7.heap.size, 0, none⟩ = some (.slice pa_x0 x0.pieces.length pc_x0) ∧ w'.cell? ⟨w7.heap.size, 1, none⟩ = some (.slice sa_x0 x0.seams.length sc_x0) ∧ w'.cell? ⟨w7.heap.size, 2, none⟩ = some (.int .i64 x0.openings) ∧ w'.cell? ⟨w9.heap.size, 0, none⟩ = some (.slice pa_x1 x1.pieces.length pc_x1) ∧ w'.cell? ⟨w9.heap.size, 1, none⟩ = some (.slice sa_x1 x1.seams.length sc_x1) ∧ w'.cell? ⟨w9.heap.size, 2, none⟩ = some (.int .i64 x1.openings))) (by kernel_rfl) ⟨k0_0, k0_1, k0_2, k1_0, k1_1, k1_2, k_x0_0, k_x0_1, k_x0_2, k_x1_0, k_x1_1, k_x1_2⟩ (fun hHeld => ?_)
      refine wpAnyH_take (i := 0) (v := _) rfl (by kernel_rfl) (by kernel_rfl) (by kernel_rfl) (fun _ _ _ h => h) (Or.inl ⟨by rfl, (by intro w hSw; (try dsimp only at hSw); go_simp; try with_reducible rfl)⟩) (by assumption) ?_
      go_simp
      refine wpAnyH_take (i := 1) (v := _) rfl (by kernel_rfl) (by kernel_rfl) (by kernel_rfl) (fun _ _ _ h => h) (Or.inl ⟨by rfl, (by intro w hSw; (try dsimp only at hSw); go_simp; try with_reducible rfl)⟩) (by assumption) ?_
      go_simp
      refine wpAnyH_ready (rs := [2]) (by kernel_rfl) (by simp) ?_
      refine AllReadyH.cons rfl (fun K hK => ?_) AllReadyH.nil
      go_simp
      (refine (toPattern_c _ _ _ _ _ _ (hx0.below hb.drew) hl0).mono ?_; rintro e w12 ⟨pa_t3, pc_t3, sa_t3, sc_t3, rs_t3, rfl, hOt3, hb12⟩; replace hb12 := upw (Below.refl w11.heap.size w11).drew hb12; have hb := upw hb hb12; replace k0_0 := kept_cell (w := w11) k0_0 hb12; replace k0_1 := kept_cell (w := w11) k0_1 hb12; replace k0_2 := kept_cell (w := w11) k0_2 hb12; replace k1_0 := kept_cell (w := w11) k1_0 hb12; replace k1_1 := kept_cell (w := w11) k1_1 hb12; replace k1_2 := kept_cell (w := w11) k1_2 hb12; replace k_x0_0 := kept_cell (w := w11) k_x0_0 hb12; replace k_x0_1 := kept_cell (w := w11) k_x0_1 hb12; replace k_x0_2 := kept_cell (w := w11) k_x0_2 hb12; replace k_x1_0 := kept_cell (w := w11) k_x1_0 hb12; replace k_x1_1 := kept_cell (w := w11) k_x1_1 hb12; replace k_x1_2 := kept_cell (w := w11) k_x1_2 hb12; go_simp)
      refine hK.out _ _ ⟨k0_0, k0_1, k0_2, k1_0, k1_1, k1_2, k_x0_0, k_x0_1, k_x0_2, k_x1_0, k_x1_1, k_x1_2⟩ (fun hHeld => ?_)
      clear hK K
      go_simp
      refine wpAnyH_ready (rs := [3]) (by kernel_rfl) (by simp) ?_
      refine AllReadyH.cons rfl (fun K hK => ?_) AllReadyH.nil
      go_simp
      (refine (eqPattern_same _ _ _ _ _ _ _ _ _ _ ((((((hOx0.later hb8).later hb9).later hb10).later hb11).later hb12)).lie (hOt3).lie hl0).mono ?_; rintro e w13 ⟨rfl, hb13⟩; have hb := upw hb hb13; replace k0_0 := kept_cell k0_0 hb13; replace k0_1 := kept_cell k0_1 hb13; replace k0_2 := kept_cell k0_2 hb13; replace k1_0 := kept_cell k1_0 hb13; replace k1_1 := kept_cell k1_1 hb13; replace k1_2 := kept_cell k1_2 hb13; replace k_x0_0 := kept_cell k_x0_0 hb13; replace k_x0_1 := kept_cell k_x0_1 hb13; replace k_x0_2 := kept_cell k_x0_2 hb13; replace k_x1_0 := kept_cell k_x1_0 hb13; replace k_x1_1 := kept_cell k_x1_1 hb13; replace k_x1_2 := kept_cell k_x1_2 hb13; go_simp)
      refine hK.out _ _ ⟨k0_0, k0_1, k0_2, k1_0, k1_1, k1_2, k_x0_0, k_x0_1, k_x0_2, k_x1_0, k_x1_1, k_x1_2⟩ (fun hHeld => ?_)
      clear hK K
      go_simp
      refine wpAnyH_take (i := 4) (v := _) rfl (by kernel_rfl) (by kernel_rfl) (by kernel_rfl) (fun _ _ _ h => h) (Or.inl ⟨by rfl, (by intro w hSw; (try dsimp only at hSw); go_simp; try with_reducible rfl)⟩) (by assumption) ?_
      go_simp
      refine wpAnyH_done (by kernel_rfl) ?_ _
      go_wp2_with fail
      refine wp_region_held_drew (S := (fun w' => w'.cell? ⟨w.heap.size, 0, none⟩ = some (.slice pa0 x0.pieces.length pc0) ∧ w'.cell? ⟨w.heap.size, 1, none⟩ = some (.slice sa0 x0.seams.length sc0) ∧ w'.cell? ⟨w.heap.size, 2, none⟩ = some (.int .i64 x0.openings) ∧ w'.cell? ⟨w.heap.size + 1, 0, none⟩ = some (.slice pa1 x1.pieces.length pc1) ∧ w'.cell? ⟨w.heap.size + 1, 1, none⟩ = some (.slice sa1 x1.seams.length sc1) ∧ w'.cell? ⟨w.heap.size + 1, 2, none⟩ = some (.int .i64 x1.openings) ∧ w'.cell? ⟨w7.heap.size, 0, none⟩ = some (.slice pa_x0 x0.pieces.length pc_x0) ∧ w'.cell? ⟨w7.heap.size, 1, none⟩ = some (.slice sa_x0 x0.seams.length sc_x0) ∧ w'.cell? ⟨w7.heap.size, 2, none⟩ = some (.int .i64 x0.openings) ∧ w'.cell? ⟨w9.heap.size, 0, none⟩ = some (.slice pa_x1 x1.pieces.length pc_x1) ∧ w'.cell? ⟨w9.heap.size, 1, none⟩ = some (.slice sa_x1 x1.seams.length sc_x1) ∧ w'.cell? ⟨w9.heap.size, 2, none⟩ = some (.int .i64 x1.openings))) (by kernel_rfl) ⟨k0_0, k0_1, k0_2, k1_0, k1_1, k1_2, k_x0_0, k_x0_1, k_x0_2, k_x1_0, k_x1_1, k_x1_2⟩ (fun hHeld => ?_)
      refine wpAnyH_take (i := 0) (v := _) rfl (by kernel_rfl) (by kernel_rfl) (by kernel_rfl) (fun _ _ _ h => h) (Or.inl ⟨by rfl, (by intro w hSw; (try dsimp only at hSw); go_simp; try with_reducible rfl)⟩) (by assumption) ?_
      go_simp
      refine wpAnyH_take (i := 1) (v := _) rfl (by kernel_rfl) (by kernel_rfl) (by kernel_rfl) (fun _ _ _ h => h) (Or.inl ⟨by rfl, (by intro w hSw; (try dsimp only at hSw); go_simp; try with_reducible rfl)⟩) (by assumption) ?_
      go_simp
      refine wpAnyH_ready (rs := [2]) (by kernel_rfl) (by simp) ?_
      refine AllReadyH.cons rfl (fun K hK => ?_) AllReadyH.nil
      go_simp
      (refine (toPattern_c _ _ _ _ _ _ (hx1.below hb.drew) hl1).mono ?_; rintro e w14 ⟨pa_t4, pc_t4, sa_t4, sc_t4, rs_t4, rfl, hOt4, hb14⟩; replace hb14 := upw (Below.refl w13.heap.size w13).drew hb14; have hb := upw hb hb14; replace k0_0 := kept_cell (w := w13) k0_0 hb14; replace k0_1 := kept_cell (w := w13) k0_1 hb14; replace k0_2 := kept_cell (w := w13) k0_2 hb14; replace k1_0 := kept_cell (w := w13) k1_0 hb14; replace k1_1 := kept_cell (w := w13) k1_1 hb14; replace k1_2 := kept_cell (w := w13) k1_2 hb14; replace k_x0_0 := kept_cell (w := w13) k_x0_0 hb14; replace k_x0_1 := kept_cell (w := w13) k_x0_1 hb14; replace k_x0_2 := kept_cell (w := w13) k_x0_2 hb14; replace k_x1_0 := kept_cell (w := w13) k_x1_0 hb14; replace k_x1_1 := kept_cell (w := w13) k_x1_1 hb14; replace k_x1_2 := kept_cell (w := w13) k_x1_2 hb14; go_simp)
      refine hK.out _ _ ⟨k0_0, k0_1, k0_2, k1_0, k1_1, k1_2, k_x0_0, k_x0_1, k_x0_2, k_x1_0, k_x1_1, k_x1_2⟩ (fun hHeld => ?_)
      clear hK K
      go_simp
      refine wpAnyH_ready (rs := [3]) (by kernel_rfl) (by simp) ?_
      refine AllReadyH.cons rfl (fun K hK => ?_) AllReadyH.nil
      go_simp
      (refine (eqPattern_same _ _ _ _ _ _ _ _ _ _ ((((((hOx1.later hb10).later hb11).later hb12).later hb13).later hb14)).lie (hOt4).lie hl1).mono ?_; rintro e w15 ⟨rfl, hb15⟩; have hb := upw hb hb15; replace k0_0 := kept_cell k0_0 hb15; replace k0_1 := kept_cell k0_1 hb15; replace k0_2 := kept_cell k0_2 hb15; replace k1_0 := kept_cell k1_0 hb15; replace k1_1 := kept_cell k1_1 hb15; replace k1_2 := kept_cell k1_2 hb15; replace k_x0_0 := kept_cell k_x0_0 hb15; replace k_x0_1 := kept_cell k_x0_1 hb15; replace k_x0_2 := kept_cell k_x0_2 hb15; replace k_x1_0 := kept_cell k_x1_0 hb15; replace k_x1_1 := kept_cell k_x1_1 hb15; replace k_x1_2 := kept_cell k_x1_2 hb15; go_simp)
      refine hK.out _ _ ⟨k0_0, k0_1, k0_2, k1_0, k1_1, k1_2, k_x0_0, k_x0_1, k_x0_2, k_x1_0, k_x1_1, k_x1_2⟩ (fun hHeld => ?_)
      clear hK K
      go_simp
      refine wpAnyH_take (i := 4) (v := _) rfl (by kernel_rfl) (by kernel_rfl) (by kernel_rfl) (fun _ _ _ h => h) (Or.inl ⟨by rfl, (by intro w hSw; (try dsimp only at hSw); go_simp; try with_reducible rfl)⟩) (by assumption) ?_
      go_simp
      refine wpAnyH_done (by kernel_rfl) ?_ _
      go_wp2_with fail
      go_ret
      exact ⟨rfl, hb⟩
    · go_enter Try.func3, Try.ntmps3
      obtain ⟨w1, hw1⟩ : ∃ w1, w1 = ((w.alloc (.cells #[.slice pa0 x0.pieces.length pc0, .slice sa0 x0.seams.length sc0, .int .i64 x0.openings] 25)).alloc (.cells #[.slice pa1 x1.pieces.length pc1, .slice sa1 x1.seams.length sc1, .int .i64 x1.openings] 25)) := ⟨_, rfl⟩
      have hb1 : Below w.heap.size w w1 := by rw [hw1]; exact (((Below.refl _ _).alloc (by simp) _).alloc (by simp) _)
      have k0_0 : w1.cell? ⟨w.heap.size, 0, none⟩ = some (.slice pa0 x0.pieces.length pc0) := by rw [hw1]; go_simp
      have k0_1 : w1.cell? ⟨w.heap.size, 1, none⟩ = some (.slice sa0 x0.seams.length sc0) := by rw [hw1]; go_simp
      have k0_2 : w1.cell? ⟨w.heap.size, 2, none⟩ = some (.int .i64 x0.openings) := by rw [hw1]; go_simp
      have k1_0 : w1.cell? ⟨w.heap.size + 1, 0, none⟩ = some (.slice pa1 x1.pieces.length pc1) := by rw [hw1]; go_simp
      have k1_1 : w1.cell? ⟨w.heap.size + 1, 1, none⟩ = some (.slice sa1 x1.seams.length sc1) := by rw [hw1]; go_simp
      have k1_2 : w1.cell? ⟨w.heap.size + 1, 2, none⟩ = some (.int .i64 x1.openings) := by rw [hw1]; go_simp
      go_wp2_with fail
      rw [← hw1]
      clear hw1
      have hb := hb1
      go_wp2_with fail
      refine (szPattern_ok x0 _ _ _ _ _ _ (hx0.below hb) hk0 (by omega) (by omega)).mono ?_
      rintro e w2 ⟨rfl, hb2⟩
      have hb := upw hb hb2
      replace k0_0 := kept_cell k0_0 hb2
      replace k0_1 := kept_cell k0_1 hb2
      replace k0_2 := kept_cell k0_2 hb2
      replace k1_0 := kept_cell k1_0 hb2
      replace k1_1 := kept_cell k1_1 hb2
      replace k1_2 := kept_cell k1_2 hb2
      go_wp2_with fail
      refine (szPattern_no x1 _ _ _ _ _ _ (hx1.below hb) hk1 (by omega) (by omega) (by omega)).mono ?_
      rintro e w3 ⟨rfl, hb3⟩
      have hb := upw hb hb3
      replace k0_0 := kept_cell k0_0 hb3
      replace k0_1 := kept_cell k0_1 hb3
      replace k0_2 := kept_cell k0_2 hb3
      replace k1_0 := kept_cell k1_0 hb3
      replace k1_1 := kept_cell k1_1 hb3
      replace k1_2 := kept_cell k1_2 hb3
      go_wp2_with fail
      go_ret
      exact ⟨rfl, hb⟩
  · go_enter Try.func3, Try.ntmps3
    obtain ⟨w1, hw1⟩ : ∃ w1, w1 = ((w.alloc (.cells #[.slice pa0 x0.pieces.length pc0, .slice sa0 x0.seams.length sc0, .int .i64 x0.openings] 25)).alloc (.cells #[.slice pa1 x1.pieces.length pc1, .slice sa1 x1.seams.length sc1, .int .i64 x1.openings] 25)) := ⟨_, rfl⟩
    have hb1 : Below w.heap.size w w1 := by rw [hw1]; exact (((Below.refl _ _).alloc (by simp) _).alloc (by simp) _)
    have k0_0 : w1.cell? ⟨w.heap.size, 0, none⟩ = some (.slice pa0 x0.pieces.length pc0) := by rw [hw1]; go_simp
    have k0_1 : w1.cell? ⟨w.heap.size, 1, none⟩ = some (.slice sa0 x0.seams.length sc0) := by rw [hw1]; go_simp
    have k0_2 : w1.cell? ⟨w.heap.size, 2, none⟩ = some (.int .i64 x0.openings) := by rw [hw1]; go_simp
    have k1_0 : w1.cell? ⟨w.heap.size + 1, 0, none⟩ = some (.slice pa1 x1.pieces.length pc1) := by rw [hw1]; go_simp
    have k1_1 : w1.cell? ⟨w.heap.size + 1, 1, none⟩ = some (.slice sa1 x1.seams.length sc1) := by rw [hw1]; go_simp
    have k1_2 : w1.cell? ⟨w.heap.size + 1, 2, none⟩ = some (.int .i64 x1.openings) := by rw [hw1]; go_simp
    go_wp2_with fail
    rw [← hw1]
    clear hw1
    have hb := hb1
    go_wp2_with fail
    refine (szPattern_no x0 _ _ _ _ _ _ (hx0.below hb) hk0 (by omega) (by omega) (by omega)).mono ?_
    rintro e w2 ⟨rfl, hb2⟩
    have hb := upw hb hb2
    replace k0_0 := kept_cell k0_0 hb2
    replace k0_1 := kept_cell k0_1 hb2
    replace k0_2 := kept_cell k0_2 hb2
    replace k1_0 := kept_cell k1_0 hb2
    replace k1_1 := kept_cell k1_1 hb2
    replace k1_2 := kept_cell k1_2 hb2
    go_wp2_with fail
    go_ret
    exact ⟨rfl, hb⟩

theorem ESamePattern.own : ownKnob Try.prog.godebug = none := by kernel_rfl
theorem ESamePattern.laidOut : laidOutB Try.prog = true := by kernel_rfl

set_option maxRecDepth 100000 in
theorem ESamePattern.lifted (os : Os) (started : os.Started) (H : Type) (enc : TypeId × Value → H) :
    ReturnsInHanded {} Try.checked os 3 .any (Rows.fnExactSamePatternSpec.pre6 enc Try.prog Try.f3 Rows.fnExactSamePatternRow.domain false) (Rows.fnExactSamePatternSpec.post enc Try.prog Try.f3 false true false false) := by
  refine returnsInHanded_of_change (C := Try.checked) ESamePattern.own started (by kernel_rfl) Try.func3
    (ChangeSpec.witness6 (enc := enc) (C := Try.checked) false ⟨#[], #[.agg #[.slice none 0 0, .slice none 0 0, .int .i64 0], .agg #[.slice none 0 0, .slice none 0 0, .int .i64 0]], []⟩ 8 (by kernel_rfl) (by kernel_rfl) (by kernel_rfl) (by kernel_rfl)) ?_
  intro W base args ds gs before hval0 hW _ _
  have hval : ∀ (j : Nat) t v, Try.f3.params[j]? = some t → args[j]? = some v → Value.okWide Try.prog W .any base t v := hval0
  have hW' := hW
  obtain ⟨p, q, hA0, hV, rfl, _, _⟩ := hW
  have hA : DataW.TrodAll enc Try.prog W 0 (fun _ => true) true Try.f3.params.toList args.toList ds p := hA0
  rw [Try.params3] at hA hval
  obtain ⟨v0, vs0, d0, ds0, p0, q0, hargs, rfl, rfl, h0, r0⟩ := trodAll_cons hA
  obtain ⟨v1, vs1, d1, ds1, p1, q1, rfl, rfl, rfl, h1, r1⟩ := trodAll_cons r0
  obtain ⟨rfl, rfl, rfl⟩ := trodAll_nil r1
  obtain rfl : args = #[v0, v1] := by cases args; simp_all
  obtain ⟨rfl, rfl⟩ := trodVars_none hV
  have hlt : ∀ x ∈ p0 ++ (p1 ++ []), x.block < W.heap.size := fun x hx => by simpa using hW'.lt x (by simpa using hx)
  clear hA0 hval0
  have k0 := h0
  have k1 := h1
  obtain ⟨x0, pa0, pc0, sa0, sc0, rfl, hx0, hk0⟩ := open_lpattern (hval 0 25 v0 rfl rfl) h0
  obtain ⟨x1, pa1, pc1, sa1, sc1, rfl, hx1, hk1⟩ := open_lpattern (hval 1 25 v1 rfl rfl) h1
  refine (lawSamePattern x0 pa0 pc0 sa0 sc0 x1 pa1 pc1 sa1 sc1 W hx0 hk0 hx1 hk1).mono fun e W' ⟨he, hb⟩ => ?_
  subst he
  refine ⟨_, rfl, _, _, _, [], p0 ++ (p1 ++ []), [], hW', ?_, ?_, rfl, hb.frame _, fun h => by cases h⟩
  · exact trodAll_mk1 (shut_bool Try.underlying4 _)
  · exact trodAll_cons_mk (Below.trod ESamePattern.laidOut (by kernel_rfl) (of_decide_eq_true (by kernel_rfl)) k0 hb (fun x hx => hlt x (by simp [hx]))) (trodAll_cons_mk (Below.trod ESamePattern.laidOut (by kernel_rfl) (of_decide_eq_true (by kernel_rfl)) k1 hb (fun x hx => hlt x (by simp [hx]))) (trodAll_mk0))

theorem ESamePattern.holds : Rows.FnExactSamePatternSaid :=
  OpenClaim.holds_of_wide 3 Try.f3 rfl rfl rfl rfl rfl rfl rfl ⟨rfl, rfl, rfl, rfl, rfl⟩ rfl rfl rfl rfl rfl (by kernel_rfl) Try.func3 (by kernel_rfl)
    (of_decide_eq_true (by kernel_rfl)) (by unfold Func.isWrapper; first | (rw [if_pos (by decide +kernel)]; kernel_rfl) | (rw [if_neg (by decide +kernel)]; exact ⟨rfl, rfl⟩))
    (fun os started H enc _ => ESamePattern.lifted os started H enc)

end Go.Proofs.Ytigaimehlcgobaa
