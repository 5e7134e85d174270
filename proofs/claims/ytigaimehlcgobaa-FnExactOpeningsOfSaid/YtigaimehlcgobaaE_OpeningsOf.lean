/- FnExactOpeningsOf: for all arguments the law returns true, and its arguments read behind the call as before. (Printed by wip/genlaw2.py.) -/
import Derived.Test.YtigaimehlcgobaaP08o
import Derived.Test.YtigaimehlcgobaaInts
import Derived.Test.YtigaimehlcgobaaP08t
import Derived.Test.YtigaimehlcgobaaP08n
import Derived.Deep.RegionHeld3
namespace Go.Proofs.Ytigaimehlcgobaa
open Go.ChangeShapes Go.WideShapes Go.ChangeAt Go.RowKit

set_option maxRecDepth 100000 in
set_option maxHeartbeats 4000000 in
theorem lawOpeningsOf (x0 : Pattern) (pa0 : Option Addr) (pc0 : Nat) (sa0 : Option Addr) (sc0 : Nat) (w : World) (hx0 : LieP w pa0 sa0 x0) (hk0 : okP x0) :
    Calls Try.prog 11 #[.agg #[.slice pa0 x0.pieces.length pc0, .slice sa0 x0.seams.length sc0, .int .i64 x0.openings]] w fun e w' => e = .returned (.bool true) ∧ Below w.heap.size w w' := by
  by_cases hh0 : totPattern x0 ≤ 1048576
  · skip
    have hl0 : totPattern x0 ≤ 1048576 := by omega
    have hlen := OpeningsOf_len x0
    go_enter Try.func11, Try.ntmps11
    obtain ⟨w1, hw1⟩ : ∃ w1, w1 = (w.alloc (.cells #[.slice pa0 x0.pieces.length pc0, .slice sa0 x0.seams.length sc0, .int .i64 x0.openings] 25)) := ⟨_, rfl⟩
    have hb1 : Below w.heap.size w w1 := by rw [hw1]; exact ((Below.refl _ _).alloc (by simp) _)
    have k0_0 : w1.cell? ⟨w.heap.size, 0, none⟩ = some (.slice pa0 x0.pieces.length pc0) := by rw [hw1]; go_simp
    have k0_1 : w1.cell? ⟨w.heap.size, 1, none⟩ = some (.slice sa0 x0.seams.length sc0) := by rw [hw1]; go_simp
    have k0_2 : w1.cell? ⟨w.heap.size, 2, none⟩ = some (.int .i64 x0.openings) := by rw [hw1]; go_simp
    have hsz1 := Lib.hid (show w1.heap.size = w.heap.size + 1 by rw [hw1]; simp)
    go_wp2_with fail
    rw [← hw1]
    clear hw1
    have hb := hb1
    go_wp2_with fail
    refine (szPattern_ok x0 _ _ _ _ _ _ (hx0.below hb) hk0 (by omega) (by omega)).mono ?_
    rintro e w2 ⟨rfl, hb2⟩
    have hb := upw hb hb2
    replace k0_0 := kept_cell k0_0 hb2
    replace k0_1 := kept_cell k0_1 hb2
    replace k0_2 := kept_cell k0_2 hb2
    go_wp2_with fail
    refine (toPattern_c _ _ _ _ _ _ (hx0.below hb) hl0).mono ?_
    rintro e w3 ⟨pa_t1, pc_t1, sa_t1, sc_t1, rs_t1, rfl, hOt1, hb3⟩
    have hb := upw hb hb3
    replace k0_0 := kept_cell k0_0 hb3
    replace k0_1 := kept_cell k0_1 hb3
    replace k0_2 := kept_cell k0_2 hb3
    go_wp2_with fail
    refine (specOpeningsOf_c _ _ _ _ _ _ (hOt1).lie hl0).mono ?_
    rintro e w4 ⟨vw0, rfl, hOw0, hb4⟩
    have hb := upw hb hb4
    replace k0_0 := kept_cell k0_0 hb4
    replace k0_1 := kept_cell k0_1 hb4
    replace k0_2 := kept_cell k0_2 hb4
    obtain ⟨aw0, cw0, rfl, _⟩ := hOw0.at
    go_wp2_with fail
    refine (toPattern_c _ _ _ _ _ _ (hx0.below hb) hl0).mono ?_
    rintro e w5 ⟨pa_x0, pc_x0, sa_x0, sc_x0, rs_x0, rfl, hOx0, hb5⟩
    have hb := upw hb hb5
    replace k0_0 := kept_cell k0_0 hb5
    replace k0_1 := kept_cell k0_1 hb5
    replace k0_2 := kept_cell k0_2 hb5
    obtain ⟨w6, hw6⟩ : ∃ w6, w6 = w5.alloc (.cells #[.slice pa_x0 x0.pieces.length pc_x0, .slice sa_x0 x0.seams.length sc_x0, .int .i64 x0.openings] 31) := ⟨_, rfl⟩
    have hb6 : Below w5.heap.size w5 w6 := by rw [hw6]; exact new_below _ _
    have k_x0_0 : w6.cell? ⟨w5.heap.size, 0, none⟩ = some (.slice pa_x0 x0.pieces.length pc_x0) := by rw [hw6]; go_simp
    have k_x0_1 : w6.cell? ⟨w5.heap.size, 1, none⟩ = some (.slice sa_x0 x0.seams.length sc_x0) := by rw [hw6]; go_simp
    have k_x0_2 : w6.cell? ⟨w5.heap.size, 2, none⟩ = some (.int .i64 x0.openings) := by rw [hw6]; go_simp
    have zk0_0 : w.heap.size < w5.heap.size := block_lt_of_cell k0_0
    have hsz6 := Lib.hid (show w6.heap.size = w5.heap.size + 1 by rw [hw6]; simp)
    replace hw6 := Lib.hid hw6
    go_wp2_with fail
    rw [← hw6.out]
    clear zk0_0
    replace k0_0 := kept_cell k0_0 hb6
    replace k0_1 := kept_cell k0_1 hb6
    replace k0_2 := kept_cell k0_2 hb6
    have hb := upw hb hb6
    go_wp2_with fail
    refine (implOpeningsOf_c _ _ _ _ _ _ ((hOx0.later hb6)).lie hl0).mono ?_
    rintro e w7 ⟨vg0, rfl, hOg0, hb7⟩
    have hb := upw hb hb7
    replace k0_0 := kept_cell k0_0 hb7
    replace k0_1 := kept_cell k0_1 hb7
    replace k0_2 := kept_cell k0_2 hb7
    replace k_x0_0 := kept_cell k_x0_0 hb7
    replace k_x0_1 := kept_cell k_x0_1 hb7
    replace k_x0_2 := kept_cell k_x0_2 hb7
    obtain ⟨ag0, cg0, rfl, _⟩ := hOg0.at
    go_wp2_with fail
    refine (eqInt64S_same _ _ _ _ _ _ (hOg0).at' ((((hOw0.later hb5).later hb6).later hb7)).at' (by omega)).mono ?_
    rintro e w8 ⟨rfl, hb8⟩
    have hb := upw hb hb8
    replace k0_0 := kept_cell k0_0 hb8
    replace k0_1 := kept_cell k0_1 hb8
    replace k0_2 := kept_cell k0_2 hb8
    replace k_x0_0 := kept_cell k_x0_0 hb8
    replace k_x0_1 := kept_cell k_x0_1 hb8
    replace k_x0_2 := kept_cell k_x0_2 hb8
    go_wp2_with fail
    refine wp_region_held_drew (S := (fun w' => w'.cell? ⟨w.heap.size, 0, none⟩ = some (.slice pa0 x0.pieces.length pc0) ∧ w'.cell? ⟨w.heap.size, 1, none⟩ = some (.slice sa0 x0.seams.length sc0) ∧ w'.cell? ⟨w.heap.size, 2, none⟩ = some (.int .i64 x0.openings) ∧ w'.cell? ⟨w5.heap.size, 0, none⟩ = some (.slice pa_x0 x0.pieces.length pc_x0) ∧ w'.cell? ⟨w5.heap.size, 1, none⟩ = some (.slice sa_x0 x0.seams.length sc_x0) ∧ w'.cell? ⟨w5.heap.size, 2, none⟩ = some (.int .i64 x0.openings))) (by kernel_rfl) ⟨k0_0, k0_1, k0_2, k_x0_0, k_x0_1, k_x0_2⟩ (fun hHeld => ?_)
    refine wpAnyH_take (i := 0) (v := _) rfl (by kernel_rfl) (by kernel_rfl) (by kernel_rfl) (fun _ _ _ h => h) (Or.inl ⟨by rfl, (by intro w hSw; (try dsimp only at hSw); go_simp; try with_reducible rfl)⟩) (by assumption) ?_
    go_simp
    refine wpAnyH_take (i := 1) (v := _) rfl (by kernel_rfl) (by kernel_rfl) (by kernel_rfl) (fun _ _ _ h => h) (Or.inl ⟨by rfl, (by intro w hSw; (try dsimp only at hSw); go_simp; try with_reducible rfl)⟩) (by assumption) ?_
    go_simp
    refine wpAnyH_ready (rs := [2]) (by kernel_rfl) (by simp) ?_
    refine AllReadyH.cons rfl (fun K hK => ?_) AllReadyH.nil
    go_simp
    (refine (toPattern_c _ _ _ _ _ _ (hx0.below hb.drew) hl0).mono ?_; rintro e w9 ⟨pa_t2, pc_t2, sa_t2, sc_t2, rs_t2, rfl, hOt2, hb9⟩; replace hb9 := upw (Below.refl w8.heap.size w8).drew hb9; have hb := upw hb hb9; replace k0_0 := kept_cell (w := w8) k0_0 hb9; replace k0_1 := kept_cell (w := w8) k0_1 hb9; replace k0_2 := kept_cell (w := w8) k0_2 hb9; replace k_x0_0 := kept_cell (w := w8) k_x0_0 hb9; replace k_x0_1 := kept_cell (w := w8) k_x0_1 hb9; replace k_x0_2 := kept_cell (w := w8) k_x0_2 hb9; go_simp)
    refine hK.out _ _ ⟨k0_0, k0_1, k0_2, k_x0_0, k_x0_1, k_x0_2⟩ (fun hHeld => ?_)
    clear hK K
    go_simp
    refine wpAnyH_ready (rs := [3]) (by kernel_rfl) (by simp) ?_
    refine AllReadyH.cons rfl (fun K hK => ?_) AllReadyH.nil
    go_simp
    (refine (eqPattern_same _ _ _ _ _ _ _ _ _ _ (((((hOx0.later hb6).later hb7).later hb8).later hb9)).lie (hOt2).lie hl0).mono ?_; rintro e w10 ⟨rfl, hb10⟩; have hb := upw hb hb10; replace k0_0 := kept_cell k0_0 hb10; replace k0_1 := kept_cell k0_1 hb10; replace k0_2 := kept_cell k0_2 hb10; replace k_x0_0 := kept_cell k_x0_0 hb10; replace k_x0_1 := kept_cell k_x0_1 hb10; replace k_x0_2 := kept_cell k_x0_2 hb10; go_simp)
    refine hK.out _ _ ⟨k0_0, k0_1, k0_2, k_x0_0, k_x0_1, k_x0_2⟩ (fun hHeld => ?_)
    clear hK K
    go_simp
    refine wpAnyH_take (i := 4) (v := _) rfl (by kernel_rfl) (by kernel_rfl) (by kernel_rfl) (fun _ _ _ h => h) (Or.inl ⟨by rfl, (by intro w hSw; (try dsimp only at hSw); go_simp; try with_reducible rfl)⟩) (by assumption) ?_
    go_simp
    refine wpAnyH_done (by kernel_rfl) ?_ _
    go_wp2_with fail
    refine (markPattern_c _ _ _ _ _ _ _ _ _ _ ((((((hOx0.later hb6).later hb7).later hb8).later hb9).later hb10)) hOx0.patIn hl0 rfl (by have := hsz1.out; have := hsz6.out; have := hb1.size; have := hb2.size; have := hb3.size; have := hb4.size; have := hb5.size; have := hb6.size; have := hb7.size; have := hb8.size; have := hb9.size; have := hb10.size; (try simp); omega)).mono ?_
    rintro e w11 ⟨mx0, rsx0, hmx0, hmbx0, rfl, hM11, hT11⟩
    have hb := hT11.below hb (by have := hb1.size; have := hb2.size; have := hb3.size; have := hb4.size; omega)
    replace hmx0 := Lib.hid hmx0
    replace k0_0 := touched_cell k0_0 hT11 (by have := hsz1.out; have := hsz6.out; have := hb1.size; have := hb2.size; have := hb3.size; have := hb4.size; have := hb5.size; have := hb6.size; have := hb7.size; have := hb8.size; have := hb9.size; have := hb10.size; omega)
    replace k0_1 := touched_cell k0_1 hT11 (by have := hsz1.out; have := hsz6.out; have := hb1.size; have := hb2.size; have := hb3.size; have := hb4.size; have := hb5.size; have := hb6.size; have := hb7.size; have := hb8.size; have := hb9.size; have := hb10.size; omega)
    replace k0_2 := touched_cell k0_2 hT11 (by have := hsz1.out; have := hsz6.out; have := hb1.size; have := hb2.size; have := hb3.size; have := hb4.size; have := hb5.size; have := hb6.size; have := hb7.size; have := hb8.size; have := hb9.size; have := hb10.size; omega)
    replace k_x0_0 := touched_cell k_x0_0 hT11 (by have := hsz1.out; have := hsz6.out; have := hb1.size; have := hb2.size; have := hb3.size; have := hb4.size; have := hb5.size; have := hb6.size; have := hb7.size; have := hb8.size; have := hb9.size; have := hb10.size; omega)
    replace k_x0_1 := touched_cell k_x0_1 hT11 (by have := hsz1.out; have := hsz6.out; have := hb1.size; have := hb2.size; have := hb3.size; have := hb4.size; have := hb5.size; have := hb6.size; have := hb7.size; have := hb8.size; have := hb9.size; have := hb10.size; omega)
    replace k_x0_2 := touched_cell k_x0_2 hT11 (by have := hsz1.out; have := hsz6.out; have := hb1.size; have := hb2.size; have := hb3.size; have := hb4.size; have := hb5.size; have := hb6.size; have := hb7.size; have := hb8.size; have := hb9.size; have := hb10.size; omega)
    have hOw0_11 := ((((((hOw0.later hb5).later hb6).later hb7).later hb8).later hb9).later hb10).touched hT11 (own_before hOw0 (Nat.le_refl _))
    have hOg0_11 := (((hOg0.later hb8).later hb9).later hb10).touched hT11 (own_since hOg0 (by have := hb6.size; omega))
    go_wp2_with fail
    refine (eqInt64S_same _ _ _ _ _ _ (hOg0_11).at' (hOw0_11).at' (by omega)).mono ?_
    rintro e w12 ⟨rfl, hb12⟩
    have hb := upw hb hb12
    replace k0_0 := kept_cell k0_0 hb12
    replace k0_1 := kept_cell k0_1 hb12
    replace k0_2 := kept_cell k0_2 hb12
    replace k_x0_0 := kept_cell k_x0_0 hb12
    replace k_x0_1 := kept_cell k_x0_1 hb12
    replace k_x0_2 := kept_cell k_x0_2 hb12
    go_wp2_with fail
    refine (markInt64S_any _ _ _ _ _ (hOg0_11.later hb12) (by omega) (by omega) (by omega)).mono ?_
    rintro e w13 ⟨rfl, hM13, hg13⟩
    have hb := below_mark hb (hOg0_11.later hb12) (by have := hb1.size; have := hb2.size; have := hb3.size; have := hb4.size; have := hb5.size; have := hb6.size; omega) hg13
    replace k0_0 := hg13.cell k0_0 (own_ne (hOg0_11.later hb12) (by have := hsz1.out; have := hsz6.out; have := hb1.size; have := hb2.size; have := hb3.size; have := hb4.size; have := hb5.size; have := hb6.size; have := hb7.size; have := hb8.size; have := hb9.size; have := hb10.size; have := hT11.size; have := hb12.size; (try dsimp only); omega))
    replace k0_1 := hg13.cell k0_1 (own_ne (hOg0_11.later hb12) (by have := hsz1.out; have := hsz6.out; have := hb1.size; have := hb2.size; have := hb3.size; have := hb4.size; have := hb5.size; have := hb6.size; have := hb7.size; have := hb8.size; have := hb9.size; have := hb10.size; have := hT11.size; have := hb12.size; (try dsimp only); omega))
    replace k0_2 := hg13.cell k0_2 (own_ne (hOg0_11.later hb12) (by have := hsz1.out; have := hsz6.out; have := hb1.size; have := hb2.size; have := hb3.size; have := hb4.size; have := hb5.size; have := hb6.size; have := hb7.size; have := hb8.size; have := hb9.size; have := hb10.size; have := hT11.size; have := hb12.size; (try dsimp only); omega))
    replace k_x0_0 := hg13.cell k_x0_0 (own_ne (hOg0_11.later hb12) (by have := hsz1.out; have := hsz6.out; have := hb1.size; have := hb2.size; have := hb3.size; have := hb4.size; have := hb5.size; have := hb6.size; have := hb7.size; have := hb8.size; have := hb9.size; have := hb10.size; have := hT11.size; have := hb12.size; (try dsimp only); omega))
    replace k_x0_1 := hg13.cell k_x0_1 (own_ne (hOg0_11.later hb12) (by have := hsz1.out; have := hsz6.out; have := hb1.size; have := hb2.size; have := hb3.size; have := hb4.size; have := hb5.size; have := hb6.size; have := hb7.size; have := hb8.size; have := hb9.size; have := hb10.size; have := hT11.size; have := hb12.size; (try dsimp only); omega))
    replace k_x0_2 := hg13.cell k_x0_2 (own_ne (hOg0_11.later hb12) (by have := hsz1.out; have := hsz6.out; have := hb1.size; have := hb2.size; have := hb3.size; have := hb4.size; have := hb5.size; have := hb6.size; have := hb7.size; have := hb8.size; have := hb9.size; have := hb10.size; have := hT11.size; have := hb12.size; (try dsimp only); omega))
    have hOw0_13 := (hOw0_11.later hb12).kept hg13 (own_apart' (hOg0_11.later hb12) hOw0 (by have := hb5.size; have := hb6.size; omega))
    go_wp2_with fail
    refine (heldInt64S_any _ _ _ _ _ (hM13).at_n (by omega) (by omega) (by omega)).mono ?_
    rintro e w14 ⟨rfl, hb14⟩
    have hb := upw hb hb14
    replace k0_0 := kept_cell k0_0 hb14
    replace k0_1 := kept_cell k0_1 hb14
    replace k0_2 := kept_cell k0_2 hb14
    replace k_x0_0 := kept_cell k_x0_0 hb14
    replace k_x0_1 := kept_cell k_x0_1 hb14
    replace k_x0_2 := kept_cell k_x0_2 hb14
    go_wp2_with fail
    refine (toPattern_c _ _ _ _ _ _ (hx0.below hb) hl0).mono ?_
    rintro e w15 ⟨pa_t3, pc_t3, sa_t3, sc_t3, rs_t3, rfl, hOt3, hb15⟩
    have hb := upw hb hb15
    replace k0_0 := kept_cell k0_0 hb15
    replace k0_1 := kept_cell k0_1 hb15
    replace k0_2 := kept_cell k0_2 hb15
    replace k_x0_0 := kept_cell k_x0_0 hb15
    replace k_x0_1 := kept_cell k_x0_1 hb15
    replace k_x0_2 := kept_cell k_x0_2 hb15
    go_wp2_with fail
    refine (implOpeningsOf_c _ _ _ _ _ _ (hOt3).lie hl0).mono ?_
    rintro e w16 ⟨vh0, rfl, hOh0, hb16⟩
    have hb := upw hb hb16
    replace k0_0 := kept_cell k0_0 hb16
    replace k0_1 := kept_cell k0_1 hb16
    replace k0_2 := kept_cell k0_2 hb16
    replace k_x0_0 := kept_cell k_x0_0 hb16
    replace k_x0_1 := kept_cell k_x0_1 hb16
    replace k_x0_2 := kept_cell k_x0_2 hb16
    obtain ⟨ah0, ch0, rfl, _⟩ := hOh0.at
    go_wp2_with fail
    refine (eqInt64S_same _ _ _ _ _ _ (hOh0).at' ((((hOw0_13.later hb14).later hb15).later hb16)).at' (by omega)).mono ?_
    rintro e w17 ⟨rfl, hb17⟩
    have hb := upw hb hb17
    replace k0_0 := kept_cell k0_0 hb17
    replace k0_1 := kept_cell k0_1 hb17
    replace k0_2 := kept_cell k0_2 hb17
    replace k_x0_0 := kept_cell k_x0_0 hb17
    replace k_x0_1 := kept_cell k_x0_1 hb17
    replace k_x0_2 := kept_cell k_x0_2 hb17
    go_wp2_with fail
    refine (heldInt64S_any _ _ _ _ _ (((((hM13.later hb14).later hb15).later hb16).later hb17)).at_n (by omega) (by omega) (by omega)).mono ?_
    rintro e w18 ⟨rfl, hb18⟩
    have hb := upw hb hb18
    replace k0_0 := kept_cell k0_0 hb18
    replace k0_1 := kept_cell k0_1 hb18
    replace k0_2 := kept_cell k0_2 hb18
    replace k_x0_0 := kept_cell k_x0_0 hb18
    replace k_x0_1 := kept_cell k_x0_1 hb18
    replace k_x0_2 := kept_cell k_x0_2 hb18
    go_wp2_with fail
    go_ret
    exact ⟨rfl, hb⟩
  · go_enter Try.func11, Try.ntmps11
    obtain ⟨w1, hw1⟩ : ∃ w1, w1 = (w.alloc (.cells #[.slice pa0 x0.pieces.length pc0, .slice sa0 x0.seams.length sc0, .int .i64 x0.openings] 25)) := ⟨_, rfl⟩
    have hb1 : Below w.heap.size w w1 := by rw [hw1]; exact ((Below.refl _ _).alloc (by simp) _)
    have k0_0 : w1.cell? ⟨w.heap.size, 0, none⟩ = some (.slice pa0 x0.pieces.length pc0) := by rw [hw1]; go_simp
    have k0_1 : w1.cell? ⟨w.heap.size, 1, none⟩ = some (.slice sa0 x0.seams.length sc0) := by rw [hw1]; go_simp
    have k0_2 : w1.cell? ⟨w.heap.size, 2, none⟩ = some (.int .i64 x0.openings) := by rw [hw1]; go_simp
    have hsz1 := Lib.hid (show w1.heap.size = w.heap.size + 1 by rw [hw1]; simp)
    go_wp2_with fail
    rw [← hw1]
    clear hw1
    have hb := hb1
    go_wp2_with fail
    refine (szPattern_no x0 _ _ _ _ _ _ (hx0.below hb) hk0 (by omega) (by omega) (by omega)).mono ?_
    rintro e w2 ⟨rfl, hb2⟩
    have hb := upw hb hb2
    replace k0_0 := kept_cell k0_0 hb2
    replace k0_1 := kept_cell k0_1 hb2
    replace k0_2 := kept_cell k0_2 hb2
    go_wp2_with fail
    go_ret
    exact ⟨rfl, hb⟩

theorem EOpeningsOf.own : ownKnob Try.prog.godebug = none := by kernel_rfl
theorem EOpeningsOf.laidOut : laidOutB Try.prog = true := by kernel_rfl

set_option maxRecDepth 100000 in
theorem EOpeningsOf.lifted (os : Os) (started : os.Started) (H : Type) (enc : TypeId × Value → H) :
    ReturnsInHanded {} Try.checked os 11 .any (Rows.fnExactOpeningsOfSpec.pre6 enc Try.prog Try.f11 Rows.fnExactOpeningsOfRow.domain false) (Rows.fnExactOpeningsOfSpec.post enc Try.prog Try.f11 false true false false) := by
  refine returnsInHanded_of_change (C := Try.checked) EOpeningsOf.own started (by kernel_rfl) Try.func11
    (ChangeSpec.witness6 (enc := enc) (C := Try.checked) false ⟨#[], #[.agg #[.slice none 0 0, .slice none 0 0, .int .i64 0]], []⟩ 8 (by kernel_rfl) (by kernel_rfl) (by kernel_rfl) (by kernel_rfl)) ?_
  intro W base args ds gs before hval0 hW _ _
  have hval : ∀ (j : Nat) t v, Try.f11.params[j]? = some t → args[j]? = some v → Value.okWide Try.prog W .any base t v := hval0
  have hW' := hW
  obtain ⟨p, q, hA0, hV, rfl, _, _⟩ := hW
  have hA : DataW.TrodAll enc Try.prog W 0 (fun _ => true) true Try.f11.params.toList args.toList ds p := hA0
  rw [Try.params11] at hA hval
  obtain ⟨v0, vs0, d0, ds0, p0, q0, hargs, rfl, rfl, h0, r0⟩ := trodAll_cons hA
  obtain ⟨rfl, rfl, rfl⟩ := trodAll_nil r0
  obtain rfl : args = #[v0] := by cases args; simp_all
  obtain ⟨rfl, rfl⟩ := trodVars_none hV
  have hlt : ∀ x ∈ p0 ++ [], x.block < W.heap.size := fun x hx => by simpa using hW'.lt x (by simpa using hx)
  clear hA0 hval0
  have k0 := h0
  obtain ⟨x0, pa0, pc0, sa0, sc0, rfl, hx0, hk0⟩ := open_lpattern (hval 0 25 v0 rfl rfl) h0
  refine (lawOpeningsOf x0 pa0 pc0 sa0 sc0 W hx0 hk0).mono fun e W' ⟨he, hb⟩ => ?_
  subst he
  refine ⟨_, rfl, _, _, _, [], p0 ++ [], [], hW', ?_, ?_, rfl, hb.frame _, fun h => by cases h⟩
  · exact trodAll_mk1 (shut_bool Try.underlying4 _)
  · exact trodAll_cons_mk (Below.trod EOpeningsOf.laidOut (by kernel_rfl) (of_decide_eq_true (by kernel_rfl)) k0 hb (fun x hx => hlt x (by simp [hx]))) (trodAll_mk0)

theorem EOpeningsOf.holds : Rows.FnExactOpeningsOfSaid :=
  OpenClaim.holds_of_wide 11 Try.f11 rfl rfl rfl rfl rfl rfl rfl ⟨rfl, rfl, rfl, rfl, rfl⟩ rfl rfl rfl rfl rfl (by kernel_rfl) Try.func11 (by kernel_rfl)
    (of_decide_eq_true (by kernel_rfl)) (by unfold Func.isWrapper; first | (rw [if_pos (by decide +kernel)]; kernel_rfl) | (rw [if_neg (by decide +kernel)]; exact ⟨rfl, rfl⟩))
    (fun os started H enc _ => EOpeningsOf.lifted os started H enc)

end Go.Proofs.Ytigaimehlcgobaa
