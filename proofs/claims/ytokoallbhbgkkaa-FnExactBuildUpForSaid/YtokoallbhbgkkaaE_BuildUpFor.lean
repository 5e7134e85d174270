/- FnExactBuildUpFor: for all arguments the law returns true, and its arguments read behind the call as before. (Printed by wip/genlaw2.py.) -/
import Derived.Test.YtokoallbhbgkkaaLastT
import Derived.Test.YtokoallbhbgkkaaFoot
import Derived.Test.YtokoallbhbgkkaaInts
import Derived.Test.YtokoallbhbgkkaaB06d
import Derived.Deep.RegionHeld3
namespace Go.Proofs.Ytokoallbhbgkkaa
open Go.ChangeShapes Go.WideShapes Go.ChangeAt Go.RowKit

set_option maxRecDepth 100000 in
set_option maxHeartbeats 4000000 in
theorem lawBuildUpFor (x0 : Last) (x1 : Foot) (a2 : Option Addr) (x2 : List Int) (c2 : Nat) (x3 : Int) (w : World) (hn0 : Rep.ok x0) (hn1 : Rep.ok x1) (hx2 : At w a2 x2) (hn2 : x2.length ≤ 9223372036854775807) (hn3 : -9223372036854775808 ≤ x3 ∧ x3 ≤ 9223372036854775807) :
    Calls Try.prog 4 #[.agg #[.string x0.Name, .int .i64 x0.Length, .int .i64 x0.Ball, .int .i64 x0.Instep, .int .i64 x0.Heel, .int .i64 x0.Pitch], .agg #[.int .i64 x1.Length, .int .i64 x1.Ball, .int .i64 x1.Instep, .int .i64 x1.Heel], .slice a2 x2.length c2, .int .i64 x3] w fun e w' => e = .returned (.bool true) ∧ Below w.heap.size w w' := by
  by_cases hh0 : x2.length ≤ 1048576
  · skip
    by_cases hh1 : x0.Name.size ≤ 1048576
    · skip
      have hl2 : x2.length ≤ 1048576 := by omega
      have hl0 : x0.Name.size ≤ 1048576 := by omega
      obtain ⟨hlen, hlenk, hlenx⟩ := BuildUpFor_len x0 x1 x2 x3
      go_enter Try.func4, Try.ntmps4
      obtain ⟨w1, hw1⟩ : ∃ w1, w1 = ((w.alloc (.cells #[.string x0.Name, .int .i64 x0.Length, .int .i64 x0.Ball, .int .i64 x0.Instep, .int .i64 x0.Heel, .int .i64 x0.Pitch] 30)).alloc (.cells #[.int .i64 x1.Length, .int .i64 x1.Ball, .int .i64 x1.Instep, .int .i64 x1.Heel] 32)) := ⟨_, rfl⟩
      have hb1 : Below w.heap.size w w1 := by rw [hw1]; exact (((Below.refl _ _).alloc (by simp) _).alloc (by simp) _)
      have k0_0 : w1.cell? ⟨w.heap.size, 0, none⟩ = some (.string x0.Name) := by rw [hw1]; go_simp
      have k0_1 : w1.cell? ⟨w.heap.size, 1, none⟩ = some (.int .i64 x0.Length) := by rw [hw1]; go_simp
      have k0_2 : w1.cell? ⟨w.heap.size, 2, none⟩ = some (.int .i64 x0.Ball) := by rw [hw1]; go_simp
      have k0_3 : w1.cell? ⟨w.heap.size, 3, none⟩ = some (.int .i64 x0.Instep) := by rw [hw1]; go_simp
      have k0_4 : w1.cell? ⟨w.heap.size, 4, none⟩ = some (.int .i64 x0.Heel) := by rw [hw1]; go_simp
      have k0_5 : w1.cell? ⟨w.heap.size, 5, none⟩ = some (.int .i64 x0.Pitch) := by rw [hw1]; go_simp
      have k1_0 : w1.cell? ⟨w.heap.size + 1, 0, none⟩ = some (.int .i64 x1.Length) := by rw [hw1]; go_simp
      have k1_1 : w1.cell? ⟨w.heap.size + 1, 1, none⟩ = some (.int .i64 x1.Ball) := by rw [hw1]; go_simp
      have k1_2 : w1.cell? ⟨w.heap.size + 1, 2, none⟩ = some (.int .i64 x1.Instep) := by rw [hw1]; go_simp
      have k1_3 : w1.cell? ⟨w.heap.size + 1, 3, none⟩ = some (.int .i64 x1.Heel) := by rw [hw1]; go_simp
      have hsz1 := Lib.hid (show w1.heap.size = w.heap.size + 2 by rw [hw1]; simp)
      go_wp2_with fail
      rw [← hw1]
      clear hw1
      have hb := hb1
      go_wp2_with fail
      refine (szLast_ok x0 _ _ (by omega) (by omega)).mono ?_
      rintro e w2 ⟨rfl, hb2⟩
      have hb := upw hb hb2
      replace k0_0 := kept_cell k0_0 hb2
      replace k0_1 := kept_cell k0_1 hb2
      replace k0_2 := kept_cell k0_2 hb2
      replace k0_3 := kept_cell k0_3 hb2
      replace k0_4 := kept_cell k0_4 hb2
      replace k0_5 := kept_cell k0_5 hb2
      replace k1_0 := kept_cell k1_0 hb2
      replace k1_1 := kept_cell k1_1 hb2
      replace k1_2 := kept_cell k1_2 hb2
      replace k1_3 := kept_cell k1_3 hb2
      go_wp2_with fail
      refine wp_region_held_drew (S := (fun w' => w'.cell? ⟨w.heap.size, 0, none⟩ = some (.string x0.Name) ∧ w'.cell? ⟨w.heap.size, 1, none⟩ = some (.int .i64 x0.Length) ∧ w'.cell? ⟨w.heap.size, 2, none⟩ = some (.int .i64 x0.Ball) ∧ w'.cell? ⟨w.heap.size, 3, none⟩ = some (.int .i64 x0.Instep) ∧ w'.cell? ⟨w.heap.size, 4, none⟩ = some (.int .i64 x0.Heel) ∧ w'.cell? ⟨w.heap.size, 5, none⟩ = some (.int .i64 x0.Pitch) ∧ w'.cell? ⟨w.heap.size + 1, 0, none⟩ = some (.int .i64 x1.Length) ∧ w'.cell? ⟨w.heap.size + 1, 1, none⟩ = some (.int .i64 x1.Ball) ∧ w'.cell? ⟨w.heap.size + 1, 2, none⟩ = some (.int .i64 x1.Instep) ∧ w'.cell? ⟨w.heap.size + 1, 3, none⟩ = some (.int .i64 x1.Heel))) (by kernel_rfl) ⟨k0_0, k0_1, k0_2, k0_3, k0_4, k0_5, k1_0, k1_1, k1_2, k1_3⟩ (fun hHeld => ?_)
      refine wpAnyH_take (i := 0) (v := _) rfl (by kernel_rfl) (by kernel_rfl) (by kernel_rfl) (fun _ _ _ h => h) (Or.inl ⟨by rfl, (by intro w hSw; (try dsimp only at hSw); go_simp; try with_reducible rfl)⟩) (by assumption) ?_
      go_simp
      refine wpAnyH_take (i := 2) (v := _) rfl (by kernel_rfl) (by kernel_rfl) (by kernel_rfl) (fun _ _ _ h => h) (Or.inl ⟨by rfl, (by intro w hSw; (try dsimp only at hSw); go_simp; try with_reducible rfl)⟩) (by assumption) ?_
      go_simp
      refine wpAnyH_take (i := 4) (v := _) rfl (by kernel_rfl) (by kernel_rfl) (by kernel_rfl) (fun _ _ _ h => h) (Or.inl ⟨by rfl, (by intro w hSw; (try dsimp only at hSw); go_simp; try with_reducible rfl)⟩) (by assumption) ?_
      go_simp
      refine wpAnyH_take (i := 6) (v := _) rfl (by kernel_rfl) (by kernel_rfl) (by kernel_rfl) (fun _ _ _ h => h) (Or.inl ⟨by rfl, (by intro w hSw; (try dsimp only at hSw); go_simp; try with_reducible rfl)⟩) (by assumption) ?_
      go_simp
      refine wpAnyH_ready (rs := [1]) (by kernel_rfl) (by simp) ?_
      refine AllReadyH.cons rfl (fun K hK => ?_) AllReadyH.nil
      go_simp
      (refine (toLast_any _ _ _ _ _ _ _).mono ?_; rintro e w3 ⟨rfl, hb3⟩; replace hb3 := upw (Below.refl w2.heap.size w2).drew hb3; have hb := upw hb hb3; replace k0_0 := kept_cell (w := w2) k0_0 hb3; replace k0_1 := kept_cell (w := w2) k0_1 hb3; replace k0_2 := kept_cell (w := w2) k0_2 hb3; replace k0_3 := kept_cell (w := w2) k0_3 hb3; replace k0_4 := kept_cell (w := w2) k0_4 hb3; replace k0_5 := kept_cell (w := w2) k0_5 hb3; replace k1_0 := kept_cell (w := w2) k1_0 hb3; replace k1_1 := kept_cell (w := w2) k1_1 hb3; replace k1_2 := kept_cell (w := w2) k1_2 hb3; replace k1_3 := kept_cell (w := w2) k1_3 hb3; go_simp)
      refine hK.out _ _ ⟨k0_0, k0_1, k0_2, k0_3, k0_4, k0_5, k1_0, k1_1, k1_2, k1_3⟩ (fun hHeld => ?_)
      clear hK K
      go_simp
      refine wpAnyH_ready (rs := [3]) (by kernel_rfl) (by simp) ?_
      refine AllReadyH.cons rfl (fun K hK => ?_) AllReadyH.nil
      go_simp
      (refine (toFoot_any _ _ _ _ _).mono ?_; rintro e w4 ⟨rfl, hb4⟩; have hb := upw hb hb4; replace k0_0 := kept_cell k0_0 hb4; replace k0_1 := kept_cell k0_1 hb4; replace k0_2 := kept_cell k0_2 hb4; replace k0_3 := kept_cell k0_3 hb4; replace k0_4 := kept_cell k0_4 hb4; replace k0_5 := kept_cell k0_5 hb4; replace k1_0 := kept_cell k1_0 hb4; replace k1_1 := kept_cell k1_1 hb4; replace k1_2 := kept_cell k1_2 hb4; replace k1_3 := kept_cell k1_3 hb4; go_simp)
      refine hK.out _ _ ⟨k0_0, k0_1, k0_2, k0_3, k0_4, k0_5, k1_0, k1_1, k1_2, k1_3⟩ (fun hHeld => ?_)
      clear hK K
      go_simp
      refine wpAnyH_ready (rs := [5]) (by kernel_rfl) (by simp) ?_
      refine AllReadyH.cons rfl (fun K hK => ?_) AllReadyH.nil
      go_simp
      (refine (toInt64S_any _ _ _ _ (hx2.below hb) hl2).mono ?_; rintro e w5 ⟨vt3, rfl, hOt3, hb5⟩; have hb := upw hb hb5; replace k0_0 := kept_cell k0_0 hb5; replace k0_1 := kept_cell k0_1 hb5; replace k0_2 := kept_cell k0_2 hb5; replace k0_3 := kept_cell k0_3 hb5; replace k0_4 := kept_cell k0_4 hb5; replace k0_5 := kept_cell k0_5 hb5; replace k1_0 := kept_cell k1_0 hb5; replace k1_1 := kept_cell k1_1 hb5; replace k1_2 := kept_cell k1_2 hb5; replace k1_3 := kept_cell k1_3 hb5; obtain ⟨at3, ct3, rfl, _⟩ := hOt3.at; go_simp)
      refine hK.out _ _ ⟨k0_0, k0_1, k0_2, k0_3, k0_4, k0_5, k1_0, k1_1, k1_2, k1_3⟩ (fun hHeld => ?_)
      clear hK K
      go_simp
      refine wpAnyH_ready (rs := [7]) (by kernel_rfl) (by simp) ?_
      refine AllReadyH.cons rfl (fun K hK => ?_) AllReadyH.nil
      go_simp
      (refine (specBuildUpFor_c x0 x1 _ _ _ _ _ hn0 hn1 (hOt3).at' hn2 hn3).mono ?_; rintro e w6 ⟨vw0, rsw0, rfl, hOw0, hb6⟩; have hb := upw hb hb6; replace k0_0 := kept_cell k0_0 hb6; replace k0_1 := kept_cell k0_1 hb6; replace k0_2 := kept_cell k0_2 hb6; replace k0_3 := kept_cell k0_3 hb6; replace k0_4 := kept_cell k0_4 hb6; replace k0_5 := kept_cell k0_5 hb6; replace k1_0 := kept_cell k1_0 hb6; replace k1_1 := kept_cell k1_1 hb6; replace k1_2 := kept_cell k1_2 hb6; replace k1_3 := kept_cell k1_3 hb6; obtain ⟨aw0, cw0, rfl, _⟩ := hOw0.at; go_simp)
      refine hK.out _ _ ⟨k0_0, k0_1, k0_2, k0_3, k0_4, k0_5, k1_0, k1_1, k1_2, k1_3⟩ (fun hHeld => ?_)
      clear hK K
      go_simp
      refine wpAnyH_take (i := 8) (v := _) rfl (by kernel_rfl) (by kernel_rfl) (by kernel_rfl) (fun _ _ _ h => h) (Or.inl ⟨by rfl, (by intro w hSw; (try dsimp only at hSw); go_simp; try with_reducible rfl)⟩) (by assumption) ?_
      go_simp
      refine wpAnyH_take (i := 9) (v := _) rfl (by kernel_rfl) (by kernel_rfl) (by kernel_rfl) (fun _ _ _ h => h) (Or.inl ⟨by rfl, (by intro w hSw; (try dsimp only at hSw); go_simp; try with_reducible rfl)⟩) (by assumption) ?_
      go_simp
      refine wpAnyH_take (i := 10) (v := _) rfl (by kernel_rfl) (by kernel_rfl) (by kernel_rfl) (fun _ _ _ h => h) (Or.inl ⟨by rfl, (by intro w hSw; (try dsimp only at hSw); go_simp; try with_reducible rfl)⟩) (by assumption) ?_
      go_simp
      refine wpAnyH_take (i := 11) (v := _) rfl (by kernel_rfl) (by kernel_rfl) (by kernel_rfl) (fun _ _ _ h => h) (Or.inl ⟨by rfl, (by intro w hSw; (try dsimp only at hSw); go_simp; try with_reducible rfl)⟩) (by assumption) ?_
      go_simp
      refine wpAnyH_take (i := 12) (v := _) rfl (by kernel_rfl) (by kernel_rfl) (by kernel_rfl) (fun _ _ _ h => h) (Or.inl ⟨by rfl, (by intro w hSw; (try dsimp only at hSw); go_simp; try with_reducible rfl)⟩) (by assumption) ?_
      go_simp
      refine wpAnyH_done (by kernel_rfl) ?_ _
      go_wp2_with fail
      refine (toInt64S_any _ _ _ _ (hx2.below hb) hl2).mono ?_
      rintro e w7 ⟨vx2, rfl, hOx2, hb7⟩
      have hb := upw hb hb7
      replace k0_0 := kept_cell k0_0 hb7
      replace k0_1 := kept_cell k0_1 hb7
      replace k0_2 := kept_cell k0_2 hb7
      replace k0_3 := kept_cell k0_3 hb7
      replace k0_4 := kept_cell k0_4 hb7
      replace k0_5 := kept_cell k0_5 hb7
      replace k1_0 := kept_cell k1_0 hb7
      replace k1_1 := kept_cell k1_1 hb7
      replace k1_2 := kept_cell k1_2 hb7
      replace k1_3 := kept_cell k1_3 hb7
      obtain ⟨ax2, cx2, rfl, _⟩ := hOx2.at
      go_wp2_with fail
      refine wp_region_held_drew (S := (fun w' => w'.cell? ⟨w.heap.size, 0, none⟩ = some (.string x0.Name) ∧ w'.cell? ⟨w.heap.size, 1, none⟩ = some (.int .i64 x0.Length) ∧ w'.cell? ⟨w.heap.size, 2, none⟩ = some (.int .i64 x0.Ball) ∧ w'.cell? ⟨w.heap.size, 3, none⟩ = some (.int .i64 x0.Instep) ∧ w'.cell? ⟨w.heap.size, 4, none⟩ = some (.int .i64 x0.Heel) ∧ w'.cell? ⟨w.heap.size, 5, none⟩ = some (.int .i64 x0.Pitch) ∧ w'.cell? ⟨w.heap.size + 1, 0, none⟩ = some (.int .i64 x1.Length) ∧ w'.cell? ⟨w.heap.size + 1, 1, none⟩ = some (.int .i64 x1.Ball) ∧ w'.cell? ⟨w.heap.size + 1, 2, none⟩ = some (.int .i64 x1.Instep) ∧ w'.cell? ⟨w.heap.size + 1, 3, none⟩ = some (.int .i64 x1.Heel))) (by kernel_rfl) ⟨k0_0, k0_1, k0_2, k0_3, k0_4, k0_5, k1_0, k1_1, k1_2, k1_3⟩ (fun hHeld => ?_)
      refine wpAnyH_take (i := 0) (v := _) rfl (by kernel_rfl) (by kernel_rfl) (by kernel_rfl) (fun _ _ _ h => h) (Or.inl ⟨by rfl, (by intro w hSw; (try dsimp only at hSw); go_simp; try with_reducible rfl)⟩) (by assumption) ?_
      go_simp
      refine wpAnyH_take (i := 2) (v := _) rfl (by kernel_rfl) (by kernel_rfl) (by kernel_rfl) (fun _ _ _ h => h) (Or.inl ⟨by rfl, (by intro w hSw; (try dsimp only at hSw); go_simp; try with_reducible rfl)⟩) (by assumption) ?_
      go_simp
      refine wpAnyH_take (i := 4) (v := _) rfl (by kernel_rfl) (by kernel_rfl) (by kernel_rfl) (fun _ _ _ h => h) (Or.inl ⟨by rfl, (by intro w hSw; (try dsimp only at hSw); go_simp; try with_reducible rfl)⟩) (by assumption) ?_
      go_simp
      refine wpAnyH_take (i := 5) (v := _) rfl (by kernel_rfl) (by kernel_rfl) (by kernel_rfl) (fun _ _ _ h => h) (Or.inl ⟨by rfl, (by intro w hSw; (try dsimp only at hSw); go_simp; try with_reducible rfl)⟩) (by assumption) ?_
      go_simp
      refine wpAnyH_ready (rs := [1]) (by kernel_rfl) (by simp) ?_
      refine AllReadyH.cons rfl (fun K hK => ?_) AllReadyH.nil
      go_simp
      (refine (toLast_any _ _ _ _ _ _ _).mono ?_; rintro e w8 ⟨rfl, hb8⟩; replace hb8 := upw (Below.refl w7.heap.size w7).drew hb8; have hb := upw hb hb8; replace k0_0 := kept_cell (w := w7) k0_0 hb8; replace k0_1 := kept_cell (w := w7) k0_1 hb8; replace k0_2 := kept_cell (w := w7) k0_2 hb8; replace k0_3 := kept_cell (w := w7) k0_3 hb8; replace k0_4 := kept_cell (w := w7) k0_4 hb8; replace k0_5 := kept_cell (w := w7) k0_5 hb8; replace k1_0 := kept_cell (w := w7) k1_0 hb8; replace k1_1 := kept_cell (w := w7) k1_1 hb8; replace k1_2 := kept_cell (w := w7) k1_2 hb8; replace k1_3 := kept_cell (w := w7) k1_3 hb8; go_simp)
      refine hK.out _ _ ⟨k0_0, k0_1, k0_2, k0_3, k0_4, k0_5, k1_0, k1_1, k1_2, k1_3⟩ (fun hHeld => ?_)
      clear hK K
      go_simp
      refine wpAnyH_ready (rs := [3]) (by kernel_rfl) (by simp) ?_
      refine AllReadyH.cons rfl (fun K hK => ?_) AllReadyH.nil
      go_simp
      (refine (toFoot_any _ _ _ _ _).mono ?_; rintro e w9 ⟨rfl, hb9⟩; have hb := upw hb hb9; replace k0_0 := kept_cell k0_0 hb9; replace k0_1 := kept_cell k0_1 hb9; replace k0_2 := kept_cell k0_2 hb9; replace k0_3 := kept_cell k0_3 hb9; replace k0_4 := kept_cell k0_4 hb9; replace k0_5 := kept_cell k0_5 hb9; replace k1_0 := kept_cell k1_0 hb9; replace k1_1 := kept_cell k1_1 hb9; replace k1_2 := kept_cell k1_2 hb9; replace k1_3 := kept_cell k1_3 hb9; go_simp)
      refine hK.out _ _ ⟨k0_0, k0_1, k0_2, k0_3, k0_4, k0_5, k1_0, k1_1, k1_2, k1_3⟩ (fun hHeld => ?_)
      clear hK K
      go_simp
      refine wpAnyH_ready (rs := [6]) (by kernel_rfl) (by simp) ?_
      refine AllReadyH.cons rfl (fun K hK => ?_) AllReadyH.nil
      go_simp
      (refine (implBuildUpFor_c x0 x1 _ _ _ _ _ hn0 hn1 (((hOx2.later hb8).later hb9)).at' hn2 hn3).mono ?_; rintro e w10 ⟨vg0, rsg0, rfl, hOg0, hb10⟩; have hb := upw hb hb10; replace k0_0 := kept_cell k0_0 hb10; replace k0_1 := kept_cell k0_1 hb10; replace k0_2 := kept_cell k0_2 hb10; replace k0_3 := kept_cell k0_3 hb10; replace k0_4 := kept_cell k0_4 hb10; replace k0_5 := kept_cell k0_5 hb10; replace k1_0 := kept_cell k1_0 hb10; replace k1_1 := kept_cell k1_1 hb10; replace k1_2 := kept_cell k1_2 hb10; replace k1_3 := kept_cell k1_3 hb10; obtain ⟨ag0, cg0, rfl, _⟩ := hOg0.at; go_simp)
      refine hK.out _ _ ⟨k0_0, k0_1, k0_2, k0_3, k0_4, k0_5, k1_0, k1_1, k1_2, k1_3⟩ (fun hHeld => ?_)
      clear hK K
      go_simp
      refine wpAnyH_take (i := 7) (v := _) rfl (by kernel_rfl) (by kernel_rfl) (by kernel_rfl) (fun _ _ _ h => h) (Or.inl ⟨by rfl, (by intro w hSw; (try dsimp only at hSw); go_simp; try with_reducible rfl)⟩) (by assumption) ?_
      go_simp
      refine wpAnyH_take (i := 8) (v := _) rfl (by kernel_rfl) (by kernel_rfl) (by kernel_rfl) (fun _ _ _ h => h) (Or.inl ⟨by rfl, (by intro w hSw; (try dsimp only at hSw); go_simp; try with_reducible rfl)⟩) (by assumption) ?_
      go_simp
      refine wpAnyH_take (i := 9) (v := _) rfl (by kernel_rfl) (by kernel_rfl) (by kernel_rfl) (fun _ _ _ h => h) (Or.inl ⟨by rfl, (by intro w hSw; (try dsimp only at hSw); go_simp; try with_reducible rfl)⟩) (by assumption) ?_
      go_simp
      refine wpAnyH_take (i := 10) (v := _) rfl (by kernel_rfl) (by kernel_rfl) (by kernel_rfl) (fun _ _ _ h => h) (Or.inl ⟨by rfl, (by intro w hSw; (try dsimp only at hSw); go_simp; try with_reducible rfl)⟩) (by assumption) ?_
      go_simp
      refine wpAnyH_take (i := 11) (v := _) rfl (by kernel_rfl) (by kernel_rfl) (by kernel_rfl) (fun _ _ _ h => h) (Or.inl ⟨by rfl, (by intro w hSw; (try dsimp only at hSw); go_simp; try with_reducible rfl)⟩) (by assumption) ?_
      go_simp
      refine wpAnyH_done (by kernel_rfl) ?_ _
      go_wp2_with fail
      refine (eqInt64SS_same _ _ _ _ _ _ (hOg0).at' (((((hOw0.later hb7).later hb8).later hb9).later hb10)).at' (by omega) hlenx).mono ?_
      rintro e w11 ⟨rfl, hb11⟩
      have hb := upw hb hb11
      replace k0_0 := kept_cell k0_0 hb11
      replace k0_1 := kept_cell k0_1 hb11
      replace k0_2 := kept_cell k0_2 hb11
      replace k0_3 := kept_cell k0_3 hb11
      replace k0_4 := kept_cell k0_4 hb11
      replace k0_5 := kept_cell k0_5 hb11
      replace k1_0 := kept_cell k1_0 hb11
      replace k1_1 := kept_cell k1_1 hb11
      replace k1_2 := kept_cell k1_2 hb11
      replace k1_3 := kept_cell k1_3 hb11
      go_wp2_with fail
      refine (toInt64S_any _ _ _ _ (hx2.below hb) hl2).mono ?_
      rintro e w12 ⟨vt6, rfl, hOt6, hb12⟩
      have hb := upw hb hb12
      replace k0_0 := kept_cell k0_0 hb12
      replace k0_1 := kept_cell k0_1 hb12
      replace k0_2 := kept_cell k0_2 hb12
      replace k0_3 := kept_cell k0_3 hb12
      replace k0_4 := kept_cell k0_4 hb12
      replace k0_5 := kept_cell k0_5 hb12
      replace k1_0 := kept_cell k1_0 hb12
      replace k1_1 := kept_cell k1_1 hb12
      replace k1_2 := kept_cell k1_2 hb12
      replace k1_3 := kept_cell k1_3 hb12
      obtain ⟨at6, ct6, rfl, _⟩ := hOt6.at
      go_wp2_with fail
      refine (eqInt64S_same _ _ _ _ _ _ ((((((hOx2.later hb8).later hb9).later hb10).later hb11).later hb12)).at' (hOt6).at' (by omega)).mono ?_
      rintro e w13 ⟨rfl, hb13⟩
      have hb := upw hb hb13
      replace k0_0 := kept_cell k0_0 hb13
      replace k0_1 := kept_cell k0_1 hb13
      replace k0_2 := kept_cell k0_2 hb13
      replace k0_3 := kept_cell k0_3 hb13
      replace k0_4 := kept_cell k0_4 hb13
      replace k0_5 := kept_cell k0_5 hb13
      replace k1_0 := kept_cell k1_0 hb13
      replace k1_1 := kept_cell k1_1 hb13
      replace k1_2 := kept_cell k1_2 hb13
      replace k1_3 := kept_cell k1_3 hb13
      go_wp2_with fail
      refine (markInt64S_any _ _ _ _ _ ((((((hOx2.later hb8).later hb9).later hb10).later hb11).later hb12).later hb13) (by omega) (by omega) (by omega)).mono ?_
      rintro e w14 ⟨rfl, hM14, hg14⟩
      have hb := below_mark hb ((((((hOx2.later hb8).later hb9).later hb10).later hb11).later hb12).later hb13) (by have := hb1.size; have := hb2.size; have := hb3.size; have := hb4.size; have := hb5.size; have := hb6.size; omega) hg14
      replace k0_0 := hg14.cell k0_0 (own_ne ((((((hOx2.later hb8).later hb9).later hb10).later hb11).later hb12).later hb13) (by have := hsz1.out; have := hb1.size; have := hb2.size; have := hb3.size; have := hb4.size; have := hb5.size; have := hb6.size; have := hb7.size; have := hb8.size; have := hb9.size; have := hb10.size; have := hb11.size; have := hb12.size; have := hb13.size; (try dsimp only); omega))
      replace k0_1 := hg14.cell k0_1 (own_ne ((((((hOx2.later hb8).later hb9).later hb10).later hb11).later hb12).later hb13) (by have := hsz1.out; have := hb1.size; have := hb2.size; have := hb3.size; have := hb4.size; have := hb5.size; have := hb6.size; have := hb7.size; have := hb8.size; have := hb9.size; have := hb10.size; have := hb11.size; have := hb12.size; have := hb13.size; (try dsimp only); omega))
      replace k0_2 := hg14.cell k0_2 (own_ne ((((((hOx2.later hb8).later hb9).later hb10).later hb11).later hb12).later hb13) (by have := hsz1.out; have := hb1.size; have := hb2.size; have := hb3.size; have := hb4.size; have := hb5.size; have := hb6.size; have := hb7.size; have := hb8.size; have := hb9.size; have := hb10.size; have := hb11.size; have := hb12.size; have := hb13.size; (try dsimp only); omega))
      replace k0_3 := hg14.cell k0_3 (own_ne ((((((hOx2.later hb8).later hb9).later hb10).later hb11).later hb12).later hb13) (by have := hsz1.out; have := hb1.size; have := hb2.size; have := hb3.size; have := hb4.size; have := hb5.size; have := hb6.size; have := hb7.size; have := hb8.size; have := hb9.size; have := hb10.size; have := hb11.size; have := hb12.size; have := hb13.size; (try dsimp only); omega))
      replace k0_4 := hg14.cell k0_4 (own_ne ((((((hOx2.later hb8).later hb9).later hb10).later hb11).later hb12).later hb13) (by have := hsz1.out; have := hb1.size; have := hb2.size; have := hb3.size; have := hb4.size; have := hb5.size; have := hb6.size; have := hb7.size; have := hb8.size; have := hb9.size; have := hb10.size; have := hb11.size; have := hb12.size; have := hb13.size; (try dsimp only); omega))
      replace k0_5 := hg14.cell k0_5 (own_ne ((((((hOx2.later hb8).later hb9).later hb10).later hb11).later hb12).later hb13) (by have := hsz1.out; have := hb1.size; have := hb2.size; have := hb3.size; have := hb4.size; have := hb5.size; have := hb6.size; have := hb7.size; have := hb8.size; have := hb9.size; have := hb10.size; have := hb11.size; have := hb12.size; have := hb13.size; (try dsimp only); omega))
      replace k1_0 := hg14.cell k1_0 (own_ne ((((((hOx2.later hb8).later hb9).later hb10).later hb11).later hb12).later hb13) (by have := hsz1.out; have := hb1.size; have := hb2.size; have := hb3.size; have := hb4.size; have := hb5.size; have := hb6.size; have := hb7.size; have := hb8.size; have := hb9.size; have := hb10.size; have := hb11.size; have := hb12.size; have := hb13.size; (try dsimp only); omega))
      replace k1_1 := hg14.cell k1_1 (own_ne ((((((hOx2.later hb8).later hb9).later hb10).later hb11).later hb12).later hb13) (by have := hsz1.out; have := hb1.size; have := hb2.size; have := hb3.size; have := hb4.size; have := hb5.size; have := hb6.size; have := hb7.size; have := hb8.size; have := hb9.size; have := hb10.size; have := hb11.size; have := hb12.size; have := hb13.size; (try dsimp only); omega))
      replace k1_2 := hg14.cell k1_2 (own_ne ((((((hOx2.later hb8).later hb9).later hb10).later hb11).later hb12).later hb13) (by have := hsz1.out; have := hb1.size; have := hb2.size; have := hb3.size; have := hb4.size; have := hb5.size; have := hb6.size; have := hb7.size; have := hb8.size; have := hb9.size; have := hb10.size; have := hb11.size; have := hb12.size; have := hb13.size; (try dsimp only); omega))
      replace k1_3 := hg14.cell k1_3 (own_ne ((((((hOx2.later hb8).later hb9).later hb10).later hb11).later hb12).later hb13) (by have := hsz1.out; have := hb1.size; have := hb2.size; have := hb3.size; have := hb4.size; have := hb5.size; have := hb6.size; have := hb7.size; have := hb8.size; have := hb9.size; have := hb10.size; have := hb11.size; have := hb12.size; have := hb13.size; (try dsimp only); omega))
      have hOw0_14 := (((((((hOw0.later hb7).later hb8).later hb9).later hb10).later hb11).later hb12).later hb13).kept_before hg14 hOw0 ((((((hOx2.later hb8).later hb9).later hb10).later hb11).later hb12).later hb13) (Nat.le_refl _)
      have hOg0_14 := (((hOg0.later hb11).later hb12).later hb13).kept_since hg14 hOg0 hOx2 (by have := hb8.size; have := hb9.size; omega)
      go_wp2_with fail
      refine (eqInt64SS_same _ _ _ _ _ _ (hOg0_14).at' (hOw0_14).at' (by omega) hlenx).mono ?_
      rintro e w15 ⟨rfl, hb15⟩
      have hb := upw hb hb15
      replace k0_0 := kept_cell k0_0 hb15
      replace k0_1 := kept_cell k0_1 hb15
      replace k0_2 := kept_cell k0_2 hb15
      replace k0_3 := kept_cell k0_3 hb15
      replace k0_4 := kept_cell k0_4 hb15
      replace k0_5 := kept_cell k0_5 hb15
      replace k1_0 := kept_cell k1_0 hb15
      replace k1_1 := kept_cell k1_1 hb15
      replace k1_2 := kept_cell k1_2 hb15
      replace k1_3 := kept_cell k1_3 hb15
      go_wp2_with fail
      refine (markInt64SS_c _ _ _ _ _ _ (hOg0_14.later hb15) (by omega) hlenk rfl).mono ?_
      rintro e w16 ⟨_, rfl, hmb16, rfl, hM16, hT16⟩
      have hb := hT16.below hb (by have := hb1.size; have := hb2.size; have := hb3.size; have := hb4.size; have := hb5.size; have := hb6.size; have := hb7.size; have := hb8.size; have := hb9.size; omega)
      replace k0_0 := touched_cell k0_0 hT16 (Or.inl (by have := hsz1.out; have := hb1.size; have := hb2.size; have := hb3.size; have := hb4.size; have := hb5.size; have := hb6.size; have := hb7.size; have := hb8.size; have := hb9.size; have := hb10.size; have := hb11.size; have := hb12.size; have := hb13.size; have := hg14.size; have := hb15.size; (try dsimp only); omega))
      replace k0_1 := touched_cell k0_1 hT16 (Or.inl (by have := hsz1.out; have := hb1.size; have := hb2.size; have := hb3.size; have := hb4.size; have := hb5.size; have := hb6.size; have := hb7.size; have := hb8.size; have := hb9.size; have := hb10.size; have := hb11.size; have := hb12.size; have := hb13.size; have := hg14.size; have := hb15.size; (try dsimp only); omega))
      replace k0_2 := touched_cell k0_2 hT16 (Or.inl (by have := hsz1.out; have := hb1.size; have := hb2.size; have := hb3.size; have := hb4.size; have := hb5.size; have := hb6.size; have := hb7.size; have := hb8.size; have := hb9.size; have := hb10.size; have := hb11.size; have := hb12.size; have := hb13.size; have := hg14.size; have := hb15.size; (try dsimp only); omega))
      replace k0_3 := touched_cell k0_3 hT16 (Or.inl (by have := hsz1.out; have := hb1.size; have := hb2.size; have := hb3.size; have := hb4.size; have := hb5.size; have := hb6.size; have := hb7.size; have := hb8.size; have := hb9.size; have := hb10.size; have := hb11.size; have := hb12.size; have := hb13.size; have := hg14.size; have := hb15.size; (try dsimp only); omega))
      replace k0_4 := touched_cell k0_4 hT16 (Or.inl (by have := hsz1.out; have := hb1.size; have := hb2.size; have := hb3.size; have := hb4.size; have := hb5.size; have := hb6.size; have := hb7.size; have := hb8.size; have := hb9.size; have := hb10.size; have := hb11.size; have := hb12.size; have := hb13.size; have := hg14.size; have := hb15.size; (try dsimp only); omega))
      replace k0_5 := touched_cell k0_5 hT16 (Or.inl (by have := hsz1.out; have := hb1.size; have := hb2.size; have := hb3.size; have := hb4.size; have := hb5.size; have := hb6.size; have := hb7.size; have := hb8.size; have := hb9.size; have := hb10.size; have := hb11.size; have := hb12.size; have := hb13.size; have := hg14.size; have := hb15.size; (try dsimp only); omega))
      replace k1_0 := touched_cell k1_0 hT16 (Or.inl (by have := hsz1.out; have := hb1.size; have := hb2.size; have := hb3.size; have := hb4.size; have := hb5.size; have := hb6.size; have := hb7.size; have := hb8.size; have := hb9.size; have := hb10.size; have := hb11.size; have := hb12.size; have := hb13.size; have := hg14.size; have := hb15.size; (try dsimp only); omega))
      replace k1_1 := touched_cell k1_1 hT16 (Or.inl (by have := hsz1.out; have := hb1.size; have := hb2.size; have := hb3.size; have := hb4.size; have := hb5.size; have := hb6.size; have := hb7.size; have := hb8.size; have := hb9.size; have := hb10.size; have := hb11.size; have := hb12.size; have := hb13.size; have := hg14.size; have := hb15.size; (try dsimp only); omega))
      replace k1_2 := touched_cell k1_2 hT16 (Or.inl (by have := hsz1.out; have := hb1.size; have := hb2.size; have := hb3.size; have := hb4.size; have := hb5.size; have := hb6.size; have := hb7.size; have := hb8.size; have := hb9.size; have := hb10.size; have := hb11.size; have := hb12.size; have := hb13.size; have := hg14.size; have := hb15.size; (try dsimp only); omega))
      replace k1_3 := touched_cell k1_3 hT16 (Or.inl (by have := hsz1.out; have := hb1.size; have := hb2.size; have := hb3.size; have := hb4.size; have := hb5.size; have := hb6.size; have := hb7.size; have := hb8.size; have := hb9.size; have := hb10.size; have := hb11.size; have := hb12.size; have := hb13.size; have := hg14.size; have := hb15.size; (try dsimp only); omega))
      have hOw0_16 := (hOw0_14.later hb15).touched hT16 hOw0 (fun k _ h => not_rng (Or.inl (Nat.lt_of_lt_of_le h (by have := hb7.size; have := hb8.size; have := hb9.size; omega))))
      go_wp2_with fail
      refine (heldInt64SS_c _ _ _ _ _ _ (hM16).at' rfl (by omega) hlenk rfl).mono ?_
      rintro e w17 ⟨rfl, hb17⟩
      have hb := upw hb hb17
      replace k0_0 := kept_cell k0_0 hb17
      replace k0_1 := kept_cell k0_1 hb17
      replace k0_2 := kept_cell k0_2 hb17
      replace k0_3 := kept_cell k0_3 hb17
      replace k0_4 := kept_cell k0_4 hb17
      replace k0_5 := kept_cell k0_5 hb17
      replace k1_0 := kept_cell k1_0 hb17
      replace k1_1 := kept_cell k1_1 hb17
      replace k1_2 := kept_cell k1_2 hb17
      replace k1_3 := kept_cell k1_3 hb17
      go_wp2_with fail
      refine wp_region_held_drew (S := (fun w' => w'.cell? ⟨w.heap.size, 0, none⟩ = some (.string x0.Name) ∧ w'.cell? ⟨w.heap.size, 1, none⟩ = some (.int .i64 x0.Length) ∧ w'.cell? ⟨w.heap.size, 2, none⟩ = some (.int .i64 x0.Ball) ∧ w'.cell? ⟨w.heap.size, 3, none⟩ = some (.int .i64 x0.Instep) ∧ w'.cell? ⟨w.heap.size, 4, none⟩ = some (.int .i64 x0.Heel) ∧ w'.cell? ⟨w.heap.size, 5, none⟩ = some (.int .i64 x0.Pitch) ∧ w'.cell? ⟨w.heap.size + 1, 0, none⟩ = some (.int .i64 x1.Length) ∧ w'.cell? ⟨w.heap.size + 1, 1, none⟩ = some (.int .i64 x1.Ball) ∧ w'.cell? ⟨w.heap.size + 1, 2, none⟩ = some (.int .i64 x1.Instep) ∧ w'.cell? ⟨w.heap.size + 1, 3, none⟩ = some (.int .i64 x1.Heel))) (by kernel_rfl) ⟨k0_0, k0_1, k0_2, k0_3, k0_4, k0_5, k1_0, k1_1, k1_2, k1_3⟩ (fun hHeld => ?_)
      refine wpAnyH_take (i := 0) (v := _) rfl (by kernel_rfl) (by kernel_rfl) (by kernel_rfl) (fun _ _ _ h => h) (Or.inl ⟨by rfl, (by intro w hSw; (try dsimp only at hSw); go_simp; try with_reducible rfl)⟩) (by assumption) ?_
      go_simp
      refine wpAnyH_take (i := 2) (v := _) rfl (by kernel_rfl) (by kernel_rfl) (by kernel_rfl) (fun _ _ _ h => h) (Or.inl ⟨by rfl, (by intro w hSw; (try dsimp only at hSw); go_simp; try with_reducible rfl)⟩) (by assumption) ?_
      go_simp
      refine wpAnyH_take (i := 4) (v := _) rfl (by kernel_rfl) (by kernel_rfl) (by kernel_rfl) (fun _ _ _ h => h) (Or.inl ⟨by rfl, (by intro w hSw; (try dsimp only at hSw); go_simp; try with_reducible rfl)⟩) (by assumption) ?_
      go_simp
      refine wpAnyH_take (i := 6) (v := _) rfl (by kernel_rfl) (by kernel_rfl) (by kernel_rfl) (fun _ _ _ h => h) (Or.inl ⟨by rfl, (by intro w hSw; (try dsimp only at hSw); go_simp; try with_reducible rfl)⟩) (by assumption) ?_
      go_simp
      refine wpAnyH_ready (rs := [1]) (by kernel_rfl) (by simp) ?_
      refine AllReadyH.cons rfl (fun K hK => ?_) AllReadyH.nil
      go_simp
      (refine (toLast_any _ _ _ _ _ _ _).mono ?_; rintro e w18 ⟨rfl, hb18⟩; replace hb18 := upw (Below.refl w17.heap.size w17).drew hb18; have hb := upw hb hb18; replace k0_0 := kept_cell (w := w17) k0_0 hb18; replace k0_1 := kept_cell (w := w17) k0_1 hb18; replace k0_2 := kept_cell (w := w17) k0_2 hb18; replace k0_3 := kept_cell (w := w17) k0_3 hb18; replace k0_4 := kept_cell (w := w17) k0_4 hb18; replace k0_5 := kept_cell (w := w17) k0_5 hb18; replace k1_0 := kept_cell (w := w17) k1_0 hb18; replace k1_1 := kept_cell (w := w17) k1_1 hb18; replace k1_2 := kept_cell (w := w17) k1_2 hb18; replace k1_3 := kept_cell (w := w17) k1_3 hb18; go_simp)
      refine hK.out _ _ ⟨k0_0, k0_1, k0_2, k0_3, k0_4, k0_5, k1_0, k1_1, k1_2, k1_3⟩ (fun hHeld => ?_)
      clear hK K
      go_simp
      refine wpAnyH_ready (rs := [3]) (by kernel_rfl) (by simp) ?_
      refine AllReadyH.cons rfl (fun K hK => ?_) AllReadyH.nil
      go_simp
      (refine (toFoot_any _ _ _ _ _).mono ?_; rintro e w19 ⟨rfl, hb19⟩; have hb := upw hb hb19; replace k0_0 := kept_cell k0_0 hb19; replace k0_1 := kept_cell k0_1 hb19; replace k0_2 := kept_cell k0_2 hb19; replace k0_3 := kept_cell k0_3 hb19; replace k0_4 := kept_cell k0_4 hb19; replace k0_5 := kept_cell k0_5 hb19; replace k1_0 := kept_cell k1_0 hb19; replace k1_1 := kept_cell k1_1 hb19; replace k1_2 := kept_cell k1_2 hb19; replace k1_3 := kept_cell k1_3 hb19; go_simp)
      refine hK.out _ _ ⟨k0_0, k0_1, k0_2, k0_3, k0_4, k0_5, k1_0, k1_1, k1_2, k1_3⟩ (fun hHeld => ?_)
      clear hK K
      go_simp
      refine wpAnyH_ready (rs := [5]) (by kernel_rfl) (by simp) ?_
      refine AllReadyH.cons rfl (fun K hK => ?_) AllReadyH.nil
      go_simp
      (refine (toInt64S_any _ _ _ _ (hx2.below hb) hl2).mono ?_; rintro e w20 ⟨vt9, rfl, hOt9, hb20⟩; have hb := upw hb hb20; replace k0_0 := kept_cell k0_0 hb20; replace k0_1 := kept_cell k0_1 hb20; replace k0_2 := kept_cell k0_2 hb20; replace k0_3 := kept_cell k0_3 hb20; replace k0_4 := kept_cell k0_4 hb20; replace k0_5 := kept_cell k0_5 hb20; replace k1_0 := kept_cell k1_0 hb20; replace k1_1 := kept_cell k1_1 hb20; replace k1_2 := kept_cell k1_2 hb20; replace k1_3 := kept_cell k1_3 hb20; obtain ⟨at9, ct9, rfl, _⟩ := hOt9.at; go_simp)
      refine hK.out _ _ ⟨k0_0, k0_1, k0_2, k0_3, k0_4, k0_5, k1_0, k1_1, k1_2, k1_3⟩ (fun hHeld => ?_)
      clear hK K
      go_simp
      refine wpAnyH_ready (rs := [7]) (by kernel_rfl) (by simp) ?_
      refine AllReadyH.cons rfl (fun K hK => ?_) AllReadyH.nil
      go_simp
      (refine (implBuildUpFor_c x0 x1 _ _ _ _ _ hn0 hn1 (hOt9).at' hn2 hn3).mono ?_; rintro e w21 ⟨vh0, rsh0, rfl, hOh0, hb21⟩; have hb := upw hb hb21; replace k0_0 := kept_cell k0_0 hb21; replace k0_1 := kept_cell k0_1 hb21; replace k0_2 := kept_cell k0_2 hb21; replace k0_3 := kept_cell k0_3 hb21; replace k0_4 := kept_cell k0_4 hb21; replace k0_5 := kept_cell k0_5 hb21; replace k1_0 := kept_cell k1_0 hb21; replace k1_1 := kept_cell k1_1 hb21; replace k1_2 := kept_cell k1_2 hb21; replace k1_3 := kept_cell k1_3 hb21; obtain ⟨ah0, ch0, rfl, _⟩ := hOh0.at; go_simp)
      refine hK.out _ _ ⟨k0_0, k0_1, k0_2, k0_3, k0_4, k0_5, k1_0, k1_1, k1_2, k1_3⟩ (fun hHeld => ?_)
      clear hK K
      go_simp
      refine wpAnyH_take (i := 8) (v := _) rfl (by kernel_rfl) (by kernel_rfl) (by kernel_rfl) (fun _ _ _ h => h) (Or.inl ⟨by rfl, (by intro w hSw; (try dsimp only at hSw); go_simp; try with_reducible rfl)⟩) (by assumption) ?_
      go_simp
      refine wpAnyH_take (i := 9) (v := _) rfl (by kernel_rfl) (by kernel_rfl) (by kernel_rfl) (fun _ _ _ h => h) (Or.inl ⟨by rfl, (by intro w hSw; (try dsimp only at hSw); go_simp; try with_reducible rfl)⟩) (by assumption) ?_
      go_simp
      refine wpAnyH_take (i := 10) (v := _) rfl (by kernel_rfl) (by kernel_rfl) (by kernel_rfl) (fun _ _ _ h => h) (Or.inl ⟨by rfl, (by intro w hSw; (try dsimp only at hSw); go_simp; try with_reducible rfl)⟩) (by assumption) ?_
      go_simp
      refine wpAnyH_take (i := 11) (v := _) rfl (by kernel_rfl) (by kernel_rfl) (by kernel_rfl) (fun _ _ _ h => h) (Or.inl ⟨by rfl, (by intro w hSw; (try dsimp only at hSw); go_simp; try with_reducible rfl)⟩) (by assumption) ?_
      go_simp
      refine wpAnyH_take (i := 12) (v := _) rfl (by kernel_rfl) (by kernel_rfl) (by kernel_rfl) (fun _ _ _ h => h) (Or.inl ⟨by rfl, (by intro w hSw; (try dsimp only at hSw); go_simp; try with_reducible rfl)⟩) (by assumption) ?_
      go_simp
      refine wpAnyH_done (by kernel_rfl) ?_ _
      go_wp2_with fail
      refine (eqInt64SS_same _ _ _ _ _ _ (hOh0).at' ((((((hOw0_16.later hb17).later hb18).later hb19).later hb20).later hb21)).at' (by omega) hlenx).mono ?_
      rintro e w22 ⟨rfl, hb22⟩
      have hb := upw hb hb22
      replace k0_0 := kept_cell k0_0 hb22
      replace k0_1 := kept_cell k0_1 hb22
      replace k0_2 := kept_cell k0_2 hb22
      replace k0_3 := kept_cell k0_3 hb22
      replace k0_4 := kept_cell k0_4 hb22
      replace k0_5 := kept_cell k0_5 hb22
      replace k1_0 := kept_cell k1_0 hb22
      replace k1_1 := kept_cell k1_1 hb22
      replace k1_2 := kept_cell k1_2 hb22
      replace k1_3 := kept_cell k1_3 hb22
      go_wp2_with fail
      refine (heldInt64SS_c _ _ _ _ _ _ (((((((hM16.later hb17).later hb18).later hb19).later hb20).later hb21).later hb22)).at' rfl (by omega) hlenk rfl).mono ?_
      rintro e w23 ⟨rfl, hb23⟩
      have hb := upw hb hb23
      replace k0_0 := kept_cell k0_0 hb23
      replace k0_1 := kept_cell k0_1 hb23
      replace k0_2 := kept_cell k0_2 hb23
      replace k0_3 := kept_cell k0_3 hb23
      replace k0_4 := kept_cell k0_4 hb23
      replace k0_5 := kept_cell k0_5 hb23
      replace k1_0 := kept_cell k1_0 hb23
      replace k1_1 := kept_cell k1_1 hb23
      replace k1_2 := kept_cell k1_2 hb23
      replace k1_3 := kept_cell k1_3 hb23
      go_wp2_with fail
      go_ret
      exact ⟨rfl, hb⟩
    · go_enter Try.func4, Try.ntmps4
      obtain ⟨w1, hw1⟩ : ∃ w1, w1 = ((w.alloc (.cells #[.string x0.Name, .int .i64 x0.Length, .int .i64 x0.Ball, .int .i64 x0.Instep, .int .i64 x0.Heel, .int .i64 x0.Pitch] 30)).alloc (.cells #[.int .i64 x1.Length, .int .i64 x1.Ball, .int .i64 x1.Instep, .int .i64 x1.Heel] 32)) := ⟨_, rfl⟩
      have hb1 : Below w.heap.size w w1 := by rw [hw1]; exact (((Below.refl _ _).alloc (by simp) _).alloc (by simp) _)
      have k0_0 : w1.cell? ⟨w.heap.size, 0, none⟩ = some (.string x0.Name) := by rw [hw1]; go_simp
      have k0_1 : w1.cell? ⟨w.heap.size, 1, none⟩ = some (.int .i64 x0.Length) := by rw [hw1]; go_simp
      have k0_2 : w1.cell? ⟨w.heap.size, 2, none⟩ = some (.int .i64 x0.Ball) := by rw [hw1]; go_simp
      have k0_3 : w1.cell? ⟨w.heap.size, 3, none⟩ = some (.int .i64 x0.Instep) := by rw [hw1]; go_simp
      have k0_4 : w1.cell? ⟨w.heap.size, 4, none⟩ = some (.int .i64 x0.Heel) := by rw [hw1]; go_simp
      have k0_5 : w1.cell? ⟨w.heap.size, 5, none⟩ = some (.int .i64 x0.Pitch) := by rw [hw1]; go_simp
      have k1_0 : w1.cell? ⟨w.heap.size + 1, 0, none⟩ = some (.int .i64 x1.Length) := by rw [hw1]; go_simp
      have k1_1 : w1.cell? ⟨w.heap.size + 1, 1, none⟩ = some (.int .i64 x1.Ball) := by rw [hw1]; go_simp
      have k1_2 : w1.cell? ⟨w.heap.size + 1, 2, none⟩ = some (.int .i64 x1.Instep) := by rw [hw1]; go_simp
      have k1_3 : w1.cell? ⟨w.heap.size + 1, 3, none⟩ = some (.int .i64 x1.Heel) := by rw [hw1]; go_simp
      have hsz1 := Lib.hid (show w1.heap.size = w.heap.size + 2 by rw [hw1]; simp)
      go_wp2_with fail
      rw [← hw1]
      clear hw1
      have hb := hb1
      go_wp2_with fail
      refine (szLast_no x0 _ _ hn0.1 (by omega) (by omega)).mono ?_
      rintro e w2 ⟨rfl, hb2⟩
      have hb := upw hb hb2
      replace k0_0 := kept_cell k0_0 hb2
      replace k0_1 := kept_cell k0_1 hb2
      replace k0_2 := kept_cell k0_2 hb2
      replace k0_3 := kept_cell k0_3 hb2
      replace k0_4 := kept_cell k0_4 hb2
      replace k0_5 := kept_cell k0_5 hb2
      replace k1_0 := kept_cell k1_0 hb2
      replace k1_1 := kept_cell k1_1 hb2
      replace k1_2 := kept_cell k1_2 hb2
      replace k1_3 := kept_cell k1_3 hb2
      go_wp2_with fail
      go_ret
      exact ⟨rfl, hb⟩
  · go_enter Try.func4, Try.ntmps4
    obtain ⟨w1, hw1⟩ : ∃ w1, w1 = ((w.alloc (.cells #[.string x0.Name, .int .i64 x0.Length, .int .i64 x0.Ball, .int .i64 x0.Instep, .int .i64 x0.Heel, .int .i64 x0.Pitch] 30)).alloc (.cells #[.int .i64 x1.Length, .int .i64 x1.Ball, .int .i64 x1.Instep, .int .i64 x1.Heel] 32)) := ⟨_, rfl⟩
    have hb1 : Below w.heap.size w w1 := by rw [hw1]; exact (((Below.refl _ _).alloc (by simp) _).alloc (by simp) _)
    have k0_0 : w1.cell? ⟨w.heap.size, 0, none⟩ = some (.string x0.Name) := by rw [hw1]; go_simp
    have k0_1 : w1.cell? ⟨w.heap.size, 1, none⟩ = some (.int .i64 x0.Length) := by rw [hw1]; go_simp
    have k0_2 : w1.cell? ⟨w.heap.size, 2, none⟩ = some (.int .i64 x0.Ball) := by rw [hw1]; go_simp
    have k0_3 : w1.cell? ⟨w.heap.size, 3, none⟩ = some (.int .i64 x0.Instep) := by rw [hw1]; go_simp
    have k0_4 : w1.cell? ⟨w.heap.size, 4, none⟩ = some (.int .i64 x0.Heel) := by rw [hw1]; go_simp
    have k0_5 : w1.cell? ⟨w.heap.size, 5, none⟩ = some (.int .i64 x0.Pitch) := by rw [hw1]; go_simp
    have k1_0 : w1.cell? ⟨w.heap.size + 1, 0, none⟩ = some (.int .i64 x1.Length) := by rw [hw1]; go_simp
    have k1_1 : w1.cell? ⟨w.heap.size + 1, 1, none⟩ = some (.int .i64 x1.Ball) := by rw [hw1]; go_simp
    have k1_2 : w1.cell? ⟨w.heap.size + 1, 2, none⟩ = some (.int .i64 x1.Instep) := by rw [hw1]; go_simp
    have k1_3 : w1.cell? ⟨w.heap.size + 1, 3, none⟩ = some (.int .i64 x1.Heel) := by rw [hw1]; go_simp
    have hsz1 := Lib.hid (show w1.heap.size = w.heap.size + 2 by rw [hw1]; simp)
    go_wp2_with fail
    rw [← hw1]
    clear hw1
    have hb := hb1
    go_wp2_with fail
    go_ret
    exact ⟨rfl, hb⟩

theorem EBuildUpFor.own : ownKnob Try.prog.godebug = none := by kernel_rfl
theorem EBuildUpFor.laidOut : laidOutB Try.prog = true := by kernel_rfl

set_option maxRecDepth 100000 in
theorem EBuildUpFor.lifted (os : Os) (started : os.Started) (H : Type) (enc : TypeId × Value → H) :
    ReturnsInHanded {} Try.checked os 4 .any (Rows.fnExactBuildUpForSpec.pre6 enc Try.prog Try.f4 Rows.fnExactBuildUpForRow.domain false) (Rows.fnExactBuildUpForSpec.post enc Try.prog Try.f4 false true false false) := by
  refine returnsInHanded_of_change (C := Try.checked) EBuildUpFor.own started (by kernel_rfl) Try.func4
    (ChangeSpec.witness6 (enc := enc) (C := Try.checked) false ⟨#[], #[.agg #[.string ByteArray.empty, .int .i64 0, .int .i64 0, .int .i64 0, .int .i64 0, .int .i64 0], .agg #[.int .i64 0, .int .i64 0, .int .i64 0, .int .i64 0], .slice none 0 0, .int .i64 0], []⟩ 8 (by kernel_rfl) (by kernel_rfl) (by kernel_rfl) (by kernel_rfl)) ?_
  intro W base args ds gs before hval0 hW _ _
  have hval : ∀ (j : Nat) t v, Try.f4.params[j]? = some t → args[j]? = some v → Value.okWide Try.prog W .any base t v := hval0
  have hW' := hW
  obtain ⟨p, q, hA0, hV, rfl, _, _⟩ := hW
  have hA : DataW.TrodAll enc Try.prog W 0 (fun _ => true) true Try.f4.params.toList args.toList ds p := hA0
  rw [Try.params4] at hA hval
  obtain ⟨v0, vs0, d0, ds0, p0, q0, hargs, rfl, rfl, h0, r0⟩ := trodAll_cons hA
  obtain ⟨v1, vs1, d1, ds1, p1, q1, rfl, rfl, rfl, h1, r1⟩ := trodAll_cons r0
  obtain ⟨v2, vs2, d2, ds2, p2, q2, rfl, rfl, rfl, h2, r2⟩ := trodAll_cons r1
  obtain ⟨v3, vs3, d3, ds3, p3, q3, rfl, rfl, rfl, h3, r3⟩ := trodAll_cons r2
  obtain ⟨rfl, rfl, rfl⟩ := trodAll_nil r3
  obtain rfl : args = #[v0, v1, v2, v3] := by cases args; simp_all
  obtain ⟨rfl, rfl⟩ := trodVars_none hV
  have hlt : ∀ x ∈ p0 ++ (p1 ++ (p2 ++ (p3 ++ []))), x.block < W.heap.size := fun x hx => by simpa using hW'.lt x (by simpa using hx)
  clear hA0 hval0
  have k0 := h0
  have k1 := h1
  have k2 := h2
  have k3 := h3
  obtain ⟨x0, rfl, hn0⟩ := open_llast (hval 0 30 v0 rfl rfl) h0
  obtain ⟨x1, rfl, hn1⟩ := open_lfoot (hval 1 32 v1 rfl rfl) h1
  obtain ⟨a2, x2, c2, rfl, hx2, hn2, hk2⟩ := open_list Try.underlying22 opens_int64s (hval 2 22 v2 rfl rfl) h2
  obtain ⟨x3, rfl, rfl, rfl, wf3⟩ := open_int Try.underlying2 (hval 3 2 v3 rfl rfl) h3
  refine (lawBuildUpFor x0 x1 a2 x2 c2 x3 W hn0 hn1 hx2 hn2 (bounds_i64 wf3)).mono fun e W' ⟨he, hb⟩ => ?_
  subst he
  refine ⟨_, rfl, _, _, _, [], p0 ++ (p1 ++ (p2 ++ ([] ++ []))), [], hW', ?_, ?_, rfl, hb.frame _, fun h => by cases h⟩
  · exact trodAll_mk1 (shut_bool Try.underlying4 _)
  · exact trodAll_cons_mk (Below.trod EBuildUpFor.laidOut (by kernel_rfl) (of_decide_eq_true (by kernel_rfl)) k0 hb (fun x hx => hlt x (by simp [hx]))) (trodAll_cons_mk (Below.trod EBuildUpFor.laidOut (by kernel_rfl) (of_decide_eq_true (by kernel_rfl)) k1 hb (fun x hx => hlt x (by simp [hx]))) (trodAll_cons_mk (Below.trod EBuildUpFor.laidOut (by kernel_rfl) (of_decide_eq_true (by kernel_rfl)) k2 hb (fun x hx => hlt x (by simp [hx]))) (trodAll_cons_mk (Below.trod EBuildUpFor.laidOut (by kernel_rfl) (of_decide_eq_true (by kernel_rfl)) k3 hb (fun x hx => by cases hx)) (trodAll_mk0))))

theorem EBuildUpFor.holds : Rows.FnExactBuildUpForSaid :=
  OpenClaim.holds_of_wide 4 Try.f4 rfl rfl rfl rfl rfl rfl rfl ⟨rfl, rfl, rfl, rfl, rfl⟩ rfl rfl rfl rfl rfl (by kernel_rfl) Try.func4 (by kernel_rfl)
    (of_decide_eq_true (by kernel_rfl)) (by unfold Func.isWrapper; first | (rw [if_pos (by decide +kernel)]; kernel_rfl) | (rw [if_neg (by decide +kernel)]; exact ⟨rfl, rfl⟩))
    (fun os started H enc _ => EBuildUpFor.lifted os started H enc)

end Go.Proofs.Ytokoallbhbgkkaa
