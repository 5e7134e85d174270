/- Chapter 3, draws of widths and girths. -/
import Derived.Test.YtlaclknhenccdaaW12
namespace Go.Proofs.Ytlaclknhenccdaa
open Go.RowKit

set_option maxRecDepth 100000 in
set_option maxHeartbeats 1600000 in
theorem drawWidthFor_c (ca : Option Addr) (L : List UInt8) (cc : Nat) (w : World) (hx : At w ca L) (hl : L.length ≤ 9223372036854775807) :
    Calls Try.prog 28 #[.slice ca L.length cc] w fun e w' => ∃ (f : Foot) (h k : Int), e = .returned (.tuple #[.agg #[.int .i64 f.Length, .int .i64 f.Ball, .int .i64 f.Instep, .int .i64 f.Heel], .int .i64 h, .int .i64 k]) ∧ Below w.heap.size w w' := by
  obtain ⟨w0, hw0⟩ : ∃ w0, w0 = w.alloc (.cells #[.int .i64 0, .int .i64 0, .int .i64 0, .int .i64 0] 51) := ⟨_, rfl⟩
  have hs0 : w0.heap.size = w.heap.size + 1 := by rw [hw0]; exact World.size_alloc _ _
  have R2 : Own w.heap.size w0 51 (.slice (some ⟨w.heap.size, 0, none⟩) 1 1) ([⟨0, 0, 0, 0⟩] : List Foot) := by rw [hw0]; exact own_alloc w _ _ ([⟨0, 0, 0, 0⟩] : List Foot) rfl (by show 1 ≤ 1048576; omega)
  have hb0 : Below w.heap.size w w0 := by rw [hw0]; exact newB w _
  replace hw0 := Lib.hid hw0
  replace hx := hx.below hb0
  go_enter Try.func28, Try.ntmps28
  go_wp2_with (rw [← hw0.out])
  refine (l00From_c ca L cc w0 hx hl).mono ?_
  rintro e w1 ⟨rfl, hS1, hb1⟩
  replace R2 := Lib.hid (R2.later hb1)
  have D := Lib.hid (Dr.start (hS1.less (M' := 20) (by omega)))
  replace hb0 := upw hb0 hb1
  have hw1s : w.heap.size + 1 ≤ w1.heap.size := by have := hb1.size; omega
  clear hS1 hb1 hx hl hw0
  replace hs0 := Lib.hid hs0
  go_wp2_with fail
  refine (drawWidths_c w0.heap.size 8 _ (D.out.src.less (by omega))).mono ?_
  rintro e w2 ⟨f, rfl, hS2, hg2⟩
  replace D := Lib.hid (D.out.drew hS2 hg2)
  clear hS2 hg2
  obtain ⟨w3, hw3⟩ : ∃ w3, w3 = w2.alloc (.cells #[.int .i64 f.Length, .int .i64 f.Ball, .int .i64 f.Instep, .int .i64 f.Heel] 51) := ⟨_, rfl⟩
  have D3 : Dr w1 w3 w0.heap.size 8 [ite' 51 (.slice (some ⟨w2.heap.size, 0, none⟩) 4 4) (footC f)] := by rw [hw3]; exact D.out.alloc _ _ (footC f) rfl (by show 4 ≤ 1048576; omega)
  replace D := Lib.hid D3
  replace hw3 := Lib.hid hw3
  clear D3
  go_wp2_with (rw [← hw3.out])
  refine (drawHalf_c w0.heap.size 4 _ (D.out.src.less (by omega))).mono ?_
  rintro e w4 ⟨h, rfl, hh1, hh2, hS2, hg2⟩
  replace D := Lib.hid (D.out.drew hS2 hg2)
  clear hS2 hg2 hw3
  go_wp2_with fail
  refine (one_c w0.heap.size 2 8 _ (D.out.src.less (by omega)) (by omega) (by omega)).mono ?_
  rintro e w5 ⟨b, rfl, hS2, hg2⟩
  replace D := Lib.hid (D.out.drew hS2 hg2)
  clear hS2 hg2
  cases b
  · skip
    have x0 := footC_cells (D.out.get 0 rfl)
    go_wp2_with fail
    refine wp_region_held_drew (S := (fun w' => w'.cell? ⟨w2.heap.size, 0, none⟩ = some (.int .i64 f.Length) ∧ w'.cell? ⟨w2.heap.size, 1, none⟩ = some (.int .i64 f.Ball) ∧ w'.cell? ⟨w2.heap.size, 2, none⟩ = some (.int .i64 f.Instep) ∧ w'.cell? ⟨w2.heap.size, 3, none⟩ = some (.int .i64 f.Heel))) (by kernel_rfl) x0 (fun hHeld => ?_)
    obtain ⟨wo, hwo⟩ : ∃ wo, wo = w5.drew := ⟨_, rfl⟩
    rw [← hwo] at hHeld ⊢
    have hbo : Below w5.heap.size w5 wo := by rw [hwo]; exact (Below.refl _ _).drew
    replace D := Lib.hid (D.out.later hbo)
    clear hwo x0 hbo
    refine wpAnyH_take (i := 0) (v := _) rfl (by kernel_rfl) (by kernel_rfl) (by kernel_rfl) (fun _ _ _ h => h) (Or.inl ⟨by rfl, (by intro w hSw; (try dsimp only at hSw); go_simp; try with_reducible rfl)⟩) (by assumption) ?_
    go_simp
    refine wpAnyH_take (i := 1) (v := _) rfl (by kernel_rfl) (by kernel_rfl) (by kernel_rfl) (fun _ _ _ h => h) (Or.inl ⟨by rfl, (by intro w hSw; (try dsimp only at hSw); go_simp; try with_reducible rfl)⟩) (by assumption) ?_
    go_simp
    refine wpAnyH_take (i := 2) (v := _) rfl (by kernel_rfl) (by kernel_rfl) (by kernel_rfl) (fun _ _ _ h => h) (Or.inl ⟨by rfl, (by intro w hSw; (try dsimp only at hSw); go_simp; try with_reducible rfl)⟩) (by assumption) ?_
    go_simp
    refine wpAnyH_ready (rs := [3]) (by kernel_rfl) (by simp) ?_
    refine AllReadyH.cons rfl (fun K hK => ?_) AllReadyH.nil
    go_simp
    (refine (pick_c w0.heap.size 0 250 wo (D.out.src.less (by omega)) (by omega) (by omega)).mono ?_; rintro e wp ⟨v, rfl, v0, v1, hS7, hg7⟩; replace D := Lib.hid (D.out.drew hS7 hg7); clear hS7 hg7; have e1 : IntKind.i64.wrap (10 * v) = 10 * v := IntWalk.i64_in _ (by omega); have e2 : IntKind.i64.wrap (1000 + 10 * v) = 1000 + 10 * v := IntWalk.i64_in _ (by omega))
    refine hK.out _ _ (footC_cells (D.out.get 0 rfl)) (fun hHeld => ?_)
    clear hK K
    go_simp
    refine wpAnyH_take (i := 4) (v := _) rfl (by kernel_rfl) (by kernel_rfl) (by kernel_rfl) (fun _ _ _ h => h) (Or.inl ⟨by rfl, (by intro w hSw; (try dsimp only at hSw); go_simp; try with_reducible rfl)⟩) (by assumption) ?_
    go_simp
    refine wpAnyH_take (i := 5) (v := _) rfl (by kernel_rfl) (by kernel_rfl) (by kernel_rfl) (fun _ _ _ h => h) (Or.inl ⟨by rfl, (by intro w hSw; (try dsimp only at hSw); go_simp; try with_reducible rfl)⟩) (by assumption) ?_
    go_simp
    have G := D.out.up
    have V1 : Own _ _ _ _ (footC f) := D.out.get 0 rfl
    have hn2 : w.heap.size ≠ w2.heap.size := by have := V1.lt w2.heap.size rfl; omega
    have R2p := R2.out.kept G (Or.inr (ne_blk (by have := hs0.out; omega)))
    refine wpAnyH_ready (rs := [6]) (by kernel_rfl) (by simp) ?_
    refine AllReadyH.cons rfl (fun K hK => ?_) AllReadyH.nil
    refine cast (if_pos (by rfl)).symm ?_; refine wp_store_own 51 (.tmp 2) (.tmp 21) rfl w.heap.size 51 w.heap.size 1 1 ([⟨0, 0, 0, 0⟩] : List Foot) 0 _ (f : Foot) rfl rfl rfl (by kernel_rfl) rfl R2p (by simp) ?_; intro wq hV2 hg2
    refine hK.out _ _ (footC_cells (V1.kept hg2 (Or.inr (ne_blk hn2.symm)))) (fun hHeld => ?_)
    clear hK K
    go_simp
    refine wpAnyH_take (i := 7) (v := _) rfl (by kernel_rfl) (by kernel_rfl) (by kernel_rfl) (fun _ _ _ h => h) (Or.inl ⟨by rfl, (by intro w hSw; (try dsimp only at hSw); go_simp; try with_reducible rfl)⟩) (by assumption) ?_
    go_simp
    refine wpAnyH_take (i := 8) (v := _) rfl (by kernel_rfl) (by kernel_rfl) (by kernel_rfl) (fun _ _ _ h => h) (Or.inl ⟨by rfl, (by intro w hSw; (try dsimp only at hSw); go_simp; try with_reducible rfl)⟩) (by assumption) ?_
    go_simp
    refine wpAnyH_done (by kernel_rfl) ?_ _
    obtain ⟨q0, q1, q2, q3⟩ := foot1_cells hV2
    go_wp2_with fail
    refine bodyPost_ret (v := .tuple #[.agg #[.int .i64 f.Length, .int .i64 f.Ball, .int .i64 f.Instep, .int .i64 f.Heel], .int .i64 h, .int .i64 (1000 + 10 * v)]) (by simp [results, Try.results28, go_sem, q0, q1, q2, q3]) rfl ?_
    have hF := below_mark (drew_up hb0 G (by have := hs0.out; omega)) R2p (Nat.le_refl _) hg2
    exact ⟨f, h, 1000 + 10 * v, rfl, hF⟩
  · skip
    have x0 := footC_cells (D.out.get 0 rfl)
    go_wp2_with fail
    refine wp_region_held_drew (S := (fun w' => w'.cell? ⟨w2.heap.size, 0, none⟩ = some (.int .i64 f.Length) ∧ w'.cell? ⟨w2.heap.size, 1, none⟩ = some (.int .i64 f.Ball) ∧ w'.cell? ⟨w2.heap.size, 2, none⟩ = some (.int .i64 f.Instep) ∧ w'.cell? ⟨w2.heap.size, 3, none⟩ = some (.int .i64 f.Heel))) (by kernel_rfl) x0 (fun hHeld => ?_)
    obtain ⟨wo, hwo⟩ : ∃ wo, wo = w5.drew := ⟨_, rfl⟩
    rw [← hwo] at hHeld ⊢
    have hbo : Below w5.heap.size w5 wo := by rw [hwo]; exact (Below.refl _ _).drew
    replace D := Lib.hid (D.out.later hbo)
    clear hwo x0 hbo
    refine wpAnyH_take (i := 0) (v := _) rfl (by kernel_rfl) (by kernel_rfl) (by kernel_rfl) (fun _ _ _ h => h) (Or.inl ⟨by rfl, (by intro w hSw; (try dsimp only at hSw); go_simp; try with_reducible rfl)⟩) (by assumption) ?_
    go_simp
    refine wpAnyH_take (i := 1) (v := _) rfl (by kernel_rfl) (by kernel_rfl) (by kernel_rfl) (fun _ _ _ h => h) (Or.inl ⟨by rfl, (by intro w hSw; (try dsimp only at hSw); go_simp; try with_reducible rfl)⟩) (by assumption) ?_
    go_simp
    refine wpAnyH_take (i := 2) (v := _) rfl (by kernel_rfl) (by kernel_rfl) (by kernel_rfl) (fun _ _ _ h => h) (Or.inl ⟨by rfl, (by intro w hSw; (try dsimp only at hSw); go_simp; try with_reducible rfl)⟩) (by assumption) ?_
    go_simp
    refine wpAnyH_ready (rs := [3]) (by kernel_rfl) (by simp) ?_
    refine AllReadyH.cons rfl (fun K hK => ?_) AllReadyH.nil
    go_simp
    (obtain ⟨wt, hwt⟩ : ∃ wt, wt = wo.alloc (.cells #[.int .i64 (-1), .int .i64 0, .int .i64 5000, .int .i64 5001] 2) := ⟨_, rfl⟩; rw [← hwt]; have hct : Below wo.heap.size wo wt := (by rw [hwt]; exact newB _ _); have hA : At wt (some ⟨wo.heap.size, 0, none⟩) ([-1, 0, 5000, 5001] : List Int) := (by rw [hwt]; exact at_lits wo 2 [-1, 0, 5000, 5001]); have hoff := off_new (w := wo) D.out.src.lt; replace D := Lib.hid (D.out.later hct); clear hwt hct)
    refine hK.out _ _ (footC_cells (D.out.get 0 rfl)) (fun hHeld => ?_)
    clear hK K
    go_simp
    refine wpAnyH_ready (rs := [4]) (by kernel_rfl) (by simp) ?_
    refine AllReadyH.cons rfl (fun K hK => ?_) AllReadyH.nil
    go_simp
    (refine (among_c w0.heap.size 0 _ ([-1, 0, 5000, 5001] : List Int) _ wt (D.out.src.less (by omega)) hA hoff (by simp) (by simp)).mono ?_; rintro e wp ⟨v, rfl, hv, hS7, hg7⟩; replace D := Lib.hid (D.out.drew hS7 hg7); clear hS7 hg7 hA hoff hv)
    refine hK.out _ _ (footC_cells (D.out.get 0 rfl)) (fun hHeld => ?_)
    clear hK K
    go_simp
    have G := D.out.up
    have V1 : Own _ _ _ _ (footC f) := D.out.get 0 rfl
    have hn2 : w.heap.size ≠ w2.heap.size := by have := V1.lt w2.heap.size rfl; omega
    have R2p := R2.out.kept G (Or.inr (ne_blk (by have := hs0.out; omega)))
    refine wpAnyH_ready (rs := [5]) (by kernel_rfl) (by simp) ?_
    refine AllReadyH.cons rfl (fun K hK => ?_) AllReadyH.nil
    refine cast (if_pos (by rfl)).symm ?_; refine wp_store_own 51 (.tmp 2) (.tmp 16) rfl w.heap.size 51 w.heap.size 1 1 ([⟨0, 0, 0, 0⟩] : List Foot) 0 _ (f : Foot) rfl rfl rfl (by kernel_rfl) rfl R2p (by simp) ?_; intro wq hV2 hg2
    refine hK.out _ _ (footC_cells (V1.kept hg2 (Or.inr (ne_blk hn2.symm)))) (fun hHeld => ?_)
    clear hK K
    go_simp
    refine wpAnyH_take (i := 6) (v := _) rfl (by kernel_rfl) (by kernel_rfl) (by kernel_rfl) (fun _ _ _ h => h) (Or.inl ⟨by rfl, (by intro w hSw; (try dsimp only at hSw); go_simp; try with_reducible rfl)⟩) (by assumption) ?_
    go_simp
    refine wpAnyH_take (i := 7) (v := _) rfl (by kernel_rfl) (by kernel_rfl) (by kernel_rfl) (fun _ _ _ h => h) (Or.inl ⟨by rfl, (by intro w hSw; (try dsimp only at hSw); go_simp; try with_reducible rfl)⟩) (by assumption) ?_
    go_simp
    refine wpAnyH_done (by kernel_rfl) ?_ _
    obtain ⟨q0, q1, q2, q3⟩ := foot1_cells hV2
    go_wp2_with fail
    refine bodyPost_ret (v := .tuple #[.agg #[.int .i64 f.Length, .int .i64 f.Ball, .int .i64 f.Instep, .int .i64 f.Heel], .int .i64 h, .int .i64 (v)]) (by simp [results, Try.results28, go_sem, q0, q1, q2, q3]) rfl ?_
    have hF := below_mark (drew_up hb0 G (by have := hs0.out; omega)) R2p (Nat.le_refl _) hg2
    exact ⟨f, h, v, rfl, hF⟩
set_option maxRecDepth 100000 in
set_option maxHeartbeats 1600000 in
theorem drawGirthOf_c (ca : Option Addr) (L : List UInt8) (cc : Nat) (w : World) (hx : At w ca L) (hl : L.length ≤ 9223372036854775807) :
    Calls Try.prog 31 #[.slice ca L.length cc] w fun e w' => ∃ (f : Foot) (h k : Int), e = .returned (.tuple #[.agg #[.int .i64 f.Length, .int .i64 f.Ball, .int .i64 f.Instep, .int .i64 f.Heel], .int .i64 h, .int .i64 k]) ∧ Below w.heap.size w w' := by
  obtain ⟨w0, hw0⟩ : ∃ w0, w0 = w.alloc (.cells #[.int .i64 0, .int .i64 0, .int .i64 0, .int .i64 0] 51) := ⟨_, rfl⟩
  have hs0 : w0.heap.size = w.heap.size + 1 := by rw [hw0]; exact World.size_alloc _ _
  have R2 : Own w.heap.size w0 51 (.slice (some ⟨w.heap.size, 0, none⟩) 1 1) ([⟨0, 0, 0, 0⟩] : List Foot) := by rw [hw0]; exact own_alloc w _ _ ([⟨0, 0, 0, 0⟩] : List Foot) rfl (by show 1 ≤ 1048576; omega)
  have hb0 : Below w.heap.size w w0 := by rw [hw0]; exact newB w _
  replace hw0 := Lib.hid hw0
  replace hx := hx.below hb0
  go_enter Try.func31, Try.ntmps31
  go_wp2_with (rw [← hw0.out])
  refine (l00From_c ca L cc w0 hx hl).mono ?_
  rintro e w1 ⟨rfl, hS1, hb1⟩
  replace R2 := Lib.hid (R2.later hb1)
  have D := Lib.hid (Dr.start (hS1.less (M' := 20) (by omega)))
  replace hb0 := upw hb0 hb1
  have hw1s : w.heap.size + 1 ≤ w1.heap.size := by have := hb1.size; omega
  clear hS1 hb1 hx hl hw0
  replace hs0 := Lib.hid hs0
  go_wp2_with fail
  refine (drawWidths_c w0.heap.size 8 _ (D.out.src.less (by omega))).mono ?_
  rintro e w2 ⟨f, rfl, hS2, hg2⟩
  replace D := Lib.hid (D.out.drew hS2 hg2)
  clear hS2 hg2
  obtain ⟨w3, hw3⟩ : ∃ w3, w3 = w2.alloc (.cells #[.int .i64 f.Length, .int .i64 f.Ball, .int .i64 f.Instep, .int .i64 f.Heel] 51) := ⟨_, rfl⟩
  have D3 : Dr w1 w3 w0.heap.size 8 [ite' 51 (.slice (some ⟨w2.heap.size, 0, none⟩) 4 4) (footC f)] := by rw [hw3]; exact D.out.alloc _ _ (footC f) rfl (by show 4 ≤ 1048576; omega)
  replace D := Lib.hid D3
  replace hw3 := Lib.hid hw3
  clear D3
  go_wp2_with (rw [← hw3.out])
  refine (drawHalf_c w0.heap.size 4 _ (D.out.src.less (by omega))).mono ?_
  rintro e w4 ⟨h, rfl, hh1, hh2, hS2, hg2⟩
  replace D := Lib.hid (D.out.drew hS2 hg2)
  clear hS2 hg2 hw3
  go_wp2_with fail
  refine (one_c w0.heap.size 2 8 _ (D.out.src.less (by omega)) (by omega) (by omega)).mono ?_
  rintro e w5 ⟨b, rfl, hS2, hg2⟩
  replace D := Lib.hid (D.out.drew hS2 hg2)
  clear hS2 hg2
  cases b
  · skip
    have x0 := footC_cells (D.out.get 0 rfl)
    go_wp2_with fail
    refine wp_region_held_drew (S := (fun w' => w'.cell? ⟨w2.heap.size, 0, none⟩ = some (.int .i64 f.Length) ∧ w'.cell? ⟨w2.heap.size, 1, none⟩ = some (.int .i64 f.Ball) ∧ w'.cell? ⟨w2.heap.size, 2, none⟩ = some (.int .i64 f.Instep) ∧ w'.cell? ⟨w2.heap.size, 3, none⟩ = some (.int .i64 f.Heel))) (by kernel_rfl) x0 (fun hHeld => ?_)
    obtain ⟨wo, hwo⟩ : ∃ wo, wo = w5.drew := ⟨_, rfl⟩
    rw [← hwo] at hHeld ⊢
    have hbo : Below w5.heap.size w5 wo := by rw [hwo]; exact (Below.refl _ _).drew
    replace D := Lib.hid (D.out.later hbo)
    clear hwo x0 hbo
    refine wpAnyH_take (i := 0) (v := _) rfl (by kernel_rfl) (by kernel_rfl) (by kernel_rfl) (fun _ _ _ h => h) (Or.inl ⟨by rfl, (by intro w hSw; (try dsimp only at hSw); go_simp; try with_reducible rfl)⟩) (by assumption) ?_
    go_simp
    refine wpAnyH_take (i := 1) (v := _) rfl (by kernel_rfl) (by kernel_rfl) (by kernel_rfl) (fun _ _ _ h => h) (Or.inl ⟨by rfl, (by intro w hSw; (try dsimp only at hSw); go_simp; try with_reducible rfl)⟩) (by assumption) ?_
    go_simp
    refine wpAnyH_take (i := 2) (v := _) rfl (by kernel_rfl) (by kernel_rfl) (by kernel_rfl) (fun _ _ _ h => h) (Or.inl ⟨by rfl, (by intro w hSw; (try dsimp only at hSw); go_simp; try with_reducible rfl)⟩) (by assumption) ?_
    go_simp
    refine wpAnyH_ready (rs := [3]) (by kernel_rfl) (by simp) ?_
    refine AllReadyH.cons rfl (fun K hK => ?_) AllReadyH.nil
    go_simp
    (refine (pick_c w0.heap.size 0 8 wo (D.out.src.less (by omega)) (by omega) (by omega)).mono ?_; rintro e wp ⟨v, rfl, v0, v1, hS7, hg7⟩; replace D := Lib.hid (D.out.drew hS7 hg7); clear hS7 hg7)
    refine hK.out _ _ (footC_cells (D.out.get 0 rfl)) (fun hHeld => ?_)
    clear hK K
    go_simp
    have G := D.out.up
    have V1 : Own _ _ _ _ (footC f) := D.out.get 0 rfl
    have hn2 : w.heap.size ≠ w2.heap.size := by have := V1.lt w2.heap.size rfl; omega
    have R2p := R2.out.kept G (Or.inr (ne_blk (by have := hs0.out; omega)))
    refine wpAnyH_ready (rs := [4]) (by kernel_rfl) (by simp) ?_
    refine AllReadyH.cons rfl (fun K hK => ?_) AllReadyH.nil
    refine cast (if_pos (by rfl)).symm ?_; refine wp_store_own 51 (.tmp 2) (.tmp 23) rfl w.heap.size 51 w.heap.size 1 1 ([⟨0, 0, 0, 0⟩] : List Foot) 0 _ (f : Foot) rfl rfl rfl (by kernel_rfl) rfl R2p (by simp) ?_; intro wq hV2 hg2
    refine hK.out _ _ (footC_cells (V1.kept hg2 (Or.inr (ne_blk hn2.symm)))) (fun hHeld => ?_)
    clear hK K
    go_simp
    refine wpAnyH_take (i := 5) (v := _) rfl (by kernel_rfl) (by kernel_rfl) (by kernel_rfl) (fun _ _ _ h => h) (Or.inl ⟨by rfl, (by intro w hSw; (try dsimp only at hSw); go_simp; try with_reducible rfl)⟩) (by assumption) ?_
    go_simp
    refine wpAnyH_take (i := 6) (v := _) rfl (by kernel_rfl) (by kernel_rfl) (by kernel_rfl) (fun _ _ _ h => h) (Or.inl ⟨by rfl, (by intro w hSw; (try dsimp only at hSw); go_simp; try with_reducible rfl)⟩) (by assumption) ?_
    go_simp
    refine wpAnyH_done (by kernel_rfl) ?_ _
    obtain ⟨q0, q1, q2, q3⟩ := foot1_cells hV2
    go_wp2_with fail
    refine bodyPost_ret (v := .tuple #[.agg #[.int .i64 f.Length, .int .i64 f.Ball, .int .i64 f.Instep, .int .i64 f.Heel], .int .i64 h, .int .i64 (v)]) (by simp [results, Try.results31, go_sem, q0, q1, q2, q3]) rfl ?_
    have hF := below_mark (drew_up hb0 G (by have := hs0.out; omega)) R2p (Nat.le_refl _) hg2
    exact ⟨f, h, v, rfl, hF⟩
  · skip
    have x0 := footC_cells (D.out.get 0 rfl)
    go_wp2_with fail
    refine wp_region_held_drew (S := (fun w' => w'.cell? ⟨w2.heap.size, 0, none⟩ = some (.int .i64 f.Length) ∧ w'.cell? ⟨w2.heap.size, 1, none⟩ = some (.int .i64 f.Ball) ∧ w'.cell? ⟨w2.heap.size, 2, none⟩ = some (.int .i64 f.Instep) ∧ w'.cell? ⟨w2.heap.size, 3, none⟩ = some (.int .i64 f.Heel))) (by kernel_rfl) x0 (fun hHeld => ?_)
    obtain ⟨wo, hwo⟩ : ∃ wo, wo = w5.drew := ⟨_, rfl⟩
    rw [← hwo] at hHeld ⊢
    have hbo : Below w5.heap.size w5 wo := by rw [hwo]; exact (Below.refl _ _).drew
    replace D := Lib.hid (D.out.later hbo)
    clear hwo x0 hbo
    refine wpAnyH_take (i := 0) (v := _) rfl (by kernel_rfl) (by kernel_rfl) (by kernel_rfl) (fun _ _ _ h => h) (Or.inl ⟨by rfl, (by intro w hSw; (try dsimp only at hSw); go_simp; try with_reducible rfl)⟩) (by assumption) ?_
    go_simp
    refine wpAnyH_take (i := 1) (v := _) rfl (by kernel_rfl) (by kernel_rfl) (by kernel_rfl) (fun _ _ _ h => h) (Or.inl ⟨by rfl, (by intro w hSw; (try dsimp only at hSw); go_simp; try with_reducible rfl)⟩) (by assumption) ?_
    go_simp
    refine wpAnyH_take (i := 2) (v := _) rfl (by kernel_rfl) (by kernel_rfl) (by kernel_rfl) (fun _ _ _ h => h) (Or.inl ⟨by rfl, (by intro w hSw; (try dsimp only at hSw); go_simp; try with_reducible rfl)⟩) (by assumption) ?_
    go_simp
    refine wpAnyH_take (i := 3) (v := _) rfl (by kernel_rfl) (by kernel_rfl) (by kernel_rfl) (fun _ _ _ h => h) (Or.inl ⟨by rfl, (by intro w hSw; (try dsimp only at hSw); go_simp; try with_reducible rfl)⟩) (by assumption) ?_
    go_simp
    refine wpAnyH_take (i := 4) (v := _) rfl (by kernel_rfl) (by kernel_rfl) (by kernel_rfl) (fun _ _ _ h => h) (Or.inl ⟨by rfl, (by intro w hSw; (try dsimp only at hSw); go_simp; try with_reducible rfl)⟩) (by assumption) ?_
    go_simp
    refine wpAnyH_ready (rs := [5]) (by kernel_rfl) (by simp) ?_
    refine AllReadyH.cons rfl (fun K hK => ?_) AllReadyH.nil
    go_simp
    (obtain ⟨wt, hwt⟩ : ∃ wt, wt = wo.alloc (.cells #[.int .i64 (-1), .int .i64 f.Heel, .int .i64 9223372036854775807] 2) := ⟨_, rfl⟩; rw [← hwt]; have hct : Below wo.heap.size wo wt := (by rw [hwt]; exact newB _ _); have hA : At wt (some ⟨wo.heap.size, 0, none⟩) ([-1, f.Heel, 9223372036854775807] : List Int) := (by rw [hwt]; exact at_lits wo 2 [-1, f.Heel, 9223372036854775807]); have hoff := off_new (w := wo) D.out.src.lt; replace D := Lib.hid (D.out.later hct); clear hwt hct)
    refine hK.out _ _ (footC_cells (D.out.get 0 rfl)) (fun hHeld => ?_)
    clear hK K
    go_simp
    refine wpAnyH_ready (rs := [6]) (by kernel_rfl) (by simp) ?_
    refine AllReadyH.cons rfl (fun K hK => ?_) AllReadyH.nil
    go_simp
    (refine (among_c w0.heap.size 0 _ ([-1, f.Heel, 9223372036854775807] : List Int) _ wt (D.out.src.less (by omega)) hA hoff (by simp) (by simp)).mono ?_; rintro e wp ⟨v, rfl, hv, hS7, hg7⟩; replace D := Lib.hid (D.out.drew hS7 hg7); clear hS7 hg7 hA hoff hv)
    refine hK.out _ _ (footC_cells (D.out.get 0 rfl)) (fun hHeld => ?_)
    clear hK K
    go_simp
    have G := D.out.up
    have V1 : Own _ _ _ _ (footC f) := D.out.get 0 rfl
    have hn2 : w.heap.size ≠ w2.heap.size := by have := V1.lt w2.heap.size rfl; omega
    have R2p := R2.out.kept G (Or.inr (ne_blk (by have := hs0.out; omega)))
    refine wpAnyH_ready (rs := [7]) (by kernel_rfl) (by simp) ?_
    refine AllReadyH.cons rfl (fun K hK => ?_) AllReadyH.nil
    refine cast (if_pos (by rfl)).symm ?_; refine wp_store_own 51 (.tmp 2) (.tmp 16) rfl w.heap.size 51 w.heap.size 1 1 ([⟨0, 0, 0, 0⟩] : List Foot) 0 _ (f : Foot) rfl rfl rfl (by kernel_rfl) rfl R2p (by simp) ?_; intro wq hV2 hg2
    refine hK.out _ _ (footC_cells (V1.kept hg2 (Or.inr (ne_blk hn2.symm)))) (fun hHeld => ?_)
    clear hK K
    go_simp
    refine wpAnyH_take (i := 8) (v := _) rfl (by kernel_rfl) (by kernel_rfl) (by kernel_rfl) (fun _ _ _ h => h) (Or.inl ⟨by rfl, (by intro w hSw; (try dsimp only at hSw); go_simp; try with_reducible rfl)⟩) (by assumption) ?_
    go_simp
    refine wpAnyH_take (i := 9) (v := _) rfl (by kernel_rfl) (by kernel_rfl) (by kernel_rfl) (fun _ _ _ h => h) (Or.inl ⟨by rfl, (by intro w hSw; (try dsimp only at hSw); go_simp; try with_reducible rfl)⟩) (by assumption) ?_
    go_simp
    refine wpAnyH_done (by kernel_rfl) ?_ _
    obtain ⟨q0, q1, q2, q3⟩ := foot1_cells hV2
    go_wp2_with fail
    refine bodyPost_ret (v := .tuple #[.agg #[.int .i64 f.Length, .int .i64 f.Ball, .int .i64 f.Instep, .int .i64 f.Heel], .int .i64 h, .int .i64 (v)]) (by simp [results, Try.results31, go_sem, q0, q1, q2, q3]) rfl ?_
    have hF := below_mark (drew_up hb0 G (by have := hs0.out; omega)) R2p (Nat.le_refl _) hg2
    exact ⟨f, h, v, rfl, hF⟩
end Go.Proofs.Ytlaclknhenccdaa
