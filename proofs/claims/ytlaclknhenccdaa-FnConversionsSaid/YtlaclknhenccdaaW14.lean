/- Chapter 3, the draw of two scales and half sizes. -/
import Derived.Test.YtlaclknhenccdaaW13
namespace Go.Proofs.Ytlaclknhenccdaa
open Go.RowKit

set_option maxRecDepth 100000 in
set_option maxHeartbeats 1600000 in
theorem drawLostSizes_c (ca : Option Addr) (L : List UInt8) (cc : Nat) (w : World) (hx : At w ca L) (hl : L.length ≤ 9223372036854775807) :
    Calls Try.prog 22 #[.slice ca L.length cc] w fun e w' => ∃ (x y : Scl) (h k : Int), e = .returned (.tuple #[.agg #[.string x.name, .int .i64 x.base, .int .i64 x.num, .int .i64 x.den], .agg #[.string y.name, .int .i64 y.base, .int .i64 y.num, .int .i64 y.den], .int .i64 h, .int .i64 k]) ∧ x.name.size ≤ 10 ∧ y.name.size ≤ 10 ∧ Below w.heap.size w w' := by
  obtain ⟨wa, hwa⟩ : ∃ wa, wa = w.alloc (.cells #[.string ⟨#[]⟩, .int .i64 0, .int .i64 0, .int .i64 0] 42) := ⟨_, rfl⟩
  obtain ⟨w0, hw0⟩ : ∃ w0, w0 = wa.alloc (.cells #[.string ⟨#[]⟩, .int .i64 0, .int .i64 0, .int .i64 0] 42) := ⟨_, rfl⟩
  have hsa : wa.heap.size = w.heap.size + 1 := by rw [hwa]; exact World.size_alloc _ _
  have hs0 : w0.heap.size = wa.heap.size + 1 := by rw [hw0]; exact World.size_alloc _ _
  have R2 : Own w.heap.size wa 42 (.slice (some ⟨w.heap.size, 0, none⟩) 1 1) [sclNil] := by rw [hwa]; exact own_alloc w _ _ [sclNil] rfl (by show 1 ≤ 1048576; omega)
  have hba : Below wa.heap.size wa w0 := by rw [hw0]; exact newB wa _
  replace R2 := R2.later hba
  have R3 : Own wa.heap.size w0 42 (.slice (some ⟨wa.heap.size, 0, none⟩) 1 1) [sclNil] := by rw [hw0]; exact own_alloc wa _ _ [sclNil] rfl (by show 1 ≤ 1048576; omega)
  rw [hsa] at R3 hs0
  have hb0 : Below w.heap.size w w0 := upw (by rw [hwa]; exact newB w _) hba
  replace hw0 := Lib.hid (hw0.trans (by rw [hwa]))
  clear hwa hba hsa wa
  replace hx := hx.below hb0
  go_enter Try.func22, Try.ntmps22
  go_wp2_with (rw [← hw0.out])
  refine (l00From_c ca L cc w0 hx hl).mono ?_
  rintro e w1 ⟨rfl, hS1, hb1⟩
  replace R2 := Lib.hid (R2.later hb1)
  replace R3 := Lib.hid (R3.later hb1)
  have D := Lib.hid (Dr.start (hS1.less (M' := 36) (by omega)))
  replace hb0 := upw hb0 hb1
  have hw1s : w.heap.size + 2 ≤ w1.heap.size := by have := hb1.size; omega
  clear hS1 hb1 hx hl hw0
  replace hs0 := Lib.hid hs0
  go_wp2_with fail
  refine (l03Draw_c w0.heap.size 22 _ (D.out.src.less (by omega))).mono ?_
  rintro e w2 ⟨x, rfl, hxs, hS2, hg2⟩
  replace D := Lib.hid (D.out.drew hS2 hg2)
  clear hS2 hg2
  obtain ⟨w3, hw3⟩ : ∃ w3, w3 = w2.alloc (.cells #[.string x.name, .int .i64 x.base, .int .i64 x.num, .int .i64 x.den] 42) := ⟨_, rfl⟩
  have D3 : Dr w1 w3 w0.heap.size 22 [ite' 42 (.slice (some ⟨w2.heap.size, 0, none⟩) 4 4) (sclC x)] := by rw [hw3]; exact D.out.alloc _ _ (sclC x) rfl (by show 4 ≤ 1048576; omega)
  have h23 : w2.heap.size < w3.heap.size := by rw [hw3]; have := World.size_alloc w2 (.cells #[.string x.name, .int .i64 x.base, .int .i64 x.num, .int .i64 x.den] 42); omega
  replace D := Lib.hid D3
  replace hw3 := Lib.hid hw3
  clear D3
  go_wp2_with (rw [← hw3.out])
  refine (l03Draw_c w0.heap.size 8 _ (D.out.src.less (by omega))).mono ?_
  rintro e w4 ⟨y, rfl, hys, hS2, hg2⟩
  replace D := Lib.hid (D.out.drew hS2 hg2)
  clear hS2 hg2 hw3
  obtain ⟨w5, hw5⟩ : ∃ w5, w5 = w4.alloc (.cells #[.string y.name, .int .i64 y.base, .int .i64 y.num, .int .i64 y.den] 42) := ⟨_, rfl⟩
  have D3 : Dr w1 w5 w0.heap.size 8 [ite' 42 (.slice (some ⟨w4.heap.size, 0, none⟩) 4 4) (sclC y), ite' 42 (.slice (some ⟨w2.heap.size, 0, none⟩) 4 4) (sclC x)] := by rw [hw5]; exact D.out.alloc _ _ (sclC y) rfl (by show 4 ≤ 1048576; omega)
  replace D := Lib.hid D3
  replace hw5 := Lib.hid hw5
  clear D3
  go_wp2_with (rw [← hw5.out])
  refine (drawHalf_c w0.heap.size 4 _ (D.out.src.less (by omega))).mono ?_
  rintro e w6 ⟨h, rfl, hh1, hh2, hS2, hg2⟩
  replace D := Lib.hid (D.out.drew hS2 hg2)
  clear hS2 hg2 hw5 h23
  go_wp2_with fail
  refine (one_c w0.heap.size 2 10 _ (D.out.src.less (by omega)) (by omega) (by omega)).mono ?_
  rintro e w7 ⟨b, rfl, hS2, hg2⟩
  replace D := Lib.hid (D.out.drew hS2 hg2)
  clear hS2 hg2
  cases b
  · skip
    have x0 := (⟨sclC_cells (D.out.get 1 rfl), sclC_cells (D.out.get 0 rfl)⟩ : (w7.cell? ⟨w2.heap.size, 0, none⟩ = some (.string x.name) ∧ w7.cell? ⟨w2.heap.size, 1, none⟩ = some (.int .i64 x.base) ∧ w7.cell? ⟨w2.heap.size, 2, none⟩ = some (.int .i64 x.num) ∧ w7.cell? ⟨w2.heap.size, 3, none⟩ = some (.int .i64 x.den)) ∧ (w7.cell? ⟨w4.heap.size, 0, none⟩ = some (.string y.name) ∧ w7.cell? ⟨w4.heap.size, 1, none⟩ = some (.int .i64 y.base) ∧ w7.cell? ⟨w4.heap.size, 2, none⟩ = some (.int .i64 y.num) ∧ w7.cell? ⟨w4.heap.size, 3, none⟩ = some (.int .i64 y.den)))
    go_wp2_with fail
    refine wp_region_held_drew (S := (fun w' => (w'.cell? ⟨w2.heap.size, 0, none⟩ = some (.string x.name) ∧ w'.cell? ⟨w2.heap.size, 1, none⟩ = some (.int .i64 x.base) ∧ w'.cell? ⟨w2.heap.size, 2, none⟩ = some (.int .i64 x.num) ∧ w'.cell? ⟨w2.heap.size, 3, none⟩ = some (.int .i64 x.den)) ∧ (w'.cell? ⟨w4.heap.size, 0, none⟩ = some (.string y.name) ∧ w'.cell? ⟨w4.heap.size, 1, none⟩ = some (.int .i64 y.base) ∧ w'.cell? ⟨w4.heap.size, 2, none⟩ = some (.int .i64 y.num) ∧ w'.cell? ⟨w4.heap.size, 3, none⟩ = some (.int .i64 y.den)))) (by kernel_rfl) x0 (fun hHeld => ?_)
    obtain ⟨wo, hwo⟩ : ∃ wo, wo = w7.drew := ⟨_, rfl⟩
    rw [← hwo] at hHeld ⊢
    have hbo : Below w7.heap.size w7 wo := by rw [hwo]; exact (Below.refl _ _).drew
    replace D := Lib.hid (D.out.later hbo)
    clear hwo x0 hbo
    refine wpAnyH_take (i := 0) (v := _) rfl (by kernel_rfl) (by kernel_rfl) (by kernel_rfl) (fun _ _ _ h => h) (Or.inl ⟨by rfl, (by intro w hSw; (try dsimp only at hSw); go_simp; try with_reducible rfl)⟩) (by assumption) ?_
    go_simp
    refine wpAnyH_take (i := 1) (v := _) rfl (by kernel_rfl) (by kernel_rfl) (by kernel_rfl) (fun _ _ _ h => h) (Or.inl ⟨by rfl, (by intro w hSw; (try dsimp only at hSw); go_simp; try with_reducible rfl)⟩) (by assumption) ?_
    go_simp
    refine wpAnyH_take (i := 2) (v := _) rfl (by kernel_rfl) (by kernel_rfl) (by kernel_rfl) (fun _ _ _ h => h) (Or.inl ⟨by rfl, (by intro w hSw; (try dsimp only at hSw); go_simp; try with_reducible rfl)⟩) (by assumption) ?_
    go_simp
    refine wpAnyH_take (i := 3) (v := _) rfl (by kernel_rfl) (by kernel_rfl) (by kernel_rfl) (fun _ _ _ h => h) (Or.inl ⟨by rfl, (by intro w hSw; (try dsimp only at hSw); go_simp; try with_reducible rfl)⟩) (by assumption) ?_
    go_simp
    refine wpAnyH_take (i := 6) (v := _) rfl (by kernel_rfl) (by kernel_rfl) (by kernel_rfl) (fun _ _ _ h => h) (Or.inl ⟨by rfl, (by intro w hSw; (try dsimp only at hSw); go_simp; try with_reducible rfl)⟩) (by assumption) ?_
    go_simp
    refine wpAnyH_ready (rs := [4]) (by kernel_rfl) (by simp) ?_
    refine AllReadyH.cons rfl (fun K hK => ?_) AllReadyH.nil
    go_simp
    (refine (l00Max_c 0 h wo).mono ?_; rintro e w' ⟨rfl, rfl⟩; have hm0 : 0 ≤ max 0 h := (by omega); generalize max 0 h = m at hm0 ⊢)
    refine hK.out _ _ (⟨sclC_cells (D.out.get 1 rfl), sclC_cells (D.out.get 0 rfl)⟩) (fun hHeld => ?_)
    clear hK K
    go_simp
    refine wpAnyH_ready (rs := [5]) (by kernel_rfl) (by simp) ?_
    refine AllReadyH.cons rfl (fun K hK => ?_) AllReadyH.nil
    go_simp
    (refine (l00Min_c 120 m wo).mono ?_; rintro e w' ⟨rfl, rfl⟩; have hq0 : 0 ≤ min 120 m ∧ min 120 m ≤ 120 := (by omega); generalize min 120 m = q at hq0 ⊢)
    refine hK.out _ _ (⟨sclC_cells (D.out.get 1 rfl), sclC_cells (D.out.get 0 rfl)⟩) (fun hHeld => ?_)
    clear hK K
    go_simp
    refine wpAnyH_ready (rs := [7]) (by kernel_rfl) (by simp) ?_
    refine AllReadyH.cons rfl (fun K hK => ?_) AllReadyH.nil
    go_simp
    (refine (pick_c w0.heap.size 0 16 wo (D.out.src.less (by omega)) (by omega) (by omega)).mono ?_; rintro e wp ⟨v, rfl, v0, v1, hS7, hg7⟩; replace D := Lib.hid (D.out.drew hS7 hg7); clear hS7 hg7; have e1 : IntKind.i64.wrap (q + v) = q + v := IntWalk.i64_in _ (by omega))
    refine hK.out _ _ (⟨sclC_cells (D.out.get 1 rfl), sclC_cells (D.out.get 0 rfl)⟩) (fun hHeld => ?_)
    clear hK K
    go_simp
    refine wpAnyH_take (i := 8) (v := _) rfl (by kernel_rfl) (by kernel_rfl) (by kernel_rfl) (fun _ _ _ h => h) (Or.inl ⟨by rfl, (by intro w hSw; (try dsimp only at hSw); go_simp; try with_reducible rfl)⟩) (by assumption) ?_
    go_simp
    have G := D.out.up
    have V1 : Own _ _ _ _ (sclC x) := D.out.get 1 rfl
    have Y1 : Own _ _ _ _ (sclC y) := D.out.get 0 rfl
    have v9 := V1.lt w2.heap.size rfl
    have y1 := Y1.lt w4.heap.size rfl
    have R2p := R2.out.kept G (Or.inr (ne_blk (by have := hs0.out; omega)))
    have R3p := R3.out.kept G (Or.inr (ne_blk (by have := hs0.out; omega)))
    refine wpAnyH_ready (rs := [9]) (by kernel_rfl) (by simp) ?_
    refine AllReadyH.cons rfl (fun K hK => ?_) AllReadyH.nil
    refine cast (if_pos (by rfl)).symm ?_; refine wp_store_own 42 (.tmp 2) (.tmp 27) rfl w.heap.size 42 w.heap.size 1 1 [sclNil] 0 _ (x : Scl) rfl rfl rfl (by kernel_rfl) rfl R2p (by simp) ?_; intro wq hV2 hg2
    have V2 := V1.kept hg2 (Or.inr (ne_blk (by omega)))
    have Y2 := Y1.kept hg2 (Or.inr (ne_blk (by omega)))
    have R3q := R3p.kept hg2 (Or.inr (ne_blk (by omega)))
    refine hK.out _ _ (by exact ⟨sclC_cells V2, sclC_cells Y2⟩) (fun hHeld => ?_)
    clear hK K
    go_simp
    refine wpAnyH_ready (rs := [10]) (by kernel_rfl) (by simp) ?_
    refine AllReadyH.cons rfl (fun K hK => ?_) AllReadyH.nil
    refine cast (if_pos (by rfl)).symm ?_; refine wp_store_own 42 (.tmp 3) (.tmp 28) rfl (w.heap.size + 1) 42 (w.heap.size + 1) 1 1 [sclNil] 0 _ (y : Scl) rfl rfl rfl (by kernel_rfl) rfl R3q (by simp) ?_; intro wz hV4 hg4
    refine hK.out _ _ (by exact ⟨sclC_cells (V2.kept hg4 (Or.inr (ne_blk (by omega)))), sclC_cells (Y2.kept hg4 (Or.inr (ne_blk (by omega))))⟩) (fun hHeld => ?_)
    clear hK K
    go_simp
    refine wpAnyH_take (i := 11) (v := _) rfl (by kernel_rfl) (by kernel_rfl) (by kernel_rfl) (fun _ _ _ h => h) (Or.inl ⟨by rfl, (by intro w hSw; (try dsimp only at hSw); go_simp; try with_reducible rfl)⟩) (by assumption) ?_
    go_simp
    refine wpAnyH_take (i := 12) (v := _) rfl (by kernel_rfl) (by kernel_rfl) (by kernel_rfl) (fun _ _ _ h => h) (Or.inl ⟨by rfl, (by intro w hSw; (try dsimp only at hSw); go_simp; try with_reducible rfl)⟩) (by assumption) ?_
    go_simp
    refine wpAnyH_done (by kernel_rfl) ?_ _
    have hV2z := hV2.kept hg4 (Or.inr (ne_blk (by omega)))
    obtain ⟨q0, q1, q2, q3⟩ := scl1_cells hV2z
    obtain ⟨p0, p1, p2, p3⟩ := scl1_cells hV4
    go_wp2_with fail
    refine bodyPost_ret (v := .tuple #[.agg #[.string x.name, .int .i64 x.base, .int .i64 x.num, .int .i64 x.den], .agg #[.string y.name, .int .i64 y.base, .int .i64 y.num, .int .i64 y.den], .int .i64 h, .int .i64 (q + v)]) (by simp [results, Try.results22, go_sem, q0, q1, q2, q3, p0, p1, p2, p3]) rfl ?_
    have hF := below_mark (below_mark (drew_up hb0 G (by have := hs0.out; omega)) R2p (Nat.le_refl _) hg2) R3q (by omega) hg4
    exact ⟨x, y, h, q + v, rfl, hxs, hys, hF⟩
  · skip
    have x0 := (⟨sclC_cells (D.out.get 1 rfl), sclC_cells (D.out.get 0 rfl)⟩ : (w7.cell? ⟨w2.heap.size, 0, none⟩ = some (.string x.name) ∧ w7.cell? ⟨w2.heap.size, 1, none⟩ = some (.int .i64 x.base) ∧ w7.cell? ⟨w2.heap.size, 2, none⟩ = some (.int .i64 x.num) ∧ w7.cell? ⟨w2.heap.size, 3, none⟩ = some (.int .i64 x.den)) ∧ (w7.cell? ⟨w4.heap.size, 0, none⟩ = some (.string y.name) ∧ w7.cell? ⟨w4.heap.size, 1, none⟩ = some (.int .i64 y.base) ∧ w7.cell? ⟨w4.heap.size, 2, none⟩ = some (.int .i64 y.num) ∧ w7.cell? ⟨w4.heap.size, 3, none⟩ = some (.int .i64 y.den)))
    go_wp2_with fail
    refine wp_region_held_drew (S := (fun w' => (w'.cell? ⟨w2.heap.size, 0, none⟩ = some (.string x.name) ∧ w'.cell? ⟨w2.heap.size, 1, none⟩ = some (.int .i64 x.base) ∧ w'.cell? ⟨w2.heap.size, 2, none⟩ = some (.int .i64 x.num) ∧ w'.cell? ⟨w2.heap.size, 3, none⟩ = some (.int .i64 x.den)) ∧ (w'.cell? ⟨w4.heap.size, 0, none⟩ = some (.string y.name) ∧ w'.cell? ⟨w4.heap.size, 1, none⟩ = some (.int .i64 y.base) ∧ w'.cell? ⟨w4.heap.size, 2, none⟩ = some (.int .i64 y.num) ∧ w'.cell? ⟨w4.heap.size, 3, none⟩ = some (.int .i64 y.den)))) (by kernel_rfl) x0 (fun hHeld => ?_)
    obtain ⟨wo, hwo⟩ : ∃ wo, wo = w7.drew := ⟨_, rfl⟩
    rw [← hwo] at hHeld ⊢
    have hbo : Below w7.heap.size w7 wo := by rw [hwo]; exact (Below.refl _ _).drew
    replace D := Lib.hid (D.out.later hbo)
    clear hwo x0 hbo
    refine wpAnyH_take (i := 0) (v := _) rfl (by kernel_rfl) (by kernel_rfl) (by kernel_rfl) (fun _ _ _ h => h) (Or.inl ⟨by rfl, (by intro w hSw; (try dsimp only at hSw); go_simp; try with_reducible rfl)⟩) (by assumption) ?_
    go_simp
    refine wpAnyH_take (i := 1) (v := _) rfl (by kernel_rfl) (by kernel_rfl) (by kernel_rfl) (fun _ _ _ h => h) (Or.inl ⟨by rfl, (by intro w hSw; (try dsimp only at hSw); go_simp; try with_reducible rfl)⟩) (by assumption) ?_
    go_simp
    refine wpAnyH_take (i := 2) (v := _) rfl (by kernel_rfl) (by kernel_rfl) (by kernel_rfl) (fun _ _ _ h => h) (Or.inl ⟨by rfl, (by intro w hSw; (try dsimp only at hSw); go_simp; try with_reducible rfl)⟩) (by assumption) ?_
    go_simp
    refine wpAnyH_take (i := 3) (v := _) rfl (by kernel_rfl) (by kernel_rfl) (by kernel_rfl) (fun _ _ _ h => h) (Or.inl ⟨by rfl, (by intro w hSw; (try dsimp only at hSw); go_simp; try with_reducible rfl)⟩) (by assumption) ?_
    go_simp
    refine wpAnyH_take (i := 4) (v := _) rfl (by kernel_rfl) (by kernel_rfl) (by kernel_rfl) (fun _ _ _ h => h) (Or.inl ⟨by rfl, (by intro w hSw; (try dsimp only at hSw); go_simp; try with_reducible rfl)⟩) (by assumption) ?_
    go_simp
    refine wpAnyH_ready (rs := [5]) (by kernel_rfl) (by simp) ?_
    refine AllReadyH.cons rfl (fun K hK => ?_) AllReadyH.nil
    go_simp
    (obtain ⟨wt, hwt⟩ : ∃ wt, wt = wo.alloc (.cells #[.int .i64 (-1), .int .i64 h, .int .i64 120, .int .i64 121] 2) := ⟨_, rfl⟩; rw [← hwt]; have hct : Below wo.heap.size wo wt := (by rw [hwt]; exact newB _ _); have hA : At wt (some ⟨wo.heap.size, 0, none⟩) ([-1, h, 120, 121] : List Int) := (by rw [hwt]; exact at_lits wo 2 [-1, h, 120, 121]); have hoff := off_new (w := wo) D.out.src.lt; replace D := Lib.hid (D.out.later hct); clear hwt hct)
    refine hK.out _ _ (⟨sclC_cells (D.out.get 1 rfl), sclC_cells (D.out.get 0 rfl)⟩) (fun hHeld => ?_)
    clear hK K
    go_simp
    refine wpAnyH_ready (rs := [6]) (by kernel_rfl) (by simp) ?_
    refine AllReadyH.cons rfl (fun K hK => ?_) AllReadyH.nil
    go_simp
    (refine (among_c w0.heap.size 0 _ ([-1, h, 120, 121] : List Int) _ wt (D.out.src.less (by omega)) hA hoff (by simp) (by simp)).mono ?_; rintro e wp ⟨v, rfl, hv, hS7, hg7⟩; replace D := Lib.hid (D.out.drew hS7 hg7); clear hS7 hg7 hA hoff hv)
    refine hK.out _ _ (⟨sclC_cells (D.out.get 1 rfl), sclC_cells (D.out.get 0 rfl)⟩) (fun hHeld => ?_)
    clear hK K
    go_simp
    have G := D.out.up
    have V1 : Own _ _ _ _ (sclC x) := D.out.get 1 rfl
    have Y1 : Own _ _ _ _ (sclC y) := D.out.get 0 rfl
    have v1 := V1.lt w2.heap.size rfl
    have y1 := Y1.lt w4.heap.size rfl
    have R2p := R2.out.kept G (Or.inr (ne_blk (by have := hs0.out; omega)))
    have R3p := R3.out.kept G (Or.inr (ne_blk (by have := hs0.out; omega)))
    refine wpAnyH_ready (rs := [7]) (by kernel_rfl) (by simp) ?_
    refine AllReadyH.cons rfl (fun K hK => ?_) AllReadyH.nil
    refine cast (if_pos (by rfl)).symm ?_; refine wp_store_own 42 (.tmp 2) (.tmp 20) rfl w.heap.size 42 w.heap.size 1 1 [sclNil] 0 _ (x : Scl) rfl rfl rfl (by kernel_rfl) rfl R2p (by simp) ?_; intro wq hV2 hg2
    have V2 := V1.kept hg2 (Or.inr (ne_blk (by omega)))
    have Y2 := Y1.kept hg2 (Or.inr (ne_blk (by omega)))
    have R3q := R3p.kept hg2 (Or.inr (ne_blk (by omega)))
    refine hK.out _ _ (by exact ⟨sclC_cells V2, sclC_cells Y2⟩) (fun hHeld => ?_)
    clear hK K
    go_simp
    refine wpAnyH_ready (rs := [8]) (by kernel_rfl) (by simp) ?_
    refine AllReadyH.cons rfl (fun K hK => ?_) AllReadyH.nil
    refine cast (if_pos (by rfl)).symm ?_; refine wp_store_own 42 (.tmp 3) (.tmp 21) rfl (w.heap.size + 1) 42 (w.heap.size + 1) 1 1 [sclNil] 0 _ (y : Scl) rfl rfl rfl (by kernel_rfl) rfl R3q (by simp) ?_; intro wz hV4 hg4
    refine hK.out _ _ (by exact ⟨sclC_cells (V2.kept hg4 (Or.inr (ne_blk (by omega)))), sclC_cells (Y2.kept hg4 (Or.inr (ne_blk (by omega))))⟩) (fun hHeld => ?_)
    clear hK K
    go_simp
    refine wpAnyH_take (i := 9) (v := _) rfl (by kernel_rfl) (by kernel_rfl) (by kernel_rfl) (fun _ _ _ h => h) (Or.inl ⟨by rfl, (by intro w hSw; (try dsimp only at hSw); go_simp; try with_reducible rfl)⟩) (by assumption) ?_
    go_simp
    refine wpAnyH_take (i := 10) (v := _) rfl (by kernel_rfl) (by kernel_rfl) (by kernel_rfl) (fun _ _ _ h => h) (Or.inl ⟨by rfl, (by intro w hSw; (try dsimp only at hSw); go_simp; try with_reducible rfl)⟩) (by assumption) ?_
    go_simp
    refine wpAnyH_done (by kernel_rfl) ?_ _
    have hV2z := hV2.kept hg4 (Or.inr (ne_blk (by omega)))
    obtain ⟨q0, q1, q2, q3⟩ := scl1_cells hV2z
    obtain ⟨p0, p1, p2, p3⟩ := scl1_cells hV4
    go_wp2_with fail
    refine bodyPost_ret (v := .tuple #[.agg #[.string x.name, .int .i64 x.base, .int .i64 x.num, .int .i64 x.den], .agg #[.string y.name, .int .i64 y.base, .int .i64 y.num, .int .i64 y.den], .int .i64 h, .int .i64 (v)]) (by simp [results, Try.results22, go_sem, q0, q1, q2, q3, p0, p1, p2, p3]) rfl ?_
    have hF := below_mark (below_mark (drew_up hb0 G (by have := hs0.out; omega)) R2p (Nat.le_refl _) hg2) R3q (by omega) hg4
    exact ⟨x, y, h, v, rfl, hxs, hys, hF⟩
end Go.Proofs.Ytlaclknhenccdaa
