/- Chapter 5, gradings: the draw of a step to be found. (Printed by wip/genGr11.py.) -/
import Derived.Test.YtaeinllbjkjhlaaGreatDoorGr10
namespace Go.Proofs.YtaeinllbjkjhlaaGreatDoor
open Go.RowKit

set_option maxRecDepth 100000 in
set_option maxHeartbeats 3200000 in
theorem drawStepsFor_c (ca : Option Addr) (L : List UInt8) (cc : Nat) (w : World) (hx : At w ca L) (hl : L.length ≤ 9223372036854775807) :
    Calls Tryz.prog 25 #[.slice ca L.length cc] w fun e w' => ∃ (x : Last) (g : Grade) (s : Int), e = .returned (.tuple #[.agg #[.string x.Name, .int .i64 x.Length, .int .i64 x.Ball, .int .i64 x.Instep, .int .i64 x.Heel, .int .i64 x.Pitch], .agg #[.int .i64 g.Length, .int .i64 g.Ball, .int .i64 g.Instep, .int .i64 g.Heel, .int .i64 g.Pitch], .int .i64 s]) ∧ x.Name.size ≤ 100 ∧ Below w.heap.size w w' := by
  obtain ⟨wa, hwa⟩ : ∃ wa, wa = w.alloc (.cells #[.string { data := #[] }, .int .i64 0, .int .i64 0, .int .i64 0, .int .i64 0, .int .i64 0] 30) := ⟨_, rfl⟩
  obtain ⟨w0, hw0⟩ : ∃ w0, w0 = wa.alloc (.cells #[.int .i64 0, .int .i64 0, .int .i64 0, .int .i64 0, .int .i64 0] 42) := ⟨_, rfl⟩
  have hsa : wa.heap.size = w.heap.size + 1 := by rw [hwa]; exact World.size_alloc _ _
  have hs0 : w0.heap.size = wa.heap.size + 1 := by rw [hw0]; exact World.size_alloc _ _
  have R2 : Own w.heap.size wa 30 (.slice (some ⟨w.heap.size, 0, none⟩) 1 1) [lastZ] := by rw [hwa]; exact own_last1 w 30 lastZ
  have hba : Below wa.heap.size wa w0 := by rw [hw0]; exact newB wa _
  replace R2 := R2.later hba
  have R4 : Own wa.heap.size w0 42 (.slice (some ⟨wa.heap.size, 0, none⟩) 1 1) [gradeZ] := by rw [hw0]; exact own_grade1 wa 42 gradeZ
  rw [hsa] at R4 hs0
  have hb0 : Below w.heap.size w w0 := upw (by rw [hwa]; exact newB w _) hba
  replace hw0 := Lib.hid (hw0.trans (by rw [hwa]))
  clear hwa hba hsa wa
  replace hx := hx.below hb0
  go_enter Tryz.func25, Tryz.ntmps25
  go_wp2_with (rw [← hw0.out])
  refine (l00From_c ca L cc w0 hx hl).mono ?_
  rintro e w1 ⟨rfl, hS1, hb1⟩
  replace R2 := Lib.hid (R2.later hb1)
  replace R4 := Lib.hid (R4.later hb1)
  have D := Lib.hid (Dr.start (hS1.less (M' := 56) (by omega)))
  replace hb0 := upw hb0 hb1
  have hw1s : w.heap.size + 2 ≤ w1.heap.size := by have := hb1.size; omega
  clear hS1 hb1 hx hl hw0
  replace hs0 := Lib.hid hs0
  go_wp2_with fail
  refine (l05Any_c w0.heap.size 30 _ (D.out.src.less (by omega))).mono ?_
  rintro e w2 ⟨x, rfl, hxn, hS2, hg2⟩
  replace D := Lib.hid (D.out.drew hS2 hg2)
  clear hS2 hg2
  have hqA : w1.heap.size ≤ w2.heap.size := D.out.up.size
  obtain ⟨w3, hw3⟩ : ∃ w3, w3 = w2.alloc (.cells #[.string x.Name, .int .i64 x.Length, .int .i64 x.Ball, .int .i64 x.Instep, .int .i64 x.Heel, .int .i64 x.Pitch] 30) := ⟨_, rfl⟩
  replace D := Lib.hid (D.out.add (w' := w3) (by rw [hw3]; exact newB w2 _) (by rw [hw3]; exact own_lastC w2 30 x))
  replace hw3 := Lib.hid hw3
  go_wp2_with (rw [← hw3.out])
  clear hw3
  refine (l05Bent_c w0.heap.size 16 _ (D.out.src.less (by omega))).mono ?_
  rintro e w4 ⟨g, rfl, hS2, hg2⟩
  replace D := Lib.hid (D.out.drew hS2 hg2)
  clear hS2 hg2
  have hqB : w1.heap.size ≤ w4.heap.size := D.out.up.size
  obtain ⟨w5, hw5⟩ : ∃ w5, w5 = w4.alloc (.cells #[.int .i64 g.Length, .int .i64 g.Ball, .int .i64 g.Instep, .int .i64 g.Heel, .int .i64 g.Pitch] 42) := ⟨_, rfl⟩
  replace D := Lib.hid (D.out.add (w' := w5) (by rw [hw5]; exact newB w4 _) (by rw [hw5]; exact own_gradeC w4 42 g))
  replace hw5 := Lib.hid hw5
  go_wp2_with (rw [← hw5.out])
  clear hw5
  replace hqA := Lib.hid hqA
  replace hqB := Lib.hid hqB
  refine (one_c w0.heap.size 14 8 _ (D.out.src.less (by omega)) (by omega) (by omega)).mono ?_
  rintro e w7 ⟨b, rfl, hS2, hg2⟩
  replace D := Lib.hid (D.out.drew hS2 hg2)
  clear hS2 hg2
  cases b
  · have x0 : (w7.cell? ⟨w2.heap.size, 0, none⟩ = some (.string x.Name) ∧ w7.cell? ⟨w2.heap.size, 1, none⟩ = some (.int .i64 x.Length) ∧ w7.cell? ⟨w2.heap.size, 2, none⟩ = some (.int .i64 x.Ball) ∧ w7.cell? ⟨w2.heap.size, 3, none⟩ = some (.int .i64 x.Instep) ∧ w7.cell? ⟨w2.heap.size, 4, none⟩ = some (.int .i64 x.Heel) ∧ w7.cell? ⟨w2.heap.size, 5, none⟩ = some (.int .i64 x.Pitch)) ∧ (w7.cell? ⟨w4.heap.size, 0, none⟩ = some (.int .i64 g.Length) ∧ w7.cell? ⟨w4.heap.size, 1, none⟩ = some (.int .i64 g.Ball) ∧ w7.cell? ⟨w4.heap.size, 2, none⟩ = some (.int .i64 g.Instep) ∧ w7.cell? ⟨w4.heap.size, 3, none⟩ = some (.int .i64 g.Heel) ∧ w7.cell? ⟨w4.heap.size, 4, none⟩ = some (.int .i64 g.Pitch)) := ⟨lastC_cells (D.out.get 1 rfl : Own _ _ _ _ (lastC x)), gradeC_cells (D.out.get 0 rfl : Own _ _ _ _ (gradeC g))⟩
    go_wp2_with fail
    refine wp_region_held_drew (S := (fun w' => (w'.cell? ⟨w2.heap.size, 0, none⟩ = some (.string x.Name) ∧ w'.cell? ⟨w2.heap.size, 1, none⟩ = some (.int .i64 x.Length) ∧ w'.cell? ⟨w2.heap.size, 2, none⟩ = some (.int .i64 x.Ball) ∧ w'.cell? ⟨w2.heap.size, 3, none⟩ = some (.int .i64 x.Instep) ∧ w'.cell? ⟨w2.heap.size, 4, none⟩ = some (.int .i64 x.Heel) ∧ w'.cell? ⟨w2.heap.size, 5, none⟩ = some (.int .i64 x.Pitch)) ∧ (w'.cell? ⟨w4.heap.size, 0, none⟩ = some (.int .i64 g.Length) ∧ w'.cell? ⟨w4.heap.size, 1, none⟩ = some (.int .i64 g.Ball) ∧ w'.cell? ⟨w4.heap.size, 2, none⟩ = some (.int .i64 g.Instep) ∧ w'.cell? ⟨w4.heap.size, 3, none⟩ = some (.int .i64 g.Heel) ∧ w'.cell? ⟨w4.heap.size, 4, none⟩ = some (.int .i64 g.Pitch)))) (by kernel_rfl) x0 (fun hHeld => ?_)
    obtain ⟨wo, hwo⟩ : ∃ wo, wo = w7.drew := ⟨_, rfl⟩
    rw [← hwo] at hHeld ⊢
    have hbo : Below w7.heap.size w7 wo := by rw [hwo]; exact (Below.refl _ _).drew
    replace D := Lib.hid (D.out.later hbo)
    clear hwo x0 hbo
    refine wpAnyH_take (i := 0) (v := _) rfl (by kernel_rfl) (by kernel_rfl) (by kernel_rfl) (fun _ _ _ h => h) (Or.inl ⟨by rfl, (by intro w hSw; (try dsimp only at hSw); go_simp; try with_reducible rfl)⟩) (by assumption) ?_
    go_simp
    refine wpAnyH_take (i := 1) (v := _) rfl (by kernel_rfl) (by kernel_rfl) (by kernel_rfl) (fun _ _ _ h => h) (Or.inl ⟨by rfl, (by intro w hSw; (try dsimp only at hSw); go_simp; try with_reducible rfl)⟩) (by assumption) ?_
    go_simp
    refine wpAnyH_take (i := 2) (v := _) rfl (by kernel_rfl) (by kernel_rfl) (by kernel_rfl) (fun _ _ _ h => h) (Or.inl ⟨by rfl, (by intro w hSw; (try dsimp only at hSw); go_simp; try with_reducible rfl)⟩) (by assumption) ?_
    go_simp
    refine wpAnyH_ready (rs := [3]) (by kernel_rfl) (by simp) ?_
    refine AllReadyH.cons rfl (fun K hK => ?_) AllReadyH.nil
    go_simp
    (refine (pick_c w0.heap.size 0 150 wo (D.out.src.less (by omega)) (by omega) (by omega)).mono ?_; rintro e wp ⟨v, rfl, v0, v1, hS7, hg7⟩; replace D := Lib.hid (D.out.drew hS7 hg7); clear hS7 hg7; have e1 : IntKind.i64.wrap (10 * v) = 10 * v := IntWalk.i64_in _ (by omega); have e2 : IntKind.i64.wrap (2000 + 10 * v) = 2000 + 10 * v := IntWalk.i64_in _ (by omega))
    refine hK.out _ _ (⟨lastC_cells (D.out.get 1 rfl), gradeC_cells (D.out.get 0 rfl)⟩) (fun hHeld => ?_)
    clear hK K
    go_simp
    refine wpAnyH_take (i := 4) (v := _) rfl (by kernel_rfl) (by kernel_rfl) (by kernel_rfl) (fun _ _ _ h => h) (Or.inl ⟨by rfl, (by intro w hSw; (try dsimp only at hSw); go_simp; try with_reducible rfl)⟩) (by assumption) ?_
    go_simp
    refine wpAnyH_take (i := 5) (v := _) rfl (by kernel_rfl) (by kernel_rfl) (by kernel_rfl) (fun _ _ _ h => h) (Or.inl ⟨by rfl, (by intro w hSw; (try dsimp only at hSw); go_simp; try with_reducible rfl)⟩) (by assumption) ?_
    go_simp
    have G := D.out.up
    have V1 : Own _ _ _ _ (lastC x) := D.out.get 1 rfl
    have Y1 : Own _ _ _ _ (gradeC g) := D.out.get 0 rfl
    have v1 := V1.lt w2.heap.size rfl
    have y1 := Y1.lt w4.heap.size rfl
    have R2p := R2.out.kept G (Or.inr (ne_blk (by have := hs0.out; omega)))
    have R4p := R4.out.kept G (Or.inr (ne_blk (by have := hs0.out; omega)))
    have hnA : w1.heap.size ≤ w2.heap.size := by have := hqA.out; omega
    have hnB : w1.heap.size ≤ w4.heap.size := by have := hqB.out; omega
    refine wpAnyH_ready (rs := [6]) (by kernel_rfl) (by simp) ?_
    refine AllReadyH.cons rfl (fun K hK => ?_) AllReadyH.nil
    refine cast (if_pos (by rfl)).symm ?_; refine wp_store_own 30 (.tmp 2) (.tmp 21) rfl w.heap.size 30 w.heap.size 1 1 [lastZ] 0 _ (x : Last) rfl rfl rfl (by kernel_rfl) rfl R2p (by simp) ?_; intro wq hV2 hg2
    have V2 := V1.kept hg2 (Or.inr (ne_blk (by omega)))
    have Y2 := Y1.kept hg2 (Or.inr (ne_blk (by omega)))
    have R4q := R4p.kept hg2 (Or.inr (ne_blk (by omega)))
    refine hK.out _ _ (by exact ⟨lastC_cells V2, gradeC_cells Y2⟩) (fun hHeld => ?_)
    clear hK K
    go_simp
    refine wpAnyH_ready (rs := [7]) (by kernel_rfl) (by simp) ?_
    refine AllReadyH.cons rfl (fun K hK => ?_) AllReadyH.nil
    refine cast (if_pos (by rfl)).symm ?_; refine wp_store_own 42 (.tmp 3) (.tmp 22) rfl (w.heap.size + 1) 42 (w.heap.size + 1) 1 1 [gradeZ] 0 _ (g : Grade) rfl rfl rfl (by kernel_rfl) rfl R4q (by simp) ?_; intro wz hV4 hg4
    refine hK.out _ _ (by exact ⟨lastC_cells (V2.kept hg4 (Or.inr (ne_blk (by omega)))), gradeC_cells (Y2.kept hg4 (Or.inr (ne_blk (by omega))))⟩) (fun hHeld => ?_)
    clear hK K
    go_simp
    refine wpAnyH_take (i := 8) (v := _) rfl (by kernel_rfl) (by kernel_rfl) (by kernel_rfl) (fun _ _ _ h => h) (Or.inl ⟨by rfl, (by intro w hSw; (try dsimp only at hSw); go_simp; try with_reducible rfl)⟩) (by assumption) ?_
    go_simp
    refine wpAnyH_done (by kernel_rfl) ?_ _
    have hV2z := hV2.kept hg4 (Or.inr (ne_blk (by omega)))
    have qc := last1_cells hV2z
    have pc := grade1_cells hV4
    go_wp2_with fail
    refine bodyPost_ret (v := .tuple #[.agg #[.string x.Name, .int .i64 x.Length, .int .i64 x.Ball, .int .i64 x.Instep, .int .i64 x.Heel, .int .i64 x.Pitch], .agg #[.int .i64 g.Length, .int .i64 g.Ball, .int .i64 g.Instep, .int .i64 g.Heel, .int .i64 g.Pitch], .int .i64 (2000 + 10 * v)]) (by simp [results, Tryz.results25, go_sem, qc, pc]) rfl ?_
    have hF := below_mark (below_mark (drew_up hb0 G (by have := hs0.out; omega)) R2p (Nat.le_refl _) hg2) R4q (by omega) hg4
    exact ⟨x, g, 2000 + 10 * v, rfl, hxn, hF⟩
  · have x0 : (w7.cell? ⟨w2.heap.size, 0, none⟩ = some (.string x.Name) ∧ w7.cell? ⟨w2.heap.size, 1, none⟩ = some (.int .i64 x.Length) ∧ w7.cell? ⟨w2.heap.size, 2, none⟩ = some (.int .i64 x.Ball) ∧ w7.cell? ⟨w2.heap.size, 3, none⟩ = some (.int .i64 x.Instep) ∧ w7.cell? ⟨w2.heap.size, 4, none⟩ = some (.int .i64 x.Heel) ∧ w7.cell? ⟨w2.heap.size, 5, none⟩ = some (.int .i64 x.Pitch)) ∧ (w7.cell? ⟨w4.heap.size, 0, none⟩ = some (.int .i64 g.Length) ∧ w7.cell? ⟨w4.heap.size, 1, none⟩ = some (.int .i64 g.Ball) ∧ w7.cell? ⟨w4.heap.size, 2, none⟩ = some (.int .i64 g.Instep) ∧ w7.cell? ⟨w4.heap.size, 3, none⟩ = some (.int .i64 g.Heel) ∧ w7.cell? ⟨w4.heap.size, 4, none⟩ = some (.int .i64 g.Pitch)) := ⟨lastC_cells (D.out.get 1 rfl : Own _ _ _ _ (lastC x)), gradeC_cells (D.out.get 0 rfl : Own _ _ _ _ (gradeC g))⟩
    go_wp2_with fail
    refine wp_region_held_drew (S := (fun w' => (w'.cell? ⟨w2.heap.size, 0, none⟩ = some (.string x.Name) ∧ w'.cell? ⟨w2.heap.size, 1, none⟩ = some (.int .i64 x.Length) ∧ w'.cell? ⟨w2.heap.size, 2, none⟩ = some (.int .i64 x.Ball) ∧ w'.cell? ⟨w2.heap.size, 3, none⟩ = some (.int .i64 x.Instep) ∧ w'.cell? ⟨w2.heap.size, 4, none⟩ = some (.int .i64 x.Heel) ∧ w'.cell? ⟨w2.heap.size, 5, none⟩ = some (.int .i64 x.Pitch)) ∧ (w'.cell? ⟨w4.heap.size, 0, none⟩ = some (.int .i64 g.Length) ∧ w'.cell? ⟨w4.heap.size, 1, none⟩ = some (.int .i64 g.Ball) ∧ w'.cell? ⟨w4.heap.size, 2, none⟩ = some (.int .i64 g.Instep) ∧ w'.cell? ⟨w4.heap.size, 3, none⟩ = some (.int .i64 g.Heel) ∧ w'.cell? ⟨w4.heap.size, 4, none⟩ = some (.int .i64 g.Pitch)))) (by kernel_rfl) x0 (fun hHeld => ?_)
    obtain ⟨wo, hwo⟩ : ∃ wo, wo = w7.drew := ⟨_, rfl⟩
    rw [← hwo] at hHeld ⊢
    have hbo : Below w7.heap.size w7 wo := by rw [hwo]; exact (Below.refl _ _).drew
    replace D := Lib.hid (D.out.later hbo)
    clear hwo x0 hbo
    refine wpAnyH_take (i := 0) (v := _) rfl (by kernel_rfl) (by kernel_rfl) (by kernel_rfl) (fun _ _ _ h => h) (Or.inl ⟨by rfl, (by intro w hSw; (try dsimp only at hSw); go_simp; try with_reducible rfl)⟩) (by assumption) ?_
    go_simp
    refine wpAnyH_take (i := 1) (v := _) rfl (by kernel_rfl) (by kernel_rfl) (by kernel_rfl) (fun _ _ _ h => h) (Or.inl ⟨by rfl, (by intro w hSw; (try dsimp only at hSw); go_simp; try with_reducible rfl)⟩) (by assumption) ?_
    go_simp
    refine wpAnyH_take (i := 2) (v := _) rfl (by kernel_rfl) (by kernel_rfl) (by kernel_rfl) (fun _ _ _ h => h) (Or.inl ⟨by rfl, (by intro w hSw; (try dsimp only at hSw); go_simp; try with_reducible rfl)⟩) (by assumption) ?_
    go_simp
    refine wpAnyH_ready (rs := [3]) (by kernel_rfl) (by simp) ?_
    refine AllReadyH.cons rfl (fun K hK => ?_) AllReadyH.nil
    go_simp
    (obtain ⟨wt, hwt⟩ : ∃ wt, wt = wo.alloc (.cells #[.int .i64 499, .int .i64 500, .int .i64 5000, .int .i64 5001] 2) := ⟨_, rfl⟩; rw [← hwt]; have hct : Below wo.heap.size wo wt := (by rw [hwt]; exact newB _ _); have hA : At wt (some ⟨wo.heap.size, 0, none⟩) ([499, 500, 5000, 5001] : List Int) := (by rw [hwt]; exact at_lits wo 2 [499, 500, 5000, 5001]); have hoff := off_new (w := wo) D.out.src.lt; replace D := Lib.hid (D.out.later hct); clear hwt hct)
    refine hK.out _ _ (⟨lastC_cells (D.out.get 1 rfl), gradeC_cells (D.out.get 0 rfl)⟩) (fun hHeld => ?_)
    clear hK K
    go_simp
    refine wpAnyH_ready (rs := [4]) (by kernel_rfl) (by simp) ?_
    refine AllReadyH.cons rfl (fun K hK => ?_) AllReadyH.nil
    go_simp
    (refine (among_c w0.heap.size 0 _ ([499, 500, 5000, 5001] : List Int) _ wt (D.out.src.less (by omega)) hA hoff (by simp) (by simp)).mono ?_; rintro e wp ⟨v, rfl, hv, hS7, hg7⟩; replace D := Lib.hid (D.out.drew hS7 hg7); clear hS7 hg7 hA hoff hv)
    refine hK.out _ _ (⟨lastC_cells (D.out.get 1 rfl), gradeC_cells (D.out.get 0 rfl)⟩) (fun hHeld => ?_)
    clear hK K
    go_simp
    have G := D.out.up
    have V1 : Own _ _ _ _ (lastC x) := D.out.get 1 rfl
    have Y1 : Own _ _ _ _ (gradeC g) := D.out.get 0 rfl
    have v1 := V1.lt w2.heap.size rfl
    have y1 := Y1.lt w4.heap.size rfl
    have R2p := R2.out.kept G (Or.inr (ne_blk (by have := hs0.out; omega)))
    have R4p := R4.out.kept G (Or.inr (ne_blk (by have := hs0.out; omega)))
    have hnA : w1.heap.size ≤ w2.heap.size := by have := hqA.out; omega
    have hnB : w1.heap.size ≤ w4.heap.size := by have := hqB.out; omega
    refine wpAnyH_ready (rs := [5]) (by kernel_rfl) (by simp) ?_
    refine AllReadyH.cons rfl (fun K hK => ?_) AllReadyH.nil
    refine cast (if_pos (by rfl)).symm ?_; refine wp_store_own 30 (.tmp 2) (.tmp 16) rfl w.heap.size 30 w.heap.size 1 1 [lastZ] 0 _ (x : Last) rfl rfl rfl (by kernel_rfl) rfl R2p (by simp) ?_; intro wq hV2 hg2
    have V2 := V1.kept hg2 (Or.inr (ne_blk (by omega)))
    have Y2 := Y1.kept hg2 (Or.inr (ne_blk (by omega)))
    have R4q := R4p.kept hg2 (Or.inr (ne_blk (by omega)))
    refine hK.out _ _ (by exact ⟨lastC_cells V2, gradeC_cells Y2⟩) (fun hHeld => ?_)
    clear hK K
    go_simp
    refine wpAnyH_ready (rs := [6]) (by kernel_rfl) (by simp) ?_
    refine AllReadyH.cons rfl (fun K hK => ?_) AllReadyH.nil
    refine cast (if_pos (by rfl)).symm ?_; refine wp_store_own 42 (.tmp 3) (.tmp 17) rfl (w.heap.size + 1) 42 (w.heap.size + 1) 1 1 [gradeZ] 0 _ (g : Grade) rfl rfl rfl (by kernel_rfl) rfl R4q (by simp) ?_; intro wz hV4 hg4
    refine hK.out _ _ (by exact ⟨lastC_cells (V2.kept hg4 (Or.inr (ne_blk (by omega)))), gradeC_cells (Y2.kept hg4 (Or.inr (ne_blk (by omega))))⟩) (fun hHeld => ?_)
    clear hK K
    go_simp
    refine wpAnyH_take (i := 7) (v := _) rfl (by kernel_rfl) (by kernel_rfl) (by kernel_rfl) (fun _ _ _ h => h) (Or.inl ⟨by rfl, (by intro w hSw; (try dsimp only at hSw); go_simp; try with_reducible rfl)⟩) (by assumption) ?_
    go_simp
    refine wpAnyH_done (by kernel_rfl) ?_ _
    have hV2z := hV2.kept hg4 (Or.inr (ne_blk (by omega)))
    have qc := last1_cells hV2z
    have pc := grade1_cells hV4
    go_wp2_with fail
    refine bodyPost_ret (v := .tuple #[.agg #[.string x.Name, .int .i64 x.Length, .int .i64 x.Ball, .int .i64 x.Instep, .int .i64 x.Heel, .int .i64 x.Pitch], .agg #[.int .i64 g.Length, .int .i64 g.Ball, .int .i64 g.Instep, .int .i64 g.Heel, .int .i64 g.Pitch], .int .i64 v]) (by simp [results, Tryz.results25, go_sem, qc, pc]) rfl ?_
    have hF := below_mark (below_mark (drew_up hb0 G (by have := hs0.out; omega)) R2p (Nat.le_refl _) hg2) R4q (by omega) hg4
    exact ⟨x, g, v, rfl, hxn, hF⟩
end Go.Proofs.YtaeinllbjkjhlaaGreatDoor
