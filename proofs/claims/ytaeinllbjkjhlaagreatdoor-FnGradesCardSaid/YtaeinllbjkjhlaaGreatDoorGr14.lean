/- Chapter 5, gradings: the draw of two lasts and a step between them. (Printed by wip/genGr11.py.) -/
import Derived.Test.YtaeinllbjkjhlaaGreatDoorGr10
namespace Go.Proofs.YtaeinllbjkjhlaaGreatDoor
open Go.RowKit

theorem glRes_name (x : Last) (g : Grade) (s : Int) (h : x.Name.size ≤ 100) : (glRes x g s).Name.size ≤ 100 := by
  unfold glRes
  split
  · exact h
  · show (lastZ).Name.size ≤ 100
    decide
set_option maxRecDepth 100000 in
set_option maxHeartbeats 3200000 in
theorem drawGradeBetween_c (ca : Option Addr) (L : List UInt8) (cc : Nat) (w : World) (hx : At w ca L) (hl : L.length ≤ 9223372036854775807) :
    Calls Tryz.prog 22 #[.slice ca L.length cc] w fun e w' => ∃ (x y : Last) (s : Int), e = .returned (.tuple #[.agg #[.string x.Name, .int .i64 x.Length, .int .i64 x.Ball, .int .i64 x.Instep, .int .i64 x.Heel, .int .i64 x.Pitch], .agg #[.string y.Name, .int .i64 y.Length, .int .i64 y.Ball, .int .i64 y.Instep, .int .i64 y.Heel, .int .i64 y.Pitch], .int .i64 s]) ∧ x.Name.size ≤ 100 ∧ y.Name.size ≤ 100 ∧ Below w.heap.size w w' := by
  obtain ⟨wa, hwa⟩ : ∃ wa, wa = w.alloc (.cells #[.string { data := #[] }, .int .i64 0, .int .i64 0, .int .i64 0, .int .i64 0, .int .i64 0] 30) := ⟨_, rfl⟩
  obtain ⟨w0, hw0⟩ : ∃ w0, w0 = wa.alloc (.cells #[.string { data := #[] }, .int .i64 0, .int .i64 0, .int .i64 0, .int .i64 0, .int .i64 0] 30) := ⟨_, rfl⟩
  have hsa : wa.heap.size = w.heap.size + 1 := by rw [hwa]; exact World.size_alloc _ _
  have hs0 : w0.heap.size = wa.heap.size + 1 := by rw [hw0]; exact World.size_alloc _ _
  have R2 : Own w.heap.size wa 30 (.slice (some ⟨w.heap.size, 0, none⟩) 1 1) [lastZ] := by rw [hwa]; exact own_last1 w 30 lastZ
  have hba : Below wa.heap.size wa w0 := by rw [hw0]; exact newB wa _
  replace R2 := R2.later hba
  have R4 : Own wa.heap.size w0 30 (.slice (some ⟨wa.heap.size, 0, none⟩) 1 1) [lastZ] := by rw [hw0]; exact own_last1 wa 30 lastZ
  rw [hsa] at R4 hs0
  have hb0 : Below w.heap.size w w0 := upw (by rw [hwa]; exact newB w _) hba
  replace hw0 := Lib.hid (hw0.trans (by rw [hwa]))
  clear hwa hba hsa wa
  replace hx := hx.below hb0
  go_enter Tryz.func22, Tryz.ntmps22
  go_wp2_with (rw [← hw0.out])
  refine (l00From_c ca L cc w0 hx hl).mono ?_
  rintro e w1 ⟨rfl, hS1, hb1⟩
  replace R2 := Lib.hid (R2.later hb1)
  replace R4 := Lib.hid (R4.later hb1)
  have D := Lib.hid (Dr.start (hS1.less (M' := 68) (by omega)))
  replace hb0 := upw hb0 hb1
  have hw1s : w.heap.size + 2 ≤ w1.heap.size := by have := hb1.size; omega
  clear hS1 hb1 hx hl hw0
  replace hs0 := Lib.hid hs0
  go_wp2_with fail
  refine (l05Any_c w0.heap.size 42 _ (D.out.src.less (by omega))).mono ?_
  rintro e w2 ⟨x, rfl, hxn, hS2, hg2⟩
  replace D := Lib.hid (D.out.drew hS2 hg2)
  clear hS2 hg2
  have hqA : w1.heap.size ≤ w2.heap.size := D.out.up.size
  replace hqA := Lib.hid hqA
  obtain ⟨w3, hw3⟩ : ∃ w3, w3 = w2.alloc (.cells #[.string x.Name, .int .i64 x.Length, .int .i64 x.Ball, .int .i64 x.Instep, .int .i64 x.Heel, .int .i64 x.Pitch] 30) := ⟨_, rfl⟩
  replace D := Lib.hid (D.out.add (w' := w3) (by rw [hw3]; exact newB w2 _) (by rw [hw3]; exact own_lastC w2 30 x))
  replace hw3 := Lib.hid hw3
  go_wp2_with (rw [← hw3.out])
  clear hw3
  refine (l05DrawSteps_c w0.heap.size 38 _ (D.out.src.less (by omega))).mono ?_
  rintro e w6 ⟨s, rfl, hs, hS2, hg2⟩
  replace D := Lib.hid (D.out.drew hS2 hg2)
  clear hS2 hg2
  clear hs
  go_wp2_with fail
  refine (l05Draw_c w0.heap.size 28 _ (D.out.src.less (by omega))).mono ?_
  rintro e w4 ⟨g, rfl, hgo, hS2, hg2⟩
  replace D := Lib.hid (D.out.drew hS2 hg2)
  clear hS2 hg2
  clear hgo
  obtain ⟨w5, hw5⟩ : ∃ w5, w5 = w4.alloc (.cells #[.int .i64 g.Length, .int .i64 g.Ball, .int .i64 g.Instep, .int .i64 g.Heel, .int .i64 g.Pitch] 42) := ⟨_, rfl⟩
  replace D := Lib.hid (D.out.add (w' := w5) (by rw [hw5]; exact newB w4 _) (by rw [hw5]; exact own_gradeC w4 42 g))
  replace hw5 := Lib.hid hw5
  go_wp2_with (rw [← hw5.out])
  clear hw5
  have x0 : (w5.cell? ⟨w2.heap.size, 0, none⟩ = some (.string x.Name) ∧ w5.cell? ⟨w2.heap.size, 1, none⟩ = some (.int .i64 x.Length) ∧ w5.cell? ⟨w2.heap.size, 2, none⟩ = some (.int .i64 x.Ball) ∧ w5.cell? ⟨w2.heap.size, 3, none⟩ = some (.int .i64 x.Instep) ∧ w5.cell? ⟨w2.heap.size, 4, none⟩ = some (.int .i64 x.Heel) ∧ w5.cell? ⟨w2.heap.size, 5, none⟩ = some (.int .i64 x.Pitch)) ∧ (w5.cell? ⟨w4.heap.size, 0, none⟩ = some (.int .i64 g.Length) ∧ w5.cell? ⟨w4.heap.size, 1, none⟩ = some (.int .i64 g.Ball) ∧ w5.cell? ⟨w4.heap.size, 2, none⟩ = some (.int .i64 g.Instep) ∧ w5.cell? ⟨w4.heap.size, 3, none⟩ = some (.int .i64 g.Heel) ∧ w5.cell? ⟨w4.heap.size, 4, none⟩ = some (.int .i64 g.Pitch)) := ⟨lastC_cells (D.out.get 1 rfl : Own _ _ _ _ (lastC x)), gradeC_cells (D.out.get 0 rfl : Own _ _ _ _ (gradeC g))⟩
  refine wp_region_held_drew (S := (fun w' => (w'.cell? ⟨w2.heap.size, 0, none⟩ = some (.string x.Name) ∧ w'.cell? ⟨w2.heap.size, 1, none⟩ = some (.int .i64 x.Length) ∧ w'.cell? ⟨w2.heap.size, 2, none⟩ = some (.int .i64 x.Ball) ∧ w'.cell? ⟨w2.heap.size, 3, none⟩ = some (.int .i64 x.Instep) ∧ w'.cell? ⟨w2.heap.size, 4, none⟩ = some (.int .i64 x.Heel) ∧ w'.cell? ⟨w2.heap.size, 5, none⟩ = some (.int .i64 x.Pitch)) ∧ (w'.cell? ⟨w4.heap.size, 0, none⟩ = some (.int .i64 g.Length) ∧ w'.cell? ⟨w4.heap.size, 1, none⟩ = some (.int .i64 g.Ball) ∧ w'.cell? ⟨w4.heap.size, 2, none⟩ = some (.int .i64 g.Instep) ∧ w'.cell? ⟨w4.heap.size, 3, none⟩ = some (.int .i64 g.Heel) ∧ w'.cell? ⟨w4.heap.size, 4, none⟩ = some (.int .i64 g.Pitch)))) (by kernel_rfl) x0 (fun hHeld => ?_)
  obtain ⟨wo, hwo⟩ : ∃ wo, wo = w5.drew := ⟨_, rfl⟩
  rw [← hwo] at hHeld ⊢
  have hbo : Below w5.heap.size w5 wo := by rw [hwo]; exact (Below.refl _ _).drew
  replace D := Lib.hid (D.out.later hbo)
  clear hwo x0 hbo
  refine wpAnyH_take (i := 0) (v := _) rfl (by kernel_rfl) (by kernel_rfl) (by kernel_rfl) (fun _ _ _ h => h) (Or.inl ⟨by rfl, (by intro w hSw; (try dsimp only at hSw); go_simp; try with_reducible rfl)⟩) (by assumption) ?_
  go_simp
  refine wpAnyH_take (i := 1) (v := _) rfl (by kernel_rfl) (by kernel_rfl) (by kernel_rfl) (fun _ _ _ h => h) (Or.inl ⟨by rfl, (by intro w hSw; (try dsimp only at hSw); go_simp; try with_reducible rfl)⟩) (by assumption) ?_
  go_simp
  refine wpAnyH_take (i := 2) (v := _) rfl (by kernel_rfl) (by kernel_rfl) (by kernel_rfl) (fun _ _ _ h => h) (Or.inl ⟨by rfl, (by intro w hSw; (try dsimp only at hSw); go_simp; try with_reducible rfl)⟩) (by assumption) ?_
  go_simp
  refine wpAnyH_ready (rs := [3, 9]) (by kernel_rfl) (by simp) ?_
  refine AllReadyH.cons rfl (fun K hK => ?_) (AllReadyH.cons rfl (fun K hK => ?_) AllReadyH.nil)
  · go_simp
    refine (l00Max_c 0 s wo).mono ?_
    rintro e w' ⟨rfl, rfl⟩
    generalize max 0 s = m
    try go_simp
    refine hK.out _ _ (⟨lastC_cells (D.out.get 1 rfl), gradeC_cells (D.out.get 0 rfl)⟩) (fun hHeld => ?_)
    clear hK K
    go_simp
    refine wpAnyH_ready (rs := [4, 9]) (by kernel_rfl) (by simp) ?_
    refine AllReadyH.cons rfl (fun K hK => ?_) (AllReadyH.cons rfl (fun K hK => ?_) AllReadyH.nil)
    · go_simp
      refine (l00Min_c 30 m wo).mono ?_
      rintro e w' ⟨rfl, rfl⟩
      generalize min 30 m = u
      try go_simp
      refine hK.out _ _ (⟨lastC_cells (D.out.get 1 rfl), gradeC_cells (D.out.get 0 rfl)⟩) (fun hHeld => ?_)
      clear hK K
      go_simp
      refine wpAnyH_ready (rs := [5, 9]) (by kernel_rfl) (by simp) ?_
      refine AllReadyH.cons rfl (fun K hK => ?_) (AllReadyH.cons rfl (fun K hK => ?_) AllReadyH.nil)
      · go_simp
        refine (specGradeLast_c x g u wo (Nat.le_trans hxn (by decide))).mono ?_
        rintro e wp ⟨rfl, hb⟩
        replace D := Lib.hid (D.out.later hb)
        clear hb
        have hyn : (glRes x g u).Name.size ≤ 100 := glRes_name x g u hxn
        generalize glRes x g u = y at hyn ⊢
        generalize glCode x g u = c
        try go_simp
        refine hK.out _ _ (⟨lastC_cells (D.out.get 1 rfl), gradeC_cells (D.out.get 0 rfl)⟩) (fun hHeld => ?_)
        clear hK K
        go_simp
        refine wpAnyH_take (i := 6) (v := _) rfl (by kernel_rfl) (by kernel_rfl) (by kernel_rfl) (fun _ _ _ h => h) (Or.inl ⟨by rfl, (by intro w hSw; (try dsimp only at hSw); go_simp; try with_reducible rfl)⟩) (by assumption) ?_
        go_simp
        refine wpAnyH_take (i := 7) (v := _) rfl (by kernel_rfl) (by kernel_rfl) (by kernel_rfl) (fun _ _ _ h => h) (Or.inl ⟨by rfl, (by intro w hSw; (try dsimp only at hSw); go_simp; try with_reducible rfl)⟩) (by assumption) ?_
        go_simp
        refine wpAnyH_take (i := 8) (v := _) rfl (by kernel_rfl) (by kernel_rfl) (by kernel_rfl) (fun _ _ _ h => h) (Or.inl ⟨by rfl, (by intro w hSw; (try dsimp only at hSw); go_simp; try with_reducible rfl)⟩) (by assumption) ?_
        go_simp
        refine wpAnyH_ready (rs := [9]) (by kernel_rfl) (by simp) ?_
        refine AllReadyH.cons rfl (fun K hK => ?_) AllReadyH.nil
        go_simp
        obtain ⟨wt, hwt⟩ : ∃ wt, wt = wp.alloc (.cells #[.string { data := #[] }, .int .i64 0, .int .i64 0, .int .i64 0, .int .i64 0, .int .i64 0] 30) := ⟨_, rfl⟩
        rw [← hwt]
        have hqB : w1.heap.size ≤ wp.heap.size := D.out.up.size
        replace D := Lib.hid (D.out.add (w' := wt) (by rw [hwt]; exact newB wp _) (by rw [hwt]; exact own_last1 wp 30 lastZ))
        replace hwt := Lib.hid hwt
        obtain ⟨bb, hbb⟩ : ∃ b, b = wp.heap.size := ⟨_, rfl⟩
        rw [← hbb] at D hqB ⊢
        clear hbb hwt
        replace hqB := Lib.hid hqB
        refine hK.out _ _ (⟨lastC_cells (D.out.get 2 rfl), gradeC_cells (D.out.get 1 rfl)⟩) (fun hHeld => ?_)
        clear hK K
        go_simp
        refine wpAnyH_ready (rs := [10]) (by kernel_rfl) (by simp) ?_
        refine AllReadyH.cons rfl (fun K hK => ?_) AllReadyH.nil
        refine cast (if_pos (by rfl)).symm ?_; refine wp_store_own 30 (.tmp 9) (.tmp 26) rfl w1.heap.size 30 bb 1 1 [lastZ] 0 _ (y : Last) rfl rfl rfl (by kernel_rfl) rfl (D.out.get 0 rfl) (by simp) ?_; intro wq hRq hgq
        replace D := Lib.hid (D.out.set 0 rfl (hRq : Own _ _ _ _ [y]) hgq (Or.inl rfl))
        clear hRq hgq
        refine hK.out _ _ (⟨lastC_cells (D.out.get 2 rfl), gradeC_cells (D.out.get 1 rfl)⟩) (fun hHeld => ?_)
        clear hK K
        go_simp
        refine wpAnyH_take (i := 11) (v := _) rfl (by kernel_rfl) (by kernel_rfl) (by kernel_rfl) (fun _ _ _ h => h) (Or.inl ⟨by rfl, (by intro w hSw; (try dsimp only at hSw); go_simp; try with_reducible rfl)⟩) (by assumption) ?_
        go_simp
        refine wpAnyH_done (by kernel_rfl) ?_ _
        by_cases hc : c = 0
        · subst hc
          go_wp2_with fail
          refine (one_c w0.heap.size 26 4 _ (D.out.src.less (by omega)) (by omega) (by omega)).mono ?_
          rintro e w7 ⟨b, rfl, hS2, hg2⟩
          replace D := Lib.hid (D.out.drew hS2 hg2)
          clear hS2 hg2
          cases b
          · have x0 : (w7.cell? ⟨w2.heap.size, 0, none⟩ = some (.string x.Name) ∧ w7.cell? ⟨w2.heap.size, 1, none⟩ = some (.int .i64 x.Length) ∧ w7.cell? ⟨w2.heap.size, 2, none⟩ = some (.int .i64 x.Ball) ∧ w7.cell? ⟨w2.heap.size, 3, none⟩ = some (.int .i64 x.Instep) ∧ w7.cell? ⟨w2.heap.size, 4, none⟩ = some (.int .i64 x.Heel) ∧ w7.cell? ⟨w2.heap.size, 5, none⟩ = some (.int .i64 x.Pitch)) ∧ (w7.cell? ⟨bb, 0, none⟩ = some (.string y.Name) ∧ w7.cell? ⟨bb, 1, none⟩ = some (.int .i64 y.Length) ∧ w7.cell? ⟨bb, 2, none⟩ = some (.int .i64 y.Ball) ∧ w7.cell? ⟨bb, 3, none⟩ = some (.int .i64 y.Instep) ∧ w7.cell? ⟨bb, 4, none⟩ = some (.int .i64 y.Heel) ∧ w7.cell? ⟨bb, 5, none⟩ = some (.int .i64 y.Pitch)) := ⟨lastC_cells (D.out.get 2 rfl : Own _ _ _ _ (lastC x)), last1_cells (D.out.get 0 rfl : Own _ _ _ _ [y])⟩
            go_wp2_with fail
            refine wp_region_held_drew (S := (fun w' => (w'.cell? ⟨w2.heap.size, 0, none⟩ = some (.string x.Name) ∧ w'.cell? ⟨w2.heap.size, 1, none⟩ = some (.int .i64 x.Length) ∧ w'.cell? ⟨w2.heap.size, 2, none⟩ = some (.int .i64 x.Ball) ∧ w'.cell? ⟨w2.heap.size, 3, none⟩ = some (.int .i64 x.Instep) ∧ w'.cell? ⟨w2.heap.size, 4, none⟩ = some (.int .i64 x.Heel) ∧ w'.cell? ⟨w2.heap.size, 5, none⟩ = some (.int .i64 x.Pitch)) ∧ (w'.cell? ⟨bb, 0, none⟩ = some (.string y.Name) ∧ w'.cell? ⟨bb, 1, none⟩ = some (.int .i64 y.Length) ∧ w'.cell? ⟨bb, 2, none⟩ = some (.int .i64 y.Ball) ∧ w'.cell? ⟨bb, 3, none⟩ = some (.int .i64 y.Instep) ∧ w'.cell? ⟨bb, 4, none⟩ = some (.int .i64 y.Heel) ∧ w'.cell? ⟨bb, 5, none⟩ = some (.int .i64 y.Pitch)))) (by kernel_rfl) x0 (fun hHeld => ?_)
            obtain ⟨wo, hwo⟩ : ∃ wo, wo = w7.drew := ⟨_, rfl⟩
            rw [← hwo] at hHeld ⊢
            have hbo : Below w7.heap.size w7 wo := by rw [hwo]; exact (Below.refl _ _).drew
            replace D := Lib.hid (D.out.later hbo)
            clear hwo x0 hbo
            refine wpAnyH_take (i := 0) (v := _) rfl (by kernel_rfl) (by kernel_rfl) (by kernel_rfl) (fun _ _ _ h => h) (Or.inl ⟨by rfl, (by intro w hSw; (try dsimp only at hSw); go_simp; try with_reducible rfl)⟩) (by assumption) ?_
            go_simp
            refine wpAnyH_take (i := 1) (v := _) rfl (by kernel_rfl) (by kernel_rfl) (by kernel_rfl) (fun _ _ _ h => h) (Or.inl ⟨by rfl, (by intro w hSw; (try dsimp only at hSw); go_simp; try with_reducible rfl)⟩) (by assumption) ?_
            go_simp
            refine wpAnyH_take (i := 2) (v := _) rfl (by kernel_rfl) (by kernel_rfl) (by kernel_rfl) (fun _ _ _ h => h) (Or.inl ⟨by rfl, (by intro w hSw; (try dsimp only at hSw); go_simp; try with_reducible rfl)⟩) (by assumption) ?_
            go_simp
            have G := D.out.up
            have V1 : Own _ _ _ _ (lastC x) := D.out.get 2 rfl
            have Y1 : Own _ _ _ _ [y] := D.out.get 0 rfl
            have v1 := V1.lt w2.heap.size rfl
            have y1 := Y1.lt bb rfl
            have R2p := R2.out.kept G (Or.inr (ne_blk (by have := hs0.out; omega)))
            have R4p := R4.out.kept G (Or.inr (ne_blk (by have := hs0.out; omega)))
            have hnA : w1.heap.size ≤ w2.heap.size := by have := hqA.out; omega
            have hnB : w1.heap.size ≤ bb := by have := hqB.out; omega
            refine wpAnyH_ready (rs := [3]) (by kernel_rfl) (by simp) ?_
            refine AllReadyH.cons rfl (fun K hK => ?_) AllReadyH.nil
            refine cast (if_pos (by rfl)).symm ?_; refine wp_store_own 30 (.tmp 2) (.tmp 36) rfl w.heap.size 30 w.heap.size 1 1 [lastZ] 0 _ (x : Last) rfl rfl rfl (by kernel_rfl) rfl R2p (by simp) ?_; intro wq hV2 hg2
            have V2 := V1.kept hg2 (Or.inr (ne_blk (by omega)))
            have Y2 := Y1.kept hg2 (Or.inr (ne_blk (by omega)))
            have R4q := R4p.kept hg2 (Or.inr (ne_blk (by omega)))
            refine hK.out _ _ (by exact ⟨lastC_cells V2, last1_cells Y2⟩) (fun hHeld => ?_)
            clear hK K
            go_simp
            refine wpAnyH_ready (rs := [4]) (by kernel_rfl) (by simp) ?_
            refine AllReadyH.cons rfl (fun K hK => ?_) AllReadyH.nil
            refine cast (if_pos (by rfl)).symm ?_; refine wp_store_own 30 (.tmp 3) (.tmp 37) rfl (w.heap.size + 1) 30 (w.heap.size + 1) 1 1 [lastZ] 0 _ (y : Last) rfl rfl rfl (by kernel_rfl) rfl R4q (by simp) ?_; intro wz hV4 hg4
            refine hK.out _ _ (by exact ⟨lastC_cells (V2.kept hg4 (Or.inr (ne_blk (by omega)))), last1_cells (Y2.kept hg4 (Or.inr (ne_blk (by omega))))⟩) (fun hHeld => ?_)
            clear hK K
            go_simp
            refine wpAnyH_take (i := 5) (v := _) rfl (by kernel_rfl) (by kernel_rfl) (by kernel_rfl) (fun _ _ _ h => h) (Or.inl ⟨by rfl, (by intro w hSw; (try dsimp only at hSw); go_simp; try with_reducible rfl)⟩) (by assumption) ?_
            go_simp
            refine wpAnyH_done (by kernel_rfl) ?_ _
            have hV2z := hV2.kept hg4 (Or.inr (ne_blk (by omega)))
            have qc := last1_cells hV2z
            have pc := last1_cells hV4
            go_wp2_with fail
            refine bodyPost_ret (v := .tuple #[.agg #[.string x.Name, .int .i64 x.Length, .int .i64 x.Ball, .int .i64 x.Instep, .int .i64 x.Heel, .int .i64 x.Pitch], .agg #[.string y.Name, .int .i64 y.Length, .int .i64 y.Ball, .int .i64 y.Instep, .int .i64 y.Heel, .int .i64 y.Pitch], .int .i64 s]) (by simp [results, Tryz.results22, go_sem, qc, pc]) rfl ?_
            have hF := below_mark (below_mark (drew_up hb0 G (by have := hs0.out; omega)) R2p (Nat.le_refl _) hg2) R4q (by omega) hg4
            exact ⟨x, y, s, rfl, hxn, hyn, hF⟩
          · go_wp2_with fail
            refine (l05Any_c w0.heap.size 0 _ (D.out.src.less (by omega))).mono ?_
            rintro e wx ⟨y', rfl, hyn', hS2, hg2⟩
            replace D := Lib.hid (D.out.drew hS2 hg2)
            clear hS2 hg2
            go_wp2_with (refine wpList_store_own rfl 30 (.tmp 9) (.tmp 35) rfl w1.heap.size 30 bb 1 1 [y] 0 _ (y' : Last) rfl rfl rfl (by kernel_rfl) rfl (D.out.get 0 rfl) (by simp) ?_; intro wv hRv hgv; replace D := Lib.hid (D.out.set 0 rfl (hRv : Own _ _ _ _ [y']) hgv (Or.inl rfl)); clear hRv hgv)
            have x0 : (wv.cell? ⟨w2.heap.size, 0, none⟩ = some (.string x.Name) ∧ wv.cell? ⟨w2.heap.size, 1, none⟩ = some (.int .i64 x.Length) ∧ wv.cell? ⟨w2.heap.size, 2, none⟩ = some (.int .i64 x.Ball) ∧ wv.cell? ⟨w2.heap.size, 3, none⟩ = some (.int .i64 x.Instep) ∧ wv.cell? ⟨w2.heap.size, 4, none⟩ = some (.int .i64 x.Heel) ∧ wv.cell? ⟨w2.heap.size, 5, none⟩ = some (.int .i64 x.Pitch)) ∧ (wv.cell? ⟨bb, 0, none⟩ = some (.string y'.Name) ∧ wv.cell? ⟨bb, 1, none⟩ = some (.int .i64 y'.Length) ∧ wv.cell? ⟨bb, 2, none⟩ = some (.int .i64 y'.Ball) ∧ wv.cell? ⟨bb, 3, none⟩ = some (.int .i64 y'.Instep) ∧ wv.cell? ⟨bb, 4, none⟩ = some (.int .i64 y'.Heel) ∧ wv.cell? ⟨bb, 5, none⟩ = some (.int .i64 y'.Pitch)) := ⟨lastC_cells (D.out.get 2 rfl : Own _ _ _ _ (lastC x)), last1_cells (D.out.get 0 rfl : Own _ _ _ _ [y'])⟩
            go_wp2_with fail
            refine wp_region_held_drew (S := (fun w' => (w'.cell? ⟨w2.heap.size, 0, none⟩ = some (.string x.Name) ∧ w'.cell? ⟨w2.heap.size, 1, none⟩ = some (.int .i64 x.Length) ∧ w'.cell? ⟨w2.heap.size, 2, none⟩ = some (.int .i64 x.Ball) ∧ w'.cell? ⟨w2.heap.size, 3, none⟩ = some (.int .i64 x.Instep) ∧ w'.cell? ⟨w2.heap.size, 4, none⟩ = some (.int .i64 x.Heel) ∧ w'.cell? ⟨w2.heap.size, 5, none⟩ = some (.int .i64 x.Pitch)) ∧ (w'.cell? ⟨bb, 0, none⟩ = some (.string y'.Name) ∧ w'.cell? ⟨bb, 1, none⟩ = some (.int .i64 y'.Length) ∧ w'.cell? ⟨bb, 2, none⟩ = some (.int .i64 y'.Ball) ∧ w'.cell? ⟨bb, 3, none⟩ = some (.int .i64 y'.Instep) ∧ w'.cell? ⟨bb, 4, none⟩ = some (.int .i64 y'.Heel) ∧ w'.cell? ⟨bb, 5, none⟩ = some (.int .i64 y'.Pitch)))) (by kernel_rfl) x0 (fun hHeld => ?_)
            obtain ⟨wo, hwo⟩ : ∃ wo, wo = wv.drew := ⟨_, rfl⟩
            rw [← hwo] at hHeld ⊢
            have hbo : Below wv.heap.size wv wo := by rw [hwo]; exact (Below.refl _ _).drew
            replace D := Lib.hid (D.out.later hbo)
            clear hwo x0 hbo
            refine wpAnyH_take (i := 0) (v := _) rfl (by kernel_rfl) (by kernel_rfl) (by kernel_rfl) (fun _ _ _ h => h) (Or.inl ⟨by rfl, (by intro w hSw; (try dsimp only at hSw); go_simp; try with_reducible rfl)⟩) (by assumption) ?_
            go_simp
            refine wpAnyH_take (i := 1) (v := _) rfl (by kernel_rfl) (by kernel_rfl) (by kernel_rfl) (fun _ _ _ h => h) (Or.inl ⟨by rfl, (by intro w hSw; (try dsimp only at hSw); go_simp; try with_reducible rfl)⟩) (by assumption) ?_
            go_simp
            refine wpAnyH_take (i := 2) (v := _) rfl (by kernel_rfl) (by kernel_rfl) (by kernel_rfl) (fun _ _ _ h => h) (Or.inl ⟨by rfl, (by intro w hSw; (try dsimp only at hSw); go_simp; try with_reducible rfl)⟩) (by assumption) ?_
            go_simp
            have G := D.out.up
            have V1 : Own _ _ _ _ (lastC x) := D.out.get 2 rfl
            have Y1 : Own _ _ _ _ [y'] := D.out.get 0 rfl
            have v1 := V1.lt w2.heap.size rfl
            have y1 := Y1.lt bb rfl
            have R2p := R2.out.kept G (Or.inr (ne_blk (by have := hs0.out; omega)))
            have R4p := R4.out.kept G (Or.inr (ne_blk (by have := hs0.out; omega)))
            have hnA : w1.heap.size ≤ w2.heap.size := by have := hqA.out; omega
            have hnB : w1.heap.size ≤ bb := by have := hqB.out; omega
            refine wpAnyH_ready (rs := [3]) (by kernel_rfl) (by simp) ?_
            refine AllReadyH.cons rfl (fun K hK => ?_) AllReadyH.nil
            refine cast (if_pos (by rfl)).symm ?_; refine wp_store_own 30 (.tmp 2) (.tmp 36) rfl w.heap.size 30 w.heap.size 1 1 [lastZ] 0 _ (x : Last) rfl rfl rfl (by kernel_rfl) rfl R2p (by simp) ?_; intro wq hV2 hg2
            have V2 := V1.kept hg2 (Or.inr (ne_blk (by omega)))
            have Y2 := Y1.kept hg2 (Or.inr (ne_blk (by omega)))
            have R4q := R4p.kept hg2 (Or.inr (ne_blk (by omega)))
            refine hK.out _ _ (by exact ⟨lastC_cells V2, last1_cells Y2⟩) (fun hHeld => ?_)
            clear hK K
            go_simp
            refine wpAnyH_ready (rs := [4]) (by kernel_rfl) (by simp) ?_
            refine AllReadyH.cons rfl (fun K hK => ?_) AllReadyH.nil
            refine cast (if_pos (by rfl)).symm ?_; refine wp_store_own 30 (.tmp 3) (.tmp 37) rfl (w.heap.size + 1) 30 (w.heap.size + 1) 1 1 [lastZ] 0 _ (y' : Last) rfl rfl rfl (by kernel_rfl) rfl R4q (by simp) ?_; intro wz hV4 hg4
            refine hK.out _ _ (by exact ⟨lastC_cells (V2.kept hg4 (Or.inr (ne_blk (by omega)))), last1_cells (Y2.kept hg4 (Or.inr (ne_blk (by omega))))⟩) (fun hHeld => ?_)
            clear hK K
            go_simp
            refine wpAnyH_take (i := 5) (v := _) rfl (by kernel_rfl) (by kernel_rfl) (by kernel_rfl) (fun _ _ _ h => h) (Or.inl ⟨by rfl, (by intro w hSw; (try dsimp only at hSw); go_simp; try with_reducible rfl)⟩) (by assumption) ?_
            go_simp
            refine wpAnyH_done (by kernel_rfl) ?_ _
            have hV2z := hV2.kept hg4 (Or.inr (ne_blk (by omega)))
            have qc := last1_cells hV2z
            have pc := last1_cells hV4
            go_wp2_with fail
            refine bodyPost_ret (v := .tuple #[.agg #[.string x.Name, .int .i64 x.Length, .int .i64 x.Ball, .int .i64 x.Instep, .int .i64 x.Heel, .int .i64 x.Pitch], .agg #[.string y'.Name, .int .i64 y'.Length, .int .i64 y'.Ball, .int .i64 y'.Instep, .int .i64 y'.Heel, .int .i64 y'.Pitch], .int .i64 s]) (by simp [results, Tryz.results22, go_sem, qc, pc]) rfl ?_
            have hF := below_mark (below_mark (drew_up hb0 G (by have := hs0.out; omega)) R2p (Nat.le_refl _) hg2) R4q (by omega) hg4
            exact ⟨x, y', s, rfl, hxn, hyn', hF⟩
        · have hc' : (c == 0) = false := beq_eq_false_iff_ne.2 hc
          go_wp2_with fail
          refine (l05Any_c w0.heap.size 0 _ (D.out.src.less (by omega))).mono ?_
          rintro e wx ⟨y', rfl, hyn', hS2, hg2⟩
          replace D := Lib.hid (D.out.drew hS2 hg2)
          clear hS2 hg2
          go_wp2_with (refine wpList_store_own rfl 30 (.tmp 9) (.tmp 35) rfl w1.heap.size 30 bb 1 1 [y] 0 _ (y' : Last) rfl rfl rfl (by kernel_rfl) rfl (D.out.get 0 rfl) (by simp) ?_; intro wv hRv hgv; replace D := Lib.hid (D.out.set 0 rfl (hRv : Own _ _ _ _ [y']) hgv (Or.inl rfl)); clear hRv hgv)
          have x0 : (wv.cell? ⟨w2.heap.size, 0, none⟩ = some (.string x.Name) ∧ wv.cell? ⟨w2.heap.size, 1, none⟩ = some (.int .i64 x.Length) ∧ wv.cell? ⟨w2.heap.size, 2, none⟩ = some (.int .i64 x.Ball) ∧ wv.cell? ⟨w2.heap.size, 3, none⟩ = some (.int .i64 x.Instep) ∧ wv.cell? ⟨w2.heap.size, 4, none⟩ = some (.int .i64 x.Heel) ∧ wv.cell? ⟨w2.heap.size, 5, none⟩ = some (.int .i64 x.Pitch)) ∧ (wv.cell? ⟨bb, 0, none⟩ = some (.string y'.Name) ∧ wv.cell? ⟨bb, 1, none⟩ = some (.int .i64 y'.Length) ∧ wv.cell? ⟨bb, 2, none⟩ = some (.int .i64 y'.Ball) ∧ wv.cell? ⟨bb, 3, none⟩ = some (.int .i64 y'.Instep) ∧ wv.cell? ⟨bb, 4, none⟩ = some (.int .i64 y'.Heel) ∧ wv.cell? ⟨bb, 5, none⟩ = some (.int .i64 y'.Pitch)) := ⟨lastC_cells (D.out.get 2 rfl : Own _ _ _ _ (lastC x)), last1_cells (D.out.get 0 rfl : Own _ _ _ _ [y'])⟩
          go_wp2_with fail
          refine wp_region_held_drew (S := (fun w' => (w'.cell? ⟨w2.heap.size, 0, none⟩ = some (.string x.Name) ∧ w'.cell? ⟨w2.heap.size, 1, none⟩ = some (.int .i64 x.Length) ∧ w'.cell? ⟨w2.heap.size, 2, none⟩ = some (.int .i64 x.Ball) ∧ w'.cell? ⟨w2.heap.size, 3, none⟩ = some (.int .i64 x.Instep) ∧ w'.cell? ⟨w2.heap.size, 4, none⟩ = some (.int .i64 x.Heel) ∧ w'.cell? ⟨w2.heap.size, 5, none⟩ = some (.int .i64 x.Pitch)) ∧ (w'.cell? ⟨bb, 0, none⟩ = some (.string y'.Name) ∧ w'.cell? ⟨bb, 1, none⟩ = some (.int .i64 y'.Length) ∧ w'.cell? ⟨bb, 2, none⟩ = some (.int .i64 y'.Ball) ∧ w'.cell? ⟨bb, 3, none⟩ = some (.int .i64 y'.Instep) ∧ w'.cell? ⟨bb, 4, none⟩ = some (.int .i64 y'.Heel) ∧ w'.cell? ⟨bb, 5, none⟩ = some (.int .i64 y'.Pitch)))) (by kernel_rfl) x0 (fun hHeld => ?_)
          obtain ⟨wo, hwo⟩ : ∃ wo, wo = wv.drew := ⟨_, rfl⟩
          rw [← hwo] at hHeld ⊢
          have hbo : Below wv.heap.size wv wo := by rw [hwo]; exact (Below.refl _ _).drew
          replace D := Lib.hid (D.out.later hbo)
          clear hwo x0 hbo
          refine wpAnyH_take (i := 0) (v := _) rfl (by kernel_rfl) (by kernel_rfl) (by kernel_rfl) (fun _ _ _ h => h) (Or.inl ⟨by rfl, (by intro w hSw; (try dsimp only at hSw); go_simp; try with_reducible rfl)⟩) (by assumption) ?_
          go_simp
          refine wpAnyH_take (i := 1) (v := _) rfl (by kernel_rfl) (by kernel_rfl) (by kernel_rfl) (fun _ _ _ h => h) (Or.inl ⟨by rfl, (by intro w hSw; (try dsimp only at hSw); go_simp; try with_reducible rfl)⟩) (by assumption) ?_
          go_simp
          refine wpAnyH_take (i := 2) (v := _) rfl (by kernel_rfl) (by kernel_rfl) (by kernel_rfl) (fun _ _ _ h => h) (Or.inl ⟨by rfl, (by intro w hSw; (try dsimp only at hSw); go_simp; try with_reducible rfl)⟩) (by assumption) ?_
          go_simp
          have G := D.out.up
          have V1 : Own _ _ _ _ (lastC x) := D.out.get 2 rfl
          have Y1 : Own _ _ _ _ [y'] := D.out.get 0 rfl
          have v1 := V1.lt w2.heap.size rfl
          have y1 := Y1.lt bb rfl
          have R2p := R2.out.kept G (Or.inr (ne_blk (by have := hs0.out; omega)))
          have R4p := R4.out.kept G (Or.inr (ne_blk (by have := hs0.out; omega)))
          have hnA : w1.heap.size ≤ w2.heap.size := by have := hqA.out; omega
          have hnB : w1.heap.size ≤ bb := by have := hqB.out; omega
          refine wpAnyH_ready (rs := [3]) (by kernel_rfl) (by simp) ?_
          refine AllReadyH.cons rfl (fun K hK => ?_) AllReadyH.nil
          refine cast (if_pos (by rfl)).symm ?_; refine wp_store_own 30 (.tmp 2) (.tmp 36) rfl w.heap.size 30 w.heap.size 1 1 [lastZ] 0 _ (x : Last) rfl rfl rfl (by kernel_rfl) rfl R2p (by simp) ?_; intro wq hV2 hg2
          have V2 := V1.kept hg2 (Or.inr (ne_blk (by omega)))
          have Y2 := Y1.kept hg2 (Or.inr (ne_blk (by omega)))
          have R4q := R4p.kept hg2 (Or.inr (ne_blk (by omega)))
          refine hK.out _ _ (by exact ⟨lastC_cells V2, last1_cells Y2⟩) (fun hHeld => ?_)
          clear hK K
          go_simp
          refine wpAnyH_ready (rs := [4]) (by kernel_rfl) (by simp) ?_
          refine AllReadyH.cons rfl (fun K hK => ?_) AllReadyH.nil
          refine cast (if_pos (by rfl)).symm ?_; refine wp_store_own 30 (.tmp 3) (.tmp 37) rfl (w.heap.size + 1) 30 (w.heap.size + 1) 1 1 [lastZ] 0 _ (y' : Last) rfl rfl rfl (by kernel_rfl) rfl R4q (by simp) ?_; intro wz hV4 hg4
          refine hK.out _ _ (by exact ⟨lastC_cells (V2.kept hg4 (Or.inr (ne_blk (by omega)))), last1_cells (Y2.kept hg4 (Or.inr (ne_blk (by omega))))⟩) (fun hHeld => ?_)
          clear hK K
          go_simp
          refine wpAnyH_take (i := 5) (v := _) rfl (by kernel_rfl) (by kernel_rfl) (by kernel_rfl) (fun _ _ _ h => h) (Or.inl ⟨by rfl, (by intro w hSw; (try dsimp only at hSw); go_simp; try with_reducible rfl)⟩) (by assumption) ?_
          go_simp
          refine wpAnyH_done (by kernel_rfl) ?_ _
          have hV2z := hV2.kept hg4 (Or.inr (ne_blk (by omega)))
          have qc := last1_cells hV2z
          have pc := last1_cells hV4
          go_wp2_with fail
          refine bodyPost_ret (v := .tuple #[.agg #[.string x.Name, .int .i64 x.Length, .int .i64 x.Ball, .int .i64 x.Instep, .int .i64 x.Heel, .int .i64 x.Pitch], .agg #[.string y'.Name, .int .i64 y'.Length, .int .i64 y'.Ball, .int .i64 y'.Instep, .int .i64 y'.Heel, .int .i64 y'.Pitch], .int .i64 s]) (by simp [results, Tryz.results22, go_sem, qc, pc]) rfl ?_
          have hF := below_mark (below_mark (drew_up hb0 G (by have := hs0.out; omega)) R2p (Nat.le_refl _) hg2) R4q (by omega) hg4
          exact ⟨x, y', s, rfl, hxn, hyn', hF⟩
      · go_simp
        obtain ⟨wt, hwt⟩ : ∃ wt, wt = wo.alloc (.cells #[.string { data := #[] }, .int .i64 0, .int .i64 0, .int .i64 0, .int .i64 0, .int .i64 0] 30) := ⟨_, rfl⟩
        rw [← hwt]
        have hqB : w1.heap.size ≤ wo.heap.size := D.out.up.size
        replace D := Lib.hid (D.out.add (w' := wt) (by rw [hwt]; exact newB wo _) (by rw [hwt]; exact own_last1 wo 30 lastZ))
        replace hwt := Lib.hid hwt
        obtain ⟨bb, hbb⟩ : ∃ b, b = wo.heap.size := ⟨_, rfl⟩
        rw [← hbb] at D hqB ⊢
        clear hbb hwt
        replace hqB := Lib.hid hqB
        refine hK.out _ _ (⟨lastC_cells (D.out.get 2 rfl), gradeC_cells (D.out.get 1 rfl)⟩) (fun hHeld => ?_)
        clear hK K
        go_simp
        refine wpAnyH_ready (rs := [5]) (by kernel_rfl) (by simp) ?_
        refine AllReadyH.cons rfl (fun K hK => ?_) AllReadyH.nil
        go_simp
        refine (specGradeLast_c x g u wt (Nat.le_trans hxn (by decide))).mono ?_
        rintro e wp ⟨rfl, hb⟩
        replace D := Lib.hid (D.out.later hb)
        clear hb
        have hyn : (glRes x g u).Name.size ≤ 100 := glRes_name x g u hxn
        generalize glRes x g u = y at hyn ⊢
        generalize glCode x g u = c
        try go_simp
        refine hK.out _ _ (⟨lastC_cells (D.out.get 2 rfl), gradeC_cells (D.out.get 1 rfl)⟩) (fun hHeld => ?_)
        clear hK K
        go_simp
        refine wpAnyH_take (i := 6) (v := _) rfl (by kernel_rfl) (by kernel_rfl) (by kernel_rfl) (fun _ _ _ h => h) (Or.inl ⟨by rfl, (by intro w hSw; (try dsimp only at hSw); go_simp; try with_reducible rfl)⟩) (by assumption) ?_
        go_simp
        refine wpAnyH_take (i := 7) (v := _) rfl (by kernel_rfl) (by kernel_rfl) (by kernel_rfl) (fun _ _ _ h => h) (Or.inl ⟨by rfl, (by intro w hSw; (try dsimp only at hSw); go_simp; try with_reducible rfl)⟩) (by assumption) ?_
        go_simp
        refine wpAnyH_take (i := 8) (v := _) rfl (by kernel_rfl) (by kernel_rfl) (by kernel_rfl) (fun _ _ _ h => h) (Or.inl ⟨by rfl, (by intro w hSw; (try dsimp only at hSw); go_simp; try with_reducible rfl)⟩) (by assumption) ?_
        go_simp
        refine wpAnyH_ready (rs := [10]) (by kernel_rfl) (by simp) ?_
        refine AllReadyH.cons rfl (fun K hK => ?_) AllReadyH.nil
        refine cast (if_pos (by rfl)).symm ?_; refine wp_store_own 30 (.tmp 9) (.tmp 26) rfl w1.heap.size 30 bb 1 1 [lastZ] 0 _ (y : Last) rfl rfl rfl (by kernel_rfl) rfl (D.out.get 0 rfl) (by simp) ?_; intro wq hRq hgq
        replace D := Lib.hid (D.out.set 0 rfl (hRq : Own _ _ _ _ [y]) hgq (Or.inl rfl))
        clear hRq hgq
        refine hK.out _ _ (⟨lastC_cells (D.out.get 2 rfl), gradeC_cells (D.out.get 1 rfl)⟩) (fun hHeld => ?_)
        clear hK K
        go_simp
        refine wpAnyH_take (i := 11) (v := _) rfl (by kernel_rfl) (by kernel_rfl) (by kernel_rfl) (fun _ _ _ h => h) (Or.inl ⟨by rfl, (by intro w hSw; (try dsimp only at hSw); go_simp; try with_reducible rfl)⟩) (by assumption) ?_
        go_simp
        refine wpAnyH_done (by kernel_rfl) ?_ _
        by_cases hc : c = 0
        · subst hc
          go_wp2_with fail
          refine (one_c w0.heap.size 26 4 _ (D.out.src.less (by omega)) (by omega) (by omega)).mono ?_
          rintro e w7 ⟨b, rfl, hS2, hg2⟩
          replace D := Lib.hid (D.out.drew hS2 hg2)
          clear hS2 hg2
          cases b
          · have x0 : (w7.cell? ⟨w2.heap.size, 0, none⟩ = some (.string x.Name) ∧ w7.cell? ⟨w2.heap.size, 1, none⟩ = some (.int .i64 x.Length) ∧ w7.cell? ⟨w2.heap.size, 2, none⟩ = some (.int .i64 x.Ball) ∧ w7.cell? ⟨w2.heap.size, 3, none⟩ = some (.int .i64 x.Instep) ∧ w7.cell? ⟨w2.heap.size, 4, none⟩ = some (.int .i64 x.Heel) ∧ w7.cell? ⟨w2.heap.size, 5, none⟩ = some (.int .i64 x.Pitch)) ∧ (w7.cell? ⟨bb, 0, none⟩ = some (.string y.Name) ∧ w7.cell? ⟨bb, 1, none⟩ = some (.int .i64 y.Length) ∧ w7.cell? ⟨bb, 2, none⟩ = some (.int .i64 y.Ball) ∧ w7.cell? ⟨bb, 3, none⟩ = some (.int .i64 y.Instep) ∧ w7.cell? ⟨bb, 4, none⟩ = some (.int .i64 y.Heel) ∧ w7.cell? ⟨bb, 5, none⟩ = some (.int .i64 y.Pitch)) := ⟨lastC_cells (D.out.get 2 rfl : Own _ _ _ _ (lastC x)), last1_cells (D.out.get 0 rfl : Own _ _ _ _ [y])⟩
            go_wp2_with fail
            refine wp_region_held_drew (S := (fun w' => (w'.cell? ⟨w2.heap.size, 0, none⟩ = some (.string x.Name) ∧ w'.cell? ⟨w2.heap.size, 1, none⟩ = some (.int .i64 x.Length) ∧ w'.cell? ⟨w2.heap.size, 2, none⟩ = some (.int .i64 x.Ball) ∧ w'.cell? ⟨w2.heap.size, 3, none⟩ = some (.int .i64 x.Instep) ∧ w'.cell? ⟨w2.heap.size, 4, none⟩ = some (.int .i64 x.Heel) ∧ w'.cell? ⟨w2.heap.size, 5, none⟩ = some (.int .i64 x.Pitch)) ∧ (w'.cell? ⟨bb, 0, none⟩ = some (.string y.Name) ∧ w'.cell? ⟨bb, 1, none⟩ = some (.int .i64 y.Length) ∧ w'.cell? ⟨bb, 2, none⟩ = some (.int .i64 y.Ball) ∧ w'.cell? ⟨bb, 3, none⟩ = some (.int .i64 y.Instep) ∧ w'.cell? ⟨bb, 4, none⟩ = some (.int .i64 y.Heel) ∧ w'.cell? ⟨bb, 5, none⟩ = some (.int .i64 y.Pitch)))) (by kernel_rfl) x0 (fun hHeld => ?_)
            obtain ⟨wo, hwo⟩ : ∃ wo, wo = w7.drew := ⟨_, rfl⟩
            rw [← hwo] at hHeld ⊢
            have hbo : Below w7.heap.size w7 wo := by rw [hwo]; exact (Below.refl _ _).drew
            replace D := Lib.hid (D.out.later hbo)
            clear hwo x0 hbo
            refine wpAnyH_take (i := 0) (v := _) rfl (by kernel_rfl) (by kernel_rfl) (by kernel_rfl) (fun _ _ _ h => h) (Or.inl ⟨by rfl, (by intro w hSw; (try dsimp only at hSw); go_simp; try with_reducible rfl)⟩) (by assumption) ?_
            go_simp
            refine wpAnyH_take (i := 1) (v := _) rfl (by kernel_rfl) (by kernel_rfl) (by kernel_rfl) (fun _ _ _ h => h) (Or.inl ⟨by rfl, (by intro w hSw; (try dsimp only at hSw); go_simp; try with_reducible rfl)⟩) (by assumption) ?_
            go_simp
            refine wpAnyH_take (i := 2) (v := _) rfl (by kernel_rfl) (by kernel_rfl) (by kernel_rfl) (fun _ _ _ h => h) (Or.inl ⟨by rfl, (by intro w hSw; (try dsimp only at hSw); go_simp; try with_reducible rfl)⟩) (by assumption) ?_
            go_simp
            have G := D.out.up
            have V1 : Own _ _ _ _ (lastC x) := D.out.get 2 rfl
            have Y1 : Own _ _ _ _ [y] := D.out.get 0 rfl
            have v1 := V1.lt w2.heap.size rfl
            have y1 := Y1.lt bb rfl
            have R2p := R2.out.kept G (Or.inr (ne_blk (by have := hs0.out; omega)))
            have R4p := R4.out.kept G (Or.inr (ne_blk (by have := hs0.out; omega)))
            have hnA : w1.heap.size ≤ w2.heap.size := by have := hqA.out; omega
            have hnB : w1.heap.size ≤ bb := by have := hqB.out; omega
            refine wpAnyH_ready (rs := [3]) (by kernel_rfl) (by simp) ?_
            refine AllReadyH.cons rfl (fun K hK => ?_) AllReadyH.nil
            refine cast (if_pos (by rfl)).symm ?_; refine wp_store_own 30 (.tmp 2) (.tmp 36) rfl w.heap.size 30 w.heap.size 1 1 [lastZ] 0 _ (x : Last) rfl rfl rfl (by kernel_rfl) rfl R2p (by simp) ?_; intro wq hV2 hg2
            have V2 := V1.kept hg2 (Or.inr (ne_blk (by omega)))
            have Y2 := Y1.kept hg2 (Or.inr (ne_blk (by omega)))
            have R4q := R4p.kept hg2 (Or.inr (ne_blk (by omega)))
            refine hK.out _ _ (by exact ⟨lastC_cells V2, last1_cells Y2⟩) (fun hHeld => ?_)
            clear hK K
            go_simp
            refine wpAnyH_ready (rs := [4]) (by kernel_rfl) (by simp) ?_
            refine AllReadyH.cons rfl (fun K hK => ?_) AllReadyH.nil
            refine cast (if_pos (by rfl)).symm ?_; refine wp_store_own 30 (.tmp 3) (.tmp 37) rfl (w.heap.size + 1) 30 (w.heap.size + 1) 1 1 [lastZ] 0 _ (y : Last) rfl rfl rfl (by kernel_rfl) rfl R4q (by simp) ?_; intro wz hV4 hg4
            refine hK.out _ _ (by exact ⟨lastC_cells (V2.kept hg4 (Or.inr (ne_blk (by omega)))), last1_cells (Y2.kept hg4 (Or.inr (ne_blk (by omega))))⟩) (fun hHeld => ?_)
            clear hK K
            go_simp
            refine wpAnyH_take (i := 5) (v := _) rfl (by kernel_rfl) (by kernel_rfl) (by kernel_rfl) (fun _ _ _ h => h) (Or.inl ⟨by rfl, (by intro w hSw; (try dsimp only at hSw); go_simp; try with_reducible rfl)⟩) (by assumption) ?_
            go_simp
            refine wpAnyH_done (by kernel_rfl) ?_ _
            have hV2z := hV2.kept hg4 (Or.inr (ne_blk (by omega)))
            have qc := last1_cells hV2z
            have pc := last1_cells hV4
            go_wp2_with fail
            refine bodyPost_ret (v := .tuple #[.agg #[.string x.Name, .int .i64 x.Length, .int .i64 x.Ball, .int .i64 x.Instep, .int .i64 x.Heel, .int .i64 x.Pitch], .agg #[.string y.Name, .int .i64 y.Length, .int .i64 y.Ball, .int .i64 y.Instep, .int .i64 y.Heel, .int .i64 y.Pitch], .int .i64 s]) (by simp [results, Tryz.results22, go_sem, qc, pc]) rfl ?_
            have hF := below_mark (below_mark (drew_up hb0 G (by have := hs0.out; omega)) R2p (Nat.le_refl _) hg2) R4q (by omega) hg4
            exact ⟨x, y, s, rfl, hxn, hyn, hF⟩
          · go_wp2_with fail
            refine (l05Any_c w0.heap.size 0 _ (D.out.src.less (by omega))).mono ?_
            rintro e wx ⟨y', rfl, hyn', hS2, hg2⟩
            replace D := Lib.hid (D.out.drew hS2 hg2)
            clear hS2 hg2
            go_wp2_with (refine wpList_store_own rfl 30 (.tmp 9) (.tmp 35) rfl w1.heap.size 30 bb 1 1 [y] 0 _ (y' : Last) rfl rfl rfl (by kernel_rfl) rfl (D.out.get 0 rfl) (by simp) ?_; intro wv hRv hgv; replace D := Lib.hid (D.out.set 0 rfl (hRv : Own _ _ _ _ [y']) hgv (Or.inl rfl)); clear hRv hgv)
            have x0 : (wv.cell? ⟨w2.heap.size, 0, none⟩ = some (.string x.Name) ∧ wv.cell? ⟨w2.heap.size, 1, none⟩ = some (.int .i64 x.Length) ∧ wv.cell? ⟨w2.heap.size, 2, none⟩ = some (.int .i64 x.Ball) ∧ wv.cell? ⟨w2.heap.size, 3, none⟩ = some (.int .i64 x.Instep) ∧ wv.cell? ⟨w2.heap.size, 4, none⟩ = some (.int .i64 x.Heel) ∧ wv.cell? ⟨w2.heap.size, 5, none⟩ = some (.int .i64 x.Pitch)) ∧ (wv.cell? ⟨bb, 0, none⟩ = some (.string y'.Name) ∧ wv.cell? ⟨bb, 1, none⟩ = some (.int .i64 y'.Length) ∧ wv.cell? ⟨bb, 2, none⟩ = some (.int .i64 y'.Ball) ∧ wv.cell? ⟨bb, 3, none⟩ = some (.int .i64 y'.Instep) ∧ wv.cell? ⟨bb, 4, none⟩ = some (.int .i64 y'.Heel) ∧ wv.cell? ⟨bb, 5, none⟩ = some (.int .i64 y'.Pitch)) := ⟨lastC_cells (D.out.get 2 rfl : Own _ _ _ _ (lastC x)), last1_cells (D.out.get 0 rfl : Own _ _ _ _ [y'])⟩
            go_wp2_with fail
            refine wp_region_held_drew (S := (fun w' => (w'.cell? ⟨w2.heap.size, 0, none⟩ = some (.string x.Name) ∧ w'.cell? ⟨w2.heap.size, 1, none⟩ = some (.int .i64 x.Length) ∧ w'.cell? ⟨w2.heap.size, 2, none⟩ = some (.int .i64 x.Ball) ∧ w'.cell? ⟨w2.heap.size, 3, none⟩ = some (.int .i64 x.Instep) ∧ w'.cell? ⟨w2.heap.size, 4, none⟩ = some (.int .i64 x.Heel) ∧ w'.cell? ⟨w2.heap.size, 5, none⟩ = some (.int .i64 x.Pitch)) ∧ (w'.cell? ⟨bb, 0, none⟩ = some (.string y'.Name) ∧ w'.cell? ⟨bb, 1, none⟩ = some (.int .i64 y'.Length) ∧ w'.cell? ⟨bb, 2, none⟩ = some (.int .i64 y'.Ball) ∧ w'.cell? ⟨bb, 3, none⟩ = some (.int .i64 y'.Instep) ∧ w'.cell? ⟨bb, 4, none⟩ = some (.int .i64 y'.Heel) ∧ w'.cell? ⟨bb, 5, none⟩ = some (.int .i64 y'.Pitch)))) (by kernel_rfl) x0 (fun hHeld => ?_)
            obtain ⟨wo, hwo⟩ : ∃ wo, wo = wv.drew := ⟨_, rfl⟩
            rw [← hwo] at hHeld ⊢
            have hbo : Below wv.heap.size wv wo := by rw [hwo]; exact (Below.refl _ _).drew
            replace D := Lib.hid (D.out.later hbo)
            clear hwo x0 hbo
            refine wpAnyH_take (i := 0) (v := _) rfl (by kernel_rfl) (by kernel_rfl) (by kernel_rfl) (fun _ _ _ h => h) (Or.inl ⟨by rfl, (by intro w hSw; (try dsimp only at hSw); go_simp; try with_reducible rfl)⟩) (by assumption) ?_
            go_simp
            refine wpAnyH_take (i := 1) (v := _) rfl (by kernel_rfl) (by kernel_rfl) (by kernel_rfl) (fun _ _ _ h => h) (Or.inl ⟨by rfl, (by intro w hSw; (try dsimp only at hSw); go_simp; try with_reducible rfl)⟩) (by assumption) ?_
            go_simp
            refine wpAnyH_take (i := 2) (v := _) rfl (by kernel_rfl) (by kernel_rfl) (by kernel_rfl) (fun _ _ _ h => h) (Or.inl ⟨by rfl, (by intro w hSw; (try dsimp only at hSw); go_simp; try with_reducible rfl)⟩) (by assumption) ?_
            go_simp
            have G := D.out.up
            have V1 : Own _ _ _ _ (lastC x) := D.out.get 2 rfl
            have Y1 : Own _ _ _ _ [y'] := D.out.get 0 rfl
            have v1 := V1.lt w2.heap.size rfl
            have y1 := Y1.lt bb rfl
            have R2p := R2.out.kept G (Or.inr (ne_blk (by have := hs0.out; omega)))
            have R4p := R4.out.kept G (Or.inr (ne_blk (by have := hs0.out; omega)))
            have hnA : w1.heap.size ≤ w2.heap.size := by have := hqA.out; omega
            have hnB : w1.heap.size ≤ bb := by have := hqB.out; omega
            refine wpAnyH_ready (rs := [3]) (by kernel_rfl) (by simp) ?_
            refine AllReadyH.cons rfl (fun K hK => ?_) AllReadyH.nil
            refine cast (if_pos (by rfl)).symm ?_; refine wp_store_own 30 (.tmp 2) (.tmp 36) rfl w.heap.size 30 w.heap.size 1 1 [lastZ] 0 _ (x : Last) rfl rfl rfl (by kernel_rfl) rfl R2p (by simp) ?_; intro wq hV2 hg2
            have V2 := V1.kept hg2 (Or.inr (ne_blk (by omega)))
            have Y2 := Y1.kept hg2 (Or.inr (ne_blk (by omega)))
            have R4q := R4p.kept hg2 (Or.inr (ne_blk (by omega)))
            refine hK.out _ _ (by exact ⟨lastC_cells V2, last1_cells Y2⟩) (fun hHeld => ?_)
            clear hK K
            go_simp
            refine wpAnyH_ready (rs := [4]) (by kernel_rfl) (by simp) ?_
            refine AllReadyH.cons rfl (fun K hK => ?_) AllReadyH.nil
            refine cast (if_pos (by rfl)).symm ?_; refine wp_store_own 30 (.tmp 3) (.tmp 37) rfl (w.heap.size + 1) 30 (w.heap.size + 1) 1 1 [lastZ] 0 _ (y' : Last) rfl rfl rfl (by kernel_rfl) rfl R4q (by simp) ?_; intro wz hV4 hg4
            refine hK.out _ _ (by exact ⟨lastC_cells (V2.kept hg4 (Or.inr (ne_blk (by omega)))), last1_cells (Y2.kept hg4 (Or.inr (ne_blk (by omega))))⟩) (fun hHeld => ?_)
            clear hK K
            go_simp
            refine wpAnyH_take (i := 5) (v := _) rfl (by kernel_rfl) (by kernel_rfl) (by kernel_rfl) (fun _ _ _ h => h) (Or.inl ⟨by rfl, (by intro w hSw; (try dsimp only at hSw); go_simp; try with_reducible rfl)⟩) (by assumption) ?_
            go_simp
            refine wpAnyH_done (by kernel_rfl) ?_ _
            have hV2z := hV2.kept hg4 (Or.inr (ne_blk (by omega)))
            have qc := last1_cells hV2z
            have pc := last1_cells hV4
            go_wp2_with fail
            refine bodyPost_ret (v := .tuple #[.agg #[.string x.Name, .int .i64 x.Length, .int .i64 x.Ball, .int .i64 x.Instep, .int .i64 x.Heel, .int .i64 x.Pitch], .agg #[.string y'.Name, .int .i64 y'.Length, .int .i64 y'.Ball, .int .i64 y'.Instep, .int .i64 y'.Heel, .int .i64 y'.Pitch], .int .i64 s]) (by simp [results, Tryz.results22, go_sem, qc, pc]) rfl ?_
            have hF := below_mark (below_mark (drew_up hb0 G (by have := hs0.out; omega)) R2p (Nat.le_refl _) hg2) R4q (by omega) hg4
            exact ⟨x, y', s, rfl, hxn, hyn', hF⟩
        · have hc' : (c == 0) = false := beq_eq_false_iff_ne.2 hc
          go_wp2_with fail
          refine (l05Any_c w0.heap.size 0 _ (D.out.src.less (by omega))).mono ?_
          rintro e wx ⟨y', rfl, hyn', hS2, hg2⟩
          replace D := Lib.hid (D.out.drew hS2 hg2)
          clear hS2 hg2
          go_wp2_with (refine wpList_store_own rfl 30 (.tmp 9) (.tmp 35) rfl w1.heap.size 30 bb 1 1 [y] 0 _ (y' : Last) rfl rfl rfl (by kernel_rfl) rfl (D.out.get 0 rfl) (by simp) ?_; intro wv hRv hgv; replace D := Lib.hid (D.out.set 0 rfl (hRv : Own _ _ _ _ [y']) hgv (Or.inl rfl)); clear hRv hgv)
          have x0 : (wv.cell? ⟨w2.heap.size, 0, none⟩ = some (.string x.Name) ∧ wv.cell? ⟨w2.heap.size, 1, none⟩ = some (.int .i64 x.Length) ∧ wv.cell? ⟨w2.heap.size, 2, none⟩ = some (.int .i64 x.Ball) ∧ wv.cell? ⟨w2.heap.size, 3, none⟩ = some (.int .i64 x.Instep) ∧ wv.cell? ⟨w2.heap.size, 4, none⟩ = some (.int .i64 x.Heel) ∧ wv.cell? ⟨w2.heap.size, 5, none⟩ = some (.int .i64 x.Pitch)) ∧ (wv.cell? ⟨bb, 0, none⟩ = some (.string y'.Name) ∧ wv.cell? ⟨bb, 1, none⟩ = some (.int .i64 y'.Length) ∧ wv.cell? ⟨bb, 2, none⟩ = some (.int .i64 y'.Ball) ∧ wv.cell? ⟨bb, 3, none⟩ = some (.int .i64 y'.Instep) ∧ wv.cell? ⟨bb, 4, none⟩ = some (.int .i64 y'.Heel) ∧ wv.cell? ⟨bb, 5, none⟩ = some (.int .i64 y'.Pitch)) := ⟨lastC_cells (D.out.get 2 rfl : Own _ _ _ _ (lastC x)), last1_cells (D.out.get 0 rfl : Own _ _ _ _ [y'])⟩
          go_wp2_with fail
          refine wp_region_held_drew (S := (fun w' => (w'.cell? ⟨w2.heap.size, 0, none⟩ = some (.string x.Name) ∧ w'.cell? ⟨w2.heap.size, 1, none⟩ = some (.int .i64 x.Length) ∧ w'.cell? ⟨w2.heap.size, 2, none⟩ = some (.int .i64 x.Ball) ∧ w'.cell? ⟨w2.heap.size, 3, none⟩ = some (.int .i64 x.Instep) ∧ w'.cell? ⟨w2.heap.size, 4, none⟩ = some (.int .i64 x.Heel) ∧ w'.cell? ⟨w2.heap.size, 5, none⟩ = some (.int .i64 x.Pitch)) ∧ (w'.cell? ⟨bb, 0, none⟩ = some (.string y'.Name) ∧ w'.cell? ⟨bb, 1, none⟩ = some (.int .i64 y'.Length) ∧ w'.cell? ⟨bb, 2, none⟩ = some (.int .i64 y'.Ball) ∧ w'.cell? ⟨bb, 3, none⟩ = some (.int .i64 y'.Instep) ∧ w'.cell? ⟨bb, 4, none⟩ = some (.int .i64 y'.Heel) ∧ w'.cell? ⟨bb, 5, none⟩ = some (.int .i64 y'.Pitch)))) (by kernel_rfl) x0 (fun hHeld => ?_)
          obtain ⟨wo, hwo⟩ : ∃ wo, wo = wv.drew := ⟨_, rfl⟩
          rw [← hwo] at hHeld ⊢
          have hbo : Below wv.heap.size wv wo := by rw [hwo]; exact (Below.refl _ _).drew
          replace D := Lib.hid (D.out.later hbo)
          clear hwo x0 hbo
          refine wpAnyH_take (i := 0) (v := _) rfl (by kernel_rfl) (by kernel_rfl) (by kernel_rfl) (fun _ _ _ h => h) (Or.inl ⟨by rfl, (by intro w hSw; (try dsimp only at hSw); go_simp; try with_reducible rfl)⟩) (by assumption) ?_
          go_simp
          refine wpAnyH_take (i := 1) (v := _) rfl (by kernel_rfl) (by kernel_rfl) (by kernel_rfl) (fun _ _ _ h => h) (Or.inl ⟨by rfl, (by intro w hSw; (try dsimp only at hSw); go_simp; try with_reducible rfl)⟩) (by assumption) ?_
          go_simp
          refine wpAnyH_take (i := 2) (v := _) rfl (by kernel_rfl) (by kernel_rfl) (by kernel_rfl) (fun _ _ _ h => h) (Or.inl ⟨by rfl, (by intro w hSw; (try dsimp only at hSw); go_simp; try with_reducible rfl)⟩) (by assumption) ?_
          go_simp
          have G := D.out.up
          have V1 : Own _ _ _ _ (lastC x) := D.out.get 2 rfl
          have Y1 : Own _ _ _ _ [y'] := D.out.get 0 rfl
          have v1 := V1.lt w2.heap.size rfl
          have y1 := Y1.lt bb rfl
          have R2p := R2.out.kept G (Or.inr (ne_blk (by have := hs0.out; omega)))
          have R4p := R4.out.kept G (Or.inr (ne_blk (by have := hs0.out; omega)))
          have hnA : w1.heap.size ≤ w2.heap.size := by have := hqA.out; omega
          have hnB : w1.heap.size ≤ bb := by have := hqB.out; omega
          refine wpAnyH_ready (rs := [3]) (by kernel_rfl) (by simp) ?_
          refine AllReadyH.cons rfl (fun K hK => ?_) AllReadyH.nil
          refine cast (if_pos (by rfl)).symm ?_; refine wp_store_own 30 (.tmp 2) (.tmp 36) rfl w.heap.size 30 w.heap.size 1 1 [lastZ] 0 _ (x : Last) rfl rfl rfl (by kernel_rfl) rfl R2p (by simp) ?_; intro wq hV2 hg2
          have V2 := V1.kept hg2 (Or.inr (ne_blk (by omega)))
          have Y2 := Y1.kept hg2 (Or.inr (ne_blk (by omega)))
          have R4q := R4p.kept hg2 (Or.inr (ne_blk (by omega)))
          refine hK.out _ _ (by exact ⟨lastC_cells V2, last1_cells Y2⟩) (fun hHeld => ?_)
          clear hK K
          go_simp
          refine wpAnyH_ready (rs := [4]) (by kernel_rfl) (by simp) ?_
          refine AllReadyH.cons rfl (fun K hK => ?_) AllReadyH.nil
          refine cast (if_pos (by rfl)).symm ?_; refine wp_store_own 30 (.tmp 3) (.tmp 37) rfl (w.heap.size + 1) 30 (w.heap.size + 1) 1 1 [lastZ] 0 _ (y' : Last) rfl rfl rfl (by kernel_rfl) rfl R4q (by simp) ?_; intro wz hV4 hg4
          refine hK.out _ _ (by exact ⟨lastC_cells (V2.kept hg4 (Or.inr (ne_blk (by omega)))), last1_cells (Y2.kept hg4 (Or.inr (ne_blk (by omega))))⟩) (fun hHeld => ?_)
          clear hK K
          go_simp
          refine wpAnyH_take (i := 5) (v := _) rfl (by kernel_rfl) (by kernel_rfl) (by kernel_rfl) (fun _ _ _ h => h) (Or.inl ⟨by rfl, (by intro w hSw; (try dsimp only at hSw); go_simp; try with_reducible rfl)⟩) (by assumption) ?_
          go_simp
          refine wpAnyH_done (by kernel_rfl) ?_ _
          have hV2z := hV2.kept hg4 (Or.inr (ne_blk (by omega)))
          have qc := last1_cells hV2z
          have pc := last1_cells hV4
          go_wp2_with fail
          refine bodyPost_ret (v := .tuple #[.agg #[.string x.Name, .int .i64 x.Length, .int .i64 x.Ball, .int .i64 x.Instep, .int .i64 x.Heel, .int .i64 x.Pitch], .agg #[.string y'.Name, .int .i64 y'.Length, .int .i64 y'.Ball, .int .i64 y'.Instep, .int .i64 y'.Heel, .int .i64 y'.Pitch], .int .i64 s]) (by simp [results, Tryz.results22, go_sem, qc, pc]) rfl ?_
          have hF := below_mark (below_mark (drew_up hb0 G (by have := hs0.out; omega)) R2p (Nat.le_refl _) hg2) R4q (by omega) hg4
          exact ⟨x, y', s, rfl, hxn, hyn', hF⟩
    · go_simp
      obtain ⟨wt, hwt⟩ : ∃ wt, wt = wo.alloc (.cells #[.string { data := #[] }, .int .i64 0, .int .i64 0, .int .i64 0, .int .i64 0, .int .i64 0] 30) := ⟨_, rfl⟩
      rw [← hwt]
      have hqB : w1.heap.size ≤ wo.heap.size := D.out.up.size
      replace D := Lib.hid (D.out.add (w' := wt) (by rw [hwt]; exact newB wo _) (by rw [hwt]; exact own_last1 wo 30 lastZ))
      replace hwt := Lib.hid hwt
      obtain ⟨bb, hbb⟩ : ∃ b, b = wo.heap.size := ⟨_, rfl⟩
      rw [← hbb] at D hqB ⊢
      clear hbb hwt
      replace hqB := Lib.hid hqB
      refine hK.out _ _ (⟨lastC_cells (D.out.get 2 rfl), gradeC_cells (D.out.get 1 rfl)⟩) (fun hHeld => ?_)
      clear hK K
      go_simp
      refine wpAnyH_ready (rs := [4]) (by kernel_rfl) (by simp) ?_
      refine AllReadyH.cons rfl (fun K hK => ?_) AllReadyH.nil
      go_simp
      refine (l00Min_c 30 m wt).mono ?_
      rintro e w' ⟨rfl, rfl⟩
      generalize min 30 m = u
      try go_simp
      refine hK.out _ _ (⟨lastC_cells (D.out.get 2 rfl), gradeC_cells (D.out.get 1 rfl)⟩) (fun hHeld => ?_)
      clear hK K
      go_simp
      refine wpAnyH_ready (rs := [5]) (by kernel_rfl) (by simp) ?_
      refine AllReadyH.cons rfl (fun K hK => ?_) AllReadyH.nil
      go_simp
      refine (specGradeLast_c x g u wt (Nat.le_trans hxn (by decide))).mono ?_
      rintro e wp ⟨rfl, hb⟩
      replace D := Lib.hid (D.out.later hb)
      clear hb
      have hyn : (glRes x g u).Name.size ≤ 100 := glRes_name x g u hxn
      generalize glRes x g u = y at hyn ⊢
      generalize glCode x g u = c
      try go_simp
      refine hK.out _ _ (⟨lastC_cells (D.out.get 2 rfl), gradeC_cells (D.out.get 1 rfl)⟩) (fun hHeld => ?_)
      clear hK K
      go_simp
      refine wpAnyH_take (i := 6) (v := _) rfl (by kernel_rfl) (by kernel_rfl) (by kernel_rfl) (fun _ _ _ h => h) (Or.inl ⟨by rfl, (by intro w hSw; (try dsimp only at hSw); go_simp; try with_reducible rfl)⟩) (by assumption) ?_
      go_simp
      refine wpAnyH_take (i := 7) (v := _) rfl (by kernel_rfl) (by kernel_rfl) (by kernel_rfl) (fun _ _ _ h => h) (Or.inl ⟨by rfl, (by intro w hSw; (try dsimp only at hSw); go_simp; try with_reducible rfl)⟩) (by assumption) ?_
      go_simp
      refine wpAnyH_take (i := 8) (v := _) rfl (by kernel_rfl) (by kernel_rfl) (by kernel_rfl) (fun _ _ _ h => h) (Or.inl ⟨by rfl, (by intro w hSw; (try dsimp only at hSw); go_simp; try with_reducible rfl)⟩) (by assumption) ?_
      go_simp
      refine wpAnyH_ready (rs := [10]) (by kernel_rfl) (by simp) ?_
      refine AllReadyH.cons rfl (fun K hK => ?_) AllReadyH.nil
      refine cast (if_pos (by rfl)).symm ?_; refine wp_store_own 30 (.tmp 9) (.tmp 26) rfl w1.heap.size 30 bb 1 1 [lastZ] 0 _ (y : Last) rfl rfl rfl (by kernel_rfl) rfl (D.out.get 0 rfl) (by simp) ?_; intro wq hRq hgq
      replace D := Lib.hid (D.out.set 0 rfl (hRq : Own _ _ _ _ [y]) hgq (Or.inl rfl))
      clear hRq hgq
      refine hK.out _ _ (⟨lastC_cells (D.out.get 2 rfl), gradeC_cells (D.out.get 1 rfl)⟩) (fun hHeld => ?_)
      clear hK K
      go_simp
      refine wpAnyH_take (i := 11) (v := _) rfl (by kernel_rfl) (by kernel_rfl) (by kernel_rfl) (fun _ _ _ h => h) (Or.inl ⟨by rfl, (by intro w hSw; (try dsimp only at hSw); go_simp; try with_reducible rfl)⟩) (by assumption) ?_
      go_simp
      refine wpAnyH_done (by kernel_rfl) ?_ _
      by_cases hc : c = 0
      · subst hc
        go_wp2_with fail
        refine (one_c w0.heap.size 26 4 _ (D.out.src.less (by omega)) (by omega) (by omega)).mono ?_
        rintro e w7 ⟨b, rfl, hS2, hg2⟩
        replace D := Lib.hid (D.out.drew hS2 hg2)
        clear hS2 hg2
        cases b
        · have x0 : (w7.cell? ⟨w2.heap.size, 0, none⟩ = some (.string x.Name) ∧ w7.cell? ⟨w2.heap.size, 1, none⟩ = some (.int .i64 x.Length) ∧ w7.cell? ⟨w2.heap.size, 2, none⟩ = some (.int .i64 x.Ball) ∧ w7.cell? ⟨w2.heap.size, 3, none⟩ = some (.int .i64 x.Instep) ∧ w7.cell? ⟨w2.heap.size, 4, none⟩ = some (.int .i64 x.Heel) ∧ w7.cell? ⟨w2.heap.size, 5, none⟩ = some (.int .i64 x.Pitch)) ∧ (w7.cell? ⟨bb, 0, none⟩ = some (.string y.Name) ∧ w7.cell? ⟨bb, 1, none⟩ = some (.int .i64 y.Length) ∧ w7.cell? ⟨bb, 2, none⟩ = some (.int .i64 y.Ball) ∧ w7.cell? ⟨bb, 3, none⟩ = some (.int .i64 y.Instep) ∧ w7.cell? ⟨bb, 4, none⟩ = some (.int .i64 y.Heel) ∧ w7.cell? ⟨bb, 5, none⟩ = some (.int .i64 y.Pitch)) := ⟨lastC_cells (D.out.get 2 rfl : Own _ _ _ _ (lastC x)), last1_cells (D.out.get 0 rfl : Own _ _ _ _ [y])⟩
          go_wp2_with fail
          refine wp_region_held_drew (S := (fun w' => (w'.cell? ⟨w2.heap.size, 0, none⟩ = some (.string x.Name) ∧ w'.cell? ⟨w2.heap.size, 1, none⟩ = some (.int .i64 x.Length) ∧ w'.cell? ⟨w2.heap.size, 2, none⟩ = some (.int .i64 x.Ball) ∧ w'.cell? ⟨w2.heap.size, 3, none⟩ = some (.int .i64 x.Instep) ∧ w'.cell? ⟨w2.heap.size, 4, none⟩ = some (.int .i64 x.Heel) ∧ w'.cell? ⟨w2.heap.size, 5, none⟩ = some (.int .i64 x.Pitch)) ∧ (w'.cell? ⟨bb, 0, none⟩ = some (.string y.Name) ∧ w'.cell? ⟨bb, 1, none⟩ = some (.int .i64 y.Length) ∧ w'.cell? ⟨bb, 2, none⟩ = some (.int .i64 y.Ball) ∧ w'.cell? ⟨bb, 3, none⟩ = some (.int .i64 y.Instep) ∧ w'.cell? ⟨bb, 4, none⟩ = some (.int .i64 y.Heel) ∧ w'.cell? ⟨bb, 5, none⟩ = some (.int .i64 y.Pitch)))) (by kernel_rfl) x0 (fun hHeld => ?_)
          obtain ⟨wo, hwo⟩ : ∃ wo, wo = w7.drew := ⟨_, rfl⟩
          rw [← hwo] at hHeld ⊢
          have hbo : Below w7.heap.size w7 wo := by rw [hwo]; exact (Below.refl _ _).drew
          replace D := Lib.hid (D.out.later hbo)
          clear hwo x0 hbo
          refine wpAnyH_take (i := 0) (v := _) rfl (by kernel_rfl) (by kernel_rfl) (by kernel_rfl) (fun _ _ _ h => h) (Or.inl ⟨by rfl, (by intro w hSw; (try dsimp only at hSw); go_simp; try with_reducible rfl)⟩) (by assumption) ?_
          go_simp
          refine wpAnyH_take (i := 1) (v := _) rfl (by kernel_rfl) (by kernel_rfl) (by kernel_rfl) (fun _ _ _ h => h) (Or.inl ⟨by rfl, (by intro w hSw; (try dsimp only at hSw); go_simp; try with_reducible rfl)⟩) (by assumption) ?_
          go_simp
          refine wpAnyH_take (i := 2) (v := _) rfl (by kernel_rfl) (by kernel_rfl) (by kernel_rfl) (fun _ _ _ h => h) (Or.inl ⟨by rfl, (by intro w hSw; (try dsimp only at hSw); go_simp; try with_reducible rfl)⟩) (by assumption) ?_
          go_simp
          have G := D.out.up
          have V1 : Own _ _ _ _ (lastC x) := D.out.get 2 rfl
          have Y1 : Own _ _ _ _ [y] := D.out.get 0 rfl
          have v1 := V1.lt w2.heap.size rfl
          have y1 := Y1.lt bb rfl
          have R2p := R2.out.kept G (Or.inr (ne_blk (by have := hs0.out; omega)))
          have R4p := R4.out.kept G (Or.inr (ne_blk (by have := hs0.out; omega)))
          have hnA : w1.heap.size ≤ w2.heap.size := by have := hqA.out; omega
          have hnB : w1.heap.size ≤ bb := by have := hqB.out; omega
          refine wpAnyH_ready (rs := [3]) (by kernel_rfl) (by simp) ?_
          refine AllReadyH.cons rfl (fun K hK => ?_) AllReadyH.nil
          refine cast (if_pos (by rfl)).symm ?_; refine wp_store_own 30 (.tmp 2) (.tmp 36) rfl w.heap.size 30 w.heap.size 1 1 [lastZ] 0 _ (x : Last) rfl rfl rfl (by kernel_rfl) rfl R2p (by simp) ?_; intro wq hV2 hg2
          have V2 := V1.kept hg2 (Or.inr (ne_blk (by omega)))
          have Y2 := Y1.kept hg2 (Or.inr (ne_blk (by omega)))
          have R4q := R4p.kept hg2 (Or.inr (ne_blk (by omega)))
          refine hK.out _ _ (by exact ⟨lastC_cells V2, last1_cells Y2⟩) (fun hHeld => ?_)
          clear hK K
          go_simp
          refine wpAnyH_ready (rs := [4]) (by kernel_rfl) (by simp) ?_
          refine AllReadyH.cons rfl (fun K hK => ?_) AllReadyH.nil
          refine cast (if_pos (by rfl)).symm ?_; refine wp_store_own 30 (.tmp 3) (.tmp 37) rfl (w.heap.size + 1) 30 (w.heap.size + 1) 1 1 [lastZ] 0 _ (y : Last) rfl rfl rfl (by kernel_rfl) rfl R4q (by simp) ?_; intro wz hV4 hg4
          refine hK.out _ _ (by exact ⟨lastC_cells (V2.kept hg4 (Or.inr (ne_blk (by omega)))), last1_cells (Y2.kept hg4 (Or.inr (ne_blk (by omega))))⟩) (fun hHeld => ?_)
          clear hK K
          go_simp
          refine wpAnyH_take (i := 5) (v := _) rfl (by kernel_rfl) (by kernel_rfl) (by kernel_rfl) (fun _ _ _ h => h) (Or.inl ⟨by rfl, (by intro w hSw; (try dsimp only at hSw); go_simp; try with_reducible rfl)⟩) (by assumption) ?_
          go_simp
          refine wpAnyH_done (by kernel_rfl) ?_ _
          have hV2z := hV2.kept hg4 (Or.inr (ne_blk (by omega)))
          have qc := last1_cells hV2z
          have pc := last1_cells hV4
          go_wp2_with fail
          refine bodyPost_ret (v := .tuple #[.agg #[.string x.Name, .int .i64 x.Length, .int .i64 x.Ball, .int .i64 x.Instep, .int .i64 x.Heel, .int .i64 x.Pitch], .agg #[.string y.Name, .int .i64 y.Length, .int .i64 y.Ball, .int .i64 y.Instep, .int .i64 y.Heel, .int .i64 y.Pitch], .int .i64 s]) (by simp [results, Tryz.results22, go_sem, qc, pc]) rfl ?_
          have hF := below_mark (below_mark (drew_up hb0 G (by have := hs0.out; omega)) R2p (Nat.le_refl _) hg2) R4q (by omega) hg4
          exact ⟨x, y, s, rfl, hxn, hyn, hF⟩
        · go_wp2_with fail
          refine (l05Any_c w0.heap.size 0 _ (D.out.src.less (by omega))).mono ?_
          rintro e wx ⟨y', rfl, hyn', hS2, hg2⟩
          replace D := Lib.hid (D.out.drew hS2 hg2)
          clear hS2 hg2
          go_wp2_with (refine wpList_store_own rfl 30 (.tmp 9) (.tmp 35) rfl w1.heap.size 30 bb 1 1 [y] 0 _ (y' : Last) rfl rfl rfl (by kernel_rfl) rfl (D.out.get 0 rfl) (by simp) ?_; intro wv hRv hgv; replace D := Lib.hid (D.out.set 0 rfl (hRv : Own _ _ _ _ [y']) hgv (Or.inl rfl)); clear hRv hgv)
          have x0 : (wv.cell? ⟨w2.heap.size, 0, none⟩ = some (.string x.Name) ∧ wv.cell? ⟨w2.heap.size, 1, none⟩ = some (.int .i64 x.Length) ∧ wv.cell? ⟨w2.heap.size, 2, none⟩ = some (.int .i64 x.Ball) ∧ wv.cell? ⟨w2.heap.size, 3, none⟩ = some (.int .i64 x.Instep) ∧ wv.cell? ⟨w2.heap.size, 4, none⟩ = some (.int .i64 x.Heel) ∧ wv.cell? ⟨w2.heap.size, 5, none⟩ = some (.int .i64 x.Pitch)) ∧ (wv.cell? ⟨bb, 0, none⟩ = some (.string y'.Name) ∧ wv.cell? ⟨bb, 1, none⟩ = some (.int .i64 y'.Length) ∧ wv.cell? ⟨bb, 2, none⟩ = some (.int .i64 y'.Ball) ∧ wv.cell? ⟨bb, 3, none⟩ = some (.int .i64 y'.Instep) ∧ wv.cell? ⟨bb, 4, none⟩ = some (.int .i64 y'.Heel) ∧ wv.cell? ⟨bb, 5, none⟩ = some (.int .i64 y'.Pitch)) := ⟨lastC_cells (D.out.get 2 rfl : Own _ _ _ _ (lastC x)), last1_cells (D.out.get 0 rfl : Own _ _ _ _ [y'])⟩
          go_wp2_with fail
          refine wp_region_held_drew (S := (fun w' => (w'.cell? ⟨w2.heap.size, 0, none⟩ = some (.string x.Name) ∧ w'.cell? ⟨w2.heap.size, 1, none⟩ = some (.int .i64 x.Length) ∧ w'.cell? ⟨w2.heap.size, 2, none⟩ = some (.int .i64 x.Ball) ∧ w'.cell? ⟨w2.heap.size, 3, none⟩ = some (.int .i64 x.Instep) ∧ w'.cell? ⟨w2.heap.size, 4, none⟩ = some (.int .i64 x.Heel) ∧ w'.cell? ⟨w2.heap.size, 5, none⟩ = some (.int .i64 x.Pitch)) ∧ (w'.cell? ⟨bb, 0, none⟩ = some (.string y'.Name) ∧ w'.cell? ⟨bb, 1, none⟩ = some (.int .i64 y'.Length) ∧ w'.cell? ⟨bb, 2, none⟩ = some (.int .i64 y'.Ball) ∧ w'.cell? ⟨bb, 3, none⟩ = some (.int .i64 y'.Instep) ∧ w'.cell? ⟨bb, 4, none⟩ = some (.int .i64 y'.Heel) ∧ w'.cell? ⟨bb, 5, none⟩ = some (.int .i64 y'.Pitch)))) (by kernel_rfl) x0 (fun hHeld => ?_)
          obtain ⟨wo, hwo⟩ : ∃ wo, wo = wv.drew := ⟨_, rfl⟩
          rw [← hwo] at hHeld ⊢
          have hbo : Below wv.heap.size wv wo := by rw [hwo]; exact (Below.refl _ _).drew
          replace D := Lib.hid (D.out.later hbo)
          clear hwo x0 hbo
          refine wpAnyH_take (i := 0) (v := _) rfl (by kernel_rfl) (by kernel_rfl) (by kernel_rfl) (fun _ _ _ h => h) (Or.inl ⟨by rfl, (by intro w hSw; (try dsimp only at hSw); go_simp; try with_reducible rfl)⟩) (by assumption) ?_
          go_simp
          refine wpAnyH_take (i := 1) (v := _) rfl (by kernel_rfl) (by kernel_rfl) (by kernel_rfl) (fun _ _ _ h => h) (Or.inl ⟨by rfl, (by intro w hSw; (try dsimp only at hSw); go_simp; try with_reducible rfl)⟩) (by assumption) ?_
          go_simp
          refine wpAnyH_take (i := 2) (v := _) rfl (by kernel_rfl) (by kernel_rfl) (by kernel_rfl) (fun _ _ _ h => h) (Or.inl ⟨by rfl, (by intro w hSw; (try dsimp only at hSw); go_simp; try with_reducible rfl)⟩) (by assumption) ?_
          go_simp
          have G := D.out.up
          have V1 : Own _ _ _ _ (lastC x) := D.out.get 2 rfl
          have Y1 : Own _ _ _ _ [y'] := D.out.get 0 rfl
          have v1 := V1.lt w2.heap.size rfl
          have y1 := Y1.lt bb rfl
          have R2p := R2.out.kept G (Or.inr (ne_blk (by have := hs0.out; omega)))
          have R4p := R4.out.kept G (Or.inr (ne_blk (by have := hs0.out; omega)))
          have hnA : w1.heap.size ≤ w2.heap.size := by have := hqA.out; omega
          have hnB : w1.heap.size ≤ bb := by have := hqB.out; omega
          refine wpAnyH_ready (rs := [3]) (by kernel_rfl) (by simp) ?_
          refine AllReadyH.cons rfl (fun K hK => ?_) AllReadyH.nil
          refine cast (if_pos (by rfl)).symm ?_; refine wp_store_own 30 (.tmp 2) (.tmp 36) rfl w.heap.size 30 w.heap.size 1 1 [lastZ] 0 _ (x : Last) rfl rfl rfl (by kernel_rfl) rfl R2p (by simp) ?_; intro wq hV2 hg2
          have V2 := V1.kept hg2 (Or.inr (ne_blk (by omega)))
          have Y2 := Y1.kept hg2 (Or.inr (ne_blk (by omega)))
          have R4q := R4p.kept hg2 (Or.inr (ne_blk (by omega)))
          refine hK.out _ _ (by exact ⟨lastC_cells V2, last1_cells Y2⟩) (fun hHeld => ?_)
          clear hK K
          go_simp
          refine wpAnyH_ready (rs := [4]) (by kernel_rfl) (by simp) ?_
          refine AllReadyH.cons rfl (fun K hK => ?_) AllReadyH.nil
          refine cast (if_pos (by rfl)).symm ?_; refine wp_store_own 30 (.tmp 3) (.tmp 37) rfl (w.heap.size + 1) 30 (w.heap.size + 1) 1 1 [lastZ] 0 _ (y' : Last) rfl rfl rfl (by kernel_rfl) rfl R4q (by simp) ?_; intro wz hV4 hg4
          refine hK.out _ _ (by exact ⟨lastC_cells (V2.kept hg4 (Or.inr (ne_blk (by omega)))), last1_cells (Y2.kept hg4 (Or.inr (ne_blk (by omega))))⟩) (fun hHeld => ?_)
          clear hK K
          go_simp
          refine wpAnyH_take (i := 5) (v := _) rfl (by kernel_rfl) (by kernel_rfl) (by kernel_rfl) (fun _ _ _ h => h) (Or.inl ⟨by rfl, (by intro w hSw; (try dsimp only at hSw); go_simp; try with_reducible rfl)⟩) (by assumption) ?_
          go_simp
          refine wpAnyH_done (by kernel_rfl) ?_ _
          have hV2z := hV2.kept hg4 (Or.inr (ne_blk (by omega)))
          have qc := last1_cells hV2z
          have pc := last1_cells hV4
          go_wp2_with fail
          refine bodyPost_ret (v := .tuple #[.agg #[.string x.Name, .int .i64 x.Length, .int .i64 x.Ball, .int .i64 x.Instep, .int .i64 x.Heel, .int .i64 x.Pitch], .agg #[.string y'.Name, .int .i64 y'.Length, .int .i64 y'.Ball, .int .i64 y'.Instep, .int .i64 y'.Heel, .int .i64 y'.Pitch], .int .i64 s]) (by simp [results, Tryz.results22, go_sem, qc, pc]) rfl ?_
          have hF := below_mark (below_mark (drew_up hb0 G (by have := hs0.out; omega)) R2p (Nat.le_refl _) hg2) R4q (by omega) hg4
          exact ⟨x, y', s, rfl, hxn, hyn', hF⟩
      · have hc' : (c == 0) = false := beq_eq_false_iff_ne.2 hc
        go_wp2_with fail
        refine (l05Any_c w0.heap.size 0 _ (D.out.src.less (by omega))).mono ?_
        rintro e wx ⟨y', rfl, hyn', hS2, hg2⟩
        replace D := Lib.hid (D.out.drew hS2 hg2)
        clear hS2 hg2
        go_wp2_with (refine wpList_store_own rfl 30 (.tmp 9) (.tmp 35) rfl w1.heap.size 30 bb 1 1 [y] 0 _ (y' : Last) rfl rfl rfl (by kernel_rfl) rfl (D.out.get 0 rfl) (by simp) ?_; intro wv hRv hgv; replace D := Lib.hid (D.out.set 0 rfl (hRv : Own _ _ _ _ [y']) hgv (Or.inl rfl)); clear hRv hgv)
        have x0 : (wv.cell? ⟨w2.heap.size, 0, none⟩ = some (.string x.Name) ∧ wv.cell? ⟨w2.heap.size, 1, none⟩ = some (.int .i64 x.Length) ∧ wv.cell? ⟨w2.heap.size, 2, none⟩ = some (.int .i64 x.Ball) ∧ wv.cell? ⟨w2.heap.size, 3, none⟩ = some (.int .i64 x.Instep) ∧ wv.cell? ⟨w2.heap.size, 4, none⟩ = some (.int .i64 x.Heel) ∧ wv.cell? ⟨w2.heap.size, 5, none⟩ = some (.int .i64 x.Pitch)) ∧ (wv.cell? ⟨bb, 0, none⟩ = some (.string y'.Name) ∧ wv.cell? ⟨bb, 1, none⟩ = some (.int .i64 y'.Length) ∧ wv.cell? ⟨bb, 2, none⟩ = some (.int .i64 y'.Ball) ∧ wv.cell? ⟨bb, 3, none⟩ = some (.int .i64 y'.Instep) ∧ wv.cell? ⟨bb, 4, none⟩ = some (.int .i64 y'.Heel) ∧ wv.cell? ⟨bb, 5, none⟩ = some (.int .i64 y'.Pitch)) := ⟨lastC_cells (D.out.get 2 rfl : Own _ _ _ _ (lastC x)), last1_cells (D.out.get 0 rfl : Own _ _ _ _ [y'])⟩
        go_wp2_with fail
        refine wp_region_held_drew (S := (fun w' => (w'.cell? ⟨w2.heap.size, 0, none⟩ = some (.string x.Name) ∧ w'.cell? ⟨w2.heap.size, 1, none⟩ = some (.int .i64 x.Length) ∧ w'.cell? ⟨w2.heap.size, 2, none⟩ = some (.int .i64 x.Ball) ∧ w'.cell? ⟨w2.heap.size, 3, none⟩ = some (.int .i64 x.Instep) ∧ w'.cell? ⟨w2.heap.size, 4, none⟩ = some (.int .i64 x.Heel) ∧ w'.cell? ⟨w2.heap.size, 5, none⟩ = some (.int .i64 x.Pitch)) ∧ (w'.cell? ⟨bb, 0, none⟩ = some (.string y'.Name) ∧ w'.cell? ⟨bb, 1, none⟩ = some (.int .i64 y'.Length) ∧ w'.cell? ⟨bb, 2, none⟩ = some (.int .i64 y'.Ball) ∧ w'.cell? ⟨bb, 3, none⟩ = some (.int .i64 y'.Instep) ∧ w'.cell? ⟨bb, 4, none⟩ = some (.int .i64 y'.Heel) ∧ w'.cell? ⟨bb, 5, none⟩ = some (.int .i64 y'.Pitch)))) (by kernel_rfl) x0 (fun hHeld => ?_)
        obtain ⟨wo, hwo⟩ : ∃ wo, wo = wv.drew := ⟨_, rfl⟩
        rw [← hwo] at hHeld ⊢
        have hbo : Below wv.heap.size wv wo := by rw [hwo]; exact (Below.refl _ _).drew
        replace D := Lib.hid (D.out.later hbo)
        clear hwo x0 hbo
        refine wpAnyH_take (i := 0) (v := _) rfl (by kernel_rfl) (by kernel_rfl) (by kernel_rfl) (fun _ _ _ h => h) (Or.inl ⟨by rfl, (by intro w hSw; (try dsimp only at hSw); go_simp; try with_reducible rfl)⟩) (by assumption) ?_
        go_simp
        refine wpAnyH_take (i := 1) (v := _) rfl (by kernel_rfl) (by kernel_rfl) (by kernel_rfl) (fun _ _ _ h => h) (Or.inl ⟨by rfl, (by intro w hSw; (try dsimp only at hSw); go_simp; try with_reducible rfl)⟩) (by assumption) ?_
        go_simp
        refine wpAnyH_take (i := 2) (v := _) rfl (by kernel_rfl) (by kernel_rfl) (by kernel_rfl) (fun _ _ _ h => h) (Or.inl ⟨by rfl, (by intro w hSw; (try dsimp only at hSw); go_simp; try with_reducible rfl)⟩) (by assumption) ?_
        go_simp
        have G := D.out.up
        have V1 : Own _ _ _ _ (lastC x) := D.out.get 2 rfl
        have Y1 : Own _ _ _ _ [y'] := D.out.get 0 rfl
        have v1 := V1.lt w2.heap.size rfl
        have y1 := Y1.lt bb rfl
        have R2p := R2.out.kept G (Or.inr (ne_blk (by have := hs0.out; omega)))
        have R4p := R4.out.kept G (Or.inr (ne_blk (by have := hs0.out; omega)))
        have hnA : w1.heap.size ≤ w2.heap.size := by have := hqA.out; omega
        have hnB : w1.heap.size ≤ bb := by have := hqB.out; omega
        refine wpAnyH_ready (rs := [3]) (by kernel_rfl) (by simp) ?_
        refine AllReadyH.cons rfl (fun K hK => ?_) AllReadyH.nil
        refine cast (if_pos (by rfl)).symm ?_; refine wp_store_own 30 (.tmp 2) (.tmp 36) rfl w.heap.size 30 w.heap.size 1 1 [lastZ] 0 _ (x : Last) rfl rfl rfl (by kernel_rfl) rfl R2p (by simp) ?_; intro wq hV2 hg2
        have V2 := V1.kept hg2 (Or.inr (ne_blk (by omega)))
        have Y2 := Y1.kept hg2 (Or.inr (ne_blk (by omega)))
        have R4q := R4p.kept hg2 (Or.inr (ne_blk (by omega)))
        refine hK.out _ _ (by exact ⟨lastC_cells V2, last1_cells Y2⟩) (fun hHeld => ?_)
        clear hK K
        go_simp
        refine wpAnyH_ready (rs := [4]) (by kernel_rfl) (by simp) ?_
        refine AllReadyH.cons rfl (fun K hK => ?_) AllReadyH.nil
        refine cast (if_pos (by rfl)).symm ?_; refine wp_store_own 30 (.tmp 3) (.tmp 37) rfl (w.heap.size + 1) 30 (w.heap.size + 1) 1 1 [lastZ] 0 _ (y' : Last) rfl rfl rfl (by kernel_rfl) rfl R4q (by simp) ?_; intro wz hV4 hg4
        refine hK.out _ _ (by exact ⟨lastC_cells (V2.kept hg4 (Or.inr (ne_blk (by omega)))), last1_cells (Y2.kept hg4 (Or.inr (ne_blk (by omega))))⟩) (fun hHeld => ?_)
        clear hK K
        go_simp
        refine wpAnyH_take (i := 5) (v := _) rfl (by kernel_rfl) (by kernel_rfl) (by kernel_rfl) (fun _ _ _ h => h) (Or.inl ⟨by rfl, (by intro w hSw; (try dsimp only at hSw); go_simp; try with_reducible rfl)⟩) (by assumption) ?_
        go_simp
        refine wpAnyH_done (by kernel_rfl) ?_ _
        have hV2z := hV2.kept hg4 (Or.inr (ne_blk (by omega)))
        have qc := last1_cells hV2z
        have pc := last1_cells hV4
        go_wp2_with fail
        refine bodyPost_ret (v := .tuple #[.agg #[.string x.Name, .int .i64 x.Length, .int .i64 x.Ball, .int .i64 x.Instep, .int .i64 x.Heel, .int .i64 x.Pitch], .agg #[.string y'.Name, .int .i64 y'.Length, .int .i64 y'.Ball, .int .i64 y'.Instep, .int .i64 y'.Heel, .int .i64 y'.Pitch], .int .i64 s]) (by simp [results, Tryz.results22, go_sem, qc, pc]) rfl ?_
        have hF := below_mark (below_mark (drew_up hb0 G (by have := hs0.out; omega)) R2p (Nat.le_refl _) hg2) R4q (by omega) hg4
        exact ⟨x, y', s, rfl, hxn, hyn', hF⟩
  · go_simp
    obtain ⟨wt, hwt⟩ : ∃ wt, wt = wo.alloc (.cells #[.string { data := #[] }, .int .i64 0, .int .i64 0, .int .i64 0, .int .i64 0, .int .i64 0] 30) := ⟨_, rfl⟩
    rw [← hwt]
    have hqB : w1.heap.size ≤ wo.heap.size := D.out.up.size
    replace D := Lib.hid (D.out.add (w' := wt) (by rw [hwt]; exact newB wo _) (by rw [hwt]; exact own_last1 wo 30 lastZ))
    replace hwt := Lib.hid hwt
    obtain ⟨bb, hbb⟩ : ∃ b, b = wo.heap.size := ⟨_, rfl⟩
    rw [← hbb] at D hqB ⊢
    clear hbb hwt
    replace hqB := Lib.hid hqB
    refine hK.out _ _ (⟨lastC_cells (D.out.get 2 rfl), gradeC_cells (D.out.get 1 rfl)⟩) (fun hHeld => ?_)
    clear hK K
    go_simp
    refine wpAnyH_ready (rs := [3]) (by kernel_rfl) (by simp) ?_
    refine AllReadyH.cons rfl (fun K hK => ?_) AllReadyH.nil
    go_simp
    refine (l00Max_c 0 s wt).mono ?_
    rintro e w' ⟨rfl, rfl⟩
    generalize max 0 s = m
    try go_simp
    refine hK.out _ _ (⟨lastC_cells (D.out.get 2 rfl), gradeC_cells (D.out.get 1 rfl)⟩) (fun hHeld => ?_)
    clear hK K
    go_simp
    refine wpAnyH_ready (rs := [4]) (by kernel_rfl) (by simp) ?_
    refine AllReadyH.cons rfl (fun K hK => ?_) AllReadyH.nil
    go_simp
    refine (l00Min_c 30 m wt).mono ?_
    rintro e w' ⟨rfl, rfl⟩
    generalize min 30 m = u
    try go_simp
    refine hK.out _ _ (⟨lastC_cells (D.out.get 2 rfl), gradeC_cells (D.out.get 1 rfl)⟩) (fun hHeld => ?_)
    clear hK K
    go_simp
    refine wpAnyH_ready (rs := [5]) (by kernel_rfl) (by simp) ?_
    refine AllReadyH.cons rfl (fun K hK => ?_) AllReadyH.nil
    go_simp
    refine (specGradeLast_c x g u wt (Nat.le_trans hxn (by decide))).mono ?_
    rintro e wp ⟨rfl, hb⟩
    replace D := Lib.hid (D.out.later hb)
    clear hb
    have hyn : (glRes x g u).Name.size ≤ 100 := glRes_name x g u hxn
    generalize glRes x g u = y at hyn ⊢
    generalize glCode x g u = c
    try go_simp
    refine hK.out _ _ (⟨lastC_cells (D.out.get 2 rfl), gradeC_cells (D.out.get 1 rfl)⟩) (fun hHeld => ?_)
    clear hK K
    go_simp
    refine wpAnyH_take (i := 6) (v := _) rfl (by kernel_rfl) (by kernel_rfl) (by kernel_rfl) (fun _ _ _ h => h) (Or.inl ⟨by rfl, (by intro w hSw; (try dsimp only at hSw); go_simp; try with_reducible rfl)⟩) (by assumption) ?_
    go_simp
    refine wpAnyH_take (i := 7) (v := _) rfl (by kernel_rfl) (by kernel_rfl) (by kernel_rfl) (fun _ _ _ h => h) (Or.inl ⟨by rfl, (by intro w hSw; (try dsimp only at hSw); go_simp; try with_reducible rfl)⟩) (by assumption) ?_
    go_simp
    refine wpAnyH_take (i := 8) (v := _) rfl (by kernel_rfl) (by kernel_rfl) (by kernel_rfl) (fun _ _ _ h => h) (Or.inl ⟨by rfl, (by intro w hSw; (try dsimp only at hSw); go_simp; try with_reducible rfl)⟩) (by assumption) ?_
    go_simp
    refine wpAnyH_ready (rs := [10]) (by kernel_rfl) (by simp) ?_
    refine AllReadyH.cons rfl (fun K hK => ?_) AllReadyH.nil
    refine cast (if_pos (by rfl)).symm ?_; refine wp_store_own 30 (.tmp 9) (.tmp 26) rfl w1.heap.size 30 bb 1 1 [lastZ] 0 _ (y : Last) rfl rfl rfl (by kernel_rfl) rfl (D.out.get 0 rfl) (by simp) ?_; intro wq hRq hgq
    replace D := Lib.hid (D.out.set 0 rfl (hRq : Own _ _ _ _ [y]) hgq (Or.inl rfl))
    clear hRq hgq
    refine hK.out _ _ (⟨lastC_cells (D.out.get 2 rfl), gradeC_cells (D.out.get 1 rfl)⟩) (fun hHeld => ?_)
    clear hK K
    go_simp
    refine wpAnyH_take (i := 11) (v := _) rfl (by kernel_rfl) (by kernel_rfl) (by kernel_rfl) (fun _ _ _ h => h) (Or.inl ⟨by rfl, (by intro w hSw; (try dsimp only at hSw); go_simp; try with_reducible rfl)⟩) (by assumption) ?_
    go_simp
    refine wpAnyH_done (by kernel_rfl) ?_ _
    by_cases hc : c = 0
    · subst hc
      go_wp2_with fail
      refine (one_c w0.heap.size 26 4 _ (D.out.src.less (by omega)) (by omega) (by omega)).mono ?_
      rintro e w7 ⟨b, rfl, hS2, hg2⟩
      replace D := Lib.hid (D.out.drew hS2 hg2)
      clear hS2 hg2
      cases b
      · have x0 : (w7.cell? ⟨w2.heap.size, 0, none⟩ = some (.string x.Name) ∧ w7.cell? ⟨w2.heap.size, 1, none⟩ = some (.int .i64 x.Length) ∧ w7.cell? ⟨w2.heap.size, 2, none⟩ = some (.int .i64 x.Ball) ∧ w7.cell? ⟨w2.heap.size, 3, none⟩ = some (.int .i64 x.Instep) ∧ w7.cell? ⟨w2.heap.size, 4, none⟩ = some (.int .i64 x.Heel) ∧ w7.cell? ⟨w2.heap.size, 5, none⟩ = some (.int .i64 x.Pitch)) ∧ (w7.cell? ⟨bb, 0, none⟩ = some (.string y.Name) ∧ w7.cell? ⟨bb, 1, none⟩ = some (.int .i64 y.Length) ∧ w7.cell? ⟨bb, 2, none⟩ = some (.int .i64 y.Ball) ∧ w7.cell? ⟨bb, 3, none⟩ = some (.int .i64 y.Instep) ∧ w7.cell? ⟨bb, 4, none⟩ = some (.int .i64 y.Heel) ∧ w7.cell? ⟨bb, 5, none⟩ = some (.int .i64 y.Pitch)) := ⟨lastC_cells (D.out.get 2 rfl : Own _ _ _ _ (lastC x)), last1_cells (D.out.get 0 rfl : Own _ _ _ _ [y])⟩
        go_wp2_with fail
        refine wp_region_held_drew (S := (fun w' => (w'.cell? ⟨w2.heap.size, 0, none⟩ = some (.string x.Name) ∧ w'.cell? ⟨w2.heap.size, 1, none⟩ = some (.int .i64 x.Length) ∧ w'.cell? ⟨w2.heap.size, 2, none⟩ = some (.int .i64 x.Ball) ∧ w'.cell? ⟨w2.heap.size, 3, none⟩ = some (.int .i64 x.Instep) ∧ w'.cell? ⟨w2.heap.size, 4, none⟩ = some (.int .i64 x.Heel) ∧ w'.cell? ⟨w2.heap.size, 5, none⟩ = some (.int .i64 x.Pitch)) ∧ (w'.cell? ⟨bb, 0, none⟩ = some (.string y.Name) ∧ w'.cell? ⟨bb, 1, none⟩ = some (.int .i64 y.Length) ∧ w'.cell? ⟨bb, 2, none⟩ = some (.int .i64 y.Ball) ∧ w'.cell? ⟨bb, 3, none⟩ = some (.int .i64 y.Instep) ∧ w'.cell? ⟨bb, 4, none⟩ = some (.int .i64 y.Heel) ∧ w'.cell? ⟨bb, 5, none⟩ = some (.int .i64 y.Pitch)))) (by kernel_rfl) x0 (fun hHeld => ?_)
        obtain ⟨wo, hwo⟩ : ∃ wo, wo = w7.drew := ⟨_, rfl⟩
        rw [← hwo] at hHeld ⊢
        have hbo : Below w7.heap.size w7 wo := by rw [hwo]; exact (Below.refl _ _).drew
        replace D := Lib.hid (D.out.later hbo)
        clear hwo x0 hbo
        refine wpAnyH_take (i := 0) (v := _) rfl (by kernel_rfl) (by kernel_rfl) (by kernel_rfl) (fun _ _ _ h => h) (Or.inl ⟨by rfl, (by intro w hSw; (try dsimp only at hSw); go_simp; try with_reducible rfl)⟩) (by assumption) ?_
        go_simp
        refine wpAnyH_take (i := 1) (v := _) rfl (by kernel_rfl) (by kernel_rfl) (by kernel_rfl) (fun _ _ _ h => h) (Or.inl ⟨by rfl, (by intro w hSw; (try dsimp only at hSw); go_simp; try with_reducible rfl)⟩) (by assumption) ?_
        go_simp
        refine wpAnyH_take (i := 2) (v := _) rfl (by kernel_rfl) (by kernel_rfl) (by kernel_rfl) (fun _ _ _ h => h) (Or.inl ⟨by rfl, (by intro w hSw; (try dsimp only at hSw); go_simp; try with_reducible rfl)⟩) (by assumption) ?_
        go_simp
        have G := D.out.up
        have V1 : Own _ _ _ _ (lastC x) := D.out.get 2 rfl
        have Y1 : Own _ _ _ _ [y] := D.out.get 0 rfl
        have v1 := V1.lt w2.heap.size rfl
        have y1 := Y1.lt bb rfl
        have R2p := R2.out.kept G (Or.inr (ne_blk (by have := hs0.out; omega)))
        have R4p := R4.out.kept G (Or.inr (ne_blk (by have := hs0.out; omega)))
        have hnA : w1.heap.size ≤ w2.heap.size := by have := hqA.out; omega
        have hnB : w1.heap.size ≤ bb := by have := hqB.out; omega
        refine wpAnyH_ready (rs := [3]) (by kernel_rfl) (by simp) ?_
        refine AllReadyH.cons rfl (fun K hK => ?_) AllReadyH.nil
        refine cast (if_pos (by rfl)).symm ?_; refine wp_store_own 30 (.tmp 2) (.tmp 36) rfl w.heap.size 30 w.heap.size 1 1 [lastZ] 0 _ (x : Last) rfl rfl rfl (by kernel_rfl) rfl R2p (by simp) ?_; intro wq hV2 hg2
        have V2 := V1.kept hg2 (Or.inr (ne_blk (by omega)))
        have Y2 := Y1.kept hg2 (Or.inr (ne_blk (by omega)))
        have R4q := R4p.kept hg2 (Or.inr (ne_blk (by omega)))
        refine hK.out _ _ (by exact ⟨lastC_cells V2, last1_cells Y2⟩) (fun hHeld => ?_)
        clear hK K
        go_simp
        refine wpAnyH_ready (rs := [4]) (by kernel_rfl) (by simp) ?_
        refine AllReadyH.cons rfl (fun K hK => ?_) AllReadyH.nil
        refine cast (if_pos (by rfl)).symm ?_; refine wp_store_own 30 (.tmp 3) (.tmp 37) rfl (w.heap.size + 1) 30 (w.heap.size + 1) 1 1 [lastZ] 0 _ (y : Last) rfl rfl rfl (by kernel_rfl) rfl R4q (by simp) ?_; intro wz hV4 hg4
        refine hK.out _ _ (by exact ⟨lastC_cells (V2.kept hg4 (Or.inr (ne_blk (by omega)))), last1_cells (Y2.kept hg4 (Or.inr (ne_blk (by omega))))⟩) (fun hHeld => ?_)
        clear hK K
        go_simp
        refine wpAnyH_take (i := 5) (v := _) rfl (by kernel_rfl) (by kernel_rfl) (by kernel_rfl) (fun _ _ _ h => h) (Or.inl ⟨by rfl, (by intro w hSw; (try dsimp only at hSw); go_simp; try with_reducible rfl)⟩) (by assumption) ?_
        go_simp
        refine wpAnyH_done (by kernel_rfl) ?_ _
        have hV2z := hV2.kept hg4 (Or.inr (ne_blk (by omega)))
        have qc := last1_cells hV2z
        have pc := last1_cells hV4
        go_wp2_with fail
        refine bodyPost_ret (v := .tuple #[.agg #[.string x.Name, .int .i64 x.Length, .int .i64 x.Ball, .int .i64 x.Instep, .int .i64 x.Heel, .int .i64 x.Pitch], .agg #[.string y.Name, .int .i64 y.Length, .int .i64 y.Ball, .int .i64 y.Instep, .int .i64 y.Heel, .int .i64 y.Pitch], .int .i64 s]) (by simp [results, Tryz.results22, go_sem, qc, pc]) rfl ?_
        have hF := below_mark (below_mark (drew_up hb0 G (by have := hs0.out; omega)) R2p (Nat.le_refl _) hg2) R4q (by omega) hg4
        exact ⟨x, y, s, rfl, hxn, hyn, hF⟩
      · go_wp2_with fail
        refine (l05Any_c w0.heap.size 0 _ (D.out.src.less (by omega))).mono ?_
        rintro e wx ⟨y', rfl, hyn', hS2, hg2⟩
        replace D := Lib.hid (D.out.drew hS2 hg2)
        clear hS2 hg2
        go_wp2_with (refine wpList_store_own rfl 30 (.tmp 9) (.tmp 35) rfl w1.heap.size 30 bb 1 1 [y] 0 _ (y' : Last) rfl rfl rfl (by kernel_rfl) rfl (D.out.get 0 rfl) (by simp) ?_; intro wv hRv hgv; replace D := Lib.hid (D.out.set 0 rfl (hRv : Own _ _ _ _ [y']) hgv (Or.inl rfl)); clear hRv hgv)
        have x0 : (wv.cell? ⟨w2.heap.size, 0, none⟩ = some (.string x.Name) ∧ wv.cell? ⟨w2.heap.size, 1, none⟩ = some (.int .i64 x.Length) ∧ wv.cell? ⟨w2.heap.size, 2, none⟩ = some (.int .i64 x.Ball) ∧ wv.cell? ⟨w2.heap.size, 3, none⟩ = some (.int .i64 x.Instep) ∧ wv.cell? ⟨w2.heap.size, 4, none⟩ = some (.int .i64 x.Heel) ∧ wv.cell? ⟨w2.heap.size, 5, none⟩ = some (.int .i64 x.Pitch)) ∧ (wv.cell? ⟨bb, 0, none⟩ = some (.string y'.Name) ∧ wv.cell? ⟨bb, 1, none⟩ = some (.int .i64 y'.Length) ∧ wv.cell? ⟨bb, 2, none⟩ = some (.int .i64 y'.Ball) ∧ wv.cell? ⟨bb, 3, none⟩ = some (.int .i64 y'.Instep) ∧ wv.cell? ⟨bb, 4, none⟩ = some (.int .i64 y'.Heel) ∧ wv.cell? ⟨bb, 5, none⟩ = some (.int .i64 y'.Pitch)) := ⟨lastC_cells (D.out.get 2 rfl : Own _ _ _ _ (lastC x)), last1_cells (D.out.get 0 rfl : Own _ _ _ _ [y'])⟩
        go_wp2_with fail
        refine wp_region_held_drew (S := (fun w' => (w'.cell? ⟨w2.heap.size, 0, none⟩ = some (.string x.Name) ∧ w'.cell? ⟨w2.heap.size, 1, none⟩ = some (.int .i64 x.Length) ∧ w'.cell? ⟨w2.heap.size, 2, none⟩ = some (.int .i64 x.Ball) ∧ w'.cell? ⟨w2.heap.size, 3, none⟩ = some (.int .i64 x.Instep) ∧ w'.cell? ⟨w2.heap.size, 4, none⟩ = some (.int .i64 x.Heel) ∧ w'.cell? ⟨w2.heap.size, 5, none⟩ = some (.int .i64 x.Pitch)) ∧ (w'.cell? ⟨bb, 0, none⟩ = some (.string y'.Name) ∧ w'.cell? ⟨bb, 1, none⟩ = some (.int .i64 y'.Length) ∧ w'.cell? ⟨bb, 2, none⟩ = some (.int .i64 y'.Ball) ∧ w'.cell? ⟨bb, 3, none⟩ = some (.int .i64 y'.Instep) ∧ w'.cell? ⟨bb, 4, none⟩ = some (.int .i64 y'.Heel) ∧ w'.cell? ⟨bb, 5, none⟩ = some (.int .i64 y'.Pitch)))) (by kernel_rfl) x0 (fun hHeld => ?_)
        obtain ⟨wo, hwo⟩ : ∃ wo, wo = wv.drew := ⟨_, rfl⟩
        rw [← hwo] at hHeld ⊢
        have hbo : Below wv.heap.size wv wo := by rw [hwo]; exact (Below.refl _ _).drew
        replace D := Lib.hid (D.out.later hbo)
        clear hwo x0 hbo
        refine wpAnyH_take (i := 0) (v := _) rfl (by kernel_rfl) (by kernel_rfl) (by kernel_rfl) (fun _ _ _ h => h) (Or.inl ⟨by rfl, (by intro w hSw; (try dsimp only at hSw); go_simp; try with_reducible rfl)⟩) (by assumption) ?_
        go_simp
        refine wpAnyH_take (i := 1) (v := _) rfl (by kernel_rfl) (by kernel_rfl) (by kernel_rfl) (fun _ _ _ h => h) (Or.inl ⟨by rfl, (by intro w hSw; (try dsimp only at hSw); go_simp; try with_reducible rfl)⟩) (by assumption) ?_
        go_simp
        refine wpAnyH_take (i := 2) (v := _) rfl (by kernel_rfl) (by kernel_rfl) (by kernel_rfl) (fun _ _ _ h => h) (Or.inl ⟨by rfl, (by intro w hSw; (try dsimp only at hSw); go_simp; try with_reducible rfl)⟩) (by assumption) ?_
        go_simp
        have G := D.out.up
        have V1 : Own _ _ _ _ (lastC x) := D.out.get 2 rfl
        have Y1 : Own _ _ _ _ [y'] := D.out.get 0 rfl
        have v1 := V1.lt w2.heap.size rfl
        have y1 := Y1.lt bb rfl
        have R2p := R2.out.kept G (Or.inr (ne_blk (by have := hs0.out; omega)))
        have R4p := R4.out.kept G (Or.inr (ne_blk (by have := hs0.out; omega)))
        have hnA : w1.heap.size ≤ w2.heap.size := by have := hqA.out; omega
        have hnB : w1.heap.size ≤ bb := by have := hqB.out; omega
        refine wpAnyH_ready (rs := [3]) (by kernel_rfl) (by simp) ?_
        refine AllReadyH.cons rfl (fun K hK => ?_) AllReadyH.nil
        refine cast (if_pos (by rfl)).symm ?_; refine wp_store_own 30 (.tmp 2) (.tmp 36) rfl w.heap.size 30 w.heap.size 1 1 [lastZ] 0 _ (x : Last) rfl rfl rfl (by kernel_rfl) rfl R2p (by simp) ?_; intro wq hV2 hg2
        have V2 := V1.kept hg2 (Or.inr (ne_blk (by omega)))
        have Y2 := Y1.kept hg2 (Or.inr (ne_blk (by omega)))
        have R4q := R4p.kept hg2 (Or.inr (ne_blk (by omega)))
        refine hK.out _ _ (by exact ⟨lastC_cells V2, last1_cells Y2⟩) (fun hHeld => ?_)
        clear hK K
        go_simp
        refine wpAnyH_ready (rs := [4]) (by kernel_rfl) (by simp) ?_
        refine AllReadyH.cons rfl (fun K hK => ?_) AllReadyH.nil
        refine cast (if_pos (by rfl)).symm ?_; refine wp_store_own 30 (.tmp 3) (.tmp 37) rfl (w.heap.size + 1) 30 (w.heap.size + 1) 1 1 [lastZ] 0 _ (y' : Last) rfl rfl rfl (by kernel_rfl) rfl R4q (by simp) ?_; intro wz hV4 hg4
        refine hK.out _ _ (by exact ⟨lastC_cells (V2.kept hg4 (Or.inr (ne_blk (by omega)))), last1_cells (Y2.kept hg4 (Or.inr (ne_blk (by omega))))⟩) (fun hHeld => ?_)
        clear hK K
        go_simp
        refine wpAnyH_take (i := 5) (v := _) rfl (by kernel_rfl) (by kernel_rfl) (by kernel_rfl) (fun _ _ _ h => h) (Or.inl ⟨by rfl, (by intro w hSw; (try dsimp only at hSw); go_simp; try with_reducible rfl)⟩) (by assumption) ?_
        go_simp
        refine wpAnyH_done (by kernel_rfl) ?_ _
        have hV2z := hV2.kept hg4 (Or.inr (ne_blk (by omega)))
        have qc := last1_cells hV2z
        have pc := last1_cells hV4
        go_wp2_with fail
        refine bodyPost_ret (v := .tuple #[.agg #[.string x.Name, .int .i64 x.Length, .int .i64 x.Ball, .int .i64 x.Instep, .int .i64 x.Heel, .int .i64 x.Pitch], .agg #[.string y'.Name, .int .i64 y'.Length, .int .i64 y'.Ball, .int .i64 y'.Instep, .int .i64 y'.Heel, .int .i64 y'.Pitch], .int .i64 s]) (by simp [results, Tryz.results22, go_sem, qc, pc]) rfl ?_
        have hF := below_mark (below_mark (drew_up hb0 G (by have := hs0.out; omega)) R2p (Nat.le_refl _) hg2) R4q (by omega) hg4
        exact ⟨x, y', s, rfl, hxn, hyn', hF⟩
    · have hc' : (c == 0) = false := beq_eq_false_iff_ne.2 hc
      go_wp2_with fail
      refine (l05Any_c w0.heap.size 0 _ (D.out.src.less (by omega))).mono ?_
      rintro e wx ⟨y', rfl, hyn', hS2, hg2⟩
      replace D := Lib.hid (D.out.drew hS2 hg2)
      clear hS2 hg2
      go_wp2_with (refine wpList_store_own rfl 30 (.tmp 9) (.tmp 35) rfl w1.heap.size 30 bb 1 1 [y] 0 _ (y' : Last) rfl rfl rfl (by kernel_rfl) rfl (D.out.get 0 rfl) (by simp) ?_; intro wv hRv hgv; replace D := Lib.hid (D.out.set 0 rfl (hRv : Own _ _ _ _ [y']) hgv (Or.inl rfl)); clear hRv hgv)
      have x0 : (wv.cell? ⟨w2.heap.size, 0, none⟩ = some (.string x.Name) ∧ wv.cell? ⟨w2.heap.size, 1, none⟩ = some (.int .i64 x.Length) ∧ wv.cell? ⟨w2.heap.size, 2, none⟩ = some (.int .i64 x.Ball) ∧ wv.cell? ⟨w2.heap.size, 3, none⟩ = some (.int .i64 x.Instep) ∧ wv.cell? ⟨w2.heap.size, 4, none⟩ = some (.int .i64 x.Heel) ∧ wv.cell? ⟨w2.heap.size, 5, none⟩ = some (.int .i64 x.Pitch)) ∧ (wv.cell? ⟨bb, 0, none⟩ = some (.string y'.Name) ∧ wv.cell? ⟨bb, 1, none⟩ = some (.int .i64 y'.Length) ∧ wv.cell? ⟨bb, 2, none⟩ = some (.int .i64 y'.Ball) ∧ wv.cell? ⟨bb, 3, none⟩ = some (.int .i64 y'.Instep) ∧ wv.cell? ⟨bb, 4, none⟩ = some (.int .i64 y'.Heel) ∧ wv.cell? ⟨bb, 5, none⟩ = some (.int .i64 y'.Pitch)) := ⟨lastC_cells (D.out.get 2 rfl : Own _ _ _ _ (lastC x)), last1_cells (D.out.get 0 rfl : Own _ _ _ _ [y'])⟩
      go_wp2_with fail
      refine wp_region_held_drew (S := (fun w' => (w'.cell? ⟨w2.heap.size, 0, none⟩ = some (.string x.Name) ∧ w'.cell? ⟨w2.heap.size, 1, none⟩ = some (.int .i64 x.Length) ∧ w'.cell? ⟨w2.heap.size, 2, none⟩ = some (.int .i64 x.Ball) ∧ w'.cell? ⟨w2.heap.size, 3, none⟩ = some (.int .i64 x.Instep) ∧ w'.cell? ⟨w2.heap.size, 4, none⟩ = some (.int .i64 x.Heel) ∧ w'.cell? ⟨w2.heap.size, 5, none⟩ = some (.int .i64 x.Pitch)) ∧ (w'.cell? ⟨bb, 0, none⟩ = some (.string y'.Name) ∧ w'.cell? ⟨bb, 1, none⟩ = some (.int .i64 y'.Length) ∧ w'.cell? ⟨bb, 2, none⟩ = some (.int .i64 y'.Ball) ∧ w'.cell? ⟨bb, 3, none⟩ = some (.int .i64 y'.Instep) ∧ w'.cell? ⟨bb, 4, none⟩ = some (.int .i64 y'.Heel) ∧ w'.cell? ⟨bb, 5, none⟩ = some (.int .i64 y'.Pitch)))) (by kernel_rfl) x0 (fun hHeld => ?_)
      obtain ⟨wo, hwo⟩ : ∃ wo, wo = wv.drew := ⟨_, rfl⟩
      rw [← hwo] at hHeld ⊢
      have hbo : Below wv.heap.size wv wo := by rw [hwo]; exact (Below.refl _ _).drew
      replace D := Lib.hid (D.out.later hbo)
      clear hwo x0 hbo
      refine wpAnyH_take (i := 0) (v := _) rfl (by kernel_rfl) (by kernel_rfl) (by kernel_rfl) (fun _ _ _ h => h) (Or.inl ⟨by rfl, (by intro w hSw; (try dsimp only at hSw); go_simp; try with_reducible rfl)⟩) (by assumption) ?_
      go_simp
      refine wpAnyH_take (i := 1) (v := _) rfl (by kernel_rfl) (by kernel_rfl) (by kernel_rfl) (fun _ _ _ h => h) (Or.inl ⟨by rfl, (by intro w hSw; (try dsimp only at hSw); go_simp; try with_reducible rfl)⟩) (by assumption) ?_
      go_simp
      refine wpAnyH_take (i := 2) (v := _) rfl (by kernel_rfl) (by kernel_rfl) (by kernel_rfl) (fun _ _ _ h => h) (Or.inl ⟨by rfl, (by intro w hSw; (try dsimp only at hSw); go_simp; try with_reducible rfl)⟩) (by assumption) ?_
      go_simp
      have G := D.out.up
      have V1 : Own _ _ _ _ (lastC x) := D.out.get 2 rfl
      have Y1 : Own _ _ _ _ [y'] := D.out.get 0 rfl
      have v1 := V1.lt w2.heap.size rfl
      have y1 := Y1.lt bb rfl
      have R2p := R2.out.kept G (Or.inr (ne_blk (by have := hs0.out; omega)))
      have R4p := R4.out.kept G (Or.inr (ne_blk (by have := hs0.out; omega)))
      have hnA : w1.heap.size ≤ w2.heap.size := by have := hqA.out; omega
      have hnB : w1.heap.size ≤ bb := by have := hqB.out; omega
      refine wpAnyH_ready (rs := [3]) (by kernel_rfl) (by simp) ?_
      refine AllReadyH.cons rfl (fun K hK => ?_) AllReadyH.nil
      refine cast (if_pos (by rfl)).symm ?_; refine wp_store_own 30 (.tmp 2) (.tmp 36) rfl w.heap.size 30 w.heap.size 1 1 [lastZ] 0 _ (x : Last) rfl rfl rfl (by kernel_rfl) rfl R2p (by simp) ?_; intro wq hV2 hg2
      have V2 := V1.kept hg2 (Or.inr (ne_blk (by omega)))
      have Y2 := Y1.kept hg2 (Or.inr (ne_blk (by omega)))
      have R4q := R4p.kept hg2 (Or.inr (ne_blk (by omega)))
      refine hK.out _ _ (by exact ⟨lastC_cells V2, last1_cells Y2⟩) (fun hHeld => ?_)
      clear hK K
      go_simp
      refine wpAnyH_ready (rs := [4]) (by kernel_rfl) (by simp) ?_
      refine AllReadyH.cons rfl (fun K hK => ?_) AllReadyH.nil
      refine cast (if_pos (by rfl)).symm ?_; refine wp_store_own 30 (.tmp 3) (.tmp 37) rfl (w.heap.size + 1) 30 (w.heap.size + 1) 1 1 [lastZ] 0 _ (y' : Last) rfl rfl rfl (by kernel_rfl) rfl R4q (by simp) ?_; intro wz hV4 hg4
      refine hK.out _ _ (by exact ⟨lastC_cells (V2.kept hg4 (Or.inr (ne_blk (by omega)))), last1_cells (Y2.kept hg4 (Or.inr (ne_blk (by omega))))⟩) (fun hHeld => ?_)
      clear hK K
      go_simp
      refine wpAnyH_take (i := 5) (v := _) rfl (by kernel_rfl) (by kernel_rfl) (by kernel_rfl) (fun _ _ _ h => h) (Or.inl ⟨by rfl, (by intro w hSw; (try dsimp only at hSw); go_simp; try with_reducible rfl)⟩) (by assumption) ?_
      go_simp
      refine wpAnyH_done (by kernel_rfl) ?_ _
      have hV2z := hV2.kept hg4 (Or.inr (ne_blk (by omega)))
      have qc := last1_cells hV2z
      have pc := last1_cells hV4
      go_wp2_with fail
      refine bodyPost_ret (v := .tuple #[.agg #[.string x.Name, .int .i64 x.Length, .int .i64 x.Ball, .int .i64 x.Instep, .int .i64 x.Heel, .int .i64 x.Pitch], .agg #[.string y'.Name, .int .i64 y'.Length, .int .i64 y'.Ball, .int .i64 y'.Instep, .int .i64 y'.Heel, .int .i64 y'.Pitch], .int .i64 s]) (by simp [results, Tryz.results22, go_sem, qc, pc]) rfl ?_
      have hF := below_mark (below_mark (drew_up hb0 G (by have := hs0.out; omega)) R2p (Nat.le_refl _) hg2) R4q (by omega) hg4
      exact ⟨x, y', s, rfl, hxn, hyn', hF⟩
end Go.Proofs.YtaeinllbjkjhlaaGreatDoor
