/- Chapter 3, draws of a scale with half sizes or a length. (Printed by wip/genS07.py.) -/
import Derived.Test.YtaeinllbjkjhlaaDoorW11
namespace Go.Proofs.YtaeinllbjkjhlaaDoor
open Go.RowKit

set_option maxRecDepth 100000 in
set_option maxHeartbeats 1600000 in
theorem drawLengthOfHalf_c (ca : Option Addr) (L : List UInt8) (cc : Nat) (w : World) (hx : At w ca L) (hl : L.length ≤ 9223372036854775807) :
    Calls Tryd.prog 10 #[.slice ca L.length cc] w fun e w' => ∃ (x : Scl) (h : Int), e = .returned (.tuple #[.agg #[.string x.name, .int .i64 x.base, .int .i64 x.num, .int .i64 x.den], .int .i64 h]) ∧ x.name.size ≤ 10 ∧ (-1 ≤ h ∧ h ≤ 9223372036854775807) ∧ Below w.heap.size w w' := by
  obtain ⟨w0, hw0⟩ : ∃ w0, w0 = w.alloc (.cells #[.string ⟨#[]⟩, .int .i64 0, .int .i64 0, .int .i64 0] 25) := ⟨_, rfl⟩
  have hs0 : w0.heap.size = w.heap.size + 1 := by rw [hw0]; exact World.size_alloc _ _
  have R2 : Own w.heap.size w0 25 (.slice (some ⟨w.heap.size, 0, none⟩) 1 1) [sclNil] := by rw [hw0]; exact own_alloc w _ _ [sclNil] rfl (by show 1 ≤ 1048576; omega)
  have hb0 : Below w.heap.size w w0 := by rw [hw0]; exact newB w _
  replace hw0 := Lib.hid hw0
  replace hx := hx.below hb0
  go_enter Tryd.func10, Tryd.ntmps10
  go_wp2_with (rw [← hw0.out])
  refine (l00From_c ca L cc w0 hx hl).mono ?_
  rintro e w1 ⟨rfl, hS1, hb1⟩
  replace R2 := Lib.hid (R2.later hb1)
  have D := Lib.hid (Dr.start (hS1.less (M' := 32) (by omega)))
  replace hb0 := upw hb0 hb1
  have hw1s : w.heap.size + 1 ≤ w1.heap.size := by have := hb1.size; omega
  clear hS1 hb1 hx hl hw0
  replace hs0 := Lib.hid hs0
  go_wp2_with fail
  refine (l03Draw_c w0.heap.size 18 _ (D.out.src.less (by omega))).mono ?_
  rintro e w2 ⟨x, rfl, hxs, hS2, hg2⟩
  replace D := Lib.hid (D.out.drew hS2 hg2)
  clear hS2 hg2
  obtain ⟨w3, hw3⟩ : ∃ w3, w3 = w2.alloc (.cells #[.string x.name, .int .i64 x.base, .int .i64 x.num, .int .i64 x.den] 25) := ⟨_, rfl⟩
  have D3 : Dr w1 w3 w0.heap.size 18 [ite' 25 (.slice (some ⟨w2.heap.size, 0, none⟩) 4 4) (sclC x)] := by rw [hw3]; exact D.out.alloc _ _ (sclC x) rfl (by show 4 ≤ 1048576; omega)
  replace D := Lib.hid D3
  replace hw3 := Lib.hid hw3
  clear D3
  go_wp2_with (rw [← hw3.out])
  have x0 := sclC_cells (D.out.get 0 rfl)
  refine wp_region_held_drew (S := (fun w' => w'.cell? ⟨w2.heap.size, 0, none⟩ = some (.string x.name) ∧ w'.cell? ⟨w2.heap.size, 1, none⟩ = some (.int .i64 x.base) ∧ w'.cell? ⟨w2.heap.size, 2, none⟩ = some (.int .i64 x.num) ∧ w'.cell? ⟨w2.heap.size, 3, none⟩ = some (.int .i64 x.den))) (by kernel_rfl) x0 (fun hHeld => ?_)
  obtain ⟨wo, hwo⟩ : ∃ wo, wo = w3.drew := ⟨_, rfl⟩
  rw [← hwo] at hHeld ⊢
  have hbo : Below w3.heap.size w3 wo := by rw [hwo]; exact (Below.refl _ _).drew
  replace D := Lib.hid (D.out.later hbo)
  clear hwo x0 hbo
  refine wpAnyH_take (i := 0) (v := _) rfl (by kernel_rfl) (by kernel_rfl) (by kernel_rfl) (fun _ _ _ h => h) (Or.inl ⟨by rfl, (by intro w hSw; (try dsimp only at hSw); go_simp; try with_reducible rfl)⟩) (by assumption) ?_
  go_simp
  refine wpAnyH_take (i := 1) (v := _) rfl (by kernel_rfl) (by kernel_rfl) (by kernel_rfl) (fun _ _ _ h => h) (Or.inl ⟨by rfl, (by intro w hSw; (try dsimp only at hSw); go_simp; try with_reducible rfl)⟩) (by assumption) ?_
  go_simp
  refine wpAnyH_ready (rs := [2]) (by kernel_rfl) (by simp) ?_
  refine AllReadyH.cons rfl (fun K hK => ?_) AllReadyH.nil
  go_simp
  (refine (drawHalf_c w0.heap.size 14 wo (D.out.src.less (by omega))).mono ?_; rintro e wp ⟨h, rfl, hh1, hh2, hS7, hg7⟩; replace D := Lib.hid (D.out.drew hS7 hg7); clear hS7 hg7)
  refine hK.out _ _ (sclC_cells (D.out.get 0 rfl)) (fun hHeld => ?_)
  clear hK K
  go_simp
  have G := D.out.up
  have R2p := R2.out.kept G (Or.inr (ne_blk (by have := hs0.out; omega)))
  have V1 := (D.out.get 0 rfl : Own _ _ _ _ (sclC x))
  have hn2 : w.heap.size ≠ w2.heap.size := by have := V1.lt w2.heap.size rfl; have := hs0.out; have := hb0.size; omega
  refine wpAnyH_ready (rs := [3]) (by kernel_rfl) (by simp) ?_
  refine AllReadyH.cons rfl (fun K hK => ?_) AllReadyH.nil
  refine cast (if_pos (by rfl)).symm ?_; refine wp_store_own 25 (.tmp 2) (.tmp 10) rfl w.heap.size 25 w.heap.size 1 1 [sclNil] 0 _ (x : Scl) rfl rfl rfl (by kernel_rfl) rfl R2p (by simp) ?_; intro wq hV2 hg2
  refine hK.out _ _ (sclC_cells (V1.kept hg2 (Or.inr (ne_blk hn2.symm)))) (fun hHeld => ?_)
  clear hK K
  go_simp
  refine wpAnyH_take (i := 4) (v := _) rfl (by kernel_rfl) (by kernel_rfl) (by kernel_rfl) (fun _ _ _ h => h) (Or.inl ⟨by rfl, (by intro w hSw; (try dsimp only at hSw); go_simp; try with_reducible rfl)⟩) (by assumption) ?_
  go_simp
  refine wpAnyH_done (by kernel_rfl) ?_ _
  obtain ⟨q0, q1, q2, q3⟩ := scl1_cells hV2
  go_wp2_with fail
  refine bodyPost_ret (v := .tuple #[.agg #[.string x.name, .int .i64 x.base, .int .i64 x.num, .int .i64 x.den], .int .i64 h]) (by simp [results, Tryd.results10, go_sem, q0, q1, q2, q3]) rfl ?_
  have hF := below_mark (drew_up hb0 G (by have := hs0.out; omega)) R2p (Nat.le_refl _) hg2
  exact ⟨x, h, rfl, hxs, ⟨by omega, by omega⟩, hF⟩
set_option maxRecDepth 100000 in
set_option maxHeartbeats 1600000 in
theorem l03DrawLength_c (ca : Option Addr) (L : List UInt8) (cc : Nat) (w : World) (hx : At w ca L) (hl : L.length ≤ 9223372036854775807) :
    Calls Tryd.prog 24 #[.slice ca L.length cc] w fun e w' => ∃ (x : Scl) (h : Int), e = .returned (.tuple #[.agg #[.string x.name, .int .i64 x.base, .int .i64 x.num, .int .i64 x.den], .int .i64 h]) ∧ x.name.size ≤ 10 ∧ (-1 ≤ h ∧ h ≤ 5001) ∧ Below w.heap.size w w' := by
  obtain ⟨w0, hw0⟩ : ∃ w0, w0 = w.alloc (.cells #[.string ⟨#[]⟩, .int .i64 0, .int .i64 0, .int .i64 0] 25) := ⟨_, rfl⟩
  have hs0 : w0.heap.size = w.heap.size + 1 := by rw [hw0]; exact World.size_alloc _ _
  have R2 : Own w.heap.size w0 25 (.slice (some ⟨w.heap.size, 0, none⟩) 1 1) [sclNil] := by rw [hw0]; exact own_alloc w _ _ [sclNil] rfl (by show 1 ≤ 1048576; omega)
  have hb0 : Below w.heap.size w w0 := by rw [hw0]; exact newB w _
  replace hw0 := Lib.hid hw0
  replace hx := hx.below hb0
  go_enter Tryd.func24, Tryd.ntmps24
  go_wp2_with (rw [← hw0.out])
  refine (l00From_c ca L cc w0 hx hl).mono ?_
  rintro e w1 ⟨rfl, hS1, hb1⟩
  replace R2 := Lib.hid (R2.later hb1)
  have D := Lib.hid (Dr.start (hS1.less (M' := 32) (by omega)))
  replace hb0 := upw hb0 hb1
  have hw1s : w.heap.size + 1 ≤ w1.heap.size := by have := hb1.size; omega
  clear hS1 hb1 hx hl hw0
  replace hs0 := Lib.hid hs0
  go_wp2_with fail
  refine (l03Draw_c w0.heap.size 18 _ (D.out.src.less (by omega))).mono ?_
  rintro e w2 ⟨x, rfl, hxs, hS2, hg2⟩
  replace D := Lib.hid (D.out.drew hS2 hg2)
  clear hS2 hg2
  obtain ⟨w3, hw3⟩ : ∃ w3, w3 = w2.alloc (.cells #[.string x.name, .int .i64 x.base, .int .i64 x.num, .int .i64 x.den] 25) := ⟨_, rfl⟩
  have D3 : Dr w1 w3 w0.heap.size 18 [ite' 25 (.slice (some ⟨w2.heap.size, 0, none⟩) 4 4) (sclC x)] := by rw [hw3]; exact D.out.alloc _ _ (sclC x) rfl (by show 4 ≤ 1048576; omega)
  replace D := Lib.hid D3
  replace hw3 := Lib.hid hw3
  clear D3
  go_wp2_with (rw [← hw3.out])
  refine (one_c w0.heap.size 16 8 w3 (D.out.src.less (by omega)) (by omega) (by omega)).mono ?_
  rintro e w4 ⟨b, rfl, hS4, hg4⟩
  replace D := Lib.hid (D.out.drew hS4 hg4)
  clear hS4 hg4
  have x0 := sclC_cells (D.out.get 0 rfl)
  cases b
  · go_wp2_with fail
    clear x0
    have x0 := sclC_cells (D.out.get 0 rfl)
    refine wp_region_held_drew (S := (fun w' => w'.cell? ⟨w2.heap.size, 0, none⟩ = some (.string x.name) ∧ w'.cell? ⟨w2.heap.size, 1, none⟩ = some (.int .i64 x.base) ∧ w'.cell? ⟨w2.heap.size, 2, none⟩ = some (.int .i64 x.num) ∧ w'.cell? ⟨w2.heap.size, 3, none⟩ = some (.int .i64 x.den))) (by kernel_rfl) x0 (fun hHeld => ?_)
    obtain ⟨wo, hwo⟩ : ∃ wo, wo = w4.drew := ⟨_, rfl⟩
    rw [← hwo] at hHeld ⊢
    have hbo : Below w4.heap.size w4 wo := by rw [hwo]; exact (Below.refl _ _).drew
    replace D := Lib.hid (D.out.later hbo)
    clear hwo x0 hbo
    refine wpAnyH_take (i := 0) (v := _) rfl (by kernel_rfl) (by kernel_rfl) (by kernel_rfl) (fun _ _ _ h => h) (Or.inl ⟨by rfl, (by intro w hSw; (try dsimp only at hSw); go_simp; try with_reducible rfl)⟩) (by assumption) ?_
    go_simp
    refine wpAnyH_take (i := 1) (v := _) rfl (by kernel_rfl) (by kernel_rfl) (by kernel_rfl) (fun _ _ _ h => h) (Or.inl ⟨by rfl, (by intro w hSw; (try dsimp only at hSw); go_simp; try with_reducible rfl)⟩) (by assumption) ?_
    go_simp
    refine wpAnyH_ready (rs := [2]) (by kernel_rfl) (by simp) ?_
    refine AllReadyH.cons rfl (fun K hK => ?_) AllReadyH.nil
    go_simp
    (refine (pick_c w0.heap.size 14 400 wo (D.out.src.less (by omega)) (by omega) (by omega)).mono ?_; rintro e wp ⟨v, rfl, v0, v1, hS7, hg7⟩; replace D := Lib.hid (D.out.drew hS7 hg7); clear hS7 hg7; have hv : v ≤ 399 := (by omega); have hvw : IntKind.i64.wrap (10 * v) = 10 * v := IntWalk.i64_in _ (by omega))
    refine hK.out _ _ (sclC_cells (D.out.get 0 rfl)) (fun hHeld => ?_)
    clear hK K
    go_simp
    refine wpAnyH_take (i := 3) (v := _) rfl (by kernel_rfl) (by kernel_rfl) (by kernel_rfl) (fun _ _ _ h => h) (Or.inl ⟨by rfl, (by intro w hSw; (try dsimp only at hSw); go_simp; try with_reducible rfl)⟩) (by assumption) ?_
    go_simp
    have G := D.out.up
    have R2p := R2.out.kept G (Or.inr (ne_blk (by have := hs0.out; omega)))
    have V1 := (D.out.get 0 rfl : Own _ _ _ _ (sclC x))
    have hn2 : w.heap.size ≠ w2.heap.size := by have := V1.lt w2.heap.size rfl; have := hs0.out; have := hb0.size; omega
    refine wpAnyH_ready (rs := [4]) (by kernel_rfl) (by simp) ?_
    refine AllReadyH.cons rfl (fun K hK => ?_) AllReadyH.nil
    refine cast (if_pos (by rfl)).symm ?_; refine wp_store_own 25 (.tmp 2) (.tmp 16) rfl w.heap.size 25 w.heap.size 1 1 [sclNil] 0 _ (x : Scl) rfl rfl rfl (by kernel_rfl) rfl R2p (by simp) ?_; intro wq hV2 hg2
    refine hK.out _ _ (sclC_cells (V1.kept hg2 (Or.inr (ne_blk hn2.symm)))) (fun hHeld => ?_)
    clear hK K
    go_simp
    refine wpAnyH_take (i := 5) (v := _) rfl (by kernel_rfl) (by kernel_rfl) (by kernel_rfl) (fun _ _ _ h => h) (Or.inl ⟨by rfl, (by intro w hSw; (try dsimp only at hSw); go_simp; try with_reducible rfl)⟩) (by assumption) ?_
    go_simp
    refine wpAnyH_done (by kernel_rfl) ?_ _
    obtain ⟨q0, q1, q2, q3⟩ := scl1_cells hV2
    go_wp2_with fail
    refine bodyPost_ret (v := .tuple #[.agg #[.string x.name, .int .i64 x.base, .int .i64 x.num, .int .i64 x.den], .int .i64 (10 * v)]) (by simp [results, Tryd.results24, go_sem, q0, q1, q2, q3]) rfl ?_
    have hF := below_mark (drew_up hb0 G (by have := hs0.out; omega)) R2p (Nat.le_refl _) hg2
    exact ⟨x, (10 * v), rfl, hxs, ⟨by omega, by omega⟩, hF⟩
  · go_wp2_with fail
    clear x0
    have x0 := sclC_cells (D.out.get 0 rfl)
    refine wp_region_held_drew (S := (fun w' => w'.cell? ⟨w2.heap.size, 0, none⟩ = some (.string x.name) ∧ w'.cell? ⟨w2.heap.size, 1, none⟩ = some (.int .i64 x.base) ∧ w'.cell? ⟨w2.heap.size, 2, none⟩ = some (.int .i64 x.num) ∧ w'.cell? ⟨w2.heap.size, 3, none⟩ = some (.int .i64 x.den))) (by kernel_rfl) x0 (fun hHeld => ?_)
    obtain ⟨wo, hwo⟩ : ∃ wo, wo = w4.drew := ⟨_, rfl⟩
    rw [← hwo] at hHeld ⊢
    have hbo : Below w4.heap.size w4 wo := by rw [hwo]; exact (Below.refl _ _).drew
    replace D := Lib.hid (D.out.later hbo)
    clear hwo x0 hbo
    refine wpAnyH_take (i := 0) (v := _) rfl (by kernel_rfl) (by kernel_rfl) (by kernel_rfl) (fun _ _ _ h => h) (Or.inl ⟨by rfl, (by intro w hSw; (try dsimp only at hSw); go_simp; try with_reducible rfl)⟩) (by assumption) ?_
    go_simp
    refine wpAnyH_take (i := 1) (v := _) rfl (by kernel_rfl) (by kernel_rfl) (by kernel_rfl) (fun _ _ _ h => h) (Or.inl ⟨by rfl, (by intro w hSw; (try dsimp only at hSw); go_simp; try with_reducible rfl)⟩) (by assumption) ?_
    go_simp
    refine wpAnyH_ready (rs := [2]) (by kernel_rfl) (by simp) ?_
    refine AllReadyH.cons rfl (fun K hK => ?_) AllReadyH.nil
    go_simp
    (obtain ⟨wt, hwt⟩ : ∃ wt, wt = wo.alloc (.cells #[.int .i64 (-1), .int .i64 0, .int .i64 5000, .int .i64 5001] 2) := ⟨_, rfl⟩; rw [← hwt]; have hct : Below wo.heap.size wo wt := (by rw [hwt]; exact newB _ _); have hA : At wt (some ⟨wo.heap.size, 0, none⟩) ([-1, 0, 5000, 5001] : List Int) := (by rw [hwt]; exact at_lits wo _ [-1, 0, 5000, 5001]); have hoff := off_new (w := wo) D.out.src.lt; replace D := Lib.hid (D.out.later hct); clear hwt)
    refine hK.out _ _ (sclC_cells (D.out.get 0 rfl)) (fun hHeld => ?_)
    clear hK K
    go_simp
    refine wpAnyH_ready (rs := [3]) (by kernel_rfl) (by simp) ?_
    refine AllReadyH.cons rfl (fun K hK => ?_) AllReadyH.nil
    go_simp
    (refine (among_c w0.heap.size 14 _ [-1, 0, 5000, 5001] _ wt (D.out.src.less (by omega)) hA hoff (by simp) (by simp)).mono ?_; rintro e wp ⟨v, rfl, hv, hS7, hg7⟩; replace D := Lib.hid (D.out.drew hS7 hg7); clear hS7 hg7; simp at hv)
    refine hK.out _ _ (sclC_cells (D.out.get 0 rfl)) (fun hHeld => ?_)
    clear hK K
    go_simp
    have G := D.out.up
    have R2p := R2.out.kept G (Or.inr (ne_blk (by have := hs0.out; omega)))
    have V1 := (D.out.get 0 rfl : Own _ _ _ _ (sclC x))
    have hn2 : w.heap.size ≠ w2.heap.size := by have := V1.lt w2.heap.size rfl; have := hs0.out; have := hb0.size; omega
    refine wpAnyH_ready (rs := [4]) (by kernel_rfl) (by simp) ?_
    refine AllReadyH.cons rfl (fun K hK => ?_) AllReadyH.nil
    refine cast (if_pos (by rfl)).symm ?_; refine wp_store_own 25 (.tmp 2) (.tmp 12) rfl w.heap.size 25 w.heap.size 1 1 [sclNil] 0 _ (x : Scl) rfl rfl rfl (by kernel_rfl) rfl R2p (by simp) ?_; intro wq hV2 hg2
    refine hK.out _ _ (sclC_cells (V1.kept hg2 (Or.inr (ne_blk hn2.symm)))) (fun hHeld => ?_)
    clear hK K
    go_simp
    refine wpAnyH_take (i := 5) (v := _) rfl (by kernel_rfl) (by kernel_rfl) (by kernel_rfl) (fun _ _ _ h => h) (Or.inl ⟨by rfl, (by intro w hSw; (try dsimp only at hSw); go_simp; try with_reducible rfl)⟩) (by assumption) ?_
    go_simp
    refine wpAnyH_done (by kernel_rfl) ?_ _
    obtain ⟨q0, q1, q2, q3⟩ := scl1_cells hV2
    go_wp2_with fail
    refine bodyPost_ret (v := .tuple #[.agg #[.string x.name, .int .i64 x.base, .int .i64 x.num, .int .i64 x.den], .int .i64 v]) (by simp [results, Tryd.results24, go_sem, q0, q1, q2, q3]) rfl ?_
    have hF := below_mark (drew_up hb0 G (by have := hs0.out; omega)) R2p (Nat.le_refl _) hg2
    exact ⟨x, v, rfl, hxs, ⟨by omega, by omega⟩, hF⟩
set_option maxRecDepth 100000 in
set_option maxHeartbeats 1600000 in
theorem drawHalfFor_c (ca : Option Addr) (L : List UInt8) (cc : Nat) (w : World) (hx : At w ca L) (hl : L.length ≤ 9223372036854775807) :
    Calls Tryd.prog 5 #[.slice ca L.length cc] w fun e w' => ∃ (x : Scl) (h : Int), e = .returned (.tuple #[.agg #[.string x.name, .int .i64 x.base, .int .i64 x.num, .int .i64 x.den], .int .i64 h]) ∧ x.name.size ≤ 10 ∧ (-1 ≤ h ∧ h ≤ 5001) ∧ Below w.heap.size w w' := by
  obtain ⟨w0, hw0⟩ : ∃ w0, w0 = w.alloc (.cells #[.string ⟨#[]⟩, .int .i64 0, .int .i64 0, .int .i64 0] 25) := ⟨_, rfl⟩
  have hs0 : w0.heap.size = w.heap.size + 1 := by rw [hw0]; exact World.size_alloc _ _
  have R2 : Own w.heap.size w0 25 (.slice (some ⟨w.heap.size, 0, none⟩) 1 1) [sclNil] := by rw [hw0]; exact own_alloc w _ _ [sclNil] rfl (by show 1 ≤ 1048576; omega)
  have hb0 : Below w.heap.size w w0 := by rw [hw0]; exact newB w _
  replace hw0 := Lib.hid hw0
  replace hx := hx.below hb0
  go_enter Tryd.func5, Tryd.ntmps5
  go_wp2_with (rw [← hw0.out])
  refine (l03DrawLength_c ca L cc w0 hx hl).mono ?_
  rintro e w1 ⟨x, h, rfl, hxs, hh, hb1⟩
  replace R2 := Lib.hid (R2.later hb1)
  replace hb0 := upw hb0 hb1
  go_wp2_with ((with_reducible refine at_st 25 (.tmp 2) (.tmp 6) ?_); refine wpList_store_own rfl 25 (.tmp 2) (.tmp 6) rfl w.heap.size 25 _ 1 1 [sclNil] 0 _ (x : Scl) rfl rfl rfl (by kernel_rfl) rfl R2.out (by simp) ?_; intro wz hRz hgz)
  obtain ⟨q0, q1, q2, q3⟩ := scl1_cells hRz
  have hbz := below_mark hb0 R2.out (Nat.le_refl _) hgz
  refine bodyPost_ret (v := .tuple #[.agg #[.string x.name, .int .i64 x.base, .int .i64 x.num, .int .i64 x.den], .int .i64 h]) (by simp [results, Tryd.results5, go_sem, q0, q1, q2, q3]) rfl ?_
  exact ⟨x, h, rfl, hxs, hh, hbz⟩
end Go.Proofs.YtaeinllbjkjhlaaDoor
