/- Chapter 3, draws of scales and half sizes. -/
import Derived.Test.YtlaclknhenccdaaW11
namespace Go.Proofs.Ytlaclknhenccdaa
open Go.RowKit

set_option maxRecDepth 100000 in
set_option maxHeartbeats 1600000 in
theorem drawConvertHalf_c (ca : Option Addr) (L : List UInt8) (cc : Nat) (w : World) (hx : At w ca L) (hl : L.length ≤ 9223372036854775807) :
    Calls Try.prog 25 #[.slice ca L.length cc] w fun e w' => ∃ (x : Scl) (h : Int) (y : Scl), e = .returned (.tuple #[.agg #[.string x.name, .int .i64 x.base, .int .i64 x.num, .int .i64 x.den], .int .i64 h, .agg #[.string y.name, .int .i64 y.base, .int .i64 y.num, .int .i64 y.den]]) ∧ x.name.size ≤ 10 ∧ y.name.size ≤ 10 ∧ (-1 ≤ h ∧ h ≤ 9223372036854775807) ∧ Below w.heap.size w w' := by
  obtain ⟨wa, hwa⟩ : ∃ wa, wa = w.alloc (.cells #[.string ⟨#[]⟩, .int .i64 0, .int .i64 0, .int .i64 0] 42) := ⟨_, rfl⟩
  obtain ⟨w0, hw0⟩ : ∃ w0, w0 = wa.alloc (.cells #[.string ⟨#[]⟩, .int .i64 0, .int .i64 0, .int .i64 0] 42) := ⟨_, rfl⟩
  have hsa : wa.heap.size = w.heap.size + 1 := by rw [hwa]; exact World.size_alloc _ _
  have hs0 : w0.heap.size = wa.heap.size + 1 := by rw [hw0]; exact World.size_alloc _ _
  have R2 : Own w.heap.size wa 42 (.slice (some ⟨w.heap.size, 0, none⟩) 1 1) [sclNil] := by rw [hwa]; exact own_alloc w _ _ [sclNil] rfl (by show 1 ≤ 1048576; omega)
  have hba : Below wa.heap.size wa w0 := by rw [hw0]; exact newB wa _
  replace R2 := R2.later hba
  have R4 : Own wa.heap.size w0 42 (.slice (some ⟨wa.heap.size, 0, none⟩) 1 1) [sclNil] := by rw [hw0]; exact own_alloc wa _ _ [sclNil] rfl (by show 1 ≤ 1048576; omega)
  rw [hsa] at R4 hs0
  have hb0 : Below w.heap.size w w0 := upw (by rw [hwa]; exact newB w _) hba
  replace hw0 := Lib.hid (hw0.trans (by rw [hwa]))
  clear hwa hba hsa wa
  replace hx := hx.below hb0
  go_enter Try.func25, Try.ntmps25
  go_wp2_with (rw [← hw0.out])
  refine (l00From_c ca L cc w0 hx hl).mono ?_
  rintro e w1 ⟨rfl, hS1, hb1⟩
  replace R2 := Lib.hid (R2.later hb1)
  replace R4 := Lib.hid (R4.later hb1)
  have D := Lib.hid (Dr.start (hS1.less (M' := 32) (by omega)))
  replace hb0 := upw hb0 hb1
  have hw1s : w.heap.size + 2 ≤ w1.heap.size := by have := hb1.size; omega
  clear hS1 hb1 hx hl hw0
  replace hs0 := Lib.hid hs0
  go_wp2_with fail
  refine (l03Draw_c w0.heap.size 18 _ (D.out.src.less (by omega))).mono ?_
  rintro e w2 ⟨x, rfl, hxs, hS2, hg2⟩
  replace D := Lib.hid (D.out.drew hS2 hg2)
  clear hS2 hg2
  obtain ⟨w3, hw3⟩ : ∃ w3, w3 = w2.alloc (.cells #[.string x.name, .int .i64 x.base, .int .i64 x.num, .int .i64 x.den] 42) := ⟨_, rfl⟩
  have D3 : Dr w1 w3 w0.heap.size 18 [ite' 42 (.slice (some ⟨w2.heap.size, 0, none⟩) 4 4) (sclC x)] := by rw [hw3]; exact D.out.alloc _ _ (sclC x) rfl (by show 4 ≤ 1048576; omega)
  replace D := Lib.hid D3
  replace hw3 := Lib.hid hw3
  clear D3
  go_wp2_with (rw [← hw3.out])
  refine (drawHalf_c w0.heap.size 14 _ (D.out.src.less (by omega))).mono ?_
  rintro e w4 ⟨h, rfl, hh1, hh2, hS2, hg2⟩
  replace D := Lib.hid (D.out.drew hS2 hg2)
  clear hS2 hg2 hw3
  have x0 := sclC_cells (D.out.get 0 rfl)
  go_wp2_with fail
  refine wp_region_held_drew (S := (fun w' => w'.cell? ⟨w2.heap.size, 0, none⟩ = some (.string x.name) ∧ w'.cell? ⟨w2.heap.size, 1, none⟩ = some (.int .i64 x.base) ∧ w'.cell? ⟨w2.heap.size, 2, none⟩ = some (.int .i64 x.num) ∧ w'.cell? ⟨w2.heap.size, 3, none⟩ = some (.int .i64 x.den))) (by kernel_rfl) x0 (fun hHeld => ?_)
  obtain ⟨wo, hwo⟩ : ∃ wo, wo = w4.drew := ⟨_, rfl⟩
  rw [← hwo] at hHeld ⊢
  have hbo : Below w4.heap.size w4 wo := by rw [hwo]; exact (Below.refl _ _).drew
  replace D := Lib.hid (D.out.later hbo)
  clear hwo x0 hbo
  refine wpAnyH_take (i := 0) (v := _) rfl (by kernel_rfl) (by kernel_rfl) (by kernel_rfl) (fun _ _ _ h => h) (Or.inl ⟨by rfl, (by intro w hSw; (try dsimp only at hSw); go_simp; try with_reducible rfl)⟩) (by assumption) ?_
  go_simp
  refine wpAnyH_take (i := 1) (v := _) rfl (by kernel_rfl) (by kernel_rfl) (by kernel_rfl) (fun _ _ _ h => h) (Or.inl ⟨by rfl, (by intro w hSw; (try dsimp only at hSw); go_simp; try with_reducible rfl)⟩) (by assumption) ?_
  go_simp
  refine wpAnyH_take (i := 2) (v := _) rfl (by kernel_rfl) (by kernel_rfl) (by kernel_rfl) (fun _ _ _ h => h) (Or.inl ⟨by rfl, (by intro w hSw; (try dsimp only at hSw); go_simp; try with_reducible rfl)⟩) (by assumption) ?_
  go_simp
  refine wpAnyH_ready (rs := [3]) (by kernel_rfl) (by simp) ?_
  refine AllReadyH.cons rfl (fun K hK => ?_) AllReadyH.nil
  go_simp
  (refine (l03Draw_c w0.heap.size 0 wo (D.out.src.less (by omega))).mono ?_; rintro e wp ⟨y, rfl, hys, hS7, hg7⟩; replace D := Lib.hid (D.out.drew hS7 hg7); clear hS7 hg7)
  refine hK.out _ _ (sclC_cells (D.out.get 0 rfl)) (fun hHeld => ?_)
  clear hK K
  go_simp
  have G := D.out.up
  have R2p := R2.out.kept G (Or.inr (ne_blk (by have := hs0.out; omega)))
  have R4p := R4.out.kept G (Or.inr (ne_blk (by have := hs0.out; omega)))
  have hn2 : w.heap.size ≠ w2.heap.size := by have := (D.out.get 0 rfl : Own _ _ _ _ (sclC x)).lt w2.heap.size rfl; have := hs0.out; have := hb0.size; omega
  have hn4 : w.heap.size + 1 ≠ w2.heap.size := by have := (D.out.get 0 rfl : Own _ _ _ _ (sclC x)).lt w2.heap.size rfl; have := hs0.out; have := hw1s; omega
  have V1 := (D.out.get 0 rfl : Own _ _ _ _ (sclC x))
  refine wpAnyH_ready (rs := [4]) (by kernel_rfl) (by simp) ?_
  refine AllReadyH.cons rfl (fun K hK => ?_) AllReadyH.nil
  refine cast (if_pos (by rfl)).symm ?_; refine wp_store_own 42 (.tmp 2) (.tmp 14) rfl w.heap.size 42 w.heap.size 1 1 [sclNil] 0 _ (x : Scl) rfl rfl rfl (by kernel_rfl) rfl R2p (by simp) ?_; intro wq hV2 hg2
  refine hK.out _ _ (sclC_cells (V1.kept hg2 (Or.inr (ne_blk hn2.symm)))) (fun hHeld => ?_)
  clear hK K
  go_simp
  have V2 := V1.kept hg2 (Or.inr (ne_blk hn2.symm))
  have R4q := R4p.kept hg2 (Or.inr (ne_blk (by omega)))
  refine wpAnyH_take (i := 5) (v := _) rfl (by kernel_rfl) (by kernel_rfl) (by kernel_rfl) (fun _ _ _ h => h) (Or.inl ⟨by rfl, (by intro w hSw; (try dsimp only at hSw); go_simp; try with_reducible rfl)⟩) (by assumption) ?_
  go_simp
  refine wpAnyH_ready (rs := [6]) (by kernel_rfl) (by simp) ?_
  refine AllReadyH.cons rfl (fun K hK => ?_) AllReadyH.nil
  refine cast (if_pos (by rfl)).symm ?_; refine wp_store_own 42 (.tmp 4) (.tmp 17) rfl (w.heap.size + 1) 42 (w.heap.size + 1) 1 1 [sclNil] 0 _ (y : Scl) rfl rfl rfl (by kernel_rfl) rfl R4q (by simp) ?_; intro wz hV4 hg4
  refine hK.out _ _ (sclC_cells (V2.kept hg4 (Or.inr (ne_blk hn4.symm)))) (fun hHeld => ?_)
  clear hK K
  go_simp
  refine wpAnyH_done (by kernel_rfl) ?_ _
  have hV2z := hV2.kept hg4 (Or.inr (ne_blk (by omega)))
  obtain ⟨q0, q1, q2, q3⟩ := scl1_cells hV2z
  obtain ⟨p0, p1, p2, p3⟩ := scl1_cells hV4
  go_wp2_with fail
  refine bodyPost_ret (v := .tuple #[.agg #[.string x.name, .int .i64 x.base, .int .i64 x.num, .int .i64 x.den], .int .i64 h, .agg #[.string y.name, .int .i64 y.base, .int .i64 y.num, .int .i64 y.den]]) (by simp [results, Try.results25, go_sem, q0, q1, q2, q3, p0, p1, p2, p3]) rfl ?_
  have hF := below_mark (below_mark (drew_up hb0 G (by have := hs0.out; omega)) R2p (Nat.le_refl _) hg2) R4q (by omega) hg4
  exact ⟨x, h, y, rfl, hxs, hys, ⟨hh1, hh2⟩, hF⟩
end Go.Proofs.Ytlaclknhenccdaa
