/- FnExactAddSeam: for all arguments the law returns true, and its arguments read behind the call as before. -/
import Derived.Test.YtlmhiocmldhkhaaPatT
import Derived.Test.YtlmhiocmldhkhaaP08o
import Derived.Deep.RegionHeld3
namespace Go.Proofs.Ytlmhiocmldhkhaa
open Go.ChangeShapes Go.WideShapes Go.ChangeAt Go.RowKit

set_option maxRecDepth 100000 in
set_option maxHeartbeats 8000000 in
theorem lawAddSeam (x0 : Pattern) (pa0 : Option Addr) (pc0 : Nat) (sa0 : Option Addr) (sc0 : Nat) (x1 : Seam) (w : World) (hx0 : LieP w pa0 sa0 x0) (hk0 : okP x0) (_hn1 : Rep.ok x1) :
    Calls Try.prog 3 #[.agg #[.slice pa0 x0.pieces.length pc0, .slice sa0 x0.seams.length sc0, .int .i64 x0.openings], .agg #[.int .i64 x1.A, .int .i64 x1.EdgeA, .int .i64 x1.B, .int .i64 x1.EdgeB]] w fun e w' => e = .returned (.bool true) ∧ Below w.heap.size w w' := by
  obtain ⟨w1, hw1⟩ : ∃ w1, w1 = (w.alloc (.cells #[.slice pa0 x0.pieces.length pc0, .slice sa0 x0.seams.length sc0, .int .i64 x0.openings] 25)).alloc (.cells #[.int .i64 x1.A, .int .i64 x1.EdgeA, .int .i64 x1.B, .int .i64 x1.EdgeB] 27) := ⟨_, rfl⟩
  have hb : Below w.heap.size w w1 := by rw [hw1]; exact ((Below.refl _ _).alloc (by simp) _).alloc (by simp) _
  have hs1 : w1.heap.size = w.heap.size + 2 := by rw [hw1]; simp
  have a0 : w1.cell? ⟨w.heap.size, 0, none⟩ = some (.slice pa0 x0.pieces.length pc0) := by rw [hw1]; go_simp
  have a1 : w1.cell? ⟨w.heap.size, 1, none⟩ = some (.slice sa0 x0.seams.length sc0) := by rw [hw1]; go_simp
  have a2 : w1.cell? ⟨w.heap.size, 2, none⟩ = some (.int .i64 x0.openings) := by rw [hw1]; go_simp
  have b0 : w1.cell? ⟨w.heap.size + 1, 0, none⟩ = some (.int .i64 x1.A) := by rw [hw1]; go_simp
  have b1 : w1.cell? ⟨w.heap.size + 1, 1, none⟩ = some (.int .i64 x1.EdgeA) := by rw [hw1]; go_simp
  have b2 : w1.cell? ⟨w.heap.size + 1, 2, none⟩ = some (.int .i64 x1.B) := by rw [hw1]; go_simp
  have b3 : w1.cell? ⟨w.heap.size + 1, 3, none⟩ = some (.int .i64 x1.EdgeB) := by rw [hw1]; go_simp
  replace hw1 := Lib.hid hw1
  have hlen := addRes_small x0 x1
  obtain ⟨A, hA⟩ : ∃ A, A = addRes x0 x1 := ⟨_, rfl⟩
  have CS := fun B0 pa pc sa sc rs w' h hl => specAddSeam_c B0 x0 pa pc sa sc rs x1 w' h hl
  have CI := fun B0 pa pc sa sc rs w' h hl => implAddSeam_c B0 x0 pa pc sa sc rs x1 w' h hl
  rw [← hA] at hlen
  simp only [← hA] at CS CI
  clear hA
  replace CS := Lib.hid CS
  replace CI := Lib.hid CI
  replace hs1 := Lib.hid hs1
  by_cases hl0 : totPattern x0 ≤ 1048576
  · have hsz := szPattern_ok x0 pa0 pc0 sa0 sc0 1048576 w1 (hx0.below hb) hk0 (by omega) (by omega)
    have hlo : (0 : Int) ≤ 1048576 - (totPattern x0 : Int) := by omega
    obtain ⟨lft, hlft⟩ : ∃ q : Int, q = 1048576 - (totPattern x0 : Int) := ⟨_, rfl⟩
    rw [← hlft] at hsz hlo
    replace hlft := Lib.hid hlft
    have hlo2 : ¬ lft < 0 := by omega
    go_enter Try.func3, Try.ntmps3
    go_wp2_with (rw [← hw1.out])
    refine hsz.mono ?_
    rintro e w2 ⟨rfl, hb2⟩
    replace a0 := kept_cell a0 hb2; replace a1 := kept_cell a1 hb2; replace a2 := kept_cell a2 hb2; replace b0 := kept_cell b0 hb2; replace b1 := kept_cell b1 hb2; replace b2 := kept_cell b2 hb2; replace b3 := kept_cell b3 hb2
    replace hb := upw hb hb2
    have hsz12 := hb2.size
    clear hb2 hsz hw1
    go_wp2_with fail
    obtain ⟨R, hRe⟩ : ∃ R : Act → World → Prop, R = fun a' w' => ∃ (bR : Nat) (paR : Option Addr) (pcR : Nat) (saR : Option Addr) (scR : Nat) (rsR : List RawP) (u5 u16 u17 u18 u19 u20 u21 u22 u23 u24 u25 u26 u27 u28 : Value), a' = ⟨#[.agg #[.slice pa0 x0.pieces.length pc0, .slice sa0 x0.seams.length sc0, .int .i64 x0.openings], .agg #[.int .i64 x1.A, .int .i64 x1.EdgeA, .int .i64 x1.B, .int .i64 x1.EdgeB], .pointer (some ⟨w.heap.size, 0, none⟩), .pointer (some ⟨w.heap.size + 1, 0, none⟩), .bool false, u5, .pointer (some ⟨bR, 0, none⟩), .int .i64 A.2, undef, undef, undef, undef, undef, undef, undef, undef, u16, u17, u18, u19, u20, u21, u22, u23, u24, u25, u26, u27, u28, undef, undef, undef, undef, undef, undef, undef, undef, undef, undef, undef, undef, undef, undef, undef, undef, undef, undef, undef, undef, undef, undef, undef, undef, undef, undef, undef, undef, undef, undef, undef, undef, undef, undef, undef, undef, undef, undef, undef, undef, undef, undef, undef, undef, undef, undef, undef, undef, undef, undef, undef, undef, undef, undef, undef, undef, undef, undef, undef, undef, undef, undef, undef, undef, undef, undef, undef, undef, undef, undef, undef, undef, undef, undef, undef], []⟩ ∧ PatW w2.heap.size w' bR paR pcR saR scR rsR A.1 ∧ Below w2.heap.size w2 w' := ⟨_, rfl⟩
    replace hRe := Lib.hid hRe
    refine Code.wp_mono (Q := PostR R) ?_ ?_
    rotate_left
    · skip
      refine wp_region_held_drew (S := (fun w' => w'.cell? ⟨w.heap.size, 0, none⟩ = some (.slice pa0 x0.pieces.length pc0) ∧ w'.cell? ⟨w.heap.size, 1, none⟩ = some (.slice sa0 x0.seams.length sc0) ∧ w'.cell? ⟨w.heap.size, 2, none⟩ = some (.int .i64 x0.openings) ∧ w'.cell? ⟨w.heap.size + 1, 0, none⟩ = some (.int .i64 x1.A) ∧ w'.cell? ⟨w.heap.size + 1, 1, none⟩ = some (.int .i64 x1.EdgeA) ∧ w'.cell? ⟨w.heap.size + 1, 2, none⟩ = some (.int .i64 x1.B) ∧ w'.cell? ⟨w.heap.size + 1, 3, none⟩ = some (.int .i64 x1.EdgeB))) (by kernel_rfl) ⟨a0, a1, a2, b0, b1, b2, b3⟩ (fun hHeld => ?_)
      obtain ⟨wo, hwo⟩ : ∃ wo, wo = w2.drew := ⟨_, rfl⟩
      rw [← hwo] at hHeld ⊢
      have hbo : Below w2.heap.size w2 wo := by rw [hwo]; exact (Below.refl _ _).drew
      clear hwo
      have hBc : w2.heap.size ≤ wo.heap.size := hbo.size
      refine wpAnyH_take (i := 0) (v := _) rfl (by kernel_rfl) (by kernel_rfl) (by kernel_rfl) (fun _ _ _ h => PostR.put h) (Or.inl ⟨by rfl, (by intro w hSw; (try dsimp only at hSw); go_simp; try with_reducible rfl)⟩) (by assumption) ?_
      go_simp
      refine wpAnyH_take (i := 2) (v := _) rfl (by kernel_rfl) (by kernel_rfl) (by kernel_rfl) (fun _ _ _ h => PostR.put h) (Or.inl ⟨by rfl, (by intro w hSw; (try dsimp only at hSw); go_simp; try with_reducible rfl)⟩) (by assumption) ?_
      go_simp
      refine wpAnyH_ready (rs := [1, 8]) (by kernel_rfl) (by simp) ?_
      refine AllReadyH.cons rfl (fun K hK => ?_) (AllReadyH.cons rfl (fun K hK => ?_) AllReadyH.nil)
      · go_simp
        refine (toPattern_c x0 pa0 pc0 sa0 sc0 wo (hx0.below (upw hb hbo)) hl0).mono ?_
        rintro e wn1 ⟨paT, pcT, saT, scT, rsT, rfl, hOt, hst⟩
        replace hbo := upw hbo hst
        replace hBc := Nat.le_trans hBc hst.size
        clear hst
        refine hK.out _ _ (by exact ⟨kept_cell a0 hbo, kept_cell a1 hbo, kept_cell a2 hbo, kept_cell b0 hbo, kept_cell b1 hbo, kept_cell b2 hbo, kept_cell b3 hbo⟩) (fun hHeld => ?_)
        clear hK K
        go_simp
        refine wpAnyH_ready (rs := [3, 8]) (by kernel_rfl) (by simp) ?_
        refine AllReadyH.cons rfl (fun K hK => ?_) (AllReadyH.cons rfl (fun K hK => ?_) AllReadyH.nil)
        · go_simp
          refine (toSeam_any x1.A x1.EdgeA x1.B x1.EdgeB wn1).mono ?_
          rintro e wn2 ⟨rfl, hst⟩
          replace hbo := upw hbo hst
          replace hOt := hOt.later hst
          replace hBc := Nat.le_trans hBc hst.size
          clear hst
          refine hK.out _ _ (by exact ⟨kept_cell a0 hbo, kept_cell a1 hbo, kept_cell a2 hbo, kept_cell b0 hbo, kept_cell b1 hbo, kept_cell b2 hbo, kept_cell b3 hbo⟩) (fun hHeld => ?_)
          clear hK K
          go_simp
          refine wpAnyH_ready (rs := [4, 8]) (by kernel_rfl) (by simp) ?_
          refine AllReadyH.cons rfl (fun K hK => ?_) (AllReadyH.cons rfl (fun K hK => ?_) AllReadyH.nil)
          · go_simp
            refine (CS.out _ paT pcT saT scT rsT wn2 hOt hl0).mono ?_
            rintro e wn3 ⟨paR, pcR, saR, scR, rsR, rfl, hP, hst⟩
            replace hbo := upw hbo hst
            replace hOt := hOt.later hst
            replace hP := hP.base hBc
            replace hBc := Nat.le_trans hBc hst.size
            clear hst
            refine hK.out _ _ (by exact ⟨kept_cell a0 hbo, kept_cell a1 hbo, kept_cell a2 hbo, kept_cell b0 hbo, kept_cell b1 hbo, kept_cell b2 hbo, kept_cell b3 hbo⟩) (fun hHeld => ?_)
            clear hK K
            go_simp
            refine wpAnyH_take (i := 5) (v := _) rfl (by kernel_rfl) (by kernel_rfl) (by kernel_rfl) (fun _ _ _ h => PostR.put h) (Or.inl ⟨by rfl, (by intro w hSw; (try dsimp only at hSw); go_simp; try with_reducible rfl)⟩) (by assumption) ?_
            go_simp
            refine wpAnyH_take (i := 6) (v := _) rfl (by kernel_rfl) (by kernel_rfl) (by kernel_rfl) (fun _ _ _ h => PostR.put h) (Or.inl ⟨by rfl, (by intro w hSw; (try dsimp only at hSw); go_simp; try with_reducible rfl)⟩) (by assumption) ?_
            go_simp
            refine wpAnyH_take (i := 7) (v := _) rfl (by kernel_rfl) (by kernel_rfl) (by kernel_rfl) (fun _ _ _ h => PostR.put h) (Or.inl ⟨by rfl, (by intro w hSw; (try dsimp only at hSw); go_simp; try with_reducible rfl)⟩) (by assumption) ?_
            go_simp
            refine wpAnyH_ready (rs := [8]) (by kernel_rfl) (by simp) ?_
            refine AllReadyH.cons rfl (fun K hK => ?_) AllReadyH.nil
            · go_simp
              obtain ⟨wn4, hwt⟩ : ∃ wt, wt = wn3.alloc (.cells #[.slice none 0 0, .slice none 0 0, .int .i64 0] 32) := ⟨_, rfl⟩
              rw [← hwt]
              have hst : Below wn3.heap.size wn3 wn4 := by rw [hwt]; exact new_below _ _
              have V0 := (own_rawT wn3 32 zeroT).base hBc
              change Own _ (wn3.alloc (.cells #[.slice none 0 0, .slice none 0 0, .int .i64 0] 32)) _ _ [zeroT] at V0
              rw [← hwt] at V0
              clear hwt
              replace hbo := upw hbo hst
              replace hBc := Nat.le_trans hBc hst.size
              replace hOt := hOt.later hst
              replace hP := hP.later hst
              clear hst
              refine hK.out _ _ (by exact ⟨kept_cell a0 hbo, kept_cell a1 hbo, kept_cell a2 hbo, kept_cell b0 hbo, kept_cell b1 hbo, kept_cell b2 hbo, kept_cell b3 hbo⟩) (fun hHeld => ?_)
              clear hK K
              go_simp
              refine wpAnyH_ready (rs := [9]) (by kernel_rfl) (by simp) ?_
              refine AllReadyH.cons rfl (fun K hK => ?_) AllReadyH.nil
              refine cast (if_pos (by rfl)).symm ?_
              refine wp_store_own 32 (.tmp 6) (.tmp 27) rfl w2.heap.size 32 wn3.heap.size 1 1 [zeroT] 0 _ (⟨paR, A.1.pieces.length, pcR, saR, A.1.seams.length, scR, A.1.openings⟩ : RawT) rfl rfl rfl (by kernel_rfl) rfl V0 (by simp) ?_
              intro wz V1 hgv
              replace V1 : Own w2.heap.size wz 32 (.slice (some ⟨wn3.heap.size, 0, none⟩) 1 1) [(⟨paR, A.1.pieces.length, pcR, saR, A.1.seams.length, scR, A.1.openings⟩ : RawT)] := V1
              replace hP := hP.keptV V0 hgv
              replace hbo := below_mark hbo V0 (Nat.le_refl _) hgv
              refine hK.out _ _ (by exact ⟨kept_cell a0 hbo, kept_cell a1 hbo, kept_cell a2 hbo, kept_cell b0 hbo, kept_cell b1 hbo, kept_cell b2 hbo, kept_cell b3 hbo⟩) (fun hHeld => ?_)
              clear hK K
              go_simp
              refine wpAnyH_take (i := 10) (v := _) rfl (by kernel_rfl) (by kernel_rfl) (by kernel_rfl) (fun _ _ _ h => PostR.put h) (Or.inl ⟨by rfl, (by intro w hSw; (try dsimp only at hSw); go_simp; try with_reducible rfl)⟩) (by assumption) ?_
              go_simp
              refine wpAnyH_done (by kernel_rfl) ?_ _
              exact ⟨rfl, by rw [hRe.out]; exact ⟨wn3.heap.size, paR, pcR, saR, scR, rsR, _, _, _, _, _, _, _, _, _, _, _, _, _, _, rfl, patW_ty hP V1, hbo⟩⟩
          · go_simp
            obtain ⟨wn5, hwt⟩ : ∃ wt, wt = wn2.alloc (.cells #[.slice none 0 0, .slice none 0 0, .int .i64 0] 32) := ⟨_, rfl⟩
            rw [← hwt]
            have hst : Below wn2.heap.size wn2 wn5 := by rw [hwt]; exact new_below _ _
            have V0 := (own_rawT wn2 32 zeroT).base hBc
            change Own _ (wn2.alloc (.cells #[.slice none 0 0, .slice none 0 0, .int .i64 0] 32)) _ _ [zeroT] at V0
            rw [← hwt] at V0
            clear hwt
            replace hbo := upw hbo hst
            replace hBc := Nat.le_trans hBc hst.size
            replace hOt := hOt.later hst
            clear hst
            refine hK.out _ _ (by exact ⟨kept_cell a0 hbo, kept_cell a1 hbo, kept_cell a2 hbo, kept_cell b0 hbo, kept_cell b1 hbo, kept_cell b2 hbo, kept_cell b3 hbo⟩) (fun hHeld => ?_)
            clear hK K
            go_simp
            refine wpAnyH_ready (rs := [4]) (by kernel_rfl) (by simp) ?_
            refine AllReadyH.cons rfl (fun K hK => ?_) AllReadyH.nil
            · go_simp
              refine (CS.out _ paT pcT saT scT rsT wn5 hOt hl0).mono ?_
              rintro e wn6 ⟨paR, pcR, saR, scR, rsR, rfl, hP, hst⟩
              replace hbo := upw hbo hst
              replace hOt := hOt.later hst
              replace V0 := V0.later hst
              replace hP := hP.base hBc
              replace hBc := Nat.le_trans hBc hst.size
              clear hst
              refine hK.out _ _ (by exact ⟨kept_cell a0 hbo, kept_cell a1 hbo, kept_cell a2 hbo, kept_cell b0 hbo, kept_cell b1 hbo, kept_cell b2 hbo, kept_cell b3 hbo⟩) (fun hHeld => ?_)
              clear hK K
              go_simp
              refine wpAnyH_take (i := 5) (v := _) rfl (by kernel_rfl) (by kernel_rfl) (by kernel_rfl) (fun _ _ _ h => PostR.put h) (Or.inl ⟨by rfl, (by intro w hSw; (try dsimp only at hSw); go_simp; try with_reducible rfl)⟩) (by assumption) ?_
              go_simp
              refine wpAnyH_take (i := 6) (v := _) rfl (by kernel_rfl) (by kernel_rfl) (by kernel_rfl) (fun _ _ _ h => PostR.put h) (Or.inl ⟨by rfl, (by intro w hSw; (try dsimp only at hSw); go_simp; try with_reducible rfl)⟩) (by assumption) ?_
              go_simp
              refine wpAnyH_take (i := 7) (v := _) rfl (by kernel_rfl) (by kernel_rfl) (by kernel_rfl) (fun _ _ _ h => PostR.put h) (Or.inl ⟨by rfl, (by intro w hSw; (try dsimp only at hSw); go_simp; try with_reducible rfl)⟩) (by assumption) ?_
              go_simp
              refine wpAnyH_ready (rs := [9]) (by kernel_rfl) (by simp) ?_
              refine AllReadyH.cons rfl (fun K hK => ?_) AllReadyH.nil
              refine cast (if_pos (by rfl)).symm ?_
              refine wp_store_own 32 (.tmp 6) (.tmp 27) rfl w2.heap.size 32 wn2.heap.size 1 1 [zeroT] 0 _ (⟨paR, A.1.pieces.length, pcR, saR, A.1.seams.length, scR, A.1.openings⟩ : RawT) rfl rfl rfl (by kernel_rfl) rfl V0 (by simp) ?_
              intro wz V1 hgv
              replace V1 : Own w2.heap.size wz 32 (.slice (some ⟨wn2.heap.size, 0, none⟩) 1 1) [(⟨paR, A.1.pieces.length, pcR, saR, A.1.seams.length, scR, A.1.openings⟩ : RawT)] := V1
              replace hP := hP.keptV V0 hgv
              replace hbo := below_mark hbo V0 (Nat.le_refl _) hgv
              refine hK.out _ _ (by exact ⟨kept_cell a0 hbo, kept_cell a1 hbo, kept_cell a2 hbo, kept_cell b0 hbo, kept_cell b1 hbo, kept_cell b2 hbo, kept_cell b3 hbo⟩) (fun hHeld => ?_)
              clear hK K
              go_simp
              refine wpAnyH_take (i := 10) (v := _) rfl (by kernel_rfl) (by kernel_rfl) (by kernel_rfl) (fun _ _ _ h => PostR.put h) (Or.inl ⟨by rfl, (by intro w hSw; (try dsimp only at hSw); go_simp; try with_reducible rfl)⟩) (by assumption) ?_
              go_simp
              refine wpAnyH_done (by kernel_rfl) ?_ _
              exact ⟨rfl, by rw [hRe.out]; exact ⟨wn2.heap.size, paR, pcR, saR, scR, rsR, _, _, _, _, _, _, _, _, _, _, _, _, _, _, rfl, patW_ty hP V1, hbo⟩⟩
        · go_simp
          obtain ⟨wn7, hwt⟩ : ∃ wt, wt = wn1.alloc (.cells #[.slice none 0 0, .slice none 0 0, .int .i64 0] 32) := ⟨_, rfl⟩
          rw [← hwt]
          have hst : Below wn1.heap.size wn1 wn7 := by rw [hwt]; exact new_below _ _
          have V0 := (own_rawT wn1 32 zeroT).base hBc
          change Own _ (wn1.alloc (.cells #[.slice none 0 0, .slice none 0 0, .int .i64 0] 32)) _ _ [zeroT] at V0
          rw [← hwt] at V0
          clear hwt
          replace hbo := upw hbo hst
          replace hBc := Nat.le_trans hBc hst.size
          replace hOt := hOt.later hst
          clear hst
          refine hK.out _ _ (by exact ⟨kept_cell a0 hbo, kept_cell a1 hbo, kept_cell a2 hbo, kept_cell b0 hbo, kept_cell b1 hbo, kept_cell b2 hbo, kept_cell b3 hbo⟩) (fun hHeld => ?_)
          clear hK K
          go_simp
          refine wpAnyH_ready (rs := [3]) (by kernel_rfl) (by simp) ?_
          refine AllReadyH.cons rfl (fun K hK => ?_) AllReadyH.nil
          · go_simp
            refine (toSeam_any x1.A x1.EdgeA x1.B x1.EdgeB wn7).mono ?_
            rintro e wn8 ⟨rfl, hst⟩
            replace hbo := upw hbo hst
            replace hOt := hOt.later hst
            replace V0 := V0.later hst
            replace hBc := Nat.le_trans hBc hst.size
            clear hst
            refine hK.out _ _ (by exact ⟨kept_cell a0 hbo, kept_cell a1 hbo, kept_cell a2 hbo, kept_cell b0 hbo, kept_cell b1 hbo, kept_cell b2 hbo, kept_cell b3 hbo⟩) (fun hHeld => ?_)
            clear hK K
            go_simp
            refine wpAnyH_ready (rs := [4]) (by kernel_rfl) (by simp) ?_
            refine AllReadyH.cons rfl (fun K hK => ?_) AllReadyH.nil
            · go_simp
              refine (CS.out _ paT pcT saT scT rsT wn8 hOt hl0).mono ?_
              rintro e wn9 ⟨paR, pcR, saR, scR, rsR, rfl, hP, hst⟩
              replace hbo := upw hbo hst
              replace hOt := hOt.later hst
              replace V0 := V0.later hst
              replace hP := hP.base hBc
              replace hBc := Nat.le_trans hBc hst.size
              clear hst
              refine hK.out _ _ (by exact ⟨kept_cell a0 hbo, kept_cell a1 hbo, kept_cell a2 hbo, kept_cell b0 hbo, kept_cell b1 hbo, kept_cell b2 hbo, kept_cell b3 hbo⟩) (fun hHeld => ?_)
              clear hK K
              go_simp
              refine wpAnyH_take (i := 5) (v := _) rfl (by kernel_rfl) (by kernel_rfl) (by kernel_rfl) (fun _ _ _ h => PostR.put h) (Or.inl ⟨by rfl, (by intro w hSw; (try dsimp only at hSw); go_simp; try with_reducible rfl)⟩) (by assumption) ?_
              go_simp
              refine wpAnyH_take (i := 6) (v := _) rfl (by kernel_rfl) (by kernel_rfl) (by kernel_rfl) (fun _ _ _ h => PostR.put h) (Or.inl ⟨by rfl, (by intro w hSw; (try dsimp only at hSw); go_simp; try with_reducible rfl)⟩) (by assumption) ?_
              go_simp
              refine wpAnyH_take (i := 7) (v := _) rfl (by kernel_rfl) (by kernel_rfl) (by kernel_rfl) (fun _ _ _ h => PostR.put h) (Or.inl ⟨by rfl, (by intro w hSw; (try dsimp only at hSw); go_simp; try with_reducible rfl)⟩) (by assumption) ?_
              go_simp
              refine wpAnyH_ready (rs := [9]) (by kernel_rfl) (by simp) ?_
              refine AllReadyH.cons rfl (fun K hK => ?_) AllReadyH.nil
              refine cast (if_pos (by rfl)).symm ?_
              refine wp_store_own 32 (.tmp 6) (.tmp 27) rfl w2.heap.size 32 wn1.heap.size 1 1 [zeroT] 0 _ (⟨paR, A.1.pieces.length, pcR, saR, A.1.seams.length, scR, A.1.openings⟩ : RawT) rfl rfl rfl (by kernel_rfl) rfl V0 (by simp) ?_
              intro wz V1 hgv
              replace V1 : Own w2.heap.size wz 32 (.slice (some ⟨wn1.heap.size, 0, none⟩) 1 1) [(⟨paR, A.1.pieces.length, pcR, saR, A.1.seams.length, scR, A.1.openings⟩ : RawT)] := V1
              replace hP := hP.keptV V0 hgv
              replace hbo := below_mark hbo V0 (Nat.le_refl _) hgv
              refine hK.out _ _ (by exact ⟨kept_cell a0 hbo, kept_cell a1 hbo, kept_cell a2 hbo, kept_cell b0 hbo, kept_cell b1 hbo, kept_cell b2 hbo, kept_cell b3 hbo⟩) (fun hHeld => ?_)
              clear hK K
              go_simp
              refine wpAnyH_take (i := 10) (v := _) rfl (by kernel_rfl) (by kernel_rfl) (by kernel_rfl) (fun _ _ _ h => PostR.put h) (Or.inl ⟨by rfl, (by intro w hSw; (try dsimp only at hSw); go_simp; try with_reducible rfl)⟩) (by assumption) ?_
              go_simp
              refine wpAnyH_done (by kernel_rfl) ?_ _
              exact ⟨rfl, by rw [hRe.out]; exact ⟨wn1.heap.size, paR, pcR, saR, scR, rsR, _, _, _, _, _, _, _, _, _, _, _, _, _, _, rfl, patW_ty hP V1, hbo⟩⟩
      · go_simp
        obtain ⟨wn10, hwt⟩ : ∃ wt, wt = wo.alloc (.cells #[.slice none 0 0, .slice none 0 0, .int .i64 0] 32) := ⟨_, rfl⟩
        rw [← hwt]
        have hst : Below wo.heap.size wo wn10 := by rw [hwt]; exact new_below _ _
        have V0 := (own_rawT wo 32 zeroT).base hBc
        change Own _ (wo.alloc (.cells #[.slice none 0 0, .slice none 0 0, .int .i64 0] 32)) _ _ [zeroT] at V0
        rw [← hwt] at V0
        clear hwt
        replace hbo := upw hbo hst
        replace hBc := Nat.le_trans hBc hst.size
        clear hst
        refine hK.out _ _ (by exact ⟨kept_cell a0 hbo, kept_cell a1 hbo, kept_cell a2 hbo, kept_cell b0 hbo, kept_cell b1 hbo, kept_cell b2 hbo, kept_cell b3 hbo⟩) (fun hHeld => ?_)
        clear hK K
        go_simp
        refine wpAnyH_ready (rs := [1]) (by kernel_rfl) (by simp) ?_
        refine AllReadyH.cons rfl (fun K hK => ?_) AllReadyH.nil
        · go_simp
          refine (toPattern_c x0 pa0 pc0 sa0 sc0 wn10 (hx0.below (upw hb hbo)) hl0).mono ?_
          rintro e wn11 ⟨paT, pcT, saT, scT, rsT, rfl, hOt, hst⟩
          replace hbo := upw hbo hst
          replace V0 := V0.later hst
          replace hBc := Nat.le_trans hBc hst.size
          clear hst
          refine hK.out _ _ (by exact ⟨kept_cell a0 hbo, kept_cell a1 hbo, kept_cell a2 hbo, kept_cell b0 hbo, kept_cell b1 hbo, kept_cell b2 hbo, kept_cell b3 hbo⟩) (fun hHeld => ?_)
          clear hK K
          go_simp
          refine wpAnyH_ready (rs := [3]) (by kernel_rfl) (by simp) ?_
          refine AllReadyH.cons rfl (fun K hK => ?_) AllReadyH.nil
          · go_simp
            refine (toSeam_any x1.A x1.EdgeA x1.B x1.EdgeB wn11).mono ?_
            rintro e wn12 ⟨rfl, hst⟩
            replace hbo := upw hbo hst
            replace hOt := hOt.later hst
            replace V0 := V0.later hst
            replace hBc := Nat.le_trans hBc hst.size
            clear hst
            refine hK.out _ _ (by exact ⟨kept_cell a0 hbo, kept_cell a1 hbo, kept_cell a2 hbo, kept_cell b0 hbo, kept_cell b1 hbo, kept_cell b2 hbo, kept_cell b3 hbo⟩) (fun hHeld => ?_)
            clear hK K
            go_simp
            refine wpAnyH_ready (rs := [4]) (by kernel_rfl) (by simp) ?_
            refine AllReadyH.cons rfl (fun K hK => ?_) AllReadyH.nil
            · go_simp
              refine (CS.out _ paT pcT saT scT rsT wn12 hOt hl0).mono ?_
              rintro e wn13 ⟨paR, pcR, saR, scR, rsR, rfl, hP, hst⟩
              replace hbo := upw hbo hst
              replace hOt := hOt.later hst
              replace V0 := V0.later hst
              replace hP := hP.base hBc
              replace hBc := Nat.le_trans hBc hst.size
              clear hst
              refine hK.out _ _ (by exact ⟨kept_cell a0 hbo, kept_cell a1 hbo, kept_cell a2 hbo, kept_cell b0 hbo, kept_cell b1 hbo, kept_cell b2 hbo, kept_cell b3 hbo⟩) (fun hHeld => ?_)
              clear hK K
              go_simp
              refine wpAnyH_take (i := 5) (v := _) rfl (by kernel_rfl) (by kernel_rfl) (by kernel_rfl) (fun _ _ _ h => PostR.put h) (Or.inl ⟨by rfl, (by intro w hSw; (try dsimp only at hSw); go_simp; try with_reducible rfl)⟩) (by assumption) ?_
              go_simp
              refine wpAnyH_take (i := 6) (v := _) rfl (by kernel_rfl) (by kernel_rfl) (by kernel_rfl) (fun _ _ _ h => PostR.put h) (Or.inl ⟨by rfl, (by intro w hSw; (try dsimp only at hSw); go_simp; try with_reducible rfl)⟩) (by assumption) ?_
              go_simp
              refine wpAnyH_take (i := 7) (v := _) rfl (by kernel_rfl) (by kernel_rfl) (by kernel_rfl) (fun _ _ _ h => PostR.put h) (Or.inl ⟨by rfl, (by intro w hSw; (try dsimp only at hSw); go_simp; try with_reducible rfl)⟩) (by assumption) ?_
              go_simp
              refine wpAnyH_ready (rs := [9]) (by kernel_rfl) (by simp) ?_
              refine AllReadyH.cons rfl (fun K hK => ?_) AllReadyH.nil
              refine cast (if_pos (by rfl)).symm ?_
              refine wp_store_own 32 (.tmp 6) (.tmp 27) rfl w2.heap.size 32 wo.heap.size 1 1 [zeroT] 0 _ (⟨paR, A.1.pieces.length, pcR, saR, A.1.seams.length, scR, A.1.openings⟩ : RawT) rfl rfl rfl (by kernel_rfl) rfl V0 (by simp) ?_
              intro wz V1 hgv
              replace V1 : Own w2.heap.size wz 32 (.slice (some ⟨wo.heap.size, 0, none⟩) 1 1) [(⟨paR, A.1.pieces.length, pcR, saR, A.1.seams.length, scR, A.1.openings⟩ : RawT)] := V1
              replace hP := hP.keptV V0 hgv
              replace hbo := below_mark hbo V0 (Nat.le_refl _) hgv
              refine hK.out _ _ (by exact ⟨kept_cell a0 hbo, kept_cell a1 hbo, kept_cell a2 hbo, kept_cell b0 hbo, kept_cell b1 hbo, kept_cell b2 hbo, kept_cell b3 hbo⟩) (fun hHeld => ?_)
              clear hK K
              go_simp
              refine wpAnyH_take (i := 10) (v := _) rfl (by kernel_rfl) (by kernel_rfl) (by kernel_rfl) (fun _ _ _ h => PostR.put h) (Or.inl ⟨by rfl, (by intro w hSw; (try dsimp only at hSw); go_simp; try with_reducible rfl)⟩) (by assumption) ?_
              go_simp
              refine wpAnyH_done (by kernel_rfl) ?_ _
              exact ⟨rfl, by rw [hRe.out]; exact ⟨wo.heap.size, paR, pcR, saR, scR, rsR, _, _, _, _, _, _, _, _, _, _, _, _, _, _, rfl, patW_ty hP V1, hbo⟩⟩
    rintro e a' w3 ⟨rfl, hra⟩
    rw [hRe.out] at hra
    clear hRe
    obtain ⟨b6, pa6, pc6, sa6, sc6, rs6, u5, u16, u17, u18, u19, u20, u21, u22, u23, u24, u25, u26, u27, u28, rfl, P6, hb6⟩ := hra
    clear R
    replace a0 := kept_cell a0 hb6; replace a1 := kept_cell a1 hb6; replace a2 := kept_cell a2 hb6; replace b0 := kept_cell b0 hb6; replace b1 := kept_cell b1 hb6; replace b2 := kept_cell b2 hb6; replace b3 := kept_cell b3 hb6
    replace hb := upw hb hb6
    clear hb6
    have hb03 : w.heap.size + 2 ≤ w3.heap.size := by have h9 := P6.lt; have := hs1.out; omega
    clear hsz12
    have P6b := Lib.hid P6
    go_wp2_with fail
    refine (toPattern_c x0 pa0 pc0 sa0 sc0 w3 (hx0.below hb) hl0).mono ?_
    rintro e w4 ⟨pa8, pc8, sa8, sc8, rs8, rfl, hO8, hb4⟩
    replace a0 := kept_cell a0 hb4; replace a1 := kept_cell a1 hb4; replace a2 := kept_cell a2 hb4; replace b0 := kept_cell b0 hb4; replace b1 := kept_cell b1 hb4; replace b2 := kept_cell b2 hb4; replace b3 := kept_cell b3 hb4
    replace hb := upw hb hb4
    replace P6 := P6.later hb4
    obtain ⟨w5, hw5⟩ : ∃ w5, w5 = w4.alloc (.cells #[.slice pa8 x0.pieces.length pc8, .slice sa8 x0.seams.length sc8, .int .i64 x0.openings] 32) := ⟨_, rfl⟩
    have hb5 : Below w4.heap.size w4 w5 := by rw [hw5]; exact new_below _ _
    have P8 : PatW w3.heap.size w5 w4.heap.size pa8 pc8 sa8 sc8 rs8 x0 := by rw [hw5]; exact patW_of hO8 hb4.size
    have hI8 := hO8.patIn
    replace hw5 := Lib.hid hw5
    replace a0 := kept_cell a0 hb5; replace a1 := kept_cell a1 hb5; replace a2 := kept_cell a2 hb5; replace b0 := kept_cell b0 hb5; replace b1 := kept_cell b1 hb5; replace b2 := kept_cell b2 hb5; replace b3 := kept_cell b3 hb5
    replace hb := upw hb hb5
    replace P6 := P6.later hb5
    have hs45 := hb5.size
    clear hb5 hO8
    obtain ⟨k0, k1, k2⟩ := P8.cells
    replace P6 := Lib.hid P6
    replace hI8 := Lib.hid hI8
    have P8h := Lib.hid P8
    have hb4s := hb4.size
    clear hb4
    go_wp2_with (rw [← hw5.out])
    obtain ⟨R, hRe⟩ : ∃ R : Act → World → Prop, R = fun a' w' => ∃ (bR : Nat) (paR : Option Addr) (pcR : Nat) (saR : Option Addr) (scR : Nat) (rsR : List RawP) (u5 u16 u17 u18 u19 u20 u21 u22 u23 u24 u25 u26 u27 u28 u29 u30 u31 u32 u33 u34 u35 u36 u37 : Value), a' = ⟨#[.agg #[.slice pa0 x0.pieces.length pc0, .slice sa0 x0.seams.length sc0, .int .i64 x0.openings], .agg #[.int .i64 x1.A, .int .i64 x1.EdgeA, .int .i64 x1.B, .int .i64 x1.EdgeB], .pointer (some ⟨w.heap.size, 0, none⟩), .pointer (some ⟨w.heap.size + 1, 0, none⟩), .bool false, u5, .pointer (some ⟨b6, 0, none⟩), .int .i64 A.2, .pointer (some ⟨w4.heap.size, 0, none⟩), .pointer (some ⟨bR, 0, none⟩), .int .i64 A.2, undef, undef, undef, undef, undef, u16, u17, u18, u19, u20, u21, u22, u23, u24, u25, u26, u27, u28, u29, u30, u31, u32, u33, u34, u35, u36, u37, undef, undef, undef, undef, undef, undef, undef, undef, undef, undef, undef, undef, undef, undef, undef, undef, undef, undef, undef, undef, undef, undef, undef, undef, undef, undef, undef, undef, undef, undef, undef, undef, undef, undef, undef, undef, undef, undef, undef, undef, undef, undef, undef, undef, undef, undef, undef, undef, undef, undef, undef, undef, undef, undef, undef, undef, undef, undef, undef, undef, undef, undef, undef, undef, undef, undef], []⟩ ∧ PatW w5.heap.size w' bR paR pcR saR scR rsR A.1 ∧ Below w5.heap.size w5 w' := ⟨_, rfl⟩
    replace hRe := Lib.hid hRe
    refine Code.wp_mono (Q := PostR R) ?_ ?_
    rotate_left
    · skip
      refine wp_region_held_drew (S := (fun w' => w'.cell? ⟨w.heap.size, 0, none⟩ = some (.slice pa0 x0.pieces.length pc0) ∧ w'.cell? ⟨w.heap.size, 1, none⟩ = some (.slice sa0 x0.seams.length sc0) ∧ w'.cell? ⟨w.heap.size, 2, none⟩ = some (.int .i64 x0.openings) ∧ w'.cell? ⟨w.heap.size + 1, 0, none⟩ = some (.int .i64 x1.A) ∧ w'.cell? ⟨w.heap.size + 1, 1, none⟩ = some (.int .i64 x1.EdgeA) ∧ w'.cell? ⟨w.heap.size + 1, 2, none⟩ = some (.int .i64 x1.B) ∧ w'.cell? ⟨w.heap.size + 1, 3, none⟩ = some (.int .i64 x1.EdgeB) ∧ w'.cell? ⟨w4.heap.size, 0, none⟩ = some (.slice pa8 x0.pieces.length pc8) ∧ w'.cell? ⟨w4.heap.size, 1, none⟩ = some (.slice sa8 x0.seams.length sc8) ∧ w'.cell? ⟨w4.heap.size, 2, none⟩ = some (.int .i64 x0.openings))) (by kernel_rfl) ⟨a0, a1, a2, b0, b1, b2, b3, k0, k1, k2⟩ (fun hHeld => ?_)
      obtain ⟨wo, hwo⟩ : ∃ wo, wo = w5.drew := ⟨_, rfl⟩
      rw [← hwo] at hHeld ⊢
      have hbo : Below w5.heap.size w5 wo := by rw [hwo]; exact (Below.refl _ _).drew
      clear hwo
      have hBc : w5.heap.size ≤ wo.heap.size := hbo.size
      refine wpAnyH_take (i := 0) (v := _) rfl (by kernel_rfl) (by kernel_rfl) (by kernel_rfl) (fun _ _ _ h => PostR.put h) (Or.inl ⟨by rfl, (by intro w hSw; (try dsimp only at hSw); go_simp; try with_reducible rfl)⟩) (by assumption) ?_
      go_simp
      refine wpAnyH_take (i := 1) (v := _) rfl (by kernel_rfl) (by kernel_rfl) (by kernel_rfl) (fun _ _ _ h => PostR.put h) (Or.inl ⟨by rfl, (by intro w hSw; (try dsimp only at hSw); go_simp; try with_reducible rfl)⟩) (by assumption) ?_
      go_simp
      refine wpAnyH_ready (rs := [2, 7]) (by kernel_rfl) (by simp) ?_
      refine AllReadyH.cons rfl (fun K hK => ?_) (AllReadyH.cons rfl (fun K hK => ?_) AllReadyH.nil)
      · go_simp
        refine (toSeam_any x1.A x1.EdgeA x1.B x1.EdgeB wo).mono ?_
        rintro e wn14 ⟨rfl, hst⟩
        replace hbo := upw hbo hst
        replace hBc := Nat.le_trans hBc hst.size
        clear hst
        refine hK.out _ _ (by exact ⟨kept_cell a0 hbo, kept_cell a1 hbo, kept_cell a2 hbo, kept_cell b0 hbo, kept_cell b1 hbo, kept_cell b2 hbo, kept_cell b3 hbo, kept_cell k0 hbo, kept_cell k1 hbo, kept_cell k2 hbo⟩) (fun hHeld => ?_)
        clear hK K
        go_simp
        refine wpAnyH_ready (rs := [3, 7]) (by kernel_rfl) (by simp) ?_
        refine AllReadyH.cons rfl (fun K hK => ?_) (AllReadyH.cons rfl (fun K hK => ?_) AllReadyH.nil)
        · go_simp
          refine (CI.out _ pa8 pc8 sa8 sc8 rs8 wn14 (P8.pat.later hbo) hl0).mono ?_
          rintro e wn15 ⟨paR, pcR, saR, scR, rsR, rfl, hP, hst⟩
          replace hbo := upw hbo hst
          replace hP := hP.base hBc
          replace hBc := Nat.le_trans hBc hst.size
          clear hst
          refine hK.out _ _ (by exact ⟨kept_cell a0 hbo, kept_cell a1 hbo, kept_cell a2 hbo, kept_cell b0 hbo, kept_cell b1 hbo, kept_cell b2 hbo, kept_cell b3 hbo, kept_cell k0 hbo, kept_cell k1 hbo, kept_cell k2 hbo⟩) (fun hHeld => ?_)
          clear hK K
          go_simp
          refine wpAnyH_take (i := 4) (v := _) rfl (by kernel_rfl) (by kernel_rfl) (by kernel_rfl) (fun _ _ _ h => PostR.put h) (Or.inl ⟨by rfl, (by intro w hSw; (try dsimp only at hSw); go_simp; try with_reducible rfl)⟩) (by assumption) ?_
          go_simp
          refine wpAnyH_take (i := 5) (v := _) rfl (by kernel_rfl) (by kernel_rfl) (by kernel_rfl) (fun _ _ _ h => PostR.put h) (Or.inl ⟨by rfl, (by intro w hSw; (try dsimp only at hSw); go_simp; try with_reducible rfl)⟩) (by assumption) ?_
          go_simp
          refine wpAnyH_take (i := 6) (v := _) rfl (by kernel_rfl) (by kernel_rfl) (by kernel_rfl) (fun _ _ _ h => PostR.put h) (Or.inl ⟨by rfl, (by intro w hSw; (try dsimp only at hSw); go_simp; try with_reducible rfl)⟩) (by assumption) ?_
          go_simp
          refine wpAnyH_ready (rs := [7]) (by kernel_rfl) (by simp) ?_
          refine AllReadyH.cons rfl (fun K hK => ?_) AllReadyH.nil
          · go_simp
            obtain ⟨wn16, hwt⟩ : ∃ wt, wt = wn15.alloc (.cells #[.slice none 0 0, .slice none 0 0, .int .i64 0] 32) := ⟨_, rfl⟩
            rw [← hwt]
            have hst : Below wn15.heap.size wn15 wn16 := by rw [hwt]; exact new_below _ _
            have V0 := (own_rawT wn15 32 zeroT).base hBc
            change Own _ (wn15.alloc (.cells #[.slice none 0 0, .slice none 0 0, .int .i64 0] 32)) _ _ [zeroT] at V0
            rw [← hwt] at V0
            clear hwt
            replace hbo := upw hbo hst
            replace hBc := Nat.le_trans hBc hst.size
            replace hP := hP.later hst
            clear hst
            refine hK.out _ _ (by exact ⟨kept_cell a0 hbo, kept_cell a1 hbo, kept_cell a2 hbo, kept_cell b0 hbo, kept_cell b1 hbo, kept_cell b2 hbo, kept_cell b3 hbo, kept_cell k0 hbo, kept_cell k1 hbo, kept_cell k2 hbo⟩) (fun hHeld => ?_)
            clear hK K
            go_simp
            refine wpAnyH_ready (rs := [8]) (by kernel_rfl) (by simp) ?_
            refine AllReadyH.cons rfl (fun K hK => ?_) AllReadyH.nil
            refine cast (if_pos (by rfl)).symm ?_
            refine wp_store_own 32 (.tmp 9) (.tmp 36) rfl w5.heap.size 32 wn15.heap.size 1 1 [zeroT] 0 _ (⟨paR, A.1.pieces.length, pcR, saR, A.1.seams.length, scR, A.1.openings⟩ : RawT) rfl rfl rfl (by kernel_rfl) rfl V0 (by simp) ?_
            intro wz V1 hgv
            replace V1 : Own w5.heap.size wz 32 (.slice (some ⟨wn15.heap.size, 0, none⟩) 1 1) [(⟨paR, A.1.pieces.length, pcR, saR, A.1.seams.length, scR, A.1.openings⟩ : RawT)] := V1
            replace hP := hP.keptV V0 hgv
            replace hbo := below_mark hbo V0 (Nat.le_refl _) hgv
            refine hK.out _ _ (by exact ⟨kept_cell a0 hbo, kept_cell a1 hbo, kept_cell a2 hbo, kept_cell b0 hbo, kept_cell b1 hbo, kept_cell b2 hbo, kept_cell b3 hbo, kept_cell k0 hbo, kept_cell k1 hbo, kept_cell k2 hbo⟩) (fun hHeld => ?_)
            clear hK K
            go_simp
            refine wpAnyH_take (i := 9) (v := _) rfl (by kernel_rfl) (by kernel_rfl) (by kernel_rfl) (fun _ _ _ h => PostR.put h) (Or.inl ⟨by rfl, (by intro w hSw; (try dsimp only at hSw); go_simp; try with_reducible rfl)⟩) (by assumption) ?_
            go_simp
            refine wpAnyH_done (by kernel_rfl) ?_ _
            exact ⟨rfl, by rw [hRe.out]; exact ⟨wn15.heap.size, paR, pcR, saR, scR, rsR, _, _, _, _, _, _, _, _, _, _, _, _, _, _, _, _, _, _, _, _, _, _, _, rfl, patW_ty hP V1, hbo⟩⟩
        · go_simp
          obtain ⟨wn17, hwt⟩ : ∃ wt, wt = wn14.alloc (.cells #[.slice none 0 0, .slice none 0 0, .int .i64 0] 32) := ⟨_, rfl⟩
          rw [← hwt]
          have hst : Below wn14.heap.size wn14 wn17 := by rw [hwt]; exact new_below _ _
          have V0 := (own_rawT wn14 32 zeroT).base hBc
          change Own _ (wn14.alloc (.cells #[.slice none 0 0, .slice none 0 0, .int .i64 0] 32)) _ _ [zeroT] at V0
          rw [← hwt] at V0
          clear hwt
          replace hbo := upw hbo hst
          replace hBc := Nat.le_trans hBc hst.size
          clear hst
          refine hK.out _ _ (by exact ⟨kept_cell a0 hbo, kept_cell a1 hbo, kept_cell a2 hbo, kept_cell b0 hbo, kept_cell b1 hbo, kept_cell b2 hbo, kept_cell b3 hbo, kept_cell k0 hbo, kept_cell k1 hbo, kept_cell k2 hbo⟩) (fun hHeld => ?_)
          clear hK K
          go_simp
          refine wpAnyH_ready (rs := [3]) (by kernel_rfl) (by simp) ?_
          refine AllReadyH.cons rfl (fun K hK => ?_) AllReadyH.nil
          · go_simp
            refine (CI.out _ pa8 pc8 sa8 sc8 rs8 wn17 (P8.pat.later hbo) hl0).mono ?_
            rintro e wn18 ⟨paR, pcR, saR, scR, rsR, rfl, hP, hst⟩
            replace hbo := upw hbo hst
            replace V0 := V0.later hst
            replace hP := hP.base hBc
            replace hBc := Nat.le_trans hBc hst.size
            clear hst
            refine hK.out _ _ (by exact ⟨kept_cell a0 hbo, kept_cell a1 hbo, kept_cell a2 hbo, kept_cell b0 hbo, kept_cell b1 hbo, kept_cell b2 hbo, kept_cell b3 hbo, kept_cell k0 hbo, kept_cell k1 hbo, kept_cell k2 hbo⟩) (fun hHeld => ?_)
            clear hK K
            go_simp
            refine wpAnyH_take (i := 4) (v := _) rfl (by kernel_rfl) (by kernel_rfl) (by kernel_rfl) (fun _ _ _ h => PostR.put h) (Or.inl ⟨by rfl, (by intro w hSw; (try dsimp only at hSw); go_simp; try with_reducible rfl)⟩) (by assumption) ?_
            go_simp
            refine wpAnyH_take (i := 5) (v := _) rfl (by kernel_rfl) (by kernel_rfl) (by kernel_rfl) (fun _ _ _ h => PostR.put h) (Or.inl ⟨by rfl, (by intro w hSw; (try dsimp only at hSw); go_simp; try with_reducible rfl)⟩) (by assumption) ?_
            go_simp
            refine wpAnyH_take (i := 6) (v := _) rfl (by kernel_rfl) (by kernel_rfl) (by kernel_rfl) (fun _ _ _ h => PostR.put h) (Or.inl ⟨by rfl, (by intro w hSw; (try dsimp only at hSw); go_simp; try with_reducible rfl)⟩) (by assumption) ?_
            go_simp
            refine wpAnyH_ready (rs := [8]) (by kernel_rfl) (by simp) ?_
            refine AllReadyH.cons rfl (fun K hK => ?_) AllReadyH.nil
            refine cast (if_pos (by rfl)).symm ?_
            refine wp_store_own 32 (.tmp 9) (.tmp 36) rfl w5.heap.size 32 wn14.heap.size 1 1 [zeroT] 0 _ (⟨paR, A.1.pieces.length, pcR, saR, A.1.seams.length, scR, A.1.openings⟩ : RawT) rfl rfl rfl (by kernel_rfl) rfl V0 (by simp) ?_
            intro wz V1 hgv
            replace V1 : Own w5.heap.size wz 32 (.slice (some ⟨wn14.heap.size, 0, none⟩) 1 1) [(⟨paR, A.1.pieces.length, pcR, saR, A.1.seams.length, scR, A.1.openings⟩ : RawT)] := V1
            replace hP := hP.keptV V0 hgv
            replace hbo := below_mark hbo V0 (Nat.le_refl _) hgv
            refine hK.out _ _ (by exact ⟨kept_cell a0 hbo, kept_cell a1 hbo, kept_cell a2 hbo, kept_cell b0 hbo, kept_cell b1 hbo, kept_cell b2 hbo, kept_cell b3 hbo, kept_cell k0 hbo, kept_cell k1 hbo, kept_cell k2 hbo⟩) (fun hHeld => ?_)
            clear hK K
            go_simp
            refine wpAnyH_take (i := 9) (v := _) rfl (by kernel_rfl) (by kernel_rfl) (by kernel_rfl) (fun _ _ _ h => PostR.put h) (Or.inl ⟨by rfl, (by intro w hSw; (try dsimp only at hSw); go_simp; try with_reducible rfl)⟩) (by assumption) ?_
            go_simp
            refine wpAnyH_done (by kernel_rfl) ?_ _
            exact ⟨rfl, by rw [hRe.out]; exact ⟨wn14.heap.size, paR, pcR, saR, scR, rsR, _, _, _, _, _, _, _, _, _, _, _, _, _, _, _, _, _, _, _, _, _, _, _, rfl, patW_ty hP V1, hbo⟩⟩
      · go_simp
        obtain ⟨wn19, hwt⟩ : ∃ wt, wt = wo.alloc (.cells #[.slice none 0 0, .slice none 0 0, .int .i64 0] 32) := ⟨_, rfl⟩
        rw [← hwt]
        have hst : Below wo.heap.size wo wn19 := by rw [hwt]; exact new_below _ _
        have V0 := (own_rawT wo 32 zeroT).base hBc
        change Own _ (wo.alloc (.cells #[.slice none 0 0, .slice none 0 0, .int .i64 0] 32)) _ _ [zeroT] at V0
        rw [← hwt] at V0
        clear hwt
        replace hbo := upw hbo hst
        replace hBc := Nat.le_trans hBc hst.size
        clear hst
        refine hK.out _ _ (by exact ⟨kept_cell a0 hbo, kept_cell a1 hbo, kept_cell a2 hbo, kept_cell b0 hbo, kept_cell b1 hbo, kept_cell b2 hbo, kept_cell b3 hbo, kept_cell k0 hbo, kept_cell k1 hbo, kept_cell k2 hbo⟩) (fun hHeld => ?_)
        clear hK K
        go_simp
        refine wpAnyH_ready (rs := [2]) (by kernel_rfl) (by simp) ?_
        refine AllReadyH.cons rfl (fun K hK => ?_) AllReadyH.nil
        · go_simp
          refine (toSeam_any x1.A x1.EdgeA x1.B x1.EdgeB wn19).mono ?_
          rintro e wn20 ⟨rfl, hst⟩
          replace hbo := upw hbo hst
          replace V0 := V0.later hst
          replace hBc := Nat.le_trans hBc hst.size
          clear hst
          refine hK.out _ _ (by exact ⟨kept_cell a0 hbo, kept_cell a1 hbo, kept_cell a2 hbo, kept_cell b0 hbo, kept_cell b1 hbo, kept_cell b2 hbo, kept_cell b3 hbo, kept_cell k0 hbo, kept_cell k1 hbo, kept_cell k2 hbo⟩) (fun hHeld => ?_)
          clear hK K
          go_simp
          refine wpAnyH_ready (rs := [3]) (by kernel_rfl) (by simp) ?_
          refine AllReadyH.cons rfl (fun K hK => ?_) AllReadyH.nil
          · go_simp
            refine (CI.out _ pa8 pc8 sa8 sc8 rs8 wn20 (P8.pat.later hbo) hl0).mono ?_
            rintro e wn21 ⟨paR, pcR, saR, scR, rsR, rfl, hP, hst⟩
            replace hbo := upw hbo hst
            replace V0 := V0.later hst
            replace hP := hP.base hBc
            replace hBc := Nat.le_trans hBc hst.size
            clear hst
            refine hK.out _ _ (by exact ⟨kept_cell a0 hbo, kept_cell a1 hbo, kept_cell a2 hbo, kept_cell b0 hbo, kept_cell b1 hbo, kept_cell b2 hbo, kept_cell b3 hbo, kept_cell k0 hbo, kept_cell k1 hbo, kept_cell k2 hbo⟩) (fun hHeld => ?_)
            clear hK K
            go_simp
            refine wpAnyH_take (i := 4) (v := _) rfl (by kernel_rfl) (by kernel_rfl) (by kernel_rfl) (fun _ _ _ h => PostR.put h) (Or.inl ⟨by rfl, (by intro w hSw; (try dsimp only at hSw); go_simp; try with_reducible rfl)⟩) (by assumption) ?_
            go_simp
            refine wpAnyH_take (i := 5) (v := _) rfl (by kernel_rfl) (by kernel_rfl) (by kernel_rfl) (fun _ _ _ h => PostR.put h) (Or.inl ⟨by rfl, (by intro w hSw; (try dsimp only at hSw); go_simp; try with_reducible rfl)⟩) (by assumption) ?_
            go_simp
            refine wpAnyH_take (i := 6) (v := _) rfl (by kernel_rfl) (by kernel_rfl) (by kernel_rfl) (fun _ _ _ h => PostR.put h) (Or.inl ⟨by rfl, (by intro w hSw; (try dsimp only at hSw); go_simp; try with_reducible rfl)⟩) (by assumption) ?_
            go_simp
            refine wpAnyH_ready (rs := [8]) (by kernel_rfl) (by simp) ?_
            refine AllReadyH.cons rfl (fun K hK => ?_) AllReadyH.nil
            refine cast (if_pos (by rfl)).symm ?_
            refine wp_store_own 32 (.tmp 9) (.tmp 36) rfl w5.heap.size 32 wo.heap.size 1 1 [zeroT] 0 _ (⟨paR, A.1.pieces.length, pcR, saR, A.1.seams.length, scR, A.1.openings⟩ : RawT) rfl rfl rfl (by kernel_rfl) rfl V0 (by simp) ?_
            intro wz V1 hgv
            replace V1 : Own w5.heap.size wz 32 (.slice (some ⟨wo.heap.size, 0, none⟩) 1 1) [(⟨paR, A.1.pieces.length, pcR, saR, A.1.seams.length, scR, A.1.openings⟩ : RawT)] := V1
            replace hP := hP.keptV V0 hgv
            replace hbo := below_mark hbo V0 (Nat.le_refl _) hgv
            refine hK.out _ _ (by exact ⟨kept_cell a0 hbo, kept_cell a1 hbo, kept_cell a2 hbo, kept_cell b0 hbo, kept_cell b1 hbo, kept_cell b2 hbo, kept_cell b3 hbo, kept_cell k0 hbo, kept_cell k1 hbo, kept_cell k2 hbo⟩) (fun hHeld => ?_)
            clear hK K
            go_simp
            refine wpAnyH_take (i := 9) (v := _) rfl (by kernel_rfl) (by kernel_rfl) (by kernel_rfl) (fun _ _ _ h => PostR.put h) (Or.inl ⟨by rfl, (by intro w hSw; (try dsimp only at hSw); go_simp; try with_reducible rfl)⟩) (by assumption) ?_
            go_simp
            refine wpAnyH_done (by kernel_rfl) ?_ _
            exact ⟨rfl, by rw [hRe.out]; exact ⟨wo.heap.size, paR, pcR, saR, scR, rsR, _, _, _, _, _, _, _, _, _, _, _, _, _, _, _, _, _, _, _, _, _, _, _, rfl, patW_ty hP V1, hbo⟩⟩
    rintro e a' w6 ⟨rfl, hra⟩
    rw [hRe.out] at hra
    clear hRe
    obtain ⟨b9, pa9, pc9, sa9, sc9, rs9, u5, u16, u17, u18, u19, u20, u21, u22, u23, u24, u25, u26, u27, u28, u29, u30, u31, u32, u33, u34, u35, u36, u37, rfl, P9, hb9⟩ := hra
    clear R
    replace a0 := kept_cell a0 hb9; replace a1 := kept_cell a1 hb9; replace a2 := kept_cell a2 hb9; replace b0 := kept_cell b0 hb9; replace b1 := kept_cell b1 hb9; replace b2 := kept_cell b2 hb9; replace b3 := kept_cell b3 hb9; replace k0 := kept_cell k0 hb9; replace k1 := kept_cell k1 hb9; replace k2 := kept_cell k2 hb9
    replace hb := upw hb hb9
    replace P6 := Lib.hid (P6.out.later hb9)
    replace P8h := Lib.hid (P8h.out.later hb9)
    have hs56 := hb9.size
    clear hb9 P8
    have P9h := Lib.hid P9
    obtain ⟨f0, f1, f2⟩ := P6.out.cells
    obtain ⟨g0, g1, g2⟩ := P9.cells
    have hs6 := Lib.hid (P6.out.lt)
    have hs9 := Lib.hid (P9.lt)
    clear P9
    have P9b := P9h
    have hw6s : Hid (w6.heap.size = w6.heap.size) := Lib.hid rfl
    clear hw6s
    go_wp2_with fail
    refine (eqPattern_same A.1 _ _ _ _ _ _ _ _ w6 P9h.out.pat.lie P6.out.pat.lie hlen).mono ?_
    rintro e w7 ⟨rfl, hb7⟩
    replace a0 := kept_cell a0 hb7; replace a1 := kept_cell a1 hb7; replace a2 := kept_cell a2 hb7; replace b0 := kept_cell b0 hb7; replace b1 := kept_cell b1 hb7; replace b2 := kept_cell b2 hb7; replace b3 := kept_cell b3 hb7; replace k0 := kept_cell k0 hb7; replace k1 := kept_cell k1 hb7; replace k2 := kept_cell k2 hb7; replace f0 := kept_cell f0 hb7; replace f1 := kept_cell f1 hb7; replace f2 := kept_cell f2 hb7; replace g0 := kept_cell g0 hb7; replace g1 := kept_cell g1 hb7; replace g2 := kept_cell g2 hb7; replace hb := upw hb hb7; replace P6 := Lib.hid (P6.out.later hb7); replace P8h := Lib.hid (P8h.out.later hb7); replace P9h := Lib.hid (P9h.out.later hb7); clear hb7
    go_wp2_with fail
    refine wp_region_held_drew (S := (fun w' => w'.cell? ⟨w.heap.size, 0, none⟩ = some (.slice pa0 x0.pieces.length pc0) ∧ w'.cell? ⟨w.heap.size, 1, none⟩ = some (.slice sa0 x0.seams.length sc0) ∧ w'.cell? ⟨w.heap.size, 2, none⟩ = some (.int .i64 x0.openings) ∧ w'.cell? ⟨w4.heap.size, 0, none⟩ = some (.slice pa8 x0.pieces.length pc8) ∧ w'.cell? ⟨w4.heap.size, 1, none⟩ = some (.slice sa8 x0.seams.length sc8) ∧ w'.cell? ⟨w4.heap.size, 2, none⟩ = some (.int .i64 x0.openings))) (by kernel_rfl) ⟨a0, a1, a2, k0, k1, k2⟩ (fun hHeld => ?_)
    obtain ⟨wo, hwo⟩ : ∃ wo, wo = w7.drew := ⟨_, rfl⟩
    rw [← hwo] at hHeld ⊢
    have hbo : Below w7.heap.size w7 wo := by rw [hwo]; exact (Below.refl _ _).drew
    clear hwo
    replace a0 := kept_cell a0 hbo; replace a1 := kept_cell a1 hbo; replace a2 := kept_cell a2 hbo; replace b0 := kept_cell b0 hbo; replace b1 := kept_cell b1 hbo; replace b2 := kept_cell b2 hbo; replace b3 := kept_cell b3 hbo; replace k0 := kept_cell k0 hbo; replace k1 := kept_cell k1 hbo; replace k2 := kept_cell k2 hbo; replace f0 := kept_cell f0 hbo; replace f1 := kept_cell f1 hbo; replace f2 := kept_cell f2 hbo; replace g0 := kept_cell g0 hbo; replace g1 := kept_cell g1 hbo; replace g2 := kept_cell g2 hbo; replace hb := upw hb hbo; replace P6 := Lib.hid (P6.out.later hbo); replace P8h := Lib.hid (P8h.out.later hbo); replace P9h := Lib.hid (P9h.out.later hbo); clear hbo
    refine wpAnyH_take (i := 0) (v := _) rfl (by kernel_rfl) (by kernel_rfl) (by kernel_rfl) (fun _ _ _ h => h) (Or.inl ⟨by rfl, (by intro w hSw; (try dsimp only at hSw); go_simp; try with_reducible rfl)⟩) (by assumption) ?_
    go_simp
    refine wpAnyH_take (i := 1) (v := _) rfl (by kernel_rfl) (by kernel_rfl) (by kernel_rfl) (fun _ _ _ h => h) (Or.inl ⟨by rfl, (by intro w hSw; (try dsimp only at hSw); go_simp; try with_reducible rfl)⟩) (by assumption) ?_
    go_simp
    refine wpAnyH_ready (rs := [2]) (by kernel_rfl) (by simp) ?_
    refine AllReadyH.cons rfl (fun K hK => ?_) AllReadyH.nil
    go_simp
    (refine (toPattern_c x0 pa0 pc0 sa0 sc0 wo (hx0.below hb) hl0).mono ?_; rintro e w8 ⟨paT, pcT, saT, scT, rsT, rfl, hOt, hb8⟩; replace a0 := kept_cell a0 hb8; replace a1 := kept_cell a1 hb8; replace a2 := kept_cell a2 hb8; replace b0 := kept_cell b0 hb8; replace b1 := kept_cell b1 hb8; replace b2 := kept_cell b2 hb8; replace b3 := kept_cell b3 hb8; replace k0 := kept_cell k0 hb8; replace k1 := kept_cell k1 hb8; replace k2 := kept_cell k2 hb8; replace f0 := kept_cell f0 hb8; replace f1 := kept_cell f1 hb8; replace f2 := kept_cell f2 hb8; replace g0 := kept_cell g0 hb8; replace g1 := kept_cell g1 hb8; replace g2 := kept_cell g2 hb8; replace hb := upw hb hb8; replace P6 := Lib.hid (P6.out.later hb8); replace P8h := Lib.hid (P8h.out.later hb8); replace P9h := Lib.hid (P9h.out.later hb8); clear hb8; go_simp)
    refine hK.out _ _ ⟨a0, a1, a2, k0, k1, k2⟩ (fun hHeld => ?_)
    clear hK K
    go_simp
    refine wpAnyH_ready (rs := [3]) (by kernel_rfl) (by simp) ?_
    refine AllReadyH.cons rfl (fun K hK => ?_) AllReadyH.nil
    go_simp
    (refine (eqPattern_same x0 _ _ _ _ _ _ _ _ w8 P8h.out.pat.lie hOt.lie hl0).mono ?_; rintro e w9 ⟨rfl, hb9⟩; replace a0 := kept_cell a0 hb9; replace a1 := kept_cell a1 hb9; replace a2 := kept_cell a2 hb9; replace b0 := kept_cell b0 hb9; replace b1 := kept_cell b1 hb9; replace b2 := kept_cell b2 hb9; replace b3 := kept_cell b3 hb9; replace k0 := kept_cell k0 hb9; replace k1 := kept_cell k1 hb9; replace k2 := kept_cell k2 hb9; replace f0 := kept_cell f0 hb9; replace f1 := kept_cell f1 hb9; replace f2 := kept_cell f2 hb9; replace g0 := kept_cell g0 hb9; replace g1 := kept_cell g1 hb9; replace g2 := kept_cell g2 hb9; replace hb := upw hb hb9; replace P6 := Lib.hid (P6.out.later hb9); replace P8h := Lib.hid (P8h.out.later hb9); replace P9h := Lib.hid (P9h.out.later hb9); clear hb9; go_simp)
    refine hK.out _ _ ⟨a0, a1, a2, k0, k1, k2⟩ (fun hHeld => ?_)
    clear hK K
    go_simp
    refine wpAnyH_take (i := 4) (v := _) rfl (by kernel_rfl) (by kernel_rfl) (by kernel_rfl) (fun _ _ _ h => h) (Or.inl ⟨by rfl, (by intro w hSw; (try dsimp only at hSw); go_simp; try with_reducible rfl)⟩) (by assumption) ?_
    go_simp
    refine wpAnyH_done (by kernel_rfl) ?_ _
    clear hOt
    have hmk := markPattern_S (Rng w3.heap.size w4.heap.size) _ x0 _ _ _ _ _ 1 w9 P8h.out.pat hI8.out hl0 rfl (fun k hk => by have := hk.2; have := hb.size; have := (P8h.out.lt).2; omega)
    go_wp2_with fail
    refine hmk.mono ?_
    rintro e w10 ⟨km, rsm, hkm, hkm2, rfl, hM8, hT⟩
    clear hmk hM8 P8h hkm
    have hr6 : ∀ k, k < w3.heap.size → ¬ Rng w3.heap.size w4.heap.size k := fun k h1 h2 => by have := h2.1; omega
    have hr9 : ∀ k, w5.heap.size ≤ k → ¬ Rng w3.heap.size w4.heap.size k := fun k h1 h2 => by have := h2.2; omega
    replace a0 := touched_cell' a0 hT (hr6 _ (by omega)); replace a1 := touched_cell' a1 hT (hr6 _ (by omega)); replace a2 := touched_cell' a2 hT (hr6 _ (by omega)); replace b0 := touched_cell' b0 hT (hr6 _ (by omega)); replace b1 := touched_cell' b1 hT (hr6 _ (by omega)); replace b2 := touched_cell' b2 hT (hr6 _ (by omega)); replace b3 := touched_cell' b3 hT (hr6 _ (by omega))
    clear k0 k1 k2 f0 f1 f2 g0 g1 g2
    replace P6 := Lib.hid (P6.out.past hT P6b.out (fun k h1 h2 => hr6 k (Nat.lt_of_lt_of_le h2 (Nat.le_refl _))))
    replace P9h := Lib.hid (P9h.out.past hT P9h.out (fun k h1 h2 => hr9 k h1))
    replace hb := hT.below hb (by omega)
    clear hT hr6 hr9
    obtain ⟨f0, f1, f2⟩ := P6.out.cells
    obtain ⟨g0, g1, g2⟩ := P9h.out.cells
    have hkm0 : ¬ (km : Int) < 0 := by omega
    go_wp2_with (go_at_call 11; refine (eqPattern_same A.1 _ _ _ _ _ _ _ _ _ P9h.out.pat.lie P6.out.pat.lie hlen).mono ?_; rintro e w11 ⟨rfl, hb11⟩; replace a0 := kept_cell a0 hb11; replace a1 := kept_cell a1 hb11; replace a2 := kept_cell a2 hb11; replace b0 := kept_cell b0 hb11; replace b1 := kept_cell b1 hb11; replace b2 := kept_cell b2 hb11; replace b3 := kept_cell b3 hb11; replace f0 := kept_cell f0 hb11; replace f1 := kept_cell f1 hb11; replace f2 := kept_cell f2 hb11; replace g0 := kept_cell g0 hb11; replace g1 := kept_cell g1 hb11; replace g2 := kept_cell g2 hb11; replace hb := upw hb hb11; replace P6 := Lib.hid (P6.out.later hb11); replace P9h := Lib.hid (P9h.out.later hb11); clear hb11)
    have hmk := markPattern_S (fun k => w5.heap.size ≤ k ∧ k < w11.heap.size ∧ k ≠ b9) _ A.1 _ _ _ _ _ 1 w11 P9h.out.pat ⟨fun k hk => ⟨(P9h.out.pat.row.lt k hk).1, (P9h.out.pat.row.lt k hk).2, fun e => by subst e; rcases P9h.out.f2 with h9 | h9; rw [h9] at hk; cases hk; exact h9 hk⟩, fun k hk => ⟨(P9h.out.pat.seams.lt k hk).1, (P9h.out.pat.seams.lt k hk).2, fun e => by subst e; rcases P9h.out.f3 with h9 | h9; rw [h9] at hk; cases hk; exact h9 hk⟩, fun r hr k hk => ⟨(P9h.out.pat.rowlt r hr k hk).1, (P9h.out.pat.rowlt r hr k hk).2, fun e => by subst e; rcases P9h.out.f1 r hr with h9 | h9; rw [h9] at hk; cases hk; exact h9 hk⟩⟩ hlen rfl (fun k hk => hk.2.1)
    go_wp2_with fail
    refine hmk.mono ?_
    rintro e w12 ⟨km2, rsm2, hkm3, hkm4, rfl, hM9, hT⟩
    clear hmk
    have hr6 : ∀ k, k < w5.heap.size → ¬ (w5.heap.size ≤ k ∧ k < w11.heap.size ∧ k ≠ b9) := fun k h1 h2 => by have := h2.1; omega
    have hb05 : w3.heap.size ≤ w5.heap.size := by omega
    replace a0 := touched_cell' a0 hT (hr6 _ (by omega)); replace a1 := touched_cell' a1 hT (hr6 _ (by omega)); replace a2 := touched_cell' a2 hT (hr6 _ (by omega)); replace b0 := touched_cell' b0 hT (hr6 _ (by omega)); replace b1 := touched_cell' b1 hT (hr6 _ (by omega)); replace b2 := touched_cell' b2 hT (hr6 _ (by omega)); replace b3 := touched_cell' b3 hT (hr6 _ (by omega))
    replace g0 := touched_cell' g0 hT (fun h => h.2.2 rfl); replace g1 := touched_cell' g1 hT (fun h => h.2.2 rfl); replace g2 := touched_cell' g2 hT (fun h => h.2.2 rfl)
    clear f0 f1 f2
    replace P6 := Lib.hid (P6.out.past hT P6b.out (fun k h1 h2 => hr6 k (Nat.lt_of_lt_of_le h2 hb05)))
    replace hb : Below w.heap.size w w12 := ⟨hT.os.trans hb.os, hT.tape.trans hb.tape, hT.output.trans hb.output, Nat.le_trans hb.size hT.size, fun k hk => (hT.block k (Nat.lt_of_lt_of_le hk hb.size) (hr6 k (by omega))).trans (hb.block k hk)⟩
    clear hT hr6 P9h P9b
    obtain ⟨f0, f1, f2⟩ := P6.out.cells
    have hMl := Lib.hid hM9.lie
    replace hM9 := Lib.hid hM9
    have hkm0 : ¬ (km2 : Int) < 0 := by omega
    replace hkm3 := Lib.hid hkm3
    go_wp2_with fail
    refine (heldPattern_c A.1 pa9 A.1.pieces.length pc9 sa9 A.1.seams.length sc9 A.1.openings w12 hMl.out rfl rfl hlen 1 rfl).mono ?_
    rintro e w13 ⟨rfl, hb13⟩
    rw [← hkm3.out]
    replace a0 := kept_cell a0 hb13; replace a1 := kept_cell a1 hb13; replace a2 := kept_cell a2 hb13; replace b0 := kept_cell b0 hb13; replace b1 := kept_cell b1 hb13; replace b2 := kept_cell b2 hb13; replace b3 := kept_cell b3 hb13; replace f0 := kept_cell f0 hb13; replace f1 := kept_cell f1 hb13; replace f2 := kept_cell f2 hb13; replace g0 := kept_cell g0 hb13; replace g1 := kept_cell g1 hb13; replace g2 := kept_cell g2 hb13; replace hb := upw hb hb13; replace P6 := Lib.hid (P6.out.later hb13); replace hMl := Lib.hid (hMl.out.below hb13); clear hb13 hM9
    go_wp2_with fail
    obtain ⟨R, hRe⟩ : ∃ R : Act → World → Prop, R = fun a' w' => ∃ (bR : Nat) (paR : Option Addr) (pcR : Nat) (saR : Option Addr) (scR : Nat) (rsR : List RawP) (u5 u11 u13 u16 u17 u18 u19 u20 u21 u22 u23 u24 u25 u26 u27 u28 u29 u30 u31 u32 u33 u34 u35 u36 u37 u38 u39 u40 u41 u42 u43 u44 u45 u46 u47 u48 u49 u50 u51 u52 u53 u54 u55 u56 u57 u58 u59 u60 u61 u62 u63 u64 u65 u66 u67 u68 u69 u70 u71 u72 u73 u74 u75 u76 u77 u78 u79 u80 u81 u82 u83 u84 u85 u86 : Value), a' = ⟨#[.agg #[.slice pa0 x0.pieces.length pc0, .slice sa0 x0.seams.length sc0, .int .i64 x0.openings], .agg #[.int .i64 x1.A, .int .i64 x1.EdgeA, .int .i64 x1.B, .int .i64 x1.EdgeB], .pointer (some ⟨w.heap.size, 0, none⟩), .pointer (some ⟨w.heap.size + 1, 0, none⟩), .bool false, u5, .pointer (some ⟨b6, 0, none⟩), .int .i64 A.2, .pointer (some ⟨w4.heap.size, 0, none⟩), .pointer (some ⟨b9, 0, none⟩), .int .i64 A.2, u11, .int .i64 (km2 : Int), u13, .pointer (some ⟨bR, 0, none⟩), .int .i64 A.2, u16, u17, u18, u19, u20, u21, u22, u23, u24, u25, u26, u27, u28, u29, u30, u31, u32, u33, u34, u35, u36, u37, u38, u39, u40, u41, u42, u43, u44, u45, u46, u47, u48, u49, u50, u51, u52, u53, u54, u55, u56, u57, u58, u59, u60, u61, u62, u63, u64, u65, u66, u67, u68, u69, u70, u71, u72, u73, u74, u75, u76, u77, u78, u79, u80, u81, u82, u83, u84, u85, u86, undef, undef, undef, undef, undef, undef, undef, undef, undef, undef, undef, undef, undef, undef, undef, undef, undef], []⟩ ∧ PatW w13.heap.size w' bR paR pcR saR scR rsR A.1 ∧ Below w13.heap.size w13 w' := ⟨_, rfl⟩
    replace hRe := Lib.hid hRe
    refine Code.wp_mono (Q := PostR R) ?_ ?_
    rotate_left
    · skip
      refine wp_region_held_drew (S := (fun w' => w'.cell? ⟨w.heap.size, 0, none⟩ = some (.slice pa0 x0.pieces.length pc0) ∧ w'.cell? ⟨w.heap.size, 1, none⟩ = some (.slice sa0 x0.seams.length sc0) ∧ w'.cell? ⟨w.heap.size, 2, none⟩ = some (.int .i64 x0.openings) ∧ w'.cell? ⟨w.heap.size + 1, 0, none⟩ = some (.int .i64 x1.A) ∧ w'.cell? ⟨w.heap.size + 1, 1, none⟩ = some (.int .i64 x1.EdgeA) ∧ w'.cell? ⟨w.heap.size + 1, 2, none⟩ = some (.int .i64 x1.B) ∧ w'.cell? ⟨w.heap.size + 1, 3, none⟩ = some (.int .i64 x1.EdgeB) ∧ w'.cell? ⟨b9, 0, none⟩ = some (.slice pa9 A.1.pieces.length pc9) ∧ w'.cell? ⟨b9, 1, none⟩ = some (.slice sa9 A.1.seams.length sc9) ∧ w'.cell? ⟨b9, 2, none⟩ = some (.int .i64 A.1.openings))) (by kernel_rfl) ⟨a0, a1, a2, b0, b1, b2, b3, g0, g1, g2⟩ (fun hHeld => ?_)
      obtain ⟨wo, hwo⟩ : ∃ wo, wo = w13.drew := ⟨_, rfl⟩
      rw [← hwo] at hHeld ⊢
      have hbo : Below w13.heap.size w13 wo := by rw [hwo]; exact (Below.refl _ _).drew
      clear hwo
      have hBc : w13.heap.size ≤ wo.heap.size := hbo.size
      refine wpAnyH_take (i := 0) (v := _) rfl (by kernel_rfl) (by kernel_rfl) (by kernel_rfl) (fun _ _ _ h => PostR.put h) (Or.inl ⟨by rfl, (by intro w hSw; (try dsimp only at hSw); go_simp; try with_reducible rfl)⟩) (by assumption) ?_
      go_simp
      refine wpAnyH_take (i := 2) (v := _) rfl (by kernel_rfl) (by kernel_rfl) (by kernel_rfl) (fun _ _ _ h => PostR.put h) (Or.inl ⟨by rfl, (by intro w hSw; (try dsimp only at hSw); go_simp; try with_reducible rfl)⟩) (by assumption) ?_
      go_simp
      refine wpAnyH_ready (rs := [1, 8]) (by kernel_rfl) (by simp) ?_
      refine AllReadyH.cons rfl (fun K hK => ?_) (AllReadyH.cons rfl (fun K hK => ?_) AllReadyH.nil)
      · go_simp
        refine (toPattern_c x0 pa0 pc0 sa0 sc0 wo (hx0.below (upw hb hbo)) hl0).mono ?_
        rintro e wn22 ⟨paT, pcT, saT, scT, rsT, rfl, hOt, hst⟩
        replace hbo := upw hbo hst
        replace hBc := Nat.le_trans hBc hst.size
        clear hst
        refine hK.out _ _ (by exact ⟨kept_cell a0 hbo, kept_cell a1 hbo, kept_cell a2 hbo, kept_cell b0 hbo, kept_cell b1 hbo, kept_cell b2 hbo, kept_cell b3 hbo, kept_cell g0 hbo, kept_cell g1 hbo, kept_cell g2 hbo⟩) (fun hHeld => ?_)
        clear hK K
        go_simp
        refine wpAnyH_ready (rs := [3, 8]) (by kernel_rfl) (by simp) ?_
        refine AllReadyH.cons rfl (fun K hK => ?_) (AllReadyH.cons rfl (fun K hK => ?_) AllReadyH.nil)
        · go_simp
          refine (toSeam_any x1.A x1.EdgeA x1.B x1.EdgeB wn22).mono ?_
          rintro e wn23 ⟨rfl, hst⟩
          replace hbo := upw hbo hst
          replace hOt := hOt.later hst
          replace hBc := Nat.le_trans hBc hst.size
          clear hst
          refine hK.out _ _ (by exact ⟨kept_cell a0 hbo, kept_cell a1 hbo, kept_cell a2 hbo, kept_cell b0 hbo, kept_cell b1 hbo, kept_cell b2 hbo, kept_cell b3 hbo, kept_cell g0 hbo, kept_cell g1 hbo, kept_cell g2 hbo⟩) (fun hHeld => ?_)
          clear hK K
          go_simp
          refine wpAnyH_ready (rs := [4, 8]) (by kernel_rfl) (by simp) ?_
          refine AllReadyH.cons rfl (fun K hK => ?_) (AllReadyH.cons rfl (fun K hK => ?_) AllReadyH.nil)
          · go_simp
            refine (CI.out _ paT pcT saT scT rsT wn23 hOt hl0).mono ?_
            rintro e wn24 ⟨paR, pcR, saR, scR, rsR, rfl, hP, hst⟩
            replace hbo := upw hbo hst
            replace hOt := hOt.later hst
            replace hP := hP.base hBc
            replace hBc := Nat.le_trans hBc hst.size
            clear hst
            refine hK.out _ _ (by exact ⟨kept_cell a0 hbo, kept_cell a1 hbo, kept_cell a2 hbo, kept_cell b0 hbo, kept_cell b1 hbo, kept_cell b2 hbo, kept_cell b3 hbo, kept_cell g0 hbo, kept_cell g1 hbo, kept_cell g2 hbo⟩) (fun hHeld => ?_)
            clear hK K
            go_simp
            refine wpAnyH_take (i := 5) (v := _) rfl (by kernel_rfl) (by kernel_rfl) (by kernel_rfl) (fun _ _ _ h => PostR.put h) (Or.inl ⟨by rfl, (by intro w hSw; (try dsimp only at hSw); go_simp; try with_reducible rfl)⟩) (by assumption) ?_
            go_simp
            refine wpAnyH_take (i := 6) (v := _) rfl (by kernel_rfl) (by kernel_rfl) (by kernel_rfl) (fun _ _ _ h => PostR.put h) (Or.inl ⟨by rfl, (by intro w hSw; (try dsimp only at hSw); go_simp; try with_reducible rfl)⟩) (by assumption) ?_
            go_simp
            refine wpAnyH_take (i := 7) (v := _) rfl (by kernel_rfl) (by kernel_rfl) (by kernel_rfl) (fun _ _ _ h => PostR.put h) (Or.inl ⟨by rfl, (by intro w hSw; (try dsimp only at hSw); go_simp; try with_reducible rfl)⟩) (by assumption) ?_
            go_simp
            refine wpAnyH_ready (rs := [8]) (by kernel_rfl) (by simp) ?_
            refine AllReadyH.cons rfl (fun K hK => ?_) AllReadyH.nil
            · go_simp
              obtain ⟨wn25, hwt⟩ : ∃ wt, wt = wn24.alloc (.cells #[.slice none 0 0, .slice none 0 0, .int .i64 0] 32) := ⟨_, rfl⟩
              rw [← hwt]
              have hst : Below wn24.heap.size wn24 wn25 := by rw [hwt]; exact new_below _ _
              have V0 := (own_rawT wn24 32 zeroT).base hBc
              change Own _ (wn24.alloc (.cells #[.slice none 0 0, .slice none 0 0, .int .i64 0] 32)) _ _ [zeroT] at V0
              rw [← hwt] at V0
              clear hwt
              replace hbo := upw hbo hst
              replace hBc := Nat.le_trans hBc hst.size
              replace hOt := hOt.later hst
              replace hP := hP.later hst
              clear hst
              refine hK.out _ _ (by exact ⟨kept_cell a0 hbo, kept_cell a1 hbo, kept_cell a2 hbo, kept_cell b0 hbo, kept_cell b1 hbo, kept_cell b2 hbo, kept_cell b3 hbo, kept_cell g0 hbo, kept_cell g1 hbo, kept_cell g2 hbo⟩) (fun hHeld => ?_)
              clear hK K
              go_simp
              refine wpAnyH_ready (rs := [9]) (by kernel_rfl) (by simp) ?_
              refine AllReadyH.cons rfl (fun K hK => ?_) AllReadyH.nil
              refine cast (if_pos (by rfl)).symm ?_
              refine wp_store_own 32 (.tmp 14) (.tmp 85) rfl w13.heap.size 32 wn24.heap.size 1 1 [zeroT] 0 _ (⟨paR, A.1.pieces.length, pcR, saR, A.1.seams.length, scR, A.1.openings⟩ : RawT) rfl rfl rfl (by kernel_rfl) rfl V0 (by simp) ?_
              intro wz V1 hgv
              replace V1 : Own w13.heap.size wz 32 (.slice (some ⟨wn24.heap.size, 0, none⟩) 1 1) [(⟨paR, A.1.pieces.length, pcR, saR, A.1.seams.length, scR, A.1.openings⟩ : RawT)] := V1
              replace hP := hP.keptV V0 hgv
              replace hbo := below_mark hbo V0 (Nat.le_refl _) hgv
              refine hK.out _ _ (by exact ⟨kept_cell a0 hbo, kept_cell a1 hbo, kept_cell a2 hbo, kept_cell b0 hbo, kept_cell b1 hbo, kept_cell b2 hbo, kept_cell b3 hbo, kept_cell g0 hbo, kept_cell g1 hbo, kept_cell g2 hbo⟩) (fun hHeld => ?_)
              clear hK K
              go_simp
              refine wpAnyH_take (i := 10) (v := _) rfl (by kernel_rfl) (by kernel_rfl) (by kernel_rfl) (fun _ _ _ h => PostR.put h) (Or.inl ⟨by rfl, (by intro w hSw; (try dsimp only at hSw); go_simp; try with_reducible rfl)⟩) (by assumption) ?_
              go_simp
              refine wpAnyH_done (by kernel_rfl) ?_ _
              exact ⟨rfl, by rw [hRe.out]; exact ⟨wn24.heap.size, paR, pcR, saR, scR, rsR, _, _, _, _, _, _, _, _, _, _, _, _, _, _, _, _, _, _, _, _, _, _, _, _, _, _, _, _, _, _, _, _, _, _, _, _, _, _, _, _, _, _, _, _, _, _, _, _, _, _, _, _, _, _, _, _, _, _, _, _, _, _, _, _, _, _, _, _, _, _, _, _, _, _, rfl, patW_ty hP V1, hbo⟩⟩
          · go_simp
            obtain ⟨wn26, hwt⟩ : ∃ wt, wt = wn23.alloc (.cells #[.slice none 0 0, .slice none 0 0, .int .i64 0] 32) := ⟨_, rfl⟩
            rw [← hwt]
            have hst : Below wn23.heap.size wn23 wn26 := by rw [hwt]; exact new_below _ _
            have V0 := (own_rawT wn23 32 zeroT).base hBc
            change Own _ (wn23.alloc (.cells #[.slice none 0 0, .slice none 0 0, .int .i64 0] 32)) _ _ [zeroT] at V0
            rw [← hwt] at V0
            clear hwt
            replace hbo := upw hbo hst
            replace hBc := Nat.le_trans hBc hst.size
            replace hOt := hOt.later hst
            clear hst
            refine hK.out _ _ (by exact ⟨kept_cell a0 hbo, kept_cell a1 hbo, kept_cell a2 hbo, kept_cell b0 hbo, kept_cell b1 hbo, kept_cell b2 hbo, kept_cell b3 hbo, kept_cell g0 hbo, kept_cell g1 hbo, kept_cell g2 hbo⟩) (fun hHeld => ?_)
            clear hK K
            go_simp
            refine wpAnyH_ready (rs := [4]) (by kernel_rfl) (by simp) ?_
            refine AllReadyH.cons rfl (fun K hK => ?_) AllReadyH.nil
            · go_simp
              refine (CI.out _ paT pcT saT scT rsT wn26 hOt hl0).mono ?_
              rintro e wn27 ⟨paR, pcR, saR, scR, rsR, rfl, hP, hst⟩
              replace hbo := upw hbo hst
              replace hOt := hOt.later hst
              replace V0 := V0.later hst
              replace hP := hP.base hBc
              replace hBc := Nat.le_trans hBc hst.size
              clear hst
              refine hK.out _ _ (by exact ⟨kept_cell a0 hbo, kept_cell a1 hbo, kept_cell a2 hbo, kept_cell b0 hbo, kept_cell b1 hbo, kept_cell b2 hbo, kept_cell b3 hbo, kept_cell g0 hbo, kept_cell g1 hbo, kept_cell g2 hbo⟩) (fun hHeld => ?_)
              clear hK K
              go_simp
              refine wpAnyH_take (i := 5) (v := _) rfl (by kernel_rfl) (by kernel_rfl) (by kernel_rfl) (fun _ _ _ h => PostR.put h) (Or.inl ⟨by rfl, (by intro w hSw; (try dsimp only at hSw); go_simp; try with_reducible rfl)⟩) (by assumption) ?_
              go_simp
              refine wpAnyH_take (i := 6) (v := _) rfl (by kernel_rfl) (by kernel_rfl) (by kernel_rfl) (fun _ _ _ h => PostR.put h) (Or.inl ⟨by rfl, (by intro w hSw; (try dsimp only at hSw); go_simp; try with_reducible rfl)⟩) (by assumption) ?_
              go_simp
              refine wpAnyH_take (i := 7) (v := _) rfl (by kernel_rfl) (by kernel_rfl) (by kernel_rfl) (fun _ _ _ h => PostR.put h) (Or.inl ⟨by rfl, (by intro w hSw; (try dsimp only at hSw); go_simp; try with_reducible rfl)⟩) (by assumption) ?_
              go_simp
              refine wpAnyH_ready (rs := [9]) (by kernel_rfl) (by simp) ?_
              refine AllReadyH.cons rfl (fun K hK => ?_) AllReadyH.nil
              refine cast (if_pos (by rfl)).symm ?_
              refine wp_store_own 32 (.tmp 14) (.tmp 85) rfl w13.heap.size 32 wn23.heap.size 1 1 [zeroT] 0 _ (⟨paR, A.1.pieces.length, pcR, saR, A.1.seams.length, scR, A.1.openings⟩ : RawT) rfl rfl rfl (by kernel_rfl) rfl V0 (by simp) ?_
              intro wz V1 hgv
              replace V1 : Own w13.heap.size wz 32 (.slice (some ⟨wn23.heap.size, 0, none⟩) 1 1) [(⟨paR, A.1.pieces.length, pcR, saR, A.1.seams.length, scR, A.1.openings⟩ : RawT)] := V1
              replace hP := hP.keptV V0 hgv
              replace hbo := below_mark hbo V0 (Nat.le_refl _) hgv
              refine hK.out _ _ (by exact ⟨kept_cell a0 hbo, kept_cell a1 hbo, kept_cell a2 hbo, kept_cell b0 hbo, kept_cell b1 hbo, kept_cell b2 hbo, kept_cell b3 hbo, kept_cell g0 hbo, kept_cell g1 hbo, kept_cell g2 hbo⟩) (fun hHeld => ?_)
              clear hK K
              go_simp
              refine wpAnyH_take (i := 10) (v := _) rfl (by kernel_rfl) (by kernel_rfl) (by kernel_rfl) (fun _ _ _ h => PostR.put h) (Or.inl ⟨by rfl, (by intro w hSw; (try dsimp only at hSw); go_simp; try with_reducible rfl)⟩) (by assumption) ?_
              go_simp
              refine wpAnyH_done (by kernel_rfl) ?_ _
              exact ⟨rfl, by rw [hRe.out]; exact ⟨wn23.heap.size, paR, pcR, saR, scR, rsR, _, _, _, _, _, _, _, _, _, _, _, _, _, _, _, _, _, _, _, _, _, _, _, _, _, _, _, _, _, _, _, _, _, _, _, _, _, _, _, _, _, _, _, _, _, _, _, _, _, _, _, _, _, _, _, _, _, _, _, _, _, _, _, _, _, _, _, _, _, _, _, _, _, _, rfl, patW_ty hP V1, hbo⟩⟩
        · go_simp
          obtain ⟨wn28, hwt⟩ : ∃ wt, wt = wn22.alloc (.cells #[.slice none 0 0, .slice none 0 0, .int .i64 0] 32) := ⟨_, rfl⟩
          rw [← hwt]
          have hst : Below wn22.heap.size wn22 wn28 := by rw [hwt]; exact new_below _ _
          have V0 := (own_rawT wn22 32 zeroT).base hBc
          change Own _ (wn22.alloc (.cells #[.slice none 0 0, .slice none 0 0, .int .i64 0] 32)) _ _ [zeroT] at V0
          rw [← hwt] at V0
          clear hwt
          replace hbo := upw hbo hst
          replace hBc := Nat.le_trans hBc hst.size
          replace hOt := hOt.later hst
          clear hst
          refine hK.out _ _ (by exact ⟨kept_cell a0 hbo, kept_cell a1 hbo, kept_cell a2 hbo, kept_cell b0 hbo, kept_cell b1 hbo, kept_cell b2 hbo, kept_cell b3 hbo, kept_cell g0 hbo, kept_cell g1 hbo, kept_cell g2 hbo⟩) (fun hHeld => ?_)
          clear hK K
          go_simp
          refine wpAnyH_ready (rs := [3]) (by kernel_rfl) (by simp) ?_
          refine AllReadyH.cons rfl (fun K hK => ?_) AllReadyH.nil
          · go_simp
            refine (toSeam_any x1.A x1.EdgeA x1.B x1.EdgeB wn28).mono ?_
            rintro e wn29 ⟨rfl, hst⟩
            replace hbo := upw hbo hst
            replace hOt := hOt.later hst
            replace V0 := V0.later hst
            replace hBc := Nat.le_trans hBc hst.size
            clear hst
            refine hK.out _ _ (by exact ⟨kept_cell a0 hbo, kept_cell a1 hbo, kept_cell a2 hbo, kept_cell b0 hbo, kept_cell b1 hbo, kept_cell b2 hbo, kept_cell b3 hbo, kept_cell g0 hbo, kept_cell g1 hbo, kept_cell g2 hbo⟩) (fun hHeld => ?_)
            clear hK K
            go_simp
            refine wpAnyH_ready (rs := [4]) (by kernel_rfl) (by simp) ?_
            refine AllReadyH.cons rfl (fun K hK => ?_) AllReadyH.nil
            · go_simp
              refine (CI.out _ paT pcT saT scT rsT wn29 hOt hl0).mono ?_
              rintro e wn30 ⟨paR, pcR, saR, scR, rsR, rfl, hP, hst⟩
              replace hbo := upw hbo hst
              replace hOt := hOt.later hst
              replace V0 := V0.later hst
              replace hP := hP.base hBc
              replace hBc := Nat.le_trans hBc hst.size
              clear hst
              refine hK.out _ _ (by exact ⟨kept_cell a0 hbo, kept_cell a1 hbo, kept_cell a2 hbo, kept_cell b0 hbo, kept_cell b1 hbo, kept_cell b2 hbo, kept_cell b3 hbo, kept_cell g0 hbo, kept_cell g1 hbo, kept_cell g2 hbo⟩) (fun hHeld => ?_)
              clear hK K
              go_simp
              refine wpAnyH_take (i := 5) (v := _) rfl (by kernel_rfl) (by kernel_rfl) (by kernel_rfl) (fun _ _ _ h => PostR.put h) (Or.inl ⟨by rfl, (by intro w hSw; (try dsimp only at hSw); go_simp; try with_reducible rfl)⟩) (by assumption) ?_
              go_simp
              refine wpAnyH_take (i := 6) (v := _) rfl (by kernel_rfl) (by kernel_rfl) (by kernel_rfl) (fun _ _ _ h => PostR.put h) (Or.inl ⟨by rfl, (by intro w hSw; (try dsimp only at hSw); go_simp; try with_reducible rfl)⟩) (by assumption) ?_
              go_simp
              refine wpAnyH_take (i := 7) (v := _) rfl (by kernel_rfl) (by kernel_rfl) (by kernel_rfl) (fun _ _ _ h => PostR.put h) (Or.inl ⟨by rfl, (by intro w hSw; (try dsimp only at hSw); go_simp; try with_reducible rfl)⟩) (by assumption) ?_
              go_simp
              refine wpAnyH_ready (rs := [9]) (by kernel_rfl) (by simp) ?_
              refine AllReadyH.cons rfl (fun K hK => ?_) AllReadyH.nil
              refine cast (if_pos (by rfl)).symm ?_
              refine wp_store_own 32 (.tmp 14) (.tmp 85) rfl w13.heap.size 32 wn22.heap.size 1 1 [zeroT] 0 _ (⟨paR, A.1.pieces.length, pcR, saR, A.1.seams.length, scR, A.1.openings⟩ : RawT) rfl rfl rfl (by kernel_rfl) rfl V0 (by simp) ?_
              intro wz V1 hgv
              replace V1 : Own w13.heap.size wz 32 (.slice (some ⟨wn22.heap.size, 0, none⟩) 1 1) [(⟨paR, A.1.pieces.length, pcR, saR, A.1.seams.length, scR, A.1.openings⟩ : RawT)] := V1
              replace hP := hP.keptV V0 hgv
              replace hbo := below_mark hbo V0 (Nat.le_refl _) hgv
              refine hK.out _ _ (by exact ⟨kept_cell a0 hbo, kept_cell a1 hbo, kept_cell a2 hbo, kept_cell b0 hbo, kept_cell b1 hbo, kept_cell b2 hbo, kept_cell b3 hbo, kept_cell g0 hbo, kept_cell g1 hbo, kept_cell g2 hbo⟩) (fun hHeld => ?_)
              clear hK K
              go_simp
              refine wpAnyH_take (i := 10) (v := _) rfl (by kernel_rfl) (by kernel_rfl) (by kernel_rfl) (fun _ _ _ h => PostR.put h) (Or.inl ⟨by rfl, (by intro w hSw; (try dsimp only at hSw); go_simp; try with_reducible rfl)⟩) (by assumption) ?_
              go_simp
              refine wpAnyH_done (by kernel_rfl) ?_ _
              exact ⟨rfl, by rw [hRe.out]; exact ⟨wn22.heap.size, paR, pcR, saR, scR, rsR, _, _, _, _, _, _, _, _, _, _, _, _, _, _, _, _, _, _, _, _, _, _, _, _, _, _, _, _, _, _, _, _, _, _, _, _, _, _, _, _, _, _, _, _, _, _, _, _, _, _, _, _, _, _, _, _, _, _, _, _, _, _, _, _, _, _, _, _, _, _, _, _, _, _, rfl, patW_ty hP V1, hbo⟩⟩
      · go_simp
        obtain ⟨wn31, hwt⟩ : ∃ wt, wt = wo.alloc (.cells #[.slice none 0 0, .slice none 0 0, .int .i64 0] 32) := ⟨_, rfl⟩
        rw [← hwt]
        have hst : Below wo.heap.size wo wn31 := by rw [hwt]; exact new_below _ _
        have V0 := (own_rawT wo 32 zeroT).base hBc
        change Own _ (wo.alloc (.cells #[.slice none 0 0, .slice none 0 0, .int .i64 0] 32)) _ _ [zeroT] at V0
        rw [← hwt] at V0
        clear hwt
        replace hbo := upw hbo hst
        replace hBc := Nat.le_trans hBc hst.size
        clear hst
        refine hK.out _ _ (by exact ⟨kept_cell a0 hbo, kept_cell a1 hbo, kept_cell a2 hbo, kept_cell b0 hbo, kept_cell b1 hbo, kept_cell b2 hbo, kept_cell b3 hbo, kept_cell g0 hbo, kept_cell g1 hbo, kept_cell g2 hbo⟩) (fun hHeld => ?_)
        clear hK K
        go_simp
        refine wpAnyH_ready (rs := [1]) (by kernel_rfl) (by simp) ?_
        refine AllReadyH.cons rfl (fun K hK => ?_) AllReadyH.nil
        · go_simp
          refine (toPattern_c x0 pa0 pc0 sa0 sc0 wn31 (hx0.below (upw hb hbo)) hl0).mono ?_
          rintro e wn32 ⟨paT, pcT, saT, scT, rsT, rfl, hOt, hst⟩
          replace hbo := upw hbo hst
          replace V0 := V0.later hst
          replace hBc := Nat.le_trans hBc hst.size
          clear hst
          refine hK.out _ _ (by exact ⟨kept_cell a0 hbo, kept_cell a1 hbo, kept_cell a2 hbo, kept_cell b0 hbo, kept_cell b1 hbo, kept_cell b2 hbo, kept_cell b3 hbo, kept_cell g0 hbo, kept_cell g1 hbo, kept_cell g2 hbo⟩) (fun hHeld => ?_)
          clear hK K
          go_simp
          refine wpAnyH_ready (rs := [3]) (by kernel_rfl) (by simp) ?_
          refine AllReadyH.cons rfl (fun K hK => ?_) AllReadyH.nil
          · go_simp
            refine (toSeam_any x1.A x1.EdgeA x1.B x1.EdgeB wn32).mono ?_
            rintro e wn33 ⟨rfl, hst⟩
            replace hbo := upw hbo hst
            replace hOt := hOt.later hst
            replace V0 := V0.later hst
            replace hBc := Nat.le_trans hBc hst.size
            clear hst
            refine hK.out _ _ (by exact ⟨kept_cell a0 hbo, kept_cell a1 hbo, kept_cell a2 hbo, kept_cell b0 hbo, kept_cell b1 hbo, kept_cell b2 hbo, kept_cell b3 hbo, kept_cell g0 hbo, kept_cell g1 hbo, kept_cell g2 hbo⟩) (fun hHeld => ?_)
            clear hK K
            go_simp
            refine wpAnyH_ready (rs := [4]) (by kernel_rfl) (by simp) ?_
            refine AllReadyH.cons rfl (fun K hK => ?_) AllReadyH.nil
            · go_simp
              refine (CI.out _ paT pcT saT scT rsT wn33 hOt hl0).mono ?_
              rintro e wn34 ⟨paR, pcR, saR, scR, rsR, rfl, hP, hst⟩
              replace hbo := upw hbo hst
              replace hOt := hOt.later hst
              replace V0 := V0.later hst
              replace hP := hP.base hBc
              replace hBc := Nat.le_trans hBc hst.size
              clear hst
              refine hK.out _ _ (by exact ⟨kept_cell a0 hbo, kept_cell a1 hbo, kept_cell a2 hbo, kept_cell b0 hbo, kept_cell b1 hbo, kept_cell b2 hbo, kept_cell b3 hbo, kept_cell g0 hbo, kept_cell g1 hbo, kept_cell g2 hbo⟩) (fun hHeld => ?_)
              clear hK K
              go_simp
              refine wpAnyH_take (i := 5) (v := _) rfl (by kernel_rfl) (by kernel_rfl) (by kernel_rfl) (fun _ _ _ h => PostR.put h) (Or.inl ⟨by rfl, (by intro w hSw; (try dsimp only at hSw); go_simp; try with_reducible rfl)⟩) (by assumption) ?_
              go_simp
              refine wpAnyH_take (i := 6) (v := _) rfl (by kernel_rfl) (by kernel_rfl) (by kernel_rfl) (fun _ _ _ h => PostR.put h) (Or.inl ⟨by rfl, (by intro w hSw; (try dsimp only at hSw); go_simp; try with_reducible rfl)⟩) (by assumption) ?_
              go_simp
              refine wpAnyH_take (i := 7) (v := _) rfl (by kernel_rfl) (by kernel_rfl) (by kernel_rfl) (fun _ _ _ h => PostR.put h) (Or.inl ⟨by rfl, (by intro w hSw; (try dsimp only at hSw); go_simp; try with_reducible rfl)⟩) (by assumption) ?_
              go_simp
              refine wpAnyH_ready (rs := [9]) (by kernel_rfl) (by simp) ?_
              refine AllReadyH.cons rfl (fun K hK => ?_) AllReadyH.nil
              refine cast (if_pos (by rfl)).symm ?_
              refine wp_store_own 32 (.tmp 14) (.tmp 85) rfl w13.heap.size 32 wo.heap.size 1 1 [zeroT] 0 _ (⟨paR, A.1.pieces.length, pcR, saR, A.1.seams.length, scR, A.1.openings⟩ : RawT) rfl rfl rfl (by kernel_rfl) rfl V0 (by simp) ?_
              intro wz V1 hgv
              replace V1 : Own w13.heap.size wz 32 (.slice (some ⟨wo.heap.size, 0, none⟩) 1 1) [(⟨paR, A.1.pieces.length, pcR, saR, A.1.seams.length, scR, A.1.openings⟩ : RawT)] := V1
              replace hP := hP.keptV V0 hgv
              replace hbo := below_mark hbo V0 (Nat.le_refl _) hgv
              refine hK.out _ _ (by exact ⟨kept_cell a0 hbo, kept_cell a1 hbo, kept_cell a2 hbo, kept_cell b0 hbo, kept_cell b1 hbo, kept_cell b2 hbo, kept_cell b3 hbo, kept_cell g0 hbo, kept_cell g1 hbo, kept_cell g2 hbo⟩) (fun hHeld => ?_)
              clear hK K
              go_simp
              refine wpAnyH_take (i := 10) (v := _) rfl (by kernel_rfl) (by kernel_rfl) (by kernel_rfl) (fun _ _ _ h => PostR.put h) (Or.inl ⟨by rfl, (by intro w hSw; (try dsimp only at hSw); go_simp; try with_reducible rfl)⟩) (by assumption) ?_
              go_simp
              refine wpAnyH_done (by kernel_rfl) ?_ _
              exact ⟨rfl, by rw [hRe.out]; exact ⟨wo.heap.size, paR, pcR, saR, scR, rsR, _, _, _, _, _, _, _, _, _, _, _, _, _, _, _, _, _, _, _, _, _, _, _, _, _, _, _, _, _, _, _, _, _, _, _, _, _, _, _, _, _, _, _, _, _, _, _, _, _, _, _, _, _, _, _, _, _, _, _, _, _, _, _, _, _, _, _, _, _, _, _, _, _, _, rfl, patW_ty hP V1, hbo⟩⟩
    rintro e a' w14 ⟨rfl, hra⟩
    rw [hRe.out] at hra
    clear hRe
    obtain ⟨b14, pa14, pc14, sa14, sc14, rs14, u5, u11, u13, u16, u17, u18, u19, u20, u21, u22, u23, u24, u25, u26, u27, u28, u29, u30, u31, u32, u33, u34, u35, u36, u37, u38, u39, u40, u41, u42, u43, u44, u45, u46, u47, u48, u49, u50, u51, u52, u53, u54, u55, u56, u57, u58, u59, u60, u61, u62, u63, u64, u65, u66, u67, u68, u69, u70, u71, u72, u73, u74, u75, u76, u77, u78, u79, u80, u81, u82, u83, u84, u85, u86, rfl, P14, hb14⟩ := hra
    clear R
    replace a0 := kept_cell a0 hb14; replace a1 := kept_cell a1 hb14; replace a2 := kept_cell a2 hb14; replace b0 := kept_cell b0 hb14; replace b1 := kept_cell b1 hb14; replace b2 := kept_cell b2 hb14; replace b3 := kept_cell b3 hb14; replace f0 := kept_cell f0 hb14; replace f1 := kept_cell f1 hb14; replace f2 := kept_cell f2 hb14; replace g0 := kept_cell g0 hb14; replace g1 := kept_cell g1 hb14; replace g2 := kept_cell g2 hb14
    replace hb := upw hb hb14
    replace P6 := Lib.hid (P6.out.later hb14)
    replace hMl := Lib.hid (hMl.out.below hb14)
    clear hb14
    obtain ⟨h0, h1, h2⟩ := P14.cells
    replace P14 := Lib.hid P14
    go_wp2_with fail
    refine (eqPattern_same A.1 _ _ _ _ _ _ _ _ w14 P14.out.pat.lie P6.out.pat.lie hlen).mono ?_
    rintro e w15 ⟨rfl, hb15⟩
    replace g0 := kept_cell g0 hb15; replace g1 := kept_cell g1 hb15; replace g2 := kept_cell g2 hb15; replace hb := upw hb hb15; replace hMl := Lib.hid (hMl.out.below hb15); clear hb15 h0 h1 h2 f0 f1 f2 a0 a1 a2 b0 b1 b2 b3 P14 P6
    go_wp2_with fail
    refine (heldPattern_c A.1 pa9 A.1.pieces.length pc9 sa9 A.1.seams.length sc9 A.1.openings w15 hMl.out rfl rfl hlen 1 rfl).mono ?_
    rintro e w16 ⟨rfl, hb16⟩
    rw [← hkm3.out]
    go_wp2_with fail
    go_ret
    exact ⟨rfl, upw hb hb16⟩
  · have hsz := szPattern_no x0 pa0 pc0 sa0 sc0 1048576 w1 (hx0.below hb) hk0 (by omega) (by omega) (by omega)
    go_enter Try.func3, Try.ntmps3
    go_wp2_with (first | rw [← hw1.out] | (go_at_call 6; refine hsz.mono ?_; rintro e w2 ⟨rfl, hb2⟩))
    go_ret
    exact ⟨rfl, upw hb hb2⟩

theorem EAddSeam.own : ownKnob Try.prog.godebug = none := by kernel_rfl
theorem EAddSeam.laidOut : laidOutB Try.prog = true := by kernel_rfl

set_option maxRecDepth 100000 in
theorem EAddSeam.lifted (os : Os) (started : os.Started) (H : Type) (enc : TypeId × Value → H) :
    ReturnsInHanded {} Try.checked os 3 .any (Rows.fnExactAddSeamSpec.pre6 enc Try.prog Try.f3 Rows.fnExactAddSeamRow.domain false) (Rows.fnExactAddSeamSpec.post enc Try.prog Try.f3 false true false false) := by
  refine returnsInHanded_of_change (C := Try.checked) EAddSeam.own started (by kernel_rfl) Try.func3
    (ChangeSpec.witness6 (enc := enc) (C := Try.checked) false ⟨#[], #[.agg #[.slice none 0 0, .slice none 0 0, .int .i64 0], .agg #[.int .i64 0, .int .i64 0, .int .i64 0, .int .i64 0]], []⟩ 8 (by kernel_rfl) (by kernel_rfl) (by kernel_rfl) (by kernel_rfl)) ?_
  intro W base args ds gs before hval0 hW _ _
  have hval : ∀ (j : Nat) t v, Try.f3.params[j]? = some t → args[j]? = some v → Value.okWide Try.prog W .any base t v := hval0
  have hW' := hW
  obtain ⟨p, q, hA0, hV, rfl, _, _⟩ := hW
  have hA : DataW.TrodAll enc Try.prog W 0 (fun _ => true) true Try.f3.params.toList args.toList ds p := hA0
  rw [Try.params3] at hA hval
  obtain ⟨v0, vs0, d0, ds0, p0, q0, hargs, rfl, rfl, h0, r0⟩ := trodAll_cons hA
  obtain ⟨v1, vs1, d1, ds1, p1, q1, rfl, rfl, rfl, h1, r1⟩ := trodAll_cons r0
  obtain ⟨rfl, rfl, rfl⟩ := trodAll_nil r1
  obtain rfl : args = #[v0, v1] := by cases args; simp_all
  obtain ⟨rfl, rfl⟩ := trodVars_none hV
  have hlt : ∀ x ∈ p0 ++ (p1 ++ []), x.block < W.heap.size := fun x hx => by simpa using hW'.lt x (by simpa using hx)
  clear hA0 hval0
  have k0 := h0
  have k1 := h1
  obtain ⟨x0, pa0, pc0, sa0, sc0, rfl, hx0, hk0⟩ := open_lpattern (hval 0 25 v0 rfl rfl) h0
  obtain ⟨x1, rfl, hn1⟩ := open_lseam (hval 1 27 v1 rfl rfl) h1
  refine (lawAddSeam x0 pa0 pc0 sa0 sc0 x1 W hx0 hk0 hn1).mono fun e W' ⟨he, hb⟩ => ?_
  subst he
  refine ⟨_, rfl, _, _, _, [], p0 ++ (p1 ++ []), [], hW', ?_, ?_, rfl, hb.frame _, fun h => by cases h⟩
  · exact trodAll_mk1 (shut_bool Try.underlying4 _)
  · exact trodAll_cons_mk (Below.trod EAddSeam.laidOut (by kernel_rfl) (of_decide_eq_true (by kernel_rfl)) k0 hb (fun x hx => hlt x (by simp [hx]))) (trodAll_cons_mk (Below.trod EAddSeam.laidOut (by kernel_rfl) (of_decide_eq_true (by kernel_rfl)) k1 hb (fun x hx => hlt x (by simp [hx]))) (trodAll_mk0))

theorem EAddSeam.holds : Rows.FnExactAddSeamSaid :=
  OpenClaim.holds_of_wide 3 Try.f3 rfl rfl rfl rfl rfl rfl rfl ⟨rfl, rfl, rfl, rfl, rfl⟩ rfl rfl rfl rfl rfl (by kernel_rfl) Try.func3 (by kernel_rfl)
    (of_decide_eq_true (by kernel_rfl)) (by unfold Func.isWrapper; first | (rw [if_pos (by decide +kernel)]; kernel_rfl) | (rw [if_neg (by decide +kernel)]; exact ⟨rfl, rfl⟩))
    (fun os started H enc _ => EAddSeam.lifted os started H enc)

end Go.Proofs.Ytlmhiocmldhkhaa