/- Chapter 4, the library's stable sort of few numbers by a closure: numbers that rise come out ranked. -/
import Derived.Test.YtlaclknhenccdaaRankMath
import Derived.Test.YtlaclknhenccdaaCmp1
import Derived.Test.YtlaclknhenccdaaSep
import Derived.Test.YtlaclknhenccdaaSrc
namespace Go.Proofs.Ytlaclknhenccdaa
open Go.RowKit

set_option maxRecDepth 100000 in
set_option maxHeartbeats 4000000 in
theorem insSort_c (B g cap : Nat) (xs : List Int) (K : Nat) (caps : Array Value) (C : Int → Int) (w : World) (hK : Enters Try.prog K) (hO : Own B w 2 (.slice (some ⟨g, 0, none⟩) xs.length cap) xs) (hup : xs.Pairwise (· < ·)) (hl : xs.length ≤ 20)
    (hc : ∀ x ∈ xs, ∀ y ∈ xs, ∀ w', w.grownBy w' (some g) → Calls Try.prog K (#[.int .i64 x, .int .i64 y] ++ caps) w' fun e w'' => e = .returned (.int .i64 (cmpZ (C x) (C y))) ∧ Below w'.heap.size w' w'') :
    Calls Try.prog 192 #[.slice (some ⟨g, 0, none⟩) xs.length cap, .int .i64 0, .int .i64 xs.length, .func (.func K) #[] caps] w fun e w' => e = .returned (.tuple #[]) ∧ ∃ ys, ys.length = xs.length ∧ Ranked C xs ys ∧ Own B w' 2 (.slice (some ⟨g, 0, none⟩) xs.length cap) ys ∧ w.grownBy w' (some g) := by
  replace hc := Lib.hid hc
  have hR := Lib.hid (rank_start (C := C) hup)
  replace hup := Lib.hid hup
  replace hO := Lib.hid hO
  unfold Enters at hK
  obtain ⟨n, hn⟩ : ∃ n, n = xs.length := ⟨_, rfl⟩
  rw [← hn] at hO hl ⊢
  replace hn := Lib.hid hn
  go_enter Try.func192, Try.ntmps192
  go_wp2_with fail
  go_loopw [8, 9] (fun i _ wr => ∃ (k : Nat) (ys : List Int), 1 ≤ k ∧ (k ≤ n ∨ k = 1) ∧ i = .int .i64 k ∧ Hid (RankTo C xs ys k) ∧ Hid (Own B wr 2 (.slice (some ⟨g, 0, none⟩) n cap) ys) ∧ Hid (w.grownBy wr (some g))) (fun i _ _ => n + 1 - (intOf i).toNat)
  case atStart => exact ⟨1, xs, Nat.le_refl _, Or.inr rfl, rfl, hR, hO, Lib.hid (World.grownBy.refl _ _)⟩
  case round =>
    clear hO hR
    obtain ⟨k, ys, hk1, hk2, rfl, hR, hO, hg⟩ := hrel
    obtain ⟨wa, hwa⟩ : ∃ wo : World, wo = wr := ⟨_, rfl⟩
    subst hwa
    by_cases hlt : k < n
    · have hG := Lib.hid (rank_in hR.out hup.out)
      go_wp2_with fail
      go_loopw [9] (fun i wr => ∃ (j : Nat) (zs : List Int), j ≤ k ∧ i = .int .i64 j ∧ Hid (Going C xs zs k j) ∧ Hid (Own B wr 2 (.slice (some ⟨g, 0, none⟩) n cap) zs) ∧ Hid (w.grownBy wr (some g))) (fun i _ => (intOf i).toNat)
      case atStart => exact ⟨k, ys, Nat.le_refl _, rfl, hG, hO, hg⟩
      case round =>
        clear hG hO hg hR
        obtain ⟨j, zs, hj, rfl, hG, hO, hg⟩ := hrel
        obtain ⟨wb, hwb⟩ : ∃ wo : World, wo = wr := ⟨_, rfl⟩
        subst hwb
        have hzl : zs.length = n := by rw [hG.out.len]; exact hn.out.symm
        by_cases hj0 : 0 < j
        · obtain ⟨p, hp⟩ : ∃ p, j = p + 1 := ⟨j - 1, by omega⟩
          have hjl : j < zs.length := by omega
          have hpl : p < zs.length := by omega
          have c1 := hO.out.at'.int hjl
          have c2 := hO.out.at'.int hpl
          rw [Nat.zero_add] at c1 c2
          have hpI : (j : Int) - 1 = (p : Int) := by omega
          have hpW : IntKind.i64.wrap (p : Int) = p := IntWalk.i64_in _ (by omega)
          have hjN : (j : Int) < n := by omega
          have hpN : (p : Int) < n := by omega
          have hjD : decide (0 < j) = true := by simpa using hj0
          have hCall := Lib.hid (fun w' h => hc.out zs[j] (hG.out.mem _ (List.getElem_mem _)) zs[p] (hG.out.mem _ (List.getElem_mem _)) w' (grownBy_trans hg.out h))
          obtain ⟨X, hX⟩ : ∃ X, X = zs[j] := ⟨_, rfl⟩
          obtain ⟨Y, hY⟩ : ∃ Y, Y = zs[p] := ⟨_, rfl⟩
          rw [← hX] at c1 hCall
          rw [← hY] at c2 hCall
          replace hX := Lib.hid hX
          replace hY := Lib.hid hY
          obtain ⟨z, hz⟩ : ∃ z, z = cmpZ (C X) (C Y) := ⟨_, rfl⟩
          rw [← hz] at hCall
          have hzn : Hid (decide (z < 0) = decide (C X < C Y)) := Lib.hid (by rw [hz]; exact cmpZ_neg _ _)
          replace hz := Lib.hid hz
          replace hp := Lib.hid hp
          have hS : wb.cell? ⟨g, j, none⟩ = some (.int .i64 X) ∧ wb.cell? ⟨g, p, none⟩ = some (.int .i64 Y) := ⟨c1, c2⟩
          replace hS := Lib.hid hS
          clear c1 c2
          go_wp2_with fail
          refine wp_region_held_drew (S := (fun w' => w'.cell? ⟨g, j, none⟩ = some (.int .i64 X) ∧ w'.cell? ⟨g, p, none⟩ = some (.int .i64 Y))) (by kernel_rfl) hS.out (fun hHeld => ?_)
          obtain ⟨wc, hwc⟩ : ∃ wo, wo = wb.drew := ⟨_, rfl⟩
          rw [← hwc] at hHeld ⊢
          have hbc : Below wb.heap.size wb wc := by rw [hwc]; exact (Below.refl _ _).drew
          replace hO := Lib.hid (hO.out.later hbc)
          replace hg := Lib.hid (grownBy_trans hg.out (drew_below g hbc))
          clear hwc hS
          refine wpAnyH_take (i := 0) (v := _) rfl (by kernel_rfl) (by kernel_rfl) (by kernel_rfl) (fun _ _ _ h => h) (Or.inl ⟨by rfl, (by intro w hSw; (try dsimp only at hSw); go_simp; try with_reducible rfl)⟩) (by assumption) ?_
          go_simp
          refine wpAnyH_take (i := 1) (v := _) rfl (by kernel_rfl) (by kernel_rfl) (by kernel_rfl) (fun _ _ _ h => h) (Or.inl ⟨by rfl, (by intro w hSw; (try dsimp only at hSw); go_simp; try with_reducible rfl)⟩) (by assumption) ?_
          go_simp
          refine wpAnyH_take (i := 2) (v := _) rfl (by kernel_rfl) (by kernel_rfl) (by kernel_rfl) (fun _ _ _ h => h) (Or.inl ⟨by rfl, (by intro w hSw; (try dsimp only at hSw); go_simp; try with_reducible rfl)⟩) (by assumption) ?_
          go_simp
          refine wpAnyH_take (i := 3) (v := _) rfl (by kernel_rfl) (by kernel_rfl) (by kernel_rfl) (fun _ _ _ h => h) (Or.inl ⟨by rfl, (by intro w hSw; (try dsimp only at hSw); go_simp; try with_reducible rfl)⟩) (by assumption) ?_
          go_simp
          refine wpAnyH_take (i := 4) (v := _) rfl (by kernel_rfl) (by kernel_rfl) (by kernel_rfl) (fun _ _ _ h => h) (Or.inl ⟨by rfl, (by intro w hSw; (try dsimp only at hSw); go_simp; try with_reducible rfl)⟩) (by assumption) ?_
          go_simp
          refine wpAnyH_take (i := 5) (v := _) rfl (by kernel_rfl) (by kernel_rfl) (by kernel_rfl) (fun _ _ _ h => h) (Or.inl ⟨by rfl, (by intro w hSw; (try dsimp only at hSw); go_simp; try with_reducible rfl)⟩) (by assumption) ?_
          go_simp
          refine wpAnyH_take (i := 6) (v := _) rfl (by kernel_rfl) (by kernel_rfl) (by kernel_rfl) (fun _ _ _ h => h) (Or.inl ⟨by rfl, (by intro w hSw; (try dsimp only at hSw); go_simp; try with_reducible rfl)⟩) (by assumption) ?_
          go_simp
          refine wpAnyH_take (i := 7) (v := _) rfl (by kernel_rfl) (by kernel_rfl) (by kernel_rfl) (fun _ _ _ h => h) (Or.inl ⟨by rfl, (by intro w hSw; (try dsimp only at hSw); go_simp; try with_reducible rfl)⟩) (by assumption) ?_
          go_simp
          refine wpAnyH_take (i := 8) (v := _) rfl (by kernel_rfl) (by kernel_rfl) (by kernel_rfl) (fun _ _ _ h => h) (Or.inl ⟨by rfl, (by intro w hSw; (try dsimp only at hSw); go_simp; try with_reducible rfl)⟩) (by assumption) ?_
          go_simp
          refine wpAnyH_take (i := 9) (v := _) rfl (by kernel_rfl) (by kernel_rfl) (by kernel_rfl) (fun _ _ _ h => h) (Or.inl ⟨by rfl, (by intro w hSw; (try dsimp only at hSw); go_simp; try with_reducible rfl)⟩) (by assumption) ?_
          go_simp
          refine wpAnyH_take (i := 10) (v := _) rfl (by kernel_rfl) (by kernel_rfl) (by kernel_rfl) (fun _ _ _ h => h) (Or.inl ⟨by rfl, (by intro w hSw; (try dsimp only at hSw); go_simp; try with_reducible rfl)⟩) (by assumption) ?_
          go_simp
          refine wpAnyH_take (i := 11) (v := _) rfl (by kernel_rfl) (by kernel_rfl) (by kernel_rfl) (fun _ _ _ h => h) (Or.inl ⟨by rfl, (by intro w hSw; (try dsimp only at hSw); go_simp; try with_reducible rfl)⟩) (by assumption) ?_
          go_simp
          refine wpAnyH_take (i := 12) (v := _) rfl (by kernel_rfl) (by kernel_rfl) (by kernel_rfl) (fun _ _ _ h => h) (Or.inl ⟨by rfl, (by intro w hSw; (try dsimp only at hSw); go_simp; try with_reducible rfl)⟩) (by assumption) ?_
          go_simp
          refine wpAnyH_take (i := 13) (v := _) rfl (by kernel_rfl) (by kernel_rfl) (by kernel_rfl) (fun _ _ _ h => h) (Or.inl ⟨by rfl, (by intro w hSw; (try dsimp only at hSw); go_simp; try with_reducible rfl)⟩) (by assumption) ?_
          go_simp
          refine wpAnyH_ready (rs := [14]) (by kernel_rfl) (by simp) ?_
          refine AllReadyH.cons rfl (fun K hK => ?_) AllReadyH.nil
          go_simp
          (refine (hCall.out _ (drew_below g hbc)).mono ?_; rintro e wd ⟨rfl, hbd⟩)
          refine hK.out _ _ ⟨kept_cell hHeld.1 hbd, kept_cell hHeld.2 hbd⟩ (fun hHeld => ?_)
          clear hK K
          go_simp
          refine wpAnyH_take (i := 15) (v := _) rfl (by kernel_rfl) (by kernel_rfl) (by kernel_rfl) (fun _ _ _ h => h) (Or.inl ⟨by rfl, (by intro w hSw; (try dsimp only at hSw); go_simp; try with_reducible rfl)⟩) (by assumption) ?_
          go_simp
          refine wpAnyH_take (i := 16) (v := _) rfl (by kernel_rfl) (by kernel_rfl) (by kernel_rfl) (fun _ _ _ h => h) (Or.inl ⟨by rfl, (by intro w hSw; (try dsimp only at hSw); go_simp; try with_reducible rfl)⟩) (by assumption) ?_
          go_simp
          refine wpAnyH_done (by kernel_rfl) ?_ _
          replace hO := Lib.hid (hO.out.later hbd)
          replace hg := Lib.hid (grownBy_trans hg.out (drew_below g hbd))
          have c1 := hHeld.1
          have c2 := hHeld.2
          clear hHeld hbd hbc hCall
          by_cases hz0 : z < 0
          · have hzD : decide (z < 0) = true := by simpa using hz0
            have hXY : C X < C Y := by have h := hzn.out; rw [hzD] at h; simpa using h.symm
            have hG2 := Lib.hid (rank_swap hG.out (by omega) (by omega) (by rw [← hX.out]; have hq := hY.out; have hp' := hp.out; subst hp'; simpa [hq] using hXY))
            clear hzn hXY
            go_wp2_with fail
            replace c1 := rg c1
            replace c2 := rg c2
            have hb := Below.refl wd.heap.size wd
            refine wp_region_any (by kernel_rfl) ?_
            refine wpAny_take (i := 2) (v := _) rfl (by kernel_rfl) (by kernel_rfl) (by kernel_rfl) (fun _ _ _ h => h) (Or.inl ⟨by rfl, (by intro w; go_simp; try with_reducible rfl)⟩) ?_
            refine wpAny_take (i := 3) (v := _) rfl (by kernel_rfl) (by kernel_rfl) (by kernel_rfl) (fun _ _ _ h => h) (Or.inl ⟨by rfl, (by intro w; go_simp; try with_reducible rfl)⟩) ?_
            refine wpAny_take (i := 4) (v := _) rfl (by kernel_rfl) (by kernel_rfl) (by kernel_rfl) (fun _ _ _ h => h) (Or.inl ⟨by rfl, (by intro w; go_simp; try with_reducible rfl)⟩) ?_
            go_simp
            refine wp_any_tailq_below [0, 1, 5, 6, 7, 8, 9, 10, 11, 12, 13, 14] [15, 16, 17] (by decide +kernel) (by kernel_rfl) (picked_cons rfl (picked_cons rfl (picked_cons rfl (picked_cons rfl (picked_cons rfl (picked_cons rfl (picked_cons rfl (picked_cons rfl (picked_cons rfl (picked_cons rfl (picked_cons rfl (picked_cons rfl picked_nil)))))))))))) (picked_cons rfl (picked_cons rfl (picked_cons rfl picked_nil))) ?_
            repeat (go_big_quiet_step ((fail)))
            refine wpQuiet_nil ?_
            intro w2 hw'
            replace hb := upw hb (grown_of hw')
            have hw2 := grown_of hw'
            clear hw'
            replace hO := Lib.hid (hO.out.later hw2)
            replace hg := Lib.hid (grownBy_trans hg.out (drew_below g hw2))
            replace hw2 := Lib.hid hw2
            clear hb
            go_wp2_with (first
              | ((with_reducible refine at_st 2 (.tmp 51) (.tmp 46) ?_); refine wpList_store_own rfl 2 (.tmp 51) (.tmp 46) rfl B 2 g cap n zs j j Y rfl (by simp [Flat.k]) rfl (by kernel_rfl) hzl.symm hO.out hjl ?_; intro w3 hO3 hg3)
              | ((with_reducible refine at_st 2 (.tmp 52) (.tmp 50) ?_); refine wpList_store_own rfl 2 (.tmp 52) (.tmp 50) rfl B 2 g cap n (zs.set j Y) p p X rfl (by simp [Flat.k]) rfl (by kernel_rfl) (by simp; exact hzl.symm) hO3 (by simp; exact hpl) ?_; intro w4 hO4 hg4))
            go_roundw
            case rel => exact ⟨p, (zs.set j Y).set p X, by omega, by first | rfl | go_num, Lib.hid (by
              have hp' := hp.out
              have hG3 := hG2.out
              simp only [show j - 1 = p by omega, ← hX.out, ← hY.out] at hG3
              exact hG3), Lib.hid hO4, Lib.hid (grownBy_trans (grownBy_trans hg.out hg3) hg4)⟩
            case measure => first | (simp [intOf]; done) | (simp [intOf]; omega)
          · have hzD : decide (z < 0) = false := by simpa using hz0
            have hXY : C Y ≤ C X := by have h := hzn.out; rw [hzD] at h; simpa using h.symm
            have hG2 := Lib.hid (rank_out hG.out (Or.inr fun a b ha hb => by
              have hp' := hp.out
              rw [show j - 1 = p by omega, List.getElem?_eq_getElem hpl, ← hY.out] at ha
              rw [List.getElem?_eq_getElem hjl, ← hX.out] at hb
              cases ha; cases hb; exact hXY))
            clear hzn hXY
            go_wp2_with fail
            go_roundw
            case rel => exact ⟨k + 1, zs, by omega, by omega, by first | rfl | go_num, hG2, hO, hg⟩
            case measure => first | (simp [intOf]; done) | (simp [intOf]; omega)
        · obtain rfl : j = 0 := by omega
          have hG2 := Lib.hid (rank_out hG.out (Or.inl rfl))
          go_wp2_with fail
          refine wp_region_quiet_below (by kernel_rfl) (by kernel_rfl) ?_
          repeat (go_big_quiet_step (fail))
          refine wpQuiet_nil ?_
          intro wc hw'
          have hbc := grown_of hw'
          clear hw'
          replace hO := Lib.hid (hO.out.later hbc)
          replace hg := Lib.hid (grownBy_trans hg.out (drew_below g hbc))
          go_wp2_with fail
          go_roundw
          case rel => exact ⟨k + 1, zs, by omega, by omega, by first | rfl | go_num, hG2, hO, hg⟩
          case measure => first | (simp [intOf]; done) | (simp [intOf]; omega)
    · have hD := Lib.hid (rank_done hR.out (by have := hn.out; omega))
      have hYl := Lib.hid (hR.out.len.trans hn.out.symm)
      go_wp2_with fail
      go_end0
      exact ⟨rfl, ys, hYl.out, hD.out, hO.out, hg.out⟩
end Go.Proofs.Ytlaclknhenccdaa
