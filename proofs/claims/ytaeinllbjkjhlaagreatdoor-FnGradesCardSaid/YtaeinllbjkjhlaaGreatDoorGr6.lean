/- Chapter 5, gradings: GradeBetween, the program's and the reference's. (Printed by wip/genGr6.py.) -/
import Derived.Test.YtaeinllbjkjhlaaGreatDoorGr5
namespace Go.Proofs.YtaeinllbjkjhlaaGreatDoor
open Go.RowKit

theorem gbG_at (a b : Last) (s : Int) : ∀ (k : Nat) (_ : k < (gNums (gbG a b s)).length) (_ : k < (lNums b).length) (_ : k < (lNums a).length), (gNums (gbG a b s))[k] = rnd (100 * ((lNums b)[k] - (lNums a)[k])) s
  | 0, _, _, _ => rfl
  | 1, _, _, _ => rfl
  | 2, _, _, _ => rfl
  | 3, _, _, _ => rfl
  | 4, _, _, _ => rfl
set_option maxRecDepth 100000 in
set_option maxHeartbeats 4000000 in
theorem implGradeBetween_c (a b : Last) (s : Int) (w : World) (hna : a.Name.size ≤ 9223372036854775807) (hnb : b.Name.size ≤ 9223372036854775807) :
    Calls Tryz.prog 23 #[.agg #[.string a.Name, .int .i64 a.Length, .int .i64 a.Ball, .int .i64 a.Instep, .int .i64 a.Heel, .int .i64 a.Pitch], .agg #[.string b.Name, .int .i64 b.Length, .int .i64 b.Ball, .int .i64 b.Instep, .int .i64 b.Heel, .int .i64 b.Pitch], .int .i64 s] w fun e w' => e = .returned (.tuple #[.agg #[.int .i64 (gbRes a b s).Length, .int .i64 (gbRes a b s).Ball, .int .i64 (gbRes a b s).Instep, .int .i64 (gbRes a b s).Heel, .int .i64 (gbRes a b s).Pitch], .int .i64 (gbCode a b s)]) ∧ Below w.heap.size w w' := by
  obtain ⟨w3, hw3, D⟩ := box_llg w a b
  replace hw3 := Lib.hid hw3
  replace D := Lib.hid D
  have k1 := Lib.hid (fun w' => validLast_c a w' hna)
  have k2 := Lib.hid (fun w' => validLast_c b w' hnb)
  clear hna hnb
  cases ha : okLast a
  · have hG : gbOk a b = false := by unfold gbOk; rw [ha]; rfl
    rw [(gb_bad hG).1, (gb_bad hG).2]
    rw [ha] at k1
    clear ha hG k2
    obtain ⟨x0, x1, x2, x3, x4, x5⟩ := lastC_cells (D.out.get 2 rfl : Own _ _ _ _ (lastC a))
    obtain ⟨y0, y1, y2, y3, y4, y5⟩ := lastC_cells (D.out.get 1 rfl : Own _ _ _ _ (lastC b))
    go_enter Tryz.func23, Tryz.ntmps23
    go_wp2_with (rw [← hw3.out])
    refine (k1.out _).mono ?_
    rintro e w2 ⟨rfl, hb⟩
    replace D := Lib.hid (D.out.later hb)
    clear hb
    clear hw3 k1
    clear x0 x1 x2 x3 x4 x5 y0 y1 y2 y3 y4 y5
    go_wp2_with ((with_reducible refine at_st 42 (.tmp 6) (.tmp 21) ?_); refine wpList_store_own rfl 42 (.tmp 6) (.tmp 21) rfl w.heap.size 42 _ 1 1 [gradeZ] 0 _ (gradeZ : Grade) rfl rfl rfl (by kernel_rfl) rfl (D.out.get 0 rfl) (by simp) ?_; intro wz hRz hgz)
    have Dz := D.out.set 0 rfl hRz hgz (Or.inl rfl)
    obtain ⟨q0, q1, q2, q3, q4⟩ := grade1_cells hRz
    refine bodyPost_ret (v := .tuple #[.agg #[.int .i64 (gradeZ : Grade).Length, .int .i64 (gradeZ : Grade).Ball, .int .i64 (gradeZ : Grade).Instep, .int .i64 (gradeZ : Grade).Heel, .int .i64 (gradeZ : Grade).Pitch], .int .i64 1]) (by simp [results, Tryz.results23, go_sem, q0, q1, q2, q3, q4]) rfl ?_
    exact ⟨rfl, Dz.up⟩
  cases hb0 : okLast b
  · have hG : gbOk a b = false := by unfold gbOk; rw [ha, hb0]; rfl
    rw [(gb_bad hG).1, (gb_bad hG).2]
    rw [ha] at k1
    rw [hb0] at k2
    clear ha hb0 hG
    obtain ⟨x0, x1, x2, x3, x4, x5⟩ := lastC_cells (D.out.get 2 rfl : Own _ _ _ _ (lastC a))
    obtain ⟨y0, y1, y2, y3, y4, y5⟩ := lastC_cells (D.out.get 1 rfl : Own _ _ _ _ (lastC b))
    go_enter Tryz.func23, Tryz.ntmps23
    go_wp2_with (rw [← hw3.out])
    refine (k1.out _).mono ?_
    rintro e w2 ⟨rfl, hb⟩
    replace D := Lib.hid (D.out.later hb)
    clear hb
    clear hw3 k1
    clear x0 x1 x2 x3 x4 x5 y0 y1 y2 y3 y4 y5
    obtain ⟨x0, x1, x2, x3, x4, x5⟩ := lastC_cells (D.out.get 2 rfl : Own _ _ _ _ (lastC a))
    obtain ⟨y0, y1, y2, y3, y4, y5⟩ := lastC_cells (D.out.get 1 rfl : Own _ _ _ _ (lastC b))
    go_wp2_with fail
    refine (k2.out _).mono ?_
    rintro e w2 ⟨rfl, hb⟩
    replace D := Lib.hid (D.out.later hb)
    clear hb
    clear k2
    clear x0 x1 x2 x3 x4 x5 y0 y1 y2 y3 y4 y5
    go_wp2_with ((with_reducible refine at_st 42 (.tmp 6) (.tmp 21) ?_); refine wpList_store_own rfl 42 (.tmp 6) (.tmp 21) rfl w.heap.size 42 _ 1 1 [gradeZ] 0 _ (gradeZ : Grade) rfl rfl rfl (by kernel_rfl) rfl (D.out.get 0 rfl) (by simp) ?_; intro wz hRz hgz)
    have Dz := D.out.set 0 rfl hRz hgz (Or.inl rfl)
    obtain ⟨q0, q1, q2, q3, q4⟩ := grade1_cells hRz
    refine bodyPost_ret (v := .tuple #[.agg #[.int .i64 (gradeZ : Grade).Length, .int .i64 (gradeZ : Grade).Ball, .int .i64 (gradeZ : Grade).Instep, .int .i64 (gradeZ : Grade).Heel, .int .i64 (gradeZ : Grade).Pitch], .int .i64 1]) (by simp [results, Tryz.results23, go_sem, q0, q1, q2, q3, q4]) rfl ?_
    exact ⟨rfl, Dz.up⟩
  have hG : gbOk a b = true := by unfold gbOk; rw [ha, hb0]; rfl
  cases hs : inr s 1 30
  · rw [(gb_range hG hs).1, (gb_range hG hs).2]
    rw [ha] at k1
    rw [hb0] at k2
    clear ha hb0 hG
    obtain ⟨x0, x1, x2, x3, x4, x5⟩ := lastC_cells (D.out.get 2 rfl : Own _ _ _ _ (lastC a))
    obtain ⟨y0, y1, y2, y3, y4, y5⟩ := lastC_cells (D.out.get 1 rfl : Own _ _ _ _ (lastC b))
    go_enter Tryz.func23, Tryz.ntmps23
    go_wp2_with (rw [← hw3.out])
    refine (k1.out _).mono ?_
    rintro e w2 ⟨rfl, hb⟩
    replace D := Lib.hid (D.out.later hb)
    clear hb
    clear hw3 k1
    clear x0 x1 x2 x3 x4 x5 y0 y1 y2 y3 y4 y5
    obtain ⟨x0, x1, x2, x3, x4, x5⟩ := lastC_cells (D.out.get 2 rfl : Own _ _ _ _ (lastC a))
    obtain ⟨y0, y1, y2, y3, y4, y5⟩ := lastC_cells (D.out.get 1 rfl : Own _ _ _ _ (lastC b))
    go_wp2_with fail
    refine (k2.out _).mono ?_
    rintro e w2 ⟨rfl, hb⟩
    replace D := Lib.hid (D.out.later hb)
    clear hb
    clear k2
    clear x0 x1 x2 x3 x4 x5 y0 y1 y2 y3 y4 y5
    go_wp2_with (first | ((with_reducible refine (as_bool hs (within_c _ _ _ _)).mono ?_); rintro e w' ⟨rfl, rfl⟩) | ((with_reducible refine at_st 42 (.tmp 6) (.tmp 26) ?_); refine Hid.out ?_))
    refine Lib.hid ?_
    go_wp2_with ((with_reducible refine at_st 42 (.tmp 6) (.tmp 26) ?_); refine wpList_store_own rfl 42 (.tmp 6) (.tmp 26) rfl w.heap.size 42 _ 1 1 [gradeZ] 0 _ (gradeZ : Grade) rfl rfl rfl (by kernel_rfl) rfl (D.out.get 0 rfl) (by simp) ?_; intro wz hRz hgz)
    have Dz := D.out.set 0 rfl hRz hgz (Or.inl rfl)
    obtain ⟨q0, q1, q2, q3, q4⟩ := grade1_cells hRz
    refine bodyPost_ret (v := .tuple #[.agg #[.int .i64 (gradeZ : Grade).Length, .int .i64 (gradeZ : Grade).Ball, .int .i64 (gradeZ : Grade).Instep, .int .i64 (gradeZ : Grade).Heel, .int .i64 (gradeZ : Grade).Pitch], .int .i64 2]) (by simp [results, Tryz.results23, go_sem, q0, q1, q2, q3, q4]) rfl ?_
    exact ⟨rfl, Dz.up⟩
  have k3 := Lib.hid (fun w' => implValidGrade_c (gbG a b s) w')
  have hsr := inr_true.1 hs
  have hai := Lib.hid (lNums_in ha)
  have hbi := Lib.hid (lNums_in hb0)
  have hat := Lib.hid (gbG_at a b s)
  rw [ha] at k1
  rw [hb0] at k2
  have fS := Lib.hid (fun h => gb_state hG hs h)
  have fO := Lib.hid (fun h => gb_ok hG hs h)
  obtain ⟨C, hC⟩ : ∃ C, C = gbCode a b s := ⟨_, rfl⟩
  obtain ⟨Y, hY⟩ : ∃ Y, Y = gbRes a b s := ⟨_, rfl⟩
  rw [← hC, ← hY]
  rw [← hC, ← hY] at fS fO
  clear hC hY ha hb0 hG
  generalize gbG a b s = y at *
  obtain ⟨x0, x1, x2, x3, x4, x5⟩ := lastC_cells (D.out.get 2 rfl : Own _ _ _ _ (lastC a))
  obtain ⟨y0, y1, y2, y3, y4, y5⟩ := lastC_cells (D.out.get 1 rfl : Own _ _ _ _ (lastC b))
  go_enter Tryz.func23, Tryz.ntmps23
  go_wp2_with (rw [← hw3.out])
  refine (k1.out _).mono ?_
  rintro e w2 ⟨rfl, hb⟩
  replace D := Lib.hid (D.out.later hb)
  clear hb
  clear hw3 k1
  clear x0 x1 x2 x3 x4 x5 y0 y1 y2 y3 y4 y5
  obtain ⟨x0, x1, x2, x3, x4, x5⟩ := lastC_cells (D.out.get 2 rfl : Own _ _ _ _ (lastC a))
  obtain ⟨y0, y1, y2, y3, y4, y5⟩ := lastC_cells (D.out.get 1 rfl : Own _ _ _ _ (lastC b))
  go_wp2_with fail
  refine (k2.out _).mono ?_
  rintro e w2 ⟨rfl, hb⟩
  replace D := Lib.hid (D.out.later hb)
  clear hb
  clear k2
  clear x0 x1 x2 x3 x4 x5 y0 y1 y2 y3 y4 y5
  obtain ⟨y0, y1, y2, y3, y4, y5⟩ := lastC_cells (D.out.get 1 rfl : Own _ _ _ _ (lastC b))
  go_wp2_with ((with_reducible refine (as_bool hs (within_c _ _ _ _)).mono ?_); rintro e w' ⟨rfl, rfl⟩)
  refine (lNums_c b _).mono ?_
  rintro e w2 ⟨bn, rfl, hO, hb⟩
  replace D := Lib.hid (D.out.add hb hO)
  clear hb hO
  clear y0 y1 y2 y3 y4 y5
  obtain ⟨x0, x1, x2, x3, x4, x5⟩ := lastC_cells (D.out.get 3 rfl : Own _ _ _ _ (lastC a))
  go_wp2_with fail
  refine (lNums_c a _).mono ?_
  rintro e w2 ⟨bg, rfl, hO, hb⟩
  replace D := Lib.hid (D.out.add hb hO)
  clear hb hO
  clear x0 x1 x2 x3 x4 x5
  have hz := Lib.hid (over_zero (gNums y) (lNums b))
  go_wp2_with fail
  go_loopw [9, 10, 32] (fun _ _ i wr => ∃ k : Nat, k ≤ 5 ∧ i = .int .i64 k ∧ Hid (Sp w wr [ite' 2 (.slice (some ⟨bg, 0, none⟩) 5 5) (lNums a), ite' 2 (.slice (some ⟨bn, 0, none⟩) 5 5) (over (gNums y) (lNums b) k), ite' 42 (.slice (some ⟨w.heap.size + 1 + 1, 0, none⟩) 1 1) [gradeZ], ite' 30 (.slice (some ⟨w.heap.size + 1, 0, none⟩) 6 6) (lastC b), ite' 30 (.slice (some ⟨w.heap.size, 0, none⟩) 6 6) (lastC a)])) (fun _ _ i _ => 5 - (intOf i).toNat)
  case atStart => exact ⟨0, Nat.zero_le _, rfl, by rw [hz.out]; exact D⟩
  case round =>
    clear D hz
    obtain ⟨k, hk, rfl, D⟩ := hrel
    by_cases hlt : k < 5
    · have hkx : k < (lNums b).length := hlt
      have hkg : k < (lNums a).length := hlt
      have hky : k < (gNums y).length := hlt
      have hov : (over (gNums y) (lNums b) k).length = 5 := over_length _ _ _ rfl
      have hkv : k < (over (gNums y) (lNums b) k).length := by omega
      have c0 := (D.out.get 0 rfl : Own _ _ _ _ (lNums a)).at'.int hkg
      have c1 := (D.out.get 1 rfl : Own _ _ _ _ (over (gNums y) (lNums b) k)).at'.int hkv
      have hvx : (over (gNums y) (lNums b) k)[k] = (lNums b)[k] := over_at (gNums y) (lNums b) k rfl hkx hkv
      rw [Nat.zero_add] at c0 c1
      rw [hvx] at c1
      have hsucc := (congrArg ((over (gNums y) (lNums b) k).set k) (hat.out k hky hkx hkg)).symm.trans (over_succ (gNums y) (lNums b) k rfl hky)
      have ha1 := hai.out _ (List.getElem_mem hkg)
      have hb1 := hbi.out _ (List.getElem_mem hkx)
      clear hvx
      generalize (lNums b)[k] = m at *
      generalize (lNums a)[k] = q at *
      have hw1 : IntKind.i64.wrap (m - q) = m - q := IntWalk.i64_in _ (by omega)
      have hw2 : IntKind.i64.wrap (100 * (m - q)) = 100 * (m - q) := IntWalk.i64_in _ (by omega)
      have hc := Lib.hid (fun w' => rounded_c (100 * (m - q)) s w' (by omega) (by omega))
      generalize rnd (100 * (m - q)) s = r at *
      have hkI : (k : Int) < 5 := by omega
      obtain ⟨L, hL⟩ : ∃ L, L = over (gNums y) (lNums b) k := ⟨_, rfl⟩
      rw [← hL] at hov hkv hsucc
      have D2 : Sp w wr [ite' 2 (.slice (some ⟨bg, 0, none⟩) 5 5) (lNums a), ite' 2 (.slice (some ⟨bn, 0, none⟩) 5 5) L, ite' 42 (.slice (some ⟨w.heap.size + 1 + 1, 0, none⟩) 1 1) [gradeZ], ite' 30 (.slice (some ⟨w.heap.size + 1, 0, none⟩) 6 6) (lastC b), ite' 30 (.slice (some ⟨w.heap.size, 0, none⟩) 6 6) (lastC a)] := by rw [hL]; exact D.out
      replace D := Lib.hid D2
      replace hov := Lib.hid hov
      replace hsucc := Lib.hid hsucc
      clear D2 hL hai hbi hat ha1 hb1 fS fO k3
      go_wp2_with (first | (go_at_call 73; refine (hc.out _).mono ?_; rintro e w' ⟨rfl, rfl⟩) | ((with_reducible refine at_st 2 (.tmp 48) (.tmp 47) ?_); refine Hid.out ?_))
      refine Lib.hid ?_
      refine wpList_store_own rfl 2 (.tmp 48) (.tmp 47) rfl w.heap.size 2 bn 5 5 L k k (r : Int) rfl (Nat.mul_one k).symm rfl (by kernel_rfl) hov.out.symm (D.out.get 1 rfl) hkv ?_
      intro wz hRz hgz
      have Dz := D.out.set 1 rfl hRz hgz (Or.inl rfl)
      rw [hsucc.out] at Dz
      go_wp2_with fail
      go_roundw
      case rel => exact ⟨k + 1, by omega, by first | rfl | go_num, Lib.hid Dz⟩
      case measure => first | (simp [intOf]; done) | (simp [intOf]; omega)
    · obtain rfl : k = 5 := by omega
      have hfull : over (gNums y) (lNums b) 5 = gNums y := over_full _ _ rfl (Nat.le_refl _)
      rw [hfull] at D
      clear hfull hat hai hbi
      obtain ⟨wa, hwa⟩ : ∃ wo : World, wo = wr := ⟨_, rfl⟩
      subst hwa
      go_wp2_with fail
      refine (gradeOf_c (some ⟨bn, 0, none⟩) y 5 5 wa (D.out.get 1 rfl : Own _ _ _ _ (gNums y)).at' rfl).mono ?_
      rintro e w2 ⟨rfl, hb⟩
      replace D := Lib.hid (D.out.later hb)
      clear hb
      obtain ⟨wn, hwn⟩ : ∃ wn, wn = w2.alloc (.cells #[.int .i64 y.Length, .int .i64 y.Ball, .int .i64 y.Instep, .int .i64 y.Heel, .int .i64 y.Pitch] 42) := ⟨_, rfl⟩
      replace D := Lib.hid (D.out.add (w' := wn) (by rw [hwn]; exact newB w2 _) (by rw [hwn]; exact own_gradeC w2 42 y))
      replace hwn := Lib.hid hwn
      obtain ⟨y0, y1, y2, y3, y4⟩ := gradeC_cells (D.out.get 0 rfl : Own _ _ _ _ (gradeC y))
      obtain ⟨ny, hny⟩ : ∃ b, b = w2.heap.size := ⟨_, rfl⟩
      go_wp2_with (rw [← hwn.out])
      clear y0 y1 y2 y3 y4
      rw [← hny] at D ⊢
      clear hny hwn w2
      cases hy : okGrade y
      · rw [hy] at k3
        obtain ⟨hC, hY⟩ := fS.out hy
        subst hC
        subst hY
        clear fS fO hy
        refine (k3.out _).mono ?_
        rintro e w2 ⟨rfl, hb⟩
        replace D := Lib.hid (D.out.later hb)
        clear hb
        go_wp2_with ((with_reducible refine at_st 42 (.tmp 6) (.tmp 55) ?_); refine wpList_store_own rfl 42 (.tmp 6) (.tmp 55) rfl w.heap.size 42 _ 1 1 [gradeZ] 0 _ (gradeZ : Grade) rfl rfl rfl (by kernel_rfl) rfl (D.out.get 3 rfl) (by simp) ?_; intro wz hRz hgz)
        have Dz := D.out.set 3 rfl hRz hgz (Or.inl rfl)
        obtain ⟨q0, q1, q2, q3, q4⟩ := grade1_cells hRz
        refine bodyPost_ret (v := .tuple #[.agg #[.int .i64 (gradeZ : Grade).Length, .int .i64 (gradeZ : Grade).Ball, .int .i64 (gradeZ : Grade).Instep, .int .i64 (gradeZ : Grade).Heel, .int .i64 (gradeZ : Grade).Pitch], .int .i64 6]) (by simp [results, Tryz.results23, go_sem, q0, q1, q2, q3, q4]) rfl ?_
        exact ⟨rfl, Dz.up⟩
      · rw [hy] at k3
        obtain ⟨hC, hY⟩ := fO.out hy
        subst hC
        subst hY
        clear fS fO hy
        refine (k3.out _).mono ?_
        rintro e w2 ⟨rfl, hb⟩
        replace D := Lib.hid (D.out.later hb)
        clear hb
        obtain ⟨y0, y1, y2, y3, y4⟩ := gradeC_cells (D.out.get 0 rfl : Own _ _ _ _ (gradeC Y))
        go_wp2_with ((with_reducible refine at_st 42 (.tmp 6) (.tmp 56) ?_); refine wpList_store_own rfl 42 (.tmp 6) (.tmp 56) rfl w.heap.size 42 _ 1 1 [gradeZ] 0 _ (Y : Grade) rfl rfl rfl (by kernel_rfl) rfl (D.out.get 3 rfl) (by simp) ?_; intro wz hRz hgz)
        have Dz := D.out.set 3 rfl hRz hgz (Or.inl rfl)
        obtain ⟨q0, q1, q2, q3, q4⟩ := grade1_cells hRz
        refine bodyPost_ret (v := .tuple #[.agg #[.int .i64 (Y : Grade).Length, .int .i64 (Y : Grade).Ball, .int .i64 (Y : Grade).Instep, .int .i64 (Y : Grade).Heel, .int .i64 (Y : Grade).Pitch], .int .i64 0]) (by simp [results, Tryz.results23, go_sem, q0, q1, q2, q3, q4]) rfl ?_
        exact ⟨rfl, Dz.up⟩
set_option maxRecDepth 100000 in
set_option maxHeartbeats 4000000 in
theorem specGradeBetween_c (a b : Last) (s : Int) (w : World) (hna : a.Name.size ≤ 9223372036854775807) (hnb : b.Name.size ≤ 9223372036854775807) :
    Calls Tryz.prog 24 #[.agg #[.string a.Name, .int .i64 a.Length, .int .i64 a.Ball, .int .i64 a.Instep, .int .i64 a.Heel, .int .i64 a.Pitch], .agg #[.string b.Name, .int .i64 b.Length, .int .i64 b.Ball, .int .i64 b.Instep, .int .i64 b.Heel, .int .i64 b.Pitch], .int .i64 s] w fun e w' => e = .returned (.tuple #[.agg #[.int .i64 (gbRes a b s).Length, .int .i64 (gbRes a b s).Ball, .int .i64 (gbRes a b s).Instep, .int .i64 (gbRes a b s).Heel, .int .i64 (gbRes a b s).Pitch], .int .i64 (gbCode a b s)]) ∧ Below w.heap.size w w' := by
  obtain ⟨w3, hw3, D⟩ := box_llg w a b
  replace hw3 := Lib.hid hw3
  replace D := Lib.hid D
  have k1 := Lib.hid (fun w' => l04One_c a w' hna)
  have k2 := Lib.hid (fun w' => l04One_c b w' hnb)
  clear hna hnb
  cases ha : okLast a
  · have hG : gbOk a b = false := by unfold gbOk; rw [ha]; rfl
    rw [(gb_bad hG).1, (gb_bad hG).2]
    rw [ha] at k1
    clear ha hG k2
    obtain ⟨x0, x1, x2, x3, x4, x5⟩ := lastC_cells (D.out.get 2 rfl : Own _ _ _ _ (lastC a))
    obtain ⟨y0, y1, y2, y3, y4, y5⟩ := lastC_cells (D.out.get 1 rfl : Own _ _ _ _ (lastC b))
    go_enter Tryz.func24, Tryz.ntmps24
    go_wp2_with (rw [← hw3.out])
    refine (k1.out _).mono ?_
    rintro e w2 ⟨rfl, hb⟩
    replace D := Lib.hid (D.out.later hb)
    clear hb
    clear hw3 k1
    clear x0 x1 x2 x3 x4 x5 y0 y1 y2 y3 y4 y5
    go_wp2_with ((with_reducible refine at_st 42 (.tmp 6) (.tmp 17) ?_); refine wpList_store_own rfl 42 (.tmp 6) (.tmp 17) rfl w.heap.size 42 _ 1 1 [gradeZ] 0 _ (gradeZ : Grade) rfl rfl rfl (by kernel_rfl) rfl (D.out.get 0 rfl) (by simp) ?_; intro wz hRz hgz)
    have Dz := D.out.set 0 rfl hRz hgz (Or.inl rfl)
    obtain ⟨q0, q1, q2, q3, q4⟩ := grade1_cells hRz
    refine bodyPost_ret (v := .tuple #[.agg #[.int .i64 (gradeZ : Grade).Length, .int .i64 (gradeZ : Grade).Ball, .int .i64 (gradeZ : Grade).Instep, .int .i64 (gradeZ : Grade).Heel, .int .i64 (gradeZ : Grade).Pitch], .int .i64 1]) (by simp [results, Tryz.results24, go_sem, q0, q1, q2, q3, q4]) rfl ?_
    exact ⟨rfl, Dz.up⟩
  cases hb0 : okLast b
  · have hG : gbOk a b = false := by unfold gbOk; rw [ha, hb0]; rfl
    rw [(gb_bad hG).1, (gb_bad hG).2]
    rw [ha] at k1
    rw [hb0] at k2
    clear ha hb0 hG
    obtain ⟨x0, x1, x2, x3, x4, x5⟩ := lastC_cells (D.out.get 2 rfl : Own _ _ _ _ (lastC a))
    obtain ⟨y0, y1, y2, y3, y4, y5⟩ := lastC_cells (D.out.get 1 rfl : Own _ _ _ _ (lastC b))
    go_enter Tryz.func24, Tryz.ntmps24
    go_wp2_with (rw [← hw3.out])
    refine (k1.out _).mono ?_
    rintro e w2 ⟨rfl, hb⟩
    replace D := Lib.hid (D.out.later hb)
    clear hb
    clear hw3 k1
    clear x0 x1 x2 x3 x4 x5 y0 y1 y2 y3 y4 y5
    obtain ⟨x0, x1, x2, x3, x4, x5⟩ := lastC_cells (D.out.get 2 rfl : Own _ _ _ _ (lastC a))
    obtain ⟨y0, y1, y2, y3, y4, y5⟩ := lastC_cells (D.out.get 1 rfl : Own _ _ _ _ (lastC b))
    go_wp2_with fail
    refine (k2.out _).mono ?_
    rintro e w2 ⟨rfl, hb⟩
    replace D := Lib.hid (D.out.later hb)
    clear hb
    clear k2
    clear x0 x1 x2 x3 x4 x5 y0 y1 y2 y3 y4 y5
    go_wp2_with ((with_reducible refine at_st 42 (.tmp 6) (.tmp 17) ?_); refine wpList_store_own rfl 42 (.tmp 6) (.tmp 17) rfl w.heap.size 42 _ 1 1 [gradeZ] 0 _ (gradeZ : Grade) rfl rfl rfl (by kernel_rfl) rfl (D.out.get 0 rfl) (by simp) ?_; intro wz hRz hgz)
    have Dz := D.out.set 0 rfl hRz hgz (Or.inl rfl)
    obtain ⟨q0, q1, q2, q3, q4⟩ := grade1_cells hRz
    refine bodyPost_ret (v := .tuple #[.agg #[.int .i64 (gradeZ : Grade).Length, .int .i64 (gradeZ : Grade).Ball, .int .i64 (gradeZ : Grade).Instep, .int .i64 (gradeZ : Grade).Heel, .int .i64 (gradeZ : Grade).Pitch], .int .i64 1]) (by simp [results, Tryz.results24, go_sem, q0, q1, q2, q3, q4]) rfl ?_
    exact ⟨rfl, Dz.up⟩
  have hG : gbOk a b = true := by unfold gbOk; rw [ha, hb0]; rfl
  cases hs : inr s 1 30
  · rw [(gb_range hG hs).1, (gb_range hG hs).2]
    rw [ha] at k1
    rw [hb0] at k2
    clear ha hb0 hG
    obtain ⟨x0, x1, x2, x3, x4, x5⟩ := lastC_cells (D.out.get 2 rfl : Own _ _ _ _ (lastC a))
    obtain ⟨y0, y1, y2, y3, y4, y5⟩ := lastC_cells (D.out.get 1 rfl : Own _ _ _ _ (lastC b))
    go_enter Tryz.func24, Tryz.ntmps24
    go_wp2_with (rw [← hw3.out])
    refine (k1.out _).mono ?_
    rintro e w2 ⟨rfl, hb⟩
    replace D := Lib.hid (D.out.later hb)
    clear hb
    clear hw3 k1
    clear x0 x1 x2 x3 x4 x5 y0 y1 y2 y3 y4 y5
    obtain ⟨x0, x1, x2, x3, x4, x5⟩ := lastC_cells (D.out.get 2 rfl : Own _ _ _ _ (lastC a))
    obtain ⟨y0, y1, y2, y3, y4, y5⟩ := lastC_cells (D.out.get 1 rfl : Own _ _ _ _ (lastC b))
    go_wp2_with fail
    refine (k2.out _).mono ?_
    rintro e w2 ⟨rfl, hb⟩
    replace D := Lib.hid (D.out.later hb)
    clear hb
    clear k2
    clear x0 x1 x2 x3 x4 x5 y0 y1 y2 y3 y4 y5
    go_wp2_with (first | ((with_reducible refine (as_bool hs (l00In_c _ _ _ _)).mono ?_); rintro e w' ⟨rfl, rfl⟩) | ((with_reducible refine at_st 42 (.tmp 6) (.tmp 21) ?_); refine Hid.out ?_))
    refine Lib.hid ?_
    go_wp2_with ((with_reducible refine at_st 42 (.tmp 6) (.tmp 21) ?_); refine wpList_store_own rfl 42 (.tmp 6) (.tmp 21) rfl w.heap.size 42 _ 1 1 [gradeZ] 0 _ (gradeZ : Grade) rfl rfl rfl (by kernel_rfl) rfl (D.out.get 0 rfl) (by simp) ?_; intro wz hRz hgz)
    have Dz := D.out.set 0 rfl hRz hgz (Or.inl rfl)
    obtain ⟨q0, q1, q2, q3, q4⟩ := grade1_cells hRz
    refine bodyPost_ret (v := .tuple #[.agg #[.int .i64 (gradeZ : Grade).Length, .int .i64 (gradeZ : Grade).Ball, .int .i64 (gradeZ : Grade).Instep, .int .i64 (gradeZ : Grade).Heel, .int .i64 (gradeZ : Grade).Pitch], .int .i64 2]) (by simp [results, Tryz.results24, go_sem, q0, q1, q2, q3, q4]) rfl ?_
    exact ⟨rfl, Dz.up⟩
  have k3 := Lib.hid (fun w' => l05Ok_c (gbG a b s) w')
  have hsr := inr_true.1 hs
  have hai := Lib.hid (lNums_in ha)
  have hbi := Lib.hid (lNums_in hb0)
  have m1 := okLast_iff2.1 ha
  have m2 := okLast_iff2.1 hb0
  obtain ⟨_, ⟨h1, h2, h3, h4⟩, h5⟩ := m1
  obtain ⟨_, ⟨j1, j2, j3, j4⟩, j5⟩ := m2
  have c0 := Lib.hid (fun w' => l02Round_c (100 * (b.Length - a.Length)) s w' (by omega) (by omega))
  have e0 : IntKind.i64.wrap (b.Length - a.Length) = b.Length - a.Length := IntWalk.i64_in _ (by omega)
  have d0 : IntKind.i64.wrap (100 * (b.Length - a.Length)) = 100 * (b.Length - a.Length) := IntWalk.i64_in _ (by omega)
  have c1 := Lib.hid (fun w' => l02Round_c (100 * (b.Ball - a.Ball)) s w' (by omega) (by omega))
  have e1 : IntKind.i64.wrap (b.Ball - a.Ball) = b.Ball - a.Ball := IntWalk.i64_in _ (by omega)
  have d1 : IntKind.i64.wrap (100 * (b.Ball - a.Ball)) = 100 * (b.Ball - a.Ball) := IntWalk.i64_in _ (by omega)
  have c2 := Lib.hid (fun w' => l02Round_c (100 * (b.Instep - a.Instep)) s w' (by omega) (by omega))
  have e2 : IntKind.i64.wrap (b.Instep - a.Instep) = b.Instep - a.Instep := IntWalk.i64_in _ (by omega)
  have d2 : IntKind.i64.wrap (100 * (b.Instep - a.Instep)) = 100 * (b.Instep - a.Instep) := IntWalk.i64_in _ (by omega)
  have c3 := Lib.hid (fun w' => l02Round_c (100 * (b.Heel - a.Heel)) s w' (by omega) (by omega))
  have e3 : IntKind.i64.wrap (b.Heel - a.Heel) = b.Heel - a.Heel := IntWalk.i64_in _ (by omega)
  have d3 : IntKind.i64.wrap (100 * (b.Heel - a.Heel)) = 100 * (b.Heel - a.Heel) := IntWalk.i64_in _ (by omega)
  have c4 := Lib.hid (fun w' => l02Round_c (100 * (b.Pitch - a.Pitch)) s w' (by omega) (by omega))
  have e4 : IntKind.i64.wrap (b.Pitch - a.Pitch) = b.Pitch - a.Pitch := IntWalk.i64_in _ (by omega)
  have d4 : IntKind.i64.wrap (100 * (b.Pitch - a.Pitch)) = 100 * (b.Pitch - a.Pitch) := IntWalk.i64_in _ (by omega)
  rw [ha] at k1
  rw [hb0] at k2
  have fS := Lib.hid (fun h => gb_state hG hs h)
  have fO := Lib.hid (fun h => gb_ok hG hs h)
  obtain ⟨C, hC⟩ : ∃ C, C = gbCode a b s := ⟨_, rfl⟩
  obtain ⟨Y, hY⟩ : ∃ Y, Y = gbRes a b s := ⟨_, rfl⟩
  rw [← hC, ← hY]
  rw [← hC, ← hY] at fS fO
  unfold gbG at fS fO k3
  generalize rnd (100 * (b.Length - a.Length)) s = r0 at *
  generalize rnd (100 * (b.Ball - a.Ball)) s = r1 at *
  generalize rnd (100 * (b.Instep - a.Instep)) s = r2 at *
  generalize rnd (100 * (b.Heel - a.Heel)) s = r3 at *
  generalize rnd (100 * (b.Pitch - a.Pitch)) s = r4 at *
  clear hC hY ha hb0 hG h1 h2 h3 h4 h5 j1 j2 j3 j4 j5 hai hbi
  obtain ⟨x0, x1, x2, x3, x4, x5⟩ := lastC_cells (D.out.get 2 rfl : Own _ _ _ _ (lastC a))
  obtain ⟨y0, y1, y2, y3, y4, y5⟩ := lastC_cells (D.out.get 1 rfl : Own _ _ _ _ (lastC b))
  go_enter Tryz.func24, Tryz.ntmps24
  go_wp2_with (rw [← hw3.out])
  refine (k1.out _).mono ?_
  rintro e w2 ⟨rfl, hb⟩
  replace D := Lib.hid (D.out.later hb)
  clear hb
  clear hw3 k1
  clear x0 x1 x2 x3 x4 x5 y0 y1 y2 y3 y4 y5
  obtain ⟨x0, x1, x2, x3, x4, x5⟩ := lastC_cells (D.out.get 2 rfl : Own _ _ _ _ (lastC a))
  obtain ⟨y0, y1, y2, y3, y4, y5⟩ := lastC_cells (D.out.get 1 rfl : Own _ _ _ _ (lastC b))
  go_wp2_with fail
  refine (k2.out _).mono ?_
  rintro e w2 ⟨rfl, hb⟩
  replace D := Lib.hid (D.out.later hb)
  clear hb
  clear k2
  clear x0 x1 x2 x3 x4 x5 y0 y1 y2 y3 y4 y5
  obtain ⟨x0, x1, x2, x3, x4, x5⟩ := lastC_cells (D.out.get 2 rfl : Own _ _ _ _ (lastC a))
  obtain ⟨y0, y1, y2, y3, y4, y5⟩ := lastC_cells (D.out.get 1 rfl : Own _ _ _ _ (lastC b))
  obtain ⟨wn, hwn⟩ : ∃ wn, wn = w2.alloc (.cells #[.int .i64 r0, .int .i64 0, .int .i64 0, .int .i64 0, .int .i64 0] 42) := ⟨_, rfl⟩
  replace D := Lib.hid (D.out.add (w' := wn) (by rw [hwn]; exact newB w2 _) (by rw [hwn]; exact own_gradeC w2 42 ⟨r0, 0, 0, 0, 0⟩))
  replace hwn := Lib.hid hwn
  obtain ⟨X0, X1, X2, X3, X4, X5⟩ := lastC_cells (D.out.get 3 rfl : Own _ _ _ _ (lastC a))
  obtain ⟨Y0, Y1, Y2, Y3, Y4, Y5⟩ := lastC_cells (D.out.get 2 rfl : Own _ _ _ _ (lastC b))
  go_wp2_with (first | rw [← hwn.out] | ((with_reducible refine (as_bool hs (l00In_c _ _ _ _)).mono ?_); rintro e w' ⟨rfl, rfl⟩) | (go_at_call 75; (first | (with_reducible refine (c0.out _).mono ?_) | (with_reducible refine (c1.out _).mono ?_) | (with_reducible refine (c2.out _).mono ?_) | (with_reducible refine (c3.out _).mono ?_) | (with_reducible refine (c4.out _).mono ?_)); rintro e w' ⟨rfl, rfl⟩) | ((with_reducible refine at_st 2 (.tmp 39) (.tmp 38) ?_); refine wpList_store_own rfl 2 (.tmp 39) (.tmp 38) rfl w.heap.size 42 w2.heap.size 5 5 (gradeC ⟨r0, 0, 0, 0, 0⟩) 1 1 (⟨.int .i64 r1, rfl⟩ : OneCell) rfl rfl rfl (by kernel_rfl) rfl (D.out.get 0 rfl) (by show 1 < 5; omega) ?_; intro wz hRz hgz; replace D := Lib.hid (D.out.set 0 rfl (hRz : Own _ _ _ _ (gradeC ⟨r0, r1, 0, 0, 0⟩)) hgz (Or.inl rfl)); clear hRz hgz x0 x1 x2 x3 x4 x5 y0 y1 y2 y3 y4 y5; obtain ⟨x0, x1, x2, x3, x4, x5⟩ := lastC_cells (D.out.get 3 rfl : Own _ _ _ _ (lastC a)); obtain ⟨y0, y1, y2, y3, y4, y5⟩ := lastC_cells (D.out.get 2 rfl : Own _ _ _ _ (lastC b)); have z0 := gradeC_cells (D.out.get 0 rfl : Own _ _ _ _ (gradeC ⟨r0, r1, 0, 0, 0⟩)); obtain ⟨z0, z1, z2, z3, z4⟩ := z0) | ((with_reducible refine at_st 2 (.tmp 48) (.tmp 47) ?_); refine wpList_store_own rfl 2 (.tmp 48) (.tmp 47) rfl w.heap.size 42 w2.heap.size 5 5 (gradeC ⟨r0, r1, 0, 0, 0⟩) 2 2 (⟨.int .i64 r2, rfl⟩ : OneCell) rfl rfl rfl (by kernel_rfl) rfl (D.out.get 0 rfl) (by show 2 < 5; omega) ?_; intro wz hRz hgz; replace D := Lib.hid (D.out.set 0 rfl (hRz : Own _ _ _ _ (gradeC ⟨r0, r1, r2, 0, 0⟩)) hgz (Or.inl rfl)); clear hRz hgz x0 x1 x2 x3 x4 x5 y0 y1 y2 y3 y4 y5; obtain ⟨x0, x1, x2, x3, x4, x5⟩ := lastC_cells (D.out.get 3 rfl : Own _ _ _ _ (lastC a)); obtain ⟨y0, y1, y2, y3, y4, y5⟩ := lastC_cells (D.out.get 2 rfl : Own _ _ _ _ (lastC b)); have z0 := gradeC_cells (D.out.get 0 rfl : Own _ _ _ _ (gradeC ⟨r0, r1, r2, 0, 0⟩)); obtain ⟨z0, z1, z2, z3, z4⟩ := z0) | ((with_reducible refine at_st 2 (.tmp 57) (.tmp 56) ?_); refine wpList_store_own rfl 2 (.tmp 57) (.tmp 56) rfl w.heap.size 42 w2.heap.size 5 5 (gradeC ⟨r0, r1, r2, 0, 0⟩) 3 3 (⟨.int .i64 r3, rfl⟩ : OneCell) rfl rfl rfl (by kernel_rfl) rfl (D.out.get 0 rfl) (by show 3 < 5; omega) ?_; intro wz hRz hgz; replace D := Lib.hid (D.out.set 0 rfl (hRz : Own _ _ _ _ (gradeC ⟨r0, r1, r2, r3, 0⟩)) hgz (Or.inl rfl)); clear hRz hgz x0 x1 x2 x3 x4 x5 y0 y1 y2 y3 y4 y5; obtain ⟨x0, x1, x2, x3, x4, x5⟩ := lastC_cells (D.out.get 3 rfl : Own _ _ _ _ (lastC a)); obtain ⟨y0, y1, y2, y3, y4, y5⟩ := lastC_cells (D.out.get 2 rfl : Own _ _ _ _ (lastC b)); have z0 := gradeC_cells (D.out.get 0 rfl : Own _ _ _ _ (gradeC ⟨r0, r1, r2, r3, 0⟩)); obtain ⟨z0, z1, z2, z3, z4⟩ := z0) | ((with_reducible refine at_st 2 (.tmp 66) (.tmp 65) ?_); refine wpList_store_own rfl 2 (.tmp 66) (.tmp 65) rfl w.heap.size 42 w2.heap.size 5 5 (gradeC ⟨r0, r1, r2, r3, 0⟩) 4 4 (⟨.int .i64 r4, rfl⟩ : OneCell) rfl rfl rfl (by kernel_rfl) rfl (D.out.get 0 rfl) (by show 4 < 5; omega) ?_; intro wz hRz hgz; replace D := Lib.hid (D.out.set 0 rfl (hRz : Own _ _ _ _ (gradeC ⟨r0, r1, r2, r3, r4⟩)) hgz (Or.inl rfl)); clear hRz hgz x0 x1 x2 x3 x4 x5 y0 y1 y2 y3 y4 y5; obtain ⟨x0, x1, x2, x3, x4, x5⟩ := lastC_cells (D.out.get 3 rfl : Own _ _ _ _ (lastC a)); obtain ⟨y0, y1, y2, y3, y4, y5⟩ := lastC_cells (D.out.get 2 rfl : Own _ _ _ _ (lastC b)); have z0 := gradeC_cells (D.out.get 0 rfl : Own _ _ _ _ (gradeC ⟨r0, r1, r2, r3, r4⟩)); obtain ⟨z0, z1, z2, z3, z4⟩ := z0))
  cases hy : okGrade ⟨r0, r1, r2, r3, r4⟩
  · rw [hy] at k3
    obtain ⟨hC, hY⟩ := fS.out hy
    subst hC
    subst hY
    clear fS fO hy
    refine (k3.out _).mono ?_
    rintro e w5 ⟨rfl, hb⟩
    replace D := Lib.hid (D.out.later hb)
    go_wp2_with ((with_reducible refine at_st 42 (.tmp 6) (.tmp 70) ?_); refine wpList_store_own rfl 42 (.tmp 6) (.tmp 70) rfl w.heap.size 42 _ 1 1 [gradeZ] 0 _ (gradeZ : Grade) rfl rfl rfl (by kernel_rfl) rfl (D.out.get 1 rfl) (by simp) ?_; intro wz hRz hgz)
    have Dz := D.out.set 1 rfl hRz hgz (Or.inl rfl)
    obtain ⟨q0, q1, q2, q3, q4⟩ := grade1_cells hRz
    refine bodyPost_ret (v := .tuple #[.agg #[.int .i64 (gradeZ : Grade).Length, .int .i64 (gradeZ : Grade).Ball, .int .i64 (gradeZ : Grade).Instep, .int .i64 (gradeZ : Grade).Heel, .int .i64 (gradeZ : Grade).Pitch], .int .i64 6]) (by simp [results, Tryz.results24, go_sem, q0, q1, q2, q3, q4]) rfl ?_
    exact ⟨rfl, Dz.up⟩
  · rw [hy] at k3
    obtain ⟨hC, hY⟩ := fO.out hy
    subst hC
    subst hY
    clear fS fO hy
    refine (k3.out _).mono ?_
    rintro e w5 ⟨rfl, hb⟩
    replace D := Lib.hid (D.out.later hb)
    clear z0 z1 z2 z3 z4
    obtain ⟨z0, z1, z2, z3, z4⟩ := gradeC_cells (D.out.get 0 rfl : Own _ _ _ _ (gradeC ⟨r0, r1, r2, r3, r4⟩))
    go_wp2_with ((with_reducible refine at_st 42 (.tmp 6) (.tmp 71) ?_); refine wpList_store_own rfl 42 (.tmp 6) (.tmp 71) rfl w.heap.size 42 _ 1 1 [gradeZ] 0 _ (⟨r0, r1, r2, r3, r4⟩ : Grade) rfl rfl rfl (by kernel_rfl) rfl (D.out.get 1 rfl) (by simp) ?_; intro wz hRz hgz)
    have Dz := D.out.set 1 rfl hRz hgz (Or.inl rfl)
    obtain ⟨q0, q1, q2, q3, q4⟩ := grade1_cells hRz
    refine bodyPost_ret (v := .tuple #[.agg #[.int .i64 (⟨r0, r1, r2, r3, r4⟩ : Grade).Length, .int .i64 (⟨r0, r1, r2, r3, r4⟩ : Grade).Ball, .int .i64 (⟨r0, r1, r2, r3, r4⟩ : Grade).Instep, .int .i64 (⟨r0, r1, r2, r3, r4⟩ : Grade).Heel, .int .i64 (⟨r0, r1, r2, r3, r4⟩ : Grade).Pitch], .int .i64 0]) (by simp [results, Tryz.results24, go_sem, q0, q1, q2, q3, q4]) rfl ?_
    exact ⟨rfl, Dz.up⟩
end Go.Proofs.YtaeinllbjkjhlaaGreatDoor
