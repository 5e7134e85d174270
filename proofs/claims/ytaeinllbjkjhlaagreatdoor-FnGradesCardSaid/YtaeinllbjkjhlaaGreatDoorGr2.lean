/- Chapter 5, gradings: a last after half sizes, the program's and the reference's. (Printed by wip/genGr2.py.) -/
import Derived.Test.YtaeinllbjkjhlaaGreatDoorGr1
namespace Go.Proofs.YtaeinllbjkjhlaaGreatDoor
open Go.RowKit

theorem box_lgl (w : World) (x : Last) (g : Grade) :
    ∃ w3, w3 = ((w.alloc (.cells #[.string x.Name, .int .i64 x.Length, .int .i64 x.Ball, .int .i64 x.Instep, .int .i64 x.Heel, .int .i64 x.Pitch] 30)).alloc (.cells #[.int .i64 g.Length, .int .i64 g.Ball, .int .i64 g.Instep, .int .i64 g.Heel, .int .i64 g.Pitch] 42)).alloc (.cells #[.string { data := #[] }, .int .i64 0, .int .i64 0, .int .i64 0, .int .i64 0, .int .i64 0] 30) ∧
      Sp w w3 [ite' 30 (.slice (some ⟨w.heap.size + 1 + 1, 0, none⟩) 1 1) [lastZ], ite' 42 (.slice (some ⟨w.heap.size + 1, 0, none⟩) 5 5) (gradeC g), ite' 30 (.slice (some ⟨w.heap.size, 0, none⟩) 6 6) (lastC x)] := by
  refine ⟨_, rfl, ?_⟩
  obtain ⟨wa, hwa⟩ : ∃ wa, wa = w.alloc (.cells #[.string x.Name, .int .i64 x.Length, .int .i64 x.Ball, .int .i64 x.Instep, .int .i64 x.Heel, .int .i64 x.Pitch] 30) := ⟨_, rfl⟩
  have D0 := (Sp.refl w).add (w' := wa) (by rw [hwa]; exact newB w _) (by rw [hwa]; exact own_lastC w 30 x)
  have hs0 : wa.heap.size = w.heap.size + 1 := by rw [hwa, World.size_alloc]
  rw [← hwa]
  obtain ⟨wb, hwb⟩ : ∃ wb, wb = wa.alloc (.cells #[.int .i64 g.Length, .int .i64 g.Ball, .int .i64 g.Instep, .int .i64 g.Heel, .int .i64 g.Pitch] 42) := ⟨_, rfl⟩
  have D1 := D0.add (w' := wb) (by rw [hwb]; exact newB wa _) (by rw [hwb]; exact own_gradeC wa 42 g)
  have hs1 : wb.heap.size = w.heap.size + 1 + 1 := by rw [hwb, World.size_alloc, hs0]
  rw [hs0] at D1
  rw [← hwb]
  have D2 := D1.add (w' := wb.alloc (.cells #[.string { data := #[] }, .int .i64 0, .int .i64 0, .int .i64 0, .int .i64 0, .int .i64 0] 30)) (newB wb _) (own_last1 wb 30 lastZ)
  rw [show wb.heap.size = w.heap.size + 1 + 1 from hs1] at D2
  exact D2
theorem box_lg (w : World) (x : Last) (g : Grade) :
    ∃ w3, w3 = (w.alloc (.cells #[.string x.Name, .int .i64 x.Length, .int .i64 x.Ball, .int .i64 x.Instep, .int .i64 x.Heel, .int .i64 x.Pitch] 30)).alloc (.cells #[.int .i64 g.Length, .int .i64 g.Ball, .int .i64 g.Instep, .int .i64 g.Heel, .int .i64 g.Pitch] 42) ∧
      Sp w w3 [ite' 42 (.slice (some ⟨w.heap.size + 1, 0, none⟩) 5 5) (gradeC g), ite' 30 (.slice (some ⟨w.heap.size, 0, none⟩) 6 6) (lastC x)] := by
  refine ⟨_, rfl, ?_⟩
  obtain ⟨wa, hwa⟩ : ∃ wa, wa = w.alloc (.cells #[.string x.Name, .int .i64 x.Length, .int .i64 x.Ball, .int .i64 x.Instep, .int .i64 x.Heel, .int .i64 x.Pitch] 30) := ⟨_, rfl⟩
  have D0 := (Sp.refl w).add (w' := wa) (by rw [hwa]; exact newB w _) (by rw [hwa]; exact own_lastC w 30 x)
  have hs0 : wa.heap.size = w.heap.size + 1 := by rw [hwa, World.size_alloc]
  rw [← hwa]
  have D1 := D0.add (w' := wa.alloc (.cells #[.int .i64 g.Length, .int .i64 g.Ball, .int .i64 g.Instep, .int .i64 g.Heel, .int .i64 g.Pitch] 42)) (newB wa _) (own_gradeC wa 42 g)
  rw [show wa.heap.size = w.heap.size + 1 from hs0] at D1
  exact D1
theorem box_llg (w : World) (a : Last) (b : Last) :
    ∃ w3, w3 = ((w.alloc (.cells #[.string a.Name, .int .i64 a.Length, .int .i64 a.Ball, .int .i64 a.Instep, .int .i64 a.Heel, .int .i64 a.Pitch] 30)).alloc (.cells #[.string b.Name, .int .i64 b.Length, .int .i64 b.Ball, .int .i64 b.Instep, .int .i64 b.Heel, .int .i64 b.Pitch] 30)).alloc (.cells #[.int .i64 0, .int .i64 0, .int .i64 0, .int .i64 0, .int .i64 0] 42) ∧
      Sp w w3 [ite' 42 (.slice (some ⟨w.heap.size + 1 + 1, 0, none⟩) 1 1) [gradeZ], ite' 30 (.slice (some ⟨w.heap.size + 1, 0, none⟩) 6 6) (lastC b), ite' 30 (.slice (some ⟨w.heap.size, 0, none⟩) 6 6) (lastC a)] := by
  refine ⟨_, rfl, ?_⟩
  obtain ⟨wa, hwa⟩ : ∃ wa, wa = w.alloc (.cells #[.string a.Name, .int .i64 a.Length, .int .i64 a.Ball, .int .i64 a.Instep, .int .i64 a.Heel, .int .i64 a.Pitch] 30) := ⟨_, rfl⟩
  have D0 := (Sp.refl w).add (w' := wa) (by rw [hwa]; exact newB w _) (by rw [hwa]; exact own_lastC w 30 a)
  have hs0 : wa.heap.size = w.heap.size + 1 := by rw [hwa, World.size_alloc]
  rw [← hwa]
  obtain ⟨wb, hwb⟩ : ∃ wb, wb = wa.alloc (.cells #[.string b.Name, .int .i64 b.Length, .int .i64 b.Ball, .int .i64 b.Instep, .int .i64 b.Heel, .int .i64 b.Pitch] 30) := ⟨_, rfl⟩
  have D1 := D0.add (w' := wb) (by rw [hwb]; exact newB wa _) (by rw [hwb]; exact own_lastC wa 30 b)
  have hs1 : wb.heap.size = w.heap.size + 1 + 1 := by rw [hwb, World.size_alloc, hs0]
  rw [hs0] at D1
  rw [← hwb]
  have D2 := D1.add (w' := wb.alloc (.cells #[.int .i64 0, .int .i64 0, .int .i64 0, .int .i64 0, .int .i64 0] 42)) (newB wb _) (own_grade1 wb 42 gradeZ)
  rw [show wb.heap.size = w.heap.size + 1 + 1 from hs1] at D2
  exact D2
theorem box_g (w : World) (g : Grade) :
    ∃ w3, w3 = w.alloc (.cells #[.int .i64 g.Length, .int .i64 g.Ball, .int .i64 g.Instep, .int .i64 g.Heel, .int .i64 g.Pitch] 42) ∧
      Sp w w3 [ite' 42 (.slice (some ⟨w.heap.size, 0, none⟩) 5 5) (gradeC g)] := by
  refine ⟨_, rfl, ?_⟩
  have D0 := (Sp.refl w).add (w' := w.alloc (.cells #[.int .i64 g.Length, .int .i64 g.Ball, .int .i64 g.Instep, .int .i64 g.Heel, .int .i64 g.Pitch] 42)) (newB w _) (own_gradeC w 42 g)
  exact D0
theorem lNums_length (x : Last) : (lNums x).length = 5 := rfl
theorem gNums_length (g : Grade) : (gNums g).length = 5 := rfl
theorem gLast_at (x : Last) (g : Grade) (s : Int) : ∀ (k : Nat) (_ : k < (lNums (gLast x g s)).length) (_ : k < (lNums x).length) (_ : k < (gNums g).length), (lNums (gLast x g s))[k] = addG (lNums x)[k] (gNums g)[k] s
  | 0, _, _, _ => rfl
  | 1, _, _, _ => rfl
  | 2, _, _, _ => rfl
  | 3, _, _, _ => rfl
  | 4, _, _, _ => rfl
theorem lNums_in {x : Last} (h : okLast x = true) : ∀ n ∈ lNums x, 0 ≤ n ∧ n ≤ 5000 := by
  obtain ⟨_, ⟨h1, h2, h3, h4⟩, h5⟩ := okLast_iff2.1 h
  intro n hn
  simp only [lNums, List.mem_cons, List.not_mem_nil, or_false] at hn
  rcases hn with rfl | rfl | rfl | rfl | rfl <;> omega
theorem gNums_in {g : Grade} (h : okGrade g = true) : ∀ n ∈ gNums g, 0 ≤ n ∧ n ≤ 20000 := by
  obtain ⟨h1, h2, h3, h4, h5⟩ := okGrade_iff.1 h
  intro n hn
  simp only [gNums, List.mem_cons, List.not_mem_nil, or_false] at hn
  rcases hn with rfl | rfl | rfl | rfl | rfl <;> omega
theorem isSt_iff {s : Int} : isSt s = true ↔ -30 ≤ s ∧ s ≤ 30 := inr_true
set_option maxRecDepth 100000 in
set_option maxHeartbeats 4000000 in
theorem gradeLast_c (x : Last) (g : Grade) (s : Int) (w : World) (hx : okLast x = true) (hg : okGrade g = true) (hs : -30 ≤ s ∧ s ≤ 30) :
    Calls Tryz.prog 65 #[.agg #[.string x.Name, .int .i64 x.Length, .int .i64 x.Ball, .int .i64 x.Instep, .int .i64 x.Heel, .int .i64 x.Pitch], .agg #[.int .i64 g.Length, .int .i64 g.Ball, .int .i64 g.Instep, .int .i64 g.Heel, .int .i64 g.Pitch], .int .i64 s] w fun e w' => e = .returned (.agg #[.string (gLast x g s).Name, .int .i64 (gLast x g s).Length, .int .i64 (gLast x g s).Ball, .int .i64 (gLast x g s).Instep, .int .i64 (gLast x g s).Heel, .int .i64 (gLast x g s).Pitch]) ∧ Below w.heap.size w w' := by
  obtain ⟨w3, hw3, D⟩ := box_lgl w x g
  have hxin := Lib.hid (lNums_in hx)
  have hgin := Lib.hid (gNums_in hg)
  have hat := Lib.hid (gLast_at x g s)
  obtain ⟨y, hy⟩ : ∃ y, y = gLast x g s := ⟨_, rfl⟩
  have hyn : y.Name = x.Name := by rw [hy]; rfl
  rw [← hy] at hat ⊢
  replace hyn := Lib.hid hyn
  clear hx hg hy
  replace hw3 := Lib.hid hw3
  replace D := Lib.hid D
  obtain ⟨x0, x1, x2, x3, x4, x5⟩ := lastC_cells (D.out.get 2 rfl : Own _ _ _ _ (lastC x))
  go_enter Tryz.func65, Tryz.ntmps65
  go_wp2_with (rw [← hw3.out])
  refine (lNums_c x _).mono ?_
  rintro e w2 ⟨bn, rfl, hO, hb⟩
  replace D := Lib.hid (D.out.add hb hO)
  clear hb hO
  clear hw3
  clear x0 x1 x2 x3 x4 x5
  obtain ⟨g0, g1, g2, g3, g4⟩ := gradeC_cells (D.out.get 2 rfl : Own _ _ _ _ (gradeC g))
  go_wp2_with fail
  refine (gNums_c g _).mono ?_
  rintro e w2 ⟨bg, rfl, hO, hb⟩
  replace D := Lib.hid (D.out.add hb hO)
  clear hb hO
  clear g0 g1 g2 g3 g4
  have hz := Lib.hid (over_zero (lNums y) (lNums x))
  go_wp2_with fail
  go_loopw [8, 9, 15] (fun _ _ i wr => ∃ k : Nat, k ≤ 5 ∧ i = .int .i64 k ∧ Hid (Sp w wr [ite' 2 (.slice (some ⟨bg, 0, none⟩) 5 5) (gNums g), ite' 2 (.slice (some ⟨bn, 0, none⟩) 5 5) (over (lNums y) (lNums x) k), ite' 30 (.slice (some ⟨w.heap.size + 1 + 1, 0, none⟩) 1 1) [lastZ], ite' 42 (.slice (some ⟨w.heap.size + 1, 0, none⟩) 5 5) (gradeC g), ite' 30 (.slice (some ⟨w.heap.size, 0, none⟩) 6 6) (lastC x)])) (fun _ _ i _ => 5 - (intOf i).toNat)
  case atStart => exact ⟨0, Nat.zero_le _, rfl, by rw [hz.out]; exact D⟩
  case round =>
    clear D hz
    obtain ⟨k, hk, rfl, D⟩ := hrel
    by_cases hlt : k < 5
    · have hkx : k < (lNums x).length := hlt
      have hkg : k < (gNums g).length := hlt
      have hky : k < (lNums y).length := hlt
      have hov : (over (lNums y) (lNums x) k).length = 5 := over_length _ _ _ rfl
      have hkv : k < (over (lNums y) (lNums x) k).length := by omega
      have c0 := (D.out.get 0 rfl : Own _ _ _ _ (gNums g)).at'.int hkg
      have c1 := (D.out.get 1 rfl : Own _ _ _ _ (over (lNums y) (lNums x) k)).at'.int hkv
      have hvx : (over (lNums y) (lNums x) k)[k] = (lNums x)[k] := over_at (lNums y) (lNums x) k rfl hkx hkv
      rw [Nat.zero_add] at c0 c1
      rw [hvx] at c1
      have hsucc := (congrArg ((over (lNums y) (lNums x) k).set k) (hat.out k hky hkx hkg)).symm.trans (over_succ (lNums y) (lNums x) k rfl hky)
      have hb1 := hgin.out _ (List.getElem_mem hkg)
      have hm1 := hxin.out _ (List.getElem_mem hkx)
      clear hvx
      generalize (lNums x)[k] = m at *
      generalize (gNums g)[k] = q at *
      have hp := mul_st hb1 hs
      have hr := rnd_in hp
      unfold addG at hsucc
      obtain ⟨p, hpe⟩ : ∃ p, p = q * s := ⟨_, rfl⟩
      rw [← hpe] at hp hr hsucc
      have hpw : IntKind.i64.wrap (q * s) = p := by rw [← hpe]; exact IntWalk.i64_in _ (by omega)
      clear hpe
      have hc := Lib.hid (fun w' => rounded_c p 100 w' (by omega) (by omega))
      generalize rnd p 100 = r at *
      have hsw : IntKind.i64.wrap (m + r) = m + r := IntWalk.i64_in _ (by omega)
      have hkI : (k : Int) < 5 := by omega
      have c0r := rg c0
      have c1r := rg c1
      obtain ⟨L, hL⟩ : ∃ L, L = over (lNums y) (lNums x) k := ⟨_, rfl⟩
      rw [← hL] at hov hkv hsucc
      replace hsucc := Lib.hid hsucc
      have D2 : Sp w wr [ite' 2 (.slice (some ⟨bg, 0, none⟩) 5 5) (gNums g), ite' 2 (.slice (some ⟨bn, 0, none⟩) 5 5) L, ite' 30 (.slice (some ⟨w.heap.size + 1 + 1, 0, none⟩) 1 1) [lastZ], ite' 42 (.slice (some ⟨w.heap.size + 1, 0, none⟩) 5 5) (gradeC g), ite' 30 (.slice (some ⟨w.heap.size, 0, none⟩) 6 6) (lastC x)] := by rw [hL]; exact D.out
      replace D := Lib.hid D2
      replace hov := Lib.hid hov
      clear D2 hL hxin hgin hat hp hm1 hb1
      obtain ⟨wa, hwa⟩ : ∃ wo : World, wo = wr := ⟨_, rfl⟩
      subst hwa
      have hb := Below.refl wa.heap.size wa
      go_wp2_with fail
      refine wp_region_tail_below 10 (by kernel_rfl) (by kernel_rfl) (by kernel_rfl) (by simp only [List.take_succ_cons, List.take_zero]; rfl) (by simp only [List.drop_succ_cons, List.drop_zero]; rfl) ?_
      repeat (go_big_quiet_step (((go_at_call 73; exact Calls.regrown_same (hc.out _)))))
      refine wpQuiet_nil ?_
      intro w2 hw'
      replace hb := upw hb (grown_of hw')
      have hw2 := grown_of hw'
      clear hw'
      replace D := Lib.hid (D.out.later hw2)
      go_wp2_with (refine wpList_store_own rfl 2 (.tmp 29) (.tmp 28) rfl w.heap.size 2 bn 5 5 L k k (m + r : Int) rfl (Nat.mul_one k).symm rfl (by kernel_rfl) hov.out.symm (D.out.get 1 rfl) hkv ?_; intro wz hRz hgz)
      have Dz := D.out.set 1 rfl hRz hgz (Or.inl rfl)
      rw [hsucc.out] at Dz
      go_roundw
      case rel => exact ⟨k + 1, by omega, by first | rfl | go_num, Lib.hid Dz⟩
      case measure => first | (simp [intOf]; done) | (simp [intOf]; omega)
    · obtain rfl : k = 5 := by omega
      have hfull : over (lNums y) (lNums x) 5 = lNums y := over_full _ _ rfl (Nat.le_refl _)
      rw [hfull] at D
      clear hfull hat hxin hgin
      have hY := (D.out.get 1 rfl : Own _ _ _ _ (lNums y)).at'
      have d0 := rg (hY.int (i := 0) (by simp [lNums]))
      have d1 := rg (hY.int (i := 1) (by simp [lNums]))
      have d2 := rg (hY.int (i := 2) (by simp [lNums]))
      have d3 := rg (hY.int (i := 3) (by simp [lNums]))
      have d4 := rg (hY.int (i := 4) (by simp [lNums]))
      simp only [lNums, List.getElem_cons_zero, List.getElem_cons_succ, Nat.add_zero, Nat.zero_add] at d0 d1 d2 d3 d4
      obtain ⟨x0, -, -, -, -, -⟩ := lastC_cells (D.out.get 4 rfl : Own _ _ _ _ (lastC x))
      rw [← hyn.out] at x0
      replace x0 := rg x0
      clear hY
      obtain ⟨wa, hwa⟩ : ∃ wo : World, wo = wr := ⟨_, rfl⟩
      subst hwa
      have hb := Below.refl wa.heap.size wa
      go_wp2_with fail
      refine wp_region_tail_below 18 (by kernel_rfl) (by kernel_rfl) (by kernel_rfl) (by simp only [List.take_succ_cons, List.take_zero]; rfl) (by simp only [List.drop_succ_cons, List.drop_zero]; rfl) ?_
      repeat (go_big_quiet_step ((fail)))
      refine wpQuiet_nil ?_
      intro w2 hw'
      replace hb := upw hb (grown_of hw')
      have hw2 := grown_of hw'
      clear hw'
      replace D := Lib.hid (D.out.later hw2)
      go_wp2_with ((with_reducible refine at_st 30 (.tmp 6) (.tmp 48) ?_); refine wpList_store_own rfl 30 (.tmp 6) (.tmp 48) rfl w.heap.size 30 _ 1 1 [lastZ] 0 _ (y : Last) rfl rfl rfl (by kernel_rfl) rfl (D.out.get 2 rfl) (by simp) ?_; intro wz hRz hgz)
      have Dz := D.out.set 2 rfl hRz hgz (Or.inl rfl)
      obtain ⟨q0, q1, q2, q3, q4, q5⟩ := last1_cells hRz
      refine bodyPost_ret (v := .agg #[.string y.Name, .int .i64 y.Length, .int .i64 y.Ball, .int .i64 y.Instep, .int .i64 y.Heel, .int .i64 y.Pitch]) (by simp [results, Tryz.results65, go_sem, q0, q1, q2, q3, q4, q5]) rfl ?_
      exact ⟨rfl, Dz.up⟩
end Go.Proofs.YtaeinllbjkjhlaaGreatDoor
