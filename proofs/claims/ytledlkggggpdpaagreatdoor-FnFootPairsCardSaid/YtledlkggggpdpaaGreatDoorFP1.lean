/- Chapter 2, pairs of feet, and feet as texts: the program. -/
import Derived.Test.YtledlkggggpdpaaGreatDoorFP0
import Derived.Test.YtledlkggggpdpaaGreatDoorReadU
import Derived.Test.YtledlkggggpdpaaGreatDoorF05
namespace Go.Proofs.YtledlkggggpdpaaGreatDoor
open Go.RowKit

/-- Two feet in new variables, a result behind them. -/
theorem boxFG (w : World) (f g : Foot) : ∃ w3, w3 = ((w.alloc (.cells #[.int .i64 f.Length, .int .i64 f.Ball, .int .i64 f.Instep, .int .i64 f.Heel] 25)).alloc (.cells #[.int .i64 g.Length, .int .i64 g.Ball, .int .i64 g.Instep, .int .i64 g.Heel] 25)).alloc (.cells #[.int .i64 0, .int .i64 0, .int .i64 0, .int .i64 0] 25) ∧
    Sp w w3 [ite' 25 (.slice (some ⟨w.heap.size + 1 + 1, 0, none⟩) 1 1) [(⟨0, 0, 0, 0⟩ : Foot)], ite' 25 (.slice (some ⟨w.heap.size + 1, 0, none⟩) 4 4) (footC g), ite' 25 (.slice (some ⟨w.heap.size, 0, none⟩) 4 4) (footC f)] := by
  refine ⟨_, rfl, ?_⟩
  obtain ⟨wa, hwa⟩ : ∃ wa, wa = w.alloc (.cells #[.int .i64 f.Length, .int .i64 f.Ball, .int .i64 f.Instep, .int .i64 f.Heel] 25) := ⟨_, rfl⟩
  have Da : Sp w wa [ite' 25 (.slice (some ⟨w.heap.size, 0, none⟩) 4 4) (footC f)] := by rw [hwa]; exact (Sp.refl w).add (newB w _) (own_footC w _ f)
  have hsa : wa.heap.size = w.heap.size + 1 := by rw [hwa]; exact World.size_alloc _ _
  rw [← hwa]
  obtain ⟨wb, hwb⟩ : ∃ wb, wb = wa.alloc (.cells #[.int .i64 g.Length, .int .i64 g.Ball, .int .i64 g.Instep, .int .i64 g.Heel] 25) := ⟨_, rfl⟩
  have Db := Da.add (w' := wb) (by rw [hwb]; exact newB wa _) (by rw [hwb]; exact own_footC wa 25 g)
  have hsb : wb.heap.size = w.heap.size + 1 + 1 := by rw [hwb, World.size_alloc, hsa]
  rw [hsa] at Db
  rw [← hwb]
  have Dc := Db.add (w' := wb.alloc (.cells #[.int .i64 0, .int .i64 0, .int .i64 0, .int .i64 0] 25)) (newB wb _) (own_foot1 wb 25 ⟨0, 0, 0, 0⟩)
  rw [hsb] at Dc
  exact Dc
theorem larger1_c (g c : Nat) (xs : List Int) (w : World) (hx : At w (some ⟨g, 0, none⟩) xs) (hl : xs.length = 2) :
    Calls Tryz.prog 138 #[.slice (some ⟨g, 0, none⟩) xs.length c] w fun e w' => e = .returned (.int .i64 (val1 xs)) ∧ Below w.heap.size w w' := by
  have h1 : 1 < xs.length := by omega
  have d0 := hx.int h1
  have hE : val1 xs = xs[1] := by unfold val1; rw [List.getD_eq_getElem?_getD, List.getElem?_eq_getElem h1]; rfl
  rw [hE]
  have hlI : (1 : Int) < xs.length := by omega
  clear hE hl
  generalize xs[1] = X at *
  go_enter Tryz.func138, Tryz.ntmps138
  go_wp2_with fail
  go_ret
  exact ⟨rfl, Below.refl _ _⟩
theorem larger1_enters : Enters Tryz.prog 138 := enters_of Tryz.func138 (by kernel_rfl) (by kernel_rfl)
set_option maxHeartbeats 1000000 in
theorem largerFoot_ok (f g : Foot) (w : World) (hf : okFoot f = true) (hg : okFoot g = true) :
    Calls Tryz.prog 43 #[.agg #[.int .i64 f.Length, .int .i64 f.Ball, .int .i64 f.Instep, .int .i64 f.Heel], .agg #[.int .i64 g.Length, .int .i64 g.Ball, .int .i64 g.Instep, .int .i64 g.Heel]] w fun e w' => e = .returned (.tuple #[.agg #[.int .i64 (maxFoot f g).Length, .int .i64 (maxFoot f g).Ball, .int .i64 (maxFoot f g).Instep, .int .i64 (maxFoot f g).Heel], .int .i64 0]) ∧ Below w.heap.size w w' := by
  obtain ⟨w3, hw3, D⟩ := boxFG w f g
  have hc1 := Lib.hid (fun w' => validFoot_c f w')
  have hc2 := Lib.hid (fun w' => validFoot_c g w')
  rw [hf] at hc1
  rw [hg] at hc2
  have hC := Lib.hid (fun b c w' h => eachMeasure_c b [f, g] c 138 val1 w' larger1_enters h (by simp) (by simp) (fun g' c' xs w'' hxl hA => larger1_c g' c' xs w'' hA hxl))
  simp only [col_two, val1_two, List.length_cons, List.length_nil] at hC
  obtain ⟨m0, e0⟩ : ∃ v, v = (maxFoot f g).Length := ⟨_, rfl⟩
  obtain ⟨m1, e1⟩ : ∃ v, v = (maxFoot f g).Ball := ⟨_, rfl⟩
  obtain ⟨m2, e2⟩ : ∃ v, v = (maxFoot f g).Instep := ⟨_, rfl⟩
  obtain ⟨m3, e3⟩ : ∃ v, v = (maxFoot f g).Heel := ⟨_, rfl⟩
  rw [← e0, ← e1, ← e2, ← e3]
  rw [show max (kindOf 0 f) (kindOf 0 g) = m0 from e0.symm, show max (kindOf 1 f) (kindOf 1 g) = m1 from e1.symm, show max (kindOf 2 f) (kindOf 2 g) = m2 from e2.symm, show max (kindOf 3 f) (kindOf 3 g) = m3 from e3.symm] at hC
  clear e0 e1 e2 e3 hf hg
  replace hw3 := Lib.hid hw3
  replace D := Lib.hid D
  obtain ⟨f0, f1, f2, f3⟩ := footC_cells (D.out.get 2 rfl)
  go_enter Tryz.func43, Tryz.ntmps43
  go_wp2_with (rw [← hw3.out])
  refine (hc1.out _).mono ?_
  rintro e w2 ⟨rfl, hb2⟩
  replace D := Lib.hid (D.out.later hb2)
  clear hb2
  clear hw3 f0 f1 f2 f3
  obtain ⟨g0, g1, g2, g3⟩ := footC_cells (D.out.get 1 rfl)
  go_wp2_with fail
  refine (hc2.out _).mono ?_
  rintro e w2 ⟨rfl, hb2⟩
  replace D := Lib.hid (D.out.later hb2)
  clear hb2
  clear g0 g1 g2 g3
  obtain ⟨f0, f1, f2, f3⟩ := footC_cells (D.out.get 2 rfl)
  obtain ⟨g0, g1, g2, g3⟩ := footC_cells (D.out.get 1 rfl)
  obtain ⟨w5, hw5⟩ : ∃ w5, w5 = w2.alloc (.cells #[.int .i64 f.Length, .int .i64 f.Ball, .int .i64 f.Instep, .int .i64 f.Heel, .int .i64 g.Length, .int .i64 g.Ball, .int .i64 g.Instep, .int .i64 g.Heel] 25) := ⟨_, rfl⟩
  have D5 := Lib.hid (D.out.add (w' := w5) (by rw [hw5]; exact newB w2 _) (by rw [hw5]; exact own_alloc w2 25 _ [f, g] rfl (by show 2 ≤ 1048576; omega)))
  replace hw5 := Lib.hid hw5
  go_wp2_with (rw [← hw5.out])
  refine (hC.out _ _ _ (D5.out.get 0 rfl : Own _ _ _ _ [f, g]).at').mono ?_
  rintro e w6 ⟨rfl, hb6⟩
  replace D5 := Lib.hid (D5.out.later hb6)
  clear hb6 D hC f0 f1 f2 f3 g0 g1 g2 g3
  have hR := Lib.hid (D5.out.get 1 rfl : Own _ _ _ _ [(⟨0, 0, 0, 0⟩ : Foot)])
  go_wp2_with ((with_reducible refine at_st 25 (.tmp 4) (.tmp 18) ?_); refine wpList_store_own rfl 25 (.tmp 4) (.tmp 18) rfl w.heap.size 25 _ 1 1 [(⟨0, 0, 0, 0⟩ : Foot)] 0 _ (⟨m0, m1, m2, m3⟩ : Foot) rfl rfl rfl (by kernel_rfl) rfl (hR.out) (by simp) ?_; intro wz hRz hgz)
  have Dz := D5.out.set 1 rfl hRz hgz (Or.inl rfl)
  obtain ⟨q0, q1, q2, q3⟩ := foot1_cells hRz
  refine bodyPost_ret (v := .tuple #[.agg #[.int .i64 m0, .int .i64 m1, .int .i64 m2, .int .i64 m3], .int .i64 0]) (by simp [results, Tryz.results43, go_sem, q0, q1, q2, q3]) rfl ?_
  exact ⟨rfl, Dz.up⟩
def val2 (xs : List Int) : Int := IntKind.i64.wrap (xs.getD 1 0 - xs.getD 0 0)
theorem val2_two (x y : Int) (hx : 500 ≤ x ∧ x ≤ 5000) (hy : 500 ≤ y ∧ y ≤ 5000) : val2 (srt [x, y]) = size (y - x) := by
  rw [srt_two]
  show IntKind.i64.wrap (max x y - min x y) = size (y - x)
  rw [IntWalk.i64_in _ (by omega)]
  unfold size; omega
theorem spread1_c (g c : Nat) (xs : List Int) (w : World) (hx : At w (some ⟨g, 0, none⟩) xs) (hl : xs.length = 2) :
    Calls Tryz.prog 141 #[.slice (some ⟨g, 0, none⟩) xs.length c] w fun e w' => e = .returned (.int .i64 (val2 xs)) ∧ Below w.heap.size w w' := by
  have h1 : 1 < xs.length := by omega
  have h0 : 0 < xs.length := by omega
  have d1 := hx.int h1
  have d0 := hx.int h0
  have hE : val2 xs = IntKind.i64.wrap (xs[1] - xs[0]) := by
    unfold val2
    rw [List.getD_eq_getElem?_getD, List.getD_eq_getElem?_getD, List.getElem?_eq_getElem h1, List.getElem?_eq_getElem h0]; rfl
  rw [hE]
  have hlI : (0 : Int) < xs.length := by omega
  have hlJ : (xs.length : Int) - 1 = 1 := by omega
  have hlK : (1 : Int) < xs.length := by omega
  have hlW : IntKind.i64.wrap (1 : Int) = 1 := IntWalk.i64_in _ (by omega)
  clear hE
  replace hl := Lib.hid hl
  generalize xs[1] = X at *
  generalize xs[0] = Y at *
  obtain ⟨Z, hZ⟩ : ∃ Z, Z = IntKind.i64.wrap (X - Y) := ⟨_, rfl⟩
  rw [← hZ]
  have hZ' := hZ.symm
  clear hZ
  replace d0 := rg d0
  replace d1 := rg d1
  have hb := Below.refl w.heap.size w
  go_enter Tryz.func141, Tryz.ntmps141
  go_wp2_with fail
  refine wp_region_quiet_below (by kernel_rfl) (by kernel_rfl) ?_
  repeat (go_big_quiet_step (fail))
  refine wpQuiet_nil ?_
  intro w2 hw'
  replace hb := upw hb (grown_of hw')
  clear hw'
  go_wp2_with fail
  go_ret
  exact ⟨rfl, hb⟩
theorem spread1_enters : Enters Tryz.prog 141 := enters_of Tryz.func141 (by kernel_rfl) (by kernel_rfl)
set_option maxHeartbeats 1000000 in
theorem spreadOf_ok (a : Option Addr) (f g : Foot) (c : Nat) (w : World) (hx : At w a [f, g]) (hf : okFoot f = true) (hg : okFoot g = true) :
    Calls Tryz.prog 45 #[.slice a 2 c] w fun e w' => e = .returned (.tuple #[.agg #[.int .i64 (sprFoot f g).Length, .int .i64 (sprFoot f g).Ball, .int .i64 (sprFoot f g).Instep, .int .i64 (sprFoot f g).Heel], .int .i64 0]) ∧ Below w.heap.size w w' := by
  obtain ⟨w1, hw1⟩ : ∃ w1, w1 = w.alloc (.cells #[.int .i64 0, .int .i64 0, .int .i64 0, .int .i64 0] 25) := ⟨_, rfl⟩
  have D : Sp w w1 [ite' 25 (.slice (some ⟨w.heap.size, 0, none⟩) 1 1) [(⟨0, 0, 0, 0⟩ : Foot)]] := by rw [hw1]; exact (Sp.refl w).add (newB w _) (own_foot1 w _ ⟨0, 0, 0, 0⟩)
  replace hx := hx.below D.up
  have hv : ∀ y ∈ [f, g], okFoot y = true := by simp [hf, hg]
  have hC1 := Lib.hid (feetCode_ok a [f, g] c 0 w1 hx (by simp) (by simp) hv (by omega))
  have hC := Lib.hid (fun w' h => eachMeasure_c a [f, g] c 141 val2 w' spread1_enters h (by simp) (by simp) (fun g' c' xs w'' hxl hA => spread1_c g' c' xs w'' hA hxl))
  have k := fun i (hi : i < 4) => val2_two (kindOf i f) (kindOf i g) (kind_ok hf i hi) (kind_ok hg i hi)
  simp only [col_two, k 0 (by omega), k 1 (by omega), k 2 (by omega), k 3 (by omega), List.length_cons, List.length_nil] at hC hC1
  clear k hv hf hg
  obtain ⟨m0, e0⟩ : ∃ v, v = (sprFoot f g).Length := ⟨_, rfl⟩
  obtain ⟨m1, e1⟩ : ∃ v, v = (sprFoot f g).Ball := ⟨_, rfl⟩
  obtain ⟨m2, e2⟩ : ∃ v, v = (sprFoot f g).Instep := ⟨_, rfl⟩
  obtain ⟨m3, e3⟩ : ∃ v, v = (sprFoot f g).Heel := ⟨_, rfl⟩
  rw [← e0, ← e1, ← e2, ← e3]
  rw [show size (kindOf 0 g - kindOf 0 f) = m0 from e0.symm, show size (kindOf 1 g - kindOf 1 f) = m1 from e1.symm, show size (kindOf 2 g - kindOf 2 f) = m2 from e2.symm, show size (kindOf 3 g - kindOf 3 f) = m3 from e3.symm] at hC
  clear e0 e1 e2 e3
  replace hw1 := Lib.hid hw1
  replace D := Lib.hid D
  go_enter Tryz.func45, Tryz.ntmps45
  go_wp2_with (rw [← hw1.out])
  refine hC1.out.mono ?_
  rintro e w2 ⟨rfl, hb2⟩
  replace D := Lib.hid (D.out.later hb2)
  replace hx := hx.below hb2
  clear hb2 hw1 hC1
  go_wp2_with fail
  refine (hC.out _ hx).mono ?_
  rintro e w3 ⟨rfl, hb3⟩
  replace D := Lib.hid (D.out.later hb3)
  clear hb3 hC
  have hR := Lib.hid (D.out.get 0 rfl : Own _ _ _ _ [(⟨0, 0, 0, 0⟩ : Foot)])
  go_wp2_with ((with_reducible refine at_st 25 (.tmp 2) (.tmp 12) ?_); refine wpList_store_own rfl 25 (.tmp 2) (.tmp 12) rfl w.heap.size 25 _ 1 1 [(⟨0, 0, 0, 0⟩ : Foot)] 0 _ (⟨m0, m1, m2, m3⟩ : Foot) rfl rfl rfl (by kernel_rfl) rfl (hR.out) (by simp) ?_; intro wz hRz hgz)
  have Dz := D.out.set 0 rfl hRz hgz (Or.inl rfl)
  obtain ⟨q0, q1, q2, q3⟩ := foot1_cells hRz
  refine bodyPost_ret (v := .tuple #[.agg #[.int .i64 m0, .int .i64 m1, .int .i64 m2, .int .i64 m3], .int .i64 0]) (by simp [results, Tryz.results45, go_sem, q0, q1, q2, q3]) rfl ?_
  exact ⟨rfl, Dz.up⟩
set_option maxHeartbeats 1000000 in
theorem differenceOf_ok (f g : Foot) (w : World) (hf : okFoot f = true) (hg : okFoot g = true) :
    Calls Tryz.prog 44 #[.agg #[.int .i64 f.Length, .int .i64 f.Ball, .int .i64 f.Instep, .int .i64 f.Heel], .agg #[.int .i64 g.Length, .int .i64 g.Ball, .int .i64 g.Instep, .int .i64 g.Heel]] w fun e w' => ∃ v, e = .returned (.tuple #[v, .int .i64 0]) ∧ Own w.heap.size w' 2 v (difI f g) ∧ Below w.heap.size w w' := by
  obtain ⟨wa, hwa⟩ : ∃ wa, wa = w.alloc (.cells #[.int .i64 f.Length, .int .i64 f.Ball, .int .i64 f.Instep, .int .i64 f.Heel] 25) := ⟨_, rfl⟩
  have Da : Sp w wa [ite' 25 (.slice (some ⟨w.heap.size, 0, none⟩) 4 4) (footC f)] := by rw [hwa]; exact (Sp.refl w).add (newB w _) (own_footC w _ f)
  have hsa : wa.heap.size = w.heap.size + 1 := by rw [hwa]; exact World.size_alloc _ _
  obtain ⟨wb, hwb⟩ : ∃ wb, wb = wa.alloc (.cells #[.int .i64 g.Length, .int .i64 g.Ball, .int .i64 g.Instep, .int .i64 g.Heel] 25) := ⟨_, rfl⟩
  have D := Da.add (w' := wb) (by rw [hwb]; exact newB wa _) (by rw [hwb]; exact own_footC wa 25 g)
  rw [hsa] at D
  replace hwb := Lib.hid (hwb.trans (by rw [hwa]))
  clear Da hsa hwa
  have hc1 := Lib.hid (fun w' => validFoot_c f w')
  have hc2 := Lib.hid (fun w' => validFoot_c g w')
  rw [hf] at hc1
  rw [hg] at hc2
  have kf := Lib.hid (fun k (hk : k < 4) => kind_ok hf k hk)
  have kg := Lib.hid (fun k (hk : k < 4) => kind_ok hg k hk)
  clear hf hg
  replace D := Lib.hid D
  obtain ⟨f0, f1, f2, f3⟩ := footC_cells (D.out.get 1 rfl)
  go_enter Tryz.func44, Tryz.ntmps44
  go_wp2_with (rw [← hwb.out])
  refine (hc1.out _).mono ?_
  rintro e w2 ⟨rfl, hb2⟩
  replace D := Lib.hid (D.out.later hb2)
  clear hb2
  clear hwb f0 f1 f2 f3
  obtain ⟨g0, g1, g2, g3⟩ := footC_cells (D.out.get 0 rfl)
  go_wp2_with fail
  refine (hc2.out _).mono ?_
  rintro e w2 ⟨rfl, hb2⟩
  replace D := Lib.hid (D.out.later hb2)
  clear hb2
  clear g0 g1 g2 g3
  obtain ⟨g0, g1, g2, g3⟩ := footC_cells (D.out.get 0 rfl)
  go_wp2_with fail
  refine (measures_c g _).mono ?_
  rintro e w4 ⟨go, rfl, hO, hb4⟩
  replace D := Lib.hid (D.out.add hb4 hO)
  clear hb4 hO g0 g1 g2 g3
  obtain ⟨f0, f1, f2, f3⟩ := footC_cells (D.out.get 2 rfl)
  go_wp2_with fail
  refine (measures_c f _).mono ?_
  rintro e w5 ⟨gm, rfl, hO, hb5⟩
  replace D := Lib.hid ((D.out.add hb5 hO).sub (js := [ite' 2 (.slice (some ⟨gm, 0, none⟩) 4 4) (fourOf f), ite' 2 (.slice (some ⟨go, 0, none⟩) 4 4) (fourOf g)]) (by simp))
  clear hb5 hO f0 f1 f2 f3
  go_wp2_with fail
  go_loopw [7, 8, 22] (fun _ _ i wr => ∃ k : Nat, k ≤ 4 ∧ i = .int .i64 k ∧ Hid (Sp w wr [ite' 2 (.slice (some ⟨gm, 0, none⟩) 4 4) (fourOf f), ite' 2 (.slice (some ⟨go, 0, none⟩) 4 4) (difTo f g k)])) (fun _ _ i _ => 4 - (intOf i).toNat)
  case atStart => exact ⟨0, by omega, rfl, D⟩
  case round =>
    clear D
    obtain ⟨k, hk, rfl, D⟩ := hrel
    obtain ⟨wc, hwc⟩ : ∃ wo : World, wo = wr := ⟨_, rfl⟩
    subst hwc
    by_cases hlt : k < 4
    · have hltI : (k : Int) < 4 := by omega
      have hdl := difTo_length f g hk
      have hkd : k < (difTo f g k).length := by omega
      have d1 := (D.out.get 0 rfl : Own _ _ _ _ (fourOf f)).at'.int (i := k) (show k < (fourOf f).length from hlt)
      have d2 := (D.out.get 1 rfl : Own _ _ _ _ (difTo f g k)).at'.int (i := k) hkd
      rw [kindOf_get, Nat.zero_add] at d1
      rw [difTo_get f g hlt, Nat.zero_add] at d2
      have k1 := kf.out k hlt
      have k2 := kg.out k hlt
      have hset := Lib.hid (difTo_succ f g hlt)
      have hO := Lib.hid (D.out.get 1 rfl : Own _ _ _ _ (difTo f g k))
      replace hdl := Lib.hid hdl
      replace hkd := Lib.hid hkd
      generalize kindOf k f = X at *
      generalize kindOf k g = Y at *
      go_wp2_with ((with_reducible refine at_st 2 (.tmp 33) (.tmp 32) ?_); refine wpList_store_own rfl 2 (.tmp 33) (.tmp 32) rfl w.heap.size 2 go 4 4 (difTo f g k) k k (Y - X) rfl (by simp [Flat.k]) rfl (by kernel_rfl) hdl.out.symm hO.out hkd.out ?_; intro w6 hO6 hg6)
      rw [hset.out] at hO6
      have D6 := Lib.hid (D.out.set 1 rfl hO6 hg6 (Or.inl rfl))
      go_roundw
      case rel => exact ⟨k + 1, by omega, by first | rfl | go_num, D6⟩
      case measure => first | (simp [intOf]; done) | (simp [intOf]; omega)
    · obtain rfl : k = 4 := by omega
      go_wp2_with fail
      go_ret2
      exact ⟨_, rfl, D.out.get 1 rfl, D.out.up⟩
def footTxt (f : Foot) : ByteArray := numsT ⟨#[47]⟩ (fourOf f)
theorem isSep_slash : isSep 47 := by unfold isSep; decide
theorem footTxt_size {f : Foot} (h : okFoot f = true) : (footTxt f).size ≤ 1048576 := by
  have h4 := okFoot_iff.1 h
  have hi : ∀ n : Int, 500 ≤ n ∧ n ≤ 5000 → (Lib.itoa n).length ≤ 21 := fun n hn => Lib.itoa_length_le n (by omega) (by omega)
  have a0 := hi _ h4.1; have a1 := hi _ h4.2.1; have a2 := hi _ h4.2.2.1; have a3 := hi _ h4.2.2.2
  have e : (footTxt f).size = (Lib.join ((fourOf f).map Lib.itoa) [47]).length := by
    show (List.toArray _).size = _
    simp
  rw [e]
  simp only [fourOf, List.map_cons, List.map_nil, Lib.join_cons, Lib.joinTail, List.flatten_cons, List.flatten_nil, List.length_append, List.length_cons, List.length_nil]
  omega
set_option maxHeartbeats 1000000 in
theorem footText_ok (f : Foot) (w : World) (hf : okFoot f = true) (hT : Tab w) :
    Calls Tryz.prog 47 #[.agg #[.int .i64 f.Length, .int .i64 f.Ball, .int .i64 f.Instep, .int .i64 f.Heel]] w fun e w' => e = .returned (.string (footTxt f)) ∧ Below w.heap.size w w' := by
  obtain ⟨wa, hwa⟩ : ∃ wa, wa = w.alloc (.cells #[.int .i64 f.Length, .int .i64 f.Ball, .int .i64 f.Instep, .int .i64 f.Heel] 25) := ⟨_, rfl⟩
  have D : Sp w wa [ite' 25 (.slice (some ⟨w.heap.size, 0, none⟩) 4 4) (footC f)] := by rw [hwa]; exact (Sp.refl w).add (newB w _) (own_footC w _ f)
  have hc1 := Lib.hid (fun w' => validFoot_c f w')
  rw [hf] at hc1
  have hr := Lib.hid (show ∀ x ∈ fourOf f, -9223372036854775808 ≤ x ∧ x ≤ 9223372036854775807 by
    have h := okFoot_iff.1 hf
    intro x hx
    simp [fourOf] at hx
    omega)
  have hN := Lib.hid (fun a w' h hT' => numbersText_c ⟨#[47]⟩ a (fourOf f) 4 w' h (show 4 ≤ 1000 by omega) (show 0 < 4 by omega) hr.out (by decide) hT')
  replace hT := hT.below D.up
  replace hT := Lib.hid hT
  replace hwa := Lib.hid hwa
  replace D := Lib.hid D
  clear hf hr
  obtain ⟨f0, f1, f2, f3⟩ := footC_cells (D.out.get 0 rfl)
  go_enter Tryz.func47, Tryz.ntmps47
  go_wp2_with (rw [← hwa.out])
  refine (hc1.out _).mono ?_
  rintro e w2 ⟨rfl, hb2⟩
  replace D := Lib.hid (D.out.later hb2)
  replace hT := Lib.hid (hT.out.below hb2)
  clear hb2 hwa f0 f1 f2 f3
  obtain ⟨f0, f1, f2, f3⟩ := footC_cells (D.out.get 0 rfl)
  go_wp2_with fail
  refine (measures_c f _).mono ?_
  rintro e w4 ⟨gm, rfl, hO, hb4⟩
  replace D := Lib.hid (D.out.add hb4 hO)
  replace hT := Lib.hid (hT.out.below hb4)
  clear hb4 hO f0 f1 f2 f3
  go_wp2_with fail
  refine (hN.out _ _ (D.out.get 0 rfl : Own _ _ _ _ (fourOf f)).at' hT.out).mono ?_
  rintro e w5 ⟨rfl, hb5⟩
  have hb := upw D.out.up hb5
  go_wp2_with fail
  go_ret
  exact ⟨rfl, hb⟩
set_option maxHeartbeats 1000000 in
theorem readFoot_ok (f : Foot) (w : World) (hf : okFoot f = true) (hT : TabR w) :
    Calls Tryz.prog 46 #[.string (footTxt f)] w fun e w' => e = .returned (.tuple #[.agg #[.int .i64 f.Length, .int .i64 f.Ball, .int .i64 f.Instep, .int .i64 f.Heel], .bool true]) ∧ Below w.heap.size w w' := by
  obtain ⟨w1, hw1⟩ : ∃ w1, w1 = w.alloc (.cells #[.int .i64 0, .int .i64 0, .int .i64 0, .int .i64 0] 25) := ⟨_, rfl⟩
  have D : Sp w w1 [ite' 25 (.slice (some ⟨w.heap.size, 0, none⟩) 1 1) [(⟨0, 0, 0, 0⟩ : Foot)]] := by rw [hw1]; exact (Sp.refl w).add (newB w _) (own_foot1 w _ ⟨0, 0, 0, 0⟩)
  have hR := Lib.hid (fun w' hT' => readNumbers_c (footTxt f) 47 4 w' hT' (footTxt_size hf) (by omega))
  have hNum : numsN 47 4 (footTxt f) = some (fourOf f) := numsN_nums isSep_slash (xs := fourOf f) (by simp [fourOf]) (by
    have h := okFoot_iff.1 hf
    intro x hx
    simp [fourOf] at hx
    omega)
  rw [hNum] at hR
  have hTx := Lib.hid (fun w' hT' => footText_ok f w' hf hT')
  replace hT := hT.below D.up
  replace hT := Lib.hid hT
  have hS : ((footTxt f).toList == (footTxt f).toList) = true := by simp
  replace hw1 := Lib.hid hw1
  replace D := Lib.hid D
  clear hNum hf
  obtain ⟨s, hs⟩ : ∃ s, s = footTxt f := ⟨_, rfl⟩
  rw [← hs] at hR hTx hS ⊢
  clear hs
  simp only [Option.isSome_some, Option.getD_some] at hR
  go_enter Tryz.func46, Tryz.ntmps46
  go_wp2_with (rw [← hw1.out])
  refine (hR.out _ hT.out).mono ?_
  rintro e w2 ⟨v, rfl, hO, hb2⟩
  obtain ⟨a1, c1, rfl, -⟩ := hO.at
  replace D := Lib.hid (D.out.add hb2 hO)
  replace hT := Lib.hid (hT.out.below hb2)
  clear hb2 hO hw1 hR
  go_wp2_with fail
  refine (footOf_c a1 f.Length f.Ball f.Instep f.Heel _ c1 _ (D.out.get 0 rfl : Own _ _ _ _ (fourOf f)).at' rfl).mono ?_
  rintro e w3 ⟨rfl, hb3⟩
  replace D := Lib.hid (D.out.later hb3)
  replace hT := Lib.hid (hT.out.below hb3)
  clear hb3
  go_wp2_with fail
  refine (hTx.out _ hT.out.tab).mono ?_
  rintro e w4 ⟨rfl, hb4⟩
  replace D := Lib.hid (D.out.later hb4)
  clear hb4
  go_wp2_with fail
  refine (footOf_c a1 f.Length f.Ball f.Instep f.Heel _ c1 _ (D.out.get 0 rfl : Own _ _ _ _ (fourOf f)).at' rfl).mono ?_
  rintro e w5 ⟨rfl, hb5⟩
  replace D := Lib.hid (D.out.later hb5)
  clear hb5
  have hRz0 := Lib.hid (D.out.get 1 rfl : Own _ _ _ _ [(⟨0, 0, 0, 0⟩ : Foot)])
  go_wp2_with ((with_reducible refine at_st 25 (.tmp 2) (.tmp 22) ?_); refine wpList_store_own rfl 25 (.tmp 2) (.tmp 22) rfl w.heap.size 25 _ 1 1 [(⟨0, 0, 0, 0⟩ : Foot)] 0 _ f rfl rfl rfl (by kernel_rfl) rfl hRz0.out (by simp) ?_; intro wz hRz hgz)
  have Dz := D.out.set 1 rfl hRz hgz (Or.inl rfl)
  obtain ⟨q0, q1, q2, q3⟩ := foot1_cells hRz
  refine bodyPost_ret (v := .tuple #[.agg #[.int .i64 f.Length, .int .i64 f.Ball, .int .i64 f.Instep, .int .i64 f.Heel], .bool true]) (by simp [results, Tryz.results46, go_sem, q0, q1, q2, q3]) rfl ?_
  exact ⟨rfl, Dz.up⟩
end Go.Proofs.YtledlkggggpdpaaGreatDoor
