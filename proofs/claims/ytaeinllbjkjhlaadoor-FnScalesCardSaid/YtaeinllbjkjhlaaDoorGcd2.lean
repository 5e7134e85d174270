/- The reference's greatest divisor and fractions in lowest terms. -/
import Derived.Test.YtaeinllbjkjhlaaDoorGcd
namespace Go.Proofs.YtaeinllbjkjhlaaDoor
open Go.RowKit

theorem l02Gcd_c (a b : Int) (w : World) (ha : 0 ≤ a ∧ a ≤ 1000000000) (hb : 0 ≤ b ∧ b ≤ 1000000000) :
    Calls Tryd.prog 55 #[.int .i64 a, .int .i64 b] w fun e w' => e = .returned (.int .i64 (gcdI a b)) ∧ Below w.heap.size w w' := by
  go_enter Tryd.func55, Tryd.ntmps55
  go_wp2_with fail
  go_loopw [0, 1, 5] (fun p q _ wr => ∃ x y : Int, p = .int .i64 x ∧ q = .int .i64 y ∧ gcdI x y = gcdI a b ∧ (0 ≤ x ∧ x ≤ 1000000000) ∧ (0 ≤ y ∧ y ≤ 1000000000) ∧ Below w.heap.size w wr) (fun _ q _ _ => (intOf q).natAbs)
  case atStart => exact ⟨a, b, rfl, rfl, rfl, ha, hb, Below.refl _ _⟩
  case round =>
    clear ha hb
    obtain ⟨x, y, rfl, rfl, hg, hx, hy, hb⟩ := hrel
    have HG := Lib.hid hg
    clear hg
    by_cases h0 : y = 0
    · subst h0
      go_wp2_with fail
      all_goals go_ret
      all_goals exact ⟨ret_int (by rw [← HG.out, gcdI_zero]; unfold size; omega), hb⟩
    · have hm := tmod_in (a := x) h0
      have hm1 : 0 ≤ x.tmod y := Int.tmod_nonneg y hx.1
      have hm2 : x.tmod y ≤ 1000000000 := by omega
      obtain ⟨z, hz⟩ : ∃ z, z = x.tmod y := ⟨_, rfl⟩
      have hE := Lib.hid (gcdI_step x y)
      rw [← hz] at hm hm1 hm2 hE
      have hz2 := hz.symm
      clear hz
      go_wp2_with fail
      all_goals go_roundw
      case rel => exact ⟨y, z, rfl, by first | rfl | rw [hz2], by rw [hE.out]; exact HG.out, hy, by omega, hb⟩
      case measure => simp [intOf]; omega
theorem l02Make_c (num den : Int) (w : World) (hn : -1000000000 ≤ num ∧ num ≤ 1000000000) (hd : 1 ≤ den ∧ den ≤ 1000000000) :
    Calls Tryd.prog 35 #[.int .i64 num, .int .i64 den] w fun e w' => e = .returned (.agg #[.int .i64 (lowN num den), .int .i64 (lowD num den)]) ∧ Below w.heap.size w w' := by
  have hg := gcdI_pos (a := num) hd.1
  have hgb := (gcdI_bound (M := 1000000000) hn (by omega : -1000000000 ≤ den ∧ den ≤ 1000000000)).2
  have q1 := tdiv_bound num (gcdI num den)
  have q2 := tdiv_bound den (gcdI num den)
  have hss : 0 ≤ size num ∧ size num ≤ 1000000000 := by unfold size; omega
  have hC := fun w' => l02Gcd_c (size num) den w' hss (by omega)
  have eg : gcdI (size num) den = gcdI num den := by
    have := gcdI_size num den
    rw [show size den = den from by unfold size; omega] at this
    exact this
  rw [eg] at hC
  clear eg
  obtain ⟨x, hx⟩ : ∃ x, x = lowN num den := ⟨_, rfl⟩
  obtain ⟨y, hy⟩ : ∃ y, y = lowD num den := ⟨_, rfl⟩
  rw [← hx, ← hy]
  unfold lowN at hx
  unfold lowD at hy
  generalize gcdI num den = g at *
  rw [← hx] at q1
  rw [← hy] at q2
  unfold size at q1 q2
  have hxw : IntKind.i64.wrap x = x := IntWalk.i64_in _ (by omega)
  have hyw : IntKind.i64.wrap y = y := IntWalk.i64_in _ (by omega)
  have hg0 : ¬ g = 0 := by omega
  have hx2 := hx.symm
  have hy2 := hy.symm
  clear hx hy q1 q2
  obtain ⟨w1, hw1⟩ : ∃ w1, w1 = w.alloc (.cells #[.int .i64 0, .int .i64 0] 31) := ⟨_, rfl⟩
  have hb : Below w.heap.size w w1 := by rw [hw1]; exact newB _ _
  have hR : Own w.heap.size w1 31 (.slice (some ⟨w.heap.size, 0, none⟩) 1 1) [(⟨0, 0⟩ : Frac)] := by rw [hw1]; exact own_frac w _ ⟨0, 0⟩
  replace hw1 := Lib.hid hw1
  replace hR := Lib.hid hR
  replace hC := Lib.hid hC
  obtain ⟨sz, hsz⟩ : ∃ sz, sz = size num := ⟨_, rfl⟩
  have hZ := Lib.hid (fun w' => l02Size_c num w' (by omega))
  rw [← hsz] at hZ hC
  clear hsz hss
  go_enter Tryd.func35, Tryd.ntmps35
  go_wp2_with (rw [← hw1.out])
  refine (hZ.out _).mono ?_
  rintro e w2 ⟨rfl, rfl⟩
  go_wp2_with fail
  refine (hC.out _).mono ?_
  rintro e w2 ⟨rfl, hb2⟩
  replace hR := Lib.hid (hR.out.later hb2)
  replace hb := upw hb hb2
  clear hb2 hw1 hC
  go_wp2_with fail
  refine wp_region_tail_below 7 (by kernel_rfl) (by kernel_rfl) (by kernel_rfl) (by simp only [List.take_succ_cons, List.take_zero]; rfl) (by simp only [List.drop_succ_cons, List.drop_zero]; rfl) ?_
  repeat (go_big_quiet_step ((fail)))
  refine wpQuiet_nil ?_
  intro w2 hw'
  replace hb := upw hb (grown_of hw')
  have hw2 := grown_of hw'
  clear hw'
  replace hR := Lib.hid (hR.out.later hw2)
  go_wp2_with ((with_reducible refine at_st 31 (.tmp 4) (.tmp 16) ?_); refine wpList_store_own rfl 31 (.tmp 4) (.tmp 16) rfl w.heap.size 31 _ 1 1 [(⟨0, 0⟩ : Frac)] 0 _ (⟨x, y⟩ : Frac) rfl rfl rfl (by kernel_rfl) rfl hR.out (by simp) ?_; intro wz hRz hgz)
  obtain ⟨q0, q1⟩ := frac_cells hRz
  have hbz := below_mark hb hR.out (Nat.le_refl _) hgz
  refine bodyPost_ret (v := .agg #[.int .i64 x, .int .i64 y]) (by simp [results, Tryd.results35, go_sem, q0, q1]) rfl ?_
  exact ⟨rfl, hbz⟩
end Go.Proofs.YtaeinllbjkjhlaaDoor
