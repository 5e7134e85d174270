/- Chapter 2, feet as texts: the program. (Out of Mid2 and FP1.) -/
import Derived.Test.YtaeinllbjkjhlaaGreatDoorReadU
import Derived.Test.YtaeinllbjkjhlaaGreatDoorF05
import Derived.Test.YtaeinllbjkjhlaaGreatDoorSep
namespace Go.Proofs.YtaeinllbjkjhlaaGreatDoor
open Go.RowKit

theorem footOf_c (a : Option Addr) (x0 x1 x2 x3 : Int) (n c : Nat) (w : World) (hx : At w a [x0, x1, x2, x3]) (hn : n = 4) :
    Calls Tryz.prog 95 #[.slice a n c] w fun e w' => e = .returned (.agg #[.int .i64 x0, .int .i64 x1, .int .i64 x2, .int .i64 x3]) ∧ Below w.heap.size w w' := by
  subst hn
  obtain ⟨b, off, rfl⟩ := hx.addr (i := 0) (by simp)
  obtain ⟨w1, hw1⟩ : ∃ w1, w1 = w.alloc (.cells #[.int .i64 0, .int .i64 0, .int .i64 0, .int .i64 0] 25) := ⟨_, rfl⟩
  have hb : Below w.heap.size w w1 := by rw [hw1]; exact newB _ _
  have hR : Own w.heap.size w1 25 (.slice (some ⟨w.heap.size, 0, none⟩) 1 1) [(⟨0, 0, 0, 0⟩ : Foot)] := by rw [hw1]; exact own_foot1 w _ ⟨0, 0, 0, 0⟩
  have hx1 := hx.below hb
  have d0 := rg (hx1.int (i := 0) (by simp))
  have d1 := rg (hx1.int (i := 1) (by simp))
  have d2 := rg (hx1.int (i := 2) (by simp))
  have d3 := rg (hx1.int (i := 3) (by simp))
  simp only [List.getElem_cons_zero, List.getElem_cons_succ, Nat.add_zero] at d0 d1 d2 d3
  replace hw1 := Lib.hid hw1
  replace hR := Lib.hid hR
  clear hx hx1
  go_enter Tryz.func95, Tryz.ntmps95
  go_wp2_with (rw [← hw1.out])
  refine wp_region_tail_below 13 (by kernel_rfl) (by kernel_rfl) (by kernel_rfl) (by simp only [List.take_succ_cons, List.take_zero]; rfl) (by simp only [List.drop_succ_cons, List.drop_zero]; rfl) ?_
  repeat (go_big_quiet_step ((fail)))
  refine wpQuiet_nil ?_
  intro w2 hw'
  replace hb := upw hb (grown_of hw')
  have hw2 := grown_of hw'
  clear hw'
  replace hR := Lib.hid (hR.out.later hw2)
  go_wp2_with ((with_reducible refine at_st 25 (.tmp 2) (.tmp 15) ?_); refine wpList_store_own rfl 25 (.tmp 2) (.tmp 15) rfl w.heap.size 25 _ 1 1 [(⟨0, 0, 0, 0⟩ : Foot)] 0 _ (⟨x0, x1, x2, x3⟩ : Foot) rfl rfl rfl (by kernel_rfl) rfl hR.out (by simp) ?_; intro wz hRz hgz)
  obtain ⟨q0, q1, q2, q3⟩ := foot1_cells hRz
  have hbz := below_mark hb hR.out (Nat.le_refl _) hgz
  refine bodyPost_ret (v := .agg #[.int .i64 x0, .int .i64 x1, .int .i64 x2, .int .i64 x3]) (by simp [results, Tryz.results95, go_sem, q0, q1, q2, q3]) rfl ?_
  exact ⟨rfl, hbz⟩
def footTxt (f : Foot) : ByteArray := numsT ⟨#[47]⟩ (fourOf f)
theorem isSep_slash : isSep 47 := by unfold isSep; decide
theorem footTxt_size {f : Foot} (h : okFoot f = true) : (footTxt f).size ≤ 1048576 := by
  have h4 := okFoot_iff.1 h
  have hi : ∀ n : Int, 500 ≤ n ∧ n ≤ 5000 → (Lib.itoa n).length ≤ 21 := fun n hn => Lib.itoa_length_le n (by omega) (by omega)
  have a0 := hi _ h4.1; have a1 := hi _ h4.2.1; have a2 := hi _ h4.2.2.1; have a3 := hi _ h4.2.2.2
  have e : (footTxt f).size = (Lib.join ((fourOf f).map Lib.itoa) [47]).length := by
    show (List.toArray _).size = _
    simp
  rw [e]
  simp only [fourOf, List.map_cons, List.map_nil, Lib.join_cons, Lib.joinTail, List.flatten_cons, List.flatten_nil, List.length_append, List.length_cons, List.length_nil]
  omega
set_option maxHeartbeats 1000000 in
theorem footText_ok (f : Foot) (w : World) (hf : okFoot f = true) (hT : Tab w) :
    Calls Tryz.prog 49 #[.agg #[.int .i64 f.Length, .int .i64 f.Ball, .int .i64 f.Instep, .int .i64 f.Heel]] w fun e w' => e = .returned (.string (footTxt f)) ∧ Below w.heap.size w w' := by
  obtain ⟨wa, hwa⟩ : ∃ wa, wa = w.alloc (.cells #[.int .i64 f.Length, .int .i64 f.Ball, .int .i64 f.Instep, .int .i64 f.Heel] 25) := ⟨_, rfl⟩
  have D : Sp w wa [ite' 25 (.slice (some ⟨w.heap.size, 0, none⟩) 4 4) (footC f)] := by rw [hwa]; exact (Sp.refl w).add (newB w _) (own_footC w _ f)
  have hc1 := Lib.hid (fun w' => validFoot_c f w')
  rw [hf] at hc1
  have hr := Lib.hid (show ∀ x ∈ fourOf f, -9223372036854775808 ≤ x ∧ x ≤ 9223372036854775807 by
    have h := okFoot_iff.1 hf
    intro x hx
    simp [fourOf] at hx
    omega)
  have hN := Lib.hid (fun a w' h hT' => numbersText_c ⟨#[47]⟩ a (fourOf f) 4 w' h (show 4 ≤ 1000 by omega) (show 0 < 4 by omega) hr.out (by decide) hT')
  replace hT := hT.below D.up
  replace hT := Lib.hid hT
  replace hwa := Lib.hid hwa
  replace D := Lib.hid D
  clear hf hr
  obtain ⟨f0, f1, f2, f3⟩ := footC_cells (D.out.get 0 rfl)
  go_enter Tryz.func49, Tryz.ntmps49
  go_wp2_with (rw [← hwa.out])
  refine (hc1.out _).mono ?_
  rintro e w2 ⟨rfl, hb2⟩
  replace D := Lib.hid (D.out.later hb2)
  replace hT := Lib.hid (hT.out.below hb2)
  clear hb2 hwa f0 f1 f2 f3
  obtain ⟨f0, f1, f2, f3⟩ := footC_cells (D.out.get 0 rfl)
  go_wp2_with fail
  refine (measures_c f _).mono ?_
  rintro e w4 ⟨gm, rfl, hO, hb4⟩
  replace D := Lib.hid (D.out.add hb4 hO)
  replace hT := Lib.hid (hT.out.below hb4)
  clear hb4 hO f0 f1 f2 f3
  go_wp2_with fail
  refine (hN.out _ _ (D.out.get 0 rfl : Own _ _ _ _ (fourOf f)).at' hT.out).mono ?_
  rintro e w5 ⟨rfl, hb5⟩
  have hb := upw D.out.up hb5
  go_wp2_with fail
  go_ret
  exact ⟨rfl, hb⟩
set_option maxHeartbeats 1000000 in
theorem readFoot_ok (f : Foot) (w : World) (hf : okFoot f = true) (hT : TabR w) :
    Calls Tryz.prog 47 #[.string (footTxt f)] w fun e w' => e = .returned (.tuple #[.agg #[.int .i64 f.Length, .int .i64 f.Ball, .int .i64 f.Instep, .int .i64 f.Heel], .bool true]) ∧ Below w.heap.size w w' := by
  obtain ⟨w1, hw1⟩ : ∃ w1, w1 = w.alloc (.cells #[.int .i64 0, .int .i64 0, .int .i64 0, .int .i64 0] 25) := ⟨_, rfl⟩
  have D : Sp w w1 [ite' 25 (.slice (some ⟨w.heap.size, 0, none⟩) 1 1) [(⟨0, 0, 0, 0⟩ : Foot)]] := by rw [hw1]; exact (Sp.refl w).add (newB w _) (own_foot1 w _ ⟨0, 0, 0, 0⟩)
  have hR := Lib.hid (fun w' hT' => readNumbers_c (footTxt f) 47 4 w' hT' (footTxt_size hf) (by omega))
  have hNum : numsN 47 4 (footTxt f) = some (fourOf f) := numsN_nums isSep_slash (xs := fourOf f) (by simp [fourOf]) (by
    have h := okFoot_iff.1 hf
    intro x hx
    simp [fourOf] at hx
    omega)
  rw [hNum] at hR
  have hTx := Lib.hid (fun w' hT' => footText_ok f w' hf hT')
  replace hT := hT.below D.up
  replace hT := Lib.hid hT
  have hS : ((footTxt f).toList == (footTxt f).toList) = true := by simp
  replace hw1 := Lib.hid hw1
  replace D := Lib.hid D
  clear hNum hf
  obtain ⟨s, hs⟩ : ∃ s, s = footTxt f := ⟨_, rfl⟩
  rw [← hs] at hR hTx hS ⊢
  clear hs
  simp only [Option.isSome_some, Option.getD_some] at hR
  go_enter Tryz.func47, Tryz.ntmps47
  go_wp2_with (rw [← hw1.out])
  refine (hR.out _ hT.out).mono ?_
  rintro e w2 ⟨v, rfl, hO, hb2⟩
  obtain ⟨a1, c1, rfl, -⟩ := hO.at
  replace D := Lib.hid (D.out.add hb2 hO)
  replace hT := Lib.hid (hT.out.below hb2)
  clear hb2 hO hw1 hR
  go_wp2_with fail
  refine (footOf_c a1 f.Length f.Ball f.Instep f.Heel _ c1 _ (D.out.get 0 rfl : Own _ _ _ _ (fourOf f)).at' rfl).mono ?_
  rintro e w3 ⟨rfl, hb3⟩
  replace D := Lib.hid (D.out.later hb3)
  replace hT := Lib.hid (hT.out.below hb3)
  clear hb3
  go_wp2_with fail
  refine (hTx.out _ hT.out.tab).mono ?_
  rintro e w4 ⟨rfl, hb4⟩
  replace D := Lib.hid (D.out.later hb4)
  clear hb4
  go_wp2_with fail
  refine (footOf_c a1 f.Length f.Ball f.Instep f.Heel _ c1 _ (D.out.get 0 rfl : Own _ _ _ _ (fourOf f)).at' rfl).mono ?_
  rintro e w5 ⟨rfl, hb5⟩
  replace D := Lib.hid (D.out.later hb5)
  clear hb5
  have hRz0 := Lib.hid (D.out.get 1 rfl : Own _ _ _ _ [(⟨0, 0, 0, 0⟩ : Foot)])
  go_wp2_with ((with_reducible refine at_st 25 (.tmp 2) (.tmp 22) ?_); refine wpList_store_own rfl 25 (.tmp 2) (.tmp 22) rfl w.heap.size 25 _ 1 1 [(⟨0, 0, 0, 0⟩ : Foot)] 0 _ f rfl rfl rfl (by kernel_rfl) rfl hRz0.out (by simp) ?_; intro wz hRz hgz)
  have Dz := D.out.set 1 rfl hRz hgz (Or.inl rfl)
  obtain ⟨q0, q1, q2, q3⟩ := foot1_cells hRz
  refine bodyPost_ret (v := .tuple #[.agg #[.int .i64 f.Length, .int .i64 f.Ball, .int .i64 f.Instep, .int .i64 f.Heel], .bool true]) (by simp [results, Tryz.results47, go_sem, q0, q1, q2, q3]) rfl ?_
  exact ⟨rfl, Dz.up⟩
end Go.Proofs.YtaeinllbjkjhlaaGreatDoor
