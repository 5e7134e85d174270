/- Chapter 5, gradings: numbers of grades and of lasts, which grades are valid. (Printed by wip/genGr1.py.) -/
import Derived.Test.YtaeinllbjkjhlaaGreatDoorGr0
namespace Go.Proofs.YtaeinllbjkjhlaaGreatDoor
open Go.RowKit

theorem lNums_c (x : Last) (w : World) : Calls Tryz.prog 72 #[.agg #[.string x.Name, .int .i64 x.Length, .int .i64 x.Ball, .int .i64 x.Instep, .int .i64 x.Heel, .int .i64 x.Pitch]] w fun e w' => ∃ b, e = .returned (.slice (some ⟨b, 0, none⟩) 5 5) ∧ Own w.heap.size w' 2 (.slice (some ⟨b, 0, none⟩) 5 5) (lNums x) ∧ Below w.heap.size w w' := by
  have hb : Below w.heap.size w (w.alloc (.cells #[.string x.Name, .int .i64 x.Length, .int .i64 x.Ball, .int .i64 x.Instep, .int .i64 x.Heel, .int .i64 x.Pitch] 30)) := (Below.refl _ _).alloc (Nat.le_refl _) _
  have hO : Own _ _ 2 (.slice (some ⟨(w.alloc (.cells #[.string x.Name, .int .i64 x.Length, .int .i64 x.Ball, .int .i64 x.Instep, .int .i64 x.Heel, .int .i64 x.Pitch] 30)).heap.size, 0, none⟩) 5 5) (lNums x) := own_alloc (w.alloc (.cells #[.string x.Name, .int .i64 x.Length, .int .i64 x.Ball, .int .i64 x.Instep, .int .i64 x.Heel, .int .i64 x.Pitch] 30)) 2 #[.int .i64 x.Length, .int .i64 x.Ball, .int .i64 x.Instep, .int .i64 x.Heel, .int .i64 x.Pitch] (lNums x) rfl (by show 5 ≤ 1048576; omega)
  go_enter Tryz.func72, Tryz.ntmps72
  go_wp2_with fail
  go_ret
  refine ⟨w.heap.size + 1, rfl, ?_, hb.alloc hb.size _⟩
  have := hO.base hb.size
  simpa using this
theorem gNums_c (g : Grade) (w : World) : Calls Tryz.prog 80 #[.agg #[.int .i64 g.Length, .int .i64 g.Ball, .int .i64 g.Instep, .int .i64 g.Heel, .int .i64 g.Pitch]] w fun e w' => ∃ b, e = .returned (.slice (some ⟨b, 0, none⟩) 5 5) ∧ Own w.heap.size w' 2 (.slice (some ⟨b, 0, none⟩) 5 5) (gNums g) ∧ Below w.heap.size w w' := by
  have hb : Below w.heap.size w (w.alloc (.cells #[.int .i64 g.Length, .int .i64 g.Ball, .int .i64 g.Instep, .int .i64 g.Heel, .int .i64 g.Pitch] 42)) := (Below.refl _ _).alloc (Nat.le_refl _) _
  have hO : Own _ _ 2 (.slice (some ⟨(w.alloc (.cells #[.int .i64 g.Length, .int .i64 g.Ball, .int .i64 g.Instep, .int .i64 g.Heel, .int .i64 g.Pitch] 42)).heap.size, 0, none⟩) 5 5) (gNums g) := own_alloc (w.alloc (.cells #[.int .i64 g.Length, .int .i64 g.Ball, .int .i64 g.Instep, .int .i64 g.Heel, .int .i64 g.Pitch] 42)) 2 #[.int .i64 g.Length, .int .i64 g.Ball, .int .i64 g.Instep, .int .i64 g.Heel, .int .i64 g.Pitch] (gNums g) rfl (by show 5 ≤ 1048576; omega)
  go_enter Tryz.func80, Tryz.ntmps80
  go_wp2_with fail
  go_ret
  refine ⟨w.heap.size + 1, rfl, ?_, hb.alloc hb.size _⟩
  have := hO.base hb.size
  simpa using this
theorem l05Five_c (g : Grade) (w : World) : Calls Tryz.prog 106 #[.agg #[.int .i64 g.Length, .int .i64 g.Ball, .int .i64 g.Instep, .int .i64 g.Heel, .int .i64 g.Pitch]] w fun e w' => ∃ b, e = .returned (.slice (some ⟨b, 0, none⟩) 5 5) ∧ Own w.heap.size w' 2 (.slice (some ⟨b, 0, none⟩) 5 5) (gNums g) ∧ Below w.heap.size w w' := by
  have hb : Below w.heap.size w (w.alloc (.cells #[.int .i64 g.Length, .int .i64 g.Ball, .int .i64 g.Instep, .int .i64 g.Heel, .int .i64 g.Pitch] 42)) := (Below.refl _ _).alloc (Nat.le_refl _) _
  have hO : Own _ _ 2 (.slice (some ⟨(w.alloc (.cells #[.int .i64 g.Length, .int .i64 g.Ball, .int .i64 g.Instep, .int .i64 g.Heel, .int .i64 g.Pitch] 42)).heap.size, 0, none⟩) 5 5) (gNums g) := own_alloc (w.alloc (.cells #[.int .i64 g.Length, .int .i64 g.Ball, .int .i64 g.Instep, .int .i64 g.Heel, .int .i64 g.Pitch] 42)) 2 #[.int .i64 g.Length, .int .i64 g.Ball, .int .i64 g.Instep, .int .i64 g.Heel, .int .i64 g.Pitch] (gNums g) rfl (by show 5 ≤ 1048576; omega)
  go_enter Tryz.func106, Tryz.ntmps106
  go_wp2_with fail
  go_ret
  refine ⟨w.heap.size + 1, rfl, ?_, hb.alloc hb.size _⟩
  have := hO.base hb.size
  simpa using this
theorem implValidGrade_c (g : Grade) (w : World) : Calls Tryz.prog 35 #[.agg #[.int .i64 g.Length, .int .i64 g.Ball, .int .i64 g.Instep, .int .i64 g.Heel, .int .i64 g.Pitch]] w fun e w' => e = .returned (.bool (okGrade g)) ∧ Below w.heap.size w w' := by
  have hb0 : Below w.heap.size w (w.alloc (.cells #[.int .i64 g.Length, .int .i64 g.Ball, .int .i64 g.Instep, .int .i64 g.Heel, .int .i64 g.Pitch] 42)) := (Below.refl _ _).alloc (Nat.le_refl _) _
  have hof : outs (gNums g) 0 20000 = !okGrade g := by unfold okGrade; simp
  obtain ⟨q, hq⟩ : ∃ q, q = okGrade g := ⟨_, rfl⟩
  rw [← hq] at hof ⊢
  replace hq := Lib.hid hq
  go_enter Tryz.func35, Tryz.ntmps35
  go_wp2_with fail
  refine (gNums_c g _).mono ?_
  rintro e w2 ⟨b, rfl, hO, hb2⟩
  have hb := upw hb0 hb2
  have hcc := outside_c (some ⟨b, 0, none⟩) (gNums g) 5 0 20000 w2 hO.at' (by simp [gNums])
  rw [hof] at hcc
  go_wp2_with fail
  refine hcc.mono ?_
  rintro e w3 ⟨rfl, hb3⟩
  go_wp2_with fail
  go_ret
  exact ⟨by simp, upw hb hb3⟩
set_option maxHeartbeats 800000 in
theorem l05Ok_c (g : Grade) (w : World) : Calls Tryz.prog 67 #[.agg #[.int .i64 g.Length, .int .i64 g.Ball, .int .i64 g.Instep, .int .i64 g.Heel, .int .i64 g.Pitch]] w fun e w' => e = .returned (.bool (okGrade g)) ∧ Below w.heap.size w w' := by
  have hb0 : Below w.heap.size w (w.alloc (.cells #[.int .i64 g.Length, .int .i64 g.Ball, .int .i64 g.Instep, .int .i64 g.Heel, .int .i64 g.Pitch] 42)) := (Below.refl _ _).alloc (Nat.le_refl _) _
  have hbad := Lib.hid (fun (k : Nat) (hk : k < (gNums g).length) (h : inr (gNums g)[k] 0 20000 = false) => (show okGrade g = false by
    unfold okGrade outs
    rw [Bool.not_eq_false']
    exact List.any_eq_true.2 ⟨_, List.getElem_mem hk, by simp [h]⟩))
  have hgood := Lib.hid (fun (h : Sofar (fun k => inr ((gNums g).getD k 0) 0 20000) 5) => (show okGrade g = true by
    unfold okGrade
    rw [Bool.not_eq_true', outs_false]
    intro x hx
    obtain ⟨k, hk, rfl⟩ := List.getElem_of_mem hx
    have h5 : k < 5 := hk
    have := h k h5
    simp only [List.getD_eq_getElem?_getD, List.getElem?_eq_getElem hk, Option.getD_some] at this
    exact inr_true.1 this))
  obtain ⟨q, hq⟩ : ∃ q, q = okGrade g := ⟨_, rfl⟩
  rw [← hq] at hbad hgood ⊢
  clear hq
  go_enter Tryz.func67, Tryz.ntmps67
  go_wp2_with fail
  refine (l05Five_c g _).mono ?_
  rintro e w2 ⟨b, rfl, hO, hb2⟩
  have hb := upw hb0 hb2
  clear hb2 hb0
  have hA := Lib.hid hO.at'
  clear hO
  have hs0 := Lib.hid (show Sofar (fun k => inr ((gNums g).getD k 0) 0 20000) 0 from sofar_zero)
  go_wp2_with fail
  go_loopw [4] (fun i wr => ∃ k : Nat, k ≤ 5 ∧ i = .int .i64 k ∧ Hid (Sofar (fun k => inr ((gNums g).getD k 0) 0 20000) k) ∧ wr = w2) (fun i _ => 5 - (intOf i).toNat)
  case atStart => exact ⟨0, Nat.zero_le _, rfl, hs0, rfl⟩
  case round =>
    clear hs0
    obtain ⟨k, hk, rfl, hS, rfl⟩ := hrel
    by_cases hlt : k < 5
    · have hlt' : k < (gNums g).length := hlt
      have c0 := hA.out.int hlt'
      rw [Nat.zero_add] at c0
      have hltI : (k : Int) < 5 := by omega
      have hN := Lib.hid (fun (h : inr (gNums g)[k] 0 20000 = true) => sofar_succ hS.out (show inr ((gNums g).getD k 0) 0 20000 = true by
        rw [List.getD_eq_getElem?_getD, List.getElem?_eq_getElem hlt']; exact h))
      have hB := Lib.hid (hbad.out k hlt')
      generalize (gNums g)[k] = n at *
      cases hi : inr n 0 20000
      · have hq := hB.out hi
        subst hq
        clear hN hB hS
        go_wp2_with ((with_reducible refine (as_bool hi (l00In_c _ _ _ _)).mono ?_); rintro e w' ⟨rfl, rfl⟩)
        go_ret
        exact ⟨rfl, hb⟩
      · have hS2 := Lib.hid (hN.out hi)
        clear hN hB hS
        go_wp2_with ((with_reducible refine (as_bool hi (l00In_c _ _ _ _)).mono ?_); rintro e w' ⟨rfl, rfl⟩)
        go_roundw
        case rel => exact ⟨k + 1, by omega, by first | rfl | go_num, hS2, by first | rfl | trivial⟩
        case measure => first | (simp [intOf]; done) | (simp [intOf]; omega)
    · obtain rfl : k = 5 := by omega
      have hq := hgood.out hS.out
      subst hq
      go_wp2_with fail
      go_ret
      exact ⟨rfl, hb⟩
theorem specValidGrade_c (g : Grade) (w : World) : Calls Tryz.prog 36 #[.agg #[.int .i64 g.Length, .int .i64 g.Ball, .int .i64 g.Instep, .int .i64 g.Heel, .int .i64 g.Pitch]] w fun e w' => e = .returned (.bool (okGrade g)) ∧ Below w.heap.size w w' := by
  have hb0 : Below w.heap.size w (w.alloc (.cells #[.int .i64 g.Length, .int .i64 g.Ball, .int .i64 g.Instep, .int .i64 g.Heel, .int .i64 g.Pitch] 42)) := (Below.refl _ _).alloc (Nat.le_refl _) _
  have hI := Lib.hid (fun w' => l05Ok_c g w')
  generalize okGrade g = q at hI ⊢
  go_enter Tryz.func36, Tryz.ntmps36
  go_wp2_with fail
  refine (hI.out _).mono ?_
  rintro e w2 ⟨rfl, hb2⟩
  go_wp2_with fail
  go_ret
  exact ⟨rfl, upw hb0 hb2⟩
theorem isSteps_c (n : Int) (w : World) : Calls Tryz.prog 63 #[.int .i64 n] w fun e w' => e = .returned (.bool (isSt n)) ∧ w = w' := by
  unfold isSt
  go_enter Tryz.func63, Tryz.ntmps63
  go_wp2_with fail
  refine (within_c _ _ _ _).mono ?_
  rintro e w' ⟨rfl, rfl⟩
  go_wp2_with fail
  go_ret
  exact ⟨rfl, rfl⟩
theorem l05Steps_c (n : Int) (w : World) : Calls Tryz.prog 68 #[.int .i64 n] w fun e w' => e = .returned (.bool (isSt n)) ∧ w = w' := by
  unfold isSt
  go_enter Tryz.func68, Tryz.ntmps68
  go_wp2_with fail
  refine (l00In_c _ _ _ _).mono ?_
  rintro e w' ⟨rfl, rfl⟩
  go_wp2_with fail
  go_ret
  exact ⟨rfl, rfl⟩
theorem isMeasure_c (n : Int) (w : World) : Calls Tryz.prog 77 #[.int .i64 n] w fun e w' => e = .returned (.bool (inr n 500 5000)) ∧ w = w' := by
  go_enter Tryz.func77, Tryz.ntmps77
  go_wp2_with fail
  refine (within_c _ _ _ _).mono ?_
  rintro e w' ⟨rfl, rfl⟩
  go_wp2_with fail
  go_ret
  exact ⟨rfl, rfl⟩
theorem l05Add_c (n each steps : Int) (w : World) (h1 : 0 ≤ each ∧ each ≤ 20000) (h2 : -30 ≤ steps ∧ steps ≤ 30) (hn : 0 ≤ n ∧ n ≤ 5000) : Calls Tryz.prog 78 #[.int .i64 n, .int .i64 each, .int .i64 steps] w fun e w' => e = .returned (.int .i64 (addG n each steps)) ∧ w = w' := by
  have hm := mul_st h1 h2
  have hr := rnd_in hm
  unfold addG
  generalize hp : each * steps = p at *
  have hpw : IntKind.i64.wrap (each * steps) = p := by rw [hp]; exact IntWalk.i64_in _ (by omega)
  clear hp
  have hc := l02Round_c p 100 w (by omega) (by omega)
  generalize rnd p 100 = r at *
  go_enter Tryz.func78, Tryz.ntmps78
  go_wp2_with fail
  refine hc.mono ?_
  rintro e w' ⟨rfl, rfl⟩
  go_wp2_with fail
  go_ret
  exact ⟨rfl, rfl⟩
theorem gradeOf_c (a : Option Addr) (g : Grade) (n c : Nat) (w : World) (hx : At w a (gNums g)) (hn : n = 5) :
    Calls Tryz.prog 74 #[.slice a n c] w fun e w' => e = .returned (.agg #[.int .i64 g.Length, .int .i64 g.Ball, .int .i64 g.Instep, .int .i64 g.Heel, .int .i64 g.Pitch]) ∧ Below w.heap.size w w' := by
  subst hn
  unfold gNums at hx
  obtain ⟨b, off, rfl⟩ := hx.addr (i := 0) (by simp)
  obtain ⟨w1, hw1⟩ : ∃ w1, w1 = w.alloc (.cells #[.int .i64 0, .int .i64 0, .int .i64 0, .int .i64 0, .int .i64 0] 42) := ⟨_, rfl⟩
  have hb : Below w.heap.size w w1 := by rw [hw1]; exact newB _ _
  have hR : Own w.heap.size w1 42 (.slice (some ⟨w.heap.size, 0, none⟩) 1 1) [gradeZ] := by rw [hw1]; exact own_grade1 w _ gradeZ
  have hx1 := hx.below hb
  have d0 := rg (hx1.int (i := 0) (by simp))
  have d1 := rg (hx1.int (i := 1) (by simp))
  have d2 := rg (hx1.int (i := 2) (by simp))
  have d3 := rg (hx1.int (i := 3) (by simp))
  have d4 := rg (hx1.int (i := 4) (by simp))
  simp only [List.getElem_cons_zero, List.getElem_cons_succ, Nat.add_zero] at d0 d1 d2 d3 d4
  replace hw1 := Lib.hid hw1
  replace hR := Lib.hid hR
  clear hx hx1
  go_enter Tryz.func74, Tryz.ntmps74
  go_wp2_with (rw [← hw1.out])
  refine wp_region_tail_below 16 (by kernel_rfl) (by kernel_rfl) (by kernel_rfl) (by simp only [List.take_succ_cons, List.take_zero]; rfl) (by simp only [List.drop_succ_cons, List.drop_zero]; rfl) ?_
  repeat (go_big_quiet_step ((fail)))
  refine wpQuiet_nil ?_
  intro w2 hw'
  replace hb := upw hb (grown_of hw')
  have hw2 := grown_of hw'
  clear hw'
  replace hR := Lib.hid (hR.out.later hw2)
  go_wp2_with ((with_reducible refine at_st 42 (.tmp 2) (.tmp 18) ?_); refine wpList_store_own rfl 42 (.tmp 2) (.tmp 18) rfl w.heap.size 42 _ 1 1 [gradeZ] 0 _ (g : Grade) rfl rfl rfl (by kernel_rfl) rfl hR.out (by simp) ?_; intro wz hRz hgz)
  obtain ⟨q0, q1, q2, q3, q4⟩ := grade1_cells hRz
  have hbz := below_mark hb hR.out (Nat.le_refl _) hgz
  refine bodyPost_ret (v := .agg #[.int .i64 g.Length, .int .i64 g.Ball, .int .i64 g.Instep, .int .i64 g.Heel, .int .i64 g.Pitch]) (by simp [results, Tryz.results74, go_sem, q0, q1, q2, q3, q4]) rfl ?_
  exact ⟨rfl, hbz⟩
end Go.Proofs.YtaeinllbjkjhlaaGreatDoor
