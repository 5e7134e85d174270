/- Chapter 5, gradings: GradeSet and StepsFor, the program's and the reference's. (Printed by wip/genGr5.py.) -/
import Derived.Test.YtaeinllbjkjhlaaGreatDoorGr4
namespace Go.Proofs.YtaeinllbjkjhlaaGreatDoor
open Go.RowKit

theorem own_nul {α : Type} [Flat α] (B : Nat) (w : World) (e : TypeId) : Own B w e (.slice none 0 0) ([] : List α) := ⟨by simp [flat], Or.inl ⟨rfl, rfl⟩⟩
theorem own_emp {α : Type} [Flat α] (w : World) (e : TypeId) : Own w.heap.size (w.alloc (.cells #[] e)) e (.slice (some ⟨w.heap.size, 0, none⟩) 0 0) ([] : List α) := own_new w e
theorem field_length (n : ByteArray) (a b c d e : Int) (w : World) : (Instr.field 30 (.agg #[.string n, .int .i64 a, .int .i64 b, .int .i64 c, .int .i64 d, .int .i64 e]) 1).run Tryz.prog w = .ok (.int .i64 a) w := by
  simp [Instr.field, run_underlying Tryz.underlying30, part, asAgg]
attribute [local go_sem ↓] field_length
set_option maxRecDepth 100000 in
set_option maxHeartbeats 4000000 in
theorem implGradeSet_c (x : Last) (g : Grade) (f t : Int) (w : World) (hn : x.Name.size ≤ 9223372036854775807) :
    Calls Tryz.prog 17 #[.agg #[.string x.Name, .int .i64 x.Length, .int .i64 x.Ball, .int .i64 x.Instep, .int .i64 x.Heel, .int .i64 x.Pitch], .agg #[.int .i64 g.Length, .int .i64 g.Ball, .int .i64 g.Instep, .int .i64 g.Heel, .int .i64 g.Pitch], .int .i64 f, .int .i64 t] w fun e w' => ∃ v, e = .returned (.tuple #[v, .int .i64 (gsCode x g f t)]) ∧ Own w.heap.size w' 30 v (gsRow x g f t) ∧ Below w.heap.size w w' := by
  obtain ⟨w3, hw3, D⟩ := box_lg w x g
  replace hw3 := Lib.hid hw3
  replace D := Lib.hid D
  have k1 := Lib.hid (fun w' => validLast_c x w' hn)
  have k2 := Lib.hid (fun w' => implValidGrade_c g w')
  have k3 := Lib.hid (fun w' => isSteps_c f w')
  cases hx : okLast x
  · have hG : glOk x g = false := by unfold glOk; rw [hx]; rfl
    rw [(gs_bad hG).1, (gs_bad hG).2]
    rw [hx] at k1
    clear hn hx hG k2 k3
    obtain ⟨x0, x1, x2, x3, x4, x5⟩ := lastC_cells (D.out.get 1 rfl : Own _ _ _ _ (lastC x))
    obtain ⟨g0, g1, g2, g3, g4⟩ := gradeC_cells (D.out.get 0 rfl : Own _ _ _ _ (gradeC g))
    go_enter Tryz.func17, Tryz.ntmps17
    go_wp2_with (rw [← hw3.out])
    refine (k1.out _).mono ?_
    rintro e w2 ⟨rfl, hb⟩
    replace D := Lib.hid (D.out.later hb)
    clear hb
    clear hw3 k1
    clear x0 x1 x2 x3 x4 x5
    clear g0 g1 g2 g3 g4
    go_wp2_with fail
    go_ret2
    exact ⟨_, rfl, own_nul _ _ _, D.out.up⟩
  cases hg : okGrade g
  · have hG : glOk x g = false := by unfold glOk; rw [hx, hg]; rfl
    rw [(gs_bad hG).1, (gs_bad hG).2]
    rw [hx] at k1
    rw [hg] at k2
    clear hn hx hg hG k3
    obtain ⟨x0, x1, x2, x3, x4, x5⟩ := lastC_cells (D.out.get 1 rfl : Own _ _ _ _ (lastC x))
    obtain ⟨g0, g1, g2, g3, g4⟩ := gradeC_cells (D.out.get 0 rfl : Own _ _ _ _ (gradeC g))
    go_enter Tryz.func17, Tryz.ntmps17
    go_wp2_with (rw [← hw3.out])
    refine (k1.out _).mono ?_
    rintro e w2 ⟨rfl, hb⟩
    replace D := Lib.hid (D.out.later hb)
    clear hb
    clear hw3 k1
    clear x0 x1 x2 x3 x4 x5
    clear g0 g1 g2 g3 g4
    obtain ⟨x0, x1, x2, x3, x4, x5⟩ := lastC_cells (D.out.get 1 rfl : Own _ _ _ _ (lastC x))
    obtain ⟨g0, g1, g2, g3, g4⟩ := gradeC_cells (D.out.get 0 rfl : Own _ _ _ _ (gradeC g))
    go_wp2_with fail
    refine (k2.out _).mono ?_
    rintro e w2 ⟨rfl, hb⟩
    replace D := Lib.hid (D.out.later hb)
    clear hb
    clear k2
    clear x0 x1 x2 x3 x4 x5
    clear g0 g1 g2 g3 g4
    go_wp2_with fail
    go_ret2
    exact ⟨_, rfl, own_nul _ _ _, D.out.up⟩
  have hG : glOk x g = true := by unfold glOk; rw [hx, hg]; rfl
  cases hs : isSt f
  · have hR : gsRng f t = false := by unfold gsRng; rw [hs]; rfl
    rw [(gs_range hG hR).1, (gs_range hG hR).2]
    rw [hx] at k1
    rw [hg] at k2
    rw [hs] at k3
    clear hn hx hg hG hs hR
    obtain ⟨x0, x1, x2, x3, x4, x5⟩ := lastC_cells (D.out.get 1 rfl : Own _ _ _ _ (lastC x))
    obtain ⟨g0, g1, g2, g3, g4⟩ := gradeC_cells (D.out.get 0 rfl : Own _ _ _ _ (gradeC g))
    go_enter Tryz.func17, Tryz.ntmps17
    go_wp2_with (rw [← hw3.out])
    refine (k1.out _).mono ?_
    rintro e w2 ⟨rfl, hb⟩
    replace D := Lib.hid (D.out.later hb)
    clear hb
    clear hw3 k1
    clear x0 x1 x2 x3 x4 x5
    clear g0 g1 g2 g3 g4
    obtain ⟨x0, x1, x2, x3, x4, x5⟩ := lastC_cells (D.out.get 1 rfl : Own _ _ _ _ (lastC x))
    obtain ⟨g0, g1, g2, g3, g4⟩ := gradeC_cells (D.out.get 0 rfl : Own _ _ _ _ (gradeC g))
    go_wp2_with fail
    refine (k2.out _).mono ?_
    rintro e w2 ⟨rfl, hb⟩
    replace D := Lib.hid (D.out.later hb)
    clear hb
    clear k2
    clear x0 x1 x2 x3 x4 x5
    clear g0 g1 g2 g3 g4
    go_wp2_with fail
    refine (k3.out _).mono ?_
    rintro e w' ⟨rfl, rfl⟩
    go_wp2_with fail
    go_ret2
    exact ⟨_, rfl, own_nul _ _ _, D.out.up⟩
  cases hr : inr t f 30
  · have hR : gsRng f t = false := by unfold gsRng; rw [hs, hr]; rfl
    rw [(gs_range hG hR).1, (gs_range hG hR).2]
    rw [hx] at k1
    rw [hg] at k2
    rw [hs] at k3
    clear hn hx hg hG hs hR
    obtain ⟨x0, x1, x2, x3, x4, x5⟩ := lastC_cells (D.out.get 1 rfl : Own _ _ _ _ (lastC x))
    obtain ⟨g0, g1, g2, g3, g4⟩ := gradeC_cells (D.out.get 0 rfl : Own _ _ _ _ (gradeC g))
    go_enter Tryz.func17, Tryz.ntmps17
    go_wp2_with (rw [← hw3.out])
    refine (k1.out _).mono ?_
    rintro e w2 ⟨rfl, hb⟩
    replace D := Lib.hid (D.out.later hb)
    clear hb
    clear hw3 k1
    clear x0 x1 x2 x3 x4 x5
    clear g0 g1 g2 g3 g4
    obtain ⟨x0, x1, x2, x3, x4, x5⟩ := lastC_cells (D.out.get 1 rfl : Own _ _ _ _ (lastC x))
    obtain ⟨g0, g1, g2, g3, g4⟩ := gradeC_cells (D.out.get 0 rfl : Own _ _ _ _ (gradeC g))
    go_wp2_with fail
    refine (k2.out _).mono ?_
    rintro e w2 ⟨rfl, hb⟩
    replace D := Lib.hid (D.out.later hb)
    clear hb
    clear k2
    clear x0 x1 x2 x3 x4 x5
    clear g0 g1 g2 g3 g4
    go_wp2_with fail
    refine (k3.out _).mono ?_
    rintro e w' ⟨rfl, rfl⟩
    go_wp2_with ((with_reducible refine (as_bool hr (within_c _ _ _ _)).mono ?_); rintro e w' ⟨rfl, rfl⟩)
    go_ret2
    exact ⟨_, rfl, own_nul _ _ _, D.out.up⟩
  have hR : gsRng f t = true := by unfold gsRng; rw [hs, hr]; rfl
  have hrn : (-30 ≤ f ∧ f ≤ 30) ∧ (f ≤ t ∧ t ≤ 30) := ⟨isSt_iff.1 hs, inr_true.1 hr⟩
  have k4 := Lib.hid (fun k w' (hk : -30 ≤ k ∧ k ≤ 30) => gradeLast_c x g k w' hx hg hk)
  have k5 := Lib.hid (fun (k : Int) w' => validLast_c (gLast x g k) w' hn)
  have fF := Lib.hid (fun h => gs_full (f := f) (t := t) hG hR h)
  have fO := Lib.hid (fun ys h => gs_ok (f := f) (t := t) (ys := ys) hG hR h)
  obtain ⟨C, hC⟩ : ∃ C, C = gsCode x g f t := ⟨_, rfl⟩
  obtain ⟨Y, hY⟩ : ∃ Y, Y = gsRow x g f t := ⟨_, rfl⟩
  rw [← hC, ← hY]
  rw [← hC, ← hY] at fF fO
  clear hC hY
  obtain ⟨R, hR0⟩ : ∃ R, R = gsAll x g f t := ⟨_, rfl⟩
  rw [← hR0] at fF fO
  have hR1 : Hid (R = (gsTo x g (t + 1 - f).toNat f).map (([] : List Last) ++ ·)) := Lib.hid (by rw [hR0]; unfold gsAll; cases gsTo x g (t + 1 - f).toNat f <;> simp)
  rw [hx] at k1
  rw [hg] at k2
  rw [hs] at k3
  clear hn hx hg hG hs hR hR0
  obtain ⟨x0, x1, x2, x3, x4, x5⟩ := lastC_cells (D.out.get 1 rfl : Own _ _ _ _ (lastC x))
  obtain ⟨g0, g1, g2, g3, g4⟩ := gradeC_cells (D.out.get 0 rfl : Own _ _ _ _ (gradeC g))
  go_enter Tryz.func17, Tryz.ntmps17
  go_wp2_with (rw [← hw3.out])
  refine (k1.out _).mono ?_
  rintro e w2 ⟨rfl, hb⟩
  replace D := Lib.hid (D.out.later hb)
  clear hb
  clear hw3 k1
  clear x0 x1 x2 x3 x4 x5
  clear g0 g1 g2 g3 g4
  obtain ⟨x0, x1, x2, x3, x4, x5⟩ := lastC_cells (D.out.get 1 rfl : Own _ _ _ _ (lastC x))
  obtain ⟨g0, g1, g2, g3, g4⟩ := gradeC_cells (D.out.get 0 rfl : Own _ _ _ _ (gradeC g))
  go_wp2_with fail
  refine (k2.out _).mono ?_
  rintro e w2 ⟨rfl, hb⟩
  replace D := Lib.hid (D.out.later hb)
  clear hb
  clear k2
  clear x0 x1 x2 x3 x4 x5
  clear g0 g1 g2 g3 g4
  go_wp2_with fail
  refine (k3.out _).mono ?_
  rintro e w' ⟨rfl, rfl⟩
  go_wp2_with ((with_reducible refine (as_bool hr (within_c _ _ _ _)).mono ?_); rintro e w' ⟨rfl, rfl⟩)
  obtain ⟨bx, hbx⟩ : ∃ b, b = w2.heap.size := ⟨_, rfl⟩
  have hb := newB w2 (.cells #[] 30)
  replace D := Lib.hid (D.out.add hb (own_emp (α := Last) w2 30))
  clear hb
  go_loopw [10, 11, 12] (fun u10 u11 _ wr => ∃ (k : Int) (d : Nat) (acc : List Last) (v : Value), u10 = v ∧ u11 = .int .i64 k ∧ Hid (f ≤ k ∧ k = t + 1 - d) ∧ acc.length + d ≤ 61 ∧ Hid (R = (gsTo x g d k).map (acc ++ ·)) ∧ Hid (Sp w wr [ite' 30 v acc, ite' 42 (.slice (some ⟨w.heap.size + 1, 0, none⟩) 5 5) (gradeC g), ite' 30 (.slice (some ⟨w.heap.size, 0, none⟩) 6 6) (lastC x)])) (fun u10 u11 _ _ => (t + 1 - intOf u11).toNat)
  case atStart => exact ⟨f, (t + 1 - f).toNat, [], _, rfl, rfl, Lib.hid ⟨by omega, by omega⟩, by simp; omega, hR1, D⟩
  case round =>
    clear D hR1 hbx bx
    obtain ⟨k, d, acc, v, rfl, rfl, hK, hlen, hR, D⟩ := hrel
    have hk1 := hK.out.1
    by_cases hkt : k ≤ t
    · obtain ⟨d, rfl⟩ : ∃ d', d = d' + 1 := ⟨d - 1, by have := hK.out; omega⟩
      have c4 := Lib.hid (fun w' => k4.out k w' (by omega))
      have c5 := Lib.hid (fun w' => k5.out k w')
      have hkw : IntKind.i64.wrap (k + 1) = k + 1 := IntWalk.i64_in _ (by omega)
      obtain ⟨wa, hwa⟩ : ∃ wo : World, wo = wr := ⟨_, rfl⟩
      subst hwa
      cases hy : okLast (gLast x g k)
      · have hRn : R = none := hR.out.trans (by rw [gsTo_bad hy]; rfl)
        obtain ⟨hC, hY⟩ := fF.out hRn
        subst hC
        subst hY
        rw [hy] at c5
        generalize gLast x g k = y at *
        clear k4 k5 fF fO hR hRn hy
        obtain ⟨x0, x1, x2, x3, x4, x5⟩ := lastC_cells (D.out.get 2 rfl : Own _ _ _ _ (lastC x))
        obtain ⟨g0, g1, g2, g3, g4⟩ := gradeC_cells (D.out.get 1 rfl : Own _ _ _ _ (gradeC g))
        go_wp2_with fail
        refine (c4.out _).mono ?_
        rintro e w2 ⟨rfl, hb⟩
        replace D := Lib.hid (D.out.later hb)
        clear hb
        clear x0 x1 x2 x3 x4 x5
        clear g0 g1 g2 g3 g4
        obtain ⟨wn, hwn⟩ : ∃ wn, wn = w2.alloc (.cells #[.string y.Name, .int .i64 y.Length, .int .i64 y.Ball, .int .i64 y.Instep, .int .i64 y.Heel, .int .i64 y.Pitch] 30) := ⟨_, rfl⟩
        replace D := Lib.hid (D.out.add (w' := wn) (by rw [hwn]; exact newB w2 _) (by rw [hwn]; exact own_lastC w2 30 y))
        replace hwn := Lib.hid hwn
        obtain ⟨y0, y1, y2, y3, y4, y5⟩ := lastC_cells (D.out.get 0 rfl : Own _ _ _ _ (lastC y))
        obtain ⟨ny, hny⟩ : ∃ b, b = w2.heap.size := ⟨_, rfl⟩
        go_wp2_with (rw [← hwn.out])
        clear y0 y1 y2 y3 y4 y5
        rw [← hny] at D ⊢
        clear hny hwn w2
        refine (c5.out _).mono ?_
        rintro e w2 ⟨rfl, hb⟩
        replace D := Lib.hid (D.out.later hb)
        clear hb
        go_wp2_with fail
        go_ret2
        exact ⟨_, rfl, own_nul _ _ _, D.out.up⟩
      · have hR2 := Lib.hid (hR.out.trans (gsTo_acc hy (acc := acc)))
        rw [hy] at c5
        have hla : Hid ((acc ++ [gLast x g k]).length + d ≤ 61) := Lib.hid (by simp; omega)
        generalize gLast x g k = y at *
        clear hR hy
        obtain ⟨x0, x1, x2, x3, x4, x5⟩ := lastC_cells (D.out.get 2 rfl : Own _ _ _ _ (lastC x))
        obtain ⟨g0, g1, g2, g3, g4⟩ := gradeC_cells (D.out.get 1 rfl : Own _ _ _ _ (gradeC g))
        go_wp2_with fail
        refine (c4.out _).mono ?_
        rintro e w2 ⟨rfl, hb⟩
        replace D := Lib.hid (D.out.later hb)
        clear hb
        clear x0 x1 x2 x3 x4 x5
        clear g0 g1 g2 g3 g4
        obtain ⟨wn, hwn⟩ : ∃ wn, wn = w2.alloc (.cells #[.string y.Name, .int .i64 y.Length, .int .i64 y.Ball, .int .i64 y.Instep, .int .i64 y.Heel, .int .i64 y.Pitch] 30) := ⟨_, rfl⟩
        replace D := Lib.hid (D.out.add (w' := wn) (by rw [hwn]; exact newB w2 _) (by rw [hwn]; exact own_lastC w2 30 y))
        replace hwn := Lib.hid hwn
        obtain ⟨y0, y1, y2, y3, y4, y5⟩ := lastC_cells (D.out.get 0 rfl : Own _ _ _ _ (lastC y))
        obtain ⟨ny, hny⟩ : ∃ b, b = w2.heap.size := ⟨_, rfl⟩
        go_wp2_with (rw [← hwn.out])
        clear y0 y1 y2 y3 y4 y5
        rw [← hny] at D ⊢
        clear hny hwn w2
        refine (c5.out _).mono ?_
        rintro e w2 ⟨rfl, hb⟩
        replace D := Lib.hid (D.out.later hb)
        clear hb
        obtain ⟨y0, y1, y2, y3, y4, y5⟩ := lastC_cells (D.out.get 0 rfl : Own _ _ _ _ (lastC y))
        go_wp2_with (at_builtin; refine wpList_pushTo rfl (.tmp 46) (.tmp 48) 27 rfl w.heap.size 30 (.agg #[.string ByteArray.empty, .int .i64 0, .int .i64 0, .int .i64 0, .int .i64 0, .int .i64 0]) 56 Tryz.underlying27 infoLast rfl _ acc y rfl ((D.out.get 1 rfl : Own _ _ _ _ acc).later (newB _ _)) _ _ rfl 30 (heap_alloc_new _ _) (by omega) (by decide) (by have := D.out.up.size; simp; omega) ?_; intro g' cap w5 hO5 hg5 hl5)
        have D5 := ((D.out.later (newB _ _)).push 1 rfl hO5 hg5 hl5).tail
        go_roundw
        case rel => exact ⟨k + 1, d, acc ++ [y], _, rfl, by first | rfl | go_num, Lib.hid ⟨by omega, by have := hK.out; omega⟩, hla.out, hR2, Lib.hid D5⟩
        case measure => first | (simp [intOf]; done) | (simp [intOf]; omega)
    · obtain rfl : d = 0 := by have := hK.out; omega
      have hRs : R = some acc := hR.out.trans (by simp [gsTo])
      obtain ⟨hC, hY⟩ := fO.out _ hRs
      subst hC
      subst hY
      go_wp2_with fail
      go_ret2
      exact ⟨_, rfl, D.out.get 0 rfl, D.out.up⟩
set_option maxRecDepth 100000 in
set_option maxHeartbeats 4000000 in
theorem specGradeSet_c (x : Last) (g : Grade) (f t : Int) (w : World) (hn : x.Name.size ≤ 9223372036854775807) :
    Calls Tryz.prog 18 #[.agg #[.string x.Name, .int .i64 x.Length, .int .i64 x.Ball, .int .i64 x.Instep, .int .i64 x.Heel, .int .i64 x.Pitch], .agg #[.int .i64 g.Length, .int .i64 g.Ball, .int .i64 g.Instep, .int .i64 g.Heel, .int .i64 g.Pitch], .int .i64 f, .int .i64 t] w fun e w' => ∃ v, e = .returned (.tuple #[v, .int .i64 (gsCode x g f t)]) ∧ Own w.heap.size w' 30 v (gsRow x g f t) ∧ Below w.heap.size w w' := by
  obtain ⟨w3, hw3, D⟩ := box_lg w x g
  replace hw3 := Lib.hid hw3
  replace D := Lib.hid D
  have k1 := Lib.hid (fun w' => l04One_c x w' hn)
  have k2 := Lib.hid (fun w' => l05Ok_c g w')
  have k3 := Lib.hid (fun w' => l05Steps_c f w')
  cases hx : okLast x
  · have hG : glOk x g = false := by unfold glOk; rw [hx]; rfl
    rw [(gs_bad hG).1, (gs_bad hG).2]
    rw [hx] at k1
    clear hn hx hG k2 k3
    obtain ⟨x0, x1, x2, x3, x4, x5⟩ := lastC_cells (D.out.get 1 rfl : Own _ _ _ _ (lastC x))
    obtain ⟨g0, g1, g2, g3, g4⟩ := gradeC_cells (D.out.get 0 rfl : Own _ _ _ _ (gradeC g))
    go_enter Tryz.func18, Tryz.ntmps18
    go_wp2_with (rw [← hw3.out])
    refine (k1.out _).mono ?_
    rintro e w2 ⟨rfl, hb⟩
    replace D := Lib.hid (D.out.later hb)
    clear hb
    clear hw3 k1
    clear x0 x1 x2 x3 x4 x5
    clear g0 g1 g2 g3 g4
    go_wp2_with fail
    go_ret2
    exact ⟨_, rfl, own_nul _ _ _, D.out.up⟩
  cases hg : okGrade g
  · have hG : glOk x g = false := by unfold glOk; rw [hx, hg]; rfl
    rw [(gs_bad hG).1, (gs_bad hG).2]
    rw [hx] at k1
    rw [hg] at k2
    clear hn hx hg hG k3
    obtain ⟨x0, x1, x2, x3, x4, x5⟩ := lastC_cells (D.out.get 1 rfl : Own _ _ _ _ (lastC x))
    obtain ⟨g0, g1, g2, g3, g4⟩ := gradeC_cells (D.out.get 0 rfl : Own _ _ _ _ (gradeC g))
    go_enter Tryz.func18, Tryz.ntmps18
    go_wp2_with (rw [← hw3.out])
    refine (k1.out _).mono ?_
    rintro e w2 ⟨rfl, hb⟩
    replace D := Lib.hid (D.out.later hb)
    clear hb
    clear hw3 k1
    clear x0 x1 x2 x3 x4 x5
    clear g0 g1 g2 g3 g4
    obtain ⟨x0, x1, x2, x3, x4, x5⟩ := lastC_cells (D.out.get 1 rfl : Own _ _ _ _ (lastC x))
    obtain ⟨g0, g1, g2, g3, g4⟩ := gradeC_cells (D.out.get 0 rfl : Own _ _ _ _ (gradeC g))
    go_wp2_with fail
    refine (k2.out _).mono ?_
    rintro e w2 ⟨rfl, hb⟩
    replace D := Lib.hid (D.out.later hb)
    clear hb
    clear k2
    clear x0 x1 x2 x3 x4 x5
    clear g0 g1 g2 g3 g4
    go_wp2_with fail
    go_ret2
    exact ⟨_, rfl, own_nul _ _ _, D.out.up⟩
  have hG : glOk x g = true := by unfold glOk; rw [hx, hg]; rfl
  cases hs : isSt f
  · have hR : gsRng f t = false := by unfold gsRng; rw [hs]; rfl
    rw [(gs_range hG hR).1, (gs_range hG hR).2]
    rw [hx] at k1
    rw [hg] at k2
    rw [hs] at k3
    clear hn hx hg hG hs hR
    obtain ⟨x0, x1, x2, x3, x4, x5⟩ := lastC_cells (D.out.get 1 rfl : Own _ _ _ _ (lastC x))
    obtain ⟨g0, g1, g2, g3, g4⟩ := gradeC_cells (D.out.get 0 rfl : Own _ _ _ _ (gradeC g))
    go_enter Tryz.func18, Tryz.ntmps18
    go_wp2_with (rw [← hw3.out])
    refine (k1.out _).mono ?_
    rintro e w2 ⟨rfl, hb⟩
    replace D := Lib.hid (D.out.later hb)
    clear hb
    clear hw3 k1
    clear x0 x1 x2 x3 x4 x5
    clear g0 g1 g2 g3 g4
    obtain ⟨x0, x1, x2, x3, x4, x5⟩ := lastC_cells (D.out.get 1 rfl : Own _ _ _ _ (lastC x))
    obtain ⟨g0, g1, g2, g3, g4⟩ := gradeC_cells (D.out.get 0 rfl : Own _ _ _ _ (gradeC g))
    go_wp2_with fail
    refine (k2.out _).mono ?_
    rintro e w2 ⟨rfl, hb⟩
    replace D := Lib.hid (D.out.later hb)
    clear hb
    clear k2
    clear x0 x1 x2 x3 x4 x5
    clear g0 g1 g2 g3 g4
    go_wp2_with fail
    refine (k3.out _).mono ?_
    rintro e w' ⟨rfl, rfl⟩
    go_wp2_with fail
    go_ret2
    exact ⟨_, rfl, own_nul _ _ _, D.out.up⟩
  cases hr : inr t f 30
  · have hR : gsRng f t = false := by unfold gsRng; rw [hs, hr]; rfl
    rw [(gs_range hG hR).1, (gs_range hG hR).2]
    rw [hx] at k1
    rw [hg] at k2
    rw [hs] at k3
    clear hn hx hg hG hs hR
    obtain ⟨x0, x1, x2, x3, x4, x5⟩ := lastC_cells (D.out.get 1 rfl : Own _ _ _ _ (lastC x))
    obtain ⟨g0, g1, g2, g3, g4⟩ := gradeC_cells (D.out.get 0 rfl : Own _ _ _ _ (gradeC g))
    go_enter Tryz.func18, Tryz.ntmps18
    go_wp2_with (rw [← hw3.out])
    refine (k1.out _).mono ?_
    rintro e w2 ⟨rfl, hb⟩
    replace D := Lib.hid (D.out.later hb)
    clear hb
    clear hw3 k1
    clear x0 x1 x2 x3 x4 x5
    clear g0 g1 g2 g3 g4
    obtain ⟨x0, x1, x2, x3, x4, x5⟩ := lastC_cells (D.out.get 1 rfl : Own _ _ _ _ (lastC x))
    obtain ⟨g0, g1, g2, g3, g4⟩ := gradeC_cells (D.out.get 0 rfl : Own _ _ _ _ (gradeC g))
    go_wp2_with fail
    refine (k2.out _).mono ?_
    rintro e w2 ⟨rfl, hb⟩
    replace D := Lib.hid (D.out.later hb)
    clear hb
    clear k2
    clear x0 x1 x2 x3 x4 x5
    clear g0 g1 g2 g3 g4
    go_wp2_with fail
    refine (k3.out _).mono ?_
    rintro e w' ⟨rfl, rfl⟩
    go_wp2_with ((with_reducible refine (as_bool hr (l00In_c _ _ _ _)).mono ?_); rintro e w' ⟨rfl, rfl⟩)
    go_ret2
    exact ⟨_, rfl, own_nul _ _ _, D.out.up⟩
  have hR : gsRng f t = true := by unfold gsRng; rw [hs, hr]; rfl
  have hrn : (-30 ≤ f ∧ f ≤ 30) ∧ (f ≤ t ∧ t ≤ 30) := ⟨isSt_iff.1 hs, inr_true.1 hr⟩
  have k4 := Lib.hid (fun k w' (hk : -30 ≤ k ∧ k ≤ 30) => l05Last_c x g k w' hx hg hk)
  have k5 := Lib.hid (fun (k : Int) w' => l04One_c (gLast x g k) w' hn)
  have fF := Lib.hid (fun h => gs_full (f := f) (t := t) hG hR h)
  have fO := Lib.hid (fun ys h => gs_ok (f := f) (t := t) (ys := ys) hG hR h)
  obtain ⟨C, hC⟩ : ∃ C, C = gsCode x g f t := ⟨_, rfl⟩
  obtain ⟨Y, hY⟩ : ∃ Y, Y = gsRow x g f t := ⟨_, rfl⟩
  rw [← hC, ← hY]
  rw [← hC, ← hY] at fF fO
  clear hC hY
  obtain ⟨R, hR0⟩ : ∃ R, R = gsAll x g f t := ⟨_, rfl⟩
  rw [← hR0] at fF fO
  have hR1 : Hid (R = (gsTo x g (t + 1 - f).toNat f).map (([] : List Last) ++ ·)) := Lib.hid (by rw [hR0]; unfold gsAll; cases gsTo x g (t + 1 - f).toNat f <;> simp)
  rw [hx] at k1
  rw [hg] at k2
  rw [hs] at k3
  clear hn hx hg hG hs hR hR0
  obtain ⟨x0, x1, x2, x3, x4, x5⟩ := lastC_cells (D.out.get 1 rfl : Own _ _ _ _ (lastC x))
  obtain ⟨g0, g1, g2, g3, g4⟩ := gradeC_cells (D.out.get 0 rfl : Own _ _ _ _ (gradeC g))
  go_enter Tryz.func18, Tryz.ntmps18
  go_wp2_with (rw [← hw3.out])
  refine (k1.out _).mono ?_
  rintro e w2 ⟨rfl, hb⟩
  replace D := Lib.hid (D.out.later hb)
  clear hb
  clear hw3 k1
  clear x0 x1 x2 x3 x4 x5
  clear g0 g1 g2 g3 g4
  obtain ⟨x0, x1, x2, x3, x4, x5⟩ := lastC_cells (D.out.get 1 rfl : Own _ _ _ _ (lastC x))
  obtain ⟨g0, g1, g2, g3, g4⟩ := gradeC_cells (D.out.get 0 rfl : Own _ _ _ _ (gradeC g))
  go_wp2_with fail
  refine (k2.out _).mono ?_
  rintro e w2 ⟨rfl, hb⟩
  replace D := Lib.hid (D.out.later hb)
  clear hb
  clear k2
  clear x0 x1 x2 x3 x4 x5
  clear g0 g1 g2 g3 g4
  go_wp2_with fail
  refine (k3.out _).mono ?_
  rintro e w' ⟨rfl, rfl⟩
  go_wp2_with ((with_reducible refine (as_bool hr (l00In_c _ _ _ _)).mono ?_); rintro e w' ⟨rfl, rfl⟩)
  obtain ⟨bx, hbx⟩ : ∃ b, b = w2.heap.size := ⟨_, rfl⟩
  have hb := newB w2 (.cells #[] 30)
  replace D := Lib.hid (D.out.add hb (own_emp (α := Last) w2 30))
  clear hb
  go_loopw [10, 11, 12] (fun u10 u11 _ wr => ∃ (k : Int) (d : Nat) (acc : List Last) (v : Value), u10 = v ∧ u11 = .int .i64 k ∧ Hid (f ≤ k ∧ k = t + 1 - d) ∧ acc.length + d ≤ 61 ∧ Hid (R = (gsTo x g d k).map (acc ++ ·)) ∧ Hid (Sp w wr [ite' 30 v acc, ite' 42 (.slice (some ⟨w.heap.size + 1, 0, none⟩) 5 5) (gradeC g), ite' 30 (.slice (some ⟨w.heap.size, 0, none⟩) 6 6) (lastC x)])) (fun u10 u11 _ _ => (t + 1 - intOf u11).toNat)
  case atStart => exact ⟨f, (t + 1 - f).toNat, [], _, rfl, rfl, Lib.hid ⟨by omega, by omega⟩, by simp; omega, hR1, D⟩
  case round =>
    clear D hR1 hbx bx
    obtain ⟨k, d, acc, v, rfl, rfl, hK, hlen, hR, D⟩ := hrel
    have hk1 := hK.out.1
    by_cases hkt : k ≤ t
    · obtain ⟨d, rfl⟩ : ∃ d', d = d' + 1 := ⟨d - 1, by have := hK.out; omega⟩
      have c4 := Lib.hid (fun w' => k4.out k w' (by omega))
      have c5 := Lib.hid (fun w' => k5.out k w')
      have hkw : IntKind.i64.wrap (k + 1) = k + 1 := IntWalk.i64_in _ (by omega)
      obtain ⟨wa, hwa⟩ : ∃ wo : World, wo = wr := ⟨_, rfl⟩
      subst hwa
      cases hy : okLast (gLast x g k)
      · have hRn : R = none := hR.out.trans (by rw [gsTo_bad hy]; rfl)
        obtain ⟨hC, hY⟩ := fF.out hRn
        subst hC
        subst hY
        rw [hy] at c5
        generalize gLast x g k = y at *
        clear k4 k5 fF fO hR hRn hy
        obtain ⟨x0, x1, x2, x3, x4, x5⟩ := lastC_cells (D.out.get 2 rfl : Own _ _ _ _ (lastC x))
        obtain ⟨g0, g1, g2, g3, g4⟩ := gradeC_cells (D.out.get 1 rfl : Own _ _ _ _ (gradeC g))
        go_wp2_with fail
        refine (c4.out _).mono ?_
        rintro e w2 ⟨rfl, hb⟩
        replace D := Lib.hid (D.out.later hb)
        clear hb
        clear x0 x1 x2 x3 x4 x5
        clear g0 g1 g2 g3 g4
        obtain ⟨wn, hwn⟩ : ∃ wn, wn = w2.alloc (.cells #[.string y.Name, .int .i64 y.Length, .int .i64 y.Ball, .int .i64 y.Instep, .int .i64 y.Heel, .int .i64 y.Pitch] 30) := ⟨_, rfl⟩
        replace D := Lib.hid (D.out.add (w' := wn) (by rw [hwn]; exact newB w2 _) (by rw [hwn]; exact own_lastC w2 30 y))
        replace hwn := Lib.hid hwn
        obtain ⟨y0, y1, y2, y3, y4, y5⟩ := lastC_cells (D.out.get 0 rfl : Own _ _ _ _ (lastC y))
        obtain ⟨ny, hny⟩ : ∃ b, b = w2.heap.size := ⟨_, rfl⟩
        go_wp2_with (rw [← hwn.out])
        clear y0 y1 y2 y3 y4 y5
        rw [← hny] at D ⊢
        clear hny hwn w2
        refine (c5.out _).mono ?_
        rintro e w2 ⟨rfl, hb⟩
        replace D := Lib.hid (D.out.later hb)
        clear hb
        go_wp2_with fail
        go_ret2
        exact ⟨_, rfl, own_nul _ _ _, D.out.up⟩
      · have hR2 := Lib.hid (hR.out.trans (gsTo_acc hy (acc := acc)))
        rw [hy] at c5
        have hla : Hid ((acc ++ [gLast x g k]).length + d ≤ 61) := Lib.hid (by simp; omega)
        generalize gLast x g k = y at *
        clear hR hy
        obtain ⟨x0, x1, x2, x3, x4, x5⟩ := lastC_cells (D.out.get 2 rfl : Own _ _ _ _ (lastC x))
        obtain ⟨g0, g1, g2, g3, g4⟩ := gradeC_cells (D.out.get 1 rfl : Own _ _ _ _ (gradeC g))
        go_wp2_with fail
        refine (c4.out _).mono ?_
        rintro e w2 ⟨rfl, hb⟩
        replace D := Lib.hid (D.out.later hb)
        clear hb
        clear x0 x1 x2 x3 x4 x5
        clear g0 g1 g2 g3 g4
        obtain ⟨wn, hwn⟩ : ∃ wn, wn = w2.alloc (.cells #[.string y.Name, .int .i64 y.Length, .int .i64 y.Ball, .int .i64 y.Instep, .int .i64 y.Heel, .int .i64 y.Pitch] 30) := ⟨_, rfl⟩
        replace D := Lib.hid (D.out.add (w' := wn) (by rw [hwn]; exact newB w2 _) (by rw [hwn]; exact own_lastC w2 30 y))
        replace hwn := Lib.hid hwn
        obtain ⟨y0, y1, y2, y3, y4, y5⟩ := lastC_cells (D.out.get 0 rfl : Own _ _ _ _ (lastC y))
        obtain ⟨ny, hny⟩ : ∃ b, b = w2.heap.size := ⟨_, rfl⟩
        go_wp2_with (rw [← hwn.out])
        clear y0 y1 y2 y3 y4 y5
        rw [← hny] at D ⊢
        clear hny hwn w2
        refine (c5.out _).mono ?_
        rintro e w2 ⟨rfl, hb⟩
        replace D := Lib.hid (D.out.later hb)
        clear hb
        obtain ⟨y0, y1, y2, y3, y4, y5⟩ := lastC_cells (D.out.get 0 rfl : Own _ _ _ _ (lastC y))
        go_wp2_with (at_builtin; refine wpList_pushTo rfl (.tmp 44) (.tmp 46) 27 rfl w.heap.size 30 (.agg #[.string ByteArray.empty, .int .i64 0, .int .i64 0, .int .i64 0, .int .i64 0, .int .i64 0]) 56 Tryz.underlying27 infoLast rfl _ acc y rfl ((D.out.get 1 rfl : Own _ _ _ _ acc).later (newB _ _)) _ _ rfl 30 (heap_alloc_new _ _) (by omega) (by decide) (by have := D.out.up.size; simp; omega) ?_; intro g' cap w5 hO5 hg5 hl5)
        have D5 := ((D.out.later (newB _ _)).push 1 rfl hO5 hg5 hl5).tail
        go_roundw
        case rel => exact ⟨k + 1, d, acc ++ [y], _, rfl, by first | rfl | go_num, Lib.hid ⟨by omega, by have := hK.out; omega⟩, hla.out, hR2, Lib.hid D5⟩
        case measure => first | (simp [intOf]; done) | (simp [intOf]; omega)
    · obtain rfl : d = 0 := by have := hK.out; omega
      have hRs : R = some acc := hR.out.trans (by simp [gsTo])
      obtain ⟨hC, hY⟩ := fO.out _ hRs
      subst hC
      subst hY
      go_wp2_with fail
      go_ret2
      exact ⟨_, rfl, D.out.get 0 rfl, D.out.up⟩
set_option maxRecDepth 100000 in
set_option maxHeartbeats 4000000 in
theorem implStepsFor_c (x : Last) (g : Grade) (n : Int) (w : World) (hn : x.Name.size ≤ 9223372036854775807) :
    Calls Tryz.prog 26 #[.agg #[.string x.Name, .int .i64 x.Length, .int .i64 x.Ball, .int .i64 x.Instep, .int .i64 x.Heel, .int .i64 x.Pitch], .agg #[.int .i64 g.Length, .int .i64 g.Ball, .int .i64 g.Instep, .int .i64 g.Heel, .int .i64 g.Pitch], .int .i64 n] w fun e w' => e = .returned (.tuple #[.int .i64 (sfRes x g n), .int .i64 (sfCode x g n)]) ∧ Below w.heap.size w w' := by
  obtain ⟨w3, hw3, D⟩ := box_lg w x g
  replace hw3 := Lib.hid hw3
  replace D := Lib.hid D
  have k1 := Lib.hid (fun w' => validLast_c x w' hn)
  have k2 := Lib.hid (fun w' => implValidGrade_c g w')
  cases hx : okLast x
  · have hG : glOk x g = false := by unfold glOk; rw [hx]; rfl
    rw [(sf_bad hG).1, (sf_bad hG).2]
    rw [hx] at k1
    clear hn hx hG k2
    obtain ⟨x0, x1, x2, x3, x4, x5⟩ := lastC_cells (D.out.get 1 rfl : Own _ _ _ _ (lastC x))
    obtain ⟨g0, g1, g2, g3, g4⟩ := gradeC_cells (D.out.get 0 rfl : Own _ _ _ _ (gradeC g))
    go_enter Tryz.func26, Tryz.ntmps26
    go_wp2_with (rw [← hw3.out])
    refine (k1.out _).mono ?_
    rintro e w2 ⟨rfl, hb⟩
    replace D := Lib.hid (D.out.later hb)
    clear hb
    clear hw3 k1
    clear x0 x1 x2 x3 x4 x5
    clear g0 g1 g2 g3 g4
    go_wp2_with fail
    go_ret2
    exact ⟨rfl, D.out.up⟩
  cases hg : okGrade g
  · have hG : glOk x g = false := by unfold glOk; rw [hx, hg]; rfl
    rw [(sf_bad hG).1, (sf_bad hG).2]
    rw [hx] at k1
    rw [hg] at k2
    clear hn hx hg hG
    obtain ⟨x0, x1, x2, x3, x4, x5⟩ := lastC_cells (D.out.get 1 rfl : Own _ _ _ _ (lastC x))
    obtain ⟨g0, g1, g2, g3, g4⟩ := gradeC_cells (D.out.get 0 rfl : Own _ _ _ _ (gradeC g))
    go_enter Tryz.func26, Tryz.ntmps26
    go_wp2_with (rw [← hw3.out])
    refine (k1.out _).mono ?_
    rintro e w2 ⟨rfl, hb⟩
    replace D := Lib.hid (D.out.later hb)
    clear hb
    clear hw3 k1
    clear x0 x1 x2 x3 x4 x5
    clear g0 g1 g2 g3 g4
    obtain ⟨x0, x1, x2, x3, x4, x5⟩ := lastC_cells (D.out.get 1 rfl : Own _ _ _ _ (lastC x))
    obtain ⟨g0, g1, g2, g3, g4⟩ := gradeC_cells (D.out.get 0 rfl : Own _ _ _ _ (gradeC g))
    go_wp2_with fail
    refine (k2.out _).mono ?_
    rintro e w2 ⟨rfl, hb⟩
    replace D := Lib.hid (D.out.later hb)
    clear hb
    clear k2
    clear x0 x1 x2 x3 x4 x5
    clear g0 g1 g2 g3 g4
    go_wp2_with fail
    go_ret2
    exact ⟨rfl, D.out.up⟩
  have hG : glOk x g = true := by unfold glOk; rw [hx, hg]; rfl
  cases hs : inr n 500 5000
  · rw [(sf_range hG hs).1, (sf_range hG hs).2]
    rw [hx] at k1
    rw [hg] at k2
    clear hn hx hg hG
    obtain ⟨x0, x1, x2, x3, x4, x5⟩ := lastC_cells (D.out.get 1 rfl : Own _ _ _ _ (lastC x))
    obtain ⟨g0, g1, g2, g3, g4⟩ := gradeC_cells (D.out.get 0 rfl : Own _ _ _ _ (gradeC g))
    go_enter Tryz.func26, Tryz.ntmps26
    go_wp2_with (rw [← hw3.out])
    refine (k1.out _).mono ?_
    rintro e w2 ⟨rfl, hb⟩
    replace D := Lib.hid (D.out.later hb)
    clear hb
    clear hw3 k1
    clear x0 x1 x2 x3 x4 x5
    clear g0 g1 g2 g3 g4
    obtain ⟨x0, x1, x2, x3, x4, x5⟩ := lastC_cells (D.out.get 1 rfl : Own _ _ _ _ (lastC x))
    obtain ⟨g0, g1, g2, g3, g4⟩ := gradeC_cells (D.out.get 0 rfl : Own _ _ _ _ (gradeC g))
    go_wp2_with fail
    refine (k2.out _).mono ?_
    rintro e w2 ⟨rfl, hb⟩
    replace D := Lib.hid (D.out.later hb)
    clear hb
    clear k2
    clear x0 x1 x2 x3 x4 x5
    clear g0 g1 g2 g3 g4
    go_wp2_with ((with_reducible refine (as_bool hs (isMeasure_c _ _)).mono ?_); rintro e w' ⟨rfl, rfl⟩)
    go_ret2
    exact ⟨rfl, D.out.up⟩
  have k4 := Lib.hid (fun k w' (hk : -30 ≤ k ∧ k ≤ 30) => gradeLast_c x g k w' hx hg hk)
  have fN := Lib.hid (fun h => sf_none hG hs h)
  have fO := Lib.hid (fun k h => sf_some (k := k) hG hs h)
  obtain ⟨C, hC⟩ : ∃ C, C = sfCode x g n := ⟨_, rfl⟩
  obtain ⟨Y, hY⟩ : ∃ Y, Y = sfRes x g n := ⟨_, rfl⟩
  rw [← hC, ← hY]
  rw [← hC, ← hY] at fN fO
  clear hC hY
  obtain ⟨R, hR0⟩ : ∃ R, R = sfAll x g n := ⟨_, rfl⟩
  rw [← hR0] at fN fO
  unfold sfAll at hR0
  replace hR0 := Lib.hid hR0
  rw [hx] at k1
  rw [hg] at k2
  clear hn hx hg hG
  obtain ⟨x0, x1, x2, x3, x4, x5⟩ := lastC_cells (D.out.get 1 rfl : Own _ _ _ _ (lastC x))
  obtain ⟨g0, g1, g2, g3, g4⟩ := gradeC_cells (D.out.get 0 rfl : Own _ _ _ _ (gradeC g))
  go_enter Tryz.func26, Tryz.ntmps26
  go_wp2_with (rw [← hw3.out])
  refine (k1.out _).mono ?_
  rintro e w2 ⟨rfl, hb⟩
  replace D := Lib.hid (D.out.later hb)
  clear hb
  clear hw3 k1
  clear x0 x1 x2 x3 x4 x5
  clear g0 g1 g2 g3 g4
  obtain ⟨x0, x1, x2, x3, x4, x5⟩ := lastC_cells (D.out.get 1 rfl : Own _ _ _ _ (lastC x))
  obtain ⟨g0, g1, g2, g3, g4⟩ := gradeC_cells (D.out.get 0 rfl : Own _ _ _ _ (gradeC g))
  go_wp2_with fail
  refine (k2.out _).mono ?_
  rintro e w2 ⟨rfl, hb⟩
  replace D := Lib.hid (D.out.later hb)
  clear hb
  clear k2
  clear x0 x1 x2 x3 x4 x5
  clear g0 g1 g2 g3 g4
  go_wp2_with ((with_reducible refine (as_bool hs (isMeasure_c _ _)).mono ?_); rintro e w' ⟨rfl, rfl⟩)
  go_loopw [8] (fun u8 wr => ∃ (k : Int) (d : Nat), u8 = .int .i64 k ∧ Hid (k = 31 - d ∧ d ≤ 61) ∧ Hid (R = sfFrom x g n d k) ∧ Hid (Sp w wr [ite' 42 (.slice (some ⟨w.heap.size + 1, 0, none⟩) 5 5) (gradeC g), ite' 30 (.slice (some ⟨w.heap.size, 0, none⟩) 6 6) (lastC x)])) (fun u8 _ => (31 - intOf u8).toNat)
  case atStart => exact ⟨-30, 61, rfl, Lib.hid ⟨by omega, by omega⟩, hR0, D⟩
  case round =>
    clear D hR0
    obtain ⟨k, d, rfl, hK, hR, D⟩ := hrel
    have hk1 : -30 ≤ k ∧ k ≤ 31 := by have := hK.out; omega
    by_cases hkt : k ≤ 30
    · obtain ⟨d, rfl⟩ : ∃ d', d = d' + 1 := ⟨d - 1, by have := hK.out; omega⟩
      have c4 := Lib.hid (k4.out k wr (by have := hK.out; omega))
      unfold gLast at c4
      have hkw : IntKind.i64.wrap (k + 1) = k + 1 := IntWalk.i64_in _ (by omega)
      have hYes := Lib.hid (fun (h : n ≤ addG x.Length g.Length k) => hR.out.trans (if_pos h))
      have hNo := Lib.hid (fun (h : ¬ n ≤ addG x.Length g.Length k) => hR.out.trans (if_neg h))
      generalize addG x.Length g.Length k = m at *
      obtain ⟨wa, hwa⟩ : ∃ wo : World, wo = wr := ⟨_, rfl⟩
      subst hwa
      by_cases hm : n ≤ m
      · obtain ⟨hC, hY⟩ := fO.out _ (hYes.out hm)
        subst hC
        subst hY
        clear hYes hNo hR fN fO k4
        obtain ⟨x0, x1, x2, x3, x4, x5⟩ := lastC_cells (D.out.get 1 rfl : Own _ _ _ _ (lastC x))
        obtain ⟨g0, g1, g2, g3, g4⟩ := gradeC_cells (D.out.get 0 rfl : Own _ _ _ _ (gradeC g))
        go_wp2_with fail
        refine (c4.out).mono ?_
        rintro e w2 ⟨rfl, hb⟩
        replace D := Lib.hid (D.out.later hb)
        clear hb
        go_wp2_with fail
        go_ret2
        exact ⟨rfl, D.out.up⟩
      · have hR2 := Lib.hid (hNo.out hm)
        clear hYes hNo hR fN fO k4
        obtain ⟨x0, x1, x2, x3, x4, x5⟩ := lastC_cells (D.out.get 1 rfl : Own _ _ _ _ (lastC x))
        obtain ⟨g0, g1, g2, g3, g4⟩ := gradeC_cells (D.out.get 0 rfl : Own _ _ _ _ (gradeC g))
        go_wp2_with fail
        refine (c4.out).mono ?_
        rintro e w2 ⟨rfl, hb⟩
        replace D := Lib.hid (D.out.later hb)
        clear hb
        go_wp2_with fail
        go_roundw
        case rel => exact ⟨k + 1, d, by first | rfl | go_num, Lib.hid ⟨by have := hK.out; omega, by have := hK.out; omega⟩, hR2, D⟩
        case measure => first | (simp [intOf]; done) | (simp [intOf]; omega)
    · obtain rfl : d = 0 := by have := hK.out; omega
      obtain ⟨hC, hY⟩ := fN.out hR.out
      subst hC
      subst hY
      go_wp2_with fail
      go_ret2
      exact ⟨rfl, D.out.up⟩
set_option maxRecDepth 100000 in
set_option maxHeartbeats 4000000 in
theorem specStepsFor_c (x : Last) (g : Grade) (n : Int) (w : World) (hn : x.Name.size ≤ 9223372036854775807) :
    Calls Tryz.prog 27 #[.agg #[.string x.Name, .int .i64 x.Length, .int .i64 x.Ball, .int .i64 x.Instep, .int .i64 x.Heel, .int .i64 x.Pitch], .agg #[.int .i64 g.Length, .int .i64 g.Ball, .int .i64 g.Instep, .int .i64 g.Heel, .int .i64 g.Pitch], .int .i64 n] w fun e w' => e = .returned (.tuple #[.int .i64 (sfRes x g n), .int .i64 (sfCode x g n)]) ∧ Below w.heap.size w w' := by
  obtain ⟨w3, hw3, D⟩ := box_lg w x g
  replace hw3 := Lib.hid hw3
  replace D := Lib.hid D
  have k1 := Lib.hid (fun w' => l04One_c x w' hn)
  have k2 := Lib.hid (fun w' => l05Ok_c g w')
  cases hx : okLast x
  · have hG : glOk x g = false := by unfold glOk; rw [hx]; rfl
    rw [(sf_bad hG).1, (sf_bad hG).2]
    rw [hx] at k1
    clear hn hx hG k2
    obtain ⟨x0, x1, x2, x3, x4, x5⟩ := lastC_cells (D.out.get 1 rfl : Own _ _ _ _ (lastC x))
    obtain ⟨g0, g1, g2, g3, g4⟩ := gradeC_cells (D.out.get 0 rfl : Own _ _ _ _ (gradeC g))
    go_enter Tryz.func27, Tryz.ntmps27
    go_wp2_with (rw [← hw3.out])
    refine (k1.out _).mono ?_
    rintro e w2 ⟨rfl, hb⟩
    replace D := Lib.hid (D.out.later hb)
    clear hb
    clear hw3 k1
    clear x0 x1 x2 x3 x4 x5
    clear g0 g1 g2 g3 g4
    go_wp2_with fail
    go_ret2
    exact ⟨rfl, D.out.up⟩
  cases hg : okGrade g
  · have hG : glOk x g = false := by unfold glOk; rw [hx, hg]; rfl
    rw [(sf_bad hG).1, (sf_bad hG).2]
    rw [hx] at k1
    rw [hg] at k2
    clear hn hx hg hG
    obtain ⟨x0, x1, x2, x3, x4, x5⟩ := lastC_cells (D.out.get 1 rfl : Own _ _ _ _ (lastC x))
    obtain ⟨g0, g1, g2, g3, g4⟩ := gradeC_cells (D.out.get 0 rfl : Own _ _ _ _ (gradeC g))
    go_enter Tryz.func27, Tryz.ntmps27
    go_wp2_with (rw [← hw3.out])
    refine (k1.out _).mono ?_
    rintro e w2 ⟨rfl, hb⟩
    replace D := Lib.hid (D.out.later hb)
    clear hb
    clear hw3 k1
    clear x0 x1 x2 x3 x4 x5
    clear g0 g1 g2 g3 g4
    obtain ⟨x0, x1, x2, x3, x4, x5⟩ := lastC_cells (D.out.get 1 rfl : Own _ _ _ _ (lastC x))
    obtain ⟨g0, g1, g2, g3, g4⟩ := gradeC_cells (D.out.get 0 rfl : Own _ _ _ _ (gradeC g))
    go_wp2_with fail
    refine (k2.out _).mono ?_
    rintro e w2 ⟨rfl, hb⟩
    replace D := Lib.hid (D.out.later hb)
    clear hb
    clear k2
    clear x0 x1 x2 x3 x4 x5
    clear g0 g1 g2 g3 g4
    go_wp2_with fail
    go_ret2
    exact ⟨rfl, D.out.up⟩
  have hG : glOk x g = true := by unfold glOk; rw [hx, hg]; rfl
  cases hs : inr n 500 5000
  · rw [(sf_range hG hs).1, (sf_range hG hs).2]
    rw [hx] at k1
    rw [hg] at k2
    clear hn hx hg hG
    obtain ⟨x0, x1, x2, x3, x4, x5⟩ := lastC_cells (D.out.get 1 rfl : Own _ _ _ _ (lastC x))
    obtain ⟨g0, g1, g2, g3, g4⟩ := gradeC_cells (D.out.get 0 rfl : Own _ _ _ _ (gradeC g))
    go_enter Tryz.func27, Tryz.ntmps27
    go_wp2_with (rw [← hw3.out])
    refine (k1.out _).mono ?_
    rintro e w2 ⟨rfl, hb⟩
    replace D := Lib.hid (D.out.later hb)
    clear hb
    clear hw3 k1
    clear x0 x1 x2 x3 x4 x5
    clear g0 g1 g2 g3 g4
    obtain ⟨x0, x1, x2, x3, x4, x5⟩ := lastC_cells (D.out.get 1 rfl : Own _ _ _ _ (lastC x))
    obtain ⟨g0, g1, g2, g3, g4⟩ := gradeC_cells (D.out.get 0 rfl : Own _ _ _ _ (gradeC g))
    go_wp2_with fail
    refine (k2.out _).mono ?_
    rintro e w2 ⟨rfl, hb⟩
    replace D := Lib.hid (D.out.later hb)
    clear hb
    clear k2
    clear x0 x1 x2 x3 x4 x5
    clear g0 g1 g2 g3 g4
    go_wp2_with ((with_reducible refine (as_bool hs (l00In_c _ _ _ _)).mono ?_); rintro e w' ⟨rfl, rfl⟩)
    go_ret2
    exact ⟨rfl, D.out.up⟩
  obtain ⟨_, ⟨hx1, _⟩, _⟩ := okLast_iff2.1 hx
  obtain ⟨hg1, _⟩ := okGrade_iff.1 hg
  have k4 := Lib.hid (fun k w' (hk : -30 ≤ k ∧ k ≤ 30) => l05Add_c x.Length g.Length k w' hg1 hk (by omega))
  have fN := Lib.hid (fun h => sf_none hG hs h)
  have fO := Lib.hid (fun k h => sf_some (k := k) hG hs h)
  obtain ⟨C, hC⟩ : ∃ C, C = sfCode x g n := ⟨_, rfl⟩
  obtain ⟨Y, hY⟩ : ∃ Y, Y = sfRes x g n := ⟨_, rfl⟩
  rw [← hC, ← hY]
  rw [← hC, ← hY] at fN fO
  clear hC hY
  obtain ⟨R, hR0⟩ : ∃ R, R = sfAll x g n := ⟨_, rfl⟩
  rw [← hR0] at fN fO
  unfold sfAll at hR0
  replace hR0 := Lib.hid hR0
  rw [hx] at k1
  rw [hg] at k2
  clear hn hx hg hG
  obtain ⟨x0, x1, x2, x3, x4, x5⟩ := lastC_cells (D.out.get 1 rfl : Own _ _ _ _ (lastC x))
  obtain ⟨g0, g1, g2, g3, g4⟩ := gradeC_cells (D.out.get 0 rfl : Own _ _ _ _ (gradeC g))
  go_enter Tryz.func27, Tryz.ntmps27
  go_wp2_with (rw [← hw3.out])
  refine (k1.out _).mono ?_
  rintro e w2 ⟨rfl, hb⟩
  replace D := Lib.hid (D.out.later hb)
  clear hb
  clear hw3 k1
  clear x0 x1 x2 x3 x4 x5
  clear g0 g1 g2 g3 g4
  obtain ⟨x0, x1, x2, x3, x4, x5⟩ := lastC_cells (D.out.get 1 rfl : Own _ _ _ _ (lastC x))
  obtain ⟨g0, g1, g2, g3, g4⟩ := gradeC_cells (D.out.get 0 rfl : Own _ _ _ _ (gradeC g))
  go_wp2_with fail
  refine (k2.out _).mono ?_
  rintro e w2 ⟨rfl, hb⟩
  replace D := Lib.hid (D.out.later hb)
  clear hb
  clear k2
  clear x0 x1 x2 x3 x4 x5
  clear g0 g1 g2 g3 g4
  go_wp2_with ((with_reducible refine (as_bool hs (l00In_c _ _ _ _)).mono ?_); rintro e w' ⟨rfl, rfl⟩)
  go_loopw [8] (fun u8 wr => ∃ (k : Int) (d : Nat), u8 = .int .i64 k ∧ Hid (k = 31 - d ∧ d ≤ 61) ∧ Hid (R = sfFrom x g n d k) ∧ Hid (Sp w wr [ite' 42 (.slice (some ⟨w.heap.size + 1, 0, none⟩) 5 5) (gradeC g), ite' 30 (.slice (some ⟨w.heap.size, 0, none⟩) 6 6) (lastC x)])) (fun u8 _ => (31 - intOf u8).toNat)
  case atStart => exact ⟨-30, 61, rfl, Lib.hid ⟨by omega, by omega⟩, hR0, D⟩
  case round =>
    clear D hR0
    obtain ⟨k, d, rfl, hK, hR, D⟩ := hrel
    have hk1 : -30 ≤ k ∧ k ≤ 31 := by have := hK.out; omega
    by_cases hkt : k ≤ 30
    · obtain ⟨d, rfl⟩ : ∃ d', d = d' + 1 := ⟨d - 1, by have := hK.out; omega⟩
      have c4 := Lib.hid (k4.out k wr (by have := hK.out; omega))
      have hkw : IntKind.i64.wrap (k + 1) = k + 1 := IntWalk.i64_in _ (by omega)
      have hYes := Lib.hid (fun (h : n ≤ addG x.Length g.Length k) => hR.out.trans (if_pos h))
      have hNo := Lib.hid (fun (h : ¬ n ≤ addG x.Length g.Length k) => hR.out.trans (if_neg h))
      generalize addG x.Length g.Length k = m at *
      obtain ⟨wa, hwa⟩ : ∃ wo : World, wo = wr := ⟨_, rfl⟩
      subst hwa
      by_cases hm : n ≤ m
      · obtain ⟨hC, hY⟩ := fO.out _ (hYes.out hm)
        subst hC
        subst hY
        clear hYes hNo hR fN fO k4
        obtain ⟨x0, x1, x2, x3, x4, x5⟩ := lastC_cells (D.out.get 1 rfl : Own _ _ _ _ (lastC x))
        obtain ⟨g0, g1, g2, g3, g4⟩ := gradeC_cells (D.out.get 0 rfl : Own _ _ _ _ (gradeC g))
        go_wp2_with fail
        refine (c4.out).mono ?_
        rintro e w2 ⟨rfl, rfl⟩
        go_wp2_with fail
        go_ret2
        exact ⟨rfl, D.out.up⟩
      · have hR2 := Lib.hid (hNo.out hm)
        clear hYes hNo hR fN fO k4
        obtain ⟨x0, x1, x2, x3, x4, x5⟩ := lastC_cells (D.out.get 1 rfl : Own _ _ _ _ (lastC x))
        obtain ⟨g0, g1, g2, g3, g4⟩ := gradeC_cells (D.out.get 0 rfl : Own _ _ _ _ (gradeC g))
        go_wp2_with fail
        refine (c4.out).mono ?_
        rintro e w2 ⟨rfl, rfl⟩
        go_wp2_with fail
        go_roundw
        case rel => exact ⟨k + 1, d, by first | rfl | go_num, Lib.hid ⟨by have := hK.out; omega, by have := hK.out; omega⟩, hR2, D⟩
        case measure => first | (simp [intOf]; done) | (simp [intOf]; omega)
    · obtain rfl : d = 0 := by have := hK.out; omega
      obtain ⟨hC, hY⟩ := fN.out hR.out
      subst hC
      subst hY
      go_wp2_with fail
      go_ret2
      exact ⟨rfl, D.out.up⟩
end Go.Proofs.YtaeinllbjkjhlaaGreatDoor
