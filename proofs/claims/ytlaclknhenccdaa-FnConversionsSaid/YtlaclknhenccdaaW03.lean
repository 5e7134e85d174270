/- Chapter 3, widths: the program's and the reference's. (Four numbers of a struct stand as a Foot: First, Half, Step, Count.) -/
import Derived.Test.YtlaclknhenccdaaF03
import Derived.Test.YtlaclknhenccdaaSep
import Derived.Test.YtlaclknhenccdaaGcd
namespace Go.Proofs.Ytlaclknhenccdaa
open Go.RowKit

def okWid (x : Foot) : Bool := inr x.Length 1000 3000 && inr x.Ball 0 50 && inr x.Instep 1 200 && inr x.Heel 1 12
theorem okWid_iff {x : Foot} : okWid x = true ↔ (1000 ≤ x.Length ∧ x.Length ≤ 3000) ∧ (0 ≤ x.Ball ∧ x.Ball ≤ 50) ∧ (1 ≤ x.Instep ∧ x.Instep ≤ 200) ∧ (1 ≤ x.Heel ∧ x.Heel ≤ 12) := by
  unfold okWid
  rw [Bool.and_eq_true, Bool.and_eq_true, Bool.and_eq_true, inr_true, inr_true, inr_true, inr_true, and_assoc, and_assoc]
def girthN (x : Foot) (h k : Int) : Int := x.Length + h * x.Ball + k * x.Instep
theorem girthN_bound {x : Foot} {h k : Int} (ok : okWid x = true) (hh : 0 ≤ h ∧ h ≤ 120) (hk : 0 ≤ k ∧ k ≤ 12) : (0 ≤ h * x.Ball ∧ h * x.Ball ≤ 6000) ∧ (0 ≤ k * x.Instep ∧ k * x.Instep ≤ 2400) ∧ 1000 ≤ girthN x h k ∧ girthN x h k ≤ 20000 := by
  obtain ⟨h1, h2, h3, h4⟩ := okWid_iff.1 ok
  have a := Int.mul_le_mul hh.2 h2.2 h2.1 (by omega)
  have a0 := Int.mul_nonneg hh.1 h2.1
  have b := Int.mul_le_mul hk.2 h3.2 (by omega) (by omega)
  have b0 : 0 ≤ k * x.Instep := Int.mul_nonneg hk.1 (by omega)
  unfold girthN
  omega
theorem four_new (w : World) (t : TypeId) (x : Foot) : ∃ w1, w1 = w.alloc (.cells #[.int .i64 x.Length, .int .i64 x.Ball, .int .i64 x.Instep, .int .i64 x.Heel] t) ∧ Below w.heap.size w w1 ∧ w1.cell? ⟨w.heap.size, 0, none⟩ = some (.int .i64 x.Length) ∧ w1.cell? ⟨w.heap.size, 1, none⟩ = some (.int .i64 x.Ball) ∧ w1.cell? ⟨w.heap.size, 2, none⟩ = some (.int .i64 x.Instep) ∧ w1.cell? ⟨w.heap.size, 3, none⟩ = some (.int .i64 x.Heel) := by
  obtain ⟨c0, c1, c2, c3⟩ := footC_cells (own_footC w t x)
  exact ⟨_, rfl, newB _ _, c0, c1, c2, c3⟩
theorem implValidWidths_c (x : Foot) (w : World) :
    Calls Try.prog 34 #[.agg #[.int .i64 x.Length, .int .i64 x.Ball, .int .i64 x.Instep, .int .i64 x.Heel]] w fun e w' => e = .returned (.bool (okWid x)) ∧ Below w.heap.size w w' := by
  obtain ⟨w1, hw1, hb, c0, c1, c2, c3⟩ := four_new w 51 x
  replace hw1 := Lib.hid hw1
  unfold okWid
  cases h1 : inr x.Length 1000 3000
  · go_enter Try.func34, Try.ntmps34
    go_wp2_with (first | rw [← hw1.out] | ((with_reducible refine (as_bool h1 (within_c _ _ _ _)).mono ?_); rintro e w' ⟨rfl, rfl⟩) | ((with_reducible refine (as_bool h2 (within_c _ _ _ _)).mono ?_); rintro e w' ⟨rfl, rfl⟩) | ((with_reducible refine (as_bool h3 (within_c _ _ _ _)).mono ?_); rintro e w' ⟨rfl, rfl⟩) | (refine (within_c _ _ _ _).mono ?_; rintro e w' ⟨rfl, rfl⟩))
    go_ret
    exact ⟨rfl, hb⟩
  · cases h2 : inr x.Ball 0 50
    · go_enter Try.func34, Try.ntmps34
      go_wp2_with (first | rw [← hw1.out] | ((with_reducible refine (as_bool h1 (within_c _ _ _ _)).mono ?_); rintro e w' ⟨rfl, rfl⟩) | ((with_reducible refine (as_bool h2 (within_c _ _ _ _)).mono ?_); rintro e w' ⟨rfl, rfl⟩) | ((with_reducible refine (as_bool h3 (within_c _ _ _ _)).mono ?_); rintro e w' ⟨rfl, rfl⟩) | (refine (within_c _ _ _ _).mono ?_; rintro e w' ⟨rfl, rfl⟩))
      go_ret
      exact ⟨rfl, hb⟩
    · cases h3 : inr x.Instep 1 200
      · go_enter Try.func34, Try.ntmps34
        go_wp2_with (first | rw [← hw1.out] | ((with_reducible refine (as_bool h1 (within_c _ _ _ _)).mono ?_); rintro e w' ⟨rfl, rfl⟩) | ((with_reducible refine (as_bool h2 (within_c _ _ _ _)).mono ?_); rintro e w' ⟨rfl, rfl⟩) | ((with_reducible refine (as_bool h3 (within_c _ _ _ _)).mono ?_); rintro e w' ⟨rfl, rfl⟩) | (refine (within_c _ _ _ _).mono ?_; rintro e w' ⟨rfl, rfl⟩))
        go_ret
        exact ⟨rfl, hb⟩
      · go_enter Try.func34, Try.ntmps34
        go_wp2_with (first | rw [← hw1.out] | ((with_reducible refine (as_bool h1 (within_c _ _ _ _)).mono ?_); rintro e w' ⟨rfl, rfl⟩) | ((with_reducible refine (as_bool h2 (within_c _ _ _ _)).mono ?_); rintro e w' ⟨rfl, rfl⟩) | ((with_reducible refine (as_bool h3 (within_c _ _ _ _)).mono ?_); rintro e w' ⟨rfl, rfl⟩) | (refine (within_c _ _ _ _).mono ?_; rintro e w' ⟨rfl, rfl⟩))
        go_ret
        exact ⟨rfl, hb⟩
theorem l03Widths_c (x : Foot) (w : World) :
    Calls Try.prog 99 #[.agg #[.int .i64 x.Length, .int .i64 x.Ball, .int .i64 x.Instep, .int .i64 x.Heel]] w fun e w' => e = .returned (.bool (okWid x)) ∧ Below w.heap.size w w' := by
  obtain ⟨w1, hw1, hb, c0, c1, c2, c3⟩ := four_new w 51 x
  replace hw1 := Lib.hid hw1
  unfold okWid
  cases h1 : inr x.Length 1000 3000
  · go_enter Try.func99, Try.ntmps99
    go_wp2_with (first | rw [← hw1.out] | ((with_reducible refine (as_bool h1 (l00In_c _ _ _ _)).mono ?_); rintro e w' ⟨rfl, rfl⟩) | ((with_reducible refine (as_bool h2 (l00In_c _ _ _ _)).mono ?_); rintro e w' ⟨rfl, rfl⟩) | ((with_reducible refine (as_bool h3 (l00In_c _ _ _ _)).mono ?_); rintro e w' ⟨rfl, rfl⟩) | (refine (l00In_c _ _ _ _).mono ?_; rintro e w' ⟨rfl, rfl⟩))
    go_ret
    exact ⟨rfl, hb⟩
  · cases h2 : inr x.Ball 0 50
    · go_enter Try.func99, Try.ntmps99
      go_wp2_with (first | rw [← hw1.out] | ((with_reducible refine (as_bool h1 (l00In_c _ _ _ _)).mono ?_); rintro e w' ⟨rfl, rfl⟩) | ((with_reducible refine (as_bool h2 (l00In_c _ _ _ _)).mono ?_); rintro e w' ⟨rfl, rfl⟩) | ((with_reducible refine (as_bool h3 (l00In_c _ _ _ _)).mono ?_); rintro e w' ⟨rfl, rfl⟩) | (refine (l00In_c _ _ _ _).mono ?_; rintro e w' ⟨rfl, rfl⟩))
      go_ret
      exact ⟨rfl, hb⟩
    · cases h3 : inr x.Instep 1 200
      · go_enter Try.func99, Try.ntmps99
        go_wp2_with (first | rw [← hw1.out] | ((with_reducible refine (as_bool h1 (l00In_c _ _ _ _)).mono ?_); rintro e w' ⟨rfl, rfl⟩) | ((with_reducible refine (as_bool h2 (l00In_c _ _ _ _)).mono ?_); rintro e w' ⟨rfl, rfl⟩) | ((with_reducible refine (as_bool h3 (l00In_c _ _ _ _)).mono ?_); rintro e w' ⟨rfl, rfl⟩) | (refine (l00In_c _ _ _ _).mono ?_; rintro e w' ⟨rfl, rfl⟩))
        go_ret
        exact ⟨rfl, hb⟩
      · go_enter Try.func99, Try.ntmps99
        go_wp2_with (first | rw [← hw1.out] | ((with_reducible refine (as_bool h1 (l00In_c _ _ _ _)).mono ?_); rintro e w' ⟨rfl, rfl⟩) | ((with_reducible refine (as_bool h2 (l00In_c _ _ _ _)).mono ?_); rintro e w' ⟨rfl, rfl⟩) | ((with_reducible refine (as_bool h3 (l00In_c _ _ _ _)).mono ?_); rintro e w' ⟨rfl, rfl⟩) | (refine (l00In_c _ _ _ _).mono ?_; rintro e w' ⟨rfl, rfl⟩))
        go_ret
        exact ⟨rfl, hb⟩
theorem specValidWidths_c (x : Foot) (w : World) :
    Calls Try.prog 35 #[.agg #[.int .i64 x.Length, .int .i64 x.Ball, .int .i64 x.Instep, .int .i64 x.Heel]] w fun e w' => e = .returned (.bool (okWid x)) ∧ Below w.heap.size w w' := by
  obtain ⟨w1, hw1, hb, c0, c1, c2, c3⟩ := four_new w 51 x
  replace hw1 := Lib.hid hw1
  go_enter Try.func35, Try.ntmps35
  go_wp2_with (rw [← hw1.out])
  refine (l03Widths_c x w1).mono ?_
  rintro e w2 ⟨rfl, hb2⟩
  go_wp2_with fail
  go_ret
  exact ⟨rfl, upw hb hb2⟩
theorem isHalf_c (n : Int) (w : World) : Calls Try.prog 92 #[.int .i64 n] w fun e w' => e = .returned (.bool (inr n 0 120)) ∧ w = w' := by
  go_enter Try.func92, Try.ntmps92
  go_wp2_with fail
  refine (within_c _ _ _ _).mono ?_
  rintro e w2 ⟨rfl, rfl⟩
  go_wp2_with fail
  go_ret
  exact ⟨rfl, rfl⟩
theorem l03Half_c (n : Int) (w : World) : Calls Try.prog 95 #[.int .i64 n] w fun e w' => e = .returned (.bool (inr n 0 120)) ∧ w = w' := by
  go_enter Try.func95, Try.ntmps95
  go_wp2_with fail
  refine (l00In_c _ _ _ _).mono ?_
  rintro e w2 ⟨rfl, rfl⟩
  go_wp2_with fail
  go_ret
  exact ⟨rfl, rfl⟩
theorem girth_c (x : Foot) (h k : Int) (w : World) (ok : okWid x = true) (hh : 0 ≤ h ∧ h ≤ 120) (hk : 0 ≤ k ∧ k ≤ 12) :
    Calls Try.prog 98 #[.agg #[.int .i64 x.Length, .int .i64 x.Ball, .int .i64 x.Instep, .int .i64 x.Heel], .int .i64 h, .int .i64 k] w fun e w' => e = .returned (.int .i64 (girthN x h k)) ∧ Below w.heap.size w w' := by
  obtain ⟨w1, hw1, hb, c0, c1, c2, c3⟩ := four_new w 51 x
  obtain ⟨b1, b2, b3, b4⟩ := girthN_bound ok hh hk
  obtain ⟨o1, o2, o3, o4⟩ := okWid_iff.1 ok
  unfold girthN at *
  replace hw1 := Lib.hid hw1
  replace ok := Lib.hid ok
  go_enter Try.func98, Try.ntmps98
  go_wp2_with (rw [← hw1.out])
  go_ret
  exact ⟨rfl, hb⟩
theorem l03Girth_c (x : Foot) (h k : Int) (w : World) (ok : okWid x = true) (hh : 0 ≤ h ∧ h ≤ 120) (hk : 0 ≤ k ∧ k ≤ 12) :
    Calls Try.prog 100 #[.agg #[.int .i64 x.Length, .int .i64 x.Ball, .int .i64 x.Instep, .int .i64 x.Heel], .int .i64 h, .int .i64 k] w fun e w' => e = .returned (.int .i64 (girthN x h k)) ∧ Below w.heap.size w w' := by
  obtain ⟨w1, hw1, hb, c0, c1, c2, c3⟩ := four_new w 51 x
  obtain ⟨b1, b2, b3, b4⟩ := girthN_bound ok hh hk
  obtain ⟨o1, o2, o3, o4⟩ := okWid_iff.1 ok
  unfold girthN at *
  replace hw1 := Lib.hid hw1
  replace ok := Lib.hid ok
  go_enter Try.func100, Try.ntmps100
  go_wp2_with (rw [← hw1.out])
  go_ret
  exact ⟨rfl, hb⟩
def gofOk (x : Foot) (h k : Int) : Bool := inr h 0 120 && inr k 0 (x.Heel - 1)
def gofRes (x : Foot) (h k : Int) : Int × Int := if okWid x then (if gofOk x h k then (girthN x h k, 0) else (0, 2)) else (0, 1)
set_option maxHeartbeats 800000 in
theorem implGirthOf_c (x : Foot) (h k : Int) (w : World) :
    Calls Try.prog 32 #[.agg #[.int .i64 x.Length, .int .i64 x.Ball, .int .i64 x.Instep, .int .i64 x.Heel], .int .i64 h, .int .i64 k] w fun e w' => e = .returned (.tuple #[.int .i64 (gofRes x h k).1, .int .i64 (gofRes x h k).2]) ∧ Below w.heap.size w w' := by
  obtain ⟨w1, hw1, hb, c0, c1, c2, c3⟩ := four_new w 51 x
  replace hw1 := Lib.hid hw1
  cases h1 : okWid x
  · have e0 : gofRes x h k = (0, 1) := by simp [gofRes, h1]
    rw [e0]
    clear e0
    go_enter Try.func32, Try.ntmps32
    go_wp2_with (rw [← hw1.out])
    refine (as_boolB h1 (implValidWidths_c x w1)).mono ?_
    rintro e w2 ⟨rfl, hb2⟩
    go_wp2_with fail
    go_ret2
    exact ⟨rfl, upw hb hb2⟩
  · have o := okWid_iff.1 h1
    cases h2 : inr h 0 120
    · have e0 : gofRes x h k = (0, 2) := by simp [gofRes, gofOk, h1, h2]
      rw [e0]
      clear e0 o
      go_enter Try.func32, Try.ntmps32
      go_wp2_with (rw [← hw1.out])
      refine (as_boolB h1 (implValidWidths_c x w1)).mono ?_
      rintro e w2 ⟨rfl, hb2⟩
      go_wp2_with fail
      refine (as_bool h2 (isHalf_c _ _)).mono ?_
      rintro e w' ⟨rfl, rfl⟩
      go_wp2_with fail
      go_ret2
      exact ⟨rfl, upw hb hb2⟩
    · cases h3 : inr k 0 (x.Heel - 1)
      · have e0 : gofRes x h k = (0, 2) := by simp [gofRes, gofOk, h1, h3]
        rw [e0]
        clear e0
        have o4 := o.2.2.2
        go_enter Try.func32, Try.ntmps32
        go_wp2_with (rw [← hw1.out])
        refine (as_boolB h1 (implValidWidths_c x w1)).mono ?_
        rintro e w2 ⟨rfl, hb2⟩
        have d3 := kept_cell c3 hb2
        go_wp2_with fail
        refine (as_bool h2 (isHalf_c _ _)).mono ?_
        rintro e w' ⟨rfl, rfl⟩
        go_wp2_with fail
        refine (as_bool h3 (within_c _ _ _ _)).mono ?_
        rintro e w' ⟨rfl, rfl⟩
        go_wp2_with fail
        go_ret2
        exact ⟨rfl, upw hb hb2⟩
      · have e0 : gofRes x h k = (girthN x h k, 0) := by simp [gofRes, gofOk, h1, h2, h3]
        rw [e0]
        clear e0
        have o4 := o.2.2.2
        have i2 := inr_true.1 h2
        have i3 := inr_true.1 h3
        have hG := Lib.hid (fun w' => girth_c x h k w' h1 i2 (by omega))
        clear o
        go_enter Try.func32, Try.ntmps32
        go_wp2_with (rw [← hw1.out])
        refine (as_boolB h1 (implValidWidths_c x w1)).mono ?_
        rintro e w2 ⟨rfl, hb2⟩
        have d0 := kept_cell c0 hb2
        have d1 := kept_cell c1 hb2
        have d2 := kept_cell c2 hb2
        have d3 := kept_cell c3 hb2
        go_wp2_with fail
        refine (as_bool h2 (isHalf_c _ _)).mono ?_
        rintro e w' ⟨rfl, rfl⟩
        go_wp2_with fail
        refine (as_bool h3 (within_c _ _ _ _)).mono ?_
        rintro e w' ⟨rfl, rfl⟩
        go_wp2_with fail
        refine (hG.out _).mono ?_
        rintro e w3 ⟨rfl, hb3⟩
        go_wp2_with fail
        go_ret2
        exact ⟨rfl, upw (upw hb hb2) hb3⟩
set_option maxHeartbeats 800000 in
theorem specGirthOf_c (x : Foot) (h k : Int) (w : World) :
    Calls Try.prog 33 #[.agg #[.int .i64 x.Length, .int .i64 x.Ball, .int .i64 x.Instep, .int .i64 x.Heel], .int .i64 h, .int .i64 k] w fun e w' => e = .returned (.tuple #[.int .i64 (gofRes x h k).1, .int .i64 (gofRes x h k).2]) ∧ Below w.heap.size w w' := by
  obtain ⟨w1, hw1, hb, c0, c1, c2, c3⟩ := four_new w 51 x
  replace hw1 := Lib.hid hw1
  cases h1 : okWid x
  · have e0 : gofRes x h k = (0, 1) := by simp [gofRes, h1]
    rw [e0]
    clear e0
    go_enter Try.func33, Try.ntmps33
    go_wp2_with (rw [← hw1.out])
    refine (as_boolB h1 (l03Widths_c x w1)).mono ?_
    rintro e w2 ⟨rfl, hb2⟩
    go_wp2_with fail
    go_ret2
    exact ⟨rfl, upw hb hb2⟩
  · have o := okWid_iff.1 h1
    cases h2 : inr h 0 120
    · have e0 : gofRes x h k = (0, 2) := by simp [gofRes, gofOk, h1, h2]
      rw [e0]
      clear e0 o
      go_enter Try.func33, Try.ntmps33
      go_wp2_with (rw [← hw1.out])
      refine (as_boolB h1 (l03Widths_c x w1)).mono ?_
      rintro e w2 ⟨rfl, hb2⟩
      go_wp2_with fail
      refine (as_bool h2 (l03Half_c _ _)).mono ?_
      rintro e w' ⟨rfl, rfl⟩
      go_wp2_with fail
      go_ret2
      exact ⟨rfl, upw hb hb2⟩
    · cases h3 : inr k 0 (x.Heel - 1)
      · have e0 : gofRes x h k = (0, 2) := by simp [gofRes, gofOk, h1, h3]
        rw [e0]
        clear e0
        have o4 := o.2.2.2
        go_enter Try.func33, Try.ntmps33
        go_wp2_with (rw [← hw1.out])
        refine (as_boolB h1 (l03Widths_c x w1)).mono ?_
        rintro e w2 ⟨rfl, hb2⟩
        have d3 := kept_cell c3 hb2
        go_wp2_with fail
        refine (as_bool h2 (l03Half_c _ _)).mono ?_
        rintro e w' ⟨rfl, rfl⟩
        go_wp2_with fail
        refine (as_bool h3 (l00In_c _ _ _ _)).mono ?_
        rintro e w' ⟨rfl, rfl⟩
        go_wp2_with fail
        go_ret2
        exact ⟨rfl, upw hb hb2⟩
      · have e0 : gofRes x h k = (girthN x h k, 0) := by simp [gofRes, gofOk, h1, h2, h3]
        rw [e0]
        clear e0
        have o4 := o.2.2.2
        have i2 := inr_true.1 h2
        have i3 := inr_true.1 h3
        have hG := Lib.hid (fun w' => l03Girth_c x h k w' h1 i2 (by omega))
        clear o
        go_enter Try.func33, Try.ntmps33
        go_wp2_with (rw [← hw1.out])
        refine (as_boolB h1 (l03Widths_c x w1)).mono ?_
        rintro e w2 ⟨rfl, hb2⟩
        have d0 := kept_cell c0 hb2
        have d1 := kept_cell c1 hb2
        have d2 := kept_cell c2 hb2
        have d3 := kept_cell c3 hb2
        go_wp2_with fail
        refine (as_bool h2 (l03Half_c _ _)).mono ?_
        rintro e w' ⟨rfl, rfl⟩
        go_wp2_with fail
        refine (as_bool h3 (l00In_c _ _ _ _)).mono ?_
        rintro e w' ⟨rfl, rfl⟩
        go_wp2_with fail
        refine (hG.out _).mono ?_
        rintro e w3 ⟨rfl, hb3⟩
        go_wp2_with fail
        go_ret2
        exact ⟨rfl, upw (upw hb hb2) hb3⟩
end Go.Proofs.Ytlaclknhenccdaa
