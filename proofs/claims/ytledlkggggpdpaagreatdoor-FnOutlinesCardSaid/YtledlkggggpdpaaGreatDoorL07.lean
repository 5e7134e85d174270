/- Chapter 7, outlines: spots, sides, validity: the contracts of the program's functions and of the reference's. -/
import Derived.Test.YtledlkggggpdpaaGreatDoorSpot
import Derived.Test.YtledlkggggpdpaaGreatDoorNum
namespace Go.Proofs.YtledlkggggpdpaaGreatDoor
open Go.RowKit

/-- A spot is a place of outlines. -/
def okSpot (p : Spot) : Bool := inr p.X 0 10000 && inr p.Y 0 10000
theorem okSpot_iff {p : Spot} : okSpot p = true ↔ (0 ≤ p.X ∧ p.X ≤ 10000) ∧ (0 ≤ p.Y ∧ p.Y ≤ 10000) := by simp [okSpot, inr]
/-- Twice the area of a triangle, by its turn. -/
def crs (a b c : Spot) : Int := (b.X - a.X) * (c.Y - a.Y) - (b.Y - a.Y) * (c.X - a.X)
theorem mul_in' {a b A B : Int} (h1 : -A ≤ a) (h2 : a ≤ A) (h3 : -B ≤ b) (h4 : b ≤ B) : -(A * B) ≤ a * b ∧ a * b ≤ A * B := by
  have hA : 0 ≤ A := by omega
  have hB : 0 ≤ B := by omega
  have e : (a * b).natAbs ≤ (A * B).natAbs := by
    rw [Int.natAbs_mul, Int.natAbs_mul]
    exact Nat.mul_le_mul (by omega) (by omega)
  have h0 : 0 ≤ A * B := Int.mul_nonneg hA hB
  generalize A * B = M at *
  omega
theorem crs_in {a b c : Spot} (ha : okSpot a = true) (hb : okSpot b = true) (hc : okSpot c = true) :
    (-100000000 ≤ (b.X - a.X) * (c.Y - a.Y) ∧ (b.X - a.X) * (c.Y - a.Y) ≤ 100000000) ∧ (-100000000 ≤ (b.Y - a.Y) * (c.X - a.X) ∧ (b.Y - a.Y) * (c.X - a.X) ≤ 100000000) := by
  have ha := okSpot_iff.1 ha
  have hb := okSpot_iff.1 hb
  have hc := okSpot_iff.1 hc
  have h1 := mul_in' (a := b.X - a.X) (b := c.Y - a.Y) (A := 10000) (B := 10000) (by omega) (by omega) (by omega) (by omega)
  have h2 := mul_in' (a := b.Y - a.Y) (b := c.X - a.X) (A := 10000) (B := 10000) (by omega) (by omega) (by omega) (by omega)
  exact ⟨by omega, by omega⟩
theorem crs_bound {a b c : Spot} (ha : okSpot a = true) (hb : okSpot b = true) (hc : okSpot c = true) : -200000000 ≤ crs a b c ∧ crs a b c ≤ 200000000 := by
  have := crs_in ha hb hc
  unfold crs; omega
theorem cross_c (a b c : Spot) (w : World) (ha : okSpot a = true) (hb : okSpot b = true) (hc : okSpot c = true) :
    Calls Tryz.prog 183 #[.agg #[.int .i64 a.X, .int .i64 a.Y], .agg #[.int .i64 b.X, .int .i64 b.Y], .agg #[.int .i64 c.X, .int .i64 c.Y]] w fun e w' => e = .returned (.int .i64 (crs a b c)) ∧ Below w.heap.size w w' := by
  obtain ⟨h1, h2⟩ := crs_in ha hb hc
  have ha := okSpot_iff.1 ha
  have hb := okSpot_iff.1 hb
  have hc := okSpot_iff.1 hc
  go_enter Tryz.func183, Tryz.ntmps183
  go_wp2
  go_ret
  exact ⟨rfl, (((Below.refl _ _).alloc (by simp) _).alloc (by simp) _).alloc (by simp; omega) _⟩
theorem l07Cross_c (a b c : Spot) (w : World) (ha : okSpot a = true) (hb : okSpot b = true) (hc : okSpot c = true) :
    Calls Tryz.prog 237 #[.agg #[.int .i64 a.X, .int .i64 a.Y], .agg #[.int .i64 b.X, .int .i64 b.Y], .agg #[.int .i64 c.X, .int .i64 c.Y]] w fun e w' => e = .returned (.int .i64 (crs a b c)) ∧ Below w.heap.size w w' := by
  obtain ⟨h1, h2⟩ := crs_in ha hb hc
  have ha := okSpot_iff.1 ha
  have hb := okSpot_iff.1 hb
  have hc := okSpot_iff.1 hc
  go_enter Tryz.func237, Tryz.ntmps237
  go_wp2
  go_ret
  exact ⟨rfl, (((Below.refl _ _).alloc (by simp) _).alloc (by simp) _).alloc (by simp; omega) _⟩
/-- A spot lies between two others, by its places. -/
def betw (a b p : Spot) : Bool := inr p.X (min a.X b.X) (max a.X b.X) && inr p.Y (min a.Y b.Y) (max a.Y b.Y)
/-- A spot is on a side. -/
def onS (a b p : Spot) : Bool := (crs a b p == 0) && betw a b p
/-- Three new variables that hold spots. -/
structure Has3 (w : World) (s : Nat) (a b c : Spot) : Prop where
  a0 : w.cell? ⟨s, 0, none⟩ = some (.int .i64 a.X)
  a1 : w.cell? ⟨s, 1, none⟩ = some (.int .i64 a.Y)
  b0 : w.cell? ⟨s + 1, 0, none⟩ = some (.int .i64 b.X)
  b1 : w.cell? ⟨s + 1, 1, none⟩ = some (.int .i64 b.Y)
  c0 : w.cell? ⟨s + 1 + 1, 0, none⟩ = some (.int .i64 c.X)
  c1 : w.cell? ⟨s + 1 + 1, 1, none⟩ = some (.int .i64 c.Y)
  lt : s + 1 + 1 < w.heap.size
theorem Has3.below {w w' : World} {s : Nat} {a b c : Spot} (h : Has3 w s a b c) (hb : Below w.heap.size w w') : Has3 w' s a b c := by
  have hl := h.lt
  constructor
  · rw [hb.cell (p := ⟨s, 0, none⟩) (by simp; omega)]; exact h.a0
  · rw [hb.cell (p := ⟨s, 1, none⟩) (by simp; omega)]; exact h.a1
  · rw [hb.cell (p := ⟨s + 1, 0, none⟩) (by simp; omega)]; exact h.b0
  · rw [hb.cell (p := ⟨s + 1, 1, none⟩) (by simp; omega)]; exact h.b1
  · rw [hb.cell (p := ⟨s + 1 + 1, 0, none⟩) (by simp; omega)]; exact h.c0
  · rw [hb.cell (p := ⟨s + 1 + 1, 1, none⟩) (by simp; omega)]; exact h.c1
  · exact Nat.lt_of_lt_of_le hl hb.size
theorem three (w : World) (a b c : Spot) : ∃ w1, ((w.alloc (.cells #[.int .i64 a.X, .int .i64 a.Y] 106)).alloc (.cells #[.int .i64 b.X, .int .i64 b.Y] 106)).alloc (.cells #[.int .i64 c.X, .int .i64 c.Y] 106) = w1 ∧ Has3 w1 w.heap.size a b c ∧ Below w.heap.size w w1 := by
  refine ⟨_, rfl, ⟨?_, ?_, ?_, ?_, ?_, ?_, by simp⟩, (((Below.refl _ _).alloc (by simp) _).alloc (by simp) _).alloc (by simp; omega) _⟩ <;> go_simp
/-- Four new variables that hold spots. -/
structure Has4 (w : World) (s : Nat) (a b c d : Spot) : Prop where
  toHas3 : Has3 w s a b c
  d0 : w.cell? ⟨s + 1 + 1 + 1, 0, none⟩ = some (.int .i64 d.X)
  d1 : w.cell? ⟨s + 1 + 1 + 1, 1, none⟩ = some (.int .i64 d.Y)
  lt : s + 1 + 1 + 1 < w.heap.size
theorem Has4.below {w w' : World} {s : Nat} {a b c d : Spot} (h : Has4 w s a b c d) (hb : Below w.heap.size w w') : Has4 w' s a b c d := by
  have hl := h.lt
  constructor
  · exact h.toHas3.below hb
  · rw [hb.cell (p := ⟨s + 1 + 1 + 1, 0, none⟩) (by simp; omega)]; exact h.d0
  · rw [hb.cell (p := ⟨s + 1 + 1 + 1, 1, none⟩) (by simp; omega)]; exact h.d1
  · exact Nat.lt_of_lt_of_le hl hb.size
theorem four (w : World) (a b c d : Spot) : ∃ w1, (((w.alloc (.cells #[.int .i64 a.X, .int .i64 a.Y] 106)).alloc (.cells #[.int .i64 b.X, .int .i64 b.Y] 106)).alloc (.cells #[.int .i64 c.X, .int .i64 c.Y] 106)).alloc (.cells #[.int .i64 d.X, .int .i64 d.Y] 106) = w1 ∧ Has4 w1 w.heap.size a b c d ∧ Below w.heap.size w w1 := by
  obtain ⟨w1, h1, h2, h3⟩ := three w a b c
  have hs : w1.heap.size = w.heap.size + 1 + 1 + 1 := by rw [← h1]; simp
  rw [h1]
  have hb := (Below.refl w1.heap.size w1).alloc (Nat.le_refl _) (.cells #[.int .i64 d.X, .int .i64 d.Y] 106)
  refine ⟨_, rfl, ⟨h2.below hb, ?_, ?_, by simp [hs]⟩, upw h3 hb⟩ <;> rw [← hs] <;> go_simp
set_option maxHeartbeats 400000 in
theorem isOn_c (a b p : Spot) (w : World) (ha : okSpot a = true) (hb : okSpot b = true) (hp : okSpot p = true) :
    Calls Tryz.prog 215 #[.agg #[.int .i64 a.X, .int .i64 a.Y], .agg #[.int .i64 b.X, .int .i64 b.Y], .agg #[.int .i64 p.X, .int .i64 p.Y]] w fun e w' => e = .returned (.bool (onS a b p)) ∧ Below w.heap.size w w' := by
  have hm1 : (if b.X < a.X then b.X else a.X) = min a.X b.X := by omega
  have hm2 : (if b.Y < a.Y then b.Y else a.Y) = min a.Y b.Y := by omega
  have hm3 : (if a.X < b.X then b.X else a.X) = max a.X b.X := by omega
  have hm4 : (if a.Y < b.Y then b.Y else a.Y) = max a.Y b.Y := by omega
  cases h1 : crs a b p == 0
  · go_enter Tryz.func215, Tryz.ntmps215
    go_wp2_with fail
    obtain ⟨w1, hw, H, hbw⟩ := three w a b p
    rw [hw]
    refine (cross_c a b p _ ha hb hp).mono ?_
    rintro e w2 ⟨rfl, hb2⟩
    obtain ⟨c0, c1, c2, c3, c4, c5, _⟩ := H.below hb2
    go_wp2_with (go_at_call 113; refine (within_c _ _ _ _).mono ?_; rintro e w' ⟨rfl, rfl⟩)
    go_ret
    exact ⟨ret_bool (by simp [onS, betw, h1]), upw hbw hb2⟩
  · cases h2 : inr p.X (min a.X b.X) (max a.X b.X)
    · go_enter Tryz.func215, Tryz.ntmps215
      go_wp2_with fail
      obtain ⟨w1, hw, H, hbw⟩ := three w a b p
      rw [hw]
      refine (cross_c a b p _ ha hb hp).mono ?_
      rintro e w2 ⟨rfl, hb2⟩
      obtain ⟨c0, c1, c2, c3, c4, c5, _⟩ := H.below hb2
      go_wp2_with (go_at_call 113; refine (within_c _ _ _ _).mono ?_; rintro e w' ⟨rfl, rfl⟩)
      go_ret
      exact ⟨ret_bool (by simp [onS, betw, h1, h2]), upw hbw hb2⟩
    · cases h3 : inr p.Y (min a.Y b.Y) (max a.Y b.Y)
      · go_enter Tryz.func215, Tryz.ntmps215
        go_wp2_with fail
        obtain ⟨w1, hw, H, hbw⟩ := three w a b p
        rw [hw]
        refine (cross_c a b p _ ha hb hp).mono ?_
        rintro e w2 ⟨rfl, hb2⟩
        obtain ⟨c0, c1, c2, c3, c4, c5, _⟩ := H.below hb2
        go_wp2_with (go_at_call 113; refine (within_c _ _ _ _).mono ?_; rintro e w' ⟨rfl, rfl⟩)
        go_ret
        exact ⟨ret_bool (by simp [onS, betw, h1, h2, h3]), upw hbw hb2⟩
      · go_enter Tryz.func215, Tryz.ntmps215
        go_wp2_with fail
        obtain ⟨w1, hw, H, hbw⟩ := three w a b p
        rw [hw]
        refine (cross_c a b p _ ha hb hp).mono ?_
        rintro e w2 ⟨rfl, hb2⟩
        obtain ⟨c0, c1, c2, c3, c4, c5, _⟩ := H.below hb2
        go_wp2_with (go_at_call 113; refine (within_c _ _ _ _).mono ?_; rintro e w' ⟨rfl, rfl⟩)
        go_ret
        exact ⟨ret_bool (by simp [onS, betw, h1, h2, h3]), upw hbw hb2⟩
set_option maxHeartbeats 400000 in
theorem l07Between_c (a b p : Spot) (w : World) :
    Calls Tryz.prog 293 #[.agg #[.int .i64 a.X, .int .i64 a.Y], .agg #[.int .i64 b.X, .int .i64 b.Y], .agg #[.int .i64 p.X, .int .i64 p.Y]] w fun e w' => e = .returned (.bool (betw a b p)) ∧ Below w.heap.size w w' := by
  cases h1 : inr p.X (min a.X b.X) (max a.X b.X)
  · go_enter Tryz.func293, Tryz.ntmps293
    go_wp2
    obtain ⟨w1, hw, H, hb⟩ := three w a b p
    rw [hw]
    obtain ⟨c0, c1, c2, c3, c4, c5, _⟩ := H
    replace c0 := rg c0
    replace c1 := rg c1
    replace c2 := rg c2
    replace c3 := rg c3
    replace c4 := rg c4
    replace c5 := rg c5
    refine wp_region_quiet_below (by kernel_rfl) (by kernel_rfl) ?_
    repeat (go_big_quiet_step ((first | (go_at_call 146; exact Calls.regrown_same (l00Min_c _ _ _)) | (go_at_call 147; exact Calls.regrown_same (l00Max_c _ _ _)) | (go_at_call 116; first | with_reducible exact Calls.regrown_same (as_bool h1 (l00In_c p.X _ _ _)) | with_reducible exact Calls.regrown_same (as_bool h2 (l00In_c p.Y _ _ _))))))
    refine wpQuiet_nil ?_
    intro w2 hw'
    replace hb := upw hb (grown_of hw')
    clear hw'
    go_wp2
    go_ret
    exact ⟨ret_bool (by simp [betw, h1]), hb⟩
  · cases h2 : inr p.Y (min a.Y b.Y) (max a.Y b.Y)
    · go_enter Tryz.func293, Tryz.ntmps293
      go_wp2
      obtain ⟨w1, hw, H, hb⟩ := three w a b p
      rw [hw]
      obtain ⟨c0, c1, c2, c3, c4, c5, _⟩ := H
      replace c0 := rg c0
      replace c1 := rg c1
      replace c2 := rg c2
      replace c3 := rg c3
      replace c4 := rg c4
      replace c5 := rg c5
      refine wp_region_quiet_below (by kernel_rfl) (by kernel_rfl) ?_
      repeat (go_big_quiet_step ((first | (go_at_call 146; exact Calls.regrown_same (l00Min_c _ _ _)) | (go_at_call 147; exact Calls.regrown_same (l00Max_c _ _ _)) | (go_at_call 116; first | with_reducible exact Calls.regrown_same (as_bool h1 (l00In_c p.X _ _ _)) | with_reducible exact Calls.regrown_same (as_bool h2 (l00In_c p.Y _ _ _))))))
      refine wpQuiet_nil ?_
      intro w2 hw'
      replace hb := upw hb (grown_of hw')
      clear hw'
      go_wp2
      go_ret
      exact ⟨ret_bool (by simp [betw, h1, h2]), hb⟩
    · go_enter Tryz.func293, Tryz.ntmps293
      go_wp2
      obtain ⟨w1, hw, H, hb⟩ := three w a b p
      rw [hw]
      obtain ⟨c0, c1, c2, c3, c4, c5, _⟩ := H
      replace c0 := rg c0
      replace c1 := rg c1
      replace c2 := rg c2
      replace c3 := rg c3
      replace c4 := rg c4
      replace c5 := rg c5
      refine wp_region_quiet_below (by kernel_rfl) (by kernel_rfl) ?_
      repeat (go_big_quiet_step ((first | (go_at_call 146; exact Calls.regrown_same (l00Min_c _ _ _)) | (go_at_call 147; exact Calls.regrown_same (l00Max_c _ _ _)) | (go_at_call 116; first | with_reducible exact Calls.regrown_same (as_bool h1 (l00In_c p.X _ _ _)) | with_reducible exact Calls.regrown_same (as_bool h2 (l00In_c p.Y _ _ _))))))
      refine wpQuiet_nil ?_
      intro w2 hw'
      replace hb := upw hb (grown_of hw')
      clear hw'
      go_wp2
      go_ret
      exact ⟨ret_bool (by simp [betw, h1, h2]), hb⟩
set_option maxHeartbeats 400000 in
theorem l07On_c (a b p : Spot) (w : World) (ha : okSpot a = true) (hb : okSpot b = true) (hp : okSpot p = true) :
    Calls Tryz.prog 271 #[.agg #[.int .i64 a.X, .int .i64 a.Y], .agg #[.int .i64 b.X, .int .i64 b.Y], .agg #[.int .i64 p.X, .int .i64 p.Y]] w fun e w' => e = .returned (.bool (onS a b p)) ∧ Below w.heap.size w w' := by
  cases h1 : crs a b p == 0
  · go_enter Tryz.func271, Tryz.ntmps271
    go_wp2_with fail
    obtain ⟨w1, hw, H, hbw⟩ := three w a b p
    rw [hw]
    refine (l07Cross_c a b p _ ha hb hp).mono ?_
    rintro e w2 ⟨rfl, hb2⟩
    go_wp2_with fail
    go_ret
    exact ⟨ret_bool (by simp [onS, h1]), upw hbw hb2⟩
  · go_enter Tryz.func271, Tryz.ntmps271
    go_wp2_with fail
    obtain ⟨w1, hw, H, hbw⟩ := three w a b p
    rw [hw]
    refine (l07Cross_c a b p _ ha hb hp).mono ?_
    rintro e w2 ⟨rfl, hb2⟩
    obtain ⟨c0, c1, c2, c3, c4, c5, _⟩ := H.below hb2
    go_wp2_with fail
    refine (l07Between_c a b p _).mono ?_
    rintro e w3 ⟨rfl, hb3⟩
    go_wp2_with fail
    go_ret
    exact ⟨ret_bool (by simp [onS, h1]), upw (upw hbw hb2) hb3⟩
/-- -1, 0 or 1. -/
def sgn (n : Int) : Int := min (max n (-1)) 1
theorem sgn_mul (x y : Int) : -1 ≤ sgn x * sgn y ∧ sgn x * sgn y ≤ 1 := mul_in' (A := 1) (B := 1) (by unfold sgn; omega) (by unfold sgn; omega) (by unfold sgn; omega) (by unfold sgn; omega)
theorem sign_c (n : Int) (w : World) : Calls Tryz.prog 216 #[.int .i64 n] w fun e w' => e = .returned (.int .i64 (sgn n)) ∧ w = w' := by
  go_enter Tryz.func216, Tryz.ntmps216
  go_wp2
  all_goals go_ret
  all_goals exact ⟨ret_int (by unfold sgn; omega), rfl⟩
theorem l07Sign_c (n : Int) (w : World) : Calls Tryz.prog 272 #[.int .i64 n] w fun e w' => e = .returned (.int .i64 (sgn n)) ∧ w = w' := by
  go_enter Tryz.func272, Tryz.ntmps272
  go_wp2
  all_goals go_ret
  all_goals exact ⟨ret_int (by unfold sgn; omega), rfl⟩
/-- Two sides have a spot in common. -/
def meetS (a b c d : Spot) : Bool := onS a b c || onS a b d || onS c d a || onS c d b || (decide (sgn (crs a b c) * sgn (crs a b d) < 0) && decide (sgn (crs c d a) * sgn (crs c d b) < 0))
set_option maxHeartbeats 1600000 in
theorem meet_c (a b c d : Spot) (w : World) (ha : okSpot a = true) (hb : okSpot b = true) (hc : okSpot c = true) (hd : okSpot d = true) :
    Calls Tryz.prog 184 #[.agg #[.int .i64 a.X, .int .i64 a.Y], .agg #[.int .i64 b.X, .int .i64 b.Y], .agg #[.int .i64 c.X, .int .i64 c.Y], .agg #[.int .i64 d.X, .int .i64 d.Y]] w fun e w' => e = .returned (.bool (meetS a b c d)) ∧ Below w.heap.size w w' := by
  have m1 := sgn_mul (crs a b c) (crs a b d)
  have m2 := sgn_mul (crs c d a) (crs c d b)
  cases h1 : onS a b c
  · cases h2 : onS a b d
    · cases h3 : onS c d a
      · cases h4 : onS c d b
        · cases h5 : decide (sgn (crs a b c) * sgn (crs a b d) < 0)
          · go_enter Tryz.func184, Tryz.ntmps184
            go_wp2_with fail
            obtain ⟨w1, hw, H, hbw⟩ := four w a b c d
            rw [hw]
            refine (isOn_c _ _ _ _ (by assumption) (by assumption) (by assumption)).mono ?_
            rintro e w2 ⟨rfl, hb2⟩
            replace H := H.below hb2
            replace hbw := upw hbw hb2
            clear hb2
            obtain ⟨⟨c0, c1, c2, c3, c4, c5, _⟩, c6, c7, _⟩ := id H
            go_wp2_with (go_at_call 215; refine (isOn_c _ _ _ _ (by assumption) (by assumption) (by assumption)).mono ?_; rintro e w2 ⟨rfl, hb2⟩; replace H := H.below hb2; replace hbw := upw hbw hb2; clear hb2 c0 c1 c2 c3 c4 c5 c6 c7; obtain ⟨⟨c0, c1, c2, c3, c4, c5, _⟩, c6, c7, _⟩ := id H)
            replace c0 := rg c0
            replace c1 := rg c1
            replace c2 := rg c2
            replace c3 := rg c3
            replace c4 := rg c4
            replace c5 := rg c5
            replace c6 := rg c6
            replace c7 := rg c7
            have hB := hb
            clear hb
            have hb := hbw
            refine wp_region_quiet_below (by kernel_rfl) (by kernel_rfl) ?_
            repeat (go_big_quiet_step ((first | (go_at_call 183; exact Calls.regrown_of (cross_c _ _ _ _ (by assumption) (by assumption) (by assumption))) | (go_at_call 216; exact Calls.regrown_same (sign_c _ _)))))
            refine wpQuiet_nil ?_
            intro w2 hw'
            replace hb := upw hb (grown_of hw')
            clear hw'
            go_wp2
            go_ret
            exact ⟨ret_bool (by simp [meetS, h1, h2, h3, h4, h5]), hb⟩
          · cases h6 : decide (sgn (crs c d a) * sgn (crs c d b) < 0)
            all_goals
              go_enter Tryz.func184, Tryz.ntmps184
              go_wp2_with fail
              obtain ⟨w1, hw, H, hbw⟩ := four w a b c d
              rw [hw]
              refine (isOn_c _ _ _ _ (by assumption) (by assumption) (by assumption)).mono ?_
              rintro e w2 ⟨rfl, hb2⟩
              replace H := H.below hb2
              replace hbw := upw hbw hb2
              clear hb2
              obtain ⟨⟨c0, c1, c2, c3, c4, c5, _⟩, c6, c7, _⟩ := id H
              go_wp2_with (go_at_call 215; refine (isOn_c _ _ _ _ (by assumption) (by assumption) (by assumption)).mono ?_; rintro e w2 ⟨rfl, hb2⟩; replace H := H.below hb2; replace hbw := upw hbw hb2; clear hb2 c0 c1 c2 c3 c4 c5 c6 c7; obtain ⟨⟨c0, c1, c2, c3, c4, c5, _⟩, c6, c7, _⟩ := id H)
              replace c0 := rg c0
              replace c1 := rg c1
              replace c2 := rg c2
              replace c3 := rg c3
              replace c4 := rg c4
              replace c5 := rg c5
              replace c6 := rg c6
              replace c7 := rg c7
              have hB := hb
              clear hb
              have hb := hbw
              refine wp_region_quiet_below (by kernel_rfl) (by kernel_rfl) ?_
              repeat (go_big_quiet_step ((first | (go_at_call 183; exact Calls.regrown_of (cross_c _ _ _ _ (by assumption) (by assumption) (by assumption))) | (go_at_call 216; exact Calls.regrown_same (sign_c _ _)))))
              refine wpQuiet_nil ?_
              intro w2 hw'
              replace hb := upw hb (grown_of hw')
              clear hw'
              go_wp2
              go_ret
              exact ⟨ret_bool (by simp [meetS, h1, h2, h3, h4, h5, h6]), hb⟩
        · go_enter Tryz.func184, Tryz.ntmps184
          go_wp2_with fail
          obtain ⟨w1, hw, H, hbw⟩ := four w a b c d
          rw [hw]
          refine (isOn_c _ _ _ _ (by assumption) (by assumption) (by assumption)).mono ?_
          rintro e w2 ⟨rfl, hb2⟩
          replace H := H.below hb2
          replace hbw := upw hbw hb2
          clear hb2
          obtain ⟨⟨c0, c1, c2, c3, c4, c5, _⟩, c6, c7, _⟩ := id H
          go_wp2_with (go_at_call 215; refine (isOn_c _ _ _ _ (by assumption) (by assumption) (by assumption)).mono ?_; rintro e w2 ⟨rfl, hb2⟩; replace H := H.below hb2; replace hbw := upw hbw hb2; clear hb2 c0 c1 c2 c3 c4 c5 c6 c7; obtain ⟨⟨c0, c1, c2, c3, c4, c5, _⟩, c6, c7, _⟩ := id H)
          go_ret
          exact ⟨ret_bool (by simp [meetS, h1, h2, h3, h4]), hbw⟩
      · go_enter Tryz.func184, Tryz.ntmps184
        go_wp2_with fail
        obtain ⟨w1, hw, H, hbw⟩ := four w a b c d
        rw [hw]
        refine (isOn_c _ _ _ _ (by assumption) (by assumption) (by assumption)).mono ?_
        rintro e w2 ⟨rfl, hb2⟩
        replace H := H.below hb2
        replace hbw := upw hbw hb2
        clear hb2
        obtain ⟨⟨c0, c1, c2, c3, c4, c5, _⟩, c6, c7, _⟩ := id H
        go_wp2_with (go_at_call 215; refine (isOn_c _ _ _ _ (by assumption) (by assumption) (by assumption)).mono ?_; rintro e w2 ⟨rfl, hb2⟩; replace H := H.below hb2; replace hbw := upw hbw hb2; clear hb2 c0 c1 c2 c3 c4 c5 c6 c7; obtain ⟨⟨c0, c1, c2, c3, c4, c5, _⟩, c6, c7, _⟩ := id H)
        go_ret
        exact ⟨ret_bool (by simp [meetS, h1, h2, h3]), hbw⟩
    · go_enter Tryz.func184, Tryz.ntmps184
      go_wp2_with fail
      obtain ⟨w1, hw, H, hbw⟩ := four w a b c d
      rw [hw]
      refine (isOn_c _ _ _ _ (by assumption) (by assumption) (by assumption)).mono ?_
      rintro e w2 ⟨rfl, hb2⟩
      replace H := H.below hb2
      replace hbw := upw hbw hb2
      clear hb2
      obtain ⟨⟨c0, c1, c2, c3, c4, c5, _⟩, c6, c7, _⟩ := id H
      go_wp2_with (go_at_call 215; refine (isOn_c _ _ _ _ (by assumption) (by assumption) (by assumption)).mono ?_; rintro e w2 ⟨rfl, hb2⟩; replace H := H.below hb2; replace hbw := upw hbw hb2; clear hb2 c0 c1 c2 c3 c4 c5 c6 c7; obtain ⟨⟨c0, c1, c2, c3, c4, c5, _⟩, c6, c7, _⟩ := id H)
      go_ret
      exact ⟨ret_bool (by simp [meetS, h1, h2]), hbw⟩
  · go_enter Tryz.func184, Tryz.ntmps184
    go_wp2_with fail
    obtain ⟨w1, hw, H, hbw⟩ := four w a b c d
    rw [hw]
    refine (isOn_c _ _ _ _ (by assumption) (by assumption) (by assumption)).mono ?_
    rintro e w2 ⟨rfl, hb2⟩
    replace H := H.below hb2
    replace hbw := upw hbw hb2
    clear hb2
    obtain ⟨⟨c0, c1, c2, c3, c4, c5, _⟩, c6, c7, _⟩ := id H
    go_wp2_with (go_at_call 215; refine (isOn_c _ _ _ _ (by assumption) (by assumption) (by assumption)).mono ?_; rintro e w2 ⟨rfl, hb2⟩; replace H := H.below hb2; replace hbw := upw hbw hb2; clear hb2 c0 c1 c2 c3 c4 c5 c6 c7; obtain ⟨⟨c0, c1, c2, c3, c4, c5, _⟩, c6, c7, _⟩ := id H)
    go_ret
    exact ⟨ret_bool (by simp [meetS, h1]), hbw⟩
set_option maxHeartbeats 1600000 in
theorem l07Meet_c (a b c d : Spot) (w : World) (ha : okSpot a = true) (hb : okSpot b = true) (hc : okSpot c = true) (hd : okSpot d = true) :
    Calls Tryz.prog 238 #[.agg #[.int .i64 a.X, .int .i64 a.Y], .agg #[.int .i64 b.X, .int .i64 b.Y], .agg #[.int .i64 c.X, .int .i64 c.Y], .agg #[.int .i64 d.X, .int .i64 d.Y]] w fun e w' => e = .returned (.bool (meetS a b c d)) ∧ Below w.heap.size w w' := by
  have m1 := sgn_mul (crs a b c) (crs a b d)
  have m2 := sgn_mul (crs c d a) (crs c d b)
  cases h1 : onS a b c
  · cases h2 : onS a b d
    · cases h3 : onS c d a
      · cases h4 : onS c d b
        · cases h5 : decide (sgn (crs a b c) * sgn (crs a b d) < 0)
          · go_enter Tryz.func238, Tryz.ntmps238
            go_wp2_with fail
            obtain ⟨w1, hw, H, hbw⟩ := four w a b c d
            rw [hw]
            refine (l07On_c _ _ _ _ (by assumption) (by assumption) (by assumption)).mono ?_
            rintro e w2 ⟨rfl, hb2⟩
            replace H := H.below hb2
            replace hbw := upw hbw hb2
            clear hb2
            obtain ⟨⟨c0, c1, c2, c3, c4, c5, _⟩, c6, c7, _⟩ := id H
            go_wp2_with (go_at_call 271; refine (l07On_c _ _ _ _ (by assumption) (by assumption) (by assumption)).mono ?_; rintro e w2 ⟨rfl, hb2⟩; replace H := H.below hb2; replace hbw := upw hbw hb2; clear hb2 c0 c1 c2 c3 c4 c5 c6 c7; obtain ⟨⟨c0, c1, c2, c3, c4, c5, _⟩, c6, c7, _⟩ := id H)
            replace c0 := rg c0
            replace c1 := rg c1
            replace c2 := rg c2
            replace c3 := rg c3
            replace c4 := rg c4
            replace c5 := rg c5
            replace c6 := rg c6
            replace c7 := rg c7
            have hB := hb
            clear hb
            have hb := hbw
            refine wp_region_quiet_below (by kernel_rfl) (by kernel_rfl) ?_
            repeat (go_big_quiet_step ((first | (go_at_call 237; exact Calls.regrown_of (l07Cross_c _ _ _ _ (by assumption) (by assumption) (by assumption))) | (go_at_call 272; exact Calls.regrown_same (l07Sign_c _ _)))))
            refine wpQuiet_nil ?_
            intro w2 hw'
            replace hb := upw hb (grown_of hw')
            clear hw'
            go_wp2
            go_ret
            exact ⟨ret_bool (by simp [meetS, h1, h2, h3, h4, h5]), hb⟩
          · cases h6 : decide (sgn (crs c d a) * sgn (crs c d b) < 0)
            all_goals
              go_enter Tryz.func238, Tryz.ntmps238
              go_wp2_with fail
              obtain ⟨w1, hw, H, hbw⟩ := four w a b c d
              rw [hw]
              refine (l07On_c _ _ _ _ (by assumption) (by assumption) (by assumption)).mono ?_
              rintro e w2 ⟨rfl, hb2⟩
              replace H := H.below hb2
              replace hbw := upw hbw hb2
              clear hb2
              obtain ⟨⟨c0, c1, c2, c3, c4, c5, _⟩, c6, c7, _⟩ := id H
              go_wp2_with (go_at_call 271; refine (l07On_c _ _ _ _ (by assumption) (by assumption) (by assumption)).mono ?_; rintro e w2 ⟨rfl, hb2⟩; replace H := H.below hb2; replace hbw := upw hbw hb2; clear hb2 c0 c1 c2 c3 c4 c5 c6 c7; obtain ⟨⟨c0, c1, c2, c3, c4, c5, _⟩, c6, c7, _⟩ := id H)
              replace c0 := rg c0
              replace c1 := rg c1
              replace c2 := rg c2
              replace c3 := rg c3
              replace c4 := rg c4
              replace c5 := rg c5
              replace c6 := rg c6
              replace c7 := rg c7
              have hB := hb
              clear hb
              have hb := hbw
              refine wp_region_quiet_below (by kernel_rfl) (by kernel_rfl) ?_
              repeat (go_big_quiet_step ((first | (go_at_call 237; exact Calls.regrown_of (l07Cross_c _ _ _ _ (by assumption) (by assumption) (by assumption))) | (go_at_call 272; exact Calls.regrown_same (l07Sign_c _ _)))))
              refine wpQuiet_nil ?_
              intro w2 hw'
              replace hb := upw hb (grown_of hw')
              clear hw'
              go_wp2
              go_ret
              exact ⟨ret_bool (by simp [meetS, h1, h2, h3, h4, h5, h6]), hb⟩
        · go_enter Tryz.func238, Tryz.ntmps238
          go_wp2_with fail
          obtain ⟨w1, hw, H, hbw⟩ := four w a b c d
          rw [hw]
          refine (l07On_c _ _ _ _ (by assumption) (by assumption) (by assumption)).mono ?_
          rintro e w2 ⟨rfl, hb2⟩
          replace H := H.below hb2
          replace hbw := upw hbw hb2
          clear hb2
          obtain ⟨⟨c0, c1, c2, c3, c4, c5, _⟩, c6, c7, _⟩ := id H
          go_wp2_with (go_at_call 271; refine (l07On_c _ _ _ _ (by assumption) (by assumption) (by assumption)).mono ?_; rintro e w2 ⟨rfl, hb2⟩; replace H := H.below hb2; replace hbw := upw hbw hb2; clear hb2 c0 c1 c2 c3 c4 c5 c6 c7; obtain ⟨⟨c0, c1, c2, c3, c4, c5, _⟩, c6, c7, _⟩ := id H)
          go_ret
          exact ⟨ret_bool (by simp [meetS, h1, h2, h3, h4]), hbw⟩
      · go_enter Tryz.func238, Tryz.ntmps238
        go_wp2_with fail
        obtain ⟨w1, hw, H, hbw⟩ := four w a b c d
        rw [hw]
        refine (l07On_c _ _ _ _ (by assumption) (by assumption) (by assumption)).mono ?_
        rintro e w2 ⟨rfl, hb2⟩
        replace H := H.below hb2
        replace hbw := upw hbw hb2
        clear hb2
        obtain ⟨⟨c0, c1, c2, c3, c4, c5, _⟩, c6, c7, _⟩ := id H
        go_wp2_with (go_at_call 271; refine (l07On_c _ _ _ _ (by assumption) (by assumption) (by assumption)).mono ?_; rintro e w2 ⟨rfl, hb2⟩; replace H := H.below hb2; replace hbw := upw hbw hb2; clear hb2 c0 c1 c2 c3 c4 c5 c6 c7; obtain ⟨⟨c0, c1, c2, c3, c4, c5, _⟩, c6, c7, _⟩ := id H)
        go_ret
        exact ⟨ret_bool (by simp [meetS, h1, h2, h3]), hbw⟩
    · go_enter Tryz.func238, Tryz.ntmps238
      go_wp2_with fail
      obtain ⟨w1, hw, H, hbw⟩ := four w a b c d
      rw [hw]
      refine (l07On_c _ _ _ _ (by assumption) (by assumption) (by assumption)).mono ?_
      rintro e w2 ⟨rfl, hb2⟩
      replace H := H.below hb2
      replace hbw := upw hbw hb2
      clear hb2
      obtain ⟨⟨c0, c1, c2, c3, c4, c5, _⟩, c6, c7, _⟩ := id H
      go_wp2_with (go_at_call 271; refine (l07On_c _ _ _ _ (by assumption) (by assumption) (by assumption)).mono ?_; rintro e w2 ⟨rfl, hb2⟩; replace H := H.below hb2; replace hbw := upw hbw hb2; clear hb2 c0 c1 c2 c3 c4 c5 c6 c7; obtain ⟨⟨c0, c1, c2, c3, c4, c5, _⟩, c6, c7, _⟩ := id H)
      go_ret
      exact ⟨ret_bool (by simp [meetS, h1, h2]), hbw⟩
  · go_enter Tryz.func238, Tryz.ntmps238
    go_wp2_with fail
    obtain ⟨w1, hw, H, hbw⟩ := four w a b c d
    rw [hw]
    refine (l07On_c _ _ _ _ (by assumption) (by assumption) (by assumption)).mono ?_
    rintro e w2 ⟨rfl, hb2⟩
    replace H := H.below hb2
    replace hbw := upw hbw hb2
    clear hb2
    obtain ⟨⟨c0, c1, c2, c3, c4, c5, _⟩, c6, c7, _⟩ := id H
    go_wp2_with (go_at_call 271; refine (l07On_c _ _ _ _ (by assumption) (by assumption) (by assumption)).mono ?_; rintro e w2 ⟨rfl, hb2⟩; replace H := H.below hb2; replace hbw := upw hbw hb2; clear hb2 c0 c1 c2 c3 c4 c5 c6 c7; obtain ⟨⟨c0, c1, c2, c3, c4, c5, _⟩, c6, c7, _⟩ := id H)
    go_ret
    exact ⟨ret_bool (by simp [meetS, h1]), hbw⟩
end Go.Proofs.YtledlkggggpdpaaGreatDoor
