/- Chapter 3, scales: codes, the length of half sizes, the least and the nearest half sizes of a length. -/
import Derived.Test.YtaeinllbjkjhlaaDoorW06
import Derived.Test.YtaeinllbjkjhlaaDoorGcd2
namespace Go.Proofs.YtaeinllbjkjhlaaDoor
open Go.RowKit

/-- The code of a scale and a number. -/
def scCode (x : Scl) (n hi : Int) : Int := if okScl x then (if inr n 0 hi then 0 else 2) else 1
theorem scCode_bad {x : Scl} {n hi : Int} (h : okScl x = false) : scCode x n hi = 1 := by unfold scCode; rw [h]; rfl
theorem scCode_out {x : Scl} {n hi : Int} (h : okScl x = true) (h2 : inr n 0 hi = false) : scCode x n hi = 2 := by unfold scCode; rw [h, h2]; rfl
theorem scCode_ok {x : Scl} {n hi : Int} (h : okScl x = true) (h2 : inr n 0 hi = true) : scCode x n hi = 0 := by unfold scCode; rw [h, h2]; rfl
/-- The length of half sizes. -/
def lenN (x : Scl) (h : Int) : Int := lowN ((h + x.base) * x.num) x.den
def lenD (x : Scl) (h : Int) : Int := lowD ((h + x.base) * x.num) x.den
def lhN (x : Scl) (h : Int) : Int := if scCode x h 120 = 0 then lenN x h else 0
def lhD (x : Scl) (h : Int) : Int := if scCode x h 120 = 0 then lenD x h else 0
/-- The least half sizes from k on that are long enough, of d still to be tried. -/
def long (x : Scl) (n h : Int) : Bool := decide (n * x.den ≤ (h + x.base) * x.num)
def least (x : Scl) (n : Int) : Nat → Int → Option Int
  | 0, _ => none
  | d + 1, h => if long x n h then some h else least x n d (h + 1)
def hfHalf (x : Scl) (n : Int) : Int := if scCode x n 5000 = 0 then (least x n 121 0).getD 0 else 0
def hfCode (x : Scl) (n : Int) : Int := if scCode x n 5000 = 0 then (if (least x n 121 0).isSome then 0 else 3) else scCode x n 5000
def nhHalf (x : Scl) (n : Int) : Int := if scCode x n 5000 = 0 then ((nearest x n 1 : Nat) : Int) else 0
theorem len_in {x : Scl} {h : Int} (ok : okScl x = true) (hh : 0 ≤ h ∧ h ≤ 120) : (0 ≤ h + x.base ∧ h + x.base ≤ 220) ∧ (0 ≤ (h + x.base) * x.num ∧ (h + x.base) * x.num ≤ 220000) := by
  have := tgt_bound (x := x) (d := 1) (h := h) ok (by omega) hh
  exact ⟨this.1, this.2.1⟩
theorem scaleCode_c (x : Scl) (n : Int) (w : World) (hs : x.name.size ≤ 9223372036854775807) :
    Calls Tryd.prog 25 #[.agg #[.string x.name, .int .i64 x.base, .int .i64 x.num, .int .i64 x.den], .int .i64 n] w fun e w' => e = .returned (.int .i64 (scCode x n 5000)) ∧ Below w.heap.size w w' := by
  obtain ⟨w1, hw1, hb, c0, c1, c2, c3⟩ := scl_new w 25 x
  replace hw1 := Lib.hid hw1
  have hV := Lib.hid (implValidScale_c x w1 hs)
  clear hs
  cases h1 : okScl x
  · rw [scCode_bad h1]
    go_enter Tryd.func25, Tryd.ntmps25
    go_wp2_with (rw [← hw1.out])
    refine (as_boolB h1 hV.out).mono ?_
    rintro e w2 ⟨rfl, hb2⟩
    go_wp2_with fail
    go_ret
    exact ⟨rfl, upw hb hb2⟩
  cases h2 : inr n 0 5000
  · rw [scCode_out h1 h2]
    go_enter Tryd.func25, Tryd.ntmps25
    go_wp2_with (rw [← hw1.out])
    refine (as_boolB h1 hV.out).mono ?_
    rintro e w2 ⟨rfl, hb2⟩
    go_wp2_with ((with_reducible refine (as_bool h2 (within_c _ _ _ _)).mono ?_); rintro e w' ⟨rfl, rfl⟩)
    go_ret
    exact ⟨rfl, upw hb hb2⟩
  · rw [scCode_ok h1 h2]
    go_enter Tryd.func25, Tryd.ntmps25
    go_wp2_with (rw [← hw1.out])
    refine (as_boolB h1 hV.out).mono ?_
    rintro e w2 ⟨rfl, hb2⟩
    go_wp2_with ((with_reducible refine (as_bool h2 (within_c _ _ _ _)).mono ?_); rintro e w' ⟨rfl, rfl⟩)
    go_ret
    exact ⟨rfl, upw hb hb2⟩
theorem l03Length_c (x : Scl) (n : Int) (w : World) (hs : x.name.size ≤ 9223372036854775807) :
    Calls Tryd.prog 26 #[.agg #[.string x.name, .int .i64 x.base, .int .i64 x.num, .int .i64 x.den], .int .i64 n] w fun e w' => e = .returned (.int .i64 (scCode x n 5000)) ∧ Below w.heap.size w w' := by
  obtain ⟨w1, hw1, hb, c0, c1, c2, c3⟩ := scl_new w 25 x
  replace hw1 := Lib.hid hw1
  have hV := Lib.hid (l03Ok_c x w1 hs)
  clear hs
  cases h1 : okScl x
  · rw [scCode_bad h1]
    go_enter Tryd.func26, Tryd.ntmps26
    go_wp2_with (rw [← hw1.out])
    refine (as_boolB h1 hV.out).mono ?_
    rintro e w2 ⟨rfl, hb2⟩
    go_wp2_with fail
    go_ret
    exact ⟨rfl, upw hb hb2⟩
  cases h2 : inr n 0 5000
  · rw [scCode_out h1 h2]
    go_enter Tryd.func26, Tryd.ntmps26
    go_wp2_with (rw [← hw1.out])
    refine (as_boolB h1 hV.out).mono ?_
    rintro e w2 ⟨rfl, hb2⟩
    go_wp2_with ((with_reducible refine (as_bool h2 (l00In_c _ _ _ _)).mono ?_); rintro e w' ⟨rfl, rfl⟩)
    go_ret
    exact ⟨rfl, upw hb hb2⟩
  · rw [scCode_ok h1 h2]
    go_enter Tryd.func26, Tryd.ntmps26
    go_wp2_with (rw [← hw1.out])
    refine (as_boolB h1 hV.out).mono ?_
    rintro e w2 ⟨rfl, hb2⟩
    go_wp2_with ((with_reducible refine (as_bool h2 (l00In_c _ _ _ _)).mono ?_); rintro e w' ⟨rfl, rfl⟩)
    go_ret
    exact ⟨rfl, upw hb hb2⟩
theorem l03Code_c (x : Scl) (n : Int) (w : World) (hs : x.name.size ≤ 9223372036854775807) :
    Calls Tryd.prog 34 #[.agg #[.string x.name, .int .i64 x.base, .int .i64 x.num, .int .i64 x.den], .int .i64 n] w fun e w' => e = .returned (.int .i64 (scCode x n 120)) ∧ Below w.heap.size w w' := by
  obtain ⟨w1, hw1, hb, c0, c1, c2, c3⟩ := scl_new w 25 x
  replace hw1 := Lib.hid hw1
  have hV := Lib.hid (l03Ok_c x w1 hs)
  clear hs
  cases h1 : okScl x
  · rw [scCode_bad h1]
    go_enter Tryd.func34, Tryd.ntmps34
    go_wp2_with (rw [← hw1.out])
    refine (as_boolB h1 hV.out).mono ?_
    rintro e w2 ⟨rfl, hb2⟩
    go_wp2_with fail
    go_ret
    exact ⟨rfl, upw hb hb2⟩
  cases h2 : inr n 0 120
  · rw [scCode_out h1 h2]
    go_enter Tryd.func34, Tryd.ntmps34
    go_wp2_with (rw [← hw1.out])
    refine (as_boolB h1 hV.out).mono ?_
    rintro e w2 ⟨rfl, hb2⟩
    go_wp2_with ((with_reducible refine (as_bool h2 (l03Half_c _ _)).mono ?_); rintro e w' ⟨rfl, rfl⟩)
    go_ret
    exact ⟨rfl, upw hb hb2⟩
  · rw [scCode_ok h1 h2]
    go_enter Tryd.func34, Tryd.ntmps34
    go_wp2_with (rw [← hw1.out])
    refine (as_boolB h1 hV.out).mono ?_
    rintro e w2 ⟨rfl, hb2⟩
    go_wp2_with ((with_reducible refine (as_bool h2 (l03Half_c _ _)).mono ?_); rintro e w' ⟨rfl, rfl⟩)
    go_ret
    exact ⟨rfl, upw hb hb2⟩
theorem implNearestHalf_c (x : Scl) (n : Int) (w : World) (hs : x.name.size ≤ 9223372036854775807) :
    Calls Tryd.prog 8 #[.agg #[.string x.name, .int .i64 x.base, .int .i64 x.num, .int .i64 x.den], .int .i64 n] w fun e w' => e = .returned (.tuple #[.int .i64 (nhHalf x n), .int .i64 (scCode x n 5000)]) ∧ Below w.heap.size w w' := by
  obtain ⟨w1, hw1, hb, c0, c1, c2, c3⟩ := scl_new w 25 x
  replace hw1 := Lib.hid hw1
  have hV := Lib.hid (scaleCode_c x n w1 hs)
  clear hs
  by_cases h0 : scCode x n 5000 = 0
  · have e0 := Lib.hid (show nhHalf x n = ((nearest x n 1 : Nat) : Int) from if_pos h0)
    have ok : okScl x = true := by
      cases h : okScl x
      · rw [scCode_bad h] at h0; cases h0
      · rfl
    have hn : 0 ≤ n ∧ n ≤ 5000 := by
      cases h : inr n 0 5000
      · rw [scCode_out ok h] at h0; cases h0
      · exact inr_true.1 h
    rw [e0.out]
    rw [h0] at hV ⊢
    have hN := Lib.hid (fun w' => nearestHalf_c x n 1 w' ok (by omega) (by omega))
    clear e0 h0
    generalize ((nearest x n 1 : Nat) : Int) = m at *
    go_enter Tryd.func8, Tryd.ntmps8
    go_wp2_with (rw [← hw1.out])
    refine hV.out.mono ?_
    rintro e w2 ⟨rfl, hb2⟩
    replace c0 := kept_cell c0 hb2
    replace c1 := kept_cell c1 hb2
    replace c2 := kept_cell c2 hb2
    replace c3 := kept_cell c3 hb2
    go_wp2_with fail
    refine (hN.out _).mono ?_
    rintro e w3 ⟨rfl, hb3⟩
    go_wp2_with fail
    go_ret2
    exact ⟨rfl, upw (upw hb hb2) hb3⟩
  · have e0 : nhHalf x n = 0 := if_neg h0
    rw [e0]
    clear e0
    generalize scCode x n 5000 = cd at *
    go_enter Tryd.func8, Tryd.ntmps8
    go_wp2_with (rw [← hw1.out])
    refine hV.out.mono ?_
    rintro e w2 ⟨rfl, hb2⟩
    go_wp2_with fail
    go_ret2
    exact ⟨rfl, upw hb hb2⟩
theorem specNearestHalf_c (x : Scl) (n : Int) (w : World) (hs : x.name.size ≤ 9223372036854775807) :
    Calls Tryd.prog 9 #[.agg #[.string x.name, .int .i64 x.base, .int .i64 x.num, .int .i64 x.den], .int .i64 n] w fun e w' => e = .returned (.tuple #[.int .i64 (nhHalf x n), .int .i64 (scCode x n 5000)]) ∧ Below w.heap.size w w' := by
  obtain ⟨w1, hw1, hb, c0, c1, c2, c3⟩ := scl_new w 25 x
  replace hw1 := Lib.hid hw1
  have hV := Lib.hid (l03Length_c x n w1 hs)
  clear hs
  by_cases h0 : scCode x n 5000 = 0
  · have e0 := Lib.hid (show nhHalf x n = ((nearest x n 1 : Nat) : Int) from if_pos h0)
    have ok : okScl x = true := by
      cases h : okScl x
      · rw [scCode_bad h] at h0; cases h0
      · rfl
    have hn : 0 ≤ n ∧ n ≤ 5000 := by
      cases h : inr n 0 5000
      · rw [scCode_out ok h] at h0; cases h0
      · exact inr_true.1 h
    rw [e0.out]
    rw [h0] at hV ⊢
    have hN := Lib.hid (fun w' => l03Nearest_c x n 1 w' ok (by omega) (by omega))
    clear e0 h0
    generalize ((nearest x n 1 : Nat) : Int) = m at *
    go_enter Tryd.func9, Tryd.ntmps9
    go_wp2_with (rw [← hw1.out])
    refine hV.out.mono ?_
    rintro e w2 ⟨rfl, hb2⟩
    replace c0 := kept_cell c0 hb2
    replace c1 := kept_cell c1 hb2
    replace c2 := kept_cell c2 hb2
    replace c3 := kept_cell c3 hb2
    go_wp2_with fail
    refine (hN.out _).mono ?_
    rintro e w3 ⟨rfl, hb3⟩
    go_wp2_with fail
    go_ret2
    exact ⟨rfl, upw (upw hb hb2) hb3⟩
  · have e0 : nhHalf x n = 0 := if_neg h0
    rw [e0]
    clear e0
    generalize scCode x n 5000 = cd at *
    go_enter Tryd.func9, Tryd.ntmps9
    go_wp2_with (rw [← hw1.out])
    refine hV.out.mono ?_
    rintro e w2 ⟨rfl, hb2⟩
    go_wp2_with fail
    go_ret2
    exact ⟨rfl, upw hb hb2⟩
set_option maxHeartbeats 1600000 in
theorem implHalfFor_c (x : Scl) (n : Int) (w : World) (hs : x.name.size ≤ 9223372036854775807) :
    Calls Tryd.prog 6 #[.agg #[.string x.name, .int .i64 x.base, .int .i64 x.num, .int .i64 x.den], .int .i64 n] w fun e w' => e = .returned (.tuple #[.int .i64 (hfHalf x n), .int .i64 (hfCode x n)]) ∧ Below w.heap.size w w' := by
  obtain ⟨w1, hw1, hb, c0, c1, c2, c3⟩ := scl_new w 25 x
  replace hw1 := Lib.hid hw1
  have hV := Lib.hid (scaleCode_c x n w1 hs)
  clear hs
  by_cases h0 : scCode x n 5000 = 0
  · have ok : okScl x = true := by
      cases h : okScl x
      · rw [scCode_bad h] at h0; cases h0
      · rfl
    have hn : 0 ≤ n ∧ n ≤ 5000 := by
      cases h : inr n 0 5000
      · rw [scCode_out ok h] at h0; cases h0
      · exact inr_true.1 h
    have e1 : hfHalf x n = (least x n 121 0).getD 0 := if_pos h0
    have e2 : hfCode x n = if (least x n 121 0).isSome then 0 else 3 := if_pos h0
    have hA := Lib.hid (fun (k : Int) (hk : 0 ≤ k ∧ k ≤ 120) => len_in ok hk)
    have hB := n_bound (n := n) ok (by omega)
    obtain ⟨_, o1, o2, o3⟩ := okScl_iff.1 ok
    rw [e1, e2]
    rw [h0] at hV
    clear e1 e2 h0 ok
    obtain ⟨R, hR⟩ : ∃ R, R = least x n 121 0 := ⟨_, rfl⟩
    rw [← hR]
    replace hR := Lib.hid hR
    go_enter Tryd.func6, Tryd.ntmps6
    go_wp2_with (rw [← hw1.out])
    refine hV.out.mono ?_
    rintro e w2 ⟨rfl, hb2⟩
    replace c1 := kept_cell c1 hb2
    replace c2 := kept_cell c2 hb2
    replace c3 := kept_cell c3 hb2
    replace hb := upw hb hb2
    clear hb2 hV
    go_wp2_with fail
    go_loopw [7] (fun i wr => ∃ k d : Nat, k + d = 121 ∧ i = .int .i64 k ∧ Hid (R = least x n d k) ∧ wr = w2) (fun i _ => 121 - (intOf i).toNat)
    case atStart => exact ⟨0, 121, rfl, rfl, hR, rfl⟩
    case round =>
      obtain ⟨k, d, hk, rfl, hL, rfl⟩ := hrel
      cases d with
      | zero =>
        obtain rfl : R = none := hL.out
        have hk' : ¬ (k : Int) ≤ 120 := by omega
        go_wp2_with fail
        go_ret2
        exact ⟨rfl, hb⟩
      | succ d =>
        have hk' : (k : Int) ≤ 120 := by omega
        obtain ⟨t1, t2⟩ := hA.out k (by omega)
        by_cases hg : n * x.den ≤ ((k : Int) + x.base) * x.num
        · obtain rfl : R = some (k : Int) := hL.out.trans (if_pos (by simpa [long] using hg))
          go_wp2_with fail
          go_ret2
          exact ⟨rfl, hb⟩
        · have hL2 : Hid (R = least x n d ((k + 1 : Nat) : Int)) := Lib.hid (hL.out.trans (if_neg (by simpa [long] using hg)))
          go_wp2_with fail
          go_roundw
          case rel => exact ⟨k + 1, d, by omega, by go_num, hL2, by first | rfl | trivial⟩
          case measure => simp [intOf]; omega
  · have e1 : hfHalf x n = 0 := if_neg h0
    have e2 : hfCode x n = scCode x n 5000 := if_neg h0
    rw [e1, e2]
    clear e1 e2
    generalize scCode x n 5000 = cd at *
    go_enter Tryd.func6, Tryd.ntmps6
    go_wp2_with (rw [← hw1.out])
    refine hV.out.mono ?_
    rintro e w2 ⟨rfl, hb2⟩
    go_wp2_with fail
    go_ret2
    exact ⟨rfl, upw hb hb2⟩
set_option maxHeartbeats 1600000 in
theorem specHalfFor_c (x : Scl) (n : Int) (w : World) (hs : x.name.size ≤ 9223372036854775807) :
    Calls Tryd.prog 7 #[.agg #[.string x.name, .int .i64 x.base, .int .i64 x.num, .int .i64 x.den], .int .i64 n] w fun e w' => e = .returned (.tuple #[.int .i64 (hfHalf x n), .int .i64 (hfCode x n)]) ∧ Below w.heap.size w w' := by
  obtain ⟨w1, hw1, hb, c0, c1, c2, c3⟩ := scl_new w 25 x
  replace hw1 := Lib.hid hw1
  have hV := Lib.hid (l03Length_c x n w1 hs)
  clear hs
  by_cases h0 : scCode x n 5000 = 0
  · have ok : okScl x = true := by
      cases h : okScl x
      · rw [scCode_bad h] at h0; cases h0
      · rfl
    have hn : 0 ≤ n ∧ n ≤ 5000 := by
      cases h : inr n 0 5000
      · rw [scCode_out ok h] at h0; cases h0
      · exact inr_true.1 h
    have e1 : hfHalf x n = (least x n 121 0).getD 0 := if_pos h0
    have e2 : hfCode x n = if (least x n 121 0).isSome then 0 else 3 := if_pos h0
    have hA := Lib.hid (fun (k : Int) (hk : 0 ≤ k ∧ k ≤ 120) => len_in ok hk)
    have hB := n_bound (n := n) ok (by omega)
    obtain ⟨_, o1, o2, o3⟩ := okScl_iff.1 ok
    rw [e1, e2]
    rw [h0] at hV
    clear e1 e2 h0 ok
    obtain ⟨R, hR⟩ : ∃ R, R = least x n 121 0 := ⟨_, rfl⟩
    rw [← hR]
    replace hR := Lib.hid hR
    go_enter Tryd.func7, Tryd.ntmps7
    go_wp2_with (rw [← hw1.out])
    refine hV.out.mono ?_
    rintro e w2 ⟨rfl, hb2⟩
    replace c1 := kept_cell c1 hb2
    replace c2 := kept_cell c2 hb2
    replace c3 := kept_cell c3 hb2
    replace hb := upw hb hb2
    clear hb2 hV
    go_wp2_with fail
    go_loopw [7] (fun i wr => ∃ k d : Nat, k + d = 121 ∧ i = .int .i64 k ∧ Hid (R = least x n d k) ∧ wr = w2) (fun i _ => 121 - (intOf i).toNat)
    case atStart => exact ⟨0, 121, rfl, rfl, hR, rfl⟩
    case round =>
      obtain ⟨k, d, hk, rfl, hL, rfl⟩ := hrel
      cases d with
      | zero =>
        obtain rfl : R = none := hL.out
        have hk' : ¬ (k : Int) ≤ 120 := by omega
        go_wp2_with fail
        go_ret2
        exact ⟨rfl, hb⟩
      | succ d =>
        have hk' : (k : Int) ≤ 120 := by omega
        obtain ⟨t1, t2⟩ := hA.out k (by omega)
        by_cases hg : n * x.den ≤ ((k : Int) + x.base) * x.num
        · obtain rfl : R = some (k : Int) := hL.out.trans (if_pos (by simpa [long] using hg))
          go_wp2_with fail
          go_ret2
          exact ⟨rfl, hb⟩
        · have hL2 : Hid (R = least x n d ((k + 1 : Nat) : Int)) := Lib.hid (hL.out.trans (if_neg (by simpa [long] using hg)))
          go_wp2_with fail
          go_roundw
          case rel => exact ⟨k + 1, d, by omega, by go_num, hL2, by first | rfl | trivial⟩
          case measure => simp [intOf]; omega
  · have e1 : hfHalf x n = 0 := if_neg h0
    have e2 : hfCode x n = scCode x n 5000 := if_neg h0
    rw [e1, e2]
    clear e1 e2
    generalize scCode x n 5000 = cd at *
    go_enter Tryd.func7, Tryd.ntmps7
    go_wp2_with (rw [← hw1.out])
    refine hV.out.mono ?_
    rintro e w2 ⟨rfl, hb2⟩
    go_wp2_with fail
    go_ret2
    exact ⟨rfl, upw hb hb2⟩
end Go.Proofs.YtaeinllbjkjhlaaDoor
