/- Chapter 5, lengths that are graded and scaled: what the program and the reference answer. -/
import Derived.Test.YtlaclknhenccdaaL05
namespace Go.Proofs.Ytlaclknhenccdaa
open Go.RowKit

def glOk (xs : List Int) (s : Int) : Bool := okLens xs && inr s 1 1000000
def glCode (xs : List Int) (s : Int) : Int := if glOk xs s then 0 else 2
def glRes (xs : List Int) (s : Int) : List Int := if glOk xs s then shares s xs else []
theorem glRes_len (xs : List Int) (s : Int) : (glRes xs s).length ≤ 20 := by
  unfold glRes glOk
  split
  · rename_i h
    rw [Bool.and_eq_true] at h
    rw [shares_length]; exact (okLens_iff.1 h.1).1.2
  · simp
theorem glRes_sum {xs : List Int} {s : Int} (h : glCode xs s = 0) : sumI (glRes xs s) = s := by
  unfold glCode at h
  split at h
  · rename_i h1
    have h2 : okLens xs = true := by unfold glOk at h1; rw [Bool.and_eq_true] at h1; exact h1.1
    unfold glRes; rw [if_pos h1]; exact shares_sum s h2
  · cases h
theorem implGradeLengths_c (a : Option Addr) (xs : List Int) (c : Nat) (s : Int) (w : World) (hx : At w a xs) (hl : xs.length ≤ 9223372036854775807) :
    Calls Try.prog 13 #[.slice a xs.length c, .int .i64 s] w fun e w' => ∃ v, e = .returned (.tuple #[v, .int .i64 (glCode xs s)]) ∧ Own w.heap.size w' 2 v (glRes xs s) ∧ Below w.heap.size w w' := by
  have hb := Below.refl w.heap.size w
  cases h1 : okLens xs
  · have hr : glCode xs s = 2 := by simp [glCode, glOk, h1]
    have hr' : glRes xs s = [] := by simp [glRes, glOk, h1]
    rw [hr, hr']
    go_enter Try.func13, Try.ntmps13
    go_wp2_with fail
    refine (as_boolB h1 (areLengths_c _ _ _ _ hx hl)).mono ?_
    rintro e w2 ⟨rfl, hb2⟩
    replace hb := upw hb hb2
    go_wp2_with fail
    go_ret2
    exact ⟨_, rfl, World.ownsRow_nil _ _ _ _, hb⟩
  · cases h2 : inr s 1 1000000
    · have hr : glCode xs s = 2 := by simp [glCode, glOk, h2]
      have hr' : glRes xs s = [] := by simp [glRes, glOk, h2]
      rw [hr, hr']
      go_enter Try.func13, Try.ntmps13
      go_wp2_with fail
      refine (as_boolB h1 (areLengths_c _ _ _ _ hx hl)).mono ?_
      rintro e w2 ⟨rfl, hb2⟩
      replace hb := upw hb hb2
      go_wp2_with fail
      refine (as_bool h2 (within_c _ _ _ _)).mono ?_
      rintro e w' ⟨rfl, rfl⟩
      go_wp2_with fail
      go_ret2
      exact ⟨_, rfl, World.ownsRow_nil _ _ _ _, hb⟩
    · have hr : glCode xs s = 0 := by simp [glCode, glOk, h1, h2]
      have hr' : glRes xs s = shares s xs := by simp [glRes, glOk, h1, h2]
      have h3 := inr_true.1 h2
      rw [hr, hr']
      clear hr hr'
      go_enter Try.func13, Try.ntmps13
      go_wp2_with fail
      refine (as_boolB h1 (areLengths_c _ _ _ _ hx hl)).mono ?_
      rintro e w2 ⟨rfl, hb2⟩
      replace hb := upw hb hb2
      go_wp2_with fail
      refine (as_bool h2 (within_c _ _ _ _)).mono ?_
      rintro e w' ⟨rfl, rfl⟩
      go_wp2_with fail
      refine (shared_c a xs c s _ (hx.below hb) h1 (by omega)).mono ?_
      rintro e w3 ⟨v, rfl, hO, hb3⟩
      go_wp2_with fail
      go_ret2
      exact ⟨_, rfl, hO.base hb.size, upw hb hb3⟩
theorem specGradeLengths_c (a : Option Addr) (xs : List Int) (c : Nat) (s : Int) (w : World) (hx : At w a xs) (hl : xs.length ≤ 9223372036854775807) :
    Calls Try.prog 14 #[.slice a xs.length c, .int .i64 s] w fun e w' => ∃ v, e = .returned (.tuple #[v, .int .i64 (glCode xs s)]) ∧ Own w.heap.size w' 2 v (glRes xs s) ∧ Below w.heap.size w w' := by
  have hb := Below.refl w.heap.size w
  cases h1 : okLens xs
  · have hr : glCode xs s = 2 := by simp [glCode, glOk, h1]
    have hr' : glRes xs s = [] := by simp [glRes, glOk, h1]
    rw [hr, hr']
    go_enter Try.func14, Try.ntmps14
    go_wp2_with fail
    refine (as_boolB h1 (l05Lengths_c _ _ _ _ hx hl)).mono ?_
    rintro e w2 ⟨rfl, hb2⟩
    replace hb := upw hb hb2
    go_wp2_with fail
    go_ret2
    exact ⟨_, rfl, World.ownsRow_nil _ _ _ _, hb⟩
  · cases h2 : inr s 1 1000000
    · have hr : glCode xs s = 2 := by simp [glCode, glOk, h2]
      have hr' : glRes xs s = [] := by simp [glRes, glOk, h2]
      rw [hr, hr']
      go_enter Try.func14, Try.ntmps14
      go_wp2_with fail
      refine (as_boolB h1 (l05Lengths_c _ _ _ _ hx hl)).mono ?_
      rintro e w2 ⟨rfl, hb2⟩
      replace hb := upw hb hb2
      go_wp2_with fail
      refine (as_bool h2 (l00In_c _ _ _ _)).mono ?_
      rintro e w' ⟨rfl, rfl⟩
      go_wp2_with fail
      go_ret2
      exact ⟨_, rfl, World.ownsRow_nil _ _ _ _, hb⟩
    · have hr : glCode xs s = 0 := by simp [glCode, glOk, h1, h2]
      have hr' : glRes xs s = shares s xs := by simp [glRes, glOk, h1, h2]
      have h3 := inr_true.1 h2
      rw [hr, hr']
      clear hr hr'
      go_enter Try.func14, Try.ntmps14
      go_wp2_with fail
      refine (as_boolB h1 (l05Lengths_c _ _ _ _ hx hl)).mono ?_
      rintro e w2 ⟨rfl, hb2⟩
      replace hb := upw hb hb2
      go_wp2_with fail
      refine (as_bool h2 (l00In_c _ _ _ _)).mono ?_
      rintro e w' ⟨rfl, rfl⟩
      go_wp2_with fail
      refine (l05Grow_c a xs c s _ (hx.below hb) h1 (by omega)).mono ?_
      rintro e w3 ⟨v, rfl, hO, hb3⟩
      go_wp2_with fail
      go_ret2
      exact ⟨_, rfl, hO.base hb.size, upw hb hb3⟩
def gsOk (xs ys : List Int) (s : Int) : Bool := okLens xs && okLens ys && inr s 1 1000000
def gsSame (xs ys : List Int) : Bool := decide (sumI xs = sumI ys)
def gsCode (xs ys : List Int) (s : Int) : Int := if gsOk xs ys s then (if gsSame xs ys then 0 else 9) else 2
def gsRes (xs ys : List Int) (s : Int) (zs : List Int) : List Int := if gsOk xs ys s then (if gsSame xs ys then shares s zs else []) else []
theorem gsRes_len (xs ys : List Int) (s : Int) : (gsRes xs ys s xs).length ≤ 20 ∧ (gsRes xs ys s ys).length ≤ 20 := by
  unfold gsRes gsOk
  split
  · rename_i h
    rw [Bool.and_eq_true, Bool.and_eq_true] at h
    split
    · rw [shares_length, shares_length]; exact ⟨(okLens_iff.1 h.1.1).1.2, (okLens_iff.1 h.1.2).1.2⟩
    · simp
  · simp
theorem gsRes_sum {xs ys : List Int} {s : Int} (h : gsCode xs ys s = 0) : sumI (gsRes xs ys s xs) = s ∧ sumI (gsRes xs ys s ys) = s := by
  unfold gsCode at h
  split at h
  · rename_i h1
    split at h
    · rename_i h2
      have h3 := h1
      unfold gsOk at h3
      rw [Bool.and_eq_true, Bool.and_eq_true] at h3
      unfold gsRes; rw [if_pos h1, if_pos h2, if_pos h1, if_pos h2]
      exact ⟨shares_sum s h3.1.1, shares_sum s h3.1.2⟩
    · cases h
  · cases h
set_option maxHeartbeats 800000 in
theorem implGradeSeam_c (a a' : Option Addr) (xs ys : List Int) (c c' : Nat) (s : Int) (w : World) (hx : At w a xs) (hy : At w a' ys) (hl : xs.length ≤ 9223372036854775807) (hl' : ys.length ≤ 9223372036854775807) :
    Calls Try.prog 10 #[.slice a xs.length c, .slice a' ys.length c', .int .i64 s] w fun e w' => ∃ v u, e = .returned (.tuple #[v, u, .int .i64 (gsCode xs ys s)]) ∧ Own w.heap.size w' 2 v (gsRes xs ys s xs) ∧ Own w.heap.size w' 2 u (gsRes xs ys s ys) ∧ Below w.heap.size w w' := by
  have hb := Below.refl w.heap.size w
  cases h1 : okLens xs
  · have hr : gsCode xs ys s = 2 := by simp [gsCode, gsOk, h1]
    have hr' : ∀ zs, gsRes xs ys s zs = [] := by simp [gsRes, gsOk, h1]
    rw [hr, hr', hr']
    clear hr hr'
    go_enter Try.func10, Try.ntmps10
    go_wp2_with fail
    refine (as_boolB h1 (areLengths_c _ _ _ _ hx hl)).mono ?_
    rintro e w2 ⟨rfl, hb2⟩
    replace hb := upw hb hb2
    go_wp2_with fail
    go_ret3
    exact ⟨_, _, rfl, World.ownsRow_nil _ _ _ _, World.ownsRow_nil _ _ _ _, hb⟩
  · cases h2 : okLens ys
    · have hr : gsCode xs ys s = 2 := by simp [gsCode, gsOk, h2]
      have hr' : ∀ zs, gsRes xs ys s zs = [] := by simp [gsRes, gsOk, h2]
      rw [hr, hr', hr']
      clear hr hr'
      go_enter Try.func10, Try.ntmps10
      go_wp2_with fail
      refine (as_boolB h1 (areLengths_c _ _ _ _ hx hl)).mono ?_
      rintro e w2 ⟨rfl, hb2⟩
      replace hb := upw hb hb2
      go_wp2_with fail
      refine (as_boolB h2 (areLengths_c _ _ _ _ (hy.below hb) hl')).mono ?_
      rintro e w2 ⟨rfl, hb2⟩
      replace hb := upw hb hb2
      go_wp2_with fail
      go_ret3
      exact ⟨_, _, rfl, World.ownsRow_nil _ _ _ _, World.ownsRow_nil _ _ _ _, hb⟩
    · cases h3 : inr s 1 1000000
      · have hr : gsCode xs ys s = 2 := by simp [gsCode, gsOk, h3]
        have hr' : ∀ zs, gsRes xs ys s zs = [] := by simp [gsRes, gsOk, h3]
        rw [hr, hr', hr']
        clear hr hr'
        go_enter Try.func10, Try.ntmps10
        go_wp2_with fail
        refine (as_boolB h1 (areLengths_c _ _ _ _ hx hl)).mono ?_
        rintro e w2 ⟨rfl, hb2⟩
        replace hb := upw hb hb2
        go_wp2_with fail
        refine (as_boolB h2 (areLengths_c _ _ _ _ (hy.below hb) hl')).mono ?_
        rintro e w2 ⟨rfl, hb2⟩
        replace hb := upw hb hb2
        go_wp2_with fail
        refine (as_bool h3 (within_c _ _ _ _)).mono ?_
        rintro e w' ⟨rfl, rfl⟩
        go_wp2_with fail
        go_ret3
        exact ⟨_, _, rfl, World.ownsRow_nil _ _ _ _, World.ownsRow_nil _ _ _ _, hb⟩
      · have h4 := inr_true.1 h3
        have hS1 := Lib.hid (fun w' h => sumOf_c a xs c w' h hl (fun k _ => by have := lens_take h1 k; omega))
        have hS2 := Lib.hid (fun w' h => sumOf_c a' ys c' w' h hl' (fun k _ => by have := lens_take h2 k; omega))
        have hok : gsOk xs ys s = true := by simp [gsOk, h1, h2, h3]
        by_cases h5 : sumI xs = sumI ys
        · have hr : gsCode xs ys s = 0 := by simp [gsCode, hok, gsSame, h5]
          have hr' : ∀ zs, gsRes xs ys s zs = shares s zs := by simp [gsRes, hok, gsSame, h5]
          rw [hr, hr', hr']
          clear hr hr' hok
          have h5' : (sumI xs != sumI ys) = false := by simp [h5]
          replace h5 := Lib.hid h5
          go_enter Try.func10, Try.ntmps10
          go_wp2_with fail
          refine (as_boolB h1 (areLengths_c _ _ _ _ hx hl)).mono ?_
          rintro e w2 ⟨rfl, hb2⟩
          replace hb := upw hb hb2
          go_wp2_with fail
          refine (as_boolB h2 (areLengths_c _ _ _ _ (hy.below hb) hl')).mono ?_
          rintro e w2 ⟨rfl, hb2⟩
          replace hb := upw hb hb2
          go_wp2_with fail
          refine (as_bool h3 (within_c _ _ _ _)).mono ?_
          rintro e w' ⟨rfl, rfl⟩
          go_wp2_with fail
          refine (hS1.out _ (hx.below hb)).mono ?_
          rintro e w' ⟨rfl, rfl⟩
          go_wp2_with fail
          refine (hS2.out _ (hy.below hb)).mono ?_
          rintro e w' ⟨rfl, rfl⟩
          go_wp2_with fail
          refine (shared_c a xs c s _ (hx.below hb) h1 (by omega)).mono ?_
          rintro e w3 ⟨v, rfl, hO, hb3⟩
          have hsz := hb.size
          replace hb := upw hb hb3
          go_wp2_with fail
          refine (shared_c a' ys c' s _ (hy.below hb) h2 (by omega)).mono ?_
          rintro e w4 ⟨u, rfl, hO4, hb4⟩
          go_wp2_with fail
          go_ret3
          exact ⟨_, _, rfl, (hO.later hb4).base hsz, hO4.base hb.size, upw hb hb4⟩
        · have hr : gsCode xs ys s = 9 := by simp [gsCode, hok, gsSame, h5]
          have hr' : ∀ zs, gsRes xs ys s zs = [] := by simp [gsRes, hok, gsSame, h5]
          rw [hr, hr', hr']
          clear hr hr' hok
          have h5' : (sumI xs != sumI ys) = true := by simp [h5]
          replace h5 := Lib.hid h5
          go_enter Try.func10, Try.ntmps10
          go_wp2_with fail
          refine (as_boolB h1 (areLengths_c _ _ _ _ hx hl)).mono ?_
          rintro e w2 ⟨rfl, hb2⟩
          replace hb := upw hb hb2
          go_wp2_with fail
          refine (as_boolB h2 (areLengths_c _ _ _ _ (hy.below hb) hl')).mono ?_
          rintro e w2 ⟨rfl, hb2⟩
          replace hb := upw hb hb2
          go_wp2_with fail
          refine (as_bool h3 (within_c _ _ _ _)).mono ?_
          rintro e w' ⟨rfl, rfl⟩
          go_wp2_with fail
          refine (hS1.out _ (hx.below hb)).mono ?_
          rintro e w' ⟨rfl, rfl⟩
          go_wp2_with fail
          refine (hS2.out _ (hy.below hb)).mono ?_
          rintro e w' ⟨rfl, rfl⟩
          go_wp2_with fail
          go_ret3
          exact ⟨_, _, rfl, World.ownsRow_nil _ _ _ _, World.ownsRow_nil _ _ _ _, hb⟩
set_option maxHeartbeats 800000 in
theorem specGradeSeam_c (a a' : Option Addr) (xs ys : List Int) (c c' : Nat) (s : Int) (w : World) (hx : At w a xs) (hy : At w a' ys) (hl : xs.length ≤ 9223372036854775807) (hl' : ys.length ≤ 9223372036854775807) :
    Calls Try.prog 11 #[.slice a xs.length c, .slice a' ys.length c', .int .i64 s] w fun e w' => ∃ v u, e = .returned (.tuple #[v, u, .int .i64 (gsCode xs ys s)]) ∧ Own w.heap.size w' 2 v (gsRes xs ys s xs) ∧ Own w.heap.size w' 2 u (gsRes xs ys s ys) ∧ Below w.heap.size w w' := by
  have hb := Below.refl w.heap.size w
  cases h1 : okLens xs
  · have hr : gsCode xs ys s = 2 := by simp [gsCode, gsOk, h1]
    have hr' : ∀ zs, gsRes xs ys s zs = [] := by simp [gsRes, gsOk, h1]
    rw [hr, hr', hr']
    clear hr hr'
    go_enter Try.func11, Try.ntmps11
    go_wp2_with fail
    refine (as_boolB h1 (l05Lengths_c _ _ _ _ hx hl)).mono ?_
    rintro e w2 ⟨rfl, hb2⟩
    replace hb := upw hb hb2
    go_wp2_with fail
    go_ret3
    exact ⟨_, _, rfl, World.ownsRow_nil _ _ _ _, World.ownsRow_nil _ _ _ _, hb⟩
  · cases h2 : okLens ys
    · have hr : gsCode xs ys s = 2 := by simp [gsCode, gsOk, h2]
      have hr' : ∀ zs, gsRes xs ys s zs = [] := by simp [gsRes, gsOk, h2]
      rw [hr, hr', hr']
      clear hr hr'
      go_enter Try.func11, Try.ntmps11
      go_wp2_with fail
      refine (as_boolB h1 (l05Lengths_c _ _ _ _ hx hl)).mono ?_
      rintro e w2 ⟨rfl, hb2⟩
      replace hb := upw hb hb2
      go_wp2_with fail
      refine (as_boolB h2 (l05Lengths_c _ _ _ _ (hy.below hb) hl')).mono ?_
      rintro e w2 ⟨rfl, hb2⟩
      replace hb := upw hb hb2
      go_wp2_with fail
      go_ret3
      exact ⟨_, _, rfl, World.ownsRow_nil _ _ _ _, World.ownsRow_nil _ _ _ _, hb⟩
    · cases h3 : inr s 1 1000000
      · have hr : gsCode xs ys s = 2 := by simp [gsCode, gsOk, h3]
        have hr' : ∀ zs, gsRes xs ys s zs = [] := by simp [gsRes, gsOk, h3]
        rw [hr, hr', hr']
        clear hr hr'
        go_enter Try.func11, Try.ntmps11
        go_wp2_with fail
        refine (as_boolB h1 (l05Lengths_c _ _ _ _ hx hl)).mono ?_
        rintro e w2 ⟨rfl, hb2⟩
        replace hb := upw hb hb2
        go_wp2_with fail
        refine (as_boolB h2 (l05Lengths_c _ _ _ _ (hy.below hb) hl')).mono ?_
        rintro e w2 ⟨rfl, hb2⟩
        replace hb := upw hb hb2
        go_wp2_with fail
        refine (as_bool h3 (l00In_c _ _ _ _)).mono ?_
        rintro e w' ⟨rfl, rfl⟩
        go_wp2_with fail
        go_ret3
        exact ⟨_, _, rfl, World.ownsRow_nil _ _ _ _, World.ownsRow_nil _ _ _ _, hb⟩
      · have h4 := inr_true.1 h3
        have hS1 := Lib.hid (fun w' h => l02Sum_c a xs c w' h hl (fun k _ => by have := lens_take h1 k; omega))
        have hS2 := Lib.hid (fun w' h => l02Sum_c a' ys c' w' h hl' (fun k _ => by have := lens_take h2 k; omega))
        have hok : gsOk xs ys s = true := by simp [gsOk, h1, h2, h3]
        by_cases h5 : sumI xs = sumI ys
        · have hr : gsCode xs ys s = 0 := by simp [gsCode, hok, gsSame, h5]
          have hr' : ∀ zs, gsRes xs ys s zs = shares s zs := by simp [gsRes, hok, gsSame, h5]
          rw [hr, hr', hr']
          clear hr hr' hok
          have h5' : (sumI xs != sumI ys) = false := by simp [h5]
          replace h5 := Lib.hid h5
          go_enter Try.func11, Try.ntmps11
          go_wp2_with fail
          refine (as_boolB h1 (l05Lengths_c _ _ _ _ hx hl)).mono ?_
          rintro e w2 ⟨rfl, hb2⟩
          replace hb := upw hb hb2
          go_wp2_with fail
          refine (as_boolB h2 (l05Lengths_c _ _ _ _ (hy.below hb) hl')).mono ?_
          rintro e w2 ⟨rfl, hb2⟩
          replace hb := upw hb hb2
          go_wp2_with fail
          refine (as_bool h3 (l00In_c _ _ _ _)).mono ?_
          rintro e w' ⟨rfl, rfl⟩
          go_wp2_with fail
          refine (hS1.out _ (hx.below hb)).mono ?_
          rintro e w' ⟨rfl, rfl⟩
          go_wp2_with fail
          refine (hS2.out _ (hy.below hb)).mono ?_
          rintro e w' ⟨rfl, rfl⟩
          go_wp2_with fail
          refine (l05Grow_c a xs c s _ (hx.below hb) h1 (by omega)).mono ?_
          rintro e w3 ⟨v, rfl, hO, hb3⟩
          have hsz := hb.size
          replace hb := upw hb hb3
          go_wp2_with fail
          refine (l05Grow_c a' ys c' s _ (hy.below hb) h2 (by omega)).mono ?_
          rintro e w4 ⟨u, rfl, hO4, hb4⟩
          go_wp2_with fail
          go_ret3
          exact ⟨_, _, rfl, (hO.later hb4).base hsz, hO4.base hb.size, upw hb hb4⟩
        · have hr : gsCode xs ys s = 9 := by simp [gsCode, hok, gsSame, h5]
          have hr' : ∀ zs, gsRes xs ys s zs = [] := by simp [gsRes, hok, gsSame, h5]
          rw [hr, hr', hr']
          clear hr hr' hok
          have h5' : (sumI xs != sumI ys) = true := by simp [h5]
          replace h5 := Lib.hid h5
          go_enter Try.func11, Try.ntmps11
          go_wp2_with fail
          refine (as_boolB h1 (l05Lengths_c _ _ _ _ hx hl)).mono ?_
          rintro e w2 ⟨rfl, hb2⟩
          replace hb := upw hb hb2
          go_wp2_with fail
          refine (as_boolB h2 (l05Lengths_c _ _ _ _ (hy.below hb) hl')).mono ?_
          rintro e w2 ⟨rfl, hb2⟩
          replace hb := upw hb hb2
          go_wp2_with fail
          refine (as_bool h3 (l00In_c _ _ _ _)).mono ?_
          rintro e w' ⟨rfl, rfl⟩
          go_wp2_with fail
          refine (hS1.out _ (hx.below hb)).mono ?_
          rintro e w' ⟨rfl, rfl⟩
          go_wp2_with fail
          refine (hS2.out _ (hy.below hb)).mono ?_
          rintro e w' ⟨rfl, rfl⟩
          go_wp2_with fail
          go_ret3
          exact ⟨_, _, rfl, World.ownsRow_nil _ _ _ _, World.ownsRow_nil _ _ _ _, hb⟩
end Go.Proofs.Ytlaclknhenccdaa
