/- Chapter 9, the first pair of notches that do not fit. -/
import Derived.Test.YtokoallbhbgkkaaL09m
namespace Go.Proofs.Ytokoallbhbgkkaa
open Go.RowKit

def nfOk (a b : Int) (xs ys : List Int) (m : Int) : Bool := inr a 1 5000 && inr b 1 5000 && decide (xs.length ≤ 10) && decide (ys.length ≤ 10) && rises xs 0 a && rises ys 0 b && inr m 0 5000
def nfBad (a b : Int) (xs ys : List Int) (m : Int) (i : Nat) : Bool := decide (m * min a b < size (xs.getD i 0 * b - ys.getD i 0 * a))
def nfRes (a b : Int) (xs ys : List Int) (m : Int) : Int × Int :=
  if nfOk a b xs ys m then (if xs.length = ys.length then (firstAt xs.length (nfBad a b xs ys m), 0) else (0, 9)) else (0, 2)
theorem nfBad_eq {a b : Int} {xs ys : List Int} {m : Int} {k : Nat} (h1 : k < xs.length) (h2 : k < ys.length) : nfBad a b xs ys m k = decide (m * min a b < size (xs[k] * b - ys[k] * a)) := by simp [nfBad, h1, h2]
theorem nf_bounds {a b x y m : Int} (ha : 1 ≤ a ∧ a ≤ 5000) (hb : 1 ≤ b ∧ b ≤ 5000) (hx : 0 ≤ x ∧ x ≤ a) (hy : 0 ≤ y ∧ y ≤ b) (hm : 0 ≤ m ∧ m ≤ 5000) :
    (0 ≤ x * b ∧ x * b ≤ 25000000) ∧ (0 ≤ y * a ∧ y * a ≤ 25000000) ∧ (0 ≤ m * min a b ∧ m * min a b ≤ 25000000) := by
  have h1 := mul_in (a := x) (b := b) (A := 5000) (B := 5000) hx.1 (by omega) (by omega) hb.2
  have h2 := mul_in (a := y) (b := a) (A := 5000) (B := 5000) hy.1 (by omega) (by omega) ha.2
  have h3 := mul_in (a := m) (b := min a b) (A := 5000) (B := 5000) hm.1 hm.2 (by omega) (by omega)
  exact ⟨by omega, by omega, by omega⟩
set_option maxHeartbeats 2000000 in
theorem implNotchFault_c (p q : Int) (a : Option Addr) (xs : List Int) (c : Nat) (a' : Option Addr) (ys : List Int) (c' : Nat) (m : Int) (w : World) (_hp : -9223372036854775808 ≤ p ∧ p ≤ 9223372036854775807) (_hq : -9223372036854775808 ≤ q ∧ q ≤ 9223372036854775807)
    (hx : At w a xs) (hl : xs.length ≤ 9223372036854775807) (hy : At w a' ys) (hl' : ys.length ≤ 9223372036854775807) (_hm : -9223372036854775808 ≤ m ∧ m ≤ 9223372036854775807) :
    Calls Try.prog 50 #[.int .i64 p, .int .i64 q, .slice a xs.length c, .slice a' ys.length c', .int .i64 m] w fun e w' => e = .returned (.tuple #[.int .i64 (nfRes p q xs ys m).1, .int .i64 (nfRes p q xs ys m).2]) ∧ Below w.heap.size w w' := by
  have hb := Below.refl w.heap.size w
  by_cases hok : nfOk p q xs ys m = true
  · have hok' := hok
    simp only [nfOk, Bool.and_eq_true, decide_eq_true_eq] at hok'
    obtain ⟨⟨⟨⟨⟨⟨h1, h2⟩, h3⟩, h4⟩, h5⟩, h6⟩, h7⟩ := hok'
    have h1' := inr_true.1 h1
    have h2' := inr_true.1 h2
    have h7' := inr_true.1 h7
    by_cases h8 : xs.length = ys.length
    · have hr : nfRes p q xs ys m = (firstAt xs.length (nfBad p q xs ys m), 0) := by rw [nfRes, if_pos hok, if_pos h8]
      rw [hr]
      have hne : ((xs.length : Int) != ys.length) = false := by simp [h8]
      have HL := Lib.hid h8
      clear hr hok h8
      go_enter Try.func50, Try.ntmps50
      go_wp2_with fail
      refine (isStripLength_c _ _).mono ?_
      rintro e w' ⟨rfl, rfl⟩
      go_wp2_with fail
      refine (isStripLength_c _ _).mono ?_
      rintro e w' ⟨rfl, rfl⟩
      go_wp2_with fail
      refine (isIncreasing_c _ _ _ _ _ _ hx hl).mono ?_
      rintro e w' ⟨rfl, rfl⟩
      go_wp2_with fail
      refine (isIncreasing_c _ _ _ _ _ _ hy hl').mono ?_
      rintro e w' ⟨rfl, rfl⟩
      go_wp2_with fail
      refine (within_c _ _ _ _).mono ?_
      rintro e w' ⟨rfl, rfl⟩
      go_wp2_with fail
      go_loopw [57] (fun i wr => ∃ k : Nat, k ≤ xs.length ∧ i = .int .i64 k ∧ Noneyet (nfBad p q xs ys m) k ∧ Below w.heap.size w wr) (fun i _ => xs.length - (intOf i).toNat)
      case atStart => exact ⟨0, Nat.zero_le _, rfl, noneyet_zero, hb⟩
      case round =>
        obtain ⟨k, hk, rfl, hs, hb⟩ := hrel
        have HS := Lib.hid hs
        clear hs
        by_cases hlt : k < xs.length
        · have hlt' : k < ys.length := by rw [← HL.out]; exact hlt
          replace hx := hx.below hb
          replace hy := hy.below hb
          obtain ⟨b, off, rfl⟩ := hx.addr hlt
          obtain ⟨b', off', rfl⟩ := hy.addr hlt'
          have c0 := rg (hx.int hlt)
          have d0 := rg (hy.int hlt')
          have hi1 := rises_in h5 hlt
          have hi2 := rises_in h6 hlt'
          have hbd := nf_bounds h1' h2' hi1 hi2 h7'
          obtain ⟨hbd1, hbd2, hbd3⟩ := hbd
          have hmin : (if q < p then q else p) = min p q := by omega
          have HB := Lib.hid (nfBad_eq (a := p) (b := q) (m := m) hlt hlt')
          go_wp2_with fail
          refine wp_region_quiet_below (by kernel_rfl) (by kernel_rfl) ?_
          repeat (go_big_quiet_step ((go_at_call 90; exact Calls.regrown_same (apart_c _ _ _ (by omega) (by omega)))))
          refine wpQuiet_nil ?_
          intro w2 hw'
          replace hb := upw hb (grown_of hw')
          clear hw'
          go_wp2_with fail
          · go_ret2
            exact ⟨ret2_int (firstAt_some hlt HS.out (by rw [HB.out]; simp; assumption)).symm rfl, hb⟩
          · go_roundw
            case rel => exact ⟨k + 1, by omega, by go_num, noneyet_succ HS.out (by rw [HB.out]; simp; assumption), hb⟩
            case measure => simp [intOf]; omega
        · go_wp2_with fail
          go_ret2
          exact ⟨ret2_int (firstAt_none (by omega) HS.out).symm rfl, hb⟩
    · have hr : nfRes p q xs ys m = (0, 9) := by rw [nfRes, if_pos hok, if_neg h8]
      rw [hr]
      have hne : ((xs.length : Int) != ys.length) = true := by simp; omega
      go_enter Try.func50, Try.ntmps50
      go_wp2_with fail
      refine (isStripLength_c _ _).mono ?_
      rintro e w' ⟨rfl, rfl⟩
      go_wp2_with fail
      refine (isStripLength_c _ _).mono ?_
      rintro e w' ⟨rfl, rfl⟩
      go_wp2_with fail
      refine (isIncreasing_c _ _ _ _ _ _ hx hl).mono ?_
      rintro e w' ⟨rfl, rfl⟩
      go_wp2_with fail
      refine (isIncreasing_c _ _ _ _ _ _ hy hl').mono ?_
      rintro e w' ⟨rfl, rfl⟩
      go_wp2_with fail
      refine (within_c _ _ _ _).mono ?_
      rintro e w' ⟨rfl, rfl⟩
      go_wp2_with fail
      go_ret2
      exact ⟨rfl, hb⟩
  · have hr : nfRes p q xs ys m = (0, 2) := by rw [nfRes, if_neg hok]
    rw [hr]
    cases h1 : inr p 1 5000
    · first
        | (refine absurd ?_ hok; simp only [decide_eq_true_eq, decide_eq_false_iff_not] at *; simp [nfOk, h1]; omega)
        | (clear hok hr
           go_enter Try.func50, Try.ntmps50
           go_wp2_with (first | (go_at_call 88; refine (isStripLength_c _ _).mono ?_; rintro e w' ⟨rfl, rfl⟩) | (go_at_call 97; (first | (with_reducible refine (isIncreasing_c _ xs _ _ _ _ hx hl).mono ?_) | (with_reducible refine (isIncreasing_c _ ys _ _ _ _ hy hl').mono ?_)); rintro e w' ⟨rfl, rfl⟩) | (go_at_call 62; refine (within_c _ _ _ _).mono ?_; rintro e w' ⟨rfl, rfl⟩))
           go_ret2
           exact ⟨rfl, hb⟩)
    · cases h2 : inr q 1 5000
      · first
          | (refine absurd ?_ hok; simp only [decide_eq_true_eq, decide_eq_false_iff_not] at *; simp [nfOk, h1, h2]; omega)
          | (clear hok hr
             go_enter Try.func50, Try.ntmps50
             go_wp2_with (first | (go_at_call 88; refine (isStripLength_c _ _).mono ?_; rintro e w' ⟨rfl, rfl⟩) | (go_at_call 97; (first | (with_reducible refine (isIncreasing_c _ xs _ _ _ _ hx hl).mono ?_) | (with_reducible refine (isIncreasing_c _ ys _ _ _ _ hy hl').mono ?_)); rintro e w' ⟨rfl, rfl⟩) | (go_at_call 62; refine (within_c _ _ _ _).mono ?_; rintro e w' ⟨rfl, rfl⟩))
             go_ret2
             exact ⟨rfl, hb⟩)
      · cases h3 : decide ((10 : Int) < xs.length)
        · cases h4 : decide ((10 : Int) < ys.length)
          · cases h5 : rises xs 0 p
            · first
                | (refine absurd ?_ hok; simp only [decide_eq_true_eq, decide_eq_false_iff_not] at *; simp [nfOk, h1, h2, h3, h4, h5]; omega)
                | (clear hok hr
                   go_enter Try.func50, Try.ntmps50
                   go_wp2_with (first | (go_at_call 88; refine (isStripLength_c _ _).mono ?_; rintro e w' ⟨rfl, rfl⟩) | (go_at_call 97; (first | (with_reducible refine (isIncreasing_c _ xs _ _ _ _ hx hl).mono ?_) | (with_reducible refine (isIncreasing_c _ ys _ _ _ _ hy hl').mono ?_)); rintro e w' ⟨rfl, rfl⟩) | (go_at_call 62; refine (within_c _ _ _ _).mono ?_; rintro e w' ⟨rfl, rfl⟩))
                   go_ret2
                   exact ⟨rfl, hb⟩)
            · cases h6 : rises ys 0 q
              · first
                  | (refine absurd ?_ hok; simp only [decide_eq_true_eq, decide_eq_false_iff_not] at *; simp [nfOk, h1, h2, h3, h4, h5, h6]; omega)
                  | (clear hok hr
                     go_enter Try.func50, Try.ntmps50
                     go_wp2_with (first | (go_at_call 88; refine (isStripLength_c _ _).mono ?_; rintro e w' ⟨rfl, rfl⟩) | (go_at_call 97; (first | (with_reducible refine (isIncreasing_c _ xs _ _ _ _ hx hl).mono ?_) | (with_reducible refine (isIncreasing_c _ ys _ _ _ _ hy hl').mono ?_)); rintro e w' ⟨rfl, rfl⟩) | (go_at_call 62; refine (within_c _ _ _ _).mono ?_; rintro e w' ⟨rfl, rfl⟩))
                     go_ret2
                     exact ⟨rfl, hb⟩)
              · cases h7 : inr m 0 5000
                · first
                    | (refine absurd ?_ hok; simp only [decide_eq_true_eq, decide_eq_false_iff_not] at *; simp [nfOk, h1, h2, h3, h4, h5, h6, h7]; omega)
                    | (clear hok hr
                       go_enter Try.func50, Try.ntmps50
                       go_wp2_with (first | (go_at_call 88; refine (isStripLength_c _ _).mono ?_; rintro e w' ⟨rfl, rfl⟩) | (go_at_call 97; (first | (with_reducible refine (isIncreasing_c _ xs _ _ _ _ hx hl).mono ?_) | (with_reducible refine (isIncreasing_c _ ys _ _ _ _ hy hl').mono ?_)); rintro e w' ⟨rfl, rfl⟩) | (go_at_call 62; refine (within_c _ _ _ _).mono ?_; rintro e w' ⟨rfl, rfl⟩))
                       go_ret2
                       exact ⟨rfl, hb⟩)
                · first
                    | (refine absurd ?_ hok; simp only [decide_eq_true_eq, decide_eq_false_iff_not] at *; simp [nfOk, h1, h2, h3, h4, h5, h6, h7]; omega)
                    | (clear hok hr
                       go_enter Try.func50, Try.ntmps50
                       go_wp2_with (first | (go_at_call 88; refine (isStripLength_c _ _).mono ?_; rintro e w' ⟨rfl, rfl⟩) | (go_at_call 97; (first | (with_reducible refine (isIncreasing_c _ xs _ _ _ _ hx hl).mono ?_) | (with_reducible refine (isIncreasing_c _ ys _ _ _ _ hy hl').mono ?_)); rintro e w' ⟨rfl, rfl⟩) | (go_at_call 62; refine (within_c _ _ _ _).mono ?_; rintro e w' ⟨rfl, rfl⟩))
                       go_ret2
                       exact ⟨rfl, hb⟩)
          · first
              | (refine absurd ?_ hok; simp only [decide_eq_true_eq, decide_eq_false_iff_not] at *; simp [nfOk, h1, h2, h3, h4]; omega)
              | (clear hok hr
                 go_enter Try.func50, Try.ntmps50
                 go_wp2_with (first | (go_at_call 88; refine (isStripLength_c _ _).mono ?_; rintro e w' ⟨rfl, rfl⟩) | (go_at_call 97; (first | (with_reducible refine (isIncreasing_c _ xs _ _ _ _ hx hl).mono ?_) | (with_reducible refine (isIncreasing_c _ ys _ _ _ _ hy hl').mono ?_)); rintro e w' ⟨rfl, rfl⟩) | (go_at_call 62; refine (within_c _ _ _ _).mono ?_; rintro e w' ⟨rfl, rfl⟩))
                 go_ret2
                 exact ⟨rfl, hb⟩)
        · first
            | (refine absurd ?_ hok; simp only [decide_eq_true_eq, decide_eq_false_iff_not] at *; simp [nfOk, h1, h2, h3]; omega)
            | (clear hok hr
               go_enter Try.func50, Try.ntmps50
               go_wp2_with (first | (go_at_call 88; refine (isStripLength_c _ _).mono ?_; rintro e w' ⟨rfl, rfl⟩) | (go_at_call 97; (first | (with_reducible refine (isIncreasing_c _ xs _ _ _ _ hx hl).mono ?_) | (with_reducible refine (isIncreasing_c _ ys _ _ _ _ hy hl').mono ?_)); rintro e w' ⟨rfl, rfl⟩) | (go_at_call 62; refine (within_c _ _ _ _).mono ?_; rintro e w' ⟨rfl, rfl⟩))
               go_ret2
               exact ⟨rfl, hb⟩)
set_option maxHeartbeats 2000000 in
theorem specNotchFault_c (p q : Int) (a : Option Addr) (xs : List Int) (c : Nat) (a' : Option Addr) (ys : List Int) (c' : Nat) (m : Int) (w : World) (_hp : -9223372036854775808 ≤ p ∧ p ≤ 9223372036854775807) (_hq : -9223372036854775808 ≤ q ∧ q ≤ 9223372036854775807)
    (hx : At w a xs) (hl : xs.length ≤ 9223372036854775807) (hy : At w a' ys) (hl' : ys.length ≤ 9223372036854775807) (_hm : -9223372036854775808 ≤ m ∧ m ≤ 9223372036854775807) :
    Calls Try.prog 51 #[.int .i64 p, .int .i64 q, .slice a xs.length c, .slice a' ys.length c', .int .i64 m] w fun e w' => e = .returned (.tuple #[.int .i64 (nfRes p q xs ys m).1, .int .i64 (nfRes p q xs ys m).2]) ∧ Below w.heap.size w w' := by
  have hb := Below.refl w.heap.size w
  by_cases hok : nfOk p q xs ys m = true
  · have hok' := hok
    simp only [nfOk, Bool.and_eq_true, decide_eq_true_eq] at hok'
    obtain ⟨⟨⟨⟨⟨⟨h1, h2⟩, h3⟩, h4⟩, h5⟩, h6⟩, h7⟩ := hok'
    have h1' := inr_true.1 h1
    have h2' := inr_true.1 h2
    have h7' := inr_true.1 h7
    by_cases h8 : xs.length = ys.length
    · have hr : nfRes p q xs ys m = (firstAt xs.length (nfBad p q xs ys m), 0) := by rw [nfRes, if_pos hok, if_pos h8]
      rw [hr]
      have hne : ((xs.length : Int) != ys.length) = false := by simp [h8]
      have HL := Lib.hid h8
      clear hr hok h8
      go_enter Try.func51, Try.ntmps51
      go_wp2_with fail
      refine (l09Length_c _ _).mono ?_
      rintro e w' ⟨rfl, rfl⟩
      go_wp2_with fail
      refine (l09Length_c _ _).mono ?_
      rintro e w' ⟨rfl, rfl⟩
      go_wp2_with fail
      refine (l00Rises_c _ _ _ _ _ _ hx hl).mono ?_
      rintro e w2 ⟨rfl, hb2⟩
      replace hb := upw hb hb2
      go_wp2_with fail
      refine (l00Rises_c _ _ _ _ _ _ (hy.below hb) hl').mono ?_
      rintro e w2 ⟨rfl, hb2⟩
      replace hb := upw hb hb2
      go_wp2_with fail
      refine (l00In_c _ _ _ _).mono ?_
      rintro e w' ⟨rfl, rfl⟩
      go_wp2_with fail
      go_loopw [12] (fun i wr => ∃ k : Nat, k ≤ xs.length ∧ i = .int .i64 k ∧ Noneyet (nfBad p q xs ys m) k ∧ Below w.heap.size w wr) (fun i _ => xs.length - (intOf i).toNat)
      case atStart => exact ⟨0, Nat.zero_le _, rfl, noneyet_zero, hb⟩
      case round =>
        obtain ⟨k, hk, rfl, hs, hb⟩ := hrel
        have HS := Lib.hid hs
        clear hs
        by_cases hlt : k < xs.length
        · have hlt' : k < ys.length := by rw [← HL.out]; exact hlt
          replace hx := hx.below hb
          replace hy := hy.below hb
          obtain ⟨b, off, rfl⟩ := hx.addr hlt
          obtain ⟨b', off', rfl⟩ := hy.addr hlt'
          have c0 := rg (hx.int hlt)
          have d0 := rg (hy.int hlt')
          have hi1 := rises_in h5 hlt
          have hi2 := rises_in h6 hlt'
          have hbd := nf_bounds h1' h2' hi1 hi2 h7'
          obtain ⟨hbd1, hbd2, hbd3⟩ := hbd
          have hmin : (if q < p then q else p) = min p q := by omega
          have HB := Lib.hid (nfBad_eq (a := p) (b := q) (m := m) hlt hlt')
          go_wp2_with fail
          refine wp_region_quiet_below (by kernel_rfl) (by kernel_rfl) ?_
          repeat (go_big_quiet_step ((first | (go_at_call 94; exact Calls.regrown_same (l02Size_c _ _ (by omega))) | (go_at_call 99; exact Calls.regrown_same (l00Min_c _ _ _)))))
          refine wpQuiet_nil ?_
          intro w2 hw'
          replace hb := upw hb (grown_of hw')
          clear hw'
          go_wp2_with fail
          · go_ret2
            exact ⟨ret2_int (firstAt_some hlt HS.out (by rw [HB.out]; simp; assumption)).symm rfl, hb⟩
          · go_roundw
            case rel => exact ⟨k + 1, by omega, by go_num, noneyet_succ HS.out (by rw [HB.out]; simp; assumption), hb⟩
            case measure => simp [intOf]; omega
        · go_wp2_with fail
          go_ret2
          exact ⟨ret2_int (firstAt_none (by omega) HS.out).symm rfl, hb⟩
    · have hr : nfRes p q xs ys m = (0, 9) := by rw [nfRes, if_pos hok, if_neg h8]
      rw [hr]
      have hne : ((xs.length : Int) != ys.length) = true := by simp; omega
      go_enter Try.func51, Try.ntmps51
      go_wp2_with fail
      refine (l09Length_c _ _).mono ?_
      rintro e w' ⟨rfl, rfl⟩
      go_wp2_with fail
      refine (l09Length_c _ _).mono ?_
      rintro e w' ⟨rfl, rfl⟩
      go_wp2_with fail
      refine (l00Rises_c _ _ _ _ _ _ hx hl).mono ?_
      rintro e w2 ⟨rfl, hb2⟩
      replace hb := upw hb hb2
      go_wp2_with fail
      refine (l00Rises_c _ _ _ _ _ _ (hy.below hb) hl').mono ?_
      rintro e w2 ⟨rfl, hb2⟩
      replace hb := upw hb hb2
      go_wp2_with fail
      refine (l00In_c _ _ _ _).mono ?_
      rintro e w' ⟨rfl, rfl⟩
      go_wp2_with fail
      go_ret2
      exact ⟨rfl, hb⟩
  · have hr : nfRes p q xs ys m = (0, 2) := by rw [nfRes, if_neg hok]
    rw [hr]
    cases h1 : inr p 1 5000
    · first
        | (refine absurd ?_ hok; simp only [decide_eq_true_eq, decide_eq_false_iff_not] at *; simp [nfOk, h1]; omega)
        | (clear hok hr
           go_enter Try.func51, Try.ntmps51
           go_wp2_with (first | (go_at_call 91; refine (l09Length_c _ _).mono ?_; rintro e w' ⟨rfl, rfl⟩) | (go_at_call 98; (first | (with_reducible refine (l00Rises_c _ xs _ _ _ _ (hx.below hb) hl).mono ?_) | (with_reducible refine (l00Rises_c _ ys _ _ _ _ (hy.below hb) hl').mono ?_)); rintro e w2 ⟨rfl, hb2⟩; have hb := upw hb hb2) | (go_at_call 58; refine (l00In_c _ _ _ _).mono ?_; rintro e w' ⟨rfl, rfl⟩))
           go_ret2
           exact ⟨rfl, hb⟩)
    · cases h2 : inr q 1 5000
      · first
          | (refine absurd ?_ hok; simp only [decide_eq_true_eq, decide_eq_false_iff_not] at *; simp [nfOk, h1, h2]; omega)
          | (clear hok hr
             go_enter Try.func51, Try.ntmps51
             go_wp2_with (first | (go_at_call 91; refine (l09Length_c _ _).mono ?_; rintro e w' ⟨rfl, rfl⟩) | (go_at_call 98; (first | (with_reducible refine (l00Rises_c _ xs _ _ _ _ (hx.below hb) hl).mono ?_) | (with_reducible refine (l00Rises_c _ ys _ _ _ _ (hy.below hb) hl').mono ?_)); rintro e w2 ⟨rfl, hb2⟩; have hb := upw hb hb2) | (go_at_call 58; refine (l00In_c _ _ _ _).mono ?_; rintro e w' ⟨rfl, rfl⟩))
             go_ret2
             exact ⟨rfl, hb⟩)
      · cases h3 : rises xs 0 p
        · first
            | (refine absurd ?_ hok; simp only [decide_eq_true_eq, decide_eq_false_iff_not] at *; simp [nfOk, h1, h2, h3]; omega)
            | (clear hok hr
               go_enter Try.func51, Try.ntmps51
               go_wp2_with (first | (go_at_call 91; refine (l09Length_c _ _).mono ?_; rintro e w' ⟨rfl, rfl⟩) | (go_at_call 98; (first | (with_reducible refine (l00Rises_c _ xs _ _ _ _ (hx.below hb) hl).mono ?_) | (with_reducible refine (l00Rises_c _ ys _ _ _ _ (hy.below hb) hl').mono ?_)); rintro e w2 ⟨rfl, hb2⟩; have hb := upw hb hb2) | (go_at_call 58; refine (l00In_c _ _ _ _).mono ?_; rintro e w' ⟨rfl, rfl⟩))
               go_ret2
               exact ⟨rfl, hb⟩)
        · cases h4 : rises ys 0 q
          · first
              | (refine absurd ?_ hok; simp only [decide_eq_true_eq, decide_eq_false_iff_not] at *; simp [nfOk, h1, h2, h3, h4]; omega)
              | (clear hok hr
                 go_enter Try.func51, Try.ntmps51
                 go_wp2_with (first | (go_at_call 91; refine (l09Length_c _ _).mono ?_; rintro e w' ⟨rfl, rfl⟩) | (go_at_call 98; (first | (with_reducible refine (l00Rises_c _ xs _ _ _ _ (hx.below hb) hl).mono ?_) | (with_reducible refine (l00Rises_c _ ys _ _ _ _ (hy.below hb) hl').mono ?_)); rintro e w2 ⟨rfl, hb2⟩; have hb := upw hb hb2) | (go_at_call 58; refine (l00In_c _ _ _ _).mono ?_; rintro e w' ⟨rfl, rfl⟩))
                 go_ret2
                 exact ⟨rfl, hb⟩)
          · cases h5 : decide ((10 : Int) < xs.length)
            · cases h6 : decide ((10 : Int) < ys.length)
              · cases h7 : inr m 0 5000
                · first
                    | (refine absurd ?_ hok; simp only [decide_eq_true_eq, decide_eq_false_iff_not] at *; simp [nfOk, h1, h2, h3, h4, h5, h6, h7]; omega)
                    | (clear hok hr
                       go_enter Try.func51, Try.ntmps51
                       go_wp2_with (first | (go_at_call 91; refine (l09Length_c _ _).mono ?_; rintro e w' ⟨rfl, rfl⟩) | (go_at_call 98; (first | (with_reducible refine (l00Rises_c _ xs _ _ _ _ (hx.below hb) hl).mono ?_) | (with_reducible refine (l00Rises_c _ ys _ _ _ _ (hy.below hb) hl').mono ?_)); rintro e w2 ⟨rfl, hb2⟩; have hb := upw hb hb2) | (go_at_call 58; refine (l00In_c _ _ _ _).mono ?_; rintro e w' ⟨rfl, rfl⟩))
                       go_ret2
                       exact ⟨rfl, hb⟩)
                · first
                    | (refine absurd ?_ hok; simp only [decide_eq_true_eq, decide_eq_false_iff_not] at *; simp [nfOk, h1, h2, h3, h4, h5, h6, h7]; omega)
                    | (clear hok hr
                       go_enter Try.func51, Try.ntmps51
                       go_wp2_with (first | (go_at_call 91; refine (l09Length_c _ _).mono ?_; rintro e w' ⟨rfl, rfl⟩) | (go_at_call 98; (first | (with_reducible refine (l00Rises_c _ xs _ _ _ _ (hx.below hb) hl).mono ?_) | (with_reducible refine (l00Rises_c _ ys _ _ _ _ (hy.below hb) hl').mono ?_)); rintro e w2 ⟨rfl, hb2⟩; have hb := upw hb hb2) | (go_at_call 58; refine (l00In_c _ _ _ _).mono ?_; rintro e w' ⟨rfl, rfl⟩))
                       go_ret2
                       exact ⟨rfl, hb⟩)
              · first
                  | (refine absurd ?_ hok; simp only [decide_eq_true_eq, decide_eq_false_iff_not] at *; simp [nfOk, h1, h2, h3, h4, h5, h6]; omega)
                  | (clear hok hr
                     go_enter Try.func51, Try.ntmps51
                     go_wp2_with (first | (go_at_call 91; refine (l09Length_c _ _).mono ?_; rintro e w' ⟨rfl, rfl⟩) | (go_at_call 98; (first | (with_reducible refine (l00Rises_c _ xs _ _ _ _ (hx.below hb) hl).mono ?_) | (with_reducible refine (l00Rises_c _ ys _ _ _ _ (hy.below hb) hl').mono ?_)); rintro e w2 ⟨rfl, hb2⟩; have hb := upw hb hb2) | (go_at_call 58; refine (l00In_c _ _ _ _).mono ?_; rintro e w' ⟨rfl, rfl⟩))
                     go_ret2
                     exact ⟨rfl, hb⟩)
            · first
                | (refine absurd ?_ hok; simp only [decide_eq_true_eq, decide_eq_false_iff_not] at *; simp [nfOk, h1, h2, h3, h4, h5]; omega)
                | (clear hok hr
                   go_enter Try.func51, Try.ntmps51
                   go_wp2_with (first | (go_at_call 91; refine (l09Length_c _ _).mono ?_; rintro e w' ⟨rfl, rfl⟩) | (go_at_call 98; (first | (with_reducible refine (l00Rises_c _ xs _ _ _ _ (hx.below hb) hl).mono ?_) | (with_reducible refine (l00Rises_c _ ys _ _ _ _ (hy.below hb) hl').mono ?_)); rintro e w2 ⟨rfl, hb2⟩; have hb := upw hb hb2) | (go_at_call 58; refine (l00In_c _ _ _ _).mono ?_; rintro e w' ⟨rfl, rfl⟩))
                   go_ret2
                   exact ⟨rfl, hb⟩)
end Go.Proofs.Ytokoallbhbgkkaa
