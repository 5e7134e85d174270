/- Chapter 9, edges and allowances: the contracts of the program's functions and of the reference's. -/
import Derived.Test.YtokoallbhbgkkaaStrip
import Derived.Test.YtokoallbhbgkkaaNum
import Derived.Test.YtokoallbhbgkkaaSearch
namespace Go.Proofs.Ytokoallbhbgkkaa
open Go.RowKit

set_option maxHeartbeats 800000 in
theorem isIncreasing_c (a : Option Addr) (xs : List Int) (c : Nat) (lo hi : Int) (w : World) (hx : At w a xs) (hl : xs.length ≤ 9223372036854775807) :
    Calls Try.prog 97 #[.slice a xs.length c, .int .i64 lo, .int .i64 hi] w fun e w' => e = .returned (.bool (rises xs lo hi)) ∧ w = w' := by
  go_enter Try.func97, Try.ntmps97
  go_wp2
  go_loop [11] (fun i => ∃ k : Nat, k ≤ xs.length ∧ i = .int .i64 k ∧ Sofar (riseAt xs lo hi) k) (fun i => xs.length - (intOf i).toNat)
  case atStart => exact ⟨0, Nat.zero_le _, rfl, sofar_zero⟩
  case round =>
    obtain ⟨k, hk, rfl, hs⟩ := hrel
    have HS := Lib.hid hs
    clear hs
    by_cases hlt : k < xs.length
    · obtain ⟨b, off, rfl⟩ := hx.addr hlt
      have c0 := hx.int hlt
      cases h1 : inr xs[k] lo hi
      · go_wp2_with (go_at_call 62; refine (within_c _ _ _ _).mono ?_; rintro e w' ⟨rfl, rfl⟩)
        go_ret
        exact ⟨ret_bool (allUpto_false hlt (riseAt_out hlt h1)).symm, rfl⟩
      · by_cases h0 : 0 < k
        · have hk1 : k - 1 < xs.length := by omega
          have c1 := hx.int hk1
          have hi1 : ((k : Int) - 1).toNat = k - 1 := by omega
          by_cases h2 : xs[k - 1] < xs[k]
          · go_wp2_with (go_at_call 62; refine (within_c _ _ _ _).mono ?_; rintro e w' ⟨rfl, rfl⟩)
            go_round
            case rel => exact ⟨k + 1, by omega, by go_num, sofar_succ HS.out (riseAt_yes hlt h1 h0 h2)⟩
            case measure => simp [intOf]; omega
          · go_wp2_with (go_at_call 62; refine (within_c _ _ _ _).mono ?_; rintro e w' ⟨rfl, rfl⟩)
            go_ret
            exact ⟨ret_bool (allUpto_false hlt (riseAt_not hlt h0 (by omega))).symm, rfl⟩
        · have hd : decide ((0 : Int) < (k : Int)) = false := by simp; omega
          go_wp2_with (go_at_call 62; refine (within_c _ _ _ _).mono ?_; rintro e w' ⟨rfl, rfl⟩)
          go_round
          case rel => exact ⟨k + 1, by omega, by go_num, sofar_succ HS.out (riseAt_first hlt h0 h1)⟩
          case measure => simp [intOf]; omega
    · go_wp2
      go_ret
      exact ⟨ret_bool (sofar_all HS.out (by omega)).symm, rfl⟩
/-- A list has a number that is not in a range. -/
def outs (xs : List Int) (lo hi : Int) : Bool := xs.any fun n => !inr n lo hi
theorem outs_false {xs : List Int} {lo hi : Int} : outs xs lo hi = false ↔ ∀ x ∈ xs, lo ≤ x ∧ x ≤ hi := by
  simp [outs, inr]
theorem outside1_c (n lo hi : Int) (p q : Addr) (w : World) (h1 : w.cell? p = some (.int .i64 lo)) (h2 : w.cell? q = some (.int .i64 hi)) :
    Calls Try.prog 115 #[.int .i64 n, .pointer (some p), .pointer (some q)] w fun e w' => e = .returned (.bool (!inr n lo hi)) ∧ w = w' := by
  go_enter Try.func115, Try.ntmps115
  go_wp2_with fail
  refine (within_c _ _ _ _).mono ?_
  rintro e w' ⟨rfl, rfl⟩
  go_wp2_with fail
  go_ret
  exact ⟨rfl, rfl⟩
theorem outside1_enters : Enters Try.prog 115 := enters_of Try.func115 (by kernel_rfl) (by kernel_rfl)
theorem outside_c (a : Option Addr) (xs : List Int) (c : Nat) (lo hi : Int) (w : World) (hx : At w a xs) (hl : xs.length ≤ 9223372036854775807) :
    Calls Try.prog 76 #[.slice a xs.length c, .int .i64 lo, .int .i64 hi] w fun e w' => e = .returned (.bool (outs xs lo hi)) ∧ Below w.heap.size w w' := by
  have hb0 : Below w.heap.size w ((w.alloc (.cells #[.int .i64 lo] 2)).alloc (.cells #[.int .i64 hi] 2)) := ((Below.refl _ _).alloc (by simp) _).alloc (by simp) _
  go_enter Try.func76, Try.ntmps76
  go_wp2_with fail
  refine (containsInts_any _ xs _ _ _ (fun n => !inr n lo hi) _ outside1_enters (hx.below hb0) hl (fun x _ w' hb' => ?_)).mono ?_
  · have e1 : w'.cell? ⟨w.heap.size, 0, none⟩ = some (.int .i64 lo) := by rw [hb'.cell (p := ⟨w.heap.size, 0, none⟩) (by simp; omega)]; go_simp
    have e2 : w'.cell? ⟨w.heap.size + 1, 0, none⟩ = some (.int .i64 hi) := by rw [hb'.cell (p := ⟨w.heap.size + 1, 0, none⟩) (by simp)]; go_simp
    exact Calls.grown_same (by simpa using outside1_c x lo hi _ _ w' e1 e2)
  rintro e w2 ⟨rfl, hb2⟩
  go_wp2_with fail
  go_ret
  exact ⟨rfl, upw hb0 hb2⟩
theorem l09Allow_c (n : Int) (w : World) : Calls Try.prog 100 #[.int .i64 n] w fun e w' => e = .returned (.bool (inr n 0 200)) ∧ w = w' := by
  go_enter Try.func100, Try.ntmps100
  go_wp2_with fail
  refine (l00In_c _ _ _ _).mono ?_
  rintro e w' ⟨rfl, rfl⟩
  go_wp2_with fail
  go_ret
  exact ⟨rfl, rfl⟩
theorem isStripLength_c (n : Int) (w : World) : Calls Try.prog 88 #[.int .i64 n] w fun e w' => e = .returned (.bool (inr n 1 5000)) ∧ w = w' := by
  go_enter Try.func88, Try.ntmps88
  go_wp2_with fail
  refine (within_c _ _ _ _).mono ?_
  rintro e w' ⟨rfl, rfl⟩
  go_wp2_with fail
  go_ret
  exact ⟨rfl, rfl⟩
theorem l09Length_c (n : Int) (w : World) : Calls Try.prog 91 #[.int .i64 n] w fun e w' => e = .returned (.bool (inr n 1 5000)) ∧ w = w' := by
  go_enter Try.func91, Try.ntmps91
  go_wp2_with fail
  refine (l00In_c _ _ _ _).mono ?_
  rintro e w' ⟨rfl, rfl⟩
  go_wp2_with fail
  go_ret
  exact ⟨rfl, rfl⟩
/-- What is left of a length behind folds. -/
def foldLeft (n : Int) (xs : List Int) (t : Int) : Int := n - sumI xs - t * xs.length
def foldOk (n : Int) (xs : List Int) (t : Int) : Bool := inr n 1 5000 && decide (xs.length ≤ 10) && !outs xs 0 200 && inr t 0 100
def foldRes (n : Int) (xs : List Int) (t : Int) : Int × Int := if foldOk n xs t then (if foldLeft n xs t < 1 then (0, 6) else (foldLeft n xs t, 0)) else (0, 2)
theorem foldRes_small {n : Int} {xs : List Int} {t : Int} (h : foldOk n xs t = true) (h5 : foldLeft n xs t < 1) : foldRes n xs t = (0, 6) := by simp [foldRes, h, h5]
theorem foldRes_big {n : Int} {xs : List Int} {t : Int} (h : foldOk n xs t = true) (h5 : ¬ foldLeft n xs t < 1) : foldRes n xs t = (n - sumI xs - t * xs.length, 0) := by rw [foldRes, if_pos h, if_neg h5]; rfl
theorem sum_fold {xs : List Int} (h : outs xs 0 200 = false) (k : Nat) : 0 ≤ sumI (xs.take k) ∧ sumI (xs.take k) ≤ 200 * xs.length := by
  have h1 : ∀ x ∈ xs, 0 ≤ x ∧ x ≤ 200 := outs_false.1 h
  have h2 : ∀ ys : List Int, (∀ y ∈ ys, 0 ≤ y ∧ y ≤ 200) → 0 ≤ sumI ys ∧ sumI ys ≤ 200 * ys.length := by
    intro ys
    induction ys with
    | nil => intro _; simp [sumI_nil]
    | cons y ys ih =>
      intro hy
      have := ih (fun z hz => hy z (by simp [hz]))
      have := hy y (by simp)
      rw [sumI_cons, List.length_cons]; omega
  have h3 := h2 (xs.take k) (fun y hy => h1 y (List.mem_of_mem_take hy))
  have h4 : (xs.take k).length ≤ xs.length := List.length_take_le' _ _
  omega
set_option maxHeartbeats 400000 in
theorem implFoldLength_c (n : Int) (a : Option Addr) (xs : List Int) (c : Nat) (t : Int) (w : World) (_hn : -9223372036854775808 ≤ n ∧ n ≤ 9223372036854775807) (hx : At w a xs) (hl : xs.length ≤ 9223372036854775807) (_ht : -9223372036854775808 ≤ t ∧ t ≤ 9223372036854775807) :
    Calls Try.prog 53 #[.int .i64 n, .slice a xs.length c, .int .i64 t] w fun e w' => e = .returned (.tuple #[.int .i64 (foldRes n xs t).1, .int .i64 (foldRes n xs t).2]) ∧ Below w.heap.size w w' := by
  have hb := Below.refl w.heap.size w
  cases h1 : inr n 1 5000
  · have hr : foldRes n xs t = (0, 2) := by simp [foldRes, foldOk, h1]
    rw [hr]
    go_enter Try.func53, Try.ntmps53
    go_wp2_with fail
    refine (isStripLength_c _ _).mono ?_
    rintro e w' ⟨rfl, rfl⟩
    go_wp2_with fail
    go_ret2
    exact ⟨rfl, hb⟩
  · by_cases h2 : xs.length ≤ 10
    · cases h3 : outs xs 0 200
      · cases h4 : inr t 0 100
        · have hr : foldRes n xs t = (0, 2) := by simp [foldRes, foldOk, h4]
          rw [hr]
          go_enter Try.func53, Try.ntmps53
          go_wp2_with fail
          refine (isStripLength_c _ _).mono ?_
          rintro e w' ⟨rfl, rfl⟩
          go_wp2_with fail
          refine (outside_c _ _ _ _ _ _ hx hl).mono ?_
          rintro e w2 ⟨rfl, hb2⟩
          replace hb := upw hb hb2
          go_wp2_with fail
          refine (within_c _ _ _ _).mono ?_
          rintro e w' ⟨rfl, rfl⟩
          go_wp2_with fail
          go_ret2
          exact ⟨rfl, hb⟩
        · have hs := sum_fold h3
          have hs0 := hs xs.length
          rw [List.take_length] at hs0
          have h1' := inr_true.1 h1
          have h4' := inr_true.1 h4
          have hm : 0 ≤ t * (xs.length : Int) ∧ t * (xs.length : Int) ≤ 1000 := ⟨Int.mul_nonneg h4'.1 (by omega), by
            have : t * (xs.length : Int) ≤ 100 * 10 := Int.mul_le_mul h4'.2 (by omega) (by omega) (by omega)
            omega⟩
          by_cases h5 : n - sumI xs - t * xs.length < 1
          · have hr : foldRes n xs t = (0, 6) := by simp [foldRes, foldOk, h1, h2, h3, h4, foldLeft, h5]
            rw [hr]
            go_enter Try.func53, Try.ntmps53
            go_wp2_with fail
            refine (isStripLength_c _ _).mono ?_
            rintro e w' ⟨rfl, rfl⟩
            go_wp2_with fail
            refine (outside_c _ _ _ _ _ _ hx hl).mono ?_
            rintro e w2 ⟨rfl, hb2⟩
            replace hb := upw hb hb2
            go_wp2_with fail
            refine (within_c _ _ _ _).mono ?_
            rintro e w' ⟨rfl, rfl⟩
            go_wp2_with fail
            refine (sumOf_c _ _ _ _ (hx.below hb) hl (fun k _ => by have := hs k; omega)).mono ?_
            rintro e w' ⟨rfl, rfl⟩
            go_wp2_with fail
            go_ret2
            exact ⟨rfl, hb⟩
          · have hr : foldRes n xs t = (n - sumI xs - t * xs.length, 0) := by simp [foldRes, foldOk, h1, h2, h3, h4, foldLeft, h5]
            rw [hr]
            go_enter Try.func53, Try.ntmps53
            go_wp2_with fail
            refine (isStripLength_c _ _).mono ?_
            rintro e w' ⟨rfl, rfl⟩
            go_wp2_with fail
            refine (outside_c _ _ _ _ _ _ hx hl).mono ?_
            rintro e w2 ⟨rfl, hb2⟩
            replace hb := upw hb hb2
            go_wp2_with fail
            refine (within_c _ _ _ _).mono ?_
            rintro e w' ⟨rfl, rfl⟩
            go_wp2_with fail
            refine (sumOf_c _ _ _ _ (hx.below hb) hl (fun k _ => by have := hs k; omega)).mono ?_
            rintro e w' ⟨rfl, rfl⟩
            go_wp2_with fail
            go_ret2
            exact ⟨rfl, hb⟩
      · have hr : foldRes n xs t = (0, 2) := by simp [foldRes, foldOk, h3]
        rw [hr]
        go_enter Try.func53, Try.ntmps53
        go_wp2_with fail
        refine (isStripLength_c _ _).mono ?_
        rintro e w' ⟨rfl, rfl⟩
        go_wp2_with fail
        refine (outside_c _ _ _ _ _ _ hx hl).mono ?_
        rintro e w2 ⟨rfl, hb2⟩
        replace hb := upw hb hb2
        go_wp2_with fail
        go_ret2
        exact ⟨rfl, hb⟩
    · have hr : foldRes n xs t = (0, 2) := by simp [foldRes, foldOk, h2]
      rw [hr]
      go_enter Try.func53, Try.ntmps53
      go_wp2_with fail
      refine (isStripLength_c _ _).mono ?_
      rintro e w' ⟨rfl, rfl⟩
      go_wp2_with fail
      go_ret2
      exact ⟨rfl, hb⟩
theorem foldSum_step (n t : Int) (xs : List Int) (k : Nat) (h : k < xs.length) : n - sumI (xs.take k) - t * k - (xs[k] + t) = n - sumI (xs.take (k + 1)) - t * ((k : Int) + 1) := by
  rw [sumI_take xs k h, Int.mul_add]; omega
set_option maxHeartbeats 1000000 in
theorem specFoldLength_c (n : Int) (a : Option Addr) (xs : List Int) (c : Nat) (t : Int) (w : World) (_hn : -9223372036854775808 ≤ n ∧ n ≤ 9223372036854775807) (hx : At w a xs) (hl : xs.length ≤ 9223372036854775807) (_ht : -9223372036854775808 ≤ t ∧ t ≤ 9223372036854775807) :
    Calls Try.prog 54 #[.int .i64 n, .slice a xs.length c, .int .i64 t] w fun e w' => e = .returned (.tuple #[.int .i64 (foldRes n xs t).1, .int .i64 (foldRes n xs t).2]) ∧ Below w.heap.size w w' := by
  have hb := Below.refl w.heap.size w
  cases h1 : inr n 1 5000
  · have hr : foldRes n xs t = (0, 2) := by simp [foldRes, foldOk, h1]
    rw [hr]
    go_enter Try.func54, Try.ntmps54
    go_wp2_with fail
    refine (l09Length_c _ _).mono ?_
    rintro e w' ⟨rfl, rfl⟩
    go_wp2_with fail
    go_ret2
    exact ⟨rfl, hb⟩
  · cases h4 : inr t 0 100
    · have hr : foldRes n xs t = (0, 2) := by simp [foldRes, foldOk, h4]
      rw [hr]
      go_enter Try.func54, Try.ntmps54
      go_wp2_with fail
      refine (l09Length_c _ _).mono ?_
      rintro e w' ⟨rfl, rfl⟩
      go_wp2_with fail
      refine (l00In_c _ _ _ _).mono ?_
      rintro e w' ⟨rfl, rfl⟩
      go_wp2_with fail
      go_ret2
      exact ⟨rfl, hb⟩
    · by_cases h2 : xs.length ≤ 10
      · have h1' := inr_true.1 h1
        have h4' := inr_true.1 h4
        generalize hr : foldRes n xs t = r
        have HR := Lib.hid hr
        clear hr
        go_enter Try.func54, Try.ntmps54
        go_wp2_with fail
        refine (l09Length_c _ _).mono ?_
        rintro e w' ⟨rfl, rfl⟩
        go_wp2_with fail
        refine (l00In_c _ _ _ _).mono ?_
        rintro e w' ⟨rfl, rfl⟩
        go_wp2_with fail
        go_loop [8] (fun i => ∃ k : Nat, k ≤ xs.length ∧ i = .int .i64 k ∧ Nosofar (fun n => !inr n 0 200) xs k) (fun i => xs.length - (intOf i).toNat)
        case atStart => exact ⟨0, Nat.zero_le _, rfl, nosofar_zero⟩
        case round =>
          obtain ⟨k, hk, rfl, hs⟩ := hrel
          have HS := Lib.hid hs
          clear hs
          by_cases hlt : k < xs.length
          · obtain ⟨b, off, rfl⟩ := hx.addr hlt
            have c0 := hx.int hlt
            cases hp : inr xs[k] 0 200
            · go_wp2_with fail
              refine (l09Allow_c _ _).mono ?_
              rintro e w' ⟨rfl, rfl⟩
              go_wp2_with fail
              have h3 : outs xs 0 200 = true := List.any_eq_true.2 ⟨_, List.getElem_mem hlt, by simp [hp]⟩
              have hr : r = (0, 2) := by rw [← HR.out]; simp [foldRes, foldOk, h3]
              rw [hr]
              go_ret2
              exact ⟨rfl, hb⟩
            · go_wp2_with fail
              refine (l09Allow_c _ _).mono ?_
              rintro e w' ⟨rfl, rfl⟩
              go_wp2_with fail
              go_round
              case rel => exact ⟨k + 1, by omega, by go_num, nosofar_succ (hk := hlt) HS.out (by simp [hp])⟩
              case measure => simp [intOf]; omega
          · have h3 : outs xs 0 200 = false := nosofar_any HS.out (by omega)
            have hs := sum_fold h3
            go_wp2_with fail
            go_loop [9, 0] (fun i s => ∃ k : Nat, k ≤ xs.length ∧ i = .int .i64 k ∧ s = .int .i64 (n - sumI (xs.take k) - t * k)) (fun i _ => xs.length - (intOf i).toNat)
            case atStart => exact ⟨0, Nat.zero_le _, rfl, by simp [sumI_nil]⟩
            case round =>
              obtain ⟨k, hk, rfl, rfl⟩ := hrel
              have hs0 := hs k
              have hm : ∀ j : Nat, j ≤ 10 → 0 ≤ t * (j : Int) ∧ t * (j : Int) ≤ 1000 := fun j hj => ⟨Int.mul_nonneg h4'.1 (by omega), by
                have : t * (j : Int) ≤ 100 * 10 := Int.mul_le_mul h4'.2 (by omega) (by omega) (by omega)
                omega⟩
              have hm0 := hm k (by omega)
              have HM := Lib.hid hm
              clear hm
              by_cases hlt : k < xs.length
              · obtain ⟨b, off, rfl⟩ := hx.addr hlt
                have c0 := hx.int hlt
                have hin : 0 ≤ xs[k] ∧ xs[k] ≤ 200 := outs_false.1 h3 _ (List.getElem_mem hlt)
                have E := Lib.hid (foldSum_step n t xs k hlt)
                clear hs
                go_wp2_with fail
                go_round
                case rel => exact ⟨k + 1, by omega, by go_num, by rw [E.out]; go_num⟩
                case measure => simp [intOf]; omega
              · have ek : xs.take k = xs := List.take_of_length_le (by omega)
                obtain rfl : k = xs.length := by omega
                rw [ek] at hs0 ⊢
                clear ek hs
                by_cases h5 : n - sumI xs - t * (xs.length : Int) < 1
                · go_wp2_with fail
                  have hr : r = (0, 6) := by rw [← HR.out]; simp [foldRes, foldOk, h1, h2, h3, h4, foldLeft, h5]
                  rw [hr]
                  go_ret2
                  exact ⟨rfl, hb⟩
                · go_wp2_with fail
                  have hr : r = (n - sumI xs - t * xs.length, 0) := by rw [← HR.out]; exact foldRes_big (by simp [foldOk, h1, h2, h3, h4]) (by unfold foldLeft; omega)
                  rw [hr]
                  go_ret2
                  exact ⟨rfl, hb⟩
      · have hr : foldRes n xs t = (0, 2) := by simp [foldRes, foldOk, h2]
        rw [hr]
        go_enter Try.func54, Try.ntmps54
        go_wp2_with fail
        refine (l09Length_c _ _).mono ?_
        rintro e w' ⟨rfl, rfl⟩
        go_wp2_with fail
        refine (l00In_c _ _ _ _).mono ?_
        rintro e w' ⟨rfl, rfl⟩
        go_wp2_with fail
        go_ret2
        exact ⟨rfl, hb⟩
end Go.Proofs.Ytokoallbhbgkkaa
