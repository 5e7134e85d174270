/- Chapter 6: lists held against each other, and lists laid one behind the other. -/
import Derived.Test.YtokoallbhbgkkaaBuildMath
import Derived.Test.YtokoallbhbgkkaaInts
namespace Go.Proofs.Ytokoallbhbgkkaa
open Go.RowKit

/-- How two numbers are held against each other. -/
def cmpI (x y : Int) : Int := if x < y then -1 else if y < x then 1 else 0
theorem cmpI_range (x y : Int) : -1 ≤ cmpI x y ∧ cmpI x y ≤ 1 := by unfold cmpI; split <;> (try split) <;> omega
theorem cmpL_step {xs ys : List Int} {k : Nat} (h : k < xs.length) (h2 : k < ys.length) (he : cmpL xs ys = cmpL (xs.drop k) (ys.drop k)) :
    (cmpI xs[k] ys[k] ≠ 0 → cmpL xs ys = cmpI xs[k] ys[k]) ∧ (cmpI xs[k] ys[k] = 0 → cmpL xs ys = cmpL (xs.drop (k + 1)) (ys.drop (k + 1))) := by
  rw [List.drop_eq_getElem_cons h, List.drop_eq_getElem_cons h2] at he
  rw [he]
  unfold cmpI
  constructor
  · intro hc
    conv => lhs; unfold cmpL
    by_cases h1 : xs[k] < ys[k]
    · rw [if_pos h1, if_pos h1]
    · by_cases h2 : ys[k] < xs[k]
      · rw [if_neg h1, if_neg h1, if_pos h2, if_pos h2]
      · rw [if_neg h1, if_neg h2] at hc; exact absurd rfl hc
  · intro hc
    conv => lhs; unfold cmpL
    by_cases h1 : xs[k] < ys[k]
    · rw [if_pos h1] at hc; omega
    · by_cases h2 : ys[k] < xs[k]
      · rw [if_neg h1, if_pos h2] at hc; omega
      · rw [if_neg h1, if_neg h2]
theorem cmpL_over {xs ys : List Int} {k : Nat} (h : k < xs.length) (h2 : ys.length ≤ k) (he : cmpL xs ys = cmpL (xs.drop k) (ys.drop k)) : cmpL xs ys = 1 := by
  rw [he, List.drop_eq_getElem_cons h, List.drop_of_length_le h2]
  rfl
theorem cmpL_end {xs ys : List Int} {k : Nat} (h : xs.length ≤ k) (hk : k ≤ ys.length) (hx : k ≤ xs.length) (he : cmpL xs ys = cmpL (xs.drop k) (ys.drop k)) : cmpL xs ys = if xs.length < ys.length then -1 else 0 := by
  rw [he, List.drop_of_length_le h]
  by_cases h2 : xs.length < ys.length
  · rw [if_pos h2, List.drop_eq_getElem_cons (show k < ys.length by omega)]; rfl
  · rw [if_neg h2, List.drop_of_length_le (show ys.length ≤ k by omega)]; rfl

theorem isNaN_c (x : Int) (w : World) : Calls Try.prog 127 #[.int .i64 x] w fun e w' => e = .returned (.bool false) ∧ w' = w := by
  go_enter Try.func127, Try.ntmps127
  go_wp2
  go_ret
  exact ⟨by simp, rfl⟩
set_option maxHeartbeats 1000000 in
theorem compare_c (x y : Int) (w : World) : Calls Try.prog 120 #[.int .i64 x, .int .i64 y] w fun e w' => e = .returned (.int .i64 (cmpI x y)) ∧ w' = w := by
  go_enter Try.func120, Try.ntmps120
  go_wp2_with (go_at_call 127; refine (isNaN_c _ _).mono ?_; rintro e w' ⟨rfl, hw⟩; rw [hw])
  all_goals (go_ret; refine ⟨?_, rfl⟩; unfold cmpI; (repeat' split) <;> first | rfl | (exfalso; omega))
set_option maxHeartbeats 1000000 in
theorem compareS_c (a a' : Option Addr) (xs ys : List Int) (c c' : Nat) (w : World) (hx : At w a xs) (hy : At w a' ys)
   (hlx : xs.length ≤ 9223372036854775807) (_hly : ys.length ≤ 9223372036854775807) :
    Calls Try.prog 104 #[.slice a xs.length c, .slice a' ys.length c'] w fun e w' => e = .returned (.int .i64 (cmpL xs ys)) ∧ w' = w := by
  go_enter Try.func104, Try.ntmps104
  go_wp2
  go_loop [11] (fun i => ∃ k : Nat, k ≤ xs.length ∧ i = .int .i64 k ∧ k ≤ ys.length ∧ cmpL xs ys = cmpL (xs.drop k) (ys.drop k)) (fun i => xs.length - (intOf i).toNat)
  case atStart => exact ⟨0, Nat.zero_le _, rfl, Nat.zero_le _, rfl⟩
  case round =>
    obtain ⟨k, hk, rfl, hky, heq⟩ := hrel
    have HE := Lib.hid heq
    clear heq
    by_cases hlt : k < xs.length
    · obtain ⟨b, off, rfl⟩ := hx.addr hlt
      have c0 := hx.int hlt
      by_cases hlt' : k < ys.length
      · obtain ⟨b', off', rfl⟩ := hy.addr hlt'
        have d0 := hy.int hlt'
        cases hc : (cmpI xs[k] ys[k] != 0) with
        | true =>
          go_wp2_with (go_at_call 120; refine (compare_c _ _ _).mono ?_; rintro e w' ⟨rfl, hw⟩; rw [hw])
          go_ret
          exact ⟨by rw [(cmpL_step hlt hlt' HE.out).1 (by simpa using hc)]; rfl, rfl⟩
        | false =>
          go_wp2_with (go_at_call 120; refine (compare_c _ _ _).mono ?_; rintro e w' ⟨rfl, hw⟩; rw [hw])
          go_round
          case rel => exact ⟨k + 1, by omega, by go_num, by omega, (cmpL_step hlt hlt' HE.out).2 (by simpa using hc)⟩
          case measure => simp [intOf]; omega
      · go_wp2
        go_ret
        exact ⟨by rw [cmpL_over hlt (by omega) HE.out]; rfl, rfl⟩
    · have hend := Lib.hid (cmpL_end (by omega) hky hk HE.out)
      cases hl : decide (xs.length < ys.length) with
      | true =>
        have h1 : xs.length < ys.length := by simpa using hl
        go_wp2
        go_ret
        exact ⟨by rw [hend.out, if_pos h1]; rfl, rfl⟩
      | false =>
        have h1 : ¬ xs.length < ys.length := by simpa using hl
        go_wp2
        go_ret
        exact ⟨by rw [hend.out, if_neg h1]; rfl, rfl⟩
end Go.Proofs.Ytokoallbhbgkkaa
