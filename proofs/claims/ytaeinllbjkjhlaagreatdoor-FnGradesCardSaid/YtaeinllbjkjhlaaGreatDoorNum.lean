/- Numbers: ranges, distances, rounding, sums, rising lists: the contracts of the functions on them. -/
import Derived.Test.YtaeinllbjkjhlaaGreatDoorRows
import Derived.Test.YtaeinllbjkjhlaaGreatDoorBase
import Derived.Test.YtaeinllbjkjhlaaGreatDoorInts
namespace Go.Proofs.YtaeinllbjkjhlaaGreatDoor
open Go.RowKit

/-- A number is in a range. -/
def inr (n lo hi : Int) : Bool := decide (lo ≤ n ∧ n ≤ hi)
theorem inr_true {n lo hi : Int} : inr n lo hi = true ↔ lo ≤ n ∧ n ≤ hi := by simp [inr]
theorem inr_false {n lo hi : Int} : inr n lo hi = false ↔ ¬ (lo ≤ n ∧ n ≤ hi) := by simp [inr]

theorem within_c (n lo hi : Int) (w : World) : Calls Tryz.prog 64 #[.int .i64 n, .int .i64 lo, .int .i64 hi] w fun e w' => e = .returned (.bool (inr n lo hi)) ∧ w = w' := by
  by_cases h1 : lo ≤ n
  · by_cases h2 : n ≤ hi
    · rw [inr_true.2 ⟨h1, h2⟩]
      go_enter Tryz.func64, Tryz.ntmps64
      go_wp2
      go_ret
      exact ⟨rfl, rfl⟩
    · rw [inr_false.2 (by omega)]
      go_enter Tryz.func64, Tryz.ntmps64
      go_wp2
      go_ret
      exact ⟨rfl, rfl⟩
  · rw [inr_false.2 (by omega)]
    go_enter Tryz.func64, Tryz.ntmps64
    go_wp2
    go_ret
    exact ⟨rfl, rfl⟩
theorem l00In_c (n lo hi : Int) (w : World) : Calls Tryz.prog 69 #[.int .i64 n, .int .i64 lo, .int .i64 hi] w fun e w' => e = .returned (.bool (inr n lo hi)) ∧ w = w' := by
  by_cases h1 : lo ≤ n
  · by_cases h2 : n ≤ hi
    · rw [inr_true.2 ⟨h1, h2⟩]
      go_enter Tryz.func69, Tryz.ntmps69
      go_wp2
      go_ret
      exact ⟨rfl, rfl⟩
    · rw [inr_false.2 (by omega)]
      go_enter Tryz.func69, Tryz.ntmps69
      go_wp2
      go_ret
      exact ⟨rfl, rfl⟩
  · rw [inr_false.2 (by omega)]
    go_enter Tryz.func69, Tryz.ntmps69
    go_wp2
    go_ret
    exact ⟨rfl, rfl⟩
theorem l00Min_c (a b : Int) (w : World) : Calls Tryz.prog 60 #[.int .i64 a, .int .i64 b] w fun e w' => e = .returned (.int .i64 (min a b)) ∧ w = w' := by
  go_enter Tryz.func60, Tryz.ntmps60
  go_wp2
  all_goals go_ret
  all_goals exact ⟨ret_int (by omega), rfl⟩
theorem l00Max_c (a b : Int) (w : World) : Calls Tryz.prog 61 #[.int .i64 a, .int .i64 b] w fun e w' => e = .returned (.int .i64 (max a b)) ∧ w = w' := by
  go_enter Tryz.func61, Tryz.ntmps61
  go_wp2
  all_goals go_ret
  all_goals exact ⟨ret_int (by omega), rfl⟩
/-- How far a number is from nought. -/
def size (n : Int) : Int := max n (-n)
theorem size_nonneg (n : Int) : 0 ≤ size n := by unfold size; omega
theorem size_sub (a b : Int) : size (a - b) = size (b - a) := by unfold size; omega
/-- The greatest integer that is not greater than num / den + 1/2, for a positive den. -/
def rnd (num den : Int) : Int := (2 * num + den) / (2 * den)
theorem floor_neg (a b : Int) (hb : 0 < b) (h : a.tmod b < 0) : a.tdiv b - 1 = a / b := by
  have h1 := Int.tdiv_mul_add_tmod a b  
  have h2 : -b < a.tmod b := by have := Int.lt_tmod_of_pos a hb; omega
  have e : a.tmod b + b + b * (a.tdiv b - 1) = a := by rw [Int.mul_sub, Int.mul_comm b (a.tdiv b)]; omega
  exact ((Int.ediv_emod_unique hb (a := a) (r := a.tmod b + b) (q := a.tdiv b - 1)).2 ⟨e, by omega, by omega⟩).1.symm
theorem floor_pos (a b : Int) (hb : 0 < b) (h : ¬ a.tmod b < 0) : a.tdiv b = a / b := by
  have h1 := Int.tdiv_mul_add_tmod a b
  have h2 : a.tmod b < b := by have := Int.tmod_lt_of_pos a hb; omega
  have e : a.tmod b + b * a.tdiv b = a := by rw [Int.mul_comm b (a.tdiv b)]; omega
  exact ((Int.ediv_emod_unique hb (a := a) (r := a.tmod b) (q := a.tdiv b)).2 ⟨e, by omega, by omega⟩).1.symm
theorem tdiv_bound (a b : Int) : -(size a) ≤ a.tdiv b ∧ a.tdiv b ≤ size a := by
  have h : (a.tdiv b).natAbs = a.natAbs / b.natAbs := Int.natAbs_tdiv a b
  have h2 := Nat.div_le_self a.natAbs b.natAbs
  generalize a.natAbs / b.natAbs = n at h h2
  generalize a.tdiv b = q at h ⊢
  have h3 := Int.natAbs_eq q
  have h4 := Int.natAbs_eq a
  rw [h] at h3
  unfold size
  rcases h3 with h3 | h3 <;> rcases h4 with h4 | h4 <;> omega
theorem l02Floor_c (num den : Int) (w : World) (hd : 0 < den ∧ den ≤ 9223372036854775807) (hn : -9223372036854775807 ≤ num ∧ num ≤ 9223372036854775807) :
    Calls Tryz.prog 107 #[.int .i64 num, .int .i64 den] w fun e w' => e = .returned (.int .i64 (num / den)) ∧ w = w' := by
  have hq := tdiv_bound num den
  unfold size at hq
  have hq' : -9223372036854775807 ≤ num.tdiv den ∧ num.tdiv den ≤ 9223372036854775807 := by omega
  clear hq
  go_enter Tryz.func107, Tryz.ntmps107
  go_wp2
  all_goals go_ret
  · exact ⟨ret_int (floor_neg num den hd.1 (by omega)), rfl⟩
  · exact ⟨ret_int (floor_pos num den hd.1 (by omega)), rfl⟩
theorem l02Round_c (num den : Int) (w : World) (hd : 0 < den ∧ den ≤ 1000000000000000000) (hn : -1000000000000000000 ≤ num ∧ num ≤ 1000000000000000000) :
    Calls Tryz.prog 75 #[.int .i64 num, .int .i64 den] w fun e w' => e = .returned (.int .i64 (rnd num den)) ∧ w = w' := by
  go_enter Tryz.func75, Tryz.ntmps75
  go_wp2_with fail
  refine (l02Floor_c _ _ _ (by omega) (by omega)).mono ?_
  rintro e w' ⟨rfl, rfl⟩
  go_wp2_with fail
  go_ret
  exact ⟨rfl, rfl⟩
theorem rounded_c (num den : Int) (w : World) (hd : 0 < den ∧ den ≤ 1000000000000000000) (hn : -1000000000000000000 ≤ num ∧ num ≤ 1000000000000000000) :
    Calls Tryz.prog 73 #[.int .i64 num, .int .i64 den] w fun e w' => e = .returned (.int .i64 (rnd num den)) ∧ w = w' := by
  have hq := tdiv_bound (2 * num + den) (2 * den)
  unfold size at hq
  have hq' : -9223372036854775807 ≤ (2 * num + den).tdiv (2 * den) ∧ (2 * num + den).tdiv (2 * den) ≤ 9223372036854775807 := by omega
  clear hq
  go_enter Tryz.func73, Tryz.ntmps73
  go_wp2
  all_goals go_ret
  · exact ⟨ret_int (floor_neg (2 * num + den) (2 * den) (by omega) (by omega)), rfl⟩
  · exact ⟨ret_int (floor_pos (2 * num + den) (2 * den) (by omega) (by omega)), rfl⟩
/-- The sum of numbers. -/
def sumI (xs : List Int) : Int := xs.foldl (· + ·) 0
theorem foldl_add (xs : List Int) : ∀ a : Int, xs.foldl (· + ·) a = a + xs.foldl (· + ·) 0 := by
  induction xs with
  | nil => intro a; simp
  | cons x xs ih => intro a; simp only [List.foldl_cons]; rw [ih, ih (0 + x)]; omega
theorem sumI_nil : sumI [] = 0 := rfl
theorem sumI_cons (x : Int) (xs : List Int) : sumI (x :: xs) = x + sumI xs := by unfold sumI; simp only [List.foldl_cons]; rw [foldl_add]; omega
theorem sumI_append (xs ys : List Int) : sumI (xs ++ ys) = sumI xs + sumI ys := by
  induction xs with
  | nil => simp [sumI_nil]
  | cons x xs ih => rw [List.cons_append, sumI_cons, sumI_cons, ih]; omega
theorem sumI_take (xs : List Int) (k : Nat) (h : k < xs.length) : sumI (xs.take (k + 1)) = sumI (xs.take k) + xs[k] := by
  rw [List.take_succ_eq_append_getElem h, sumI_append, sumI_cons, sumI_nil]; omega
theorem sumI_bound (M : Int) (h0 : 0 ≤ M) : ∀ (xs : List Int), (∀ x ∈ xs, -M ≤ x ∧ x ≤ M) → -(M * xs.length) ≤ sumI xs ∧ sumI xs ≤ M * xs.length
  | [], _ => by simp [sumI_nil]
  | x :: xs, h => by
    have ih := sumI_bound M h0 xs (fun y hy => h y (by simp [hy]))
    have hx := h x (by simp)
    rw [sumI_cons, List.length_cons]
    have : M * ((xs.length + 1 : Nat) : Int) = M * xs.length + M := by rw [Int.natCast_add, Int.mul_add]; omega
    omega
/-- Numbers are in a range and strictly rising: what is asked at a place. -/
def riseAt (xs : List Int) (lo hi : Int) (i : Nat) : Bool := inr (xs.getD i 0) lo hi && !(decide (0 < i) && decide (xs.getD (i - 1) 0 ≥ xs.getD i 0))
def rises (xs : List Int) (lo hi : Int) : Bool := allUpto xs.length (riseAt xs lo hi)
theorem riseAt_out {xs : List Int} {lo hi : Int} {k : Nat} (h : k < xs.length) (h1 : inr xs[k] lo hi = false) : riseAt xs lo hi k = false := by simp [riseAt, h, h1]
theorem riseAt_first {xs : List Int} {lo hi : Int} {k : Nat} (h : k < xs.length) (h0 : ¬ 0 < k) (h1 : inr xs[k] lo hi = true) : riseAt xs lo hi k = true := by
  have : decide (0 < k) = false := by simpa using h0
  simp only [riseAt, this]
  simp [h, h1]
theorem riseAt_not {xs : List Int} {lo hi : Int} {k : Nat} (h : k < xs.length) (h0 : 0 < k) (h1 : xs[k] ≤ xs[k - 1]) : riseAt xs lo hi k = false := by
  have hk : k - 1 < xs.length := by omega
  simp [riseAt, h, hk, h0, h1]
theorem riseAt_yes {xs : List Int} {lo hi : Int} {k : Nat} (h : k < xs.length) (h1 : inr xs[k] lo hi = true) (h0 : 0 < k) (h2 : xs[k - 1] < xs[k]) : riseAt xs lo hi k = true := by
  have hk : k - 1 < xs.length := by omega
  simp [riseAt, h, hk, h1]; omega
end Go.Proofs.YtaeinllbjkjhlaaGreatDoor
