/- Lengths that are graded: shares of a sum, and errors of scaled lengths, in plain words. -/
import Derived.Test.YtlaclknhenccdaaL09
import Derived.Test.YtlaclknhenccdaaGcd
namespace Go.Proofs.Ytlaclknhenccdaa
open Go.RowKit

theorem gen_succ {α : Type} (n : Nat) (f : Nat → α) : gen (n + 1) f = gen n f ++ [f n] := by simp [gen, List.range_succ]
theorem rnd_whole' (x n : Int) (h : 0 < n) : rnd (x * n) n = x := by
  unfold rnd
  have e : 2 * (x * n) + n = n + x * (2 * n) := by rw [Int.mul_left_comm]; omega
  rw [e, Int.add_mul_ediv_right _ _ (by omega : 2 * n ≠ 0), Int.ediv_eq_zero_of_lt (by omega) (by omega)]
  omega
theorem rnd_zero' (n : Int) (h : 0 < n) : rnd 0 n = 0 := by simpa using rnd_whole' 0 n h
/-- What a rounded quotient is apart from it. -/
theorem rnd_near (x n : Int) (h : 0 < n) : -n < 2 * (rnd x n * n - x) ∧ 2 * (rnd x n * n - x) ≤ n := by
  unfold rnd
  have e := Int.mul_ediv_add_emod (2 * x + n) (2 * n)
  have h1 := Int.emod_nonneg (2 * x + n) (show 2 * n ≠ 0 by omega)
  have h2 := Int.emod_lt_of_pos (2 * x + n) (show 0 < 2 * n by omega)
  generalize (2 * x + n) / (2 * n) = q at *
  generalize (2 * x + n) % (2 * n) = m at *
  have e2 : 2 * n * q = 2 * (q * n) := by rw [Int.mul_assoc, Int.mul_comm n q]
  omega
/-- Lengths that can be graded. -/
def okLens (xs : List Int) : Bool := inr xs.length 1 20 && !outs xs 1 10000
theorem okLens_iff {xs : List Int} : okLens xs = true ↔ (1 ≤ xs.length ∧ xs.length ≤ 20) ∧ ∀ x ∈ xs, 1 ≤ x ∧ x ≤ 10000 := by
  unfold okLens
  rw [Bool.and_eq_true, Bool.not_eq_true', outs_false, inr_true]
  exact and_congr (by omega) Iff.rfl
theorem lens_sum {xs : List Int} (h : ∀ x ∈ xs, 1 ≤ x ∧ x ≤ 10000) : (xs.length : Int) ≤ sumI xs ∧ sumI xs ≤ 10000 * xs.length := by
  induction xs with
  | nil => simp [sumI_nil]
  | cons x xs ih =>
    have h1 := h x (by simp)
    have h2 := ih fun y hy => h y (by simp [hy])
    rw [sumI_cons]
    simp only [List.length_cons]
    omega
theorem lens_take {xs : List Int} (h : okLens xs = true) (k : Nat) : 0 ≤ sumI (xs.take k) ∧ sumI (xs.take k) ≤ 200000 := by
  obtain ⟨h1, h2⟩ := okLens_iff.1 h
  have h3 := lens_sum (xs := xs.take k) fun x hx => h2 x (List.mem_of_mem_take hx)
  have h4 := List.length_take_le k xs
  have h5 : (xs.take k).length ≤ xs.length := by simp; omega
  omega
theorem lens_all {xs : List Int} (h : okLens xs = true) : 1 ≤ sumI xs ∧ sumI xs ≤ 200000 := by
  obtain ⟨h1, h2⟩ := okLens_iff.1 h
  have h3 := lens_sum h2
  omega
/-- Of a sum, what the first k lengths have, and what length i has. -/
def till (s : Int) (xs : List Int) (k : Nat) : Int := rnd (s * sumI (xs.take k)) (sumI xs)
def share (s : Int) (xs : List Int) (i : Nat) : Int := till s xs (i + 1) - till s xs i
def shares (s : Int) (xs : List Int) : List Int := gen xs.length (share s xs)
theorem shares_length (s : Int) (xs : List Int) : (shares s xs).length = xs.length := gen_length _ _
theorem till_zero (s : Int) {xs : List Int} (h : okLens xs = true) : till s xs 0 = 0 := by
  unfold till
  rw [List.take_zero, sumI_nil, Int.mul_zero]
  exact rnd_zero' _ (by have := lens_all h; omega)
theorem till_all (s : Int) {xs : List Int} (h : okLens xs = true) {k : Nat} (hk : xs.length ≤ k) : till s xs k = s := by
  unfold till
  rw [List.take_of_length_le hk]
  exact rnd_whole' _ _ (by have := lens_all h; omega)
theorem share_sum (s : Int) {xs : List Int} (h : okLens xs = true) : ∀ k, sumI (gen k (share s xs)) = till s xs k
  | 0 => by rw [till_zero s h]; rfl
  | k + 1 => by
    rw [gen_succ, sumI_append, share_sum s h k, sumI_cons, sumI_nil]
    unfold share; omega
theorem shares_sum (s : Int) {xs : List Int} (h : okLens xs = true) : sumI (shares s xs) = s := by
  unfold shares
  rw [share_sum s h, till_all s h (Nat.le_refl _)]
theorem mul_small {s t : Int} (hs : 0 ≤ s ∧ s ≤ 1000000) (ht : 0 ≤ t ∧ t ≤ 200000) : 0 ≤ s * t ∧ s * t ≤ 200000000000 :=
  ⟨Int.mul_nonneg hs.1 ht.1, by have := Int.mul_le_mul hs.2 ht.2 ht.1 (by omega); omega⟩
theorem rnd_bound (x n : Int) (h : 1 ≤ n) : -(size x) - 1 ≤ rnd x n ∧ rnd x n ≤ size x + 1 := by
  have h1 := rnd_near x n (by omega)
  unfold size
  generalize rnd x n = r at *
  have hr : ∀ m : Int, 1 ≤ m → m ≤ m * n := fun m hm => by have := Int.mul_le_mul_of_nonneg_left h (show 0 ≤ m by omega); omega
  constructor
  · rcases Int.lt_or_le r 0 with h2 | h2
    · have e : (-r - 1 : Int) * n = -(r * n) - n := by rw [Int.sub_mul, Int.neg_mul]; omega
      rcases Int.lt_or_le (-r - 1) 1 with h3 | h3
      · omega
      · have := hr _ h3; omega
    · omega
  · rcases Int.lt_or_le r 2 with h2 | h2
    · omega
    · have e : (r - 1) * n = r * n - n := by rw [Int.sub_mul]; omega
      have := hr (r - 1) (by omega)
      omega
theorem till_bound {s : Int} {xs : List Int} (hs : 0 ≤ s ∧ s ≤ 1000000) (h : okLens xs = true) (k : Nat) : -1 ≤ till s xs k ∧ till s xs k ≤ 200000000001 := by
  have h1 := mul_small hs (lens_take h k)
  have h2 := lens_all h
  have h3 := rnd_near (s * sumI (xs.take k)) (sumI xs) (by omega)
  unfold till
  have h4 := rnd_bound (s * sumI (xs.take k)) (sumI xs) (by omega)
  have h5 : size (s * sumI (xs.take k)) ≤ 200000000000 := by unfold size; omega
  generalize rnd (s * sumI (xs.take k)) (sumI xs) = r at *
  constructor
  · rcases Int.lt_or_le r (-1) with h6 | h6
    · have e : (-r - 1 : Int) * sumI xs = -(r * sumI xs) - sumI xs := by rw [Int.sub_mul, Int.neg_mul]; omega
      have := Int.mul_le_mul (a := 1) (show 1 ≤ -r - 1 by omega) (show 1 ≤ sumI xs by omega) (by omega) (by omega)
      have h7 : sumI xs ≤ (-r - 1) * sumI xs := by have := Int.mul_le_mul_of_nonneg_right (show 1 ≤ -r - 1 by omega) (show 0 ≤ sumI xs by omega); omega
      omega
    · exact h6
  · omega
/-- Lengths and a proportion that can be scaled; what they become, and how far that is from the quotient. -/
def okScale (xs : List Int) (num den : Int) : Bool := okLens xs && inr num 1 1000 && inr den 1 1000
theorem okScale_iff {xs : List Int} {num den : Int} : okScale xs num den = true ↔ okLens xs = true ∧ (1 ≤ num ∧ num ≤ 1000) ∧ (1 ≤ den ∧ den ≤ 1000) := by
  unfold okScale
  rw [Bool.and_eq_true, Bool.and_eq_true, inr_true, inr_true, and_assoc]
def scaledOne (num den x : Int) : Int := rnd (x * num) den
def errOf (num den x : Int) : Int := rnd (x * num) den * den - x * num
def errFrac (num den x : Int) : Frac := ⟨lowN (errOf num den x) den, lowD (errOf num den x) den⟩
theorem err_near {num den x : Int} (h : 1 ≤ den) : -den < 2 * errOf num den x ∧ 2 * errOf num den x ≤ den := rnd_near _ _ (by omega)
theorem low_exact (e den : Int) (h : 1 ≤ den) : e = lowN e den * gcdI e den ∧ den = lowD e den * gcdI e den := by
  have hg := gcdI_pos (a := e) h
  have d1 : gcdI e den ∣ e := by unfold gcdI; exact Int.dvd_trans (Int.natCast_dvd_natCast.2 (Nat.gcd_dvd_left _ _)) (Int.natAbs_dvd.2 (Int.dvd_refl _))
  have d2 : gcdI e den ∣ den := by unfold gcdI; exact Int.dvd_trans (Int.natCast_dvd_natCast.2 (Nat.gcd_dvd_right _ _)) (Int.natAbs_dvd.2 (Int.dvd_refl _))
  unfold lowN lowD
  exact ⟨(Int.tdiv_mul_cancel d1).symm, (Int.tdiv_mul_cancel d2).symm⟩
/-- The law of errors: at most a half, and the difference itself. -/
theorem err_law {num den x : Int} (h : 1 ≤ den) : 2 * (errFrac num den x).num ≤ (errFrac num den x).den ∧ -((errFrac num den x).den) < 2 * (errFrac num den x).num ∧ (scaledOne num den x * den - x * num) * (errFrac num den x).den = (errFrac num den x).num * den := by
  obtain ⟨e1, e2⟩ := low_exact (errOf num den x) den h
  obtain ⟨n1, n2⟩ := err_near (num := num) (x := x) h
  have hg := gcdI_pos (a := errOf num den x) h
  have e3 : scaledOne num den x * den - x * num = errOf num den x := rfl
  rw [e3]
  unfold errFrac
  dsimp only
  generalize errOf num den x = e at *
  generalize gcdI e den = g at *
  generalize lowN e den = N at *
  generalize lowD e den = D at *
  have hN2 : 2 * N * g = 2 * e := by rw [e1, Int.mul_assoc]
  refine ⟨?_, ?_, ?_⟩
  · rcases Int.lt_or_le D (2 * N) with h5 | h5
    · have h6 : D * g < 2 * N * g := Int.mul_lt_mul_of_pos_right h5 (by omega)
      omega
    · exact h5
  · rcases Int.lt_or_le (-D) (2 * N) with h5 | h5
    · exact h5
    · have h6 : 2 * N * g ≤ -D * g := Int.mul_le_mul_of_nonneg_right h5 (by omega)
      rw [Int.neg_mul] at h6
      omega
  · rw [e1, e2, Int.mul_assoc, Int.mul_comm g D]
end Go.Proofs.Ytlaclknhenccdaa
