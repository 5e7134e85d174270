/- Pick's theorem: how often a simple way round goes round a spot, and how many spots lie within it. -/
import Derived.Test.YtledlkggggpdpaaGreatDoorL07i
import Derived.Test.YtledlkggggpdpaaGreatDoorL07p
import Derived.Test.YtledlkggggpdpaaGreatDoorL07t
namespace Go.Proofs.YtledlkggggpdpaaGreatDoor
open Go.RowKit

namespace Pick
/-- Vectors. -/
def cr (u v : Spot) : Int := u.X * v.Y - u.Y * v.X
def sb (a b : Spot) : Spot := ⟨a.X - b.X, a.Y - b.Y⟩
def ng (a : Spot) : Spot := ⟨-a.X, -a.Y⟩
def sc (k : Int) (a : Spot) : Spot := ⟨k * a.X, k * a.Y⟩
/-- A way from one vector to another crosses the ray to the right: upwards 1, downwards -1. -/
def turn (u v : Spot) : Int := if u.Y ≤ 0 ∧ 0 < v.Y ∧ 0 < cr u v then 1 else if v.Y ≤ 0 ∧ 0 < u.Y ∧ cr u v < 0 then -1 else 0
/-- Downwards, or just to the right. -/
def dn (u : Spot) : Int := if u.Y < 0 ∨ (u.Y = 0 ∧ 0 < u.X) then 1 else 0
def upw1 (u : Spot) : Int := if 0 < u.Y then 1 else 0
/-- A vector lies in a half of the plane. -/
def Half (A B : Int) (u : Spot) : Prop := 0 < A * u.X + B * u.Y

theorem pos_of_mul {a b : Int} (ha : 0 < a) (h : 0 < a * b) : 0 < b := by
  rcases Int.lt_or_le 0 b with hb | hb
  · exact hb
  · have := Int.mul_nonneg (Int.le_of_lt ha) (show 0 ≤ -b by omega)
    rw [Int.mul_neg] at this; omega
theorem neg_of_mul {a b : Int} (ha : a < 0) (h : 0 < a * b) : b < 0 := by
  have := pos_of_mul (a := -a) (b := -b) (by omega) (by rw [Int.neg_mul_neg]; exact h)
  omega
theorem half_key (A B : Int) (u v : Spot) : A * cr u v = v.Y * (A * u.X + B * u.Y) - u.Y * (A * v.X + B * v.Y) := by
  unfold cr; grind
theorem half_key' (A B : Int) (u v : Spot) : B * cr u v = u.X * (A * v.X + B * v.Y) - v.X * (A * u.X + B * u.Y) := by
  unfold cr; grind
/-- Within a half of the plane, what a way turns is told by its ends. -/
theorem turn_half {A B : Int} {u v : Spot} (hu : Half A B u) (hv : Half A B v) : turn u v = if 0 < A then upw1 v - upw1 u else 0 := by
  unfold Half at hu hv
  have k := half_key A B u v
  unfold turn upw1
  by_cases h1 : u.Y ≤ 0
  · by_cases h2 : 0 < v.Y
    · have e1 := Int.mul_pos h2 hu
      have e2 := Int.mul_nonneg (show 0 ≤ -u.Y by omega) (Int.le_of_lt hv)
      rw [Int.neg_mul] at e2
      have e3 : 0 < A * cr u v := by omega
      by_cases hA : 0 < A
      · have := pos_of_mul hA e3
        simp [h1, h2, hA, this]; omega
      · have hA' : A ≠ 0 := by rintro rfl; simp at e3
        have := neg_of_mul (by omega) e3
        have h3 : ¬ 0 < cr u v := by omega
        have h4 : ¬ v.Y ≤ 0 := by omega
        simp [hA, h3, h4]
    · have h3 : ¬ 0 < u.Y := by omega
      simp [h2, h3]
  · have h1' : 0 < u.Y := by omega
    by_cases h2 : 0 < v.Y
    · have h3 : ¬ v.Y ≤ 0 := by omega
      simp [h1, h2, h3, h1']
    · have h2' : v.Y ≤ 0 := by omega
      have e1 := Int.mul_pos h1' hv
      have e2 := Int.mul_nonneg (show 0 ≤ -v.Y by omega) (Int.le_of_lt hu)
      rw [Int.neg_mul] at e2
      have e3 : 0 < A * -cr u v := by rw [Int.mul_neg]; omega
      by_cases hA : 0 < A
      · have := pos_of_mul hA e3
        have h4 : cr u v < 0 := by omega
        simp [h1, h2, hA, h1', h2', h4]
      · have hA' : A ≠ 0 := by rintro rfl; simp at e3
        have := neg_of_mul (by omega) e3
        have h4 : ¬ cr u v < 0 := by omega
        simp [h1, h2, hA, h4]
/-- Two ways within a half of the plane from one vector to another turn alike. -/
theorem turn_tri {A B : Int} {u v z : Spot} (hu : Half A B u) (hv : Half A B v) (hz : Half A B z) : turn u v + turn v z = turn u z := by
  rw [turn_half hu hv, turn_half hv hz, turn_half hu hz]; split <;> omega
theorem turn_quad {A B : Int} {u v z y : Spot} (hu : Half A B u) (hv : Half A B v) (hz : Half A B z) (hy : Half A B y) : turn u v + turn v y = turn u z + turn z y := by
  rw [turn_tri hu hv hy, turn_tri hu hz hy]
theorem half_ng {A B : Int} {u : Spot} (h : Half A B u) : Half (-A) (-B) (ng u) := by
  unfold Half ng at *; simp only [Int.neg_mul_neg]; exact h
theorem half_add {A B : Int} {u v : Spot} (hu : Half A B u) (hv : Half A B v) {a b : Int} (ha : 0 ≤ a) (hb : 0 ≤ b) (hab : 0 < a + b) : Half A B ⟨a * u.X + b * v.X, a * u.Y + b * v.Y⟩ := by
  unfold Half at *
  have e : A * (a * u.X + b * v.X) + B * (a * u.Y + b * v.Y) = a * (A * u.X + B * u.Y) + b * (A * v.X + B * v.Y) := by grind
  simp only [e]
  have h1 := Int.mul_nonneg ha (Int.le_of_lt hu)
  have h2 := Int.mul_nonneg hb (Int.le_of_lt hv)
  rcases Int.lt_or_le 0 a with h | h
  · have := Int.mul_pos h hu; omega
  · have := Int.mul_pos (show 0 < b by omega) hv; omega
/-- By the other halves. -/
theorem turn_dn (u v : Spot) : turn u v = if dn u = 1 ∧ dn v = 0 ∧ 0 < cr u v then 1 else if dn u = 0 ∧ dn v = 1 ∧ cr u v < 0 then -1 else 0 := by
  have key : ∀ (a b : Int), a ≤ 0 → b ≤ 0 → 0 ≤ a * b := fun a b ha hb => by
    have := Int.mul_nonneg (show 0 ≤ -a by omega) (show 0 ≤ -b by omega)
    rwa [Int.neg_mul_neg] at this
  have hd : ∀ u : Spot, (dn u = 1 ∧ (u.Y < 0 ∨ (u.Y = 0 ∧ 0 < u.X))) ∨ (dn u = 0 ∧ (0 < u.Y ∨ (u.Y = 0 ∧ u.X ≤ 0))) := fun u => by
    unfold dn; split
    · left; exact ⟨rfl, by assumption⟩
    · right; exact ⟨rfl, by omega⟩
  unfold turn
  rcases hd u with ⟨e1, h1⟩ | ⟨e1, h1⟩ <;> rcases hd v with ⟨e2, h2⟩ | ⟨e2, h2⟩ <;> simp only [e1, e2]
  · have a1 : ¬ 0 < u.Y := by omega
    have a2 : ¬ 0 < v.Y := by omega
    simp [a1, a2]
  · have a1 : ¬ 0 < u.Y := by omega
    have a3 : u.Y ≤ 0 := by omega
    rcases h2 with h2 | ⟨h2, h3⟩
    · simp [a1, a3, h2]
    · have a2 : ¬ 0 < v.Y := by omega
      have e : cr u v ≤ 0 := by
        unfold cr; rw [h2]
        have := key u.Y v.X a3 h3
        omega
      have a4 : ¬ 0 < cr u v := by omega
      simp [a1, a2, a4]
  · have a1 : ¬ 0 < v.Y := by omega
    have a3 : v.Y ≤ 0 := by omega
    rcases h1 with h1 | ⟨h1, h3⟩
    · simp [a1, a3, h1]
    · have a2 : ¬ 0 < u.Y := by omega
      have e : 0 ≤ cr u v := by
        unfold cr; rw [h1]
        have := key u.X v.Y h3 a3
        omega
      have a4 : ¬ cr u v < 0 := by omega
      simp [a1, a2, a4]
  · rcases h1 with h1 | ⟨h1, h3⟩ <;> rcases h2 with h2 | ⟨h2, h4⟩
    · have a1 : ¬ u.Y ≤ 0 := by omega
      have a2 : ¬ v.Y ≤ 0 := by omega
      simp [a1, a2]
    · have e : 0 ≤ cr u v := by
        unfold cr; rw [h2]
        have := Int.mul_nonneg (Int.le_of_lt h1) (show 0 ≤ -v.X by omega)
        rw [Int.mul_neg] at this; omega
      have a4 : ¬ cr u v < 0 := by omega
      have a1 : ¬ 0 < v.Y := by omega
      simp [a4, a1]
    · have e : cr u v ≤ 0 := by
        unfold cr; rw [h1]
        have := Int.mul_nonneg (show 0 ≤ -u.X by omega) (Int.le_of_lt h2)
        rw [Int.neg_mul] at this; omega
      have a4 : ¬ 0 < cr u v := by omega
      have a1 : ¬ v.Y ≤ 0 := by omega
      simp [a4, a1]
    · have a1 : ¬ 0 < u.Y := by omega
      have a2 : ¬ 0 < v.Y := by omega
      simp [a1, a2]
theorem dn_bit (u : Spot) : dn u = 0 ∨ dn u = 1 := by unfold dn; split <;> simp
theorem dn_ng {A B : Int} {u : Spot} (h : Half A B u) : dn (ng u) = 1 - dn u := by
  have h0 : ¬ (u.X = 0 ∧ u.Y = 0) := by rintro ⟨hx, hy⟩; unfold Half at h; rw [hx, hy] at h; simp at h
  unfold dn ng
  by_cases h1 : u.Y < 0 ∨ (u.Y = 0 ∧ 0 < u.X)
  · rw [if_pos h1, if_neg (by simp only; omega)]; rfl
  · rw [if_neg h1, if_pos (by simp only; omega)]; rfl
theorem cr_ng (u v : Spot) : cr (ng u) (ng v) = cr u v := by unfold cr ng; grind
/-- Vectors in one half of the plane that point apart are not on one line. -/
theorem cr_apart {A B : Int} {u v : Spot} (hu : Half A B u) (hv : Half A B v) (h : dn u ≠ dn v) : cr u v ≠ 0 := by
  intro h0
  have k1 := half_key A B u v
  have k2 := half_key' A B u v
  rw [h0, Int.mul_zero] at k1 k2
  unfold Half at hu hv
  generalize A * u.X + B * u.Y = p at *
  generalize A * v.X + B * v.Y = q at *
  -- v.Y * p = u.Y * q, u.X * q = v.X * p
  have s1 : 0 < u.Y ↔ 0 < v.Y := ⟨fun h => pos_of_mul hu (by have := Int.mul_pos h hv; rw [Int.mul_comm p]; omega), fun h => pos_of_mul hv (by have := Int.mul_pos h hu; rw [Int.mul_comm q]; omega)⟩
  have s2 : 0 < -u.Y ↔ 0 < -v.Y := ⟨fun h => pos_of_mul hu (by have := Int.mul_pos h hv; rw [Int.mul_comm p, Int.neg_mul]; rw [Int.neg_mul] at this; omega), fun h => pos_of_mul hv (by have := Int.mul_pos h hu; rw [Int.mul_comm q, Int.neg_mul]; rw [Int.neg_mul] at this; omega)⟩
  have s3 : 0 < u.X ↔ 0 < v.X := ⟨fun h => pos_of_mul hu (by have := Int.mul_pos h hv; rw [Int.mul_comm p]; omega), fun h => pos_of_mul hv (by have := Int.mul_pos h hu; rw [Int.mul_comm q]; omega)⟩
  apply h
  unfold dn
  congr 1
  exact propext (by omega)
/-- Turning about, the other way: the difference is told by the ends. -/
theorem turn_ng {A B : Int} {u v : Spot} (hu : Half A B u) (hv : Half A B v) : turn u v - turn (ng u) (ng v) = dn u - dn v := by
  rw [turn_dn, turn_dn, cr_ng, dn_ng hu, dn_ng hv]
  rcases dn_bit u with h1 | h1 <;> rcases dn_bit v with h2 | h2 <;> rw [h1, h2]
  · simp
  · have := cr_apart hu hv (by rw [h1, h2]; decide)
    simp
    rcases Int.lt_or_le (cr u v) 0 with h | h
    · have h' : ¬ 0 < cr u v := by omega
      simp [h, h']
    · have h' : 0 < cr u v := by omega
      have h'' : ¬ cr u v < 0 := by omega
      simp [h', h'']
  · have := cr_apart hu hv (by rw [h1, h2]; decide)
    simp
    rcases Int.lt_or_le (cr u v) 0 with h | h
    · have h' : ¬ 0 < cr u v := by omega
      simp [h, h']
    · have h' : 0 < cr u v := by omega
      have h'' : ¬ cr u v < 0 := by omega
      simp [h', h'']
  · simp
theorem turn_same {u v : Spot} (h : dn u = dn v) : turn u v = 0 := by
  rw [turn_dn, h]
  rcases dn_bit v with h2 | h2 <;> rw [h2] <;> simp
theorem turn_zero {u v : Spot} (h : cr u v = 0) : turn u v = 0 := by
  unfold turn; rw [h]; simp
theorem sumUp_congr {f g : Nat → Int} : ∀ {k : Nat}, (∀ i, i < k → f i = g i) → sumUp f k = sumUp g k
  | 0, _ => rfl
  | k + 1, h => by simp only [sumUp]; rw [sumUp_congr (fun i hi => h i (by omega)), h k (by omega)]
theorem sumUp_add (f g : Nat → Int) : ∀ k, sumUp (fun i => f i + g i) k = sumUp f k + sumUp g k
  | 0 => rfl
  | k + 1 => by simp only [sumUp]; rw [sumUp_add f g k]; omega
theorem sumUp_neg (f : Nat → Int) : ∀ k, sumUp (fun i => -f i) k = -sumUp f k
  | 0 => rfl
  | k + 1 => by simp only [sumUp]; rw [sumUp_neg f k]; omega
theorem sumUp_sub (f g : Nat → Int) (k : Nat) : sumUp (fun i => f i - g i) k = sumUp f k - sumUp g k := by
  have := sumUp_add f (fun i => -g i) k
  rw [sumUp_neg] at this
  exact this
theorem sumUp_mul (c : Int) (f : Nat → Int) : ∀ k, sumUp (fun i => c * f i) k = c * sumUp f k
  | 0 => by simp [sumUp]
  | k + 1 => by simp only [sumUp]; rw [sumUp_mul c f k, Int.mul_add]
theorem sumUp_const (c : Int) : ∀ k : Nat, sumUp (fun _ => c) k = c * k
  | 0 => by simp [sumUp]
  | k + 1 => by simp only [sumUp]; rw [sumUp_const c k, Int.natCast_add, Int.mul_add]; simp
theorem sumUp_zero {f : Nat → Int} : ∀ {k : Nat}, (∀ i, i < k → f i = 0) → sumUp f k = 0
  | 0, _ => rfl
  | k + 1, h => by simp only [sumUp]; rw [sumUp_zero (fun i hi => h i (by omega)), h k (by omega)]; rfl
theorem sumUp_tele (f : Nat → Int) : ∀ k, sumUp (fun i => f (i + 1) - f i) k = f k - f 0
  | 0 => by simp [sumUp]
  | k + 1 => by simp only [sumUp]; rw [sumUp_tele f k]; omega
theorem sumUp_head (f : Nat → Int) : ∀ k, sumUp f (k + 1) = f 0 + sumUp (fun i => f (i + 1)) k
  | 0 => by simp [sumUp]
  | k + 1 => by
    have h := sumUp_head f k
    simp only [sumUp] at h ⊢; omega
theorem sumUp_swap (f : Nat → Nat → Int) (m : Nat) : ∀ k, sumUp (fun i => sumUp (f i) m) k = sumUp (fun j => sumUp (fun i => f i j) k) m
  | 0 => by simp only [sumUp]; exact (sumUp_zero fun _ _ => rfl).symm
  | k + 1 => by simp only [sumUp]; rw [sumUp_swap f m k, sumUp_add (fun j => sumUp (fun i => f i j) k) (f k)]
theorem sumUp_shift1 {f : Nat → Int} {n : Nat} (h : f n = f 0) : sumUp (fun i => f (i + 1)) n = sumUp f n := by
  have h1 := sumUp_head f n
  simp only [sumUp] at h1; omega
theorem sumUp_shift {f : Nat → Int} {n : Nat} (h : ∀ i, f (i + n) = f i) : ∀ m, sumUp (fun i => f (i + m)) n = sumUp f n
  | 0 => rfl
  | m + 1 => by
    have h1 := sumUp_shift1 (f := fun i => f (i + m)) (n := n) (by have := h m; rw [Nat.add_comm] at this; simpa using this)
    rw [sumUp_shift h m] at h1
    rw [← h1]
    exact sumUp_congr fun i _ => by rw [Nat.add_assoc, Nat.add_comm 1 m]
theorem sumUp_nonneg {f : Nat → Int} : ∀ {k : Nat}, (∀ i, i < k → 0 ≤ f i) → 0 ≤ sumUp f k
  | 0, _ => by simp [sumUp]
  | k + 1, h => by simp only [sumUp]; have := sumUp_nonneg (f := f) (k := k) (fun i hi => h i (by omega)); have := h k (by omega); omega
/-- One worth alone. -/
theorem sumUp_one {f : Nat → Int} {j : Nat} : ∀ {k : Nat}, j < k → (∀ i, i < k → i ≠ j → f i = 0) → sumUp f k = f j
  | 0, h, _ => absurd h (Nat.not_lt_zero _)
  | k + 1, h, h0 => by
    simp only [sumUp]
    by_cases e : j = k
    · subst e
      rw [sumUp_zero (fun i hi => h0 i (by omega) (by omega))]; omega
    · rw [sumUp_one (j := j) (by omega) (fun i hi => h0 i (by omega)), h0 k (by omega) (by omega)]; omega

/-- A simple way round: sides that are not neighbours lie in a half of the plane of each other; neighbours do not turn back. -/
structure Ring (n : Nat) (v : Nat → Spot) : Prop where
  three : 3 ≤ n
  per : ∀ i, v (i + n) = v i
  corner : ∀ i, ∃ A B, Half A B (sb (v (i + 1)) (v i)) ∧ Half A B (sb (v (i + 2)) (v (i + 1)))
  sep : ∀ i k, i + 2 ≤ k → k + 2 ≤ i + n → ∃ A B, Half A B (sb (v k) (v i)) ∧ Half A B (sb (v k) (v (i + 1))) ∧ Half A B (sb (v (k + 1)) (v i)) ∧ Half A B (sb (v (k + 1)) (v (i + 1)))
theorem Ring.rot {n : Nat} {v : Nat → Spot} (h : Ring n v) (m : Nat) : Ring n (fun i => v (i + m)) where
  three := h.three
  per := fun i => by have := h.per (i + m); rw [show i + n + m = i + m + n by omega]; exact this
  corner := fun i => by
    have := h.corner (i + m)
    rw [show i + m + 1 = i + 1 + m by omega, show i + m + 2 = i + 2 + m by omega] at this
    exact this
  sep := fun i k h1 h2 => by
    have := h.sep (i + m) (k + m) (by omega) (by omega)
    rw [show i + m + 1 = i + 1 + m by omega, show k + m + 1 = k + 1 + m by omega] at this
    exact this
def edge (v : Nat → Spot) (i : Nat) : Spot := sb (v (i + 1)) (v i)
/-- How often a way round turns. -/
def turns (n : Nat) (v : Nat → Spot) : Int := sumUp (fun i => turn (edge v i) (edge v (i + 1))) n
theorem turns_rot {n : Nat} {v : Nat → Spot} (h : Ring n v) (m : Nat) : turns n (fun i => v (i + m)) = turns n v := by
  have := sumUp_shift (f := fun i => turn (edge v i) (edge v (i + 1))) (n := n) (fun i => by
    unfold edge
    have e0 := h.per i
    have e1 := h.per (i + 1)
    have e2 := h.per (i + 1 + 1)
    rw [show i + n + 1 = i + 1 + n by omega, show i + 1 + n + 1 = i + 1 + 1 + n by omega, e0, e1, e2]) m
  show sumUp _ n = sumUp _ n
  rw [← this]
  exact sumUp_congr fun i _ => by unfold edge; simp only; rw [show i + 1 + m = i + m + 1 by omega, show i + 1 + 1 + m = i + m + 1 + 1 by omega]
/-- How far one turns, looking from a corner along all others. -/
def look (n : Nat) (v : Nat → Spot) : Int := sumUp (fun j => turn (sb (v (j + 1)) (v 0)) (sb (v (j + 2)) (v 0))) (n - 2)
def lookBack (n : Nat) (v : Nat → Spot) : Int := sumUp (fun j => turn (sb (v 0) (v (j + 1))) (sb (v 0) (v (j + 2)))) (n - 2)
/-- From one row of looks to the next one. -/
theorem row_step (v : Nat → Spot) (i a : Nat) : ∀ k, (∀ j, j < k → ∃ A B, Half A B (sb (v (a + j)) (v i)) ∧ Half A B (sb (v (a + j)) (v (i + 1))) ∧ Half A B (sb (v (a + j + 1)) (v i)) ∧ Half A B (sb (v (a + j + 1)) (v (i + 1)))) →
    sumUp (fun j => turn (sb (v (a + j)) (v i)) (sb (v (a + j + 1)) (v i))) k + turn (sb (v (a + k)) (v i)) (sb (v (a + k)) (v (i + 1))) =
    turn (sb (v a) (v i)) (sb (v a) (v (i + 1))) + sumUp (fun j => turn (sb (v (a + j)) (v (i + 1))) (sb (v (a + j + 1)) (v (i + 1)))) k
  | 0, _ => by simp [sumUp]
  | k + 1, h => by
    have ih := row_step v i a k (fun j hj => h j (by omega))
    obtain ⟨A, B, h1, h2, h3, h4⟩ := h k (by omega)
    have q := turn_quad h1 h3 h2 h4
    simp only [sumUp]
    rw [show a + (k + 1) = a + k + 1 by omega]
    omega
theorem sb_ng (a b : Spot) : ng (sb a b) = sb b a := by unfold ng sb; simp only [Spot.mk.injEq]; omega
theorem sb_add (a b c : Spot) : sb c a = ⟨1 * (sb b a).X + 1 * (sb c b).X, 1 * (sb b a).Y + 1 * (sb c b).Y⟩ := by unfold sb; simp only [Spot.mk.injEq]; omega
/-- The way along the sides, by looks from row to row. -/
theorem rows_all {n : Nat} {v : Nat → Spot} (h : Ring n v) : ∀ m i, 1 ≤ i → i + m + 1 = n →
    sumUp (fun k => turn (edge v (i + k)) (edge v (i + k + 1))) m =
    sumUp (fun j => turn (sb (v (i + 1 + j)) (v i)) (sb (v (i + 1 + j + 1)) (v i))) m + sumUp (fun k => turn (sb (v n) (v (i + k))) (sb (v n) (v (i + k + 1)))) m
  | 0, _, _, _ => by simp [sumUp]
  | m + 1, i, hi, hm => by
    have ih := rows_all h m (i + 1) (by omega) (by omega)
    have hr := row_step v i (i + 2) m (fun j hj => h.sep i (i + 2 + j) (by omega) (by omega))
    obtain ⟨A, B, c1, c2⟩ := h.corner i
    have c3 := half_add c1 c2 (a := 1) (b := 1) (by decide) (by decide) (by decide)
    rw [← sb_add] at c3
    have ct := turn_tri c1 c3 c2
    rw [sumUp_head, sumUp_head, sumUp_head]
    simp only [Nat.add_zero]
    have e1 : sumUp (fun k => turn (edge v (i + (k + 1))) (edge v (i + (k + 1) + 1))) m = sumUp (fun k => turn (edge v (i + 1 + k)) (edge v (i + 1 + k + 1))) m :=
      sumUp_congr fun k _ => by rw [show i + (k + 1) = i + 1 + k by omega]
    have e2 : sumUp (fun j => turn (sb (v (i + 1 + (j + 1))) (v i)) (sb (v (i + 1 + (j + 1) + 1)) (v i))) m = sumUp (fun j => turn (sb (v (i + 2 + j)) (v i)) (sb (v (i + 2 + j + 1)) (v i))) m :=
      sumUp_congr fun k _ => by rw [show i + 1 + (k + 1) = i + 2 + k by omega]
    have e3 : sumUp (fun k => turn (sb (v n) (v (i + (k + 1)))) (sb (v n) (v (i + (k + 1) + 1)))) m = sumUp (fun k => turn (sb (v n) (v (i + 1 + k))) (sb (v n) (v (i + 1 + k + 1)))) m :=
      sumUp_congr fun k _ => by rw [show i + (k + 1) = i + 1 + k by omega]
    have e4 : sumUp (fun j => turn (sb (v (i + 1 + 1 + j)) (v (i + 1))) (sb (v (i + 1 + 1 + j + 1)) (v (i + 1)))) m = sumUp (fun j => turn (sb (v (i + 2 + j)) (v (i + 1))) (sb (v (i + 2 + j + 1)) (v (i + 1)))) m :=
      sumUp_congr fun k _ => by rw [show i + 1 + 1 = i + 2 by omega]
    have e5 : i + 2 + m = n := by omega
    rw [e4] at ih
    rw [e5] at hr
    rw [e1, e2, e3, ih]
    unfold edge
    rw [show i + 1 + 1 = i + 2 by omega]
    omega
theorem turns_looks {n : Nat} {v : Nat → Spot} (h : Ring n v) :
    turns n v = look n v + lookBack n v + turn (ng (edge v (n - 1))) (ng (edge v 0)) + turn (edge v (n - 1)) (edge v 0) := by
  obtain ⟨m, rfl⟩ : ∃ m, n = m + 3 := ⟨n - 3, by have := h.three; omega⟩
  have hn0 : v (m + 3) = v 0 := by have := h.per 0; simpa using this
  have hn1 : v (m + 3 + 1) = v 1 := by have := h.per 1; rw [show m + 3 + 1 = 1 + (m + 3) by omega]; exact this
  have hE := rows_all h (m + 1) 1 (Nat.le_refl _) (by omega)
  have hr := row_step v 0 2 m (fun j hj => h.sep 0 (2 + j) (by omega) (by omega))
  obtain ⟨A, B, c1, c2⟩ := h.corner 0
  have c3 := half_add c1 c2 (a := 1) (b := 1) (by decide) (by decide) (by decide)
  rw [← sb_add] at c3
  have ct := turn_tri c1 c3 c2
  obtain ⟨A', B', d1, d2⟩ := h.corner (m + 2)
  rw [show m + 2 + 1 = m + 3 by omega] at d1 d2
  rw [show m + 2 + 2 = m + 3 + 1 by omega, hn1] at d2
  have d3 := half_add d1 d2 (a := 1) (b := 1) (by decide) (by decide) (by decide)
  rw [← sb_add] at d3
  have dt := turn_tri (half_ng d1) (half_ng d3) (half_ng d2)
  simp only [sb_ng, hn0] at dt
  -- the turns
  have t1 : turns (m + 3) v = turn (edge v 0) (edge v 1) + sumUp (fun k => turn (edge v (1 + k)) (edge v (1 + k + 1))) (m + 1) + turn (edge v (m + 2)) (edge v 0) := by
    unfold turns
    rw [sumUp_head]
    simp only [sumUp, Nat.zero_add]
    have e0 : edge v (m + 1 + 1 + 1) = edge v 0 := by unfold edge; rw [show m + 1 + 1 + 1 = m + 3 by omega, hn0, hn1]
    rw [e0]
    have e1 : sumUp (fun i => turn (edge v (i + 1)) (edge v (i + 1 + 1))) m = sumUp (fun k => turn (edge v (1 + k)) (edge v (1 + k + 1))) m :=
      sumUp_congr fun k _ => by rw [Nat.add_comm k 1]
    rw [e1, show 1 + m = m + 1 by omega, show m + 1 + 1 = m + 2 by omega]
    omega
  have t2 : look (m + 3) v = turn (sb (v 1) (v 0)) (sb (v 2) (v 0)) + sumUp (fun j => turn (sb (v (2 + j)) (v 0)) (sb (v (2 + j + 1)) (v 0))) m := by
    unfold look
    rw [show m + 3 - 2 = m + 1 by omega, sumUp_head]
    simp only [Nat.zero_add]
    congr 1
    exact sumUp_congr fun k _ => by rw [show k + 1 + 1 = 2 + k by omega, show k + 1 + 2 = 2 + k + 1 by omega]
  have t3 : lookBack (m + 3) v = sumUp (fun k => turn (sb (v (m + 3)) (v (1 + k))) (sb (v (m + 3)) (v (1 + k + 1)))) (m + 1) := by
    unfold lookBack
    rw [show m + 3 - 2 = m + 1 by omega, hn0]
    exact sumUp_congr fun k _ => by rw [show k + 1 = 1 + k by omega, show k + 2 = 1 + k + 1 by omega]
  have t4 : sumUp (fun j => turn (sb (v (1 + 1 + j)) (v 1)) (sb (v (1 + 1 + j + 1)) (v 1))) (m + 1) = sumUp (fun j => turn (sb (v (2 + j)) (v (0 + 1))) (sb (v (2 + j + 1)) (v (0 + 1)))) m + turn (sb (v (m + 2)) (v 1)) (sb (v 0) (v 1)) := by
    simp only [sumUp]
    rw [show 1 + 1 + m = m + 2 by omega, show m + 2 + 1 = m + 3 by omega, hn0]
  have e6 : edge v (m + 3 - 1) = sb (v 0) (v (m + 2)) := by unfold edge; rw [show m + 3 - 1 = m + 2 by omega, show m + 2 + 1 = m + 3 by omega, hn0]
  have e7 : edge v (m + 2) = sb (v 0) (v (m + 2)) := by unfold edge; rw [show m + 2 + 1 = m + 3 by omega, hn0]
  have e8 : edge v 0 = sb (v 1) (v 0) := rfl
  have e9 : edge v 1 = sb (v 2) (v 1) := rfl
  rw [t1, t2, t3, hE, t4, e6, e7, e8, e9, sb_ng, sb_ng]
  rw [show 2 + m = m + 2 by omega] at hr
  simp only [Nat.zero_add] at *
  omega
/-- One look, the other way. -/
theorem look_back {n : Nat} {v : Nat → Spot} (h : Ring n v) : look n v - lookBack n v = dn (edge v 0) - (1 - dn (edge v (n - 1))) := by
  obtain ⟨m, rfl⟩ : ∃ m, n = m + 3 := ⟨n - 3, by have := h.three; omega⟩
  have hn0 : v (m + 3) = v 0 := by have := h.per 0; simpa using this
  have hd : dn (edge v (m + 3 - 1)) = 1 - dn (sb (v (m + 2)) (v 0)) := by
    obtain ⟨A, B, d1, _⟩ := h.corner (m + 2)
    rw [show m + 2 + 1 = m + 3 by omega, hn0] at d1
    have := dn_ng d1
    rw [sb_ng] at this
    rw [this]
    unfold edge
    rw [show m + 3 - 1 = m + 2 by omega, show m + 2 + 1 = m + 3 by omega, hn0]; omega
  have key : ∀ j, j < m + 1 → turn (sb (v (j + 1)) (v 0)) (sb (v (j + 2)) (v 0)) - turn (sb (v 0) (v (j + 1))) (sb (v 0) (v (j + 2))) = dn (sb (v (j + 1)) (v 0)) - dn (sb (v (j + 2)) (v 0)) := by
    intro j hj
    have : ∃ A B, Half A B (sb (v (j + 1)) (v 0)) ∧ Half A B (sb (v (j + 2)) (v 0)) := by
      cases j with
      | zero =>
        obtain ⟨A, B, c1, c2⟩ := h.corner 0
        have c3 := half_add c1 c2 (a := 1) (b := 1) (by decide) (by decide) (by decide)
        rw [← sb_add] at c3
        exact ⟨A, B, c1, c3⟩
      | succ j =>
        obtain ⟨A, B, c1, _, c2, _⟩ := h.sep 0 (j + 1 + 1) (by omega) (by omega)
        exact ⟨A, B, c1, c2⟩
    obtain ⟨A, B, c1, c2⟩ := this
    have := turn_ng c1 c2
    rw [sb_ng, sb_ng] at this
    exact this
  unfold look lookBack
  rw [show m + 3 - 2 = m + 1 by omega, ← sumUp_sub, sumUp_congr key]
  have := sumUp_tele (fun j => -dn (sb (v (j + 1)) (v 0))) (m + 1)
  rw [sumUp_congr (g := fun i => -dn (sb (v (i + 1 + 1)) (v 0)) - -dn (sb (v (i + 1)) (v 0))) (fun i _ => by rw [show i + 1 + 1 = i + 2 by omega]; omega), this, hd]
  simp only [Nat.zero_add]
  unfold edge
  rw [show m + 1 + 1 = m + 2 by omega, show (0 : Nat) + 1 = 1 from rfl]
  omega
theorem corner0 {n : Nat} {v : Nat → Spot} (h : Ring n v) : ∃ A B, Half A B (edge v (n - 1)) ∧ Half A B (edge v 0) := by
  have h3 := h.three
  obtain ⟨A, B, c1, c2⟩ := h.corner (n - 1)
  refine ⟨A, B, c1, ?_⟩
  have e0 := h.per 0
  have e1 := h.per 1
  unfold edge
  rw [show n - 1 + 2 = 1 + n by omega, show n - 1 + 1 = 0 + n by omega, e1, e0] at c2
  exact c2
/-- What one sees from a corner, by the turns of the way. -/
theorem look_is {n : Nat} {v : Nat → Spot} (h : Ring n v) : 2 * look n v = turns n v - 1 + 2 * (dn (edge v (n - 1)) - turn (edge v (n - 1)) (edge v 0)) := by
  have h1 := turns_looks h
  have h2 := look_back h
  obtain ⟨A, B, c1, c2⟩ := corner0 h
  have h3 := turn_ng c1 c2
  omega
theorem dn_zero (u : Spot) : dn u = 0 ↔ 0 < u.Y ∨ (u.Y = 0 ∧ u.X ≤ 0) := by
  unfold dn
  by_cases h : u.Y < 0 ∨ (u.Y = 0 ∧ 0 < u.X)
  · rw [if_pos h]; simp; omega
  · rw [if_neg h]; simp; omega
theorem exists_low (v : Nat → Spot) : ∀ n, 0 < n → ∃ m, m < n ∧ ∀ j, j < n → dn (sb (v j) (v m)) = 0
  | 0, h => absurd h (Nat.lt_irrefl _)
  | 1, _ => ⟨0, by omega, fun j hj => by obtain rfl : j = 0 := by omega
                                         rw [dn_zero]; simp [sb]⟩
  | n + 2, _ => by
    obtain ⟨m, hm, h⟩ := exists_low v (n + 1) (by omega)
    by_cases e : dn (sb (v (n + 1)) (v m)) = 0
    · refine ⟨m, by omega, fun j hj => ?_⟩
      by_cases ej : j = n + 1
      · rw [ej]; exact e
      · exact h j (by omega)
    · refine ⟨n + 1, by omega, fun j hj => ?_⟩
      rw [dn_zero] at e ⊢
      by_cases ej : j = n + 1
      · rw [ej]; simp [sb]
      · have := h j (by omega)
        rw [dn_zero] at this
        simp only [sb] at *
        omega
/-- A simple way round turns once. -/
theorem turns_one {n : Nat} {v : Nat → Spot} (h : Ring n v) : turns n v = 1 ∨ turns n v = -1 := by
  have h3 := h.three
  obtain ⟨m, hm, hl⟩ := exists_low v n (by omega)
  rw [← turns_rot h m]
  have hr := h.rot m
  have hlow : ∀ j, dn (sb ((fun i => v (i + m)) j) ((fun i => v (i + m)) 0)) = 0 := by
    intro j
    simp only [Nat.zero_add]
    have : ∀ i, v i = v (i % n) := by
      intro i
      have key : ∀ q r, v (r + n * q) = v r := by
        intro q; induction q with
        | zero => intro r; rfl
        | succ q ih => intro r; rw [Nat.mul_succ, ← Nat.add_assoc, h.per, ih]
      have := key (i / n) (i % n)
      rw [Nat.mod_add_div] at this
      exact this
    rw [this (j + m)]
    exact hl _ (Nat.mod_lt _ (by omega))
  generalize (fun i => v (i + m)) = u at *
  have h1 : look n u = 0 := by
    unfold look
    exact sumUp_zero fun j _ => turn_same (by rw [hlow, hlow])
  have h2 := look_is hr
  have h4 : dn (edge u 0) = 0 := hlow 1
  obtain ⟨A, B, c1, c2⟩ := corner0 hr
  have h5 : dn (edge u (n - 1)) = 1 := by
    have := dn_ng c1
    have e : ng (edge u (n - 1)) = sb (u (n - 1)) (u 0) := by
      unfold edge
      have := hr.per 0
      rw [sb_ng, show n - 1 + 1 = 0 + n by omega, this]
    rw [e, hlow] at this; omega
  rw [h1, h5] at h2
  have h6 := turn_dn (edge u (n - 1)) (edge u 0)
  rw [h4, h5] at h6
  simp at h6
  split at h6 <;> omega
/-- The same looks, moved from vectors to vectors. -/
theorem step_gen (f g : Nat → Spot) : ∀ k, (∀ j, j < k → ∃ A B, Half A B (f j) ∧ Half A B (g j) ∧ Half A B (f (j + 1)) ∧ Half A B (g (j + 1))) →
    sumUp (fun j => turn (f j) (f (j + 1))) k + turn (f k) (g k) = turn (f 0) (g 0) + sumUp (fun j => turn (g j) (g (j + 1))) k
  | 0, _ => by simp [sumUp]
  | k + 1, h => by
    have ih := step_gen f g k (fun j hj => h j (by omega))
    obtain ⟨A, B, h1, h2, h3, h4⟩ := h k (by omega)
    have q := turn_quad h1 h3 h2 h4
    simp only [sumUp]
    omega
/-- From a spot on the first side to a corner. -/
def mids (K t : Int) (v : Nat → Spot) (j : Nat) : Spot := ⟨(K - t) * (sb (v j) (v 0)).X + t * (sb (v j) (v 1)).X, (K - t) * (sb (v j) (v 0)).Y + t * (sb (v j) (v 1)).Y⟩
def midLook (n : Nat) (K t : Int) (v : Nat → Spot) : Int := sumUp (fun j => turn (mids K t v (j + 1)) (mids K t v (j + 2))) (n - 1)
theorem mid_is {n : Nat} {v : Nat → Spot} (h : Ring n v) {K t : Int} (h0 : 0 < t) (hK : t < K) : 2 * midLook n K t v = turns n v - 1 + 2 * dn (edge v 0) := by
  have hl := look_is h
  have h3 := h.three
  obtain ⟨A0, B0, c1, c2⟩ := corner0 h
  have hng := turn_ng c1 c2
  have hn0 : v n = v 0 := by have := h.per 0; simpa using this
  have hs := step_gen (fun j => sb (v (j + 1)) (v 0)) (fun j => mids K t v (j + 1)) (n - 2) (fun j hj => by
    cases j with
    | zero =>
      obtain ⟨A, B, d1, d2⟩ := h.corner 0
      have d3 := half_add d1 d2 (a := 1) (b := 1) (by decide) (by decide) (by decide)
      rw [← sb_add] at d3
      refine ⟨A, B, d1, ?_, d3, half_add d3 d2 (by omega) (by omega) (by omega)⟩
      have := half_add d1 d1 (a := K - t) (b := 0) (by omega) (by omega) (by omega)
      have e : mids K t v (0 + 1) = ⟨(K - t) * (sb (v (0 + 1)) (v 0)).X + 0 * (sb (v (0 + 1)) (v 0)).X, (K - t) * (sb (v (0 + 1)) (v 0)).Y + 0 * (sb (v (0 + 1)) (v 0)).Y⟩ := by
        unfold mids sb; simp
      rw [e]; exact this
    | succ j =>
      obtain ⟨A, B, d1, d2, d3, d4⟩ := h.sep 0 (j + 1 + 1) (by omega) (by omega)
      exact ⟨A, B, d1, half_add d1 d2 (by omega) (by omega) (by omega), d3, half_add d3 d4 (by omega) (by omega) (by omega)⟩)
  have e1 : turn (sb (v (0 + 1)) (v 0)) (mids K t v (0 + 1)) = 0 := turn_zero (by unfold cr mids sb; simp; grind)
  have e2 : look n v = sumUp (fun j => turn (sb (v (j + 1)) (v 0)) (sb (v (j + 1 + 1)) (v 0))) (n - 2) := rfl
  have e3 : midLook n K t v = sumUp (fun j => turn (mids K t v (j + 1)) (mids K t v (j + 1 + 1))) (n - 2) + turn (mids K t v (n - 1)) (mids K t v n) := by
    unfold midLook
    obtain ⟨m, rfl⟩ : ∃ m, n = m + 3 := ⟨n - 3, by omega⟩
    rfl
  have e4 : edge v (n - 1) = sb (v 0) (v (n - 1)) := by unfold edge; rw [show n - 1 + 1 = n by omega, hn0]
  have e5 : edge v 0 = sb (v 1) (v 0) := rfl
  have a1 := half_ng c1
  have a2 := half_ng c2
  rw [e4, sb_ng] at a1
  rw [e5, sb_ng] at a2
  have a3 := half_add a2 a1 (a := 1) (b := 1) (by decide) (by decide) (by decide)
  rw [← sb_add] at a3
  have a4 : Half (-A0) (-B0) (mids K t v (n - 1)) := half_add a1 a3 (by omega) (by omega) (by omega)
  have a5 : Half (-A0) (-B0) (mids K t v n) := by
    have := half_add a2 a2 (a := t) (b := 0) (by omega) (by omega) (by omega)
    have e : mids K t v n = ⟨t * (sb (v 0) (v 1)).X + 0 * (sb (v 0) (v 1)).X, t * (sb (v 0) (v 1)).Y + 0 * (sb (v 0) (v 1)).Y⟩ := by
      unfold mids; rw [hn0]; unfold sb; simp
    rw [e]; exact this
  have t1 := turn_tri a1 a4 a5
  have t2 := turn_tri a1 a2 a5
  have t3 : turn (sb (v 0) (v 1)) (mids K t v n) = 0 := turn_zero (by unfold mids; rw [hn0]; unfold cr sb; simp; grind)
  rw [show n - 2 + 1 = n - 1 by omega] at hs
  rw [e4, e5, sb_ng, sb_ng] at hng
  rw [e4, e5] at hl
  rw [e5, e3]
  rw [e2] at hl
  omega
/-- The way round a spot. -/
def windAt (v : Nat → Spot) (p : Spot) (i : Nat) : Int := turn (sb (v i) p) (sb (v (i + 1)) p)
def wind (n : Nat) (v : Nat → Spot) (p : Spot) : Int := sumUp (windAt v p) n
/-- A side from a low spot to a high one crosses a row. -/
def Rows (a b p : Spot) : Prop := a.Y ≤ p.Y ∧ p.Y < b.Y
/-- Where it crosses the way to the next row, by twice its height. -/
def half2 (a b p : Spot) : Int := (2 * (b.Y - p.Y) - 1) * (a.X - p.X) + (2 * (p.Y - a.Y) + 1) * (b.X - p.X)
/-- Seen from there. -/
def from2 (a b p x : Spot) : Spot := ⟨(2 * (b.Y - p.Y) - 1) * (sb x a).X + (2 * (p.Y - a.Y) + 1) * (sb x b).X, (2 * (b.Y - p.Y) - 1) * (sb x a).Y + (2 * (p.Y - a.Y) + 1) * (sb x b).Y⟩
theorem from2_Y (a b p x : Spot) : (from2 a b p x).Y = (b.Y - a.Y) * (2 * (x.Y - p.Y) - 1) := by unfold from2 sb; grind
theorem from2_cr (a b p a' b' : Spot) : cr (from2 a b p a') (from2 a b p b') = 2 * (b.Y - a.Y) * ((b.Y - a.Y) * half2 a' b' p - (b'.Y - a'.Y) * half2 a b p) := by
  unfold cr from2 half2 sb; grind
theorem cross_key (A B : Int) (a b a' b' p : Spot) : A * ((b.Y - a.Y) * cr (sb a' p) (sb b' p) - (b'.Y - a'.Y) * cr (sb a p) (sb b p)) =
    (b.Y - p.Y) * (b'.Y - p.Y) * (A * (sb a' a).X + B * (sb a' a).Y) + (b.Y - p.Y) * (p.Y - a'.Y) * (A * (sb b' a).X + B * (sb b' a).Y) +
    (p.Y - a.Y) * (b'.Y - p.Y) * (A * (sb a' b).X + B * (sb a' b).Y) + (p.Y - a.Y) * (p.Y - a'.Y) * (A * (sb b' b).X + B * (sb b' b).Y) := by
  unfold cr sb; grind
/-- A side, seen from the nearest one, lies on the side on which it is seen from the spot. -/
theorem same_side {A B : Int} {a b a' b' p : Spot} (h1 : Rows a b p) (h2 : Rows a' b' p) (hc : 0 < cr (sb a p) (sb b p))
    (n1 : 0 ≤ A * (sb a' a).X + B * (sb a' a).Y) (n2 : 0 ≤ A * (sb b' a).X + B * (sb b' a).Y) (n3 : 0 ≤ A * (sb a' b).X + B * (sb a' b).Y) (n4 : 0 ≤ A * (sb b' b).X + B * (sb b' b).Y)
    (u1 : Half A B (from2 a b p a')) (u2 : Half A B (from2 a b p b')) (hd : cr (sb a' p) (sb b' p) ≠ 0)
    (hnear : 0 < cr (sb a' p) (sb b' p) → (b'.Y - a'.Y) * half2 a b p ≤ (b.Y - a.Y) * half2 a' b' p) :
    0 < cr (from2 a b p a') (from2 a b p b') ↔ 0 < cr (sb a' p) (sb b' p) := by
  unfold Rows at h1 h2
  have hh : 0 < b.Y - a.Y := by omega
  have hh' : 0 < b'.Y - a'.Y := by omega
  have y1 : (from2 a b p a').Y ≤ 0 := by
    rw [from2_Y]
    have := Int.mul_nonneg (Int.le_of_lt hh) (show 0 ≤ -(2 * (a'.Y - p.Y) - 1) by omega)
    rw [Int.mul_neg] at this; omega
  have y2 : 0 < (from2 a b p b').Y := by rw [from2_Y]; exact Int.mul_pos hh (by omega)
  have k := half_key A B (from2 a b p a') (from2 a b p b')
  unfold Half at u1 u2
  have e1 := Int.mul_pos y2 u1
  have e2 := Int.mul_nonneg (show 0 ≤ -(from2 a b p a').Y by omega) (Int.le_of_lt u2)
  rw [Int.neg_mul] at e2
  have e3 : 0 < A * cr (from2 a b p a') (from2 a b p b') := by omega
  constructor
  · intro hp
    rcases Int.lt_or_le 0 (cr (sb a' p) (sb b' p)) with h | h
    · exact h
    · exfalso
      have hneg : cr (sb a' p) (sb b' p) < 0 := by omega
      have ck := cross_key A B a b a' b' p
      have w1 := Int.mul_nonneg (Int.mul_nonneg (show 0 ≤ b.Y - p.Y by omega) (show 0 ≤ b'.Y - p.Y by omega)) n1
      have w2 := Int.mul_nonneg (Int.mul_nonneg (show 0 ≤ b.Y - p.Y by omega) (show 0 ≤ p.Y - a'.Y by omega)) n2
      have w3 := Int.mul_nonneg (Int.mul_nonneg (show 0 ≤ p.Y - a.Y by omega) (show 0 ≤ b'.Y - p.Y by omega)) n3
      have w4 := Int.mul_nonneg (Int.mul_nonneg (show 0 ≤ p.Y - a.Y by omega) (show 0 ≤ p.Y - a'.Y by omega)) n4
      have hA : 0 < A := by
        rcases Int.lt_or_le 0 A with hA | hA
        · exact hA
        · have := Int.mul_nonneg (show 0 ≤ -A by omega) (Int.le_of_lt hp)
          rw [Int.neg_mul] at this; omega
      have d1 := Int.mul_pos hh (show 0 < -cr (sb a' p) (sb b' p) by omega)
      have d2 := Int.mul_pos hh' hc
      rw [Int.mul_neg] at d1
      have d3 := Int.mul_pos hA (show 0 < -((b.Y - a.Y) * cr (sb a' p) (sb b' p) - (b'.Y - a'.Y) * cr (sb a p) (sb b p)) by omega)
      rw [Int.mul_neg] at d3
      omega
  · intro hp
    have hn := hnear hp
    have e := from2_cr a b p a' b'
    have g1 := Int.mul_nonneg (show 0 ≤ 2 * (b.Y - a.Y) by omega) (show 0 ≤ (b.Y - a.Y) * half2 a' b' p - (b'.Y - a'.Y) * half2 a b p by omega)
    have g2 : cr (from2 a b p a') (from2 a b p b') ≠ 0 := by intro h; rw [h, Int.mul_zero] at e3; omega
    omega
/-- The low and the high end of a side that crosses a row upwards or downwards. -/
theorem turn_same_side {A B : Int} {a b p c d : Spot} (h1 : Rows a b p) (hc : 0 < cr (sb a p) (sb b p))
    (n1 : 0 ≤ A * (sb c a).X + B * (sb c a).Y) (n2 : 0 ≤ A * (sb d a).X + B * (sb d a).Y) (n3 : 0 ≤ A * (sb c b).X + B * (sb c b).Y) (n4 : 0 ≤ A * (sb d b).X + B * (sb d b).Y)
    (u1 : Half A B (from2 a b p c)) (u2 : Half A B (from2 a b p d)) (hd : Rows c d p ∨ Rows d c p → cr (sb c p) (sb d p) ≠ 0)
    (hnear1 : Rows c d p → 0 < cr (sb c p) (sb d p) → (d.Y - c.Y) * half2 a b p ≤ (b.Y - a.Y) * half2 c d p)
    (hnear2 : Rows d c p → 0 < cr (sb d p) (sb c p) → (c.Y - d.Y) * half2 a b p ≤ (b.Y - a.Y) * half2 d c p) :
    turn (sb c p) (sb d p) = turn (from2 a b p c) (from2 a b p d) := by
  have hh : 0 < b.Y - a.Y := by unfold Rows at h1; omega
  have sy : ∀ x : Spot, 0 < (from2 a b p x).Y ↔ 0 < (sb x p).Y := fun x => by
    rw [from2_Y]; simp only [sb]
    constructor
    · intro h; have := pos_of_mul hh h; omega
    · intro h; exact Int.mul_pos hh (by omega)
  have anti : ∀ u v : Spot, cr u v = -cr v u := fun u v => by unfold cr; grind
  have hc1 := sy c
  have hd1 := sy d
  unfold turn
  by_cases k1 : Rows c d p
  · have := same_side h1 k1 hc n1 n2 n3 n4 u1 u2 (hd (Or.inl k1)) (hnear1 k1)
    unfold Rows at k1
    have a1 : (sb c p).Y ≤ 0 := by simp only [sb]; omega
    have a2 : 0 < (sb d p).Y := by simp only [sb]; omega
    have a3 : (from2 a b p c).Y ≤ 0 := by omega
    have a4 : 0 < (from2 a b p d).Y := by omega
    have a5 : ¬ 0 < (sb c p).Y := by omega
    have a6 : ¬ 0 < (from2 a b p c).Y := by omega
    simp only [a1, a2, a3, a4, a5, a6, true_and, false_and, and_false, if_false, this]
  · by_cases k2 : Rows d c p
    · have := same_side h1 k2 hc n2 n1 n4 n3 u2 u1 (by rw [anti]; have := hd (Or.inr k2); omega) (hnear2 k2)
      unfold Rows at k2
      have a1 : (sb d p).Y ≤ 0 := by simp only [sb]; omega
      have a2 : 0 < (sb c p).Y := by simp only [sb]; omega
      have a3 : (from2 a b p d).Y ≤ 0 := by omega
      have a4 : 0 < (from2 a b p c).Y := by omega
      have a5 : ¬ 0 < (sb d p).Y := by omega
      have a6 : ¬ 0 < (from2 a b p d).Y := by omega
      have s1 := anti (sb c p) (sb d p)
      have s2 := anti (from2 a b p c) (from2 a b p d)
      have e : cr (from2 a b p c) (from2 a b p d) < 0 ↔ cr (sb c p) (sb d p) < 0 := by omega
      simp only [a1, a2, a3, a4, a5, a6, true_and, false_and, and_false, if_false, e]
    · unfold Rows at k1 k2
      have b1 : ((sb c p).Y ≤ 0 ∧ ¬ 0 < (sb d p).Y) ∨ (¬ (sb c p).Y ≤ 0 ∧ ¬ (sb d p).Y ≤ 0) := by simp only [sb]; omega
      rcases b1 with ⟨x1, x2⟩ | ⟨x1, x2⟩
      · have y1 : ¬ 0 < (sb c p).Y := by omega
        have y2 : ¬ 0 < (from2 a b p c).Y := by omega
        have y3 : ¬ 0 < (from2 a b p d).Y := by omega
        simp [x2, y1, y2, y3]
      · have y2 : ¬ (from2 a b p c).Y ≤ 0 := by omega
        have y3 : ¬ (from2 a b p d).Y ≤ 0 := by omega
        simp [x1, x2, y2, y3]
theorem Ring.mod {n : Nat} {v : Nat → Spot} (h : Ring n v) (i : Nat) : v i = v (i % n) := by
  have key : ∀ q r, v (r + n * q) = v r := by
    intro q; induction q with
    | zero => intro r; rfl
    | succ q ih => intro r; rw [Nat.mul_succ, ← Nat.add_assoc, h.per, ih]
  have := key (i / n) (i % n)
  rw [Nat.mod_add_div] at this
  exact this
theorem Ring.mod1 {n : Nat} {v : Nat → Spot} (h : Ring n v) (i : Nat) : v (i + 1) = v (i % n + 1) := by
  have key : ∀ q r, v (r + n * q + 1) = v (r + 1) := by
    intro q; induction q with
    | zero => intro r; rfl
    | succ q ih => intro r; rw [Nat.mul_succ, show r + (n * q + n) + 1 = r + n * q + 1 + n by omega, h.per, ih]
  have := key (i / n) (i % n)
  rw [Nat.mod_add_div] at this
  exact this
theorem exists_near (P : Nat → Prop) (N H : Nat → Int) (hh : ∀ i, P i → 0 < H i) : ∀ n, (∃ i, i < n ∧ P i) → ∃ m, m < n ∧ P m ∧ ∀ j, j < n → P j → H j * N m ≤ H m * N j
  | 0, ⟨_, hi, _⟩ => absurd hi (Nat.not_lt_zero _)
  | n + 1, hex => by
    by_cases hn : ∃ i, i < n ∧ P i
    · obtain ⟨m, hm, hP, hmin⟩ := exists_near P N H hh n hn
      by_cases hPn : P n
      · by_cases hle : H n * N m ≤ H m * N n
        · refine ⟨m, by omega, hP, fun j hj hPj => ?_⟩
          by_cases e : j = n
          · rw [e]; exact hle
          · exact hmin j (by omega) hPj
        · refine ⟨n, by omega, hPn, fun j hj hPj => ?_⟩
          by_cases e : j = n
          · rw [e]; exact Int.le_refl _
          · have h1 := hmin j (by omega) hPj
            -- H j N m ≤ H m N j, H m N n < H n N m: so H j N n ≤ H n N j
            have h2 : H m * N n < H n * N m := by omega
            have p1 := hh m hP
            have p2 := hh n hPn
            have p3 := hh j hPj
            have q1 := Int.mul_le_mul_of_nonneg_left h1 (Int.le_of_lt p2)
            have q2 := Int.mul_le_mul_of_nonneg_left (Int.le_of_lt h2) (Int.le_of_lt p3)
            refine Int.le_of_mul_le_mul_left (a := H m) ?_ p1
            have e1 : H n * (H j * N m) = H j * (H n * N m) := by grind
            have e2 : H m * (H j * N n) = H j * (H m * N n) := by grind
            have e3 : H m * (H n * N j) = H n * (H m * N j) := by grind
            omega
      · refine ⟨m, by omega, hP, fun j hj hPj => ?_⟩
        by_cases e : j = n
        · rw [e] at hPj; exact absurd hPj hPn
        · exact hmin j (by omega) hPj
    · obtain ⟨i, hi, hPi⟩ := hex
      have e : i = n := by
        apply Classical.byContradiction; intro e
        exact hn ⟨i, by omega, hPi⟩
      subst e
      refine ⟨i, by omega, hPi, fun j hj hPj => ?_⟩
      by_cases e : j = i
      · rw [e]; exact Int.le_refl _
      · exact absurd ⟨j, by omega, hPj⟩ hn
def lowE (a b : Spot) : Spot := if a.Y ≤ b.Y then a else b
def highE (a b : Spot) : Spot := if a.Y ≤ b.Y then b else a
theorem lowE_up {a b p : Spot} (h : Rows a b p) : lowE a b = a ∧ highE a b = b := by
  unfold Rows at h
  unfold lowE highE
  rw [if_pos (by omega), if_pos (by omega)]; exact ⟨rfl, rfl⟩
theorem lowE_down {a b p : Spot} (h : Rows b a p) : lowE a b = b ∧ highE a b = a := by
  unfold Rows at h
  unfold lowE highE
  rw [if_neg (by omega), if_neg (by omega)]; exact ⟨rfl, rfl⟩
/-- Seen from the first side, all others lie in halves of the plane. -/
theorem Ring.side {n : Nat} {v : Nat → Spot} (h : Ring n v) {j : Nat} (h1 : 1 ≤ j) (hj : j < n) : ∃ A B,
    (0 ≤ A * (sb (v j) (v 0)).X + B * (sb (v j) (v 0)).Y ∧ 0 ≤ A * (sb (v j) (v 1)).X + B * (sb (v j) (v 1)).Y ∧ 0 ≤ A * (sb (v (j + 1)) (v 0)).X + B * (sb (v (j + 1)) (v 0)).Y ∧ 0 ≤ A * (sb (v (j + 1)) (v 1)).X + B * (sb (v (j + 1)) (v 1)).Y) ∧
    ∀ K t : Int, 0 < t → t < K → Half A B (mids K t v j) ∧ Half A B (mids K t v (j + 1)) := by
  have h3 := h.three
  have z : ∀ (A B : Int) (a : Spot), A * (sb a a).X + B * (sb a a).Y = 0 := fun A B a => by unfold sb; simp
  by_cases e1 : j = 1
  · subst e1
    obtain ⟨A, B, d1, d2⟩ := h.corner 0
    have d3 := half_add d1 d2 (a := 1) (b := 1) (by decide) (by decide) (by decide)
    rw [← sb_add] at d3
    refine ⟨A, B, ⟨Int.le_of_lt d1, by rw [z]; exact Int.le_refl _, Int.le_of_lt d3, Int.le_of_lt d2⟩, fun K t h0 hK => ⟨?_, half_add d3 d2 (by omega) (by omega) (by omega)⟩⟩
    have := half_add d1 d1 (a := K - t) (b := 0) (by omega) (by omega) (by omega)
    have e : mids K t v 1 = ⟨(K - t) * (sb (v (0 + 1)) (v 0)).X + 0 * (sb (v (0 + 1)) (v 0)).X, (K - t) * (sb (v (0 + 1)) (v 0)).Y + 0 * (sb (v (0 + 1)) (v 0)).Y⟩ := by
      unfold mids sb; simp
    rw [e]; exact this
  · by_cases e2 : j + 1 = n
    · have hn0 : v n = v 0 := by have := h.per 0; simpa using this
      obtain ⟨A0, B0, c1, c2⟩ := corner0 h
      have e4 : edge v (n - 1) = sb (v 0) (v (n - 1)) := by unfold edge; rw [show n - 1 + 1 = n by omega, hn0]
      have e5 : edge v 0 = sb (v 1) (v 0) := rfl
      have a1 := half_ng c1
      have a2 := half_ng c2
      rw [e4, sb_ng] at a1
      rw [e5, sb_ng] at a2
      have a3 := half_add a2 a1 (a := 1) (b := 1) (by decide) (by decide) (by decide)
      rw [← sb_add] at a3
      obtain rfl : j = n - 1 := by omega
      rw [show n - 1 + 1 = n by omega, hn0]
      refine ⟨-A0, -B0, ⟨Int.le_of_lt a1, Int.le_of_lt a3, by rw [z]; exact Int.le_refl _, Int.le_of_lt a2⟩, fun K t h0 hK => ⟨half_add a1 a3 (by omega) (by omega) (by omega), ?_⟩⟩
      have := half_add a2 a2 (a := t) (b := 0) (by omega) (by omega) (by omega)
      have e : mids K t v n = ⟨t * (sb (v 0) (v 1)).X + 0 * (sb (v 0) (v 1)).X, t * (sb (v 0) (v 1)).Y + 0 * (sb (v 0) (v 1)).Y⟩ := by
        unfold mids; rw [hn0]; unfold sb; simp
      rw [e]; exact this
    · obtain ⟨A, B, d1, d2, d3, d4⟩ := h.sep 0 j (by omega) (by omega)
      exact ⟨A, B, ⟨Int.le_of_lt d1, Int.le_of_lt d2, Int.le_of_lt d3, Int.le_of_lt d4⟩, fun K t h0 hK => ⟨half_add d1 d2 (by omega) (by omega) (by omega), half_add d3 d4 (by omega) (by omega) (by omega)⟩⟩
theorem wind_rot {n : Nat} {v : Nat → Spot} (h : Ring n v) (p : Spot) (m : Nat) : wind n (fun i => v (i + m)) p = wind n v p := by
  have := sumUp_shift (f := windAt v p) (n := n) (fun i => by
    unfold windAt
    have e0 := h.per i
    have e1 := h.per (i + 1)
    rw [show i + n + 1 = i + 1 + n by omega, e0, e1]) m
  unfold wind
  rw [← this]
  exact sumUp_congr fun i _ => by unfold windAt; simp only; rw [show i + 1 + m = i + m + 1 by omega]
/-- A spot that is on no side: the way goes round it once as it turns, or not at all. -/
theorem wind_off {n : Nat} {v : Nat → Spot} (h : Ring n v) (p : Spot) (hoff : ∀ i, Rows (v i) (v (i + 1)) p ∨ Rows (v (i + 1)) (v i) p → cr (sb (v i) p) (sb (v (i + 1)) p) ≠ 0) :
    wind n v p = 0 ∨ wind n v p = turns n v := by
  have anti : ∀ u v : Spot, cr u v = -cr v u := fun u v => by unfold cr; grind
  by_cases hz : ∀ i, i < n → windAt v p i = 0
  · left; exact sumUp_zero hz
  · have hex : ∃ i, i < n ∧ windAt v p i ≠ 0 := by
      apply Classical.byContradiction; intro hc
      exact hz fun i hi => Classical.byContradiction fun hw => hc ⟨i, hi, hw⟩
    have hP : ∀ i, windAt v p i ≠ 0 → Rows (lowE (v i) (v (i + 1))) (highE (v i) (v (i + 1))) p ∧ 0 < cr (sb (lowE (v i) (v (i + 1))) p) (sb (highE (v i) (v (i + 1))) p) := by
      intro i hi
      unfold windAt turn at hi
      by_cases c1 : (sb (v i) p).Y ≤ 0 ∧ 0 < (sb (v (i + 1)) p).Y ∧ 0 < cr (sb (v i) p) (sb (v (i + 1)) p)
      · have r : Rows (v i) (v (i + 1)) p := by simp only [sb] at c1; exact ⟨by omega, by omega⟩
        obtain ⟨q1, q2⟩ := lowE_up r
        rw [q1, q2]; exact ⟨r, c1.2.2⟩
      · rw [if_neg c1] at hi
        by_cases c2 : (sb (v (i + 1)) p).Y ≤ 0 ∧ 0 < (sb (v i) p).Y ∧ cr (sb (v i) p) (sb (v (i + 1)) p) < 0
        · have r : Rows (v (i + 1)) (v i) p := by simp only [sb] at c2; exact ⟨by omega, by omega⟩
          obtain ⟨q1, q2⟩ := lowE_down r
          rw [q1, q2, anti]; exact ⟨r, by omega⟩
        · rw [if_neg c2] at hi; exact absurd rfl hi
    obtain ⟨i0, hi0, hw0⟩ := hex
    obtain ⟨m, hm, ⟨hr0, hc0⟩, hmin⟩ := exists_near (fun i => Rows (lowE (v i) (v (i + 1))) (highE (v i) (v (i + 1))) p ∧ 0 < cr (sb (lowE (v i) (v (i + 1))) p) (sb (highE (v i) (v (i + 1))) p))
      (fun i => half2 (lowE (v i) (v (i + 1))) (highE (v i) (v (i + 1))) p) (fun i => (highE (v i) (v (i + 1))).Y - (lowE (v i) (v (i + 1))).Y) (fun i hi => by have := hi.1; unfold Rows at this; omega) n ⟨i0, hi0, hP i0 hw0⟩
    have hmin' : ∀ j, Rows (lowE (v j) (v (j + 1))) (highE (v j) (v (j + 1))) p → 0 < cr (sb (lowE (v j) (v (j + 1))) p) (sb (highE (v j) (v (j + 1))) p) →
        ((highE (v j) (v (j + 1))).Y - (lowE (v j) (v (j + 1))).Y) * half2 (lowE (v m) (v (m + 1))) (highE (v m) (v (m + 1))) p ≤ ((highE (v m) (v (m + 1))).Y - (lowE (v m) (v (m + 1))).Y) * half2 (lowE (v j) (v (j + 1))) (highE (v j) (v (j + 1))) p := by
      intro j q1 q2
      rw [h.mod j, h.mod1 j] at q1 q2 ⊢
      exact hmin _ (Nat.mod_lt _ (by omega)) ⟨q1, q2⟩
    clear hmin hP hz hi0 hw0
    have hr := h.rot m
    have ht := turns_rot h m
    rw [← wind_rot h p m, ← ht]
    have e0 : (fun i => v (i + m)) 0 = v m := by simp
    have e1 : (fun i => v (i + m)) 1 = v (m + 1) := by simp [Nat.add_comm]
    have hoff' : ∀ j, Rows ((fun i => v (i + m)) j) ((fun i => v (i + m)) (j + 1)) p ∨ Rows ((fun i => v (i + m)) (j + 1)) ((fun i => v (i + m)) j) p → cr (sb ((fun i => v (i + m)) j) p) (sb ((fun i => v (i + m)) (j + 1)) p) ≠ 0 := fun j => by
      have := hoff (j + m)
      rw [show j + m + 1 = j + 1 + m by omega] at this
      exact this
    have hmin2 : ∀ j, Rows (lowE ((fun i => v (i + m)) j) ((fun i => v (i + m)) (j + 1))) (highE ((fun i => v (i + m)) j) ((fun i => v (i + m)) (j + 1))) p → 0 < cr (sb (lowE ((fun i => v (i + m)) j) ((fun i => v (i + m)) (j + 1))) p) (sb (highE ((fun i => v (i + m)) j) ((fun i => v (i + m)) (j + 1))) p) →
        ((highE ((fun i => v (i + m)) j) ((fun i => v (i + m)) (j + 1))).Y - (lowE ((fun i => v (i + m)) j) ((fun i => v (i + m)) (j + 1))).Y) * half2 (lowE (v m) (v (m + 1))) (highE (v m) (v (m + 1))) p ≤ ((highE (v m) (v (m + 1))).Y - (lowE (v m) (v (m + 1))).Y) * half2 (lowE ((fun i => v (i + m)) j) ((fun i => v (i + m)) (j + 1))) (highE ((fun i => v (i + m)) j) ((fun i => v (i + m)) (j + 1))) p := fun j => by
      have := hmin' (j + m)
      rw [show j + m + 1 = j + 1 + m by omega] at this
      exact this
    generalize (fun i => v (i + m)) = u at *
    rw [← e0, ← e1] at hr0 hc0 hmin2
    clear hoff hmin' e0 e1 ht
    have h3 := hr.three
    have hne : ¬ ((u 0).Y = (u 1).Y) := by
      intro e
      unfold Rows lowE highE at hr0
      by_cases c : (u 0).Y ≤ (u 1).Y
      · rw [if_pos c, if_pos c] at hr0; omega
      · omega
    -- the step for one side, the low and the high end named
    have step : ∀ (a b : Spot) (K t : Int), 0 < t → t < K → Rows a b p → 0 < cr (sb a p) (sb b p) → (a = u 0 ∧ b = u 1 ∨ a = u 1 ∧ b = u 0) → (∀ j, from2 a b p (u j) = mids K t u j) →
        (∀ j, Rows (lowE (u j) (u (j + 1))) (highE (u j) (u (j + 1))) p → 0 < cr (sb (lowE (u j) (u (j + 1))) p) (sb (highE (u j) (u (j + 1))) p) → ((highE (u j) (u (j + 1))).Y - (lowE (u j) (u (j + 1))).Y) * half2 a b p ≤ (b.Y - a.Y) * half2 (lowE (u j) (u (j + 1))) (highE (u j) (u (j + 1))) p) →
        sumUp (fun j => windAt u p (j + 1)) (n - 1) = midLook n K t u := by
      intro a b K t h0 hK rab cab hab hU hnear
      unfold midLook
      refine sumUp_congr fun j hj => ?_
      obtain ⟨A, B, ⟨n1, n2, n3, n4⟩, hH⟩ := hr.side (j := j + 1) (by omega) (by omega)
      obtain ⟨H1, H2⟩ := hH K t h0 hK
      rw [← hU] at H1 H2
      have near1 : Rows (u (j + 1)) (u (j + 1 + 1)) p → 0 < cr (sb (u (j + 1)) p) (sb (u (j + 1 + 1)) p) → ((u (j + 1 + 1)).Y - (u (j + 1)).Y) * half2 a b p ≤ (b.Y - a.Y) * half2 (u (j + 1)) (u (j + 1 + 1)) p := fun r c => by
        obtain ⟨q1, q2⟩ := lowE_up r
        have := hnear (j + 1)
        rw [q1, q2] at this
        exact this r c
      have near2 : Rows (u (j + 1 + 1)) (u (j + 1)) p → 0 < cr (sb (u (j + 1 + 1)) p) (sb (u (j + 1)) p) → ((u (j + 1)).Y - (u (j + 1 + 1)).Y) * half2 a b p ≤ (b.Y - a.Y) * half2 (u (j + 1 + 1)) (u (j + 1)) p := fun r c => by
        obtain ⟨q1, q2⟩ := lowE_down r
        have := hnear (j + 1)
        rw [q1, q2] at this
        exact this r c
      have g : turn (sb (u (j + 1)) p) (sb (u (j + 1 + 1)) p) = turn (from2 a b p (u (j + 1))) (from2 a b p (u (j + 1 + 1))) := by
        rcases hab with ⟨rfl, rfl⟩ | ⟨rfl, rfl⟩
        · exact turn_same_side rab cab n1 n3 n2 n4 H1 H2 (hoff' (j + 1)) near1 near2
        · exact turn_same_side rab cab n2 n4 n1 n3 H1 H2 (hoff' (j + 1)) near1 near2
      unfold windAt
      rw [g, hU, hU]
    have hw : wind n u p = windAt u p 0 + sumUp (fun j => windAt u p (j + 1)) (n - 1) := by
      obtain ⟨k, rfl⟩ : ∃ k, n = k + 1 := ⟨n - 1, by omega⟩
      exact sumUp_head _ k
    have hone := turns_one hr
    rcases Int.lt_or_le (u 0).Y (u 1).Y with hlt | hge
    · have l1 : lowE (u 0) (u 1) = u 0 := by unfold lowE; rw [if_pos (by omega)]
      have l2 : highE (u 0) (u 1) = u 1 := by unfold highE; rw [if_pos (by omega)]
      rw [l1, l2] at hr0 hc0 hmin2
      have hro := hr0
      unfold Rows at hro
      have hs := step (u 0) (u 1) (2 * ((u 1).Y - (u 0).Y)) (2 * (p.Y - (u 0).Y) + 1) (by omega) (by omega) hr0 hc0 (Or.inl ⟨rfl, rfl⟩) (fun j => by
        unfold from2 mids
        rw [show 2 * ((u 1).Y - (u 0).Y) - (2 * (p.Y - (u 0).Y) + 1) = 2 * ((u 1).Y - p.Y) - 1 by omega]) hmin2
      have hm := mid_is hr (K := 2 * ((u 1).Y - (u 0).Y)) (t := 2 * (p.Y - (u 0).Y) + 1) (by omega) (by omega)
      have hd : dn (edge u 0) = 0 := by rw [dn_zero]; left; unfold edge sb; simp only [Nat.zero_add]; omega
      have hw1 : windAt u p 0 = 1 := by unfold windAt turn; rw [if_pos ⟨by simp only [sb]; omega, by simp only [sb, Nat.zero_add]; omega, hc0⟩]
      omega
    · have l1 : lowE (u 0) (u 1) = u 1 := by unfold lowE; rw [if_neg (by omega)]
      have l2 : highE (u 0) (u 1) = u 0 := by unfold highE; rw [if_neg (by omega)]
      rw [l1, l2] at hr0 hc0 hmin2
      have hro := hr0
      unfold Rows at hro
      have hs := step (u 1) (u 0) (2 * ((u 0).Y - (u 1).Y)) (2 * ((u 0).Y - p.Y) - 1) (by omega) (by omega) hr0 hc0 (Or.inr ⟨rfl, rfl⟩) (fun j => by
        unfold from2 mids
        rw [show 2 * ((u 0).Y - (u 1).Y) - (2 * ((u 0).Y - p.Y) - 1) = 2 * (p.Y - (u 1).Y) + 1 by omega]
        rw [Int.add_comm, Int.add_comm (_ * (sb (u j) (u 1)).Y)]) hmin2
      have hm := mid_is hr (K := 2 * ((u 0).Y - (u 1).Y)) (t := 2 * ((u 0).Y - p.Y) - 1) (by omega) (by omega)
      have hd : dn (edge u 0) = 1 := by
        unfold dn; rw [if_pos]; left; unfold edge sb; simp only [Nat.zero_add]; omega
      have hw1 : windAt u p 0 = -1 := by
        unfold windAt turn
        rw [if_neg (by simp only [sb, Nat.zero_add]; omega), if_pos ⟨by simp only [sb, Nat.zero_add]; omega, by simp only [sb]; omega, by rw [anti]; simp only [Nat.zero_add]; omega⟩]
      omega
theorem crs_cr (a b c : Spot) : crs a b c = cr (sb b a) (sb c a) := rfl
def dot (u w : Spot) : Int := u.X * w.X + u.Y * w.Y
theorem mul_le_of {t D x : Int} (h0 : 0 ≤ t) (h1 : t ≤ D) (hx : 0 ≤ x) : 0 ≤ t * x ∧ t * x ≤ D * x := ⟨Int.mul_nonneg h0 hx, Int.mul_le_mul_of_nonneg_right h1 hx⟩
theorem line_X {u w : Spot} (h : cr u w = 0) : dot u u * w.X = dot u w * u.X := by unfold cr at h; unfold dot; grind
theorem line_Y {u w : Spot} (h : cr u w = 0) : dot u u * w.Y = dot u w * u.Y := by unfold cr at h; unfold dot; grind
theorem dot_pos {a b : Spot} (h : a ≠ b) : 0 < dot (sb b a) (sb b a) := by
  unfold dot
  have h1 : 0 ≤ (sb b a).X * (sb b a).X := by
    rcases Int.le_total 0 (sb b a).X with h | h
    · exact Int.mul_nonneg h h
    · have := Int.mul_nonneg (show 0 ≤ -(sb b a).X by omega) (show 0 ≤ -(sb b a).X by omega)
      rwa [Int.neg_mul_neg] at this
  have h2 : 0 ≤ (sb b a).Y * (sb b a).Y := by
    rcases Int.le_total 0 (sb b a).Y with h | h
    · exact Int.mul_nonneg h h
    · have := Int.mul_nonneg (show 0 ≤ -(sb b a).Y by omega) (show 0 ≤ -(sb b a).Y by omega)
      rwa [Int.neg_mul_neg] at this
  apply Classical.byContradiction; intro hc
  have z1 : (sb b a).X * (sb b a).X = 0 := by omega
  have z2 : (sb b a).Y * (sb b a).Y = 0 := by omega
  have y1 : (sb b a).X = 0 := by rcases Int.mul_eq_zero.1 z1 with h | h <;> exact h
  have y2 : (sb b a).Y = 0 := by rcases Int.mul_eq_zero.1 z2 with h | h <;> exact h
  apply h
  cases a; cases b
  simp only [sb] at y1 y2
  simp only [Spot.mk.injEq]; omega
/-- Where one coordinate lies. -/
theorem line_in {D t x w : Int} (hD : 0 < D) (h : D * w = t * x) (h0 : 0 ≤ t) (h1 : t ≤ D) : (0 ≤ x → 0 ≤ w ∧ w ≤ x) ∧ (x ≤ 0 → x ≤ w ∧ w ≤ 0) := by
  constructor
  · intro hx
    obtain ⟨p1, p2⟩ := mul_le_of h0 h1 hx
    rw [← h] at p1 p2
    constructor
    · apply Classical.byContradiction; intro hc
      have := Int.mul_pos hD (show 0 < -w by omega)
      rw [Int.mul_neg] at this; omega
    · exact Int.le_of_mul_le_mul_left p2 hD
  · intro hx
    obtain ⟨p1, p2⟩ := mul_le_of h0 h1 (show 0 ≤ -x by omega)
    rw [Int.mul_neg, Int.mul_neg] at p2
    rw [Int.mul_neg] at p1
    rw [← h] at p1 p2
    constructor
    · exact Int.le_of_mul_le_mul_left (show D * x ≤ D * w by omega) hD
    · apply Classical.byContradiction; intro hc
      have := Int.mul_pos hD (show 0 < w by omega)
      omega
theorem on_line {a b x : Spot} (hab : a ≠ b) (h0 : crs a b x = 0) (hon : onS a b x = false) : dot (sb b a) (sb x a) < 0 ∨ dot (sb b a) (sb b a) < dot (sb b a) (sb x a) := by
  apply Classical.byContradiction; intro hc
  have hD := dot_pos hab
  rw [crs_cr] at h0
  have lx := line_in hD (line_X h0) (by omega) (by omega)
  have ly := line_in hD (line_Y h0) (by omega) (by omega)
  have : onS a b x = true := by
    unfold onS betw
    rw [crs_cr, h0]
    simp only [sb] at lx ly
    have i1 : inr x.X (min a.X b.X) (max a.X b.X) = true := inr_true.2 (by
      rcases Int.le_total 0 (b.X - a.X) with h | h
      · have := lx.1 h; omega
      · have := lx.2 h; omega)
    have i2 : inr x.Y (min a.Y b.Y) (max a.Y b.Y) = true := inr_true.2 (by
      rcases Int.le_total 0 (b.Y - a.Y) with h | h
      · have := ly.1 h; omega
      · have := ly.2 h; omega)
    rw [i1, i2]; rfl
  rw [this] at hon; cases hon
theorem opposite {D t s x w z : Int} (hD : 0 < D) (hw : D * w = t * x) (hz : D * z = s * x) (ht : t < 0) (hs : 0 < s) : min w z ≤ 0 ∧ 0 ≤ max w z := by
  rcases Int.le_total 0 x with hx | hx
  · have p1 := Int.mul_nonneg (show 0 ≤ -t by omega) hx
    have p2 := Int.mul_nonneg (Int.le_of_lt hs) hx
    rw [Int.neg_mul] at p1
    have q1 : w ≤ 0 := Int.le_of_mul_le_mul_left (show D * w ≤ D * 0 by rw [Int.mul_zero]; omega) hD
    have q2 : 0 ≤ z := Int.le_of_mul_le_mul_left (show D * 0 ≤ D * z by rw [Int.mul_zero]; omega) hD
    omega
  · have p1 := Int.mul_nonneg (show 0 ≤ -t by omega) (show 0 ≤ -x by omega)
    have p2 := Int.mul_nonneg (Int.le_of_lt hs) (show 0 ≤ -x by omega)
    rw [Int.neg_mul_neg] at p1
    rw [Int.mul_neg] at p2
    have q1 : 0 ≤ w := Int.le_of_mul_le_mul_left (show D * 0 ≤ D * w by rw [Int.mul_zero]; omega) hD
    have q2 : z ≤ 0 := Int.le_of_mul_le_mul_left (show D * z ≤ D * 0 by rw [Int.mul_zero]; omega) hD
    omega
theorem line_between {a b c d : Spot} (hab : a ≠ b) (hc : crs a b c = 0) (hd : crs a b d = 0) (h1 : dot (sb b a) (sb c a) < 0) (h2 : 0 < dot (sb b a) (sb d a)) : onS c d a = true := by
  have hD := dot_pos hab
  rw [crs_cr] at hc hd
  have ox := opposite hD (line_X hc) (line_X hd) h1 h2
  have oy := opposite hD (line_Y hc) (line_Y hd) h1 h2
  have e : crs c d a = 0 := by
    have k1 := line_X hc
    have k2 := line_Y hc
    have : dot (sb b a) (sb b a) * crs c d a = dot (sb b a) (sb c a) * cr (sb b a) (sb d a) := by
      rw [show crs c d a = cr (sb c a) (sb d a) by unfold crs cr sb; grind]
      unfold cr at *
      have : dot (sb b a) (sb b a) * ((sb c a).X * (sb d a).Y - (sb c a).Y * (sb d a).X) = (dot (sb b a) (sb b a) * (sb c a).X) * (sb d a).Y - (dot (sb b a) (sb b a) * (sb c a).Y) * (sb d a).X := by grind
      rw [this, k1, k2]; grind
    rw [hd, Int.mul_zero] at this
    rcases Int.mul_eq_zero.1 this with h | h
    · omega
    · exact h
  unfold onS betw
  rw [e]
  simp only [sb] at ox oy
  have i1 : inr a.X (min c.X d.X) (max c.X d.X) = true := inr_true.2 (by omega)
  have i2 : inr a.Y (min c.Y d.Y) (max c.Y d.Y) = true := inr_true.2 (by omega)
  rw [i1, i2]; rfl
/-- Two sides lie in a half of the plane of each other. -/
def Apart (a b c d : Spot) : Prop := ∃ A B, Half A B (sb c a) ∧ Half A B (sb c b) ∧ Half A B (sb d a) ∧ Half A B (sb d b)
theorem apart_of {a b c d : Spot} (hab : a ≠ b) (s : Int) (hs : s = 1 ∨ s = -1) (h1 : 0 ≤ s * crs a b c) (h2 : 0 ≤ s * crs a b d) (o1 : onS a b c = false) (o2 : onS a b d = false) (o3 : onS c d a = false) (o4 : onS d c a = false) : Apart a b c d := by
  have hD := dot_pos hab
  -- the worths of a functional K s cr(u, .) + r dot(u, .)
  have f1 : ∀ (K r : Int) (x : Spot), (-(K * s * (sb b a).Y) + r * (sb b a).X) * (sb x a).X + (K * s * (sb b a).X + r * (sb b a).Y) * (sb x a).Y = K * (s * crs a b x) + r * dot (sb b a) (sb x a) := fun K r x => by
    unfold crs dot sb; grind
  have f2 : ∀ (K r : Int) (x : Spot), (-(K * s * (sb b a).Y) + r * (sb b a).X) * (sb x b).X + (K * s * (sb b a).X + r * (sb b a).Y) * (sb x b).Y = K * (s * crs a b x) + r * (dot (sb b a) (sb x a) - dot (sb b a) (sb b a)) := fun K r x => by
    unfold crs dot sb; grind
  have mk : ∀ K r : Int, 0 < K * (s * crs a b c) + r * dot (sb b a) (sb c a) → 0 < K * (s * crs a b c) + r * (dot (sb b a) (sb c a) - dot (sb b a) (sb b a)) → 0 < K * (s * crs a b d) + r * dot (sb b a) (sb d a) → 0 < K * (s * crs a b d) + r * (dot (sb b a) (sb d a) - dot (sb b a) (sb b a)) → Apart a b c d := fun K r q1 q2 q3 q4 =>
    ⟨-(K * s * (sb b a).Y) + r * (sb b a).X, K * s * (sb b a).X + r * (sb b a).Y, by unfold Half; rw [f1]; exact q1, by unfold Half; rw [f2]; exact q2, by unfold Half; rw [f1]; exact q3, by unfold Half; rw [f2]; exact q4⟩
  clear f1 f2
  have z1 : s * crs a b c = 0 → crs a b c = 0 := fun h => by rcases hs with rfl | rfl <;> omega
  have z2 : s * crs a b d = 0 → crs a b d = 0 := fun h => by rcases hs with rfl | rfl <;> omega
  have l1 : s * crs a b c = 0 → dot (sb b a) (sb c a) < 0 ∨ dot (sb b a) (sb b a) < dot (sb b a) (sb c a) := fun h => on_line hab (z1 h) o1
  have l2 : s * crs a b d = 0 → dot (sb b a) (sb d a) < 0 ∨ dot (sb b a) (sb b a) < dot (sb b a) (sb d a) := fun h => on_line hab (z2 h) o2
  have b1 : s * crs a b c = 0 → s * crs a b d = 0 → dot (sb b a) (sb c a) < 0 → 0 < dot (sb b a) (sb d a) → False := fun e1 e2 q1 q2 => by
    have := line_between hab (z1 e1) (z2 e2) q1 q2; rw [this] at o3; cases o3
  have b2 : s * crs a b c = 0 → s * crs a b d = 0 → dot (sb b a) (sb d a) < 0 → 0 < dot (sb b a) (sb c a) → False := fun e1 e2 q1 q2 => by
    have := line_between hab (z2 e2) (z1 e1) q1 q2; rw [this] at o4; cases o4
  clear z1 z2 o1 o2 o3 o4 hs
  generalize s * crs a b c = pc at *
  generalize s * crs a b d = pd at *
  generalize dot (sb b a) (sb c a) = tc at *
  generalize dot (sb b a) (sb d a) = td at *
  generalize dot (sb b a) (sb b a) = D at *
  -- a great factor
  have big : ∀ p q : Int, 0 < p → ∃ K : Int, 0 < K * p + q := fun p q hp => ⟨(if q < 0 then -q + 1 else 1), by
    split
    · have := Int.mul_le_mul_of_nonneg_left (show 1 ≤ p by omega) (show 0 ≤ -q + 1 by omega); omega
    · omega⟩
  by_cases ec : pc = 0
  · by_cases ed : pd = 0
    · have l1 := l1 ec
      have l2 := l2 ed
      have b1 : ¬ (tc < 0 ∧ 0 < td) := fun h => b1 ec ed h.1 h.2
      have b2 : ¬ (td < 0 ∧ 0 < tc) := fun h => b2 ec ed h.1 h.2
      have : (tc < 0 ∧ td < 0) ∨ (D < tc ∧ D < td) := by omega
      rcases this with ⟨q1, q2⟩ | ⟨q1, q2⟩
      · exact mk 0 (-1) (by omega) (by omega) (by omega) (by omega)
      · exact mk 0 1 (by omega) (by omega) (by omega) (by omega)
    · rcases l1 ec with q | q
      · obtain ⟨K, hK⟩ := big pd (-(if td < 0 then -td else td) - D) (by omega)
        exact mk K (-1) (by rw [ec]; omega) (by rw [ec]; omega) (by split at hK <;> omega) (by split at hK <;> omega)
      · obtain ⟨K, hK⟩ := big pd (-(if td < 0 then -td else td) - D) (by omega)
        exact mk K 1 (by rw [ec]; omega) (by rw [ec]; omega) (by split at hK <;> omega) (by split at hK <;> omega)
  · by_cases ed : pd = 0
    · rcases l2 ed with q | q
      · obtain ⟨K, hK⟩ := big pc (-(if tc < 0 then -tc else tc) - D) (by omega)
        exact mk K (-1) (by split at hK <;> omega) (by split at hK <;> omega) (by rw [ed]; omega) (by rw [ed]; omega)
      · obtain ⟨K, hK⟩ := big pc (-(if tc < 0 then -tc else tc) - D) (by omega)
        exact mk K 1 (by split at hK <;> omega) (by split at hK <;> omega) (by rw [ed]; omega) (by rw [ed]; omega)
    · exact mk 1 0 (by omega) (by omega) (by omega) (by omega)
theorem Apart.symm {a b c d : Spot} (h : Apart a b c d) : Apart c d a b := by
  obtain ⟨A, B, h1, h2, h3, h4⟩ := h
  have g : ∀ {x y : Spot}, Half A B (sb x y) → Half (-A) (-B) (sb y x) := fun h => by have := half_ng h; rwa [sb_ng] at this
  exact ⟨-A, -B, g h1, g h3, g h2, g h4⟩
theorem onS_swap (a b p : Spot) : onS b a p = onS a b p := by
  unfold onS betw
  have e : crs b a p = -crs a b p := by unfold crs; grind
  rw [e, Int.min_comm, Int.max_comm, Int.min_comm b.Y, Int.max_comm b.Y]
  congr 1
  rw [Bool.eq_iff_iff]; simp
theorem sgn_sides {p q : Int} (h : ¬ sgn p * sgn q < 0) : ∃ s : Int, (s = 1 ∨ s = -1) ∧ 0 ≤ s * p ∧ 0 ≤ s * q := by
  by_cases h1 : 0 ≤ p ∧ 0 ≤ q
  · exact ⟨1, Or.inl rfl, by omega, by omega⟩
  · by_cases h2 : p ≤ 0 ∧ q ≤ 0
    · exact ⟨-1, Or.inr rfl, by omega, by omega⟩
    · exfalso; apply h
      have : (0 < p ∧ q < 0) ∨ (p < 0 ∧ 0 < q) := by omega
      rcases this with ⟨a, b⟩ | ⟨a, b⟩
      · rw [show sgn p = 1 by unfold sgn; omega, show sgn q = -1 by unfold sgn; omega]; decide
      · rw [show sgn p = -1 by unfold sgn; omega, show sgn q = 1 by unfold sgn; omega]; decide
theorem apart_meet {a b c d : Spot} (hab : a ≠ b) (hcd : c ≠ d) (h : meetS a b c d = false) : Apart a b c d := by
  unfold meetS at h
  simp only [Bool.or_eq_false_iff, Bool.and_eq_false_iff, decide_eq_false_iff_not] at h
  obtain ⟨⟨⟨⟨o1, o2⟩, o3⟩, o4⟩, hs⟩ := h
  rcases hs with hs | hs
  · obtain ⟨s, h1, h2, h3⟩ := sgn_sides hs
    exact apart_of hab s h1 h2 h3 o1 o2 o3 (by rw [onS_swap]; exact o3)
  · obtain ⟨s, h1, h2, h3⟩ := sgn_sides hs
    exact (apart_of hcd s h1 h2 h3 o3 o4 o1 (by rw [onS_swap]; exact o1)).symm
theorem half_of_cr {u v : Spot} (h : cr u v ≠ 0) : ∃ A B, Half A B u ∧ Half A B v := by
  rcases Int.lt_or_le 0 (cr u v) with hp | hp
  · refine ⟨v.Y - u.Y, u.X - v.X, ?_, ?_⟩
    · unfold Half; rw [show (v.Y - u.Y) * u.X + (u.X - v.X) * u.Y = cr u v by unfold cr; grind]; exact hp
    · unfold Half; rw [show (v.Y - u.Y) * v.X + (u.X - v.X) * v.Y = cr u v by unfold cr; grind]; exact hp
  · refine ⟨u.Y - v.Y, v.X - u.X, ?_, ?_⟩
    · unfold Half; rw [show (u.Y - v.Y) * u.X + (v.X - u.X) * u.Y = -cr u v by unfold cr; grind]; omega
    · unfold Half; rw [show (u.Y - v.Y) * v.X + (v.X - u.X) * v.Y = -cr u v by unfold cr; grind]; omega
theorem nth_per (xs : List Spot) (i : Nat) : nth xs (i + xs.length) = nth xs i := by unfold nth; rw [Nat.add_mod_right]
theorem nth_modr (xs : List Spot) (i k : Nat) : nth xs (i % xs.length + k) = nth xs (i + k) := by unfold nth; rw [Nat.mod_add_mod]
/-- The sides of an outline are a simple way round. -/
theorem ring_of {xs : List Spot} (h3 : 3 ≤ xs.length) (hs : simple xs = true) : Ring xs.length (nth xs) := by
  have hA := allUpto_iff.1 hs
  have hflat : ∀ i, crs (nth xs i) (nth xs (i + 1)) (nth xs (i + 2)) ≠ 0 := by
    intro i
    have := hA (i % xs.length) (Nat.mod_lt _ (by omega))
    unfold simpleAt flatAt at this
    simp only [Bool.and_eq_true, Bool.not_eq_true', beq_eq_false_iff_ne] at this
    have h1 := this.1
    have e0 := nth_modr xs i 0
    have e1 := nth_modr xs i 1
    have e2 := nth_modr xs i 2
    simp only [Nat.add_zero] at e0
    rwa [e0, e1, e2] at h1
  have hne : ∀ i, nth xs i ≠ nth xs (i + 1) := fun i e => hflat i (by rw [← e]; unfold crs; simp)
  have hmeet : ∀ i k, i < xs.length → k < xs.length → i + 2 ≤ k → ¬ (i = 0 ∧ k + 1 = xs.length) → Apart (nth xs i) (nth xs (i + 1)) (nth xs k) (nth xs (k + 1)) := by
    intro i k hi hk hik hend
    have := hA i hi
    unfold simpleAt at this
    simp only [Bool.and_eq_true] at this
    have h1 := allUpto_iff.1 this.2 k hk
    unfold meetAt at h1
    have e1 : decide (i + 2 ≤ k) = true := by simpa using hik
    have e2 : (decide (i = 0) && decide (k + 1 = xs.length)) = false := by
      rw [Bool.eq_false_iff]; intro hc; simp at hc; exact hend hc
    rw [e1, e2] at h1
    exact apart_meet (hne i) (hne k) (by simpa using h1)
  refine ⟨h3, nth_per xs, fun i => ?_, fun i k h1 h2 => ?_⟩
  · obtain ⟨A, B, a1, a2⟩ := half_of_cr (u := sb (nth xs (i + 1)) (nth xs i)) (v := sb (nth xs (i + 2)) (nth xs (i + 1))) (by
      have := hflat i
      rw [show crs (nth xs i) (nth xs (i + 1)) (nth xs (i + 2)) = cr (sb (nth xs (i + 1)) (nth xs i)) (sb (nth xs (i + 2)) (nth xs (i + 1))) by unfold crs cr sb; grind] at this
      exact this)
    exact ⟨A, B, a1, a2⟩
  · have e0 := nth_modr xs i 0
    have e1 := nth_modr xs i 1
    have f0 := nth_modr xs k 0
    have f1 := nth_modr xs k 1
    simp only [Nat.add_zero] at e0 f0
    have hi := Nat.mod_lt i (show 0 < xs.length by omega)
    have hk := Nat.mod_lt k (show 0 < xs.length by omega)
    have di := Nat.div_add_mod i xs.length
    have dk := Nat.div_add_mod k xs.length
    have hap : Apart (nth xs (i % xs.length)) (nth xs (i % xs.length + 1)) (nth xs (k % xs.length)) (nth xs (k % xs.length + 1)) := by
      -- k is at most one round behind i
      have hq : k / xs.length = i / xs.length ∨ k / xs.length = i / xs.length + 1 := by
        have l1 : i / xs.length ≤ k / xs.length := Nat.div_le_div_right (by omega)
        have l2 : k / xs.length ≤ (i + xs.length) / xs.length := Nat.div_le_div_right (by omega)
        rw [Nat.add_div_right _ (by omega)] at l2
        omega
      rcases hq with hq | hq
      · rw [hq] at dk
        exact hmeet _ _ hi hk (by omega) (by omega)
      · rw [hq, Nat.mul_add, Nat.mul_one] at dk
        exact (hmeet _ _ hk hi (by omega) (by omega)).symm
    rw [e0, e1, f0, f1] at hap
    obtain ⟨A, B, a1, a2, a3, a4⟩ := hap
    exact ⟨A, B, a1, a2, a3, a4⟩
theorem turn_sc {k : Int} (hk : 0 < k) (u v : Spot) : turn (sc k u) (sc k v) = turn u v := by
  have e : cr (sc k u) (sc k v) = k * k * cr u v := by unfold cr sc; grind
  have kk := Int.mul_pos hk hk
  have p1 : ∀ x : Int, 0 < k * x ↔ 0 < x := fun x => ⟨pos_of_mul hk, Int.mul_pos hk⟩
  have p2 : ∀ x : Int, k * x ≤ 0 ↔ x ≤ 0 := fun x => by have := p1 x; omega
  have p3 : 0 < k * k * cr u v ↔ 0 < cr u v := ⟨pos_of_mul kk, Int.mul_pos kk⟩
  have p4 : k * k * cr u v < 0 ↔ cr u v < 0 := by
    have : 0 < k * k * -cr u v ↔ 0 < -cr u v := ⟨pos_of_mul kk, Int.mul_pos kk⟩
    rw [Int.mul_neg] at this; omega
  unfold turn
  simp only [e, p3, p4]
  simp only [sc, p1, p2]
/-- The spots on a side. -/
def gl (v : Nat → Spot) (i : Nat) : Nat := Nat.gcd (edge v i).X.natAbs (edge v i).Y.natAbs
def st (v : Nat → Spot) (i : Nat) : Spot := ⟨(edge v i).X / (gl v i : Int), (edge v i).Y / (gl v i : Int)⟩
def pt (v : Nat → Spot) (i t : Nat) : Spot := ⟨(v i).X + t * (st v i).X, (v i).Y + t * (st v i).Y⟩
theorem gl_X (v : Nat → Spot) (i : Nat) : (gl v i : Int) * (st v i).X = (edge v i).X := by
  unfold st
  exact Int.mul_ediv_cancel' (Int.ofNat_dvd_left.2 (Nat.gcd_dvd_left _ _))
theorem gl_Y (v : Nat → Spot) (i : Nat) : (gl v i : Int) * (st v i).Y = (edge v i).Y := by
  unfold st
  exact Int.mul_ediv_cancel' (Int.ofNat_dvd_left.2 (Nat.gcd_dvd_right _ _))
theorem Ring.edge_ne {n : Nat} {v : Nat → Spot} (h : Ring n v) (i : Nat) : ¬ ((edge v i).X = 0 ∧ (edge v i).Y = 0) := by
  rintro ⟨e1, e2⟩
  obtain ⟨A, B, c1, _⟩ := h.corner i
  unfold Half at c1
  unfold edge at e1 e2
  rw [e1, e2] at c1; simp at c1
theorem Ring.gl_pos {n : Nat} {v : Nat → Spot} (h : Ring n v) (i : Nat) : 0 < gl v i := by
  apply Nat.pos_of_ne_zero
  intro e
  unfold gl at e
  rw [Nat.gcd_eq_zero_iff] at e
  exact h.edge_ne i ⟨by omega, by omega⟩
theorem pt_zero (v : Nat → Spot) (i : Nat) : pt v i 0 = v i := by unfold pt; simp
theorem pt_last (v : Nat → Spot) (i : Nat) : pt v i (gl v i) = v (i + 1) := by
  unfold pt
  rw [gl_X, gl_Y]
  unfold edge sb
  cases h : v (i + 1)
  simp only [Spot.mk.injEq]; omega
theorem wind_corner0 {n : Nat} {v : Nat → Spot} (h : Ring n v) : wind n v (v 0) = look n v := by
  have h3 := h.three
  obtain ⟨m, rfl⟩ : ∃ m, n = m + 3 := ⟨n - 3, by omega⟩
  have hn0 : v (m + 2 + 1) = v 0 := by have := h.per 0; simpa using this
  unfold wind look
  rw [sumUp_head]
  simp only [sumUp]
  have z : sb (v 0) (v 0) = ⟨0, 0⟩ := by unfold sb; simp
  have w0 : windAt v (v 0) 0 = 0 := by unfold windAt; rw [z]; exact turn_zero (by unfold cr; simp)
  have w1 : windAt v (v 0) (m + 1 + 1) = 0 := by unfold windAt; rw [show m + 1 + 1 + 1 = m + 2 + 1 by omega, hn0, z]; exact turn_zero (by unfold cr; simp)
  rw [w0, w1, show m + 3 - 2 = m + 1 by omega]
  simp only [sumUp]
  have : sumUp (fun i => windAt v (v 0) (i + 1)) m = sumUp (fun j => turn (sb (v (j + 1)) (v 0)) (sb (v (j + 2)) (v 0))) m := rfl
  rw [this]
  have : windAt v (v 0) (m + 1) = turn (sb (v (m + 1)) (v 0)) (sb (v (m + 2)) (v 0)) := rfl
  rw [this]; omega
theorem edge_rot (v : Nat → Spot) (i j : Nat) : edge (fun k => v (k + i)) j = edge v (j + i) := by
  unfold edge; simp only; rw [show j + 1 + i = j + i + 1 by omega]
/-- How often the way goes round a corner of its own. -/
theorem wind_corner {n : Nat} {v : Nat → Spot} (h : Ring n v) (i : Nat) : 2 * wind n v (v i) = turns n v - 1 + 2 * (dn (edge v (n - 1 + i)) - turn (edge v (n - 1 + i)) (edge v i)) := by
  have hr := h.rot i
  have h1 := look_is hr
  have h2 := wind_corner0 hr
  simp only [Nat.zero_add] at h2
  rw [wind_rot h] at h2
  rw [turns_rot h, edge_rot, edge_rot, Nat.zero_add, ← h2] at h1
  exact h1
theorem wind_mid0 {n : Nat} {v : Nat → Spot} (h : Ring n v) {t : Nat} (h0 : 0 < t) (ht : t < gl v 0) : 2 * wind n v (pt v 0 t) = turns n v - 1 + 2 * dn (edge v 0) := by
  have h3 := h.three
  have hm := mid_is h (K := gl v 0) (t := t) (by omega) (by omega)
  have gx := gl_X v 0
  have gy := gl_Y v 0
  have hU : ∀ j, mids (gl v 0) t v j = sc (gl v 0) (sb (v j) (pt v 0 t)) := by
    intro j
    unfold mids sc pt
    unfold edge at gx gy
    simp only [sb] at *
    simp only [Nat.zero_add] at gx gy
    simp only [Spot.mk.injEq]
    constructor
    · have : (gl v 0 : Int) * ((v j).X - ((v 0).X + t * (st v 0).X)) = gl v 0 * (v j).X - gl v 0 * (v 0).X - t * (gl v 0 * (st v 0).X) := by grind
      rw [this, gx]; grind
    · have : (gl v 0 : Int) * ((v j).Y - ((v 0).Y + t * (st v 0).Y)) = gl v 0 * (v j).Y - gl v 0 * (v 0).Y - t * (gl v 0 * (st v 0).Y) := by grind
      rw [this, gy]; grind
  have hw : wind n v (pt v 0 t) = windAt v (pt v 0 t) 0 + sumUp (fun j => windAt v (pt v 0 t) (j + 1)) (n - 1) := by
    obtain ⟨k, rfl⟩ : ∃ k, n = k + 1 := ⟨n - 1, by omega⟩
    exact sumUp_head _ k
  have hz : windAt v (pt v 0 t) 0 = 0 := by
    unfold windAt
    refine turn_zero ?_
    unfold edge at gx gy
    simp only [sb, Nat.zero_add] at gx gy
    unfold cr pt sb
    simp only [Nat.zero_add]
    have e1 : (v 1).X = (v 0).X + gl v 0 * (st v 0).X := by omega
    have e2 : (v 1).Y = (v 0).Y + gl v 0 * (st v 0).Y := by omega
    rw [e1, e2]; grind
  have hs : sumUp (fun j => windAt v (pt v 0 t) (j + 1)) (n - 1) = midLook n (gl v 0) t v := by
    unfold midLook
    refine sumUp_congr fun j _ => ?_
    rw [hU, hU, turn_sc (by omega)]
    rfl
  omega
/-- How often the way goes round a spot on a side of its own. -/
theorem wind_mid {n : Nat} {v : Nat → Spot} (h : Ring n v) (i : Nat) {t : Nat} (h0 : 0 < t) (ht : t < gl v i) : 2 * wind n v (pt v i t) = turns n v - 1 + 2 * dn (edge v i) := by
  have hr := h.rot i
  have e1 : gl (fun k => v (k + i)) 0 = gl v i := by unfold gl; rw [edge_rot, Nat.zero_add]
  have e2 : pt (fun k => v (k + i)) 0 t = pt v i t := by unfold pt st; rw [e1, edge_rot]; simp only [Nat.zero_add]
  have h1 := wind_mid0 hr h0 (by rw [e1]; exact ht)
  rw [e2, wind_rot h, turns_rot h, edge_rot, Nat.zero_add] at h1
  exact h1
/-- The sum over the spots of one side, its far end left out. -/
theorem wind_side {n : Nat} {v : Nat → Spot} (h : Ring n v) (i : Nat) : sumUp (fun t => 2 * wind n v (pt v i t)) (gl v i) =
    (gl v i : Int) * (turns n v - 1 + 2 * dn (edge v i)) - 2 * dn (edge v i) + 2 * (dn (edge v (n - 1 + i)) - turn (edge v (n - 1 + i)) (edge v i)) := by
  have hg := h.gl_pos i
  obtain ⟨k, hk⟩ : ∃ k, gl v i = k + 1 := ⟨gl v i - 1, by omega⟩
  rw [hk, sumUp_head, pt_zero, wind_corner h]
  rw [sumUp_congr (g := fun _ => turns n v - 1 + 2 * dn (edge v i)) (fun t ht => wind_mid h i (by omega) (by omega)), sumUp_const]
  have e : ∀ Z : Int, ((k + 1 : Nat) : Int) * Z = Z * k + Z := fun Z => by rw [Int.natCast_add]; grind
  rw [e]
  omega
/-- The sum over all sides. -/
theorem wind_sides {n : Nat} {v : Nat → Spot} (h : Ring n v) : sumUp (fun i => sumUp (fun t => 2 * wind n v (pt v i t)) (gl v i)) n =
    (turns n v - 1) * sumUp (fun i => (gl v i : Int)) n + 2 * sumUp (fun i => (gl v i : Int) * dn (edge v i)) n - 2 * turns n v := by
  have h3 := h.three
  have pe : ∀ i, edge v (i + n) = edge v i := fun i => by
    unfold edge
    have e0 := h.per i
    have e1 := h.per (i + 1)
    rw [show i + n + 1 = i + 1 + n by omega, e0, e1]
  have s1 : sumUp (fun i => dn (edge v (n - 1 + i))) n = sumUp (fun i => dn (edge v i)) n := by
    have := sumUp_shift (f := fun i => dn (edge v i)) (n := n) (fun i => by rw [pe]) (n - 1)
    rw [← this]
    exact sumUp_congr fun i _ => by rw [Nat.add_comm]
  have s2 : sumUp (fun i => turn (edge v (n - 1 + i)) (edge v i)) n = turns n v := by
    have := sumUp_shift (f := fun i => turn (edge v i) (edge v (i + 1))) (n := n) (fun i => by rw [show i + n + 1 = i + 1 + n by omega, pe, pe]) (n - 1)
    unfold turns
    rw [← this]
    exact sumUp_congr fun i _ => by rw [show i + (n - 1) + 1 = i + n by omega, pe, Nat.add_comm]
  rw [sumUp_congr (g := fun i => (turns n v - 1) * (gl v i : Int) + 2 * ((gl v i : Int) * dn (edge v i)) + (-2 * dn (edge v i) + 2 * dn (edge v (n - 1 + i)) - 2 * turn (edge v (n - 1 + i)) (edge v i))) (fun i _ => by rw [wind_side h]; grind)]
  rw [sumUp_add, sumUp_add, sumUp_mul, sumUp_mul, sumUp_sub, sumUp_add, sumUp_mul, sumUp_mul, sumUp_mul, s1, s2]
  omega
theorem sumUp_split (f : Nat → Int) (m : Nat) : ∀ k, sumUp f (m + k) = sumUp f m + sumUp (fun i => f (m + i)) k
  | 0 => by simp [sumUp]
  | k + 1 => by rw [← Nat.add_assoc]; simp only [sumUp]; rw [sumUp_split f m k]; omega
theorem sumUp_rev (f : Nat → Int) : ∀ n, sumUp (fun i => f (n - 1 - i)) n = sumUp f n
  | 0 => rfl
  | n + 1 => by
    rw [sumUp_head]
    simp only [sumUp]
    rw [← sumUp_rev f n]
    have : sumUp (fun i => f (n + 1 - 1 - (i + 1))) n = sumUp (fun i => f (n - 1 - i)) n := sumUp_congr fun i _ => by rw [show n + 1 - 1 - (i + 1) = n - 1 - i by omega]
    rw [this, show n + 1 - 1 - 0 = n by omega]; omega
theorem sum_lt : ∀ (n : Nat) (M : Int), 0 ≤ M → M ≤ n → sumUp (fun i => if (i : Int) < M then 1 else 0) n = M
  | 0, M, h0, h1 => by simp [sumUp]; omega
  | n + 1, M, h0, h1 => by
    simp only [sumUp]
    by_cases h : M ≤ n
    · rw [sum_lt n M h0 h, if_neg (by omega)]; omega
    · rw [sumUp_congr (g := fun _ => 1) (fun i hi => by rw [if_pos (by omega)]), sumUp_const, if_pos (by omega)]; omega
theorem sum_rows (f : Int → Int) (Y0 lo hi : Int) (ny : Nat) (h1 : Y0 ≤ lo) (h2 : lo ≤ hi) (h3 : hi ≤ Y0 + ny) :
    sumUp (fun j => if lo ≤ Y0 + j ∧ Y0 + j < hi then f (Y0 + j) else 0) ny = sumUp (fun k => f (lo + k)) (hi - lo).toNat := by
  obtain ⟨m, hm⟩ : ∃ m : Nat, lo = Y0 + m := ⟨(lo - Y0).toNat, by omega⟩
  obtain ⟨k, hk⟩ : ∃ k : Nat, hi = lo + k := ⟨(hi - lo).toNat, by omega⟩
  obtain ⟨r, hr⟩ : ∃ r : Nat, ny = m + k + r := ⟨ny - (m + k), by omega⟩
  rw [hr, sumUp_split, sumUp_split]
  rw [sumUp_zero (k := m) (fun i hi' => by rw [if_neg (by omega)]), sumUp_zero (k := r) (fun i hi' => by rw [if_neg (by omega)])]
  rw [show (hi - lo).toNat = k by omega, Int.zero_add, Int.add_zero]
  exact sumUp_congr fun i hi' => by rw [if_pos (by omega)]; congr 1; omega
/-- The least whole number that is not below a quotient. -/
def cd (m h : Int) : Int := -((-m) / h)
theorem lt_cd {h : Int} (hh : 0 < h) (z m : Int) : z < cd m h ↔ h * z < m := by
  have := Int.ediv_lt_iff_lt_mul (a := -m) (b := -z) hh
  unfold cd
  rw [Int.neg_mul, Int.mul_comm z h] at this
  omega
theorem cd_le {h : Int} (hh : 0 < h) (z m : Int) : cd m h ≤ z ↔ m ≤ h * z := by
  have := lt_cd hh z m; omega
theorem cd_pair {h : Int} (hh : 0 < h) (x d : Int) : cd x h + cd (h * d - x) h = d + (if h ∣ x then 0 else 1) := by
  unfold cd
  have e : -(h * d - x) = x + h * (-d) := by grind
  rw [e, Int.add_mul_ediv_left _ _ (by omega)]
  have a := Int.mul_ediv_add_emod x h
  have b := Int.emod_nonneg x (show h ≠ 0 by omega)
  have c := Int.emod_lt_of_pos x hh
  have a' := Int.mul_ediv_add_emod (-x) h
  have b' := Int.emod_nonneg (-x) (show h ≠ 0 by omega)
  have c' := Int.emod_lt_of_pos (-x) hh
  have s : h * ((-x) / h + x / h) = -((-x) % h + x % h) := by rw [Int.mul_add]; omega
  by_cases hd : h ∣ x
  · rw [if_pos hd]
    have z : x % h = 0 := Int.emod_eq_zero_of_dvd hd
    have z' : (-x) % h = 0 := Int.emod_eq_zero_of_dvd (Int.dvd_neg.2 hd)
    rw [z, z'] at s
    have : (-x) / h + x / h = 0 := by
      rcases Int.mul_eq_zero.1 (show h * ((-x) / h + x / h) = 0 by omega) with q | q
      · omega
      · exact q
    omega
  · rw [if_neg hd]
    have z : 0 < x % h := by
      apply Classical.byContradiction; intro hc
      exact hd (Int.dvd_of_emod_eq_zero (by omega))
    have l1 : h * ((-x) / h + x / h) < h * 0 := by rw [Int.mul_zero]; omega
    have l2 : h * (-2) < h * ((-x) / h + x / h) := by omega
    have r1 := Int.lt_of_mul_lt_mul_left l1 (Int.le_of_lt hh)
    have r2 := Int.lt_of_mul_lt_mul_left l2 (Int.le_of_lt hh)
    omega
theorem count_mult (m : Nat) (hm : 0 < m) : ∀ g, sumUp (fun k => if m ∣ k then 1 else 0) (m * g) = g
  | 0 => by simp [sumUp]
  | g + 1 => by
    rw [Nat.mul_succ, sumUp_split, count_mult m hm g]
    have : sumUp (fun i => if m ∣ m * g + i then (1 : Int) else 0) m = 1 := by
      rw [sumUp_one (j := 0) hm (fun i hi hne => by
        rw [if_neg]
        intro hd
        have h1 : m ∣ i := (Nat.dvd_add_right ⟨g, rfl⟩).1 hd
        have := Nat.le_of_dvd (by omega) h1
        omega)]
      rw [if_pos ⟨g, by simp⟩]
    rw [this]; omega
theorem count_on (d : Int) (h : Nat) (hh : 0 < h) : sumUp (fun k => if (h : Int) ∣ (k : Int) * d then 1 else 0) h = Nat.gcd d.natAbs h := by
  have hg : 0 < Nat.gcd d.natAbs h := Nat.gcd_pos_of_pos_right _ hh
  obtain ⟨m, hm⟩ := Nat.gcd_dvd_right d.natAbs h
  obtain ⟨d', hd'⟩ := Nat.gcd_dvd_left d.natAbs h
  have hco : Nat.Coprime m d' := by
    have e := Nat.gcd_mul_left (Nat.gcd d.natAbs h) d' m
    rw [← hd', ← hm] at e
    have : Nat.gcd d' m = 1 := by
      have e' : Nat.gcd d.natAbs h * Nat.gcd d' m = Nat.gcd d.natAbs h * 1 := by rw [Nat.mul_one]; exact e.symm
      exact Nat.eq_of_mul_eq_mul_left hg e'
    rw [Nat.gcd_comm] at this; exact this
  have hm0 : 0 < m := by
    apply Nat.pos_of_ne_zero; rintro rfl; simp at hm; omega
  have key : ∀ k : Nat, ((h : Int) ∣ (k : Int) * d) ↔ m ∣ k := by
    intro k
    rw [Int.ofNat_dvd_left, Int.natAbs_mul, Int.natAbs_natCast]
    constructor
    · intro hdv
      have h1 : Nat.gcd d.natAbs h * m ∣ Nat.gcd d.natAbs h * (k * d') := by
        rw [← hm, show Nat.gcd d.natAbs h * (k * d') = k * (Nat.gcd d.natAbs h * d') by rw [← Nat.mul_assoc, ← Nat.mul_assoc, Nat.mul_comm k], ← hd']; exact hdv
      have h2 : m ∣ k * d' := Nat.dvd_of_mul_dvd_mul_left hg h1
      exact Nat.Coprime.dvd_of_dvd_mul_right hco h2
    · rintro ⟨q, rfl⟩
      refine ⟨q * d', ?_⟩
      have e1 := hm
      have e2 := hd'
      generalize Nat.gcd d.natAbs h = g at e1 e2
      rw [e1, e2]
      grind
  have e : sumUp (fun k => if (h : Int) ∣ (k : Int) * d then (1 : Int) else 0) h = sumUp (fun k => if m ∣ k then 1 else 0) h :=
    sumUp_congr fun k _ => by
      by_cases hk : m ∣ k
      · rw [if_pos hk, if_pos ((key k).2 hk)]
      · rw [if_neg hk, if_neg (fun q => hk ((key k).1 q))]
  rw [e]
  conv => lhs; rw [hm, Nat.mul_comm]
  exact count_mult m hm0 _
theorem cd_zero (h : Int) : cd 0 h = 0 := by unfold cd; simp
/-- The sum of all such quotients over the rows of a side. -/
theorem cd_sum (d : Int) (h : Nat) (hh : 0 < h) : 2 * sumUp (fun k => cd ((k : Int) * d) h) h = d * (h - 1) + h - Nat.gcd d.natAbs h := by
  obtain ⟨m, rfl⟩ : ∃ m, h = m + 1 := ⟨h - 1, by omega⟩
  have hc := count_on d (m + 1) hh
  rw [sumUp_head] at hc
  rw [sumUp_head]
  have z : cd (((0 : Nat) : Int) * d) ((m + 1 : Nat) : Int) = 0 := by rw [show ((0 : Nat) : Int) * d = 0 by simp]; exact cd_zero _
  have y : (if ((m + 1 : Nat) : Int) ∣ ((0 : Nat) : Int) * d then (1 : Int) else 0) = 1 := by rw [if_pos (by simp)]
  rw [y] at hc
  rw [z]
  have r := sumUp_rev (fun i => cd (((i + 1 : Nat) : Int) * d) ((m + 1 : Nat) : Int)) m
  have p := sumUp_add (fun i => cd (((i + 1 : Nat) : Int) * d) ((m + 1 : Nat) : Int)) (fun i => cd (((m - 1 - i + 1 : Nat) : Int) * d) ((m + 1 : Nat) : Int)) m
  rw [r] at p
  have q : sumUp (fun i => cd (((i + 1 : Nat) : Int) * d) ((m + 1 : Nat) : Int) + cd (((m - 1 - i + 1 : Nat) : Int) * d) ((m + 1 : Nat) : Int)) m = sumUp (fun i => (d + 1) - (if ((m + 1 : Nat) : Int) ∣ ((i + 1 : Nat) : Int) * d then (1 : Int) else 0)) m :=
    sumUp_congr fun i hi => by
      have e : (((m - 1 - i + 1 : Nat) : Int) * d) = ((m + 1 : Nat) : Int) * d - ((i + 1 : Nat) : Int) * d := by
        rw [← Int.sub_mul]; congr 1; omega
      rw [e, cd_pair (by omega)]
      split <;> omega
  rw [sumUp_sub, sumUp_const] at q
  have e1 : ((m + 1 : Nat) : Int) - 1 = m := by omega
  rw [e1]
  have e2 : (d + 1) * (m : Int) = d * m + m := by rw [Int.add_mul]; omega
  omega
/-- The sum over all spots of a box. -/
def boxSum (F : Spot → Int) (X0 Y0 : Int) (nx ny : Nat) : Int := sumUp (fun i => sumUp (fun j => F ⟨X0 + i, Y0 + j⟩) ny) nx
def InBox (X0 Y0 : Int) (nx ny : Nat) (p : Spot) : Prop := (X0 ≤ p.X ∧ p.X < X0 + nx) ∧ (Y0 ≤ p.Y ∧ p.Y < Y0 + ny)
theorem boxSum_congr {F G : Spot → Int} {X0 Y0 : Int} {nx ny : Nat} (h : ∀ p, InBox X0 Y0 nx ny p → F p = G p) : boxSum F X0 Y0 nx ny = boxSum G X0 Y0 nx ny :=
  sumUp_congr fun i hi => sumUp_congr fun j hj => h _ ⟨⟨by simp only; omega, by simp only; omega⟩, by simp only; omega, by simp only; omega⟩
theorem boxSum_add (F G : Spot → Int) (X0 Y0 : Int) (nx ny : Nat) : boxSum (fun p => F p + G p) X0 Y0 nx ny = boxSum F X0 Y0 nx ny + boxSum G X0 Y0 nx ny := by
  unfold boxSum
  rw [← sumUp_add]
  exact sumUp_congr fun i _ => sumUp_add _ _ _
theorem boxSum_mul (c : Int) (F : Spot → Int) (X0 Y0 : Int) (nx ny : Nat) : boxSum (fun p => c * F p) X0 Y0 nx ny = c * boxSum F X0 Y0 nx ny := by
  unfold boxSum
  rw [← sumUp_mul]
  exact sumUp_congr fun i _ => sumUp_mul _ _ _
theorem boxSum_zero {F : Spot → Int} {X0 Y0 : Int} {nx ny : Nat} (h : ∀ p, F p = 0) : boxSum F X0 Y0 nx ny = 0 :=
  sumUp_zero fun _ _ => sumUp_zero fun _ _ => h _
theorem boxSum_sides (G : Nat → Spot → Int) (X0 Y0 : Int) (nx ny : Nat) : ∀ n, boxSum (fun p => sumUp (fun i => G i p) n) X0 Y0 nx ny = sumUp (fun i => boxSum (G i) X0 Y0 nx ny) n
  | 0 => boxSum_zero fun _ => rfl
  | n + 1 => by simp only [sumUp]; rw [boxSum_add, boxSum_sides G X0 Y0 nx ny n]
def eqS (p q : Spot) : Int := if p = q then 1 else 0
theorem boxSum_eq (F : Spot → Int) {X0 Y0 : Int} {nx ny : Nat} {q : Spot} (hq : InBox X0 Y0 nx ny q) : boxSum (fun p => eqS p q * F p) X0 Y0 nx ny = F q := by
  obtain ⟨⟨a1, a2⟩, b1, b2⟩ := hq
  obtain ⟨i, hi⟩ : ∃ i : Nat, q.X = X0 + i := ⟨(q.X - X0).toNat, by omega⟩
  obtain ⟨j, hj⟩ : ∃ j : Nat, q.Y = Y0 + j := ⟨(q.Y - Y0).toNat, by omega⟩
  unfold boxSum
  have e : (⟨X0 + i, Y0 + j⟩ : Spot) = q := by cases q; simp only at hi hj; rw [hi, hj]
  rw [sumUp_one (j := i) (by omega) (fun k hk hne => sumUp_zero fun l _ => by
    show (if _ = q then (1 : Int) else 0) * F _ = 0
    rw [if_neg, Int.zero_mul]
    intro hc; rw [← hc] at hi; simp only at hi; omega)]
  rw [sumUp_one (j := j) (by omega) (fun k hk hne => by
    show (if _ = q then (1 : Int) else 0) * F _ = 0
    rw [if_neg, Int.zero_mul]
    intro hc; rw [← hc] at hj; simp only at hj; omega)]
  rw [e]; unfold eqS; simp
/-- One side, over a box: how many spots of its rows lie to its left. -/
theorem up_sum {a b : Spot} {X0 Y0 : Int} {nx ny : Nat} (ha : InBox X0 Y0 nx ny a) (hb : InBox X0 Y0 nx ny b) (h : a.Y < b.Y) :
    2 * boxSum (fun p => if a.Y ≤ p.Y ∧ p.Y < b.Y then (if 0 < cr (sb a p) (sb b p) then 1 else 0) else 0) X0 Y0 nx ny =
    2 * (b.Y - a.Y) * (a.X - X0) + (b.X - a.X) * (b.Y - a.Y - 1) + (b.Y - a.Y) - Nat.gcd (b.X - a.X).natAbs (b.Y - a.Y).natAbs := by
  unfold InBox at ha hb
  have hh : 0 < b.Y - a.Y := by omega
  unfold boxSum
  rw [sumUp_swap]
  have row : ∀ j : Nat, sumUp (fun i => if a.Y ≤ (⟨X0 + (i : Nat), Y0 + j⟩ : Spot).Y ∧ (⟨X0 + i, Y0 + j⟩ : Spot).Y < b.Y then (if 0 < cr (sb a ⟨X0 + i, Y0 + j⟩) (sb b ⟨X0 + i, Y0 + j⟩) then (1 : Int) else 0) else 0) nx =
      if a.Y ≤ Y0 + j ∧ Y0 + j < b.Y then a.X - X0 + cd ((Y0 + j - a.Y) * (b.X - a.X)) (b.Y - a.Y) else 0 := by
    intro j
    by_cases hr : a.Y ≤ Y0 + j ∧ Y0 + j < b.Y
    · rw [if_pos hr]
      have lo : 0 ≤ a.X - X0 + cd ((Y0 + j - a.Y) * (b.X - a.X)) (b.Y - a.Y) ∧ a.X - X0 + cd ((Y0 + j - a.Y) * (b.X - a.X)) (b.Y - a.Y) ≤ nx := by
        have l1 := lt_cd hh (-(a.X - X0) - 1) ((Y0 + j - a.Y) * (b.X - a.X))
        have l2 := cd_le hh (nx - (a.X - X0)) ((Y0 + j - a.Y) * (b.X - a.X))
        constructor
        · apply Classical.byContradiction; intro hc
          have hq : ¬ (-(a.X - X0) - 1 < cd ((Y0 + j - a.Y) * (b.X - a.X)) (b.Y - a.Y)) := by omega
          apply hq
          rw [l1]
          -- (Y0 + j - a.Y) (b.X - a.X) ≥ - (b.Y - a.Y) (a.X - X0)
          have p1 := Int.mul_nonneg (show 0 ≤ Y0 + j - a.Y by omega) (show 0 ≤ b.X - X0 by omega)
          have p2 := Int.mul_nonneg (show 0 ≤ b.Y - (Y0 + j) by omega) (show 0 ≤ a.X - X0 by omega)
          have e1 : (b.Y - a.Y) * (-(a.X - X0) - 1) = -((b.Y - (Y0 + j)) * (a.X - X0)) - (Y0 + j - a.Y) * (a.X - X0) - (b.Y - a.Y) := by grind
          have e2 : (Y0 + j - a.Y) * (b.X - a.X) = (Y0 + j - a.Y) * (b.X - X0) - (Y0 + j - a.Y) * (a.X - X0) := by grind
          omega
        · have hq : cd ((Y0 + j - a.Y) * (b.X - a.X)) (b.Y - a.Y) ≤ nx - (a.X - X0) := by
            rw [l2]
            have p1 := Int.mul_nonneg (show 0 ≤ Y0 + j - a.Y by omega) (show 0 ≤ X0 + nx - b.X by omega)
            have p2 := Int.mul_nonneg (show 0 ≤ b.Y - (Y0 + j) by omega) (show 0 ≤ X0 + nx - a.X by omega)
            have e1 : (b.Y - a.Y) * (nx - (a.X - X0)) = (b.Y - (Y0 + j)) * (X0 + nx - a.X) + (Y0 + j - a.Y) * (X0 + nx - a.X) := by grind
            have e2 : (Y0 + j - a.Y) * (b.X - a.X) = (Y0 + j - a.Y) * (X0 + nx - a.X) - (Y0 + j - a.Y) * (X0 + nx - b.X) := by grind
            omega
          omega
      rw [← sum_lt nx _ lo.1 lo.2]
      refine sumUp_congr fun i _ => ?_
      rw [if_pos (by simp only; exact hr)]
      have e : cr (sb a ⟨X0 + i, Y0 + j⟩) (sb b ⟨X0 + i, Y0 + j⟩) = (Y0 + j - a.Y) * (b.X - a.X) - (b.Y - a.Y) * (X0 + i - a.X) := by unfold cr sb; grind
      have k := lt_cd hh (X0 + i - a.X) ((Y0 + j - a.Y) * (b.X - a.X))
      rw [e]
      by_cases c : (i : Int) < a.X - X0 + cd ((Y0 + j - a.Y) * (b.X - a.X)) (b.Y - a.Y)
      · rw [if_pos c, if_pos]
        have := k.1 (by omega); omega
      · rw [if_neg c, if_neg]
        intro hc
        exact c (by have := k.2 (by omega); omega)
    · rw [if_neg hr]
      exact sumUp_zero fun i _ => by rw [if_neg (by simp only; exact hr)]
  rw [sumUp_congr (fun j _ => row j)]
  rw [sum_rows (fun y => a.X - X0 + cd ((y - a.Y) * (b.X - a.X)) (b.Y - a.Y)) Y0 a.Y b.Y ny (by omega) (by omega) (by omega)]
  obtain ⟨m, hm⟩ : ∃ m : Nat, b.Y - a.Y = m := ⟨(b.Y - a.Y).toNat, by omega⟩
  rw [hm, Int.toNat_natCast, Int.natAbs_natCast]
  have s := cd_sum (b.X - a.X) m (by omega)
  have t : sumUp (fun k => a.X - X0 + cd ((a.Y + (k : Nat) - a.Y) * (b.X - a.X)) m) m = (a.X - X0) * m + sumUp (fun k => cd ((k : Int) * (b.X - a.X)) m) m := by
    rw [← sumUp_const, ← sumUp_add]
    exact sumUp_congr fun k _ => by rw [show a.Y + (k : Int) - a.Y = k by omega]
  rw [t, Int.mul_add, s]; grind
theorem cr_anti (u v : Spot) : cr u v = -cr v u := by unfold cr; grind
theorem turn_up {u v : Spot} (h1 : u.Y ≤ 0) (h2 : 0 < v.Y) : turn u v = if 0 < cr u v then 1 else 0 := by
  unfold turn
  by_cases c : 0 < cr u v
  · rw [if_pos ⟨h1, h2, c⟩, if_pos c]
  · rw [if_neg (fun k => c k.2.2), if_neg (fun k => by have := k.1; omega), if_neg c]
theorem turn_down {u v : Spot} (h1 : v.Y ≤ 0) (h2 : 0 < u.Y) : turn u v = -1 * if 0 < cr v u then 1 else 0 := by
  unfold turn
  rw [cr_anti u v]
  by_cases c : 0 < cr v u
  · rw [if_neg (fun k => by have := k.1; omega), if_pos ⟨h1, h2, by omega⟩, if_pos c]; rfl
  · rw [if_neg (fun k => by have := k.1; omega), if_neg (fun k => c (by have := k.2.2; omega)), if_neg c]; rfl
theorem turn_none {u v : Spot} (h1 : ¬ (u.Y ≤ 0 ∧ 0 < v.Y)) (h2 : ¬ (v.Y ≤ 0 ∧ 0 < u.Y)) : turn u v = 0 := by
  unfold turn
  rw [if_neg (fun k => h1 ⟨k.1, k.2.1⟩), if_neg (fun k => h2 ⟨k.1, k.2.1⟩)]
/-- One side, over a box. -/
theorem side_sum {a b : Spot} {X0 Y0 : Int} {nx ny : Nat} (ha : InBox X0 Y0 nx ny a) (hb : InBox X0 Y0 nx ny b) :
    2 * boxSum (fun p => turn (sb a p) (sb b p)) X0 Y0 nx ny =
    (b.Y - a.Y) * (a.X + b.X) - 2 * (b.Y - a.Y) * X0 - (b.X - a.X) + (b.Y - a.Y) - (1 - 2 * dn (sb b a)) * Nat.gcd (b.X - a.X).natAbs (b.Y - a.Y).natAbs := by
  rcases Int.lt_trichotomy a.Y b.Y with h | h | h
  · have e : boxSum (fun p => turn (sb a p) (sb b p)) X0 Y0 nx ny = boxSum (fun p => if a.Y ≤ p.Y ∧ p.Y < b.Y then (if 0 < cr (sb a p) (sb b p) then 1 else 0) else 0) X0 Y0 nx ny :=
      boxSum_congr fun p _ => by
        by_cases c : a.Y ≤ p.Y ∧ p.Y < b.Y
        · rw [if_pos c]
          exact turn_up (by simp only [sb]; omega) (by simp only [sb]; omega)
        · rw [if_neg c]
          exact turn_none (by simp only [sb]; omega) (by simp only [sb]; omega)
    have d : dn (sb b a) = 0 := by rw [dn_zero]; left; simp only [sb]; omega
    rw [e, up_sum ha hb h, d]; grind
  · have e : boxSum (fun p => turn (sb a p) (sb b p)) X0 Y0 nx ny = 0 := boxSum_zero fun p => turn_none (by simp only [sb]; omega) (by simp only [sb]; omega)
    rw [e, h]
    have z : b.Y - b.Y = 0 := by omega
    rw [z]
    simp only [Int.zero_mul, Int.mul_zero, Int.natAbs_zero, Nat.gcd_zero_right]
    rcases Int.lt_or_le 0 (b.X - a.X) with k | k
    · have d : dn (sb b a) = 1 := by unfold dn; rw [if_pos]; right; simp only [sb]; omega
      rw [d]; omega
    · have d : dn (sb b a) = 0 := by rw [dn_zero]; right; simp only [sb]; omega
      rw [d]; omega
  · have e : boxSum (fun p => turn (sb a p) (sb b p)) X0 Y0 nx ny = -1 * boxSum (fun p => if b.Y ≤ p.Y ∧ p.Y < a.Y then (if 0 < cr (sb b p) (sb a p) then 1 else 0) else 0) X0 Y0 nx ny := by
      rw [← boxSum_mul]
      exact boxSum_congr fun p _ => by
        by_cases c : b.Y ≤ p.Y ∧ p.Y < a.Y
        · rw [if_pos c]
          exact turn_down (by simp only [sb]; omega) (by simp only [sb]; omega)
        · rw [if_neg c]
          exact turn_none (by simp only [sb]; omega) (by simp only [sb]; omega)
    have d : dn (sb b a) = 1 := by unfold dn; rw [if_pos]; left; simp only [sb]; omega
    have u := up_sum hb ha h
    have g1 : (a.X - b.X).natAbs = (b.X - a.X).natAbs := by omega
    have g2 : (a.Y - b.Y).natAbs = (b.Y - a.Y).natAbs := by omega
    rw [g1, g2] at u
    rw [e, d]
    generalize boxSum (fun p => if b.Y ≤ p.Y ∧ p.Y < a.Y then (if 0 < cr (sb b p) (sb a p) then 1 else 0) else 0) X0 Y0 nx ny = S at *
    grind
def area2 (n : Nat) (v : Nat → Spot) : Int := sumUp (fun i => (v i).X * (v (i + 1)).Y - (v (i + 1)).X * (v i).Y) n
def rim (n : Nat) (v : Nat → Spot) : Int := sumUp (fun i => (gl v i : Int)) n
/-- All spots of a box, counted as often as the way goes round them. -/
theorem wind_box {n : Nat} {v : Nat → Spot} (h : Ring n v) {X0 Y0 : Int} {nx ny : Nat} (hb : ∀ i, InBox X0 Y0 nx ny (v i)) :
    2 * boxSum (wind n v) X0 Y0 nx ny = area2 n v - rim n v + 2 * sumUp (fun i => (gl v i : Int) * dn (edge v i)) n := by
  have hn0 : v n = v 0 := by have := h.per 0; simpa using this
  have e0 : boxSum (wind n v) X0 Y0 nx ny = sumUp (fun i => boxSum (fun p => windAt v p i) X0 Y0 nx ny) n := boxSum_sides (fun i p => windAt v p i) X0 Y0 nx ny n
  rw [e0, ← sumUp_mul]
  have t1 := sumUp_tele (fun i => (v i).X * (v i).Y) n
  have t2 := sumUp_tele (fun i => (v i).Y) n
  have t3 := sumUp_tele (fun i => (v i).X) n
  rw [hn0] at t1 t2 t3
  rw [sumUp_congr (g := fun i => ((v i).X * (v (i + 1)).Y - (v (i + 1)).X * (v i).Y) + ((v (i + 1)).X * (v (i + 1)).Y - (v i).X * (v i).Y) + (1 - 2 * X0) * ((v (i + 1)).Y - (v i).Y) + (-1) * ((v (i + 1)).X - (v i).X) + (-1) * (gl v i : Int) + 2 * ((gl v i : Int) * dn (edge v i))) (fun i _ => by
    have := side_sum (hb i) (hb (i + 1))
    unfold windAt
    rw [this]
    have g : (Nat.gcd ((v (i + 1)).X - (v i).X).natAbs ((v (i + 1)).Y - (v i).Y).natAbs) = gl v i := rfl
    have d : dn (sb (v (i + 1)) (v i)) = dn (edge v i) := rfl
    rw [g, d]
    generalize (gl v i : Int) = G
    generalize dn (edge v i) = d
    grind)]
  rw [sumUp_add, sumUp_add, sumUp_add, sumUp_add, sumUp_add, sumUp_mul, sumUp_mul, sumUp_mul, sumUp_mul, t1, t2, t3]
  unfold area2 rim
  generalize sumUp (fun i => (v i).X * (v (i + 1)).Y - (v (i + 1)).X * (v i).Y) n = p1
  generalize sumUp (fun i => (gl v i : Int)) n = p2
  generalize sumUp (fun i => (gl v i : Int) * dn (edge v i)) n = p3
  grind
theorem pt_mulX (v : Nat → Spot) (i t : Nat) : (gl v i : Int) * (pt v i t).X = (gl v i - t) * (v i).X + t * (v (i + 1)).X := by
  have gx := gl_X v i
  unfold edge at gx
  simp only [sb] at gx
  unfold pt; simp only
  have : (gl v i : Int) * ((v i).X + t * (st v i).X) = gl v i * (v i).X + t * (gl v i * (st v i).X) := by grind
  rw [this, gx]; grind
theorem pt_mulY (v : Nat → Spot) (i t : Nat) : (gl v i : Int) * (pt v i t).Y = (gl v i - t) * (v i).Y + t * (v (i + 1)).Y := by
  have gy := gl_Y v i
  unfold edge at gy
  simp only [sb] at gy
  unfold pt; simp only
  have : (gl v i : Int) * ((v i).Y + t * (st v i).Y) = gl v i * (v i).Y + t * (gl v i * (st v i).Y) := by grind
  rw [this, gy]; grind
theorem mid_in {g t lo hi x y p : Int} (hg : 0 < g) (h0 : 0 ≤ t) (ht : t ≤ g) (h : g * p = (g - t) * x + t * y) (x1 : lo ≤ x) (x2 : x < hi) (y1 : lo ≤ y) (y2 : y < hi) : lo ≤ p ∧ p < hi := by
  have a1 := Int.mul_nonneg (show 0 ≤ g - t by omega) (show 0 ≤ x - lo by omega)
  have a2 := Int.mul_nonneg h0 (show 0 ≤ y - lo by omega)
  have b1 := Int.mul_nonneg (show 0 ≤ g - t by omega) (show 0 ≤ hi - 1 - x by omega)
  have b2 := Int.mul_nonneg h0 (show 0 ≤ hi - 1 - y by omega)
  have e1 : (g - t) * (x - lo) + t * (y - lo) = g * p - g * lo := by rw [h]; grind
  have e2 : (g - t) * (hi - 1 - x) + t * (hi - 1 - y) = g * (hi - 1) - g * p := by rw [h]; grind
  have c1 := Int.le_of_mul_le_mul_left (show g * lo ≤ g * p by omega) hg
  have c2 := Int.le_of_mul_le_mul_left (show g * p ≤ g * (hi - 1) by omega) hg
  omega
theorem Ring.pt_box {n : Nat} {v : Nat → Spot} (h : Ring n v) {X0 Y0 : Int} {nx ny : Nat} (hb : ∀ i, InBox X0 Y0 nx ny (v i)) (i : Nat) {t : Nat} (ht : t ≤ gl v i) : InBox X0 Y0 nx ny (pt v i t) := by
  have hg := h.gl_pos i
  have h1 := hb i
  have h2 := hb (i + 1)
  unfold InBox at h1 h2
  exact ⟨mid_in (by omega) (by omega) (by omega) (pt_mulX v i t) h1.1.1 h1.1.2 h2.1.1 h2.1.2, mid_in (by omega) (by omega) (by omega) (pt_mulY v i t) h1.2.1 h1.2.2 h2.2.1 h2.2.2⟩
/-- Sides that lie in a half of the plane of each other have no spot in common. -/
theorem no_common {A B : Int} {a b c d p : Spot} (h1 : Half A B (sb c a)) (h2 : Half A B (sb c b)) (h3 : Half A B (sb d a)) (h4 : Half A B (sb d b))
    {g t g' s : Int} (t0 : 0 ≤ t) (tg : t < g) (s0 : 0 ≤ s) (sg : s < g') (x1 : g * p.X = (g - t) * a.X + t * b.X) (y1 : g * p.Y = (g - t) * a.Y + t * b.Y) (x2 : g' * p.X = (g' - s) * c.X + s * d.X) (y2 : g' * p.Y = (g' - s) * c.Y + s * d.Y) : False := by
  unfold Half at h1 h2 h3 h4
  have p1 := Int.mul_pos (Int.mul_pos (show 0 < g' - s by omega) (show 0 < g - t by omega)) h1
  have p2 := Int.mul_nonneg (Int.mul_nonneg (show 0 ≤ g' - s by omega) t0) (Int.le_of_lt h2)
  have p3 := Int.mul_nonneg (Int.mul_nonneg s0 (show 0 ≤ g - t by omega)) (Int.le_of_lt h3)
  have p4 := Int.mul_nonneg (Int.mul_nonneg s0 t0) (Int.le_of_lt h4)
  have e : (g' - s) * (g - t) * (A * (sb c a).X + B * (sb c a).Y) + (g' - s) * t * (A * (sb c b).X + B * (sb c b).Y) + s * (g - t) * (A * (sb d a).X + B * (sb d a).Y) + s * t * (A * (sb d b).X + B * (sb d b).Y) =
      A * (g * ((g' - s) * c.X + s * d.X) - g' * ((g - t) * a.X + t * b.X)) + B * (g * ((g' - s) * c.Y + s * d.Y) - g' * ((g - t) * a.Y + t * b.Y)) := by
    unfold sb; grind
  rw [← x1, ← x2, ← y1, ← y2] at e
  have z : A * (g * (g' * p.X) - g' * (g * p.X)) + B * (g * (g' * p.Y) - g' * (g * p.Y)) = 0 := by grind
  omega
theorem no_common1 {A B : Int} {a b d p : Spot} (h1 : Half A B (sb b a)) (h2 : Half A B (sb d b)) {g t g' s : Int} (tg : t < g) (s0 : 0 ≤ s) (g0 : 0 < g) (g0' : 0 < g') (x1 : g * p.X = (g - t) * a.X + t * b.X) (y1 : g * p.Y = (g - t) * a.Y + t * b.Y) (x2 : g' * p.X = (g' - s) * b.X + s * d.X) (y2 : g' * p.Y = (g' - s) * b.Y + s * d.Y) : False := by
  unfold Half at h1 h2
  have p1 := Int.mul_pos (Int.mul_pos g0' (show 0 < g - t by omega)) h1
  have p2 := Int.mul_nonneg (Int.mul_nonneg (Int.le_of_lt g0) s0) (Int.le_of_lt h2)
  have e : g' * (g - t) * (A * (sb b a).X + B * (sb b a).Y) + g * s * (A * (sb d b).X + B * (sb d b).Y) =
      A * (g * ((g' - s) * b.X + s * d.X) - g' * ((g - t) * a.X + t * b.X)) + B * (g * ((g' - s) * b.Y + s * d.Y) - g' * ((g - t) * a.Y + t * b.Y)) := by
    unfold sb; grind
  rw [← x1, ← x2, ← y1, ← y2] at e
  have z : A * (g * (g' * p.X) - g' * (g * p.X)) + B * (g * (g' * p.Y) - g' * (g * p.Y)) = 0 := by grind
  omega
theorem Ring.pt_lt {n : Nat} {v : Nat → Spot} (h : Ring n v) {i k t s : Nat} (hik : i < k) (hk : k < n) (ht : t < gl v i) (hs : s < gl v k) : pt v i t ≠ pt v k s := by
  intro e
  have hn0 : v n = v 0 := by have := h.per 0; simpa using this
  have x1 := pt_mulX v i t
  have y1 := pt_mulY v i t
  have x2 := pt_mulX v k s
  have y2 := pt_mulY v k s
  rw [← e] at x2 y2
  by_cases e1 : k = i + 1
  · subst e1
    obtain ⟨A, B, c1, c2⟩ := h.corner i
    exact no_common1 c1 c2 (by omega) (by omega) (by omega) (by omega) x1 y1 x2 y2
  · by_cases e2 : i = 0 ∧ k + 1 = n
    · obtain ⟨rfl, e3⟩ := e2
      have hn1 : v (n + 1) = v 1 := by have := h.per 1; rw [Nat.add_comm]; exact this
      obtain ⟨A, B, c1, c2⟩ := h.corner k
      rw [show k + 2 = n + 1 by omega, hn1] at c2
      rw [e3, hn0] at c1 c2 x2 y2
      exact no_common1 c1 c2 (by omega) (by omega) (by omega) (by omega) x2 y2 x1 y1
    · obtain ⟨A, B, c1, c2, c3, c4⟩ := h.sep i k (by omega) (by omega)
      exact no_common c1 c2 c3 c4 (by omega) (by omega) (by omega) (by omega) x1 y1 x2 y2
theorem Ring.pt_inj {n : Nat} {v : Nat → Spot} (h : Ring n v) {i k t s : Nat} (hi : i < n) (hk : k < n) (ht : t < gl v i) (hs : s < gl v k) (e : pt v i t = pt v k s) : i = k ∧ t = s := by
  rcases Nat.lt_trichotomy i k with c | c | c
  · exact absurd e (h.pt_lt c hk ht hs)
  · subst c
    refine ⟨rfl, ?_⟩
    have hne := h.edge_ne i
    have gx := gl_X v i
    have gy := gl_Y v i
    unfold pt at e
    rw [Spot.mk.injEq] at e
    obtain ⟨e1, e2⟩ := e
    have z1 : ((t : Int) - s) * (st v i).X = 0 := by rw [Int.sub_mul]; omega
    have z2 : ((t : Int) - s) * (st v i).Y = 0 := by rw [Int.sub_mul]; omega
    rcases Int.mul_eq_zero.1 z1 with q | q
    · omega
    · rcases Int.mul_eq_zero.1 z2 with q' | q'
      · omega
      · exfalso; apply hne
        rw [← gx, ← gy, q, q']; simp
  · exact absurd e.symm (h.pt_lt c hi hs ht)
/-- A spot of the rim, counted. -/
def onCount (n : Nat) (v : Nat → Spot) (p : Spot) : Int := sumUp (fun i => sumUp (fun t => eqS p (pt v i t)) (gl v i)) n
theorem onCount_yes {n : Nat} {v : Nat → Spot} (h : Ring n v) {p : Spot} {i t : Nat} (hi : i < n) (ht : t < gl v i) (e : p = pt v i t) : onCount n v p = 1 := by
  unfold onCount
  rw [sumUp_one (j := i) hi (fun k hk hne => sumUp_zero fun s hs => by
    unfold eqS; rw [if_neg]; intro c; rw [e] at c
    exact hne (h.pt_inj hi hk ht hs c).1.symm)]
  rw [sumUp_one (j := t) ht (fun s hs hne => by
    unfold eqS; rw [if_neg]; intro c; rw [e] at c
    exact hne (h.pt_inj hi hi ht hs c).2.symm)]
  unfold eqS; rw [if_pos e]
theorem onCount_no {n : Nat} {v : Nat → Spot} {p : Spot} (hno : ∀ i t, i < n → t < gl v i → p ≠ pt v i t) : onCount n v p = 0 :=
  sumUp_zero fun i hi => sumUp_zero fun t ht => by unfold eqS; rw [if_neg (hno i t hi ht)]
theorem Ring.onCount_or {n : Nat} {v : Nat → Spot} (h : Ring n v) (p : Spot) : (onCount n v p = 1 ∧ ∃ i t, i < n ∧ t < gl v i ∧ p = pt v i t) ∨ (onCount n v p = 0 ∧ ∀ i t, i < n → t < gl v i → p ≠ pt v i t) := by
  by_cases c : ∃ i t, i < n ∧ t < gl v i ∧ p = pt v i t
  · obtain ⟨i, t, hi, ht, e⟩ := c
    exact Or.inl ⟨onCount_yes h hi ht e, i, t, hi, ht, e⟩
  · have : ∀ i t, i < n → t < gl v i → p ≠ pt v i t := fun i t hi ht e => c ⟨i, t, hi, ht, e⟩
    exact Or.inr ⟨onCount_no this, this⟩
theorem on_box {n : Nat} {v : Nat → Spot} (h : Ring n v) {X0 Y0 : Int} {nx ny : Nat} (hb : ∀ i, InBox X0 Y0 nx ny (v i)) (F : Spot → Int) :
    boxSum (fun p => onCount n v p * F p) X0 Y0 nx ny = sumUp (fun i => sumUp (fun t => F (pt v i t)) (gl v i)) n := by
  have e : (fun p => onCount n v p * F p) = fun p => sumUp (fun i => sumUp (fun t => eqS p (pt v i t) * F p) (gl v i)) n := by
    funext p
    unfold onCount
    rw [Int.mul_comm, ← sumUp_mul]
    refine sumUp_congr fun i _ => ?_
    rw [← sumUp_mul]
    exact sumUp_congr fun t _ => Int.mul_comm _ _
  rw [e, boxSum_sides (fun i p => sumUp (fun t => eqS p (pt v i t) * F p) (gl v i))]
  refine sumUp_congr fun i _ => ?_
  rw [boxSum_sides (fun t p => eqS p (pt v i t) * F p)]
  exact sumUp_congr fun t ht => boxSum_eq F (h.pt_box hb i (by omega))
/-- A spot on the line of a side and between its ends is one of its spots. -/
theorem Ring.on_side {n : Nat} {v : Nat → Spot} (h : Ring n v) (i : Nat) {p : Spot} (h0 : cr (sb (v i) p) (sb (v (i + 1)) p) = 0)
    (hx : min (v i).X (v (i + 1)).X ≤ p.X ∧ p.X ≤ max (v i).X (v (i + 1)).X) (hy : min (v i).Y (v (i + 1)).Y ≤ p.Y ∧ p.Y ≤ max (v i).Y (v (i + 1)).Y) : ∃ t, t ≤ gl v i ∧ p = pt v i t := by
  have hg := h.gl_pos i
  have gx := gl_X v i
  have gy := gl_Y v i
  have hne := h.edge_ne i
  have hco : Nat.gcd (st v i).X.natAbs (st v i).Y.natAbs = 1 := by
    have e := Nat.gcd_mul_left (gl v i) (st v i).X.natAbs (st v i).Y.natAbs
    have ex : gl v i * (st v i).X.natAbs = (edge v i).X.natAbs := by rw [← gx, Int.natAbs_mul, Int.natAbs_natCast]
    have ey : gl v i * (st v i).Y.natAbs = (edge v i).Y.natAbs := by rw [← gy, Int.natAbs_mul, Int.natAbs_natCast]
    rw [ex, ey] at e
    have e' : gl v i * Nat.gcd (st v i).X.natAbs (st v i).Y.natAbs = gl v i * 1 := by rw [Nat.mul_one]; exact e.symm
    exact Nat.eq_of_mul_eq_mul_left hg e'
  unfold edge at gx gy hne
  simp only [sb] at gx gy hne
  have k : (st v i).X * (p.Y - (v i).Y) = (st v i).Y * (p.X - (v i).X) := by
    have e : (gl v i : Int) * ((st v i).X * (p.Y - (v i).Y) - (st v i).Y * (p.X - (v i).X)) = 0 := by
      have : (gl v i : Int) * ((st v i).X * (p.Y - (v i).Y) - (st v i).Y * (p.X - (v i).X)) = (gl v i * (st v i).X) * (p.Y - (v i).Y) - (gl v i * (st v i).Y) * (p.X - (v i).X) := by grind
      rw [this, gx, gy, ← h0]; unfold cr sb; grind
    rcases Int.mul_eq_zero.1 e with q | q <;> omega
  -- the multiple
  have hz : ∃ z : Int, p.X - (v i).X = z * (st v i).X ∧ p.Y - (v i).Y = z * (st v i).Y := by
    by_cases w0 : (st v i).X = 0
    · rw [w0] at hco k
      simp only [Int.natAbs_zero, Nat.gcd_zero_left] at hco
      have w1 : (st v i).Y = 1 ∨ (st v i).Y = -1 := by omega
      rw [Int.zero_mul] at k
      refine ⟨(p.Y - (v i).Y) * (st v i).Y, ?_, ?_⟩
      · rw [w0, Int.mul_zero]
        rcases w1 with w1 | w1 <;> rw [w1] at k <;> omega
      · rcases w1 with w1 | w1 <;> rw [w1] <;> omega
    · have hd : (st v i).X ∣ p.X - (v i).X := by
        have h1 : (st v i).X ∣ (st v i).Y * (p.X - (v i).X) := ⟨_, k.symm⟩
        rw [← Int.natAbs_dvd_natAbs, Int.natAbs_mul] at h1
        exact Int.natAbs_dvd_natAbs.1 (Nat.Coprime.dvd_of_dvd_mul_left hco h1)
      obtain ⟨z, hz⟩ := hd
      refine ⟨z, by rw [hz, Int.mul_comm], ?_⟩
      rw [hz] at k
      have : (st v i).X * (p.Y - (v i).Y - z * (st v i).Y) = 0 := by rw [Int.mul_sub, k]; grind
      rcases Int.mul_eq_zero.1 this with q | q <;> omega
  obtain ⟨z, zx, zy⟩ := hz
  have hin : ∀ {w e : Int}, (gl v i : Int) * w = e → (0 < w → 0 ≤ z * w → z * w ≤ e → 0 ≤ z ∧ z ≤ gl v i) := fun {w e} he hw a b => by
    constructor
    · apply Classical.byContradiction; intro hc
      have := Int.mul_pos (show 0 < -z by omega) hw
      rw [Int.neg_mul] at this; omega
    · rw [← he] at b
      exact Int.le_of_mul_le_mul_right b hw
  have hzz : 0 ≤ z ∧ z ≤ gl v i := by
    rcases Int.lt_trichotomy (st v i).X 0 with c | c | c
    · have m := Int.mul_pos (show 0 < (gl v i : Int) by omega) (show 0 < -(st v i).X by omega)
      rw [Int.mul_neg] at m
      exact hin (w := -(st v i).X) (e := -((v (i + 1)).X - (v i).X)) (by rw [Int.mul_neg]; omega) (by omega) (by rw [Int.mul_neg]; omega) (by rw [Int.mul_neg]; omega)
    · rcases Int.lt_trichotomy (st v i).Y 0 with c' | c' | c'
      · have m := Int.mul_pos (show 0 < (gl v i : Int) by omega) (show 0 < -(st v i).Y by omega)
        rw [Int.mul_neg] at m
        exact hin (w := -(st v i).Y) (e := -((v (i + 1)).Y - (v i).Y)) (by rw [Int.mul_neg]; omega) (by omega) (by rw [Int.mul_neg]; omega) (by rw [Int.mul_neg]; omega)
      · exfalso; rw [c] at gx; rw [c'] at gy; rw [Int.mul_zero] at gx gy; exact hne ⟨gx.symm, gy.symm⟩
      · have m := Int.mul_pos (show 0 < (gl v i : Int) by omega) c'
        exact hin gy c' (by omega) (by omega)
    · have m := Int.mul_pos (show 0 < (gl v i : Int) by omega) c
      exact hin gx c (by omega) (by omega)
  refine ⟨z.toNat, by omega, ?_⟩
  unfold pt
  rw [Int.toNat_of_nonneg hzz.1]
  cases p
  simp only at zx zy
  simp only [Spot.mk.injEq]; omega
/-- A spot on no side is off the rim, and the other way round. -/
theorem Ring.off_rows {n : Nat} {v : Nat → Spot} (h : Ring n v) {p : Spot} (hno : ∀ i t, i < n → t < gl v i → p ≠ pt v i t) :
    ∀ i, Rows (v i) (v (i + 1)) p ∨ Rows (v (i + 1)) (v i) p → cr (sb (v i) p) (sb (v (i + 1)) p) ≠ 0 := by
  have h3 := h.three
  intro i hr e
  -- p lies between the ends
  have key : ∀ a b : Spot, Rows a b p → cr (sb a p) (sb b p) = 0 → (min a.X b.X ≤ p.X ∧ p.X ≤ max a.X b.X) := by
    intro a b hab h0
    unfold Rows at hab
    have e1 : (b.Y - p.Y) * (a.X - p.X) + (p.Y - a.Y) * (b.X - p.X) = 0 := by rw [← h0]; unfold cr sb; grind
    constructor
    · apply Classical.byContradiction; intro hc
      have p1 := Int.mul_pos (show 0 < b.Y - p.Y by omega) (show 0 < a.X - p.X by omega)
      have p2 := Int.mul_nonneg (show 0 ≤ p.Y - a.Y by omega) (show 0 ≤ b.X - p.X by omega)
      omega
    · apply Classical.byContradiction; intro hc
      have p1 := Int.mul_pos (show 0 < b.Y - p.Y by omega) (show 0 < p.X - a.X by omega)
      have p2 := Int.mul_nonneg (show 0 ≤ p.Y - a.Y by omega) (show 0 ≤ p.X - b.X by omega)
      have e2 : (b.Y - p.Y) * (p.X - a.X) = -((b.Y - p.Y) * (a.X - p.X)) := by grind
      have e3 : (p.Y - a.Y) * (p.X - b.X) = -((p.Y - a.Y) * (b.X - p.X)) := by grind
      omega
  have hxy : (min (v i).X (v (i + 1)).X ≤ p.X ∧ p.X ≤ max (v i).X (v (i + 1)).X) ∧ (min (v i).Y (v (i + 1)).Y ≤ p.Y ∧ p.Y ≤ max (v i).Y (v (i + 1)).Y) := by
    rcases hr with hr | hr
    · refine ⟨key _ _ hr e, ?_⟩
      unfold Rows at hr; omega
    · have := key _ _ hr (by rw [cr_anti, e]; rfl)
      refine ⟨by omega, ?_⟩
      unfold Rows at hr; omega
  obtain ⟨t, ht, hp⟩ := h.on_side i e hxy.1 hxy.2
  have hm := h.mod i
  have hm1 := h.mod1 i
  have hgl : ∀ a b : Nat, v a = v b → v (a + 1) = v (b + 1) → gl v a = gl v b ∧ ∀ t, pt v a t = pt v b t := fun a b q1 q2 => by
    have e1 : edge v a = edge v b := by unfold edge; rw [q1, q2]
    have e2 : gl v a = gl v b := by unfold gl; rw [e1]
    refine ⟨e2, fun t => ?_⟩
    unfold pt st
    rw [e1, e2, q1]
  obtain ⟨g1, g2⟩ := hgl i (i % n) hm hm1
  have hlt := Nat.mod_lt i (show 0 < n by omega)
  by_cases c : t < gl v i
  · exact hno (i % n) t hlt (by omega) (by rw [hp, g2])
  · have ce : t = gl v i := by omega
    rw [ce, pt_last] at hp
    have hm' := h.mod (i + 1)
    have hg' := h.gl_pos ((i + 1) % n)
    exact hno ((i + 1) % n) 0 (Nat.mod_lt _ (by omega)) hg' (by rw [pt_zero, hp]; exact hm')
/-- Within the way, off its rim. -/
def inCount (n : Nat) (v : Nat → Spot) (p : Spot) : Int := if onCount n v p = 0 ∧ wind n v p ≠ 0 then 1 else 0
/-- PICK's theorem for every simple way round. -/
theorem pick {n : Nat} {v : Nat → Spot} (h : Ring n v) {X0 Y0 : Int} {nx ny : Nat} (hb : ∀ i, InBox X0 Y0 nx ny (v i)) :
    2 * boxSum (inCount n v) X0 Y0 nx ny = turns n v * area2 n v - rim n v + 2 ∧ boxSum (onCount n v) X0 Y0 nx ny = rim n v := by
  have hone := turns_one h
  have hw := wind_box h hb
  have hs := wind_sides h
  have ho := on_box h hb (fun p => 2 * wind n v p)
  have hr := on_box h hb (fun _ => 1)
  rw [hs] at ho
  have e : boxSum (fun p => 2 * wind n v p) X0 Y0 nx ny = boxSum (fun p => onCount n v p * (2 * wind n v p) + 2 * turns n v * inCount n v p) X0 Y0 nx ny :=
    boxSum_congr fun p _ => by
      rcases h.onCount_or p with ⟨e1, _⟩ | ⟨e1, e2⟩
      · have : inCount n v p = 0 := by unfold inCount; rw [if_neg (by rw [e1]; omega)]
        rw [e1, this]; omega
      · rw [e1]
        rcases wind_off h p (h.off_rows e2) with q | q
        · have : inCount n v p = 0 := by unfold inCount; rw [if_neg (fun k => k.2 q)]
          rw [this, q]; omega
        · have : inCount n v p = 1 := by unfold inCount; rw [if_pos ⟨e1, by rw [q]; omega⟩]
          rw [this, q]; omega
  rw [boxSum_mul, boxSum_add, boxSum_mul, ho] at e
  have r1 : sumUp (fun i => sumUp (fun _ => (1 : Int)) (gl v i)) n = rim n v := by
    unfold rim
    exact sumUp_congr fun i _ => by rw [sumUp_const]; omega
  rw [r1] at hr
  have r2 : boxSum (fun p => onCount n v p * 1) X0 Y0 nx ny = boxSum (onCount n v) X0 Y0 nx ny := boxSum_congr fun p _ => Int.mul_one _
  rw [r2] at hr
  refine ⟨?_, hr⟩
  have r3 : sumUp (fun i => (gl v i : Int)) n = rim n v := rfl
  rw [r3] at e
  generalize sumUp (fun i => (gl v i : Int) * dn (edge v i)) n = D at *
  generalize boxSum (inCount n v) X0 Y0 nx ny = I at *
  generalize boxSum (wind n v) X0 Y0 nx ny = W at *
  rcases hone with q | q <;> rw [q] at e ⊢ <;> omega
end Pick
end Go.Proofs.YtledlkggggpdpaaGreatDoor
