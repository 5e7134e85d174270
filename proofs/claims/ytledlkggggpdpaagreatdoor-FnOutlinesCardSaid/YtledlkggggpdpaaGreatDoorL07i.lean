/- Chapter 7, outlines: spots inside: the contracts of the program's functions and of the reference's. -/
import Derived.Test.YtledlkggggpdpaaGreatDoorL07s
import Derived.Test.YtledlkggggpdpaaGreatDoorSmall
namespace Go.Proofs.YtledlkggggpdpaaGreatDoor
open Go.RowKit

/-- The greatest common divisor of two numbers without their signs. -/
def gcdI (a b : Int) : Int := (Nat.gcd a.natAbs b.natAbs : Nat)
theorem gcdI_step (a b : Int) : gcdI b (a.tmod b) = gcdI a b := by
  unfold gcdI
  rw [Int.natAbs_tmod, Nat.gcd_comm, ← Nat.gcd_rec, Nat.gcd_comm]
theorem gcdI_zero (a : Int) : gcdI a 0 = size a := by
  unfold gcdI size; simp; omega
theorem gcdI_size (a b : Int) : gcdI (size a) (size b) = gcdI a b := by
  have h : ∀ a : Int, (size a).natAbs = a.natAbs := fun a => by unfold size; omega
  unfold gcdI; rw [h, h]
theorem gcdI_bound {a b M : Int} (ha : -M ≤ a ∧ a ≤ M) (hb : -M ≤ b ∧ b ≤ M) : 0 ≤ gcdI a b ∧ gcdI a b ≤ 2 * M := by
  have h : Nat.gcd a.natAbs b.natAbs ≤ a.natAbs + b.natAbs := by
    rcases Nat.eq_zero_or_pos a.natAbs with h | h
    · rw [h]; simp
    · exact Nat.le_trans (Nat.gcd_le_left _ h) (by omega)
  unfold gcdI
  generalize Nat.gcd a.natAbs b.natAbs = g at h
  omega
theorem tmod_in {a b : Int} (h : b ≠ 0) : (a.tmod b).natAbs < b.natAbs := by
  rw [Int.natAbs_tmod]; exact Nat.mod_lt _ (by omega)
/-- How many spots are on a side, without its first. -/
def onSide (xs : List Spot) (i : Nat) : Int := gcdI ((nth xs (i + 1)).X - (nth xs i).X) ((nth xs (i + 1)).Y - (nth xs i).Y)
def onSides (xs : List Spot) : Int := sumUp (onSide xs) xs.length
theorem onSide_in {xs : List Spot} (hok : ∀ i, okSpot (nth xs i) = true) (i : Nat) : 0 ≤ onSide xs i ∧ onSide xs i ≤ 20000 := by
  have h1 := okSpot_iff.1 (hok i)
  have h2 := okSpot_iff.1 (hok (i + 1))
  exact gcdI_bound (M := 10000) (by omega) (by omega)
theorem onSides_in {xs : List Spot} (hok : ∀ i, okSpot (nth xs i) = true) (k : Nat) : -(20000 * (k : Int)) ≤ sumUp (onSide xs) k ∧ sumUp (onSide xs) k ≤ 20000 * (k : Int) :=
  sumUp_bound _ _ (fun i => by have := onSide_in hok i; omega) k
def spotsInside (xs : List Spot) : Int × Int × Int := if okOutline xs then ((size (twice xs) - onSides xs + 2).tdiv 2, onSides xs, 0) else (0, 0, 1)
end Go.Proofs.YtledlkggggpdpaaGreatDoor
