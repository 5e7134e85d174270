/- Fractions in lowest terms: what the program and the reference compute. -/
import Derived.Test.YtledlkggggpdpaaGreatDoorNum
import Derived.Test.YtledlkggggpdpaaGreatDoorSmall
import Derived.Test.YtledlkggggpdpaaGreatDoorSrc
namespace Go.Proofs.YtledlkggggpdpaaGreatDoor
open Go.RowKit

def gcdI (a b : Int) : Int := (Nat.gcd a.natAbs b.natAbs : Nat)
theorem gcdI_step (a b : Int) : gcdI b (a.tmod b) = gcdI a b := by
  unfold gcdI
  rw [Int.natAbs_tmod, Nat.gcd_comm, ← Nat.gcd_rec, Nat.gcd_comm]
theorem gcdI_zero (a : Int) : gcdI a 0 = size a := by
  unfold gcdI size; simp; omega
theorem gcdI_size (a b : Int) : gcdI (size a) (size b) = gcdI a b := by
  have h : ∀ a : Int, (size a).natAbs = a.natAbs := fun a => by unfold size; omega
  unfold gcdI; rw [h, h]
theorem gcdI_bound {a b M : Int} (ha : -M ≤ a ∧ a ≤ M) (hb : -M ≤ b ∧ b ≤ M) : 0 ≤ gcdI a b ∧ gcdI a b ≤ 2 * M := by
  have h : Nat.gcd a.natAbs b.natAbs ≤ a.natAbs + b.natAbs := by
    rcases Nat.eq_zero_or_pos a.natAbs with h | h
    · rw [h]; simp
    · exact Nat.le_trans (Nat.gcd_le_left _ h) (by omega)
  unfold gcdI
  generalize Nat.gcd a.natAbs b.natAbs = g at h
  omega
theorem tmod_in {a b : Int} (h : b ≠ 0) : (a.tmod b).natAbs < b.natAbs := by
  rw [Int.natAbs_tmod]; exact Nat.mod_lt _ (by omega)
end Go.Proofs.YtledlkggggpdpaaGreatDoor
