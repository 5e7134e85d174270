/- Chapter 9, notches and ease: the contracts of the program's functions and of the reference's. -/
import Derived.Test.YtledlkggggpdpaaGreatDoorL09
namespace Go.Proofs.YtledlkggggpdpaaGreatDoor
open Go.RowKit

/-- Shares in thousandths. -/
def okShares (xs : List Int) : Bool := decide ((xs.length : Int) ≤ 10) && rises xs 1 999
theorem rises_iff {xs : List Int} {lo hi : Int} : rises xs lo hi = true ↔ ∀ i, i < xs.length → riseAt xs lo hi i = true := allUpto_iff
theorem rises_in {xs : List Int} {lo hi : Int} (h : rises xs lo hi = true) {i : Nat} (hi' : i < xs.length) : lo ≤ xs[i] ∧ xs[i] ≤ hi := by
  have := rises_iff.1 h i hi'
  simp [riseAt, hi'] at this
  exact inr_true.1 this.1
theorem map_take_succ {α β : Type} (f : α → β) (xs : List α) (k : Nat) (h : k < xs.length) : (xs.take k).map f ++ [f xs[k]] = (xs.take (k + 1)).map f := by
  rw [List.take_succ_eq_append_getElem h, List.map_append]; rfl
/-- The notches of an edge. -/
def notchOk (n : Int) (xs : List Int) : Bool := inr n 1 5000 && okShares xs
def notches (n : Int) (xs : List Int) : List Int := if notchOk n xs then xs.map fun s => rnd (n * s) 1000 else []
def notchCode (n : Int) (xs : List Int) : Int := if notchOk n xs then 0 else 2
theorem NotchesOf_len (n : Int) (xs : List Int) : (notches n xs).length ≤ 10 := by
  unfold notches
  split
  · rename_i h
    simp [notchOk, okShares] at h
    simp; omega
  · simp
theorem mul_in {a b A B : Int} (h1 : 0 ≤ a) (h2 : a ≤ A) (h3 : 0 ≤ b) (h4 : b ≤ B) : 0 ≤ a * b ∧ a * b ≤ A * B :=
  ⟨Int.mul_nonneg h1 h3, Int.mul_le_mul h2 h4 h3 (Int.le_trans h1 h2)⟩
end Go.Proofs.YtledlkggggpdpaaGreatDoor
