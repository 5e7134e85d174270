/- Chapter 7, outlines: where a spot is: the contracts of the program's functions and of the reference's. -/
import Derived.Test.YtledlkggggpdpaaGreatDoorL07b
import Derived.Deep.DeepCutAuto
namespace Go.Proofs.YtledlkggggpdpaaGreatDoor
open Go.RowKit

/-- A way from a spot to the right crosses a side. -/
def crossAt (p a b : Spot) : Bool := (decide (a.Y ≤ p.Y) && decide (p.Y < b.Y) && decide (0 < crs a b p)) || (decide (b.Y ≤ p.Y) && decide (p.Y < a.Y) && decide (crs a b p < 0))
theorem crs_swap (a b p : Spot) : crs b a p = -crs a b p := by
  unfold crs
  simp only [Int.sub_mul, Int.mul_sub]
  rw [Int.mul_comm a.X b.Y, Int.mul_comm a.X p.Y, Int.mul_comm b.X p.Y, Int.mul_comm a.Y b.X, Int.mul_comm a.Y p.X, Int.mul_comm b.Y p.X, Int.mul_comm b.X b.Y, Int.mul_comm a.X a.Y, Int.mul_comm b.Y a.X, Int.mul_comm b.X a.Y]
  omega
theorem cross_ways (p a b : Spot) : (crossAt p a b = true ∧ a.Y ≤ p.Y ∧ p.Y < b.Y ∧ 0 < crs a b p) ∨ (crossAt p a b = false ∧ a.Y ≤ p.Y ∧ p.Y < b.Y ∧ ¬ 0 < crs a b p ∧ ¬ b.Y ≤ p.Y) ∨ (crossAt p a b = false ∧ a.Y ≤ p.Y ∧ ¬ p.Y < b.Y ∧ b.Y ≤ p.Y ∧ ¬ p.Y < a.Y) ∨
    (crossAt p a b = true ∧ ¬ a.Y ≤ p.Y ∧ b.Y ≤ p.Y ∧ p.Y < a.Y ∧ crs a b p < 0) ∨ (crossAt p a b = false ∧ ¬ a.Y ≤ p.Y ∧ b.Y ≤ p.Y ∧ p.Y < a.Y ∧ ¬ crs a b p < 0) ∨ (crossAt p a b = false ∧ ¬ a.Y ≤ p.Y ∧ ¬ b.Y ≤ p.Y) := by
  by_cases h1 : a.Y ≤ p.Y <;> by_cases h2 : p.Y < b.Y <;> by_cases h3 : 0 < crs a b p <;> by_cases h4 : b.Y ≤ p.Y <;> by_cases h5 : p.Y < a.Y <;> by_cases h6 : crs a b p < 0 <;>
    first
      | omega
      | simp [crossAt, h1, h2, h3, h4, h5, h6]
theorem straight_ways (p a b : Spot) (h : ¬ b.Y < a.Y) : (crossAt p a b = true ∧ a.Y ≤ p.Y ∧ p.Y < b.Y ∧ 0 < crs a b p) ∨ (crossAt p a b = false ∧ a.Y ≤ p.Y ∧ p.Y < b.Y ∧ ¬ 0 < crs a b p) ∨ (crossAt p a b = false ∧ a.Y ≤ p.Y ∧ ¬ p.Y < b.Y) ∨ (crossAt p a b = false ∧ ¬ a.Y ≤ p.Y) := by
  by_cases h1 : a.Y ≤ p.Y <;> by_cases h2 : p.Y < b.Y <;> by_cases h3 : 0 < crs a b p <;> by_cases h4 : b.Y ≤ p.Y <;> by_cases h5 : p.Y < a.Y <;>
    first
      | omega
      | simp [crossAt, h1, h2, h3, h4, h5]
theorem swapped_ways (p a b : Spot) (h : b.Y < a.Y) : (crossAt p a b = true ∧ b.Y ≤ p.Y ∧ p.Y < a.Y ∧ 0 < crs b a p) ∨ (crossAt p a b = false ∧ b.Y ≤ p.Y ∧ p.Y < a.Y ∧ ¬ 0 < crs b a p) ∨ (crossAt p a b = false ∧ b.Y ≤ p.Y ∧ ¬ p.Y < a.Y) ∨ (crossAt p a b = false ∧ ¬ b.Y ≤ p.Y) := by
  have e : crossAt p a b = crossAt p b a := by
    have e1 : decide (0 < crs b a p) = decide (crs a b p < 0) := by rw [crs_swap a b p]; congr 1; exact propext (by omega)
    have e2 : decide (crs b a p < 0) = decide (0 < crs a b p) := by rw [crs_swap a b p]; congr 1; exact propext (by omega)
    unfold crossAt; rw [e1, e2, Bool.or_comm]
  rw [e]
  exact straight_ways p b a (by omega)
theorem twoHold (w : World) (a b : Spot) : ∃ w1, (w.alloc (.cells #[.int .i64 a.X, .int .i64 a.Y] 106)).alloc (.cells #[.int .i64 b.X, .int .i64 b.Y] 106) = w1 ∧ Hold w1 w.heap.size a ∧ Hold w1 (w.heap.size + 1) b ∧ Below w.heap.size w w1 := by
  refine ⟨_, rfl, ⟨?_, ?_, ?_, ?_⟩, ⟨?_, ?_, ?_, ?_⟩, ((Below.refl _ _).alloc (by simp) _).alloc (by simp) _⟩ <;> go_simp
theorem Keep.far {w : World} {g g' : Nat} {q : Spot} (h : Keep w g q) (hne : g' ≠ g) (p : Spot) : Keep (setSpot w g' p) g q := by
  obtain ⟨a, b⟩ := h
  have hne' : g ≠ g' := fun h => hne h.symm
  unfold setSpot
  constructor <;> go_simp
def edgeAt (xs : List Spot) (p : Spot) (i : Nat) : Bool := onS (nth xs i) (nth xs (i + 1)) p
def insideTo (xs : List Spot) (p : Spot) : Nat → Bool
  | 0 => false
  | k + 1 => if crossAt p (nth xs k) (nth xs (k + 1)) then !insideTo xs p k else insideTo xs p k
def placeOf (xs : List Spot) (p : Spot) : ByteArray × Int :=
  if okOutline xs then if okSpot p then if allUpto xs.length fun i => !edgeAt xs p i then if insideTo xs p xs.length then (⟨#[105, 110, 115, 105, 100, 101]⟩, 0) else (⟨#[111, 117, 116, 115, 105, 100, 101]⟩, 0)
    else (⟨#[101, 100, 103, 101]⟩, 0) else (⟨#[]⟩, 2) else (⟨#[]⟩, 1)
theorem placeOf_edge {xs : List Spot} {p : Spot} {i : Nat} (h1 : okOutline xs = true) (h2 : okSpot p = true) (hi : i < xs.length) (h : edgeAt xs p i = true) : placeOf xs p = (⟨#[101, 100, 103, 101]⟩, 0) := by
  have : (allUpto xs.length fun i => !edgeAt xs p i) = false := allUpto_false hi (by simp [h])
  simp [placeOf, h1, h2, this]
theorem placeOf_in {xs : List Spot} {p : Spot} (h1 : okOutline xs = true) (h2 : okSpot p = true) (hs : Sofar (fun i => !edgeAt xs p i) xs.length) : placeOf xs p = if insideTo xs p xs.length then (⟨#[105, 110, 115, 105, 100, 101]⟩, 0) else (⟨#[111, 117, 116, 115, 105, 100, 101]⟩, 0) := by
  have := sofar_all hs (Nat.le_refl _)
  simp [placeOf, h1, h2, this]
end Go.Proofs.YtledlkggggpdpaaGreatDoor
