/- Chapter 2, pairs of feet: the plain laws. -/
import Derived.Test.YtledlkggggpdpaaGreatDoorMid4
namespace Go.Proofs.YtledlkggggpdpaaGreatDoor
open Go.RowKit

theorem srt_two (x y : Int) : srt [x, y] = [min x y, max x y] := by
  symm
  apply srt_of
  · by_cases h : x ≤ y
    · rw [show min x y = x by omega, show max x y = y by omega]
    · rw [show min x y = y by omega, show max x y = x by omega]
      exact List.Perm.swap x y []
  · simp; omega
def val1 (xs : List Int) : Int := xs.getD 1 0
def valS (xs : List Int) : Int := xs.getD (xs.length - 1) 0 - xs.getD 0 0
theorem val1_two (x y : Int) : val1 (srt [x, y]) = max x y := by rw [srt_two]; rfl
theorem valS_two (x y : Int) : valS (srt [x, y]) = size (y - x) := by
  rw [srt_two]
  show max x y - min x y = size (y - x)
  unfold size; omega
theorem col_two (k : Nat) (f g : Foot) : col k [f, g] = [kindOf k f, kindOf k g] := rfl
/-- The larger of two feet, measure by measure. -/
def maxFoot (f g : Foot) : Foot := ⟨max f.Length g.Length, max f.Ball g.Ball, max f.Instep g.Instep, max f.Heel g.Heel⟩
def sprFoot (f g : Foot) : Foot := ⟨size (g.Length - f.Length), size (g.Ball - f.Ball), size (g.Instep - f.Instep), size (g.Heel - f.Heel)⟩
def difI (f g : Foot) : List Int := [g.Length - f.Length, g.Ball - f.Ball, g.Instep - f.Instep, g.Heel - f.Heel]
theorem maxFoot_comm (f g : Foot) : maxFoot f g = maxFoot g f := by unfold maxFoot; congr 1 <;> omega
/-- The differences of the first k measures, the rest as they are. -/
def difTo (f g : Foot) (k : Nat) : List Int := (difI f g).take k ++ (fourOf g).drop k
theorem difTo_zero (f g : Foot) : difTo f g 0 = fourOf g := rfl
theorem difTo_four (f g : Foot) : difTo f g 4 = difI f g := rfl
theorem difTo_length (f g : Foot) {k : Nat} (h : k ≤ 4) : (difTo f g k).length = 4 := by
  rcases (by omega : k = 0 ∨ k = 1 ∨ k = 2 ∨ k = 3 ∨ k = 4) with rfl | rfl | rfl | rfl | rfl <;> rfl
theorem difTo_get (f g : Foot) {k : Nat} (h : k < 4) (h' : k < (difTo f g k).length) : (difTo f g k)[k] = kindOf k g := by
  rcases (by omega : k = 0 ∨ k = 1 ∨ k = 2 ∨ k = 3) with rfl | rfl | rfl | rfl <;> rfl
theorem difTo_succ (f g : Foot) {k : Nat} (h : k < 4) : (difTo f g k).set k (kindOf k g - kindOf k f) = difTo f g (k + 1) := by
  rcases (by omega : k = 0 ∨ k = 1 ∨ k = 2 ∨ k = 3) with rfl | rfl | rfl | rfl <;> rfl
end Go.Proofs.YtledlkggggpdpaaGreatDoor
