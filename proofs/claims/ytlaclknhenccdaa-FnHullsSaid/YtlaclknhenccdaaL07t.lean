/- Chapter 7, outlines: MirrorOutline and TurnOutline: the contracts of the program's functions and of the reference's. -/
import Derived.Test.YtlaclknhenccdaaL07m
namespace Go.Proofs.Ytlaclknhenccdaa
open Go.RowKit

theorem heap_alloc_new2 (w : World) (o o' : Obj) : ((w.alloc o).alloc o').heap[w.heap.size + 1]? = some o' := by
  have := heap_alloc_new (w.alloc o) o'
  have e : (w.alloc o).heap.size = w.heap.size + 1 := by simp
  rwa [e] at this
def mirrored (xs : List Spot) : List Spot := xs.reverse.map mir
theorem mirrored_length (xs : List Spot) : (mirrored xs).length = xs.length := by simp [mirrored]
theorem mirrored_get (xs : List Spot) (i : Nat) (h : i < (mirrored xs).length) (h' : xs.length - 1 - i < xs.length) : (mirrored xs)[i] = mir (nth xs (xs.length - 1 - i)) := by
  rw [nth_get h']; simp [mirrored]
def mirrorOf (xs : List Spot) : List Spot := if okOutline xs then lay (mirrored xs) else []
def mirrorCode (xs : List Spot) : Int := if okOutline xs then 0 else 1
theorem MirrorOutline_len (xs : List Spot) : (mirrorOf xs).length ≤ xs.length := by
  unfold mirrorOf; split
  · rw [lay_length, mirrored_length]; exact Nat.le_refl _
  · simp
theorem near_mirrored {xs : List Spot} (h : ∀ x ∈ xs, okSpot x = true) : ∀ i, nearSpot (nth (mirrored xs) i) := near_nth fun x hx => by
  simp only [mirrored, List.mem_map, List.mem_reverse] at hx
  obtain ⟨y, hy, rfl⟩ := hx
  exact near_mir (near_ok (h y hy))
def rotTo : Nat → List Spot → List Spot
  | 0, xs => xs
  | q + 1, xs => (rotTo q xs).map rot
theorem rotTo_length (xs : List Spot) : ∀ q, (rotTo q xs).length = xs.length
  | 0 => rfl
  | q + 1 => by simp [rotTo, rotTo_length xs q]
theorem near_rotTo {xs : List Spot} (h : ∀ x ∈ xs, okSpot x = true) : ∀ q, ∀ x ∈ rotTo q xs, nearSpot x
  | 0, x, hx => near_ok (h x hx)
  | q + 1, x, hx => by
    simp only [rotTo, List.mem_map] at hx
    obtain ⟨y, hy, rfl⟩ := hx
    exact near_rot (near_rotTo h q y hy)
def turnOf (xs : List Spot) (q : Int) : List Spot := if okOutline xs && inr q 0 3 then lay (rotTo q.toNat xs) else []
def turnCode (xs : List Spot) (q : Int) : Int := if okOutline xs then if inr q 0 3 then 0 else 2 else 1
theorem TurnOutline_len (xs : List Spot) (q : Int) : (turnOf xs q).length ≤ xs.length := by
  unfold turnOf; split
  · rw [lay_length, rotTo_length]; exact Nat.le_refl _
  · simp
end Go.Proofs.Ytlaclknhenccdaa
