/- Chapter 9, the ease of the parts of an edge: the contracts of the program's function and of the reference's. -/
import Derived.Test.YtledlkggggpdpaaGreatDoorL09m
namespace Go.Proofs.YtledlkggggpdpaaGreatDoor
open Go.RowKit

theorem gen_succ {α : Type} (n : Nat) (f : Nat → α) : gen n f ++ [f n] = gen (n + 1) f := by
  unfold gen; rw [List.range_succ, List.map_append]; rfl
/-- The share at which part i ends. -/
def shareAt (xs : List Int) (i : Nat) : Int := xs.getD i 1000
theorem shareAt_lt {xs : List Int} {i : Nat} (h : i < xs.length) : shareAt xs i = xs[i] := by simp [shareAt, h]
theorem shareAt_end {xs : List Int} {i : Nat} (h : ¬ i < xs.length) : shareAt xs i = 1000 := by simp [shareAt]; rw [List.getElem?_eq_none (by omega)]; rfl
def easeAt (a b : Int) (xs : List Int) (i : Nat) : Int := rnd (size (a - b) * shareAt xs i) 1000
def easeBefore (a b : Int) (xs : List Int) (i : Nat) : Int := if i = 0 then 0 else easeAt a b xs (i - 1)
def easeStep (a b : Int) (xs : List Int) (i : Nat) : Int := easeAt a b xs i - easeBefore a b xs i
theorem easeBefore_zero (a b : Int) (xs : List Int) : easeBefore a b xs 0 = 0 := rfl
theorem easeBefore_succ (a b : Int) (xs : List Int) (i : Nat) : easeBefore a b xs (i + 1) = easeAt a b xs i := by simp [easeBefore]
def easeOk (a b : Int) (xs : List Int) : Bool := inr a 1 5000 && inr b 1 5000 && okShares xs
def ease (a b : Int) (xs : List Int) : List Int := if easeOk a b xs then gen (xs.length + 1) (easeStep a b xs) else []
def easeCode (a b : Int) (xs : List Int) : Int := if easeOk a b xs then 0 else 2
theorem EaseOf_len (a b : Int) (xs : List Int) : (ease a b xs).length ≤ 11 := by
  unfold ease
  split
  · rename_i h
    simp [easeOk, okShares] at h
    rw [gen_length]; omega
  · simp
theorem rnd_in {n N : Int} (h0 : 0 ≤ n) (h : n ≤ N) : 0 ≤ rnd n 1000 ∧ rnd n 1000 ≤ N + 1 := by
  have e : rnd n 1000 = (2 * n + 1000) / 2000 := rfl
  rw [e]; omega
theorem ease_facts {a b : Int} {xs : List Int} (ha : 1 ≤ a ∧ a ≤ 5000) (hb : 1 ≤ b ∧ b ≤ 5000) (hs : rises xs 1 999 = true) (i : Nat) :
    (0 ≤ size (a - b) ∧ size (a - b) ≤ 5000) ∧ (1 ≤ shareAt xs i ∧ shareAt xs i ≤ 1000) ∧ (0 ≤ size (a - b) * shareAt xs i ∧ size (a - b) * shareAt xs i ≤ 5000000) ∧ (0 ≤ easeAt a b xs i ∧ easeAt a b xs i ≤ 5000001) := by
  have h1 : 0 ≤ size (a - b) ∧ size (a - b) ≤ 5000 := by unfold size; omega
  have h2 : 1 ≤ shareAt xs i ∧ shareAt xs i ≤ 1000 := by
    by_cases h : i < xs.length
    · rw [shareAt_lt h]; have := rises_in hs h; omega
    · rw [shareAt_end h]; omega
  have h3 := mul_in (a := size (a - b)) (b := shareAt xs i) (A := 5000) (B := 1000) h1.1 h1.2 (by omega) h2.2
  have h4 := rnd_in h3.1 h3.2
  exact ⟨h1, h2, by omega, by unfold easeAt; omega⟩
theorem easeBefore_in {a b : Int} {xs : List Int} (ha : 1 ≤ a ∧ a ≤ 5000) (hb : 1 ≤ b ∧ b ≤ 5000) (hs : rises xs 1 999 = true) (i : Nat) : 0 ≤ easeBefore a b xs i ∧ easeBefore a b xs i ≤ 5000001 := by
  unfold easeBefore; split
  · omega
  · exact (ease_facts ha hb hs _).2.2.2
end Go.Proofs.YtledlkggggpdpaaGreatDoor
