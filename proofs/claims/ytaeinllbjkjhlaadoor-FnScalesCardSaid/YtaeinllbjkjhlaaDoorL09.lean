/- Chapter 9, edges and allowances: the contracts of the program's functions and of the reference's. -/
import Derived.Test.YtaeinllbjkjhlaaDoorStrip
import Derived.Test.YtaeinllbjkjhlaaDoorNum
import Derived.Test.YtaeinllbjkjhlaaDoorSearch
namespace Go.Proofs.YtaeinllbjkjhlaaDoor
open Go.RowKit

/-- A list has a number that is not in a range. -/
def outs (xs : List Int) (lo hi : Int) : Bool := xs.any fun n => !inr n lo hi
theorem outs_false {xs : List Int} {lo hi : Int} : outs xs lo hi = false ↔ ∀ x ∈ xs, lo ≤ x ∧ x ≤ hi := by
  simp [outs, inr]
/-- What is left of a length behind folds. -/
def foldLeft (n : Int) (xs : List Int) (t : Int) : Int := n - sumI xs - t * xs.length
def foldOk (n : Int) (xs : List Int) (t : Int) : Bool := inr n 1 5000 && decide (xs.length ≤ 10) && !outs xs 0 200 && inr t 0 100
def foldRes (n : Int) (xs : List Int) (t : Int) : Int × Int := if foldOk n xs t then (if foldLeft n xs t < 1 then (0, 6) else (foldLeft n xs t, 0)) else (0, 2)
theorem foldRes_small {n : Int} {xs : List Int} {t : Int} (h : foldOk n xs t = true) (h5 : foldLeft n xs t < 1) : foldRes n xs t = (0, 6) := by simp [foldRes, h, h5]
theorem foldRes_big {n : Int} {xs : List Int} {t : Int} (h : foldOk n xs t = true) (h5 : ¬ foldLeft n xs t < 1) : foldRes n xs t = (n - sumI xs - t * xs.length, 0) := by rw [foldRes, if_pos h, if_neg h5]; rfl
theorem sum_fold {xs : List Int} (h : outs xs 0 200 = false) (k : Nat) : 0 ≤ sumI (xs.take k) ∧ sumI (xs.take k) ≤ 200 * xs.length := by
  have h1 : ∀ x ∈ xs, 0 ≤ x ∧ x ≤ 200 := outs_false.1 h
  have h2 : ∀ ys : List Int, (∀ y ∈ ys, 0 ≤ y ∧ y ≤ 200) → 0 ≤ sumI ys ∧ sumI ys ≤ 200 * ys.length := by
    intro ys
    induction ys with
    | nil => intro _; simp [sumI_nil]
    | cons y ys ih =>
      intro hy
      have := ih (fun z hz => hy z (by simp [hz]))
      have := hy y (by simp)
      rw [sumI_cons, List.length_cons]; omega
  have h3 := h2 (xs.take k) (fun y hy => h1 y (List.mem_of_mem_take hy))
  have h4 : (xs.take k).length ≤ xs.length := List.length_take_le' _ _
  omega
end Go.Proofs.YtaeinllbjkjhlaaDoor
