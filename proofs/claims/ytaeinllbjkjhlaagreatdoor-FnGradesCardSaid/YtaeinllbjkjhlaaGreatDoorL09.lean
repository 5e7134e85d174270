/- Chapter 9, edges and allowances: the contracts of the program's functions and of the reference's. -/
import Derived.Test.YtaeinllbjkjhlaaGreatDoorStrip
import Derived.Test.YtaeinllbjkjhlaaGreatDoorNum
import Derived.Test.YtaeinllbjkjhlaaGreatDoorSearch
namespace Go.Proofs.YtaeinllbjkjhlaaGreatDoor
open Go.RowKit

/-- A list has a number that is not in a range. -/
def outs (xs : List Int) (lo hi : Int) : Bool := xs.any fun n => !inr n lo hi
theorem outs_false {xs : List Int} {lo hi : Int} : outs xs lo hi = false ↔ ∀ x ∈ xs, lo ≤ x ∧ x ≤ hi := by
  simp [outs, inr]
theorem outside1_c (n lo hi : Int) (p q : Addr) (w : World) (h1 : w.cell? p = some (.int .i64 lo)) (h2 : w.cell? q = some (.int .i64 hi)) :
    Calls Tryz.prog 113 #[.int .i64 n, .pointer (some p), .pointer (some q)] w fun e w' => e = .returned (.bool (!inr n lo hi)) ∧ w = w' := by
  go_enter Tryz.func113, Tryz.ntmps113
  go_wp2_with fail
  refine (within_c _ _ _ _).mono ?_
  rintro e w' ⟨rfl, rfl⟩
  go_wp2_with fail
  go_ret
  exact ⟨rfl, rfl⟩
theorem outside1_enters : Enters Tryz.prog 113 := enters_of Tryz.func113 (by kernel_rfl) (by kernel_rfl)
theorem outside_c (a : Option Addr) (xs : List Int) (c : Nat) (lo hi : Int) (w : World) (hx : At w a xs) (hl : xs.length ≤ 9223372036854775807) :
    Calls Tryz.prog 86 #[.slice a xs.length c, .int .i64 lo, .int .i64 hi] w fun e w' => e = .returned (.bool (outs xs lo hi)) ∧ Below w.heap.size w w' := by
  have hb0 : Below w.heap.size w ((w.alloc (.cells #[.int .i64 lo] 2)).alloc (.cells #[.int .i64 hi] 2)) := ((Below.refl _ _).alloc (by simp) _).alloc (by simp) _
  go_enter Tryz.func86, Tryz.ntmps86
  go_wp2_with fail
  refine (containsInts_any _ xs _ _ _ (fun n => !inr n lo hi) _ outside1_enters (hx.below hb0) hl (fun x _ w' hb' => ?_)).mono ?_
  · have e1 : w'.cell? ⟨w.heap.size, 0, none⟩ = some (.int .i64 lo) := by rw [hb'.cell (p := ⟨w.heap.size, 0, none⟩) (by simp; omega)]; go_simp
    have e2 : w'.cell? ⟨w.heap.size + 1, 0, none⟩ = some (.int .i64 hi) := by rw [hb'.cell (p := ⟨w.heap.size + 1, 0, none⟩) (by simp)]; go_simp
    exact Calls.grown_same (by simpa using outside1_c x lo hi _ _ w' e1 e2)
  rintro e w2 ⟨rfl, hb2⟩
  go_wp2_with fail
  go_ret
  exact ⟨rfl, upw hb0 hb2⟩
/-- What is left of a length behind folds. -/
def foldLeft (n : Int) (xs : List Int) (t : Int) : Int := n - sumI xs - t * xs.length
def foldOk (n : Int) (xs : List Int) (t : Int) : Bool := inr n 1 5000 && decide (xs.length ≤ 10) && !outs xs 0 200 && inr t 0 100
def foldRes (n : Int) (xs : List Int) (t : Int) : Int × Int := if foldOk n xs t then (if foldLeft n xs t < 1 then (0, 6) else (foldLeft n xs t, 0)) else (0, 2)
theorem foldRes_small {n : Int} {xs : List Int} {t : Int} (h : foldOk n xs t = true) (h5 : foldLeft n xs t < 1) : foldRes n xs t = (0, 6) := by simp [foldRes, h, h5]
theorem foldRes_big {n : Int} {xs : List Int} {t : Int} (h : foldOk n xs t = true) (h5 : ¬ foldLeft n xs t < 1) : foldRes n xs t = (n - sumI xs - t * xs.length, 0) := by rw [foldRes, if_pos h, if_neg h5]; rfl
theorem sum_fold {xs : List Int} (h : outs xs 0 200 = false) (k : Nat) : 0 ≤ sumI (xs.take k) ∧ sumI (xs.take k) ≤ 200 * xs.length := by
  have h1 : ∀ x ∈ xs, 0 ≤ x ∧ x ≤ 200 := outs_false.1 h
  have h2 : ∀ ys : List Int, (∀ y ∈ ys, 0 ≤ y ∧ y ≤ 200) → 0 ≤ sumI ys ∧ sumI ys ≤ 200 * ys.length := by
    intro ys
    induction ys with
    | nil => intro _; simp [sumI_nil]
    | cons y ys ih =>
      intro hy
      have := ih (fun z hz => hy z (by simp [hz]))
      have := hy y (by simp)
      rw [sumI_cons, List.length_cons]; omega
  have h3 := h2 (xs.take k) (fun y hy => h1 y (List.mem_of_mem_take hy))
  have h4 : (xs.take k).length ≤ xs.length := List.length_take_le' _ _
  omega
end Go.Proofs.YtaeinllbjkjhlaaGreatDoor
