/- Chapter 3, widths: the program's and the reference's. (Four numbers of a struct stand as a Foot: First, Half, Step, Count.) -/
import Derived.Test.YtaeinllbjkjhlaaDoorF03
import Derived.Test.YtaeinllbjkjhlaaDoorSep
import Derived.Test.YtaeinllbjkjhlaaDoorGcd
namespace Go.Proofs.YtaeinllbjkjhlaaDoor
open Go.RowKit

def okWid (x : Foot) : Bool := inr x.Length 1000 3000 && inr x.Ball 0 50 && inr x.Instep 1 200 && inr x.Heel 1 12
theorem okWid_iff {x : Foot} : okWid x = true ↔ (1000 ≤ x.Length ∧ x.Length ≤ 3000) ∧ (0 ≤ x.Ball ∧ x.Ball ≤ 50) ∧ (1 ≤ x.Instep ∧ x.Instep ≤ 200) ∧ (1 ≤ x.Heel ∧ x.Heel ≤ 12) := by
  unfold okWid
  rw [Bool.and_eq_true, Bool.and_eq_true, Bool.and_eq_true, inr_true, inr_true, inr_true, inr_true, and_assoc, and_assoc]
def girthN (x : Foot) (h k : Int) : Int := x.Length + h * x.Ball + k * x.Instep
theorem girthN_bound {x : Foot} {h k : Int} (ok : okWid x = true) (hh : 0 ≤ h ∧ h ≤ 120) (hk : 0 ≤ k ∧ k ≤ 12) : (0 ≤ h * x.Ball ∧ h * x.Ball ≤ 6000) ∧ (0 ≤ k * x.Instep ∧ k * x.Instep ≤ 2400) ∧ 1000 ≤ girthN x h k ∧ girthN x h k ≤ 20000 := by
  obtain ⟨h1, h2, h3, h4⟩ := okWid_iff.1 ok
  have a := Int.mul_le_mul hh.2 h2.2 h2.1 (by omega)
  have a0 := Int.mul_nonneg hh.1 h2.1
  have b := Int.mul_le_mul hk.2 h3.2 (by omega) (by omega)
  have b0 : 0 ≤ k * x.Instep := Int.mul_nonneg hk.1 (by omega)
  unfold girthN
  omega
theorem four_new (w : World) (t : TypeId) (x : Foot) : ∃ w1, w1 = w.alloc (.cells #[.int .i64 x.Length, .int .i64 x.Ball, .int .i64 x.Instep, .int .i64 x.Heel] t) ∧ Below w.heap.size w w1 ∧ w1.cell? ⟨w.heap.size, 0, none⟩ = some (.int .i64 x.Length) ∧ w1.cell? ⟨w.heap.size, 1, none⟩ = some (.int .i64 x.Ball) ∧ w1.cell? ⟨w.heap.size, 2, none⟩ = some (.int .i64 x.Instep) ∧ w1.cell? ⟨w.heap.size, 3, none⟩ = some (.int .i64 x.Heel) := by
  obtain ⟨c0, c1, c2, c3⟩ := footC_cells (own_footC w t x)
  exact ⟨_, rfl, newB _ _, c0, c1, c2, c3⟩
theorem isHalf_c (n : Int) (w : World) : Calls Tryd.prog 32 #[.int .i64 n] w fun e w' => e = .returned (.bool (inr n 0 120)) ∧ w = w' := by
  go_enter Tryd.func32, Tryd.ntmps32
  go_wp2_with fail
  refine (within_c _ _ _ _).mono ?_
  rintro e w2 ⟨rfl, rfl⟩
  go_wp2_with fail
  go_ret
  exact ⟨rfl, rfl⟩
theorem l03Half_c (n : Int) (w : World) : Calls Tryd.prog 48 #[.int .i64 n] w fun e w' => e = .returned (.bool (inr n 0 120)) ∧ w = w' := by
  go_enter Tryd.func48, Tryd.ntmps48
  go_wp2_with fail
  refine (l00In_c _ _ _ _).mono ?_
  rintro e w2 ⟨rfl, rfl⟩
  go_wp2_with fail
  go_ret
  exact ⟨rfl, rfl⟩
def gofOk (x : Foot) (h k : Int) : Bool := inr h 0 120 && inr k 0 (x.Heel - 1)
def gofRes (x : Foot) (h k : Int) : Int × Int := if okWid x then (if gofOk x h k then (girthN x h k, 0) else (0, 2)) else (0, 1)
end Go.Proofs.YtaeinllbjkjhlaaDoor
