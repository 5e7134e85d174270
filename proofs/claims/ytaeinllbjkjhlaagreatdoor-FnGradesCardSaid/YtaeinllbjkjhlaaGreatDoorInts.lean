/- Lists of numbers: what the functions on them compute. -/
import Derived.Test.YtaeinllbjkjhlaaGreatDoorRows
import Derived.Test.YtaeinllbjkjhlaaGreatDoorBase
namespace Go.Proofs.YtaeinllbjkjhlaaGreatDoor
open Go.RowKit

/-- The marks k, k + 1, .. -/
def marks (k : Int) : Nat → List Int
  | 0 => []
  | n + 1 => k :: marks (k + 1) n
theorem marks_length (k : Int) (n : Nat) : (marks k n).length = n := by
  induction n generalizing k with
  | zero => rfl
  | succ n ih => simp [marks, ih]
theorem marks_get (k : Int) (n i : Nat) (h : i < (marks k n).length) : (marks k n)[i] = k + i := by
  induction n generalizing k i with
  | zero => simp [marks] at h
  | succ n ih =>
    cases i with
    | zero => simp [marks]
    | succ i => simp only [marks, List.getElem_cons_succ]; rw [ih]; omega

/-- The first i numbers are marks, the others as they were. -/
def marked (k : Int) (xs : List Int) (i : Nat) : List Int := (marks k xs.length).take i ++ xs.drop i
theorem marked_length (k : Int) (xs : List Int) (i : Nat) : (marked k xs i).length = xs.length := by simp [marked, marks_length]; omega
theorem marked_zero (k : Int) (xs : List Int) : marked k xs 0 = xs := by simp [marked]
theorem marked_full (k : Int) (xs : List Int) {i : Nat} (h : xs.length ≤ i) : marked k xs i = marks k xs.length := by
  unfold marked; rw [List.take_of_length_le (by rw [marks_length]; exact h), List.drop_of_length_le h]; simp
theorem marked_succ (k : Int) (xs : List Int) (i : Nat) (h : i < xs.length) : (marked k xs i).set i (k + i) = marked k xs (i + 1) := by
  have hm : i < (marks k xs.length).length := by rw [marks_length]; exact h
  have hk : ((marks k xs.length).take i).length = i := by simp [marks_length]; omega
  unfold marked
  rw [List.set_append_right _ _ (by omega), hk, Nat.sub_self, List.drop_eq_getElem_cons h, List.set_cons_zero, List.take_succ_eq_append_getElem hm, marks_get, List.append_assoc]
  rfl

theorem infoInt : (Tryz.prog.info? 2).map (fun i => (i.zero, i.size, i.bytes)) = some (some (.int .i64 0), 1, 8) := by kernel_rfl

theorem opens_int64 : Opens Tryz.prog 2 Int := opens_int Tryz.underlying2
theorem opens_int64s : Opens Tryz.prog 91 (List Int) := opens_slice Tryz.underlying91 (by kernel_rfl) opens_int64
end Go.Proofs.YtaeinllbjkjhlaaGreatDoor
