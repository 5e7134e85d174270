/- Growth: the straight line through lengths over days, in plain words. -/
import Derived.Test.YtledlkggggpdpaaGreatDoorNum
namespace Go.Proofs.YtledlkggggpdpaaGreatDoor

/-- Days, products, squares. -/
def sqI : List Int → Int
  | [] => 0
  | d :: ds => d * d + sqI ds
def prI : List Int → List Int → Int
  | d :: ds, l :: ls => d * l + prI ds ls
  | _, _ => 0
def numG (ds ls : List Int) : Int := ds.length * prI ds ls - sumI ds * sumI ls
def denG (ds : List Int) : Int := ds.length * sqI ds - sumI ds * sumI ds
/-- Squares of the differences from a number. -/
def offI (x : Int) : List Int → Int
  | [] => 0
  | d :: ds => (x - d) * (x - d) + offI x ds
theorem offI_eq (x : Int) : ∀ ds : List Int, offI x ds = ds.length * (x * x) - 2 * x * sumI ds + sqI ds
  | [] => by simp [offI, sumI_nil, sqI]
  | d :: ds => by
    have ih := offI_eq x ds
    have e1 : (x - d) * (x - d) = x * x - 2 * x * d + d * d := by rw [Int.sub_mul, Int.mul_sub, Int.mul_sub, Int.mul_comm d x, Int.mul_assoc]; omega
    have e2 : 2 * x * (d + sumI ds) = 2 * x * d + 2 * x * sumI ds := Int.mul_add ..
    have e3 : ((ds.length + 1 : Nat) : Int) * (x * x) = ds.length * (x * x) + x * x := by rw [Int.natCast_add, Int.add_mul]; simp
    simp only [offI, sqI, sumI_cons, List.length_cons]
    rw [ih, e1, e2, e3]
    omega
theorem offI_pos (x : Int) : ∀ ds : List Int, (∀ d ∈ ds, x < d) → (ds.length : Int) ≤ offI x ds
  | [], _ => by simp [offI]
  | d :: ds, h => by
    have ih := offI_pos x ds fun e he => h e (by simp [he])
    have h1 := h d (by simp)
    have h2 : 1 ≤ (x - d) * (x - d) := by
      have : 1 * 1 ≤ (d - x) * (d - x) := Int.mul_le_mul (by omega) (by omega) (by omega) (by omega)
      have e : (x - d) * (x - d) = (d - x) * (d - x) := by rw [← Int.neg_sub d x, Int.neg_mul_neg]
      omega
    simp only [offI, List.length_cons]
    omega
theorem denG_cons (x : Int) (ds : List Int) : denG (x :: ds) = denG ds + offI x ds := by
  rw [offI_eq]
  unfold denG
  simp only [sqI, sumI_cons, List.length_cons]
  have e1 : ((ds.length + 1 : Nat) : Int) * (x * x + sqI ds) = ds.length * (x * x) + ds.length * sqI ds + (x * x + sqI ds) := by rw [Int.natCast_add, Int.add_mul, Int.mul_add]; simp
  have e2 : (x + sumI ds) * (x + sumI ds) = x * x + 2 * x * sumI ds + sumI ds * sumI ds := by
    rw [Int.add_mul, Int.mul_add, Int.mul_add, Int.mul_comm (sumI ds) x, Int.mul_assoc 2]; omega
  rw [e1, e2]
  omega
theorem denG_nonneg : ∀ ds : List Int, (ds.Pairwise (· < ·)) → 0 ≤ denG ds
  | [], _ => by simp [denG, sqI, sumI_nil]
  | x :: ds, h => by
    rw [List.pairwise_cons] at h
    have h1 := denG_nonneg ds h.2
    have h2 := offI_pos x ds h.1
    rw [denG_cons]; omega
theorem denG_pos {ds : List Int} (h : ds.Pairwise (· < ·)) (hl : 2 ≤ ds.length) : 1 ≤ denG ds := by
  cases ds with
  | nil => simp at hl
  | cons x ds =>
    rw [List.pairwise_cons] at h
    have h1 := denG_nonneg ds h.2
    have h2 := offI_pos x ds h.1
    rw [denG_cons]
    simp only [List.length_cons] at hl
    omega
theorem prI_line (r : Int) : ∀ ds : List Int, prI ds (ds.map fun d => 2000 + r * d) = 2000 * sumI ds + r * sqI ds ∧ sumI (ds.map fun d => 2000 + r * d) = 2000 * ds.length + r * sumI ds
  | [] => by simp [prI, sumI_nil, sqI]
  | d :: ds => by
    obtain ⟨h1, h2⟩ := prI_line r ds
    simp only [List.map_cons, prI, sumI_cons, sqI, List.length_cons]
    rw [h1, h2]
    constructor
    · have e1 : d * (2000 + r * d) = 2000 * d + r * (d * d) := by rw [Int.mul_add, Int.mul_comm d 2000, ← Int.mul_assoc d r d, Int.mul_comm d r, Int.mul_assoc]
      rw [e1, Int.mul_add 2000, Int.mul_add r]; omega
    · rw [Int.natCast_add, Int.mul_add 2000, Int.mul_add r]; omega
theorem numG_line (r : Int) (ds : List Int) : numG ds (ds.map fun d => 2000 + r * d) = r * denG ds := by
  obtain ⟨h1, h2⟩ := prI_line r ds
  unfold numG denG
  rw [h1, h2, Int.mul_add, Int.mul_add, Int.mul_sub]
  have e1 : sumI ds * (2000 * ↑ds.length) = ↑ds.length * (2000 * sumI ds) := by rw [Int.mul_comm (sumI ds), Int.mul_comm 2000 (ds.length : Int), Int.mul_assoc]
  have e2 : (ds.length : Int) * (r * sqI ds) = r * (ds.length * sqI ds) := by rw [← Int.mul_assoc, Int.mul_comm (ds.length : Int) r, Int.mul_assoc]
  have e3 : sumI ds * (r * sumI ds) = r * (sumI ds * sumI ds) := by rw [← Int.mul_assoc, Int.mul_comm (sumI ds) r, Int.mul_assoc]
  rw [e1, e2, e3]; omega
theorem prI_more (m : Int) : ∀ (ds ls : List Int), ds.length = ls.length → prI ds (ls.map fun l => l + m) = prI ds ls + m * sumI ds ∧ sumI (ls.map fun l => l + m) = sumI ls + m * ls.length
  | [], [], _ => by simp [prI, sumI_nil]
  | d :: ds, l :: ls, h => by
    obtain ⟨h1, h2⟩ := prI_more m ds ls (by simpa using h)
    simp only [List.map_cons, prI, sumI_cons, List.length_cons]
    rw [h1, h2]
    constructor
    · rw [Int.mul_add d, Int.mul_add m, Int.mul_comm d m]; omega
    · rw [Int.natCast_add, Int.mul_add m]; omega
theorem numG_more (m : Int) (ds ls : List Int) (h : ds.length = ls.length) : numG ds (ls.map fun l => l + m) = numG ds ls := by
  obtain ⟨h1, h2⟩ := prI_more m ds ls h
  unfold numG
  rw [h1, h2, Int.mul_add, Int.mul_add, ← h]
  have e1 : sumI ds * (m * ↑ds.length) = ↑ds.length * (m * sumI ds) := by rw [← Int.mul_assoc, Int.mul_comm (sumI ds * m), Int.mul_comm (sumI ds) m]
  rw [e1]; omega
end Go.Proofs.YtledlkggggpdpaaGreatDoor
