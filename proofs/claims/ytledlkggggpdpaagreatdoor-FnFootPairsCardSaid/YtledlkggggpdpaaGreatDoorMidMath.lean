/- Plain law: numbers in ascending order, and their middle. No program in sight. -/
import Derived.ProofKit
namespace Go.Proofs.YtledlkggggpdpaaGreatDoor

def leI (x y : Int) : Bool := decide (x ≤ y)
def srt (xs : List Int) : List Int := xs.mergeSort leI
theorem srt_perm (xs : List Int) : (srt xs).Perm xs := List.mergeSort_perm xs leI
theorem srt_length (xs : List Int) : (srt xs).length = xs.length := (srt_perm xs).length_eq
theorem srt_sorted (xs : List Int) : (srt xs).Pairwise fun x y => x ≤ y := by
  have h := List.pairwise_mergeSort (le := leI) (fun a b c h1 h2 => by simp [leI] at *; omega) (fun a b => by simp [leI]; omega) xs
  exact h.imp fun h => by simpa [leI] using h
theorem sorted_eq : ∀ {xs ys : List Int}, xs.Perm ys → xs.Pairwise (· ≤ ·) → ys.Pairwise (· ≤ ·) → xs = ys
  | [], ys, h, _, _ => h.nil_eq
  | x :: xs, [], h, _, _ => by have := h.length_eq; simp at this
  | x :: xs, y :: ys, h, h1, h2 => by
    rw [List.pairwise_cons] at h1 h2
    have hx : x ∈ y :: ys := h.mem_iff.1 (by simp)
    have hy : y ∈ x :: xs := h.mem_iff.2 (by simp)
    have e : x = y := by
      rcases List.mem_cons.1 hx with e | e
      · exact e
      · rcases List.mem_cons.1 hy with e' | e'
        · exact e'.symm
        · have a := h1.1 y e'
          have b := h2.1 x e
          omega
    subst e
    rw [sorted_eq (List.Perm.cons_inv h) h1.2 h2.2]
theorem srt_of {xs ys : List Int} (h : ys.Perm xs) (hs : ys.Pairwise (· ≤ ·)) : ys = srt xs := sorted_eq (h.trans (srt_perm xs).symm) hs (srt_sorted xs)
theorem srt_congr {xs ys : List Int} (h : xs.Perm ys) : srt xs = srt ys := srt_of ((srt_perm xs).trans h) (srt_sorted xs)
/-- The middle; one number at least. -/
def midOf (xs : List Int) : Int := (srt xs).getD ((xs.length - 1) / 2) 0
theorem mid_get {xs : List Int} (h : 0 < xs.length) : ∃ h' : (xs.length - 1) / 2 < (srt xs).length, midOf xs = (srt xs)[(xs.length - 1) / 2] := by
  have h' : (xs.length - 1) / 2 < (srt xs).length := by rw [srt_length]; omega
  exact ⟨h', by unfold midOf; rw [List.getD_eq_getElem?_getD, List.getElem?_eq_getElem h']; rfl⟩
theorem mid_mem {xs : List Int} (h : 0 < xs.length) : midOf xs ∈ xs := by
  obtain ⟨h', e⟩ := mid_get h
  rw [e]
  exact (srt_perm xs).mem_iff.1 (List.getElem_mem h')
theorem count_take {xs : List Int} {p : Int → Bool} {j : Nat} (h : ∀ i (hi : i < xs.length), j ≤ i → p xs[i] = false) : xs.countP p ≤ j := by
  have e : xs.countP p = (xs.take j).countP p + (xs.drop j).countP p := by rw [← List.countP_append, List.take_append_drop]
  have z : (xs.drop j).countP p = 0 := by
    rw [List.countP_eq_zero]
    intro a ha
    obtain ⟨i, hi, rfl⟩ := List.mem_iff_getElem.1 ha
    rw [List.getElem_drop]
    simp [h (j + i) (by rw [List.length_drop] at hi; omega) (by omega)]
  have l := List.countP_le_length (p := p) (l := xs.take j)
  have l2 := List.length_take_le j xs
  omega
theorem count_drop {xs : List Int} {p : Int → Bool} {j : Nat} (h : ∀ i (hi : i < xs.length), i ≤ j → p xs[i] = false) : xs.countP p ≤ xs.length - (j + 1) := by
  have e : xs.countP p = (xs.take (j + 1)).countP p + (xs.drop (j + 1)).countP p := by rw [← List.countP_append, List.take_append_drop]
  have z : (xs.take (j + 1)).countP p = 0 := by
    rw [List.countP_eq_zero]
    intro a ha
    obtain ⟨i, hi, rfl⟩ := List.mem_iff_getElem.1 ha
    rw [List.length_take] at hi
    rw [List.getElem_take]
    simp [h i (by omega) (by omega)]
  have l := List.countP_le_length (p := p) (l := xs.drop (j + 1))
  rw [List.length_drop] at l
  omega
/-- At most half of the numbers lie on each side of the middle. -/
theorem mid_law {xs : List Int} (h : 0 < xs.length) : 2 * xs.countP (fun x => decide (x < midOf xs)) < xs.length ∧ 2 * xs.countP (fun x => decide (midOf xs < x)) ≤ xs.length := by
  obtain ⟨h', e⟩ := mid_get h
  have hs := List.pairwise_iff_getElem.1 (srt_sorted xs)
  have hl := srt_length xs
  have c1 : (srt xs).countP (fun x => decide (x < midOf xs)) ≤ (xs.length - 1) / 2 := count_take fun i hi hj => by
    simp only [decide_eq_false_iff_not, e]
    rcases Nat.lt_or_eq_of_le hj with hlt | heq
    · have := hs _ _ h' hi hlt; omega
    · subst heq; omega
  have c2 : (srt xs).countP (fun x => decide (midOf xs < x)) ≤ (srt xs).length - ((xs.length - 1) / 2 + 1) := count_drop fun i hi hj => by
    simp only [decide_eq_false_iff_not, e]
    rcases Nat.lt_or_eq_of_le hj with hlt | heq
    · have := hs _ _ hi h' hlt; omega
    · subst heq; omega
  rw [(srt_perm xs).countP_eq] at c1 c2
  omega
/-- A number on its way down to its place among numbers in ascending order. -/
def sunk (s : List Int) (x : Int) (k : Nat) : List Int := s.take k ++ x :: s.drop k
theorem sunk_length (s : List Int) (x : Int) (k : Nat) : (sunk s x k).length = s.length + 1 := by simp [sunk]; omega
theorem sunk_perm (s : List Int) (x : Int) (k : Nat) : (sunk s x k).Perm (s ++ [x]) := by
  have h1 : (sunk s x k).Perm (x :: (s.take k ++ s.drop k)) := by unfold sunk; exact List.perm_middle
  rw [List.take_append_drop] at h1
  exact h1.trans (List.perm_append_singleton x s).symm
theorem sunk_done {s : List Int} {x : Int} {k : Nat} (hs : s.Pairwise (· ≤ ·)) (h1 : ∀ y ∈ s.drop k, x < y) (h2 : ∀ y ∈ s.take k, y ≤ x) : (sunk s x k).Pairwise (· ≤ ·) := by
  unfold sunk
  have hp : (s.take k ++ s.drop k).Pairwise (· ≤ ·) := by rw [List.take_append_drop]; exact hs
  obtain ⟨p1, p2, p3⟩ := List.pairwise_append.1 hp
  refine List.pairwise_append.2 ⟨p1, List.pairwise_cons.2 ⟨fun y hy => by have := h1 y hy; omega, p2⟩, fun a ha b hb => ?_⟩
  rcases List.mem_cons.1 hb with rfl | hb
  · exact h2 a ha
  · exact p3 a ha b hb
theorem sunk_end (s : List Int) (x : Int) : sunk s x s.length = s ++ [x] := by simp [sunk]
theorem sunk_at {s : List Int} {x : Int} {k : Nat} (h : k ≤ s.length) (h' : k < (sunk s x k).length) : (sunk s x k)[k] = x := by
  have hl : (s.take k).length = k := by simp; omega
  simp only [sunk]
  rw [List.getElem_append_right (by omega)]
  simp [hl]
theorem sunk_before {s : List Int} {x : Int} {k : Nat} (h : k + 1 ≤ s.length) (h' : k < (sunk s x (k + 1)).length) : (sunk s x (k + 1))[k] = s[k] := by
  have hl : (s.take (k + 1)).length = k + 1 := by simp; omega
  simp only [sunk]
  rw [List.getElem_append_left (by omega), List.getElem_take]
/-- One step down. -/
theorem sunk_step {s : List Int} {x : Int} {k : Nat} (h : k + 1 ≤ s.length) : ((sunk s x (k + 1)).set (k + 1) s[k]).set k x = sunk s x k := by
  have hl : (s.take (k + 1)).length = k + 1 := by simp; omega
  have hl2 : (s.take k).length = k := by simp; omega
  unfold sunk
  rw [List.set_append_right _ _ (by omega), hl, Nat.sub_self, List.set_cons_zero, List.take_succ_eq_append_getElem (by omega), List.append_assoc, List.set_append_right _ _ (by omega), hl2, Nat.sub_self]
  have e : s.drop k = s[k] :: s.drop (k + 1) := List.drop_eq_getElem_cons (by omega)
  rw [e]
  rfl
theorem sunk_le {s : List Int} {x : Int} {k : Nat} (hs : s.Pairwise (· ≤ ·)) (h : k + 1 ≤ s.length) (hx : s[k] ≤ x) : ∀ y ∈ s.take (k + 1), y ≤ x := by
  intro y hy
  obtain ⟨i, hi, rfl⟩ := List.mem_iff_getElem.1 hy
  rw [List.length_take] at hi
  rw [List.getElem_take]
  rcases Nat.lt_or_eq_of_le (show i ≤ k by omega) with hlt | heq
  · have := List.pairwise_iff_getElem.1 hs i k (by omega) (by omega) hlt; omega
  · subst heq; exact hx
theorem sunk_lt {s : List Int} {x : Int} {k : Nat} (h : k + 1 ≤ s.length) (h1 : ∀ y ∈ s.drop (k + 1), x < y) (hx : x < s[k]) : ∀ y ∈ s.drop k, x < y := by
  intro y hy
  rw [List.drop_eq_getElem_cons (by omega)] at hy
  rcases List.mem_cons.1 hy with rfl | hy
  · exact hx
  · exact h1 y hy
theorem sunk_srt {xs : List Int} {i k : Nat} (hi : i < xs.length) (h1 : ∀ y ∈ (srt (xs.take i)).drop k, xs[i] < y) (h2 : ∀ y ∈ (srt (xs.take i)).take k, y ≤ xs[i]) : sunk (srt (xs.take i)) xs[i] k = srt (xs.take (i + 1)) := by
  refine srt_of ?_ (sunk_done (srt_sorted _) h1 h2)
  rw [List.take_succ_eq_append_getElem hi]
  exact (sunk_perm _ _ _).trans ((srt_perm _).append_right _)
theorem srt_one (xs : List Int) : srt (xs.take 1) = xs.take 1 := by
  refine (srt_of (List.Perm.refl _) ?_).symm
  cases xs with
  | nil => simp
  | cons x xs => simp
end Go.Proofs.YtledlkggggpdpaaGreatDoor
