/- AddSeam, plain law: the longer pattern is valid just if the seam does not clash, and it is small. -/
import Derived.Test.YtlmhiocmldhkhaaGreatDoorOpenMath
import Derived.Test.YtlmhiocmldhkhaaGreatDoorPatS
namespace Go.Proofs.YtlmhiocmldhkhaaGreatDoor

theorem clash_false {p : Pattern} {s : Seam} : clash p s = false ↔ ¬ endA s ∈ ends p.seams ∧ ¬ endB s ∈ ends p.seams ∧ endA s ≠ endB s := by
  have e : endA s = endB s ↔ s.A = s.B ∧ s.EdgeA = s.EdgeB := by simp [endA, endB]
  unfold clash
  rw [Bool.or_eq_false_iff, Bool.or_eq_false_iff, decide_eq_false_iff_not, decide_eq_false_iff_not, times_pos, times_pos, Ne, e, Bool.and_eq_false_iff, decide_eq_false_iff_not, decide_eq_false_iff_not]
  constructor
  · rintro ⟨h1, h2, h3⟩
    exact ⟨h1, h2, fun h => by rcases h3 with h3 | h3; exact h3 h.1; exact h3 h.2⟩
  · rintro ⟨h1, h2, h3⟩
    refine ⟨h1, h2, ?_⟩
    by_cases h : s.A = s.B
    · exact Or.inr fun h' => h3 ⟨h, h'⟩
    · exact Or.inl h
def addP (p : Pattern) (s : Seam) : Pattern := ⟨p.pieces, p.seams ++ [s], p.openings⟩
theorem ends_add (p : Pattern) (s : Seam) : ends (addP p s).seams = ends p.seams ++ [endA s, endB s] := by
  show ends (p.seams ++ [s]) = _
  rw [ends_append]; rfl
theorem add_has (p : Pattern) (s : Seam) (e : Edge) : hasEdge (addP p s) e = hasEdge p e := rfl
theorem okp_add {p : Pattern} {s : Seam} (h : Okp p) (h2 : hasSeam p s = true) : Okp (addP p s) ↔ clash p s = false := by
  have hs : hasEdge p (endA s) = true ∧ hasEdge p (endB s) = true := by
    simp only [hasSeam, Bool.and_eq_true] at h2; exact h2
  rw [clash_false]
  constructor
  · intro ok
    have h1 := ok.once
    rw [ends_add, List.nodup_append] at h1
    obtain ⟨_, h3, h4⟩ := h1
    refine ⟨fun h => h4 _ h _ (by simp) rfl, fun h => h4 _ h _ (by simp) rfl, ?_⟩
    simpa using h3
  · rintro ⟨h3, h4, h5⟩
    refine ⟨h.n1, h.n10, h.name, h.len, h.edge, fun t ht => ?_, ?_, h.open_⟩
    · rcases List.mem_append.1 ht with ht | ht
      · exact h.seam t ht
      · simp only [List.mem_singleton] at ht; subst ht; exact hs
    · rw [ends_add, List.nodup_append]
      refine ⟨h.once, by simpa using h5, fun a ha b hb e => ?_⟩
      subst e
      simp only [List.mem_cons, List.not_mem_nil, or_false] at hb
      rcases hb with rfl | rfl
      · exact h3 ha
      · exact h4 ha
theorem okPattern_add {p : Pattern} {s : Seam} (h : okPattern p = true) (h2 : hasSeam p s = true) : okPattern (addP p s) = !clash p s := by
  have := okp_add (okp_iff.1 h) h2
  rw [← okp_iff] at this
  cases hc : clash p s with
  | false => exact this.2 hc
  | true =>
    cases ho : okPattern (addP p s) with
    | false => rfl
    | true => rw [this.1 ho] at hc; cases hc
theorem sumN_bound {α : Type} (f : α → Nat) (M : Nat) : ∀ (xs : List α), (∀ x ∈ xs, f x ≤ M) → sumN f xs ≤ M * xs.length
  | [], _ => by simp [sumN]
  | x :: xs, h => by
    have h1 := h x (by simp)
    have h2 := sumN_bound f M xs fun y hy => h y (by simp [hy])
    have e : sumN f (x :: xs) = f x + sumN f xs := rfl
    rw [e, List.length_cons, Nat.mul_succ]
    omega
theorem okp_small {p : Pattern} (ok : Okp p) : totPattern p ≤ 250 ∧ p.seams.length ≤ 40 ∧ p.pieces.length ≤ 10 := by
  have h1 := sumN_bound totPiece 20 p.pieces fun x hx => by
    have a := isName_size (ok.name x hx)
    have b := ok.len x hx
    unfold totPiece; omega
  have h2 := ok.n10
  have h3 : (ends p.seams).length ≤ 80 := by
    refine Nat.le_trans (List.Nodup.length_le_of_subset (l₂ := edgesOf p) ok.once fun e he => ?_) (edges_length ok)
    simp only [ends, List.mem_flatMap] at he
    obtain ⟨s, hs, he⟩ := he
    simp only [List.mem_cons, List.not_mem_nil, or_false] at he
    rcases he with rfl | rfl
    · exact mem_edges.2 (ok.seam s hs).1
    · exact mem_edges.2 (ok.seam s hs).2
  rw [ends_length] at h3
  have h4 : 20 * p.pieces.length ≤ 200 := by omega
  refine ⟨by unfold totPattern totPieces; omega, by omega, h2⟩
theorem addRes_small (p : Pattern) (s : Seam) : totPattern (addRes p s).1 ≤ 1048576 := by
  unfold addRes
  split
  · split
    · split
      · decide
      · rename_i h1 h2 h3
        have := (okp_small (okp_iff.1 h1)).1
        show totPattern (addP p s) ≤ 1048576
        have e : totPattern (addP p s) = totPattern p + 1 := by simp [totPattern, addP]; omega
        omega
    · decide
  · decide
end Go.Proofs.YtlmhiocmldhkhaaGreatDoor
