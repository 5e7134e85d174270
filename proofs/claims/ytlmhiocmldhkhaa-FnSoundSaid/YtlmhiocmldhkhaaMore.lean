/- More plain words for the walks: stores into owned rows of numbers, one cell at a time. -/
import Derived.Test.YtlmhiocmldhkhaaBase
namespace Go.Proofs.Ytlmhiocmldhkhaa
open Go.RowKit

theorem over_at {α : Type} (L xs : List α) (i : Nat) (hl : L.length = xs.length) (h : i < xs.length) (h' : i < (over L xs i).length) : (over L xs i)[i] = xs[i] := by
  have hk : (L.take i).length = i := by simp; omega
  rw [← Option.some_inj, ← List.getElem?_eq_getElem h', over, List.getElem?_append_right (by omega), hk, Nat.sub_self, List.getElem?_drop, Nat.add_zero, List.getElem?_eq_getElem h]
theorem flat_int (xs : List Int) : flat xs = xs.map (Value.int .i64) := by
  unfold flat
  induction xs with
  | nil => rfl
  | cons x xs ih => rw [List.flatMap_cons, ih]; rfl
theorem Own.frz {α : Type} [Flat α] {B : Nat} {w : World} {e : TypeId} {g n c : Nat} {xs : List α} (h : Own B w e (.slice (some ⟨g, 0, none⟩) n c) xs) (j : Nat) : w.frozen? ⟨g, j, none⟩ = false := by
  obtain ⟨a', c', he, _⟩ := h.at
  simp only [Value.slice.injEq] at he
  obtain ⟨_, rfl, _⟩ := he
  exact World.ownsRow.frozenAt h j
theorem Own.setInt {B : Nat} {w : World} {e : TypeId} {g n c : Nat} {xs : List Int} (h : Own B w e (.slice (some ⟨g, 0, none⟩) n c) xs) (i : Nat) (z : Int) :
    Own B (w.setCell ⟨g, i, none⟩ (.int .i64 z)) e (.slice (some ⟨g, 0, none⟩) n c) (xs.set i z) ∧ w.grownBy (w.setCell ⟨g, i, none⟩ (.int .i64 z)) (some g) := by
  obtain ⟨a', c', he, _⟩ := h.at
  simp only [Value.slice.injEq] at he
  obtain ⟨_, rfl, _⟩ := he
  obtain ⟨h1, h2⟩ := World.ownsRow.stored h i (.int .i64 z)
  refine ⟨?_, h2⟩
  unfold Own
  rw [List.length_set]
  have e1 : flat (xs.set i z) = (flat xs).set i (.int .i64 z) := by rw [flat_int, flat_int, List.map_set]
  rw [e1]; exact h1
end Go.Proofs.Ytlmhiocmldhkhaa
