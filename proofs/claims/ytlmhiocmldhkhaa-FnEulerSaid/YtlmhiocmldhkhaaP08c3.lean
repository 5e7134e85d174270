/- Chapter 8, patterns: corners, as the reference counts them. -/
import Derived.Test.YtlmhiocmldhkhaaP08c2
import Derived.Test.YtlmhiocmldhkhaaP08i
import Derived.Test.YtlmhiocmldhkhaaP08p
namespace Go.Proofs.Ytlmhiocmldhkhaa
open Go.RowKit

def hitN (F : Nat → Nat) (e : Edge) : Bool := F (code e) == code e
theorem hits_all (p : Pattern) : (edgesOf p).countP (hitN (joinAll (SC p) id)) = cornersOf p := by
  unfold cornersOf codes; rw [List.countP_map]; rfl
theorem code_lt {p : Pattern} (ok : Okp p) {e : Edge} (h : hasEdge p e = true) : code e < 8 * p.pieces.length := by
  obtain ⟨i, j, rfl, hi, hj⟩ := hasEdge_get h
  have := (ok.len _ (List.getElem_mem hi)).2
  unfold code
  simp only [Int.toNat_natCast]
  omega
theorem code_int {p : Pattern} {e : Edge} (h : hasEdge p e = true) : 8 * e.piece + e.number = (code e : Nat) := by
  obtain ⟨i, j, rfl, hi, hj⟩ := hasEdge_get h
  unfold code
  simp only [Int.toNat_natCast]
  omega
theorem has_bounds {p : Pattern} (ok : Okp p) {e : Edge} (h : hasEdge p e = true) : 0 ≤ e.piece ∧ e.piece ≤ 9 ∧ 0 ≤ e.number ∧ e.number ≤ 7 := by
  obtain ⟨i, j, rfl, hi, hj⟩ := hasEdge_get h
  have := (ok.len _ (List.getElem_mem hi)).2
  have := ok.n10
  simp only
  omega
theorem countP_snoc {α : Type} (q : α → Bool) (l : List α) (x : α) : (l ++ [x]).countP q = l.countP q + if q x then 1 else 0 := by
  rw [List.countP_append]; simp [List.countP_cons]
end Go.Proofs.Ytlmhiocmldhkhaa
