/- Chapter 8, patterns: OpenEdges, the program's and the reference's. -/
import Derived.Test.YtlmhiocmldhkhaaP08i
namespace Go.Proofs.Ytlmhiocmldhkhaa
open Go.RowKit

theorem At.grown {α : Type} [Flat α] {w w' : World} {b off : Nat} {row : Option Nat} {xs : List α} (h : At w (some ⟨b, off, none⟩) xs) (hg : w.grownBy w' row) (hne : some b ≠ row) : At w' (some ⟨b, off, none⟩) xs := by
  rcases h with h | ⟨b', off', he, hlt, hc⟩
  · exact Or.inl h
  · simp only [Option.some.injEq, Addr.mk.injEq, and_true] at he
    obtain ⟨rfl, rfl⟩ := he
    refine Or.inr ⟨b, off, rfl, Nat.lt_of_lt_of_le hlt hg.size, fun i hi => ?_⟩
    obtain ⟨cs, hr, hcell⟩ := hc i hi
    exact ⟨cs, hr, fun j v hv => hg.cell (hcell j v hv) hne⟩
def oeOf (p : Pattern) : List (List Int) := if okPattern p then (openOf p).map eL else []
def oeCode (p : Pattern) : Int := if okPattern p then 0 else 1
theorem OpenEdges_len (p : Pattern) : (oeOf p).length ≤ 80 ∧ kL 1 (oeOf p) (oeOf p).length ≤ 8388608 ∧ ∀ x ∈ oeOf p, x.length ≤ 9223372036854775807 := by
  unfold oeOf
  cases h : okPattern p
  · simp [kL]
  · simp only [if_true]
    have hl := open_length (okp_of h)
    refine ⟨by simpa using hl, ?_, fun x hx => ?_⟩
    · have : ∀ l : List Edge, ((l.map eL).map List.length).sum = 2 * l.length := by
        intro l
        induction l with
        | nil => rfl
        | cons e l ih => simp only [List.map_cons, List.sum_cons, ih, List.length_cons, eL, List.length_nil]; omega
      unfold kL
      rw [List.take_length, this]; omega
    · obtain ⟨e, _, rfl⟩ := List.mem_map.1 hx
      simp [eL]
end Go.Proofs.Ytlmhiocmldhkhaa
