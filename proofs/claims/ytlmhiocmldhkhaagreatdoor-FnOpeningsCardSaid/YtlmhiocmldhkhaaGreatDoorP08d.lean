/- Chapter 8, patterns: the differences of seams, the program's and the reference's. -/
import Derived.Test.YtlmhiocmldhkhaaGreatDoorP08k
namespace Go.Proofs.YtlmhiocmldhkhaaGreatDoor
open Go.RowKit

def diffOf (p : Pattern) (s : Seam) : Int := size (edgeLen p (endA s) - edgeLen p (endB s))
def diffs (p : Pattern) : List Int := p.seams.map (diffOf p)
theorem diffs_length (p : Pattern) : (diffs p).length = p.seams.length := by simp [diffs]
theorem diffs_take (p : Pattern) (k : Nat) (h : k < p.seams.length) : (diffs p).take (k + 1) = (diffs p).take k ++ [diffOf p p.seams[k]] := by
  rw [List.take_succ_eq_append_getElem (by rw [diffs_length]; exact h)]; simp [diffs]
theorem PatV.of {w : World} {b : Nat} {pa : Option Addr} {pc : Nat} {sa : Option Addr} {sc : Nat} {p : Pattern} (V : Var w b [.slice pa p.pieces.length pc, .slice sa p.seams.length sc, .int .i64 p.openings]) (hL : LieP w pa sa p) : PatV w b pa pc sa sc p :=
  ⟨V.cell 0 _ rfl, V.cell 1 _ rfl, V.cell 2 _ rfl, hL⟩
theorem own_ne {α : Type} [Flat α] {B b : Nat} {w : World} {e : TypeId} {v : Value} {xs : List α} (h : Own B w e v xs) (hb : b < B) : some b ≠ v.ownBlock := fun e => by
  have := (h.lt b e.symm).1; omega
/-- A new variable that holds a pattern. -/
theorem patW_new (p : Pattern) (pa : Option Addr) (pc : Nat) (sa : Option Addr) (sc : Nat) (w : World) : ∃ w1, w.alloc (.cells #[.slice pa p.pieces.length pc, .slice sa p.seams.length sc, .int .i64 p.openings] 27) = w1 ∧ Var w1 w.heap.size [.slice pa p.pieces.length pc, .slice sa p.seams.length sc, .int .i64 p.openings] ∧ w1.heap.size = w.heap.size + 1 ∧ Below w.heap.size w w1 :=
  ⟨_, rfl, Var.new3 _ _ _ _ _, by simp, new_below _ _⟩
def sdOf (p : Pattern) : List Int := if okPattern p then diffs p else []
def sdCode (p : Pattern) : Int := if okPattern p then 0 else 1
theorem SeamDifferences_len (p : Pattern) : (sdOf p).length ≤ totPattern p := by
  unfold sdOf; split
  · rw [diffs_length]; unfold totPattern; omega
  · simp
end Go.Proofs.YtlmhiocmldhkhaaGreatDoor
