/- Chapter 8, patterns: pieces and patterns, how they lie in memory, and the law's own functions on them. -/
import Derived.Test.YtlmhiocmldhkhaaGreatDoorSeam
import Derived.Test.YtlmhiocmldhkhaaGreatDoorInts
import Derived.Test.YtlmhiocmldhkhaaGreatDoorSmall
namespace Go.Proofs.YtlmhiocmldhkhaaGreatDoor
open Go.RowKit

theorem grown_by {w w' : World} (hb : Below w.heap.size w w') (row : Option Nat) : w.grownBy w' row := ⟨hb.os, hb.tape, hb.output, hb.size, fun k hk _ => hb.block k hk⟩
structure Piece where
  name : ByteArray
  edges : List Int
deriving DecidableEq
instance : Rep Piece where
  k := 2
  pos := by decide
  rep w x cs := ∃ a c, cs = [.string x.name, .slice a x.edges.length c] ∧ At w a x.edges
  ok x := x.name.size ≤ 9223372036854775807 ∧ x.edges.length ≤ 9223372036854775807
  len h := by obtain ⟨a, c, h, _⟩ := h; rw [h]; rfl
  below hb h := by obtain ⟨a, c, h, h2⟩ := h; exact ⟨a, c, h, h2.below hb⟩
theorem At.piece {w : World} {b off : Nat} {ps : List Piece} (h : At w (some ⟨b, off, none⟩) ps) {i : Nat} (hi : i < ps.length) :
    ∃ a c, w.cell? ⟨b, off + i * 2, none⟩ = some (.string ps[i].name) ∧ w.cell? ⟨b, off + i * 2 + 1, none⟩ = some (.slice a ps[i].edges.length c) ∧ At w a ps[i].edges := by
  obtain ⟨cs, ⟨a, c, rfl, hA⟩, hc⟩ := h.elem hi
  have h0 := hc 0 _ rfl
  have h1 := hc 1 _ rfl
  exact ⟨a, c, by simpa [Rep.k] using h0, by simpa [Rep.k] using h1, hA⟩
structure Pattern where
  pieces : List Piece
  seams : List Seam
  openings : Int
deriving DecidableEq
/-- A pattern's lists lie behind two addresses. -/
structure LieP (w : World) (pa sa : Option Addr) (p : Pattern) : Prop where
  pieces : At w pa p.pieces
  seams : At w sa p.seams
theorem LieP.below {w w' : World} {pa sa : Option Addr} {p : Pattern} (h : LieP w pa sa p) (hb : Below w.heap.size w w') : LieP w' pa sa p := ⟨h.pieces.below hb, h.seams.below hb⟩
def sumN {α : Type} (f : α → Nat) (xs : List α) : Nat := xs.foldr (fun x s => f x + s) 0
theorem sumN_take {α : Type} (f : α → Nat) : ∀ (xs : List α) (k : Nat) (h : k < xs.length), sumN f (xs.take (k + 1)) = sumN f (xs.take k) + f xs[k]
  | [], k, h => by simp at h
  | x :: xs, 0, _ => by simp [sumN]
  | x :: xs, k + 1, h => by
    have := sumN_take f xs k (by simpa using h)
    simp only [List.take_succ_cons, sumN, List.foldr_cons, List.getElem_cons_succ] at this ⊢
    rw [this]; omega
theorem sumN_le {α : Type} (f : α → Nat) : ∀ (xs : List α) (k : Nat), sumN f (xs.take k) ≤ sumN f xs
  | [], k => by simp
  | x :: xs, 0 => by simp [sumN]
  | x :: xs, k + 1 => by
    have := sumN_le f xs k
    simp only [List.take_succ_cons, sumN, List.foldr_cons] at this ⊢; omega
theorem sumN_mem {α : Type} (f : α → Nat) : ∀ (xs : List α) (i : Nat) (h : i < xs.length), f xs[i] ≤ sumN f xs
  | [], i, h => by simp at h
  | x :: xs, 0, _ => by simp only [sumN, List.foldr_cons, List.getElem_cons_zero]; omega
  | x :: xs, i + 1, h => by
    have := sumN_mem f xs i (by simpa using h)
    simp only [sumN, List.foldr_cons, List.getElem_cons_succ] at this ⊢; omega
/-- How large a piece is, a pattern. -/
def totPiece (x : Piece) : Nat := x.name.size + x.edges.length
def totPieces (ps : List Piece) : Nat := ps.length + sumN totPiece ps
def totPattern (p : Pattern) : Nat := totPieces p.pieces + p.seams.length
/-- What is left of a bound. -/
def leftOf (n : Nat) (l : Int) : Int := if (n : Int) ≤ l then l - n else -1
theorem leftOf_lo {n : Nat} {l : Int} : -1 ≤ leftOf n l := by unfold leftOf; split <;> omega
theorem leftOf_hi {n : Nat} {l : Int} (h : 0 ≤ l) : leftOf n l ≤ l := by unfold leftOf; split <;> omega
theorem leftOf_add {n m : Nat} {l : Int} : leftOf (n + m) l = if leftOf n l < 0 then -1 else leftOf m (leftOf n l) := by
  unfold leftOf; repeat' split
  all_goals omega
theorem leftOf_neg {n : Nat} {l : Int} (_h : 0 ≤ l) : leftOf n l < 0 ↔ l < n := by unfold leftOf; split <;> omega
theorem leftOf_stay {n m : Nat} {l : Int} (h : leftOf n l < 0) (hm : n ≤ m) : leftOf m l = -1 := by
  unfold leftOf at *; split <;> split at h <;> omega
end Go.Proofs.YtlmhiocmldhkhaaGreatDoor
