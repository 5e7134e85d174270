/- Chapter 8, patterns: pieces and patterns, how they lie in memory, and the law's own functions on them. -/
import Derived.Test.YtigaimehlcgobaaDoorSeam
import Derived.Test.YtigaimehlcgobaaDoorInts
import Derived.Test.YtigaimehlcgobaaDoorTailQ
import Derived.Test.YtigaimehlcgobaaDoorBox
namespace Go.Proofs.YtigaimehlcgobaaDoor
open Go.RowKit

theorem grown_by {w w' : World} (hb : Below w.heap.size w w') (row : Option Nat) : w.grownBy w' row := ⟨hb.os, hb.tape, hb.output, hb.size, fun k hk _ => hb.block k hk⟩
structure Piece where
  name : ByteArray
  edges : List Int
deriving DecidableEq
instance : Rep Piece where
  k := 2
  pos := by decide
  rep w x cs := ∃ a c, cs = [.string x.name, .slice a x.edges.length c] ∧ At w a x.edges
  ok x := x.name.size ≤ 9223372036854775807 ∧ x.edges.length ≤ 9223372036854775807
  len h := by obtain ⟨a, c, h, _⟩ := h; rw [h]; rfl
  below hb h := by obtain ⟨a, c, h, h2⟩ := h; exact ⟨a, c, h, h2.below hb⟩
theorem At.piece {w : World} {b off : Nat} {ps : List Piece} (h : At w (some ⟨b, off, none⟩) ps) {i : Nat} (hi : i < ps.length) :
    ∃ a c, w.cell? ⟨b, off + i * 2, none⟩ = some (.string ps[i].name) ∧ w.cell? ⟨b, off + i * 2 + 1, none⟩ = some (.slice a ps[i].edges.length c) ∧ At w a ps[i].edges := by
  obtain ⟨cs, ⟨a, c, rfl, hA⟩, hc⟩ := h.elem hi
  have h0 := hc 0 _ rfl
  have h1 := hc 1 _ rfl
  exact ⟨a, c, by simpa [Rep.k] using h0, by simpa [Rep.k] using h1, hA⟩
structure Pattern where
  pieces : List Piece
  seams : List Seam
  openings : Int
deriving DecidableEq
/-- A pattern's lists lie behind two addresses. -/
structure LieP (w : World) (pa sa : Option Addr) (p : Pattern) : Prop where
  pieces : At w pa p.pieces
  seams : At w sa p.seams
theorem LieP.below {w w' : World} {pa sa : Option Addr} {p : Pattern} (h : LieP w pa sa p) (hb : Below w.heap.size w w') : LieP w' pa sa p := ⟨h.pieces.below hb, h.seams.below hb⟩
def sumN {α : Type} (f : α → Nat) (xs : List α) : Nat := xs.foldr (fun x s => f x + s) 0
theorem sumN_take {α : Type} (f : α → Nat) : ∀ (xs : List α) (k : Nat) (h : k < xs.length), sumN f (xs.take (k + 1)) = sumN f (xs.take k) + f xs[k]
  | [], k, h => by simp at h
  | x :: xs, 0, _ => by simp [sumN]
  | x :: xs, k + 1, h => by
    have := sumN_take f xs k (by simpa using h)
    simp only [List.take_succ_cons, sumN, List.foldr_cons, List.getElem_cons_succ] at this ⊢
    rw [this]; omega
theorem sumN_le {α : Type} (f : α → Nat) : ∀ (xs : List α) (k : Nat), sumN f (xs.take k) ≤ sumN f xs
  | [], k => by simp
  | x :: xs, 0 => by simp [sumN]
  | x :: xs, k + 1 => by
    have := sumN_le f xs k
    simp only [List.take_succ_cons, sumN, List.foldr_cons] at this ⊢; omega
theorem sumN_mem {α : Type} (f : α → Nat) : ∀ (xs : List α) (i : Nat) (h : i < xs.length), f xs[i] ≤ sumN f xs
  | [], i, h => by simp at h
  | x :: xs, 0, _ => by simp only [sumN, List.foldr_cons, List.getElem_cons_zero]; omega
  | x :: xs, i + 1, h => by
    have := sumN_mem f xs i (by simpa using h)
    simp only [sumN, List.foldr_cons, List.getElem_cons_succ] at this ⊢; omega
/-- How large a piece is, a pattern. -/
def totPiece (x : Piece) : Nat := x.name.size + x.edges.length
def totPieces (ps : List Piece) : Nat := ps.length + sumN totPiece ps
def totPattern (p : Pattern) : Nat := totPieces p.pieces + p.seams.length
/-- What is left of a bound. -/
def leftOf (n : Nat) (l : Int) : Int := if (n : Int) ≤ l then l - n else -1
theorem leftOf_lo {n : Nat} {l : Int} : -1 ≤ leftOf n l := by unfold leftOf; split <;> omega
theorem leftOf_hi {n : Nat} {l : Int} (h : 0 ≤ l) : leftOf n l ≤ l := by unfold leftOf; split <;> omega
theorem leftOf_add {n m : Nat} {l : Int} : leftOf (n + m) l = if leftOf n l < 0 then -1 else leftOf m (leftOf n l) := by
  unfold leftOf; repeat' split
  all_goals omega
theorem leftOf_neg {n : Nat} {l : Int} (_h : 0 ≤ l) : leftOf n l < 0 ↔ l < n := by unfold leftOf; split <;> omega
theorem leftOf_stay {n m : Nat} {l : Int} (h : leftOf n l < 0) (hm : n ≤ m) : leftOf m l = -1 := by
  unfold leftOf at *; split <;> split at h <;> omega
theorem szInt64S_any (a : Option Addr) (n c : Nat) (l : Int) (w : World) (hn : n ≤ 9223372036854775807) (h0 : 0 ≤ l) (hl : l ≤ 1048576) :
    Calls Tryd.prog 9 #[.slice a n c, .int .i64 l] w fun e w' => e = .returned (.int .i64 (leftOf n l)) ∧ Below w.heap.size w w' := by
  by_cases h : (n : Int) ≤ l
  · have e : leftOf n l = l - n := by simp [leftOf, h]
    rw [e]; exact szInt64S_ok a n c l w h hl
  · have e : leftOf n l = -1 := by simp [leftOf, h]
    rw [e]; exact szInt64S_no a n c l w hn (by omega) h0
theorem szPiece_any (x : Piece) (a : Option Addr) (c : Nat) (l : Int) (w : World) (hx : Rep.ok x) (h0 : 0 ≤ l) (hl : l ≤ 1048576) :
    Calls Tryd.prog 4 #[.agg #[.string x.name, .slice a x.edges.length c], .int .i64 l] w fun e w' => e = .returned (.int .i64 (leftOf (totPiece x) l)) ∧ Below w.heap.size w w' := by
  obtain ⟨hx1, hx2⟩ := hx
  have ea : leftOf (totPiece x) l = if leftOf x.name.size l < 0 then -1 else leftOf x.edges.length (leftOf x.name.size l) := leftOf_add
  have hb : Below w.heap.size w (w.alloc (.cells #[.string x.name, .slice a x.edges.length c] 24)) := (Below.refl _ _).alloc (Nat.le_refl _) _
  by_cases h1 : l < x.name.size
  · rw [ea, if_pos ((leftOf_neg h0).2 h1)]
    have h1' : l - (x.name.size : Int) < 0 := by omega
    clear ea
    go_enter Tryd.func4, Tryd.ntmps4
    go_wp2
    go_ret
    exact ⟨rfl, hb⟩
  · have e1 : leftOf x.name.size l = l - x.name.size := by unfold leftOf; rw [if_pos (by omega)]
    rw [ea, e1, if_neg (by omega)]
    have h1' : ¬ l - (x.name.size : Int) < 0 := by omega
    have L := leftOf_lo (n := x.edges.length) (l := l - x.name.size)
    clear ea e1
    by_cases h2 : leftOf x.edges.length (l - x.name.size) < 0
    · have e2 : leftOf x.edges.length (l - x.name.size) = -1 := by omega
      rw [e2]
      go_enter Tryd.func4, Tryd.ntmps4
      go_wp2_with fail
      refine (szInt64S_any _ _ _ _ _ hx2 (by omega) (by omega)).mono ?_
      rintro e w2 ⟨rfl, hb2⟩
      rw [e2]
      replace hb := upw hb hb2
      go_wp2_with fail
      go_ret
      exact ⟨rfl, hb⟩
    · go_enter Tryd.func4, Tryd.ntmps4
      go_wp2_with fail
      refine (szInt64S_any _ _ _ _ _ hx2 (by omega) (by omega)).mono ?_
      rintro e w2 ⟨rfl, hb2⟩
      replace hb := upw hb hb2
      go_wp2_with fail
      go_ret
      exact ⟨rfl, hb⟩
end Go.Proofs.YtigaimehlcgobaaDoor
