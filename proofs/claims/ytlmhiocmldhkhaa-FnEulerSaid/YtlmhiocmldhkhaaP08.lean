/- Chapter 8, patterns: pieces and patterns, how they lie in memory, and the law's own functions on them. -/
import Derived.Test.YtlmhiocmldhkhaaSeam
import Derived.Test.YtlmhiocmldhkhaaInts
import Derived.Test.YtlmhiocmldhkhaaSmall
namespace Go.Proofs.Ytlmhiocmldhkhaa
open Go.RowKit

theorem grown_by {w w' : World} (hb : Below w.heap.size w w') (row : Option Nat) : w.grownBy w' row := ⟨hb.os, hb.tape, hb.output, hb.size, fun k hk _ => hb.block k hk⟩
structure Piece where
  name : ByteArray
  edges : List Int
deriving DecidableEq
instance : Rep Piece where
  k := 2
  pos := by decide
  rep w x cs := ∃ a c, cs = [.string x.name, .slice a x.edges.length c] ∧ At w a x.edges
  ok x := x.name.size ≤ 9223372036854775807 ∧ x.edges.length ≤ 9223372036854775807
  len h := by obtain ⟨a, c, h, _⟩ := h; rw [h]; rfl
  below hb h := by obtain ⟨a, c, h, h2⟩ := h; exact ⟨a, c, h, h2.below hb⟩
theorem At.piece {w : World} {b off : Nat} {ps : List Piece} (h : At w (some ⟨b, off, none⟩) ps) {i : Nat} (hi : i < ps.length) :
    ∃ a c, w.cell? ⟨b, off + i * 2, none⟩ = some (.string ps[i].name) ∧ w.cell? ⟨b, off + i * 2 + 1, none⟩ = some (.slice a ps[i].edges.length c) ∧ At w a ps[i].edges := by
  obtain ⟨cs, ⟨a, c, rfl, hA⟩, hc⟩ := h.elem hi
  have h0 := hc 0 _ rfl
  have h1 := hc 1 _ rfl
  exact ⟨a, c, by simpa [Rep.k] using h0, by simpa [Rep.k] using h1, hA⟩
structure Pattern where
  pieces : List Piece
  seams : List Seam
  openings : Int
deriving DecidableEq
/-- A pattern's lists lie behind two addresses. -/
structure LieP (w : World) (pa sa : Option Addr) (p : Pattern) : Prop where
  pieces : At w pa p.pieces
  seams : At w sa p.seams
theorem LieP.below {w w' : World} {pa sa : Option Addr} {p : Pattern} (h : LieP w pa sa p) (hb : Below w.heap.size w w') : LieP w' pa sa p := ⟨h.pieces.below hb, h.seams.below hb⟩
def sumN {α : Type} (f : α → Nat) (xs : List α) : Nat := xs.foldr (fun x s => f x + s) 0
theorem sumN_take {α : Type} (f : α → Nat) : ∀ (xs : List α) (k : Nat) (h : k < xs.length), sumN f (xs.take (k + 1)) = sumN f (xs.take k) + f xs[k]
  | [], k, h => by simp at h
  | x :: xs, 0, _ => by simp [sumN]
  | x :: xs, k + 1, h => by
    have := sumN_take f xs k (by simpa using h)
    simp only [List.take_succ_cons, sumN, List.foldr_cons, List.getElem_cons_succ] at this ⊢
    rw [this]; omega
theorem sumN_le {α : Type} (f : α → Nat) : ∀ (xs : List α) (k : Nat), sumN f (xs.take k) ≤ sumN f xs
  | [], k => by simp
  | x :: xs, 0 => by simp [sumN]
  | x :: xs, k + 1 => by
    have := sumN_le f xs k
    simp only [List.take_succ_cons, sumN, List.foldr_cons] at this ⊢; omega
theorem sumN_mem {α : Type} (f : α → Nat) : ∀ (xs : List α) (i : Nat) (h : i < xs.length), f xs[i] ≤ sumN f xs
  | [], i, h => by simp at h
  | x :: xs, 0, _ => by simp only [sumN, List.foldr_cons, List.getElem_cons_zero]; omega
  | x :: xs, i + 1, h => by
    have := sumN_mem f xs i (by simpa using h)
    simp only [sumN, List.foldr_cons, List.getElem_cons_succ] at this ⊢; omega
/-- How large a piece is, a pattern. -/
def totPiece (x : Piece) : Nat := x.name.size + x.edges.length
def totPieces (ps : List Piece) : Nat := ps.length + sumN totPiece ps
def totPattern (p : Pattern) : Nat := totPieces p.pieces + p.seams.length
/-- What is left of a bound. -/
def leftOf (n : Nat) (l : Int) : Int := if (n : Int) ≤ l then l - n else -1
theorem leftOf_lo {n : Nat} {l : Int} : -1 ≤ leftOf n l := by unfold leftOf; split <;> omega
theorem leftOf_hi {n : Nat} {l : Int} (h : 0 ≤ l) : leftOf n l ≤ l := by unfold leftOf; split <;> omega
theorem leftOf_add {n m : Nat} {l : Int} : leftOf (n + m) l = if leftOf n l < 0 then -1 else leftOf m (leftOf n l) := by
  unfold leftOf; repeat' split
  all_goals omega
theorem leftOf_neg {n : Nat} {l : Int} (_h : 0 ≤ l) : leftOf n l < 0 ↔ l < n := by unfold leftOf; split <;> omega
theorem leftOf_stay {n m : Nat} {l : Int} (h : leftOf n l < 0) (hm : n ≤ m) : leftOf m l = -1 := by
  unfold leftOf at *; split <;> split at h <;> omega
theorem szInt64S_any (a : Option Addr) (n c : Nat) (l : Int) (w : World) (hn : n ≤ 9223372036854775807) (h0 : 0 ≤ l) (hl : l ≤ 1048576) :
    Calls Try.prog 89 #[.slice a n c, .int .i64 l] w fun e w' => e = .returned (.int .i64 (leftOf n l)) ∧ Below w.heap.size w w' := by
  by_cases h : (n : Int) ≤ l
  · have e : leftOf n l = l - n := by simp [leftOf, h]
    rw [e]; exact szInt64S_ok a n c l w h hl
  · have e : leftOf n l = -1 := by simp [leftOf, h]
    rw [e]; exact szInt64S_no a n c l w hn (by omega) h0
theorem szSeamS_any (a : Option Addr) (n c : Nat) (l : Int) (w : World) (hn : n ≤ 9223372036854775807) (h0 : 0 ≤ l) (hl : l ≤ 1048576) :
    Calls Try.prog 27 #[.slice a n c, .int .i64 l] w fun e w' => e = .returned (.int .i64 (leftOf n l)) ∧ Below w.heap.size w w' := by
  by_cases h : (n : Int) ≤ l
  · have e : leftOf n l = l - n := by simp [leftOf, h]
    rw [e]; exact szSeamS_ok a n c l w h hl
  · have e : leftOf n l = -1 := by simp [leftOf, h]
    rw [e]; exact szSeamS_no a n c l w hn (by omega) h0
theorem szPiece_any (x : Piece) (a : Option Addr) (c : Nat) (l : Int) (w : World) (hx : Rep.ok x) (h0 : 0 ≤ l) (hl : l ≤ 1048576) :
    Calls Try.prog 58 #[.agg #[.string x.name, .slice a x.edges.length c], .int .i64 l] w fun e w' => e = .returned (.int .i64 (leftOf (totPiece x) l)) ∧ Below w.heap.size w w' := by
  obtain ⟨hx1, hx2⟩ := hx
  have ea : leftOf (totPiece x) l = if leftOf x.name.size l < 0 then -1 else leftOf x.edges.length (leftOf x.name.size l) := leftOf_add
  have hb : Below w.heap.size w (w.alloc (.cells #[.string x.name, .slice a x.edges.length c] 87)) := (Below.refl _ _).alloc (Nat.le_refl _) _
  by_cases h1 : l < x.name.size
  · rw [ea, if_pos ((leftOf_neg h0).2 h1)]
    have h1' : l - (x.name.size : Int) < 0 := by omega
    clear ea
    go_enter Try.func58, Try.ntmps58
    go_wp2
    go_ret
    exact ⟨rfl, hb⟩
  · have e1 : leftOf x.name.size l = l - x.name.size := by unfold leftOf; rw [if_pos (by omega)]
    rw [ea, e1, if_neg (by omega)]
    have h1' : ¬ l - (x.name.size : Int) < 0 := by omega
    have L := leftOf_lo (n := x.edges.length) (l := l - x.name.size)
    clear ea e1
    by_cases h2 : leftOf x.edges.length (l - x.name.size) < 0
    · have e2 : leftOf x.edges.length (l - x.name.size) = -1 := by omega
      rw [e2]
      go_enter Try.func58, Try.ntmps58
      go_wp2_with fail
      refine (szInt64S_any _ _ _ _ _ hx2 (by omega) (by omega)).mono ?_
      rintro e w2 ⟨rfl, hb2⟩
      rw [e2]
      replace hb := upw hb hb2
      go_wp2_with fail
      go_ret
      exact ⟨rfl, hb⟩
    · go_enter Try.func58, Try.ntmps58
      go_wp2_with fail
      refine (szInt64S_any _ _ _ _ _ hx2 (by omega) (by omega)).mono ?_
      rintro e w2 ⟨rfl, hb2⟩
      replace hb := upw hb hb2
      go_wp2_with fail
      go_ret
      exact ⟨rfl, hb⟩
set_option maxHeartbeats 800000 in
theorem szPieceS_any (a : Option Addr) (ps : List Piece) (c : Nat) (l : Int) (w : World) (hx : At w a ps) (hn : ps.length ≤ 9223372036854775807) (hok : ∀ x ∈ ps, Rep.ok x) (h0 : 0 ≤ l) (hl : l ≤ 1048576) :
    Calls Try.prog 26 #[.slice a ps.length c, .int .i64 l] w fun e w' => e = .returned (.int .i64 (leftOf (totPieces ps) l)) ∧ Below w.heap.size w w' := by
  by_cases h1 : l < ps.length
  · have e1 : leftOf (totPieces ps) l = -1 := by unfold leftOf totPieces; rw [if_neg (by omega)]
    rw [e1]
    have h1' : l - (ps.length : Int) < 0 := by omega
    go_enter Try.func26, Try.ntmps26
    go_wp2
    go_ret
    exact ⟨rfl, Below.refl _ _⟩
  · have h1' : ¬ l - (ps.length : Int) < 0 := by omega
    replace hok := Lib.hid hok
    go_enter Try.func26, Try.ntmps26
    go_wp2_with fail
    go_loopw [1, 5] (fun s i wr => ∃ k : Nat, k ≤ ps.length ∧ i = .int .i64 k ∧ s = .int .i64 (leftOf (ps.length + sumN totPiece (ps.take k)) l) ∧ 0 ≤ leftOf (ps.length + sumN totPiece (ps.take k)) l ∧ Below w.heap.size w wr) (fun _ i _ => ps.length - (intOf i).toNat)
    case atStart => exact ⟨0, Nat.zero_le _, rfl, by simp only [List.take_zero, sumN, List.foldr_nil, Nat.add_zero]; unfold leftOf; rw [if_pos (by omega)], by simp only [List.take_zero, sumN, List.foldr_nil, Nat.add_zero]; unfold leftOf; rw [if_pos (by omega)]; omega, Below.refl _ _⟩
    case round =>
      obtain ⟨k, hk, rfl, rfl, hnn, hb⟩ := hrel
      replace hx := hx.below hb
      have hhi := leftOf_hi (n := ps.length + sumN totPiece (ps.take k)) h0
      by_cases hlt : k < ps.length
      · obtain ⟨b, off, rfl⟩ := hx.addr hlt
        have hbl := hx.lt hlt
        obtain ⟨ea, ec, c0, c1, hA⟩ := hx.piece hlt
        have hx1 := hok.out ps[k] (List.getElem_mem hlt)
        have ea : leftOf (ps.length + sumN totPiece (ps.take (k + 1))) l = leftOf (totPiece ps[k]) (leftOf (ps.length + sumN totPiece (ps.take k)) l) := by
          rw [sumN_take _ _ _ hlt, ← Nat.add_assoc, leftOf_add, if_neg (by omega)]
        have L := leftOf_lo (n := totPiece ps[k]) (l := leftOf (ps.length + sumN totPiece (ps.take k)) l)
        replace ea := Lib.hid ea
        by_cases h2 : leftOf (totPiece ps[k]) (leftOf (ps.length + sumN totPiece (ps.take k)) l) < 0
        · have e2 : leftOf (totPieces ps) l = -1 := leftOf_stay (n := ps.length + sumN totPiece (ps.take (k + 1))) (by rw [ea.out]; exact h2) (by unfold totPieces; have := sumN_le totPiece ps (k + 1); omega)
          replace e2 := Lib.hid e2
          go_wp2_with fail
          refine (szPiece_any _ _ _ _ _ hx1 (by omega) (by omega)).mono ?_
          rintro e w2 ⟨rfl, hb2⟩
          replace hb := upw hb hb2
          go_wp2_with fail
          go_ret
          exact ⟨ret_int e2.out.symm, hb⟩
        · go_wp2_with fail
          refine (szPiece_any _ _ _ _ _ hx1 (by omega) (by omega)).mono ?_
          rintro e w2 ⟨rfl, hb2⟩
          replace hb := upw hb hb2
          go_wp2_with fail
          go_roundw
          case rel => exact ⟨k + 1, by omega, by go_num, by rw [ea.out], by rw [ea.out]; omega, hb⟩
          case measure => simp [intOf]; omega
      · obtain rfl : k = ps.length := by omega
        rw [List.take_length]
        go_wp2_with fail
        go_ret
        exact ⟨rfl, hb⟩
theorem szPattern_any (p : Pattern) (pa : Option Addr) (pc : Nat) (sa : Option Addr) (sc : Nat) (l : Int) (w : World) (hp : LieP w pa sa p) (hn : p.pieces.length ≤ 9223372036854775807) (hs : p.seams.length ≤ 9223372036854775807) (hok : ∀ x ∈ p.pieces, Rep.ok x) (h0 : 0 ≤ l) (hl : l ≤ 1048576) :
    Calls Try.prog 6 #[.agg #[.slice pa p.pieces.length pc, .slice sa p.seams.length sc, .int .i64 p.openings], .int .i64 l] w fun e w' => e = .returned (.int .i64 (leftOf (totPattern p) l)) ∧ Below w.heap.size w w' := by
  have ea : leftOf (totPattern p) l = if leftOf (totPieces p.pieces) l < 0 then -1 else leftOf p.seams.length (leftOf (totPieces p.pieces) l) := leftOf_add
  have L1 := leftOf_lo (n := totPieces p.pieces) (l := l)
  have L2 := leftOf_hi (n := totPieces p.pieces) h0
  have L3 := leftOf_lo (n := p.seams.length) (l := leftOf (totPieces p.pieces) l)
  obtain ⟨w1, hw1⟩ : ∃ w1, w1 = w.alloc (.cells #[.slice pa p.pieces.length pc, .slice sa p.seams.length sc, .int .i64 p.openings] 25) := ⟨_, rfl⟩
  have hb : Below w.heap.size w w1 := by rw [hw1]; exact (Below.refl _ _).alloc (Nat.le_refl _) _
  have c1 : w1.cell? ⟨w.heap.size, 1, none⟩ = some (.slice sa p.seams.length sc) := by rw [hw1]; go_simp
  replace hw1 := Lib.hid hw1
  by_cases h1 : leftOf (totPieces p.pieces) l < 0
  · rw [ea, if_pos h1]
    clear ea
    go_enter Try.func6, Try.ntmps6
    go_wp2_with fail
    rw [← hw1.out]
    refine (szPieceS_any _ _ _ _ _ (hp.pieces.below hb) hn hok h0 hl).mono ?_
    rintro e w2 ⟨rfl, hb2⟩
    replace hb := upw hb hb2
    go_wp2_with fail
    go_ret
    exact ⟨rfl, hb⟩
  · rw [ea, if_neg h1]
    clear ea
    by_cases h2 : leftOf p.seams.length (leftOf (totPieces p.pieces) l) < 0
    · have e2 : leftOf p.seams.length (leftOf (totPieces p.pieces) l) = -1 := by omega
      rw [e2]
      replace e2 := Lib.hid e2
      go_enter Try.func6, Try.ntmps6
      go_wp2_with fail
      rw [← hw1.out]
      refine (szPieceS_any _ _ _ _ _ (hp.pieces.below hb) hn hok h0 hl).mono ?_
      rintro e w2 ⟨rfl, hb2⟩
      have d1 : w2.cell? ⟨w.heap.size, 1, none⟩ = some (.slice sa p.seams.length sc) := kept_cell c1 hb2
      replace hb := upw hb hb2
      go_wp2_with fail
      refine (szSeamS_any _ _ _ _ _ hs (by omega) (by omega)).mono ?_
      rintro e w3 ⟨rfl, hb3⟩
      replace hb := upw hb hb3
      go_wp2_with fail
      go_ret
      exact ⟨rfl, hb⟩
    · go_enter Try.func6, Try.ntmps6
      go_wp2_with fail
      rw [← hw1.out]
      refine (szPieceS_any _ _ _ _ _ (hp.pieces.below hb) hn hok h0 hl).mono ?_
      rintro e w2 ⟨rfl, hb2⟩
      have d1 : w2.cell? ⟨w.heap.size, 1, none⟩ = some (.slice sa p.seams.length sc) := kept_cell c1 hb2
      replace hb := upw hb hb2
      go_wp2_with fail
      refine (szSeamS_any _ _ _ _ _ hs (by omega) (by omega)).mono ?_
      rintro e w3 ⟨rfl, hb3⟩
      replace hb := upw hb hb3
      go_wp2_with fail
      go_ret
      exact ⟨rfl, hb⟩
end Go.Proofs.Ytlmhiocmldhkhaa
