/- Chapter 8, patterns: the law's own copies of patterns, and its comparisons. -/
import Derived.Test.YtlmhiocmldhkhaaGreatDoorP08
import Derived.Deep.Heap
namespace Go.Proofs.YtlmhiocmldhkhaaGreatDoor
open Go.RowKit

/-- A piece as it lies in a row: its name, and where its edges lie. -/
structure RawP where
  name : ByteArray
  a : Option Addr
  n : Nat
  c : Nat
instance : Flat RawP := ⟨2, by decide, fun x => [.string x.name, .slice x.a x.n x.c], fun _ => rfl, fun x u h => by simp at h; rcases h with h | h <;> subst h <;> rfl, fun _ => True⟩
theorem Own.held {α : Type} [Flat α] {B : Nat} {w w' : World} {e : TypeId} {v : Value} {xs : List α} (h : Own B w e v xs) (_hs : w.heap.size ≤ w'.heap.size) (hk : ∀ k, v.ownBlock = some k → w'.heap[k]? = w.heap[k]?) : Own B w' e v xs := by
  refine ⟨h.1, ?_⟩
  rcases h.2 with h2 | ⟨g, cap, cur, rfl, hb, hg, h4⟩
  · exact Or.inl h2
  · exact Or.inr ⟨g, cap, cur, rfl, hb, by rw [hk g rfl]; exact hg, h4⟩
theorem Own.past {α : Type} [Flat α] {B G : Nat} {w w' : World} {e : TypeId} {v : Value} {xs : List α} (h : Own B w e v xs) (hg : w.grownBy w' (some G)) (hB : G < B) : Own B w' e v xs :=
  h.kept hg (by
    cases hv : v.ownBlock with
    | none => exact Or.inl rfl
    | some k => exact Or.inr (by have := (h.lt k hv).1; simp; omega))
/-- What the call owns of a piece, of pieces, of a pattern. -/
structure OwnPiece (B : Nat) (w : World) (r : RawP) (x : Piece) : Prop where
  name : r.name = x.name
  len : r.n = x.edges.length
  own : Own B w 2 (.slice r.a r.n r.c) x.edges
theorem OwnPiece.later {B : Nat} {w w' : World} {r : RawP} {x : Piece} (h : OwnPiece B w r x) (hb : Below w.heap.size w w') : OwnPiece B w' r x := ⟨h.name, h.len, h.own.later hb⟩
theorem OwnPiece.base {B B' : Nat} {w : World} {r : RawP} {x : Piece} (h : OwnPiece B w r x) (hB : B' ≤ B) : OwnPiece B' w r x := ⟨h.name, h.len, h.own.base hB⟩
/-- Two rows lie in two blocks. -/
def Apart (a b : Option Nat) : Prop := a = none ∨ a ≠ b
theorem Apart.symm {a b : Option Nat} (h : Apart a b) : Apart b a := by
  rcases h with rfl | h
  · cases b with
    | none => exact Or.inl rfl
    | some k => exact Or.inr (by simp)
  · exact Or.inr fun e => h e.symm
def blk (r : RawP) : Option Nat := (Value.slice r.a r.n r.c).ownBlock
structure OwnPieces (B : Nat) (w : World) (rs : List RawP) (ps : List Piece) : Prop where
  len : rs.length = ps.length
  apart : ∀ i j (hi : i < rs.length) (hj : j < rs.length), i ≠ j → Apart (blk rs[i]) (blk rs[j])
  each : ∀ i (h1 : i < rs.length) (h2 : i < ps.length), OwnPiece B w rs[i] ps[i]
theorem OwnPieces.later {B : Nat} {w w' : World} {rs : List RawP} {ps : List Piece} (h : OwnPieces B w rs ps) (hb : Below w.heap.size w w') : OwnPieces B w' rs ps := ⟨h.len, h.apart, fun i h1 h2 => (h.each i h1 h2).later hb⟩
theorem OwnPieces.base {B B' : Nat} {w : World} {rs : List RawP} {ps : List Piece} (h : OwnPieces B w rs ps) (hB : B' ≤ B) : OwnPieces B' w rs ps := ⟨h.len, h.apart, fun i h1 h2 => (h.each i h1 h2).base hB⟩
theorem OwnPieces.at {B : Nat} {w : World} {rs : List RawP} {ps : List Piece} {a : Option Addr} (h : OwnPieces B w rs ps) (hA : At w a rs) : At w a ps := by
  by_cases h0 : ps = []
  · exact Or.inl h0
  · rcases hA with h1 | ⟨b, off, rfl, hlt, hc⟩
    · subst h1
      exact Or.inl (List.eq_nil_of_length_eq_zero h.len.symm)
    · refine Or.inr ⟨b, off, rfl, hlt, fun i hi => ?_⟩
      have hr : i < rs.length := by rw [h.len]; exact hi
      obtain ⟨cs, he, hcell⟩ := hc i hr
      have hp := h.each i hr hi
      refine ⟨cs, ⟨rs[i].a, rs[i].c, ?_, hp.own.at_n⟩, hcell⟩
      rw [← hp.name, ← hp.len]; exact he
structure OwnPat (B : Nat) (w : World) (pa : Option Addr) (pc : Nat) (sa : Option Addr) (sc : Nat) (rs : List RawP) (p : Pattern) : Prop where
  row : Own B w 36 (.slice pa p.pieces.length pc) rs
  pieces : OwnPieces B w rs p.pieces
  seams : Own B w 46 (.slice sa p.seams.length sc) p.seams
  far : ∀ r ∈ rs, Apart (blk r) (Value.slice pa p.pieces.length pc).ownBlock ∧ Apart (blk r) (Value.slice sa p.seams.length sc).ownBlock
  two : Apart (Value.slice sa p.seams.length sc).ownBlock (Value.slice pa p.pieces.length pc).ownBlock
theorem OwnPat.later {B : Nat} {w w' : World} {pa : Option Addr} {pc : Nat} {sa : Option Addr} {sc : Nat} {rs : List RawP} {p : Pattern} (h : OwnPat B w pa pc sa sc rs p) (hb : Below w.heap.size w w') : OwnPat B w' pa pc sa sc rs p :=
  ⟨h.row.later hb, h.pieces.later hb, h.seams.later hb, h.far, h.two⟩
theorem OwnPat.base {B B' : Nat} {w : World} {pa : Option Addr} {pc : Nat} {sa : Option Addr} {sc : Nat} {rs : List RawP} {p : Pattern} (h : OwnPat B w pa pc sa sc rs p) (hB : B' ≤ B) : OwnPat B' w pa pc sa sc rs p :=
  ⟨h.row.base hB, h.pieces.base hB, h.seams.base hB, h.far, h.two⟩
theorem OwnPat.lie {B : Nat} {w : World} {pa : Option Addr} {pc : Nat} {sa : Option Addr} {sc : Nat} {rs : List RawP} {p : Pattern} (h : OwnPat B w pa pc sa sc rs p) : LieP w pa sa p :=
  ⟨h.pieces.at h.row.at_n, h.seams.at_n⟩
/-- A variable's cells. -/
structure Var (w : World) (b : Nat) (cs : List Value) : Prop where
  cell : ∀ j v, cs[j]? = some v → w.cell? ⟨b, j, none⟩ = some v
  free : ∀ j v, cs[j]? = some v → w.frozen? ⟨b, j, none⟩ = false
theorem Var.below {w w' : World} {b : Nat} {cs : List Value} (h : Var w b cs) (hb : Below w.heap.size w w') : Var w' b cs :=
  ⟨fun j v hv => kept_cell (h.cell j v hv) hb, fun j v hv => by
    rw [hb.frozen (p := ⟨b, j, none⟩) (block_lt_of_cell (h.cell j v hv))]; exact h.free j v hv⟩
theorem Var.grown {w w' : World} {b : Nat} {row : Option Nat} {cs : List Value} (h : Var w b cs) (hg : w.grownBy w' row) (hne : some b ≠ row) : Var w' b cs := by
  refine ⟨fun j v hv => hg.cell (h.cell j v hv) hne, fun j v hv => ?_⟩
  have e : w'.heap[b]? = w.heap[b]? := hg.block b (block_lt_of_cell (h.cell j v hv)) hne
  rw [← h.free j v hv]; unfold World.frozen?; rw [e]
theorem Var.set {w : World} {b : Nat} {cs : List Value} (h : Var w b cs) (j : Nat) (v : Value) (hj : j < cs.length) : Var (w.setCell ⟨b, j, none⟩ v) b (cs.set j v) := by
  obtain ⟨u, hu⟩ : ∃ u, cs[j]? = some u := ⟨_, List.getElem?_eq_getElem hj⟩
  have hcj := h.cell j u hu
  refine ⟨fun i x hx => ?_, fun i x hx => ?_⟩
  · by_cases hij : j = i
    · subst hij
      rw [List.getElem?_set_self hj] at hx
      cases hx
      go_simp
    · rw [List.getElem?_set_ne hij] at hx
      have hci := h.cell i x hx
      have hij' : i ≠ j := fun e => hij e.symm
      go_simp
  · obtain ⟨y, hy⟩ : ∃ y, cs[i]? = some y := by
      have : i < (cs.set j v).length := (List.getElem?_eq_some_iff.1 hx).1
      rw [List.length_set] at this
      exact ⟨_, List.getElem?_eq_getElem this⟩
    have hfi := h.free i y hy
    go_simp
theorem Var.new1 (w : World) (a : Value) (t : TypeId) : Var (w.alloc (.cells #[a] t)) w.heap.size [a] := by
  constructor
  · intro j v h
    rcases j with _ | j
    · simp at h; subst h; go_simp
    · simp at h
  · intro j v h
    rcases j with _ | j
    · go_simp
    · simp at h
theorem Var.new2 (w : World) (a b : Value) (t : TypeId) : Var (w.alloc (.cells #[a, b] t)) w.heap.size [a, b] := by
  constructor
  · intro j v h
    rcases j with _ | _ | j
    · simp at h; subst h; go_simp
    · simp at h; subst h; go_simp
    · simp at h
  · intro j v h
    rcases j with _ | _ | j
    · go_simp
    · go_simp
    · simp at h
theorem Var.new3 (w : World) (a b c : Value) (t : TypeId) : Var (w.alloc (.cells #[a, b, c] t)) w.heap.size [a, b, c] := by
  constructor
  · intro j v h
    rcases j with _ | _ | _ | j
    · simp at h; subst h; go_simp
    · simp at h; subst h; go_simp
    · simp at h; subst h; go_simp
    · simp at h
  · intro j v h
    rcases j with _ | _ | _ | j
    · go_simp
    · go_simp
    · go_simp
    · simp at h
theorem Var.new4 (w : World) (a b c d : Value) (t : TypeId) : Var (w.alloc (.cells #[a, b, c, d] t)) w.heap.size [a, b, c, d] := by
  constructor
  · intro j v h
    rcases j with _ | _ | _ | _ | j
    · simp at h; subst h; go_simp
    · simp at h; subst h; go_simp
    · simp at h; subst h; go_simp
    · simp at h; subst h; go_simp
    · simp at h
  · intro j v h
    rcases j with _ | _ | _ | _ | j
    · go_simp
    · go_simp
    · go_simp
    · go_simp
    · simp at h
theorem grown_setCell (w : World) (a : Addr) (v : Value) : w.grownBy (w.setCell a v) (some a.block) :=
  ⟨rfl, rfl, rfl, by simp, fun k _ hk => Go.Deep.blk_setCell_other w a v k (fun e => hk (by rw [e]))⟩
theorem some_ne {a b : Nat} (h : a ≠ b) : some a ≠ some b := fun e => h (Option.some.inj e)
theorem new_below (w : World) (o : Obj) : Below w.heap.size w (w.alloc o) := (Below.refl _ _).alloc (Nat.le_refl _) _
theorem infoPiece : (Tryz.prog.info? 36).map (fun i => (i.zero, i.size, i.bytes)) = some (some (.agg #[.string ⟨#[]⟩, .slice none 0 0]), 2, 40) := by kernel_rfl
end Go.Proofs.YtlmhiocmldhkhaaGreatDoor
