/- Chapter 8, patterns: what a valid pattern is like. -/
import Derived.Test.YtlmhiocmldhkhaaGreatDoorP08x
import Derived.Test.YtlmhiocmldhkhaaGreatDoorP08y
namespace Go.Proofs.YtlmhiocmldhkhaaGreatDoor
open Go.RowKit

theorem hasEdge_get {p : Pattern} {e : Edge} (h : hasEdge p e = true) : ∃ i j : Nat, e = ⟨i, j⟩ ∧ ∃ hi : i < p.pieces.length, j < (p.pieces[i]).edges.length := by
  obtain ⟨a, b⟩ := e
  simp only [hasEdge, Bool.and_eq_true, inr_true] at h
  obtain ⟨⟨h1, h2⟩, h3, h4⟩ := h
  obtain ⟨i, rfl⟩ := Int.eq_ofNat_of_zero_le h1
  obtain ⟨j, rfl⟩ := Int.eq_ofNat_of_zero_le h3
  have hi : i < p.pieces.length := by omega
  refine ⟨i, j, rfl, hi, ?_⟩
  rw [nEdges_get hi] at h4
  omega
theorem hasEdge_of {p : Pattern} {i j : Nat} (hi : i < p.pieces.length) (hj : j < (p.pieces[i]).edges.length) : hasEdge p ⟨i, j⟩ = true := by
  simp only [hasEdge, Bool.and_eq_true, inr_true, nEdges_get hi]
  omega
/-- What holds of a valid pattern. -/
structure Okp (p : Pattern) : Prop where
  n1 : 1 ≤ p.pieces.length
  n10 : p.pieces.length ≤ 10
  name : ∀ x ∈ p.pieces, isName x.name = true
  len : ∀ x ∈ p.pieces, 3 ≤ x.edges.length ∧ x.edges.length ≤ 8
  edge : ∀ x ∈ p.pieces, ∀ n ∈ x.edges, 1 ≤ n ∧ n ≤ 10000
  seam : ∀ s ∈ p.seams, hasEdge p (endA s) = true ∧ hasEdge p (endB s) = true
  once : (ends p.seams).Nodup
  open_ : 0 ≤ p.openings ∧ p.openings ≤ 100
theorem okp_of {p : Pattern} (h : okPattern p = true) : Okp p := by
  simp only [okPattern, Bool.and_eq_true, inr_true, Bool.not_eq_true', List.any_eq_false, decide_eq_true_eq] at h
  obtain ⟨⟨⟨h1, h2⟩, h3⟩, h4, h5, h6⟩ := h
  have h3' : ∀ x ∈ p.pieces, okPiece x = true := fun x hx => by have := h3 x hx; simpa using this
  have hx : ∀ x ∈ p.pieces, (isName x.name = true ∧ 3 ≤ x.edges.length ∧ x.edges.length ≤ 8) ∧ ∀ n ∈ x.edges, 1 ≤ n ∧ n ≤ 10000 := fun x hx => by
    have := h3' x hx
    simp only [okPiece, Bool.and_eq_true, inr_true, Bool.not_eq_true', outs_false] at this
    exact ⟨⟨this.1.1, by omega, by omega⟩, this.2⟩
  refine ⟨by omega, by omega, fun x h => (hx x h).1.1, fun x h => (hx x h).1.2, fun x h => (hx x h).2, fun s hs => ?_, h5, h6⟩
  have := h4 s hs
  simp only [hasSeam, Bool.not_eq_false, Bool.and_eq_true] at this
  exact this
theorem okp_iff {p : Pattern} : okPattern p = true ↔ Okp p := by
  refine ⟨okp_of, fun h => ?_⟩
  simp only [okPattern, Bool.and_eq_true, inr_true, Bool.not_eq_true', List.any_eq_false, decide_eq_true_eq]
  refine ⟨⟨⟨by have := h.n1; omega, by have := h.n10; omega⟩, fun x hx => ?_⟩, fun s hs => ?_, h.once, h.open_⟩
  · have := h.len x hx
    have h1 : okPiece x = true := by
      simp only [okPiece, Bool.and_eq_true, inr_true, Bool.not_eq_true', outs_false]
      exact ⟨⟨h.name x hx, by omega, by omega⟩, h.edge x hx⟩
    simp [h1]
  · have := h.seam s hs
    have h1 : hasSeam p s = true := by
      show (hasEdge p (endA s) && hasEdge p (endB s)) = true
      rw [this.1, this.2]; rfl
    simp [h1]
/-- The length of an edge. -/
def edgeLen (p : Pattern) (e : Edge) : Int := (p.pieces.getD e.piece.toNat ⟨⟨#[]⟩, []⟩).edges.getD e.number.toNat 0
theorem edgeLen_get {p : Pattern} {i j : Nat} (hi : i < p.pieces.length) (hj : j < (p.pieces[i]).edges.length) : edgeLen p ⟨i, j⟩ = (p.pieces[i]).edges[j] := by
  simp [edgeLen, hi, hj]
theorem edgeLen_in {p : Pattern} (h : Okp p) {e : Edge} (he : hasEdge p e = true) : 1 ≤ edgeLen p e ∧ edgeLen p e ≤ 10000 := by
  obtain ⟨i, j, rfl, hi, hj⟩ := hasEdge_get he
  rw [edgeLen_get hi hj]
  exact h.edge _ (List.getElem_mem _) _ (List.getElem_mem _)
theorem tot_okp {p : Pattern} (hl : totPattern p ≤ 1048576) : p.pieces.length ≤ 1048576 ∧ p.seams.length ≤ 1048576 := by
  constructor
  · unfold totPattern totPieces at hl; omega
  · unfold totPattern at hl; omega
/-- An edge's length, where it lies. -/
theorem LieP.edgeV {w : World} {pa sa : Option Addr} {p : Pattern} (h : LieP w pa sa p) {i j : Nat} (hi : i < p.pieces.length) (hj : j < (p.pieces[i]).edges.length) :
    ∃ b off eb eo ec, pa = some ⟨b, off, none⟩ ∧ b < w.heap.size ∧ w.cell? ⟨b, off + i * 2 + 1, none⟩ = some (.slice (some ⟨eb, eo, none⟩) (p.pieces[i]).edges.length ec) ∧ w.cell? ⟨eb, eo + j, none⟩ = some (.int .i64 (p.pieces[i]).edges[j]) := by
  obtain ⟨b, off, ea, ec, rfl, hbl, hV⟩ := h.pieV hi
  have hA := hV.edges
  obtain ⟨eb, eo, rfl⟩ := hA.addr hj
  exact ⟨b, off, eb, eo, ec, rfl, hbl, hV.c1, hA.int hj⟩
set_option maxRecDepth 100000 in
set_option maxHeartbeats 800000 in
theorem length_c (p : Pattern) (pa : Option Addr) (pc : Nat) (sa : Option Addr) (sc : Nat) (e : Edge) (w : World) (hp : LieP w pa sa p) (ok : Okp p) (he : hasEdge p e = true) :
    Calls Tryz.prog 43 #[.agg #[.slice pa p.pieces.length pc, .slice sa p.seams.length sc, .int .i64 p.openings], .agg #[.int .i64 e.piece, .int .i64 e.number]] w fun en w' => en = .returned (.int .i64 (edgeLen p e)) ∧ Below w.heap.size w w' := by
  have l1 := ok.n10
  obtain ⟨i, j, rfl, hi, hj⟩ := hasEdge_get he
  have l3 := (ok.len _ (List.getElem_mem hi)).2
  rw [edgeLen_get hi hj]
  simp only
  obtain ⟨w1, hw1, hP, hs1, hb1⟩ := patV_new p pa pc sa sc w hp
  obtain ⟨w2, hw2⟩ : ∃ w2, w2 = w1.alloc (.cells #[.int .i64 (i : Int), .int .i64 (j : Int)] 54) := ⟨_, rfl⟩
  have V : Var w2 (w.heap.size + 1) [.int .i64 (i : Int), .int .i64 (j : Int)] := by rw [hw2, ← hs1]; exact Var.new2 _ _ _ _
  have hb2 : Below w1.heap.size w1 w2 := by rw [hw2]; exact new_below _ _
  replace hP := hP.below hb2
  have hb : Below w.heap.size w w2 := upw hb1 hb2
  have d0 := rg (V.cell 0 _ rfl)
  have d1 := rg (V.cell 1 _ rfl)
  have c0 := rg hP.c0
  obtain ⟨b, off, eb, eo, ec, rfl, hbl, h1, h2⟩ := hP.lie.edgeV hi hj
  replace h1 := rg h1
  replace h2 := rg h2
  have HW := Lib.hid (show (w.alloc (.cells #[.slice (some ⟨b, off, none⟩) p.pieces.length pc, .slice sa p.seams.length sc, .int .i64 p.openings] 27)).alloc (.cells #[.int .i64 (i : Int), .int .i64 (j : Int)] 54) = w2 by rw [hw2, hw1])
  clear hw1 hw2 V hb1 hb2 hs1 ok he hp hP
  go_enter Tryz.func43, Tryz.ntmps43
  go_wp2_with fail
  rw [HW.out]
  refine wp_region_quiet_below (by kernel_rfl) (by kernel_rfl) ?_
  repeat (go_big_quiet_step ((fail)))
  refine wpQuiet_nil ?_
  intro w2 hw'
  replace hb := upw hb (grown_of hw')
  clear hw'
  go_wp2_with fail
  go_ret
  exact ⟨rfl, hb⟩
end Go.Proofs.YtlmhiocmldhkhaaGreatDoor
