/- Patterns that are drawn: what changes in an owned pattern. -/
import Derived.Test.YtlmhiocmldhkhaaGreatDoorDrw1
import Derived.Test.YtlmhiocmldhkhaaGreatDoorP08r
namespace Go.Proofs.YtlmhiocmldhkhaaGreatDoor
open Go.RowKit

/-- One piece more. -/
theorem OwnPat.pushPiece2 {B : Nat} {w w1 w2 : World} {pa : Option Addr} {pc : Nat} {sa : Option Addr} {sc : Nat} {rs : List RawP} {p : Pattern} {r : RawP} {x : Piece} {g cap : Nat} (h0 : OwnPat B w pa pc sa sc rs p) (h : OwnPat B w1 pa pc sa sc rs p) (hsz : w.heap.size ≤ w1.heap.size)
    (hz : OwnPiece w.heap.size w1 r x) (hB : B ≤ w.heap.size)
    (hO : Own B w2 36 (.slice (some ⟨g, 0, none⟩) (p.pieces.length + 1) cap) (rs ++ [r])) (hg : w1.grownBy w2 (Value.slice pa p.pieces.length pc).ownBlock) (hl : (Value.slice pa p.pieces.length pc).ownBlock = some g ∨ g = w1.heap.size) :
    OwnPat B w2 (some ⟨g, 0, none⟩) cap sa sc (rs ++ [r]) ⟨p.pieces ++ [x], p.seams, p.openings⟩ := by
  have hlen := h.pieces.len
  have hbz : ∀ k, blk r = some k → w.heap.size ≤ k ∧ k < w1.heap.size := fun k hk => hz.own.lt k hk
  have hbr := h0.rowlt
  have hbv : ∀ k, (Value.slice pa p.pieces.length pc).ownBlock = some k → B ≤ k ∧ k < w.heap.size := fun k hk => h0.row.lt k hk
  have hbs : ∀ k, (Value.slice sa p.seams.length sc).ownBlock = some k → B ≤ k ∧ k < w.heap.size := fun k hk => h0.seams.lt k hk
  have hzv : Apart (blk r) (Value.slice pa p.pieces.length pc).ownBlock := apart_gt (n := w.heap.size) (fun k hk => (hbz k hk).1) (fun k hk => (hbv k hk).2)
  have hzs : Apart (blk r) (Value.slice sa p.seams.length sc).ownBlock := apart_gt (n := w.heap.size) (fun k hk => (hbz k hk).1) (fun k hk => (hbs k hk).2)
  have hg1 : (Value.slice (some ⟨g, 0, none⟩ : Option Addr) (p.pieces.length + 1) cap).ownBlock = some g := rfl
  refine ⟨by simpa using hO, ⟨by simp [hlen], fun i j hi hj hne => ?_, fun i h1 h2 => ?_⟩, h.seams.kept hg h.two, fun q hq => ?_, ?_⟩
  · have key : ∀ i (hi : i < rs.length), Apart (blk rs[i]) (blk r) := fun i hi => apart_lt (n := w.heap.size) (fun k hk => (hbr _ (List.getElem_mem hi) k hk).2) (fun k hk => (hbz k hk).1)
    rw [List.length_append] at hi hj
    simp only [List.length_singleton] at hi hj
    by_cases hir : i < rs.length
    · rw [List.getElem_append_left hir]
      by_cases hjr : j < rs.length
      · rw [List.getElem_append_left hjr]; exact h.pieces.apart i j hir hjr hne
      · rw [List.getElem_append_right (by omega)]; simp only [List.getElem_singleton]; exact key i hir
    · rw [List.getElem_append_right (by omega)]; simp only [List.getElem_singleton]
      rw [List.getElem_append_left (by omega)]
      exact (key j (by omega)).symm
  · rw [List.length_append] at h1
    simp only [List.length_singleton] at h1
    by_cases hir : i < rs.length
    · have := h.pieces.each i hir (by omega)
      have e2 : (p.pieces ++ [x])[i]'h2 = p.pieces[i]'(by omega) := List.getElem_append_left (by omega)
      rw [List.getElem_append_left hir]
      show OwnPiece B w2 rs[i] ((p.pieces ++ [x])[i]'h2)
      rw [e2]
      exact ⟨this.name, this.len, this.own.kept hg (h.far _ (List.getElem_mem hir)).1⟩
    · have e2 : (p.pieces ++ [x])[i]'h2 = x := by rw [List.getElem_append_right (by omega)]; simp
      rw [List.getElem_append_right (by omega)]
      show OwnPiece B w2 _ ((p.pieces ++ [x])[i]'h2)
      rw [e2]
      simp only [List.getElem_singleton]
      exact ⟨hz.name, hz.len, (hz.own.base hB).kept hg hzv⟩
  · have hf : Apart (blk q) (Value.slice pa p.pieces.length pc).ownBlock ∧ Apart (blk q) (Value.slice sa p.seams.length sc).ownBlock ∧ ∀ k, blk q = some k → k < w1.heap.size := by
      rcases List.mem_append.1 hq with hq | hq
      · exact ⟨(h.far q hq).1, (h.far q hq).2, fun k hk => Nat.lt_of_lt_of_le (hbr q hq k hk).2 hsz⟩
      · simp only [List.mem_singleton] at hq
        subst hq
        exact ⟨hzv, hzs, fun k hk => (hbz k hk).2⟩
    refine ⟨?_, hf.2.1⟩
    show Apart (blk q) (some g)
    exact apart_grown hf.1 hl hf.2.2
  · show Apart (Value.slice sa p.seams.length sc).ownBlock (some g)
    exact apart_grown h.two hl (fun k hk => Nat.lt_of_lt_of_le (hbs k hk).2 hsz)
/-- A piece more: the row, and behind it the variable. -/
theorem PatW.pushPiece2 {B : Nat} {w w1 w2 w3 : World} {b : Nat} {pa : Option Addr} {pc : Nat} {sa : Option Addr} {sc : Nat} {rs : List RawP} {p : Pattern} {r : RawP} {x : Piece} {g cap : Nat} (h0 : PatW B w b pa pc sa sc rs p) (h : PatW B w1 b pa pc sa sc rs p) (hsz : w.heap.size ≤ w1.heap.size)
    (hz : OwnPiece w.heap.size w1 r x) (hO : Own B w2 36 (.slice (some ⟨g, 0, none⟩) (p.pieces.length + 1) cap) (rs ++ [r])) (hg : w1.grownBy w2 (Value.slice pa p.pieces.length pc).ownBlock) (hl : (Value.slice pa p.pieces.length pc).ownBlock = some g ∨ g = w1.heap.size)
    (hV : Own B w3 27 (.slice (some ⟨b, 0, none⟩) 3 3) (patC (some ⟨g, 0, none⟩) (p.pieces.length + 1) cap sa p.seams.length sc p.openings)) (hg3 : w2.grownBy w3 (some b)) :
    PatW B w3 b (some ⟨g, 0, none⟩) cap sa sc (rs ++ [r]) ⟨p.pieces ++ [x], p.seams, p.openings⟩ := by
  have hP := h0.pat.pushPiece2 h.pat hsz hz (Nat.le_trans h0.lt.1 (Nat.le_of_lt h0.lt.2)) hO hg hl
  have hlt := h0.lt
  have h1 : ∀ q ∈ rs ++ [r], Apart (blk q) (some b) := fun q hq => by
    rcases List.mem_append.1 hq with hq | hq
    · exact h.f1 q hq
    · simp only [List.mem_singleton] at hq
      subst hq
      exact apart_gt (n := w.heap.size) (fun k hk => (hz.own.lt k hk).1) (fun k hk => by simp at hk; omega)
  have h2 : Apart (some g) (some b) := (apart_grown h.f2.symm hl (fun k hk => by simp at hk; omega)).symm
  exact ⟨hP.kept hg3 h1 h2 h.f3, by simpa using hV, h1, h2, h.f3⟩
/-- An edge gets another length. -/
def setEdge (p : Pattern) (i j : Nat) (v : Int) : Pattern := ⟨p.pieces.set i ⟨(p.pieces.getD i ⟨⟨#[]⟩, []⟩).name, (p.pieces.getD i ⟨⟨#[]⟩, []⟩).edges.set j v⟩, p.seams, p.openings⟩
theorem setEdge_len (p : Pattern) (i j : Nat) (v : Int) : (setEdge p i j v).pieces.length = p.pieces.length := by simp [setEdge]
theorem setEdge_get {p : Pattern} {i j k : Nat} {v : Int} (hk : k < p.pieces.length) (h : k < (setEdge p i j v).pieces.length) : (setEdge p i j v).pieces[k] = if k = i then ⟨p.pieces[k].name, p.pieces[k].edges.set j v⟩ else p.pieces[k] := by
  show (p.pieces.set i _)[k]'(by simpa [setEdge] using h) = _
  rw [List.getElem_set]
  by_cases hki : k = i
  · subst hki; simp [hk]
  · rw [if_neg (fun e => hki e.symm), if_neg hki]
theorem OwnPat.setEdge {B : Nat} {w w' : World} {pa : Option Addr} {pc : Nat} {sa : Option Addr} {sc : Nat} {rs : List RawP} {p : Pattern} (h : OwnPat B w pa pc sa sc rs p) {i j : Nat} {v : Int} (hi : i < p.pieces.length) (hr : i < rs.length)
    (hO : Own B w' 2 (.slice rs[i].a rs[i].n rs[i].c) (p.pieces[i].edges.set j v)) (hg : w.grownBy w' (blk rs[i])) : OwnPat B w' pa pc sa sc rs (setEdge p i j v) := by
  have hm : rs[i] ∈ rs := List.getElem_mem hr
  refine ⟨?_, ⟨?_, h.pieces.apart, fun k a c => ?_⟩, ?_, fun r hr' => ?_, ?_⟩
  · rw [setEdge_len]; exact h.row.kept hg (h.far _ hm).1.symm
  · rw [setEdge_len]; exact h.pieces.len
  · have c' : k < p.pieces.length := by rw [setEdge_len] at c; exact c
    have := h.pieces.each k a c'
    rw [setEdge_get c' c]
    by_cases hki : k = i
    · subst hki
      rw [if_pos rfl]
      exact ⟨this.name, by rw [this.len]; simp, hO⟩
    · rw [if_neg hki]
      exact ⟨this.name, this.len, this.own.kept hg (h.pieces.apart k i a hr hki)⟩
  · exact h.seams.kept hg (h.far _ hm).2.symm
  · rw [setEdge_len]; exact h.far r hr'
  · rw [setEdge_len]; exact h.two
theorem setEdge_edges {p : Pattern} {i j k : Nat} {v : Int} (hk : k < p.pieces.length) (h : k < (Go.Proofs.YtlmhiocmldhkhaaGreatDoor.setEdge p i j v).pieces.length) : (Go.Proofs.YtlmhiocmldhkhaaGreatDoor.setEdge p i j v).pieces[k].edges.length = p.pieces[k].edges.length := by
  rw [setEdge_get hk h]; split <;> simp
theorem setEdge_nEdges (p : Pattern) (i j : Nat) (v : Int) (q : Int) : nEdges (Go.Proofs.YtlmhiocmldhkhaaGreatDoor.setEdge p i j v) q = nEdges p q := by
  unfold nEdges
  by_cases hk : q.toNat < p.pieces.length
  · have h' : q.toNat < (Go.Proofs.YtlmhiocmldhkhaaGreatDoor.setEdge p i j v).pieces.length := by rw [setEdge_len]; exact hk
    rw [List.getD_eq_getElem?_getD, List.getD_eq_getElem?_getD, List.getElem?_eq_getElem hk, List.getElem?_eq_getElem h']
    simp only [Option.getD_some]
    rw [setEdge_edges hk h']
  · have h' : ¬ q.toNat < (Go.Proofs.YtlmhiocmldhkhaaGreatDoor.setEdge p i j v).pieces.length := by rw [setEdge_len]; exact hk
    rw [List.getD_eq_getElem?_getD, List.getD_eq_getElem?_getD, List.getElem?_eq_none (by omega), List.getElem?_eq_none (by omega)]
theorem setEdge_has (p : Pattern) (i j : Nat) (v : Int) (e : Edge) : hasEdge (Go.Proofs.YtlmhiocmldhkhaaGreatDoor.setEdge p i j v) e = hasEdge p e := by
  unfold hasEdge; rw [setEdge_nEdges, setEdge_len]
theorem setEdge_ok {p : Pattern} (ok : Okp p) {i j : Nat} {v : Int} (hv : 1 ≤ v ∧ v ≤ 10000) : Okp (Go.Proofs.YtlmhiocmldhkhaaGreatDoor.setEdge p i j v) := by
  have key : ∀ x ∈ (Go.Proofs.YtlmhiocmldhkhaaGreatDoor.setEdge p i j v).pieces, ∃ y ∈ p.pieces, x.name = y.name ∧ x.edges.length = y.edges.length ∧ ∀ n ∈ x.edges, n ∈ y.edges ∨ n = v := by
    intro x hx
    obtain ⟨k, hk, rfl⟩ := List.mem_iff_getElem.1 hx
    have hk' : k < p.pieces.length := by rw [setEdge_len] at hk; exact hk
    refine ⟨p.pieces[k], List.getElem_mem hk', ?_⟩
    rw [setEdge_get hk' hk]
    split
    · exact ⟨rfl, by simp, fun n hn => List.mem_or_eq_of_mem_set hn⟩
    · exact ⟨rfl, rfl, fun n hn => Or.inl hn⟩
  refine ⟨by rw [setEdge_len]; exact ok.n1, by rw [setEdge_len]; exact ok.n10, fun x hx => ?_, fun x hx => ?_, fun x hx n hn => ?_, fun s hs => ?_, ok.once, ok.open_⟩
  · obtain ⟨y, hy, h1, _⟩ := key x hx; rw [h1]; exact ok.name y hy
  · obtain ⟨y, hy, _, h2, _⟩ := key x hx; rw [h2]; exact ok.len y hy
  · obtain ⟨y, hy, _, _, h3⟩ := key x hx
    rcases h3 n hn with h | rfl
    · exact ok.edge y hy n h
    · exact hv
  · rw [setEdge_has, setEdge_has]; exact ok.seam s hs
/-- The cells of a variable that holds a seam. -/
def seamC (s : Seam) : List OneCell := [⟨.int .i64 s.A, rfl⟩, ⟨.int .i64 s.EdgeA, rfl⟩, ⟨.int .i64 s.B, rfl⟩, ⟨.int .i64 s.EdgeB, rfl⟩]
theorem own_seamC (w : World) (t : TypeId) (s : Seam) : Own w.heap.size (w.alloc (.cells #[.int .i64 s.A, .int .i64 s.EdgeA, .int .i64 s.B, .int .i64 s.EdgeB] t)) t (.slice (some ⟨w.heap.size, 0, none⟩) 4 4) (seamC s) :=
  ⟨rfl, .inr ⟨w.heap.size, 4, #[.int .i64 s.A, .int .i64 s.EdgeA, .int .i64 s.B, .int .i64 s.EdgeB], rfl, Nat.le_refl _, heap_alloc_new _ _, Nat.le_refl _, by unfold maxLen; omega, rfl, rfl⟩⟩
theorem seamC_cells {B : Nat} {w : World} {e : TypeId} {g n c : Nat} {s : Seam} (h : Own B w e (.slice (some ⟨g, 0, none⟩) n c) (seamC s)) :
    w.cell? ⟨g, 0, none⟩ = some (.int .i64 s.A) ∧ w.cell? ⟨g, 1, none⟩ = some (.int .i64 s.EdgeA) ∧ w.cell? ⟨g, 2, none⟩ = some (.int .i64 s.B) ∧ w.cell? ⟨g, 3, none⟩ = some (.int .i64 s.EdgeB) :=
  ⟨own_one h (i := 0) (by show 0 < 4; omega), own_one h (i := 1) (by show 1 < 4; omega), own_one h (i := 2) (by show 2 < 4; omega), own_one h (i := 3) (by show 3 < 4; omega)⟩
/-- What the walk of l08Draw carries. -/
structure DrawV (w wn : World) (g M b : Nat) (pa : Option Addr) (pc : Nat) (sa : Option Addr) (sc : Nat) (rs : List RawP) (p : Pattern) : Prop where
  src : SrcAt wn g M
  res : Own w.heap.size wn 27 (.slice (some ⟨w.heap.size, 0, none⟩) 1 1) [zeroT]
  pat : PatW (w.heap.size + 1) wn b pa pc sa sc rs p
  up : w.grownBy wn (some g)
theorem DrawV.later {w wn w' : World} {g M b : Nat} {pa : Option Addr} {pc : Nat} {sa : Option Addr} {sc : Nat} {rs : List RawP} {p : Pattern} (h : DrawV w wn g M b pa pc sa sc rs p) (hb : Below wn.heap.size wn w') : DrawV w w' g M b pa pc sa sc rs p :=
  ⟨h.src.later hb, h.res.later hb, h.pat.later hb, grownBy_trans h.up (drew_below g hb)⟩
theorem DrawV.drew {w wn w' : World} {g M M' b : Nat} {pa : Option Addr} {pc : Nat} {sa : Option Addr} {sc : Nat} {rs : List RawP} {p : Pattern} (h : DrawV w wn g M b pa pc sa sc rs p) (hgl : g < w.heap.size) (hS : SrcAt w' g M') (hg : wn.grownBy w' (some g)) : DrawV w w' g M' b pa pc sa sc rs p :=
  ⟨hS, h.res.drew hgl hg, h.pat.drew (by omega) hg, grownBy_trans h.up hg⟩
theorem DrawV.less {w wn : World} {g M M' b : Nat} {pa : Option Addr} {pc : Nat} {sa : Option Addr} {sc : Nat} {rs : List RawP} {p : Pattern} (h : DrawV w wn g M b pa pc sa sc rs p) (hm : M' ≤ M) : DrawV w wn g M' b pa pc sa sc rs p := ⟨h.src.less hm, h.res, h.pat, h.up⟩
/-- A variable that was made behind all of it has changed. -/
theorem DrawV.mark {w wn w' w0 : World} {g M b bx : Nat} {pa : Option Addr} {pc : Nat} {sa : Option Addr} {sc : Nat} {rs : List RawP} {p : Pattern} (h : DrawV w wn g M b pa pc sa sc rs p) (h0 : PatW (w.heap.size + 1) w0 b pa pc sa sc rs p) (hx : w0.heap.size ≤ bx) (hgl : g < w.heap.size) (hg : wn.grownBy w' (some bx)) : DrawV w w' g M b pa pc sa sc rs p := by
  have hlt := h0.lt
  refine ⟨h.src.kept hg (fun k hk => by simp at hk; omega), h.res.kept hg (Or.inr (ne_blkP (by omega))), h.pat.kept hg (fun r hr => apart_lt (n := w0.heap.size) (fun k hk => (h0.pat.rowlt r hr k hk).2) (fun k hk => by simp at hk; omega)) (apart_lt (n := w0.heap.size) (fun k hk => (h0.pat.row.lt k hk).2) (fun k hk => by simp at hk; omega)) (apart_lt (n := w0.heap.size) (fun k hk => (h0.pat.seams.lt k hk).2) (fun k hk => by simp at hk; omega)) (apart_lt (n := w0.heap.size) (fun k hk => by simp at hk; omega) (fun k hk => by simp at hk; omega)), ?_⟩
  refine ⟨hg.os.trans h.up.os, hg.tape.trans h.up.tape, hg.output.trans h.up.output, Nat.le_trans h.up.size hg.size, fun k hk hne => (hg.block k (Nat.lt_of_lt_of_le hk h.up.size) fun e => ?_).trans (h.up.block k hk hne)⟩
  have := Option.some.inj e
  omega
end Go.Proofs.YtlmhiocmldhkhaaGreatDoor
