/- A pattern under construction: its rows, and the variable that holds it. -/
import Derived.Test.YtlmhiocmldhkhaaGreatDoorP08b
import Derived.Test.YtlmhiocmldhkhaaGreatDoorSrc
import Derived.Test.YtlmhiocmldhkhaaGreatDoorLists
namespace Go.Proofs.YtlmhiocmldhkhaaGreatDoor
open Go.RowKit

theorem apart_lt {a b : Option Nat} {n : Nat} (ha : ∀ k, a = some k → k < n) (hb : ∀ k, b = some k → n ≤ k) : Apart a b := by
  cases a with
  | none => exact Or.inl rfl
  | some k =>
    right; intro e
    have h1 := ha k rfl
    have h2 := hb k e.symm
    omega
theorem apart_gt {a b : Option Nat} {n : Nat} (ha : ∀ k, a = some k → n ≤ k) (hb : ∀ k, b = some k → k < n) : Apart a b := (apart_lt hb ha).symm
theorem apart_none (a : Option Nat) : Apart a none := by
  cases a with
  | none => exact Or.inl rfl
  | some k => exact Or.inr (by simp)
/-- What is behind an append: the row's old block, or a new one. -/
theorem apart_grown {a v : Option Nat} {g n : Nat} (h : Apart a v) (hl : v = some g ∨ g = n) (ha : ∀ k, a = some k → k < n) : Apart a (some g) := by
  rcases hl with hl | hl
  · rw [← hl]; exact h
  · exact apart_lt ha (fun k hk => by simp at hk; omega)
theorem OwnPat.rowlt {B : Nat} {w : World} {pa : Option Addr} {pc : Nat} {sa : Option Addr} {sc : Nat} {rs : List RawP} {p : Pattern} (h : OwnPat B w pa pc sa sc rs p) : ∀ r ∈ rs, ∀ k, blk r = some k → B ≤ k ∧ k < w.heap.size := fun r hr k hk => by
  obtain ⟨i, hi, rfl⟩ := List.mem_iff_getElem.1 hr
  exact (h.pieces.each i hi (by rw [← h.pieces.len]; exact hi)).own.lt k hk
/-- A change of a row that is none of the pattern's. -/
theorem OwnPat.kept {B : Nat} {w w' : World} {pa : Option Addr} {pc : Nat} {sa : Option Addr} {sc : Nat} {rs : List RawP} {p : Pattern} {row : Option Nat} (h : OwnPat B w pa pc sa sc rs p) (hg : w.grownBy w' row)
    (h1 : ∀ r ∈ rs, Apart (blk r) row) (h2 : Apart (Value.slice pa p.pieces.length pc).ownBlock row) (h3 : Apart (Value.slice sa p.seams.length sc).ownBlock row) : OwnPat B w' pa pc sa sc rs p :=
  ⟨h.row.kept hg h2, ⟨h.pieces.len, h.pieces.apart, fun i a b => ⟨(h.pieces.each i a b).name, (h.pieces.each i a b).len, (h.pieces.each i a b).own.kept hg (h1 _ (List.getElem_mem a))⟩⟩, h.seams.kept hg h3, h.far, h.two⟩
theorem OwnPat.drew {B g : Nat} {w w' : World} {pa : Option Addr} {pc : Nat} {sa : Option Addr} {sc : Nat} {rs : List RawP} {p : Pattern} (h : OwnPat B w pa pc sa sc rs p) (hB : g < B) (hg : w.grownBy w' (some g)) : OwnPat B w' pa pc sa sc rs p :=
  h.kept hg (fun r hr => apart_gt (n := B) (fun k hk => (h.rowlt r hr k hk).1) (fun k hk => by simp at hk; omega)) (apart_gt (n := B) (fun k hk => (h.row.lt k hk).1) (fun k hk => by simp at hk; omega)) (apart_gt (n := B) (fun k hk => (h.seams.lt k hk).1) (fun k hk => by simp at hk; omega))
/-- One piece more. -/
theorem OwnPat.pushPiece {B : Nat} {w w1 w2 : World} {pa : Option Addr} {pc : Nat} {sa : Option Addr} {sc : Nat} {rs : List RawP} {p : Pattern} {r : RawP} {x : Piece} {g cap : Nat} (h : OwnPat B w pa pc sa sc rs p) (hb1 : Below w.heap.size w w1)
    (hz : OwnPiece w.heap.size w1 r x) (hB : B ≤ w.heap.size)
    (hO : Own B w2 36 (.slice (some ⟨g, 0, none⟩) (p.pieces.length + 1) cap) (rs ++ [r])) (hg : w1.grownBy w2 (Value.slice pa p.pieces.length pc).ownBlock) (hl : (Value.slice pa p.pieces.length pc).ownBlock = some g ∨ g = w1.heap.size) :
    OwnPat B w2 (some ⟨g, 0, none⟩) cap sa sc (rs ++ [r]) ⟨p.pieces ++ [x], p.seams, p.openings⟩ := by
  have hlen := h.pieces.len
  have hbz : ∀ k, blk r = some k → w.heap.size ≤ k ∧ k < w1.heap.size := fun k hk => hz.own.lt k hk
  have hbr := h.rowlt
  have hbv : ∀ k, (Value.slice pa p.pieces.length pc).ownBlock = some k → B ≤ k ∧ k < w.heap.size := fun k hk => h.row.lt k hk
  have hbs : ∀ k, (Value.slice sa p.seams.length sc).ownBlock = some k → B ≤ k ∧ k < w.heap.size := fun k hk => h.seams.lt k hk
  have hsz := hb1.size
  have hzv : Apart (blk r) (Value.slice pa p.pieces.length pc).ownBlock := apart_gt (n := w.heap.size) (fun k hk => (hbz k hk).1) (fun k hk => (hbv k hk).2)
  have hzs : Apart (blk r) (Value.slice sa p.seams.length sc).ownBlock := apart_gt (n := w.heap.size) (fun k hk => (hbz k hk).1) (fun k hk => (hbs k hk).2)
  have hg1 : (Value.slice (some ⟨g, 0, none⟩ : Option Addr) (p.pieces.length + 1) cap).ownBlock = some g := rfl
  refine ⟨by simpa using hO, ⟨by simp [hlen], fun i j hi hj hne => ?_, fun i h1 h2 => ?_⟩, (h.seams.later hb1).kept hg h.two, fun q hq => ?_, ?_⟩
  · have key : ∀ i (hi : i < rs.length), Apart (blk rs[i]) (blk r) := fun i hi => apart_lt (n := w.heap.size) (fun k hk => (hbr _ (List.getElem_mem hi) k hk).2) (fun k hk => (hbz k hk).1)
    rw [List.length_append] at hi hj
    simp only [List.length_singleton] at hi hj
    by_cases hir : i < rs.length
    · rw [List.getElem_append_left hir]
      by_cases hjr : j < rs.length
      · rw [List.getElem_append_left hjr]; exact h.pieces.apart i j hir hjr hne
      · rw [List.getElem_append_right (by omega)]; simp only [List.getElem_singleton]; exact key i hir
    · rw [List.getElem_append_right (by omega)]; simp only [List.getElem_singleton]
      rw [List.getElem_append_left (by omega)]
      exact (key j (by omega)).symm
  · rw [List.length_append] at h1
    simp only [List.length_singleton] at h1
    by_cases hir : i < rs.length
    · have := h.pieces.each i hir (by omega)
      have e2 : (p.pieces ++ [x])[i]'h2 = p.pieces[i]'(by omega) := List.getElem_append_left (by omega)
      rw [List.getElem_append_left hir]
      show OwnPiece B w2 rs[i] ((p.pieces ++ [x])[i]'h2)
      rw [e2]
      exact ⟨this.name, this.len, (this.own.later hb1).kept hg (h.far _ (List.getElem_mem hir)).1⟩
    · have e2 : (p.pieces ++ [x])[i]'h2 = x := by rw [List.getElem_append_right (by omega)]; simp
      rw [List.getElem_append_right (by omega)]
      show OwnPiece B w2 _ ((p.pieces ++ [x])[i]'h2)
      rw [e2]
      simp only [List.getElem_singleton]
      exact ⟨hz.name, hz.len, (hz.own.base hB).kept hg hzv⟩
  · have hf : Apart (blk q) (Value.slice pa p.pieces.length pc).ownBlock ∧ Apart (blk q) (Value.slice sa p.seams.length sc).ownBlock ∧ ∀ k, blk q = some k → k < w1.heap.size := by
      rcases List.mem_append.1 hq with hq | hq
      · exact ⟨(h.far q hq).1, (h.far q hq).2, fun k hk => Nat.lt_of_lt_of_le (hbr q hq k hk).2 hsz⟩
      · simp only [List.mem_singleton] at hq
        subst hq
        exact ⟨hzv, hzs, fun k hk => (hbz k hk).2⟩
    refine ⟨?_, hf.2.1⟩
    show Apart (blk q) (some g)
    exact apart_grown hf.1 hl hf.2.2
  · show Apart (Value.slice sa p.seams.length sc).ownBlock (some g)
    exact apart_grown h.two hl (fun k hk => Nat.lt_of_lt_of_le (hbs k hk).2 hsz)
/-- One seam more. -/
theorem OwnPat.pushSeam {B : Nat} {w w1 w2 : World} {pa : Option Addr} {pc : Nat} {sa : Option Addr} {sc : Nat} {rs : List RawP} {p : Pattern} {s : Seam} {g cap : Nat} (h : OwnPat B w pa pc sa sc rs p) (hb1 : Below w.heap.size w w1)
    (hO : Own B w2 46 (.slice (some ⟨g, 0, none⟩) (p.seams.length + 1) cap) (p.seams ++ [s])) (hg : w1.grownBy w2 (Value.slice sa p.seams.length sc).ownBlock) (hl : (Value.slice sa p.seams.length sc).ownBlock = some g ∨ g = w1.heap.size) :
    OwnPat B w2 pa pc (some ⟨g, 0, none⟩) cap rs ⟨p.pieces, p.seams ++ [s], p.openings⟩ := by
  have hsz := hb1.size
  refine ⟨(h.row.later hb1).kept hg h.two.symm, ⟨h.pieces.len, h.pieces.apart, fun i a b => ?_⟩, by simpa using hO, fun q hq => ⟨(h.far q hq).1, ?_⟩, ?_⟩
  · have := h.pieces.each i a b
    exact ⟨this.name, this.len, (this.own.later hb1).kept hg (h.far _ (List.getElem_mem a)).2⟩
  · show Apart (blk q) (some g)
    exact apart_grown (h.far q hq).2 hl (fun k hk => Nat.lt_of_lt_of_le (h.rowlt q hq k hk).2 hsz)
  · show Apart (some g) (Value.slice pa p.pieces.length pc).ownBlock
    exact (apart_grown h.two.symm hl (fun k hk => Nat.lt_of_lt_of_le (h.row.lt k hk).2 hsz)).symm
/-- The cells of a variable that holds a pattern. -/
def patC (pa : Option Addr) (n pc : Nat) (sa : Option Addr) (m sc : Nat) (o : Int) : List OneCell := [⟨.slice pa n pc, rfl⟩, ⟨.slice sa m sc, rfl⟩, ⟨.int .i64 o, rfl⟩]
theorem own_patC (w : World) (t : TypeId) (pa : Option Addr) (n pc : Nat) (sa : Option Addr) (m sc : Nat) (o : Int) : Own w.heap.size (w.alloc (.cells #[.slice pa n pc, .slice sa m sc, .int .i64 o] t)) t (.slice (some ⟨w.heap.size, 0, none⟩) 3 3) (patC pa n pc sa m sc o) :=
  ⟨rfl, .inr ⟨w.heap.size, 3, #[.slice pa n pc, .slice sa m sc, .int .i64 o], rfl, Nat.le_refl _, heap_alloc_new _ _, Nat.le_refl _, by unfold maxLen; omega, rfl, rfl⟩⟩
theorem patC_cells {B : Nat} {w : World} {e : TypeId} {g n' c : Nat} {pa : Option Addr} {n pc : Nat} {sa : Option Addr} {m sc : Nat} {o : Int} (h : Own B w e (.slice (some ⟨g, 0, none⟩) n' c) (patC pa n pc sa m sc o)) :
    w.cell? ⟨g, 0, none⟩ = some (.slice pa n pc) ∧ w.cell? ⟨g, 1, none⟩ = some (.slice sa m sc) ∧ w.cell? ⟨g, 2, none⟩ = some (.int .i64 o) :=
  ⟨own_one h (i := 0) (by show 0 < 3; omega), own_one h (i := 1) (by show 1 < 3; omega), own_one h (i := 2) (by show 2 < 3; omega)⟩
/-- A pattern in a variable b. -/
structure PatW (B : Nat) (w : World) (b : Nat) (pa : Option Addr) (pc : Nat) (sa : Option Addr) (sc : Nat) (rs : List RawP) (p : Pattern) : Prop where
  pat : OwnPat B w pa pc sa sc rs p
  var : Own B w 27 (.slice (some ⟨b, 0, none⟩) 3 3) (patC pa p.pieces.length pc sa p.seams.length sc p.openings)
  f1 : ∀ r ∈ rs, Apart (blk r) (some b)
  f2 : Apart (Value.slice pa p.pieces.length pc).ownBlock (some b)
  f3 : Apart (Value.slice sa p.seams.length sc).ownBlock (some b)
section
variable {B : Nat} {w w' : World} {b : Nat} {pa : Option Addr} {pc : Nat} {sa : Option Addr} {sc : Nat} {rs : List RawP} {p : Pattern}
theorem PatW.later (h : PatW B w b pa pc sa sc rs p) (hb : Below w.heap.size w w') : PatW B w' b pa pc sa sc rs p := ⟨h.pat.later hb, h.var.later hb, h.f1, h.f2, h.f3⟩
theorem PatW.base {B' : Nat} (h : PatW B w b pa pc sa sc rs p) (hB : B' ≤ B) : PatW B' w b pa pc sa sc rs p := ⟨h.pat.base hB, h.var.base hB, h.f1, h.f2, h.f3⟩
theorem PatW.drew {g : Nat} (h : PatW B w b pa pc sa sc rs p) (hB : g < B) (hg : w.grownBy w' (some g)) : PatW B w' b pa pc sa sc rs p := ⟨h.pat.drew hB hg, h.var.drew hB hg, h.f1, h.f2, h.f3⟩
theorem PatW.lt (h : PatW B w b pa pc sa sc rs p) : B ≤ b ∧ b < w.heap.size := h.var.lt b rfl
theorem PatW.cells (h : PatW B w b pa pc sa sc rs p) : w.cell? ⟨b, 0, none⟩ = some (.slice pa p.pieces.length pc) ∧ w.cell? ⟨b, 1, none⟩ = some (.slice sa p.seams.length sc) ∧ w.cell? ⟨b, 2, none⟩ = some (.int .i64 p.openings) := patC_cells h.var
/-- A change of a row that is none of the pattern's, nor its variable. -/
theorem PatW.kept {row : Option Nat} (h : PatW B w b pa pc sa sc rs p) (hg : w.grownBy w' row) (h1 : ∀ r ∈ rs, Apart (blk r) row) (h2 : Apart (Value.slice pa p.pieces.length pc).ownBlock row) (h3 : Apart (Value.slice sa p.seams.length sc).ownBlock row) (h4 : Apart (some b) row) : PatW B w' b pa pc sa sc rs p :=
  ⟨h.pat.kept hg h1 h2 h3, h.var.kept hg h4, h.f1, h.f2, h.f3⟩
end
/-- A piece more: the row, and behind it the variable. -/
theorem PatW.pushPiece {B : Nat} {w w1 w2 w3 : World} {b : Nat} {pa : Option Addr} {pc : Nat} {sa : Option Addr} {sc : Nat} {rs : List RawP} {p : Pattern} {r : RawP} {x : Piece} {g cap : Nat} (h : PatW B w b pa pc sa sc rs p) (hb1 : Below w.heap.size w w1)
    (hz : OwnPiece w.heap.size w1 r x) (hO : Own B w2 36 (.slice (some ⟨g, 0, none⟩) (p.pieces.length + 1) cap) (rs ++ [r])) (hg : w1.grownBy w2 (Value.slice pa p.pieces.length pc).ownBlock) (hl : (Value.slice pa p.pieces.length pc).ownBlock = some g ∨ g = w1.heap.size)
    (hV : Own B w3 27 (.slice (some ⟨b, 0, none⟩) 3 3) (patC (some ⟨g, 0, none⟩) (p.pieces.length + 1) cap sa p.seams.length sc p.openings)) (hg3 : w2.grownBy w3 (some b)) :
    PatW B w3 b (some ⟨g, 0, none⟩) cap sa sc (rs ++ [r]) ⟨p.pieces ++ [x], p.seams, p.openings⟩ := by
  have hP := h.pat.pushPiece hb1 hz (Nat.le_trans h.lt.1 (Nat.le_of_lt h.lt.2)) hO hg hl
  have hsz := hb1.size
  have hlt := h.lt
  have h1 : ∀ q ∈ rs ++ [r], Apart (blk q) (some b) := fun q hq => by
    rcases List.mem_append.1 hq with hq | hq
    · exact h.f1 q hq
    · simp only [List.mem_singleton] at hq
      subst hq
      exact apart_gt (n := w.heap.size) (fun k hk => (hz.own.lt k hk).1) (fun k hk => by simp at hk; omega)
  have h2 : Apart (some g) (some b) := (apart_grown h.f2.symm hl (fun k hk => by simp at hk; omega)).symm
  exact ⟨hP.kept hg3 h1 h2 h.f3, by simpa using hV, h1, h2, h.f3⟩
/-- A seam more. -/
theorem PatW.pushSeam {B : Nat} {w w1 w2 w3 : World} {b : Nat} {pa : Option Addr} {pc : Nat} {sa : Option Addr} {sc : Nat} {rs : List RawP} {p : Pattern} {s : Seam} {g cap : Nat} (h : PatW B w b pa pc sa sc rs p) (hb1 : Below w.heap.size w w1)
    (hO : Own B w2 46 (.slice (some ⟨g, 0, none⟩) (p.seams.length + 1) cap) (p.seams ++ [s])) (hg : w1.grownBy w2 (Value.slice sa p.seams.length sc).ownBlock) (hl : (Value.slice sa p.seams.length sc).ownBlock = some g ∨ g = w1.heap.size)
    (hV : Own B w3 27 (.slice (some ⟨b, 0, none⟩) 3 3) (patC pa p.pieces.length pc (some ⟨g, 0, none⟩) (p.seams.length + 1) cap p.openings)) (hg3 : w2.grownBy w3 (some b)) :
    PatW B w3 b pa pc (some ⟨g, 0, none⟩) cap rs ⟨p.pieces, p.seams ++ [s], p.openings⟩ := by
  have hP := h.pat.pushSeam hb1 hO hg hl
  have hsz := hb1.size
  have hlt := h.lt
  have h2 : Apart (some g) (some b) := (apart_grown h.f3.symm hl (fun k hk => by simp at hk; omega)).symm
  exact ⟨hP.kept hg3 h.f1 h.f2 h2, by simpa using hV, h.f1, h.f2, h2⟩
/-- The worlds of a push: only the call's own has changed. -/
theorem below_own {α : Type} [Flat α] {B : Nat} {w0 w w' : World} {e : TypeId} {v : Value} {xs : List α} (hb : Below w0.heap.size w0 w) (hO : Own B w e v xs) (hB : w0.heap.size ≤ B) (hg : w.grownBy w' v.ownBlock) : Below w0.heap.size w0 w' := below_mark hb hO hB hg
theorem patC1 {pa : Option Addr} {n pc : Nat} {sa : Option Addr} {m sc : Nat} {o : Int} {pa' : Option Addr} {n' pc' : Nat} : (patC pa n pc sa m sc o).set 0 ⟨.slice pa' n' pc', rfl⟩ = patC pa' n' pc' sa m sc o := rfl
theorem patC2 {pa : Option Addr} {n pc : Nat} {sa : Option Addr} {m sc : Nat} {o : Int} {sa' : Option Addr} {m' sc' : Nat} : (patC pa n pc sa m sc o).set 1 ⟨.slice sa' m' sc', rfl⟩ = patC pa n pc sa' m' sc' o := rfl
theorem patC3 {pa : Option Addr} {n pc : Nat} {sa : Option Addr} {m sc : Nat} {o o' : Int} : (patC pa n pc sa m sc o).set 2 ⟨.int .i64 o', rfl⟩ = patC pa n pc sa m sc o' := rfl
end Go.Proofs.YtlmhiocmldhkhaaGreatDoor
