/- Chapter 8, patterns: corners, as the program has them. -/
import Derived.Test.YtlmhiocmldhkhaaP08g
import Derived.Test.YtlmhiocmldhkhaaPartMath
namespace Go.Proofs.Ytlmhiocmldhkhaa
open Go.RowKit

/-- An edge's number, and the edge of a number. -/
def code (e : Edge) : Nat := 8 * e.piece.toNat + e.number.toNat
def dec (n : Nat) : Edge := ⟨((n / 8 : Nat) : Int), ((n % 8 : Nat) : Int)⟩
theorem dec_inj {a b : Nat} (h : dec a = dec b) : a = b := by
  have h1 := congrArg Edge.piece h
  have h2 := congrArg Edge.number h
  simp only [dec] at h1 h2
  omega
theorem dec_code {p : Pattern} (ok : Okp p) {e : Edge} (h : hasEdge p e = true) : dec (code e) = e := by
  obtain ⟨i, j, rfl, hi, hj⟩ := hasEdge_get h
  have := (ok.len _ (List.getElem_mem hi)).2
  unfold dec code
  simp only [Int.toNat_natCast, Edge.mk.injEq]
  omega
theorem code_inj {p : Pattern} (ok : Okp p) {e f : Edge} (he : hasEdge p e = true) (hf : hasEdge p f = true) (h : code e = code f) : e = f := by
  rw [← dec_code ok he, ← dec_code ok hf, h]
/-- What is joined at corners. -/
def SC (p : Pattern) : List (Nat × Nat) := p.seams.flatMap fun s => [(code (endA s), code (nextE p (endB s))), (code (nextE p (endA s)), code (endB s))]
def SCto (p : Pattern) (k : Nat) : List (Nat × Nat) := (p.seams.take k).flatMap fun s => [(code (endA s), code (nextE p (endB s))), (code (nextE p (endA s)), code (endB s))]
theorem SCto_succ (p : Pattern) (k : Nat) (h : k < p.seams.length) : SCto p (k + 1) = SCto p k ++ [(code (endA p.seams[k]), code (nextE p (endB p.seams[k]))), (code (nextE p (endA p.seams[k])), code (endB p.seams[k]))] := by
  unfold SCto; rw [List.take_succ_eq_append_getElem h, List.flatMap_append]; simp
theorem SCto_all (p : Pattern) : SCto p p.seams.length = SC p := by unfold SCto SC; rw [List.take_length]
theorem relAll_two (S : List (Nat × Nat)) (x y : Nat × Nat) (f : Nat → Nat) : relAll (S ++ [x, y]) f = relab (relab (relAll S f) x.1 x.2) y.1 y.2 := by simp [relAll, List.foldl_append]
theorem joinAll_two (S : List (Nat × Nat)) (x y : Nat × Nat) (f : Nat → Nat) : joinAll (S ++ [x, y]) f = joinF (joinF (joinAll S f) x.1 x.2) y.1 y.2 := by simp [joinAll, List.foldl_append]
def codes (p : Pattern) : List Nat := (edgesOf p).map code
theorem codes_nodup {p : Pattern} (ok : Okp p) : (codes p).Nodup := by
  unfold codes
  refine List.pairwise_map.2 (List.Pairwise.imp_of_mem (fun {a b} ha hb h e => ?_) (edges_nodup p))
  exact h (code_inj ok (mem_edges.1 ha) (mem_edges.1 hb) e)
theorem SC_in {p : Pattern} (ok : Okp p) : ∀ s ∈ SC p, s.1 ∈ codes p ∧ s.2 ∈ codes p := by
  have key : ∀ e, hasEdge p e = true → code e ∈ codes p := fun e h => List.mem_map.2 ⟨e, mem_edges.2 h, rfl⟩
  intro s hs
  obtain ⟨t, ht, hs⟩ := List.mem_flatMap.1 hs
  obtain ⟨h1, h2⟩ := ok.seam t ht
  simp only [List.mem_cons, List.not_mem_nil, or_false] at hs
  rcases hs with rfl | rfl
  · exact ⟨key _ h1, key _ (next_has h2)⟩
  · exact ⟨key _ (next_has h1), key _ h2⟩
/-- The number of corners. -/
def cornersOf (p : Pattern) : Nat := (codes p).countP fun n => joinAll (SC p) id n == n
theorem cornersOf_eq {p : Pattern} (ok : Okp p) : (codes p).countP (fun n => relAll (SC p) id n == n) = cornersOf p := corners_eq (codes_nodup ok) (SC_in ok)
/-- The classes, edge by edge. -/
def clsL (l : List Edge) (g : Edge → Edge) : List (Edge × Edge) := l.map fun e => (e, g e)
theorem clsL_keys (l : List Edge) (g : Edge → Edge) : keysE (clsL l g) = l := by
  unfold keysE clsL
  rw [List.map_map]
  show l.map (fun e => e) = l
  simp
theorem clsL_look {l : List Edge} (g : Edge → Edge) {e : Edge} (h : e ∈ l) : lookE (clsL l g) e = some (g e) := by
  induction l with
  | nil => simp at h
  | cons x l ih =>
    simp only [clsL, List.map_cons, lookE]
    split
    · rename_i he; rw [he]
    · rename_i he
      exact ih ((List.mem_cons.1 h).resolve_left he)
theorem clsL_put {l : List Edge} (hn : l.Nodup) (g : Edge → Edge) {e : Edge} (h : e ∈ l) (v : Edge) : putE (clsL l g) e v = clsL l fun d => if d = e then v else g d := by
  induction l with
  | nil => simp at h
  | cons x l ih =>
    obtain ⟨hx, hn⟩ := List.nodup_cons.1 hn
    simp only [clsL, List.map_cons, putE]
    split
    · rename_i he
      subst he
      simp only [if_true]
      congr 1
      apply List.map_congr_left
      intro d hd
      have : d ≠ e := fun h => hx (h ▸ hd)
      simp [this]
    · rename_i he
      have hxe : ¬ x = e := fun h => he h.symm
      simp only [if_neg hxe]
      congr 1
      exact ih hn ((List.mem_cons.1 h).resolve_left he)
theorem clsL_new {l : List Edge} (g : Edge → Edge) {e : Edge} (h : ¬ e ∈ l) : putE (clsL l g) e (g e) = clsL (l ++ [e]) g := by
  rw [putE_new (by rw [clsL_keys]; exact h)]; simp [clsL]
theorem clsL_congr {l : List Edge} {g h : Edge → Edge} (hgh : ∀ e ∈ l, g e = h e) : clsL l g = clsL l h := List.map_congr_left fun e he => by rw [hgh e he]
/-- Part of the edges have their new class. -/
def part (l : List Edge) (k : Nat) (g h : Edge → Edge) : Edge → Edge := fun e => if e ∈ l.take k then g e else h e
theorem part_zero (l : List Edge) (g h : Edge → Edge) : clsL l (part l 0 g h) = clsL l h := clsL_congr fun e _ => by simp [part]
theorem part_all (l : List Edge) (k : Nat) (hk : l.length ≤ k) (g h : Edge → Edge) : clsL l (part l k g h) = clsL l g := clsL_congr fun e he => by simp [part, List.take_of_length_le hk, he]
theorem not_take {l : List Edge} (hn : l.Nodup) {k : Nat} (h : k < l.length) : ¬ l[k] ∈ l.take k := by
  intro hm
  obtain ⟨j, hj, he⟩ := List.mem_iff_getElem.1 hm
  rw [List.length_take] at hj
  rw [List.getElem_take] at he
  have hp := List.pairwise_iff_getElem.1 hn j k (by omega) h (by omega)
  exact hp he
theorem part_at {l : List Edge} (hn : l.Nodup) {k : Nat} (h : k < l.length) (g f : Edge → Edge) : part l k g f l[k] = f l[k] := if_neg (not_take hn h)
theorem part_succ {l : List Edge} {k : Nat} (h : k < l.length) (g f : Edge → Edge) (e : Edge) : part l (k + 1) g f e = if e = l[k] then g e else part l k g f e := by
  have hm : e ∈ l.take (k + 1) ↔ e ∈ l.take k ∨ e = l[k] := by rw [List.take_succ_eq_append_getElem h, List.mem_append, List.mem_singleton]
  unfold part
  by_cases h1 : e = l[k]
  · rw [if_pos (hm.2 (Or.inr h1)), if_pos h1]
  · rw [if_neg h1]
    by_cases h2 : e ∈ l.take k
    · rw [if_pos (hm.2 (Or.inl h2)), if_pos h2]
    · rw [if_neg (fun h => (hm.1 h).elim h2 h1), if_neg h2]
theorem part_put {l : List Edge} (hn : l.Nodup) {k : Nat} (h : k < l.length) (g f : Edge → Edge) : putE (clsL l (part l k g f)) l[k] (g l[k]) = clsL l (part l (k + 1) g f) := by
  rw [clsL_put hn _ (List.getElem_mem h)]
  refine clsL_congr fun e _ => ?_
  rw [part_succ h]
  by_cases h1 : e = l[k] <;> simp [h1]
theorem part_same {l : List Edge} (hn : l.Nodup) {k : Nat} (h : k < l.length) (g f : Edge → Edge) (he : g l[k] = f l[k]) : clsL l (part l k g f) = clsL l (part l (k + 1) g f) := by
  refine clsL_congr fun e _ => ?_
  rw [part_succ h]
  by_cases h1 : e = l[k]
  · rw [if_pos h1, h1, part_at hn h, he]
  · rw [if_neg h1]
/-- The class of an edge out of labels of numbers. -/
def clsOf (c : Nat → Nat) : Edge → Edge := fun e => dec (c (code e))
theorem cls_id {p : Pattern} (ok : Okp p) : clsL (edgesOf p) (clsOf id) = clsL (edgesOf p) id := clsL_congr fun e he => by
  show dec (code e) = e
  exact dec_code ok (mem_edges.1 he)
theorem relab_hit {c : Nat → Nat} {a b e : Nat} (h : c e = c a) : relab c a b e = c b := if_pos h
theorem relab_miss {c : Nat → Nat} {a b e : Nat} (h : ¬ c e = c a) : relab c a b e = c e := if_neg h
theorem edge_eql (a1 a2 : Int) (b1 b2 : Int) (w : World) : (binOp .eql 98 (.agg #[.int .i64 a1, .int .i64 a2]) (.agg #[.int .i64 b1, .int .i64 b2])).run Try.prog w = .ok (.bool ((⟨a1, a2⟩ : Edge) == ⟨b1, b2⟩)) w := by
  have e : ((⟨a1, a2⟩ : Edge) == ⟨b1, b2⟩) = (a1 == b1 && a2 == b2) := by rw [Bool.eq_iff_iff]; simp [Edge.mk.injEq]
  rw [e]
  by_cases h0 : a1 = b1 <;> by_cases h1 : a2 = b2 <;> simp [go_sem, h0, h1]
theorem look_cls {w : World} {r : Nat} {l : List Edge} {g : Edge → Edge} (h : MapAt ev w r (clsL l g)) {e : Edge} (he : e ∈ l) :
    (Instr.lookup 95 (.map (some r)) (.agg #[.int .i64 e.piece, .int .i64 e.number]) false).run Try.prog w = .ok (.agg #[.int .i64 (g e).piece, .int .i64 (g e).number]) w := by
  have := h.look Try.underlying95 e (zeroEdge w) false
  rw [clsL_look g he] at this
  exact this
theorem atGrown {α : Type} [Flat α] {w w' : World} {b off : Nat} {row : Option Nat} {xs : List α} (h : At w (some ⟨b, off, none⟩) xs) (hg : w.grownBy w' row) (hne : some b ≠ row) : At w' (some ⟨b, off, none⟩) xs := by
  rcases h with h | ⟨b', off', he, hlt, hc⟩
  · exact Or.inl h
  · simp only [Option.some.injEq, Addr.mk.injEq, and_true] at he
    obtain ⟨rfl, rfl⟩ := he
    refine Or.inr ⟨b, off, rfl, Nat.lt_of_lt_of_le hlt hg.size, fun i hi => ?_⟩
    obtain ⟨cs, hr, hcell⟩ := hc i hi
    exact ⟨cs, hr, fun j v hv => hg.cell (hcell j v hv) hne⟩
/-- What stands while classes are joined. -/
structure Cl (wr : World) (bm be r g n c B : Nat) (kvs : List (Edge × Edge)) (l : List Edge) : Prop where
  mp : Var wr bm [.map (some r)]
  ed : Var wr be [.slice (some ⟨g, 0, none⟩) n c]
  don : MapAt ev wr r kvs
  own : At wr (some ⟨g, 0, none⟩) l
  len : n = l.length
  d1 : bm ≠ r
  d2 : be ≠ r
  d3 : g ≠ r
  d4 : B ≤ r
  d5 : g < wr.heap.size
variable {wr w' : World} {bm be r g n c B : Nat} {kvs : List (Edge × Edge)} {l : List Edge}
theorem Cl.below (h : Cl wr bm be r g n c B kvs l) (hb : Below wr.heap.size wr w') : Cl w' bm be r g n c B kvs l :=
  ⟨h.mp.below hb, h.ed.below hb, h.don.below hb, h.own.below hb, h.len, h.d1, h.d2, h.d3, h.d4, Nat.lt_of_lt_of_le h.d5 hb.size⟩
theorem Cl.mark (h : Cl wr bm be r g n c B kvs l) {kvs' : List (Edge × Edge)} (hg : wr.grownBy w' (some r)) (hM : MapAt ev w' r kvs') : Cl w' bm be r g n c B kvs' l :=
  ⟨h.mp.grown hg (some_ne h.d1), h.ed.grown hg (some_ne h.d2), hM, atGrown h.own hg (some_ne h.d3), h.len, h.d1, h.d2, h.d3, h.d4, Nat.lt_of_lt_of_le h.d5 hg.size⟩
end Go.Proofs.Ytlmhiocmldhkhaa
