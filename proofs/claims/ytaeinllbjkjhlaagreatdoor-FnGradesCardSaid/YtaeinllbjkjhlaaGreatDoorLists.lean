/- Lists of lists of numbers: how they lie, what the call owns of them, and the law's own functions on them. -/
import Derived.Test.YtaeinllbjkjhlaaGreatDoorInts
import Derived.Test.YtaeinllbjkjhlaaGreatDoorSmall
import Derived.Deep.AppendLies
import Derived.Deep.Heap
namespace Go.Proofs.YtaeinllbjkjhlaaGreatDoor
open Go.RowKit

theorem own_held {α : Type} [Flat α] {B : Nat} {w w' : World} {e : TypeId} {v : Value} {xs : List α} (h : Own B w e v xs) (_hs : w.heap.size ≤ w'.heap.size) (hk : ∀ k, v.ownBlock = some k → w'.heap[k]? = w.heap[k]?) : Own B w' e v xs := by
  refine ⟨h.1, ?_⟩
  rcases h.2 with h2 | ⟨g, cap, cur, rfl, hb, hg, h4⟩
  · exact Or.inl h2
  · exact Or.inr ⟨g, cap, cur, rfl, hb, by rw [hk g rfl]; exact hg, h4⟩
/-- Only blocks of some kind have changed. -/
structure Touched (S : Nat → Prop) (w w' : World) : Prop where
  os : w'.os = w.os
  tape : w'.tape = w.tape
  output : w'.output = w.output
  size : w.heap.size ≤ w'.heap.size
  block : ∀ k, k < w.heap.size → ¬ S k → w'.heap[k]? = w.heap[k]?
theorem Touched.refl (S : Nat → Prop) (w : World) : Touched S w w := ⟨rfl, rfl, rfl, Nat.le_refl _, fun _ _ _ => rfl⟩
theorem Touched.trans {S : Nat → Prop} {a b c : World} (h : Touched S a b) (k : Touched S b c) : Touched S a c :=
  ⟨k.os.trans h.os, k.tape.trans h.tape, k.output.trans h.output, Nat.le_trans h.size k.size, fun i hi hr => (k.block i (Nat.lt_of_lt_of_le hi h.size) hr).trans (h.block i hi hr)⟩
theorem Touched.mono {S T : Nat → Prop} {a b : World} (h : Touched S a b) (hST : ∀ k, S k → T k) : Touched T a b :=
  ⟨h.os, h.tape, h.output, h.size, fun i hi hr => h.block i hi fun hs => hr (hST i hs)⟩
theorem touched_below {S : Nat → Prop} {w w' : World} (h : Below w.heap.size w w') : Touched S w w' := ⟨h.os, h.tape, h.output, h.size, fun k hk _ => h.block k hk⟩
theorem touched_grown {S : Nat → Prop} {w w' : World} {row : Option Nat} (h : w.grownBy w' row) (hr : ∀ k, row = some k → S k) : Touched S w w' :=
  ⟨h.os, h.tape, h.output, h.size, fun k hk ho => h.block k hk fun e => ho (hr k e.symm)⟩
/-- Blocks from B to B1. -/
def Rng (B B1 : Nat) (k : Nat) : Prop := B ≤ k ∧ k < B1
theorem not_rng {B B1 k : Nat} (h : k < B ∨ B1 ≤ k) : ¬ Rng B B1 k := fun ⟨h1, h2⟩ => by omega
theorem Touched.below {B B1 : Nat} {a w w' : World} (h : Touched (Rng B B1) w w') (hb : Below a.heap.size a w) (hB : a.heap.size ≤ B) : Below a.heap.size a w' :=
  ⟨h.os.trans hb.os, h.tape.trans hb.tape, h.output.trans hb.output, Nat.le_trans hb.size h.size, fun k hk => (h.block k (Nat.lt_of_lt_of_le hk hb.size) (not_rng (Or.inl (Nat.lt_of_lt_of_le hk hB)))).trans (hb.block k hk)⟩
theorem Own.touched {α : Type} [Flat α] {S : Nat → Prop} {Bv : Nat} {w w' : World} {e : TypeId} {v : Value} {xs : List α} (h : Own Bv w e v xs) (ht : Touched S w w') (hv : ∀ k, v.ownBlock = some k → ¬ S k) : Own Bv w' e v xs :=
  own_held h ht.size fun k hk => ht.block k (h.lt k hk).2 (hv k hk)
theorem touched_cell' {S : Nat → Prop} {w w' : World} {b o : Nat} {v : Value} (h : w.cell? ⟨b, o, none⟩ = some v) (ht : Touched S w w') (hb : ¬ S b) : w'.cell? ⟨b, o, none⟩ = some v := by
  have hl := block_lt_of_cell h
  have e : w'.heap[b]? = w.heap[b]? := ht.block b hl hb
  rw [← h]; unfold World.cell?; rw [e]
theorem touched_cell {B B1 : Nat} {w w' : World} {b o : Nat} {v : Value} (h : w.cell? ⟨b, o, none⟩ = some v) (ht : Touched (Rng B B1) w w') (hb : b < B ∨ B1 ≤ b) : w'.cell? ⟨b, o, none⟩ = some v := touched_cell' h ht (not_rng hb)
/-- Owned before a world, or since. -/
theorem own_before {α : Type} [Flat α] {Bv B B1 : Nat} {w0 : World} {e : TypeId} {v : Value} {xs : List α} (h : Own Bv w0 e v xs) (hB : w0.heap.size ≤ B) : ∀ k, v.ownBlock = some k → ¬ Rng B B1 k := fun k hk => not_rng (Or.inl (by have := (h.lt k hk).2; omega))
theorem own_since {α : Type} [Flat α] {Bv B B1 : Nat} {w0 : World} {e : TypeId} {v : Value} {xs : List α} (h : Own Bv w0 e v xs) (hB : B1 ≤ Bv) : ∀ k, v.ownBlock = some k → ¬ Rng B B1 k := fun k hk => not_rng (Or.inr (by have := (h.lt k hk).1; omega))
/-- A row lies in a block of some kind. -/
def In (S : Nat → Prop) (v : Option Nat) : Prop := ∀ k, v = some k → S k
theorem own_in {α : Type} [Flat α] {Bv : Nat} {w0 : World} {e : TypeId} {v : Value} {xs : List α} (h : Own Bv w0 e v xs) : In (Rng Bv w0.heap.size) v.ownBlock := fun k hk => ⟨(h.lt k hk).1, (h.lt k hk).2⟩

section
variable {P : Program} {ops : Array Oper} {rest : List Oper} {o : Oper} {a : Act} {w : World} {Q : Exit → Act → World → Prop}
/-- An append of one element to a list that the call owns, and where it lies then. -/
theorem wpList_pushTo {α : Type} [Flat α] (hgd : o.guard = none) (s x : Operand) (t : TypeId) (ho : o.op = .call { callee := .builtin .append, args := #[s, x], argTypes := #[t, t] })
    (B : Nat) (e : TypeId) (d : Value) (bytes : Nat) (ht : P.underlying t = some (.slice e)) (hi : (P.info? e).map (fun i => (i.zero, i.size, i.bytes)) = some (some d, Flat.k α, bytes)) (hzs : d.cells.size = Flat.k α)
    (v : Value) (xs : List α) (z : α) (hs : a.eval s = v) (hown : Own B w e v xs) (g : Nat) (c : Nat) (hx : a.eval x = .slice (some ⟨g, 0, none⟩) 1 c) (te : TypeId) (hg : w.heap[g]? = some (.cells (Flat.el z).toArray te (0, 0)))
    (h63 : xs.length + 1 ≤ 4294967296) (hby : bytes ≤ 1024) (hbase : B ≤ w.heap.size)
    (h : ∀ g' cap w', Own B w' e (.slice (some ⟨g', 0, none⟩) (xs.length + 1) cap) (xs ++ [z]) → w.grownBy w' v.ownBlock → (v.ownBlock = some g' ∨ g' = w.heap.size) → wpList P ops Q rest (a.put o.dst (.slice (some ⟨g', 0, none⟩) (xs.length + 1) cap)) w') : wpList P ops Q (o :: rest) a w := by
  obtain ⟨i, hi, hz0, hz1, hz2⟩ := info_parts hi
  refine wpList_append_lies w hgd s x t ho B e i d (Flat.k α) bytes ht hi hz0 hz1 hz2 hzs Flat.pos v xs.length (flat xs) hs hown ⟨g, 0, none⟩ 1 c (Flat.el z) hx (by rw [Flat.len]; omega) (fun j u hu => ?_) (Flat.one z) Nat.one_pos (by unfold maxLen; omega) ?_ hbase w.heap.size rfl (fun g' cap w' h1 h2 h3 _ => h g' cap w' ?_ h2 h3)
  · rw [Go.WideShapes.add_plain, Nat.zero_add, cell_of_row w g j _ te (0, 0) hg]
    simpa using hu
  · have : (xs.length + 1) * bytes ≤ 4294967296 * 1024 := Nat.mul_le_mul h63 hby
    omega
  · unfold Own
    rw [flat_append, List.length_append]
    simpa [flat] using h1
end
/-- A list of numbers as it lies in a row: where its numbers lie. -/
structure RawL where
  a : Option Addr
  n : Nat
  c : Nat
instance : Flat RawL := ⟨1, by decide, fun x => [.slice x.a x.n x.c], fun _ => rfl, fun x u h => by simp at h; subst h; rfl, fun _ => True⟩
instance : Rep (List Int) where
  k := 1
  pos := by decide
  rep w x cs := ∃ a c, cs = [.slice a x.length c] ∧ At w a x
  ok x := x.length ≤ 9223372036854775807
  len h := by obtain ⟨a, c, h, _⟩ := h; rw [h]; rfl
  below hb h := by obtain ⟨a, c, h, h2⟩ := h; exact ⟨a, c, h, h2.below hb⟩
theorem At.ints {w : World} {b off : Nat} {xss : List (List Int)} (h : At w (some ⟨b, off, none⟩) xss) {i : Nat} (hi : i < xss.length) :
    ∃ a c, w.cell? ⟨b, off + i, none⟩ = some (.slice a xss[i].length c) ∧ At w a xss[i] := by
  obtain ⟨cs, ⟨a, c, rfl, hA⟩, hc⟩ := h.elem hi
  have h0 := hc 0 _ rfl
  exact ⟨a, c, by simpa [Rep.k] using h0, hA⟩
/-- Two rows lie in two blocks. -/
def Asunder (a b : Option Nat) : Prop := a = none ∨ a ≠ b
theorem Asunder.symm {a b : Option Nat} (h : Asunder a b) : Asunder b a := by
  rcases h with rfl | h
  · cases b with
    | none => exact Or.inl rfl
    | some k => exact Or.inr (by simp)
  · exact Or.inr fun e => h e.symm
theorem asunder_none (b : Option Nat) : Asunder b none := Asunder.symm (Or.inl rfl)
def blkL (r : RawL) : Option Nat := (Value.slice r.a r.n r.c).ownBlock
/-- What the call owns of a list of lists of numbers. -/
structure OwnLists (B : Nat) (w : World) (v : Value) (rs : List RawL) (xss : List (List Int)) : Prop where
  row : Own B w 91 v rs
  len : rs.length = xss.length
  apart : ∀ i j (hi : i < rs.length) (hj : j < rs.length), i ≠ j → Asunder (blkL rs[i]) (blkL rs[j])
  each : ∀ i (h1 : i < rs.length) (h2 : i < xss.length), rs[i].n = xss[i].length ∧ Own B w 2 (.slice rs[i].a rs[i].n rs[i].c) xss[i]
  far : ∀ r ∈ rs, Asunder (blkL r) v.ownBlock
theorem OwnLists.later {B : Nat} {w w' : World} {v : Value} {rs : List RawL} {xss : List (List Int)} (h : OwnLists B w v rs xss) (hb : Below w.heap.size w w') : OwnLists B w' v rs xss :=
  ⟨h.row.later hb, h.len, h.apart, fun i h1 h2 => ⟨(h.each i h1 h2).1, (h.each i h1 h2).2.later hb⟩, h.far⟩
theorem OwnLists.base {B B' : Nat} {w : World} {v : Value} {rs : List RawL} {xss : List (List Int)} (h : OwnLists B w v rs xss) (hB : B' ≤ B) : OwnLists B' w v rs xss :=
  ⟨h.row.base hB, h.len, h.apart, fun i h1 h2 => ⟨(h.each i h1 h2).1, (h.each i h1 h2).2.base hB⟩, h.far⟩
theorem OwnLists.touched {B B0 : Nat} {w w' w0 : World} {v : Value} {rs : List RawL} {xss xss0 : List (List Int)} {S : Nat → Prop} (h : OwnLists B w v rs xss) (ht : Touched S w w') (h0 : OwnLists B0 w0 v rs xss0) (hS : ∀ k, B0 ≤ k → k < w0.heap.size → ¬ S k) : OwnLists B w' v rs xss :=
  ⟨h.row.touched ht fun k hk => hS k (h0.row.lt k hk).1 (h0.row.lt k hk).2, h.len, h.apart, fun i h1 h2 => ⟨(h.each i h1 h2).1, (h.each i h1 h2).2.touched ht fun k hk => hS k ((h0.each i h1 (by rw [← h0.len]; exact h1)).2.lt k hk).1 ((h0.each i h1 (by rw [← h0.len]; exact h1)).2.lt k hk).2⟩, h.far⟩
theorem OwnLists.at {B : Nat} {w : World} {v : Value} {rs : List RawL} {xss : List (List Int)} (h : OwnLists B w v rs xss) : ∃ a c, v = .slice a xss.length c ∧ At w a xss := by
  obtain ⟨a, c, hv, hA⟩ := h.row.at
  refine ⟨a, c, by rw [← h.len]; exact hv, ?_⟩
  by_cases h0 : xss = []
  · exact Or.inl h0
  · rcases hA with h1 | ⟨b, off, rfl, hlt, hc⟩
    · subst h1
      exact Or.inl (List.eq_nil_of_length_eq_zero h.len.symm)
    · refine Or.inr ⟨b, off, rfl, hlt, fun i hi => ?_⟩
      have hr : i < rs.length := by rw [h.len]; exact hi
      obtain ⟨cs, he, hcell⟩ := hc i hr
      obtain ⟨hp, hO⟩ := h.each i hr hi
      refine ⟨cs, ⟨rs[i].a, rs[i].c, ?_, hO.at_n⟩, hcell⟩
      rw [← hp]; exact he
theorem OwnLists.at' {B : Nat} {w : World} {a : Option Addr} {n c : Nat} {rs : List RawL} {xss : List (List Int)} (h : OwnLists B w (.slice a n c) rs xss) : At w a xss := by
  obtain ⟨a', c', hv, hA⟩ := h.at
  simp only [Value.slice.injEq] at hv
  obtain ⟨rfl, _, _⟩ := hv
  exact hA
theorem OwnLists.new (w : World) : OwnLists w.heap.size (w.alloc (.cells #[] 91)) (.slice (some ⟨w.heap.size, 0, none⟩) 0 0) [] [] :=
  ⟨own_new w _, rfl, fun i j hi => absurd hi (Nat.not_lt_zero _), fun i h1 => absurd h1 (Nat.not_lt_zero _), fun r h => by simp at h⟩
theorem OwnLists.nil (B : Nat) (w : World) : OwnLists B w (.slice none 0 0) [] [] :=
  ⟨World.ownsRow_nil _ _ _ _, rfl, fun i j hi => absurd hi (Nat.not_lt_zero _), fun i h1 => absurd h1 (Nat.not_lt_zero _), fun r h => by simp at h⟩
/-- One list more. -/
theorem OwnLists.push {B : Nat} {w w1 w2 : World} {v : Value} {rs : List RawL} {xss : List (List Int)} {z : RawL} {xs : List Int} {g cap : Nat} (h : OwnLists B w v rs xss) (hb1 : Below w.heap.size w w1)
    (hz : z.n = xs.length ∧ Own w.heap.size w1 2 (.slice z.a z.n z.c) xs) (hB : B ≤ w.heap.size)
    (hO : Own B w2 91 (.slice (some ⟨g, 0, none⟩) (rs.length + 1) cap) (rs ++ [z])) (hg : w1.grownBy w2 v.ownBlock) (hl : v.ownBlock = some g ∨ g = w1.heap.size) :
    OwnLists B w2 (.slice (some ⟨g, 0, none⟩) (rs.length + 1) cap) (rs ++ [z]) (xss ++ [xs]) := by
  have hlen := h.len
  have hbz : ∀ k, blkL z = some k → w.heap.size ≤ k ∧ k < w1.heap.size := fun k hk => hz.2.lt k hk
  have hbr : ∀ i (hi : i < rs.length), ∀ k, blkL rs[i] = some k → B ≤ k ∧ k < w.heap.size := fun i hi k hk => (h.each i hi (by omega)).2.lt k hk
  have hbv : ∀ k, v.ownBlock = some k → B ≤ k ∧ k < w.heap.size := fun k hk => h.row.lt k hk
  have hsz := hb1.size
  have hzv : Asunder (blkL z) v.ownBlock := by
    cases hk : blkL z with
    | none => exact Or.inl rfl
    | some k =>
      right; intro e
      have := hbz k hk
      have := hbv k e.symm
      omega
  refine ⟨hO, by simp [hlen], fun i j hi hj hne => ?_, fun i h1 h2 => ?_, fun r hr => ?_⟩
  · have key : ∀ i j (hi : i < rs.length), j = rs.length → Asunder (blkL rs[i]) (blkL z) := fun i j hi _ => by
      cases hk : blkL rs[i] with
      | none => exact Or.inl rfl
      | some k =>
        right; intro e
        have := hbr i hi k hk
        have := hbz k e.symm
        omega
    rw [List.length_append] at hi hj
    simp only [List.length_singleton] at hi hj
    by_cases hir : i < rs.length
    · rw [List.getElem_append_left hir]
      by_cases hjr : j < rs.length
      · rw [List.getElem_append_left hjr]; exact h.apart i j hir hjr hne
      · rw [List.getElem_append_right (by omega)]; simp only [List.getElem_singleton]; exact key i j hir (by omega)
    · rw [List.getElem_append_right (by omega)]; simp only [List.getElem_singleton]
      rw [List.getElem_append_left (by omega)]
      exact (key j i (by omega) (by omega)).symm
  · rw [List.length_append] at h1
    simp only [List.length_singleton] at h1
    by_cases hir : i < rs.length
    · have := h.each i hir (by omega)
      rw [List.getElem_append_left hir, List.getElem_append_left (by omega)]
      refine ⟨this.1, (this.2.later hb1).kept hg (h.far _ (List.getElem_mem hir))⟩
    · rw [List.getElem_append_right (by omega), List.getElem_append_right (by omega)]
      simp only [List.getElem_singleton]
      exact ⟨hz.1, (hz.2.base hB).kept hg hzv⟩
  · rcases List.mem_append.1 hr with hr | hr
    · rcases hl with hl | hl
      · have := h.far r hr
        rw [hl] at this
        exact this
      · obtain ⟨i, hi, rfl⟩ := List.mem_iff_getElem.1 hr
        cases hk : blkL rs[i] with
        | none => exact Or.inl rfl
        | some k =>
          right; intro e
          have := hbr i hi k hk
          simp [Value.ownBlock] at e
          omega
    · simp only [List.mem_singleton] at hr
      subst hr
      rcases hl with hl | hl
      · rw [hl] at hzv; exact hzv
      · cases hk : blkL r with
        | none => exact Or.inl rfl
        | some k =>
          right; intro e
          have := hbz k hk
          simp [Value.ownBlock] at e
          omega
theorem heap_two (w : World) (o o' : Obj) : ((w.alloc o).alloc o').heap[w.heap.size + 1]? = some o' := by
  have := heap_alloc_new (w.alloc o) o'
  simpa using this
/-- A new row of some numbers. -/
theorem own_row {α : Type} [Flat α] (w : World) (e : TypeId) (xs : List α) (hl : xs.length ≤ 1048576) : Own w.heap.size (w.alloc (.cells (flat xs).toArray e)) e (.slice (some ⟨w.heap.size, 0, none⟩) xs.length xs.length) xs := by
  unfold Own
  refine ⟨by rw [flat_length], .inr ⟨w.heap.size, xs.length, (flat xs).toArray, rfl, Nat.le_refl _, heap_alloc_new _ _, Nat.le_refl _, by unfold maxLen; omega, by simp [flat_length], ?_⟩⟩
  have e1 : (flat xs).toArray.toList = flat xs := by simp
  rw [e1]
  exact List.take_of_length_le (by rw [flat_length]; exact Nat.le_refl _)
/-- The mark at which a list begins, and the marks in all lists. -/
def kL (m : Nat) (xss : List (List Int)) (i : Nat) : Nat := m + ((xss.take i).map List.length).sum
theorem kL_succ (m : Nat) (xss : List (List Int)) (i : Nat) (h : i < xss.length) : kL m xss (i + 1) = kL m xss i + xss[i].length := by
  unfold kL; rw [List.take_succ_eq_append_getElem h, List.map_append, List.sum_append]; simp only [List.map_cons, List.map_nil, List.sum_cons, List.sum_nil]; omega
theorem kL_le (m : Nat) (xss : List (List Int)) : ∀ i, i ≤ xss.length → kL m xss i ≤ kL m xss xss.length := fun i hi => by
  have key : ∀ d, i + d ≤ xss.length → kL m xss i ≤ kL m xss (i + d) := by
    intro d
    induction d with
    | zero => intro _; exact Nat.le_refl _
    | succ d ih =>
      intro h
      have := ih (by omega)
      have h2 := kL_succ m xss (i + d) (by omega)
      rw [show i + (d + 1) = (i + d) + 1 by omega]; omega
  have := key (xss.length - i) (by omega)
  rwa [show i + (xss.length - i) = xss.length by omega] at this
def markedL (m : Nat) (xss : List (List Int)) : List (List Int) := gen xss.length fun i => marks (kL m xss i : Nat) (xss.getD i []).length
theorem markedL_length (m : Nat) (xss : List (List Int)) : (markedL m xss).length = xss.length := gen_length _ _
theorem markedL_get (m : Nat) (xss : List (List Int)) (i : Nat) (h : i < (markedL m xss).length) (h' : i < xss.length) : (markedL m xss)[i] = marks (kL m xss i : Nat) xss[i].length := by
  have e : (markedL m xss)[i] = marks (kL m xss i : Nat) (xss.getD i []).length := gen_get _ _ _ _
  rw [e]; simp [h']
theorem overL_at {α : Type} (L xs : List α) (i : Nat) (hl : L.length = xs.length) (h : i < xs.length) (h' : i < (over L xs i).length) : (over L xs i)[i] = xs[i] := by
  have hk : (L.take i).length = i := by simp; omega
  rw [← Option.some_inj, ← List.getElem?_eq_getElem h', over, List.getElem?_append_right (by omega), hk, Nat.sub_self, List.getElem?_drop, Nat.add_zero, List.getElem?_eq_getElem h]
/-- Other numbers in one of the lists. -/
theorem OwnLists.write {B : Nat} {w w' : World} {v : Value} {rs : List RawL} {xss : List (List Int)} (h : OwnLists B w v rs xss) {i : Nat} (hi : i < rs.length) (hi' : i < xss.length) (es : List Int) (hl : es.length = xss[i].length) (hg : w.grownBy w' (blkL rs[i]))
    (hO : Own B w' 2 (.slice rs[i].a rs[i].n rs[i].c) es) : OwnLists B w' v rs (xss.set i es) := by
  refine ⟨h.row.kept hg (h.far _ (List.getElem_mem hi)).symm, by simp [h.len], h.apart, fun j h1 h2 => ?_, h.far⟩
  have hj2 : j < xss.length := by simpa using h2
  have hp := h.each j h1 hj2
  by_cases hij : i = j
  · subst hij
    rw [List.getElem_set_self]
    exact ⟨by rw [hl]; exact hp.1, hO⟩
  · rw [List.getElem_set_ne hij]
    exact ⟨hp.1, hp.2.kept hg (h.apart j i h1 hi (fun e => hij e.symm))⟩
end Go.Proofs.YtaeinllbjkjhlaaGreatDoor
