/- Rows that a call owns, each in a block of its own: one assertion for all of them, with a source of choices beside them or without. -/
import Derived.Test.YtaeinllbjkjhlaaGreatDoorSrc
import Derived.Test.YtaeinllbjkjhlaaGreatDoorSmall
namespace Go.Proofs.YtaeinllbjkjhlaaGreatDoor
open Go.RowKit

/-- A row: its type, the size of an element, the value that leads to it, how many elements, its cells. -/
structure Item where
  e : TypeId
  k : Nat
  v : Value
  n : Nat
  cs : List Value
def ite' {α : Type} [Flat α] (e : TypeId) (v : Value) (xs : List α) : Item := ⟨e, Flat.k α, v, xs.length, flat xs⟩
def Item.own (B : Nat) (w : World) (i : Item) : Prop := w.ownsRow B i.e i.k i.v i.n i.cs
def ApartS (a b : Option Nat) : Prop := a = none ∨ a ≠ b
theorem ApartS.symm {a b : Option Nat} (h : ApartS a b) : ApartS b a := by
  rcases h with h | h
  · subst h; cases b with
    | none => exact Or.inl rfl
    | some k => exact Or.inr (by simp)
  · exact Or.inr fun e => h e.symm
theorem Item.own.later {B : Nat} {w w' : World} {i : Item} (h : i.own B w) (hb : Below w.heap.size w w') : i.own B w' :=
  World.ownsRow.kept (row := none) h ⟨hb.os, hb.tape, hb.output, hb.size, fun k hk _ => hb.block k hk⟩ (by cases i.v.ownBlock <;> simp)
theorem Item.own.kept {B : Nat} {w w' : World} {i : Item} {row : Option Nat} (h : i.own B w) (hg : w.grownBy w' row) (hne : ApartS i.v.ownBlock row) : i.own B w' := World.ownsRow.kept h hg hne
theorem Item.own.lt {B : Nat} {w : World} {i : Item} (h : i.own B w) : ∀ k, i.v.ownBlock = some k → B ≤ k ∧ k < w.heap.size := World.ownsRow.lt h
/-- All rows of a list are the call's own, no two of them in one block. -/
structure Sep (B : Nat) (w : World) (is : List Item) : Prop where
  own : ∀ i ∈ is, i.own B w
  apart : is.Pairwise fun i j => ApartS i.v.ownBlock j.v.ownBlock
theorem Sep.nil (B : Nat) (w : World) : Sep B w [] := ⟨fun i h => by simp at h, List.Pairwise.nil⟩
theorem Sep.get {α : Type} [Flat α] {B : Nat} {w : World} {is : List Item} {e : TypeId} {v : Value} {xs : List α} (h : Sep B w is) (k : Nat) (hk : is[k]? = some (ite' e v xs)) : Own B w e v xs :=
  h.own _ (List.mem_of_getElem? hk)
theorem Sep.later {B : Nat} {w w' : World} {is : List Item} (h : Sep B w is) (hb : Below w.heap.size w w') : Sep B w' is := ⟨fun i hi => (h.own i hi).later hb, h.apart⟩
theorem Sep.drew {B g : Nat} {w w' : World} {is : List Item} (h : Sep B w is) (hB : g < B) (hg : w.grownBy w' (some g)) : Sep B w' is := by
  refine ⟨fun i hi => (h.own i hi).kept hg ?_, h.apart⟩
  cases hv : i.v.ownBlock with
  | none => exact Or.inl rfl
  | some k => right; intro e; have := (h.own i hi).lt k hv; have := Option.some.inj e; omega
/-- A row that is new behind all of them. -/
theorem Sep.add {α : Type} [Flat α] {B : Nat} {w w' : World} {is : List Item} {e : TypeId} {v : Value} {xs : List α} (h : Sep B w is) (hB : B ≤ w.heap.size) (hb : Below w.heap.size w w') (hO : Own w.heap.size w' e v xs) : Sep B w' (ite' e v xs :: is) := by
  have h1 := h.later hb
  refine ⟨fun i hi => ?_, List.Pairwise.cons (fun j hj => ?_) h1.apart⟩
  · rcases List.mem_cons.1 hi with rfl | hi
    · exact hO.base hB
    · exact h1.own i hi
  · cases hv : v.ownBlock with
    | none => exact Or.inl hv
    | some k =>
      right; intro e
      have e1 : some k = j.v.ownBlock := hv.symm.trans e
      have := (h.own j hj).lt k e1.symm
      have := hO.lt k hv
      omega
/-- The same where the new row is the call's from B on and the block is known to be new. -/
theorem Sep.drop {B : Nat} {w : World} {is : List Item} (h : Sep B w is) (k : Nat) : Sep B w (is.eraseIdx k) :=
  ⟨fun i hi => h.own i (List.mem_of_mem_eraseIdx hi), h.apart.sublist (List.eraseIdx_sublist ..)⟩
theorem Sep.sub {B : Nat} {w : World} {is js : List Item} (h : Sep B w is) (hs : js.Sublist is) : Sep B w js := ⟨fun i hi => h.own i (hs.subset hi), h.apart.sublist hs⟩
theorem Sep.tail {B : Nat} {w : World} {i : Item} {is : List Item} (h : Sep B w (i :: is)) : Sep B w is := h.sub (List.sublist_cons_self _ _)
theorem pairwise_set {R : Item → Item → Prop} (hR : ∀ {a b}, R a b → R b a) {is : List Item} (h : is.Pairwise R) (k : Nat) (x : Item) (hx : ∀ j, j ≠ k → ∀ y, is[j]? = some y → R x y) : (is.set k x).Pairwise R := by
  rw [List.pairwise_iff_getElem] at h ⊢
  intro a b ha hb hab
  rw [List.length_set] at ha hb
  rw [List.getElem_set, List.getElem_set]
  by_cases e1 : k = a
  · rw [if_pos e1, if_neg (by omega)]
    exact hx b (by omega) _ (List.getElem?_eq_getElem hb)
  · rw [if_neg e1]
    by_cases e2 : k = b
    · rw [if_pos e2]; exact hR (hx a (by omega) _ (List.getElem?_eq_getElem ha))
    · rw [if_neg e2]; exact h a b ha hb hab
theorem Sep.at_apart {B : Nat} {w : World} {is : List Item} (h : Sep B w is) {k j : Nat} {i y : Item} (hk : is[k]? = some i) (hj : is[j]? = some y) (hne : j ≠ k) : ApartS i.v.ownBlock y.v.ownBlock := by
  obtain ⟨hk', rfl⟩ := List.getElem?_eq_some_iff.1 hk
  obtain ⟨hj', rfl⟩ := List.getElem?_eq_some_iff.1 hj
  have hp := List.pairwise_iff_getElem.1 h.apart
  rcases Nat.lt_or_gt_of_ne hne with hlt | hlt
  · exact (hp j k hj' hk' hlt).symm
  · exact hp k j hk' hj' hlt
/-- Row k has changed (and may lie in a new block now). -/
theorem Sep.set {α : Type} [Flat α] {B : Nat} {w w' : World} {is : List Item} {i : Item} {e : TypeId} {v : Value} {xs : List α} (h : Sep B w is) (k : Nat) (hk : is[k]? = some i) (hO : Own B w' e v xs) (hg : w.grownBy w' i.v.ownBlock)
    (hl : i.v.ownBlock = v.ownBlock ∨ v.ownBlock = some w.heap.size ∨ v.ownBlock = none) : Sep B w' (is.set k (ite' e v xs)) := by
  have hap : ∀ j, j ≠ k → ∀ y, is[j]? = some y → ApartS v.ownBlock y.v.ownBlock := by
    intro j hj y hy
    rcases hl with hl | hl | hl
    · rw [← hl]; exact h.at_apart hk hy hj
    · right
      intro e
      have hm := (h.own y (List.mem_of_getElem? hy)).lt w.heap.size (by rw [← e, hl])
      omega
    · exact Or.inl hl
  refine ⟨fun y hy => ?_, pairwise_set (fun h => h.symm) h.apart k _ (fun j hj y hy => hap j hj y hy)⟩
  obtain ⟨j, hj⟩ := List.mem_iff_getElem?.1 hy
  rw [List.getElem?_set] at hj
  by_cases e : k = j
  · rw [if_pos e] at hj
    split at hj
    · obtain rfl := Option.some.inj hj; exact hO
    · cases hj
  · rw [if_neg e] at hj
    exact (h.own y (List.mem_of_getElem? hj)).kept hg (h.at_apart hk hj (fun e' => e e'.symm)).symm
/-- One row of new memory: the world behind it, and what it holds. -/
theorem own_alloc {α : Type} [Flat α] (w : World) (t : TypeId) (cs : Array Value) (xs : List α) (h : cs.toList = flat xs) (hl : xs.length ≤ 1048576) : Own w.heap.size (w.alloc (.cells cs t)) t (.slice (some ⟨w.heap.size, 0, none⟩) xs.length xs.length) xs := by
  refine ⟨flat_length xs, .inr ⟨w.heap.size, xs.length, cs, rfl, Nat.le_refl _, heap_alloc_new _ _, Nat.le_refl _, by unfold maxLen; omega, ?_, ?_⟩⟩
  · rw [← Array.length_toList, h, flat_length]
  · rw [h, ← flat_length, List.take_length]
/-- Rows of the call's own; the world has only grown since w0. -/
structure Sp (w0 w : World) (is : List Item) : Prop where
  sep : Sep w0.heap.size w is
  up : Below w0.heap.size w0 w
theorem Sp.refl (w : World) : Sp w w [] := ⟨Sep.nil _ _, Below.refl _ _⟩
theorem Sp.get {α : Type} [Flat α] {w0 w : World} {is : List Item} {e : TypeId} {v : Value} {xs : List α} (h : Sp w0 w is) (k : Nat) (hk : is[k]? = some (ite' e v xs)) : Own w0.heap.size w e v xs := h.sep.get k hk
theorem Sp.later {w0 w w' : World} {is : List Item} (h : Sp w0 w is) (hb : Below w.heap.size w w') : Sp w0 w' is := ⟨h.sep.later hb, upw h.up hb⟩
theorem Sp.add {α : Type} [Flat α] {w0 w w' : World} {is : List Item} {e : TypeId} {v : Value} {xs : List α} (h : Sp w0 w is) (hb : Below w.heap.size w w') (hO : Own w.heap.size w' e v xs) : Sp w0 w' (ite' e v xs :: is) := ⟨h.sep.add h.up.size hb hO, upw h.up hb⟩
theorem Sp.sub {w0 w : World} {is js : List Item} (h : Sp w0 w is) (hs : js.Sublist is) : Sp w0 w js := ⟨h.sep.sub hs, h.up⟩
theorem Sp.tail {w0 w : World} {i : Item} {is : List Item} (h : Sp w0 w (i :: is)) : Sp w0 w is := ⟨h.sep.tail, h.up⟩
theorem Sp.set {α : Type} [Flat α] {w0 w w' : World} {is : List Item} {i : Item} {e : TypeId} {v : Value} {xs : List α} (h : Sp w0 w is) (k : Nat) (hk : is[k]? = some i) (hO : Own w0.heap.size w' e v xs) (hg : w.grownBy w' i.v.ownBlock)
    (hl : i.v.ownBlock = v.ownBlock ∨ v.ownBlock = some w.heap.size ∨ v.ownBlock = none) : Sp w0 w' (is.set k (ite' e v xs)) :=
  ⟨h.sep.set k hk hO hg hl, h.up.grown hg h.up.size (fun j hj => ((h.sep.own i (List.mem_of_getElem? hk)).lt j hj).1)⟩
/-- The same beside a source of choices behind g. -/
structure Dr (w0 w : World) (g M : Nat) (is : List Item) : Prop where
  src : SrcAt w g M
  sep : Sep w0.heap.size w is
  up : w0.grownBy w (some g)
  lt : g < w0.heap.size
theorem Dr.start {w : World} {g M : Nat} (h : SrcAt w g M) : Dr w w g M [] := ⟨h, Sep.nil _ _, World.grownBy.refl _ _, h.lt⟩
theorem Dr.less {w0 w : World} {g M M' : Nat} {is : List Item} (h : Dr w0 w g M is) (hm : M' ≤ M) : Dr w0 w g M' is := ⟨h.src.less hm, h.sep, h.up, h.lt⟩
theorem Dr.get {α : Type} [Flat α] {w0 w : World} {g M : Nat} {is : List Item} {e : TypeId} {v : Value} {xs : List α} (h : Dr w0 w g M is) (k : Nat) (hk : is[k]? = some (ite' e v xs)) : Own w0.heap.size w e v xs := h.sep.get k hk
theorem Dr.later {w0 w w' : World} {g M : Nat} {is : List Item} (h : Dr w0 w g M is) (hb : Below w.heap.size w w') : Dr w0 w' g M is := ⟨h.src.later hb, h.sep.later hb, grownBy_trans h.up (drew_below g hb), h.lt⟩
theorem Dr.drew {w0 w w' : World} {g M M' : Nat} {is : List Item} (h : Dr w0 w g M is) (hS : SrcAt w' g M') (hg : w.grownBy w' (some g)) : Dr w0 w' g M' is := ⟨hS, h.sep.drew h.lt hg, grownBy_trans h.up hg, h.lt⟩
theorem Dr.add {α : Type} [Flat α] {w0 w w' : World} {g M : Nat} {is : List Item} {e : TypeId} {v : Value} {xs : List α} (h : Dr w0 w g M is) (hb : Below w.heap.size w w') (hO : Own w.heap.size w' e v xs) : Dr w0 w' g M (ite' e v xs :: is) :=
  ⟨h.src.later hb, h.sep.add h.up.size hb hO, grownBy_trans h.up (drew_below g hb), h.lt⟩
/-- A row that a call has made while it drew. -/
theorem Dr.made {α : Type} [Flat α] {w0 w w' : World} {g M M' : Nat} {is : List Item} {e : TypeId} {v : Value} {xs : List α} (h : Dr w0 w g M is) (hS : SrcAt w' g M') (hg : w.grownBy w' (some g)) (hO : Own w.heap.size w' e v xs) : Dr w0 w' g M' (ite' e v xs :: is) := by
  have h1 := h.drew hS hg
  refine ⟨hS, ⟨fun i hi => ?_, List.Pairwise.cons (fun j hj => ?_) h1.sep.apart⟩, h1.up, h.lt⟩
  · rcases List.mem_cons.1 hi with rfl | hi
    · exact hO.base h.up.size
    · exact h1.sep.own i hi
  · cases hv : v.ownBlock with
    | none => exact Or.inl hv
    | some k =>
      right; intro e
      have e1 : some k = j.v.ownBlock := hv.symm.trans e
      have := (h.sep.own j hj).lt k e1.symm
      have := hO.lt k hv
      omega
theorem Dr.sub {w0 w : World} {g M : Nat} {is js : List Item} (h : Dr w0 w g M is) (hs : js.Sublist is) : Dr w0 w g M js := ⟨h.src, h.sep.sub hs, h.up, h.lt⟩
theorem Dr.tail {w0 w : World} {g M : Nat} {i : Item} {is : List Item} (h : Dr w0 w g M (i :: is)) : Dr w0 w g M is := ⟨h.src, h.sep.tail, h.up, h.lt⟩
theorem Dr.set {α : Type} [Flat α] {w0 w w' : World} {g M : Nat} {is : List Item} {i : Item} {e : TypeId} {v : Value} {xs : List α} (h : Dr w0 w g M is) (k : Nat) (hk : is[k]? = some i) (hO : Own w0.heap.size w' e v xs) (hg : w.grownBy w' i.v.ownBlock)
    (hl : i.v.ownBlock = v.ownBlock ∨ v.ownBlock = some w.heap.size ∨ v.ownBlock = none) : Dr w0 w' g M (is.set k (ite' e v xs)) := by
  have hlt := fun j hj => ((h.sep.own i (List.mem_of_getElem? hk)).lt j hj).1
  have hgl := h.lt
  refine ⟨h.src.kept hg (fun j hj => by have := hlt j hj; omega), h.sep.set k hk hO hg hl, ?_, h.lt⟩
  exact ⟨hg.os.trans h.up.os, hg.tape.trans h.up.tape, hg.output.trans h.up.output, Nat.le_trans h.up.size hg.size, fun j hj hne => (hg.block j (Nat.lt_of_lt_of_le hj h.up.size) fun e => by have := hlt j e.symm; omega).trans (h.up.block j hj hne)⟩
/-- Behind an append: the row may lie in a new block. -/
theorem Dr.push {α : Type} [Flat α] {w0 w w' : World} {g M : Nat} {is : List Item} {i : Item} {e : TypeId} {g' n cap : Nat} {ys : List α} (h : Dr w0 w g M is) (k : Nat) (hk : is[k]? = some i) (hO : Own w0.heap.size w' e (.slice (some ⟨g', 0, none⟩) n cap) ys) (hg : w.grownBy w' i.v.ownBlock)
    (hl : i.v.ownBlock = some g' ∨ g' = w.heap.size) : Dr w0 w' g M (is.set k (ite' e (.slice (some ⟨g', 0, none⟩) n cap) ys)) :=
  h.set k hk hO hg (hl.elim Or.inl fun h => Or.inr (Or.inl (by rw [← h]; rfl)))
theorem Sp.push {α : Type} [Flat α] {w0 w w' : World} {is : List Item} {i : Item} {e : TypeId} {g' n cap : Nat} {ys : List α} (h : Sp w0 w is) (k : Nat) (hk : is[k]? = some i) (hO : Own w0.heap.size w' e (.slice (some ⟨g', 0, none⟩) n cap) ys) (hg : w.grownBy w' i.v.ownBlock)
    (hl : i.v.ownBlock = some g' ∨ g' = w.heap.size) : Sp w0 w' (is.set k (ite' e (.slice (some ⟨g', 0, none⟩) n cap) ys)) :=
  h.set k hk hO hg (hl.elim Or.inl fun h => Or.inr (Or.inl (by rw [← h]; rfl)))
/-- A new row of one cell or more. -/
theorem Dr.alloc {α : Type} [Flat α] {w0 w : World} {g M : Nat} {is : List Item} (h : Dr w0 w g M is) (t : TypeId) (cs : Array Value) (xs : List α) (hc : cs.toList = flat xs) (hl : xs.length ≤ 1048576) : Dr w0 (w.alloc (.cells cs t)) g M (ite' t (.slice (some ⟨w.heap.size, 0, none⟩) xs.length xs.length) xs :: is) :=
  h.add (newB _ _) (own_alloc w t cs xs hc hl)
theorem Sp.alloc {α : Type} [Flat α] {w0 w : World} {is : List Item} (h : Sp w0 w is) (t : TypeId) (cs : Array Value) (xs : List α) (hc : cs.toList = flat xs) (hl : xs.length ≤ 1048576) : Sp w0 (w.alloc (.cells cs t)) (ite' t (.slice (some ⟨w.heap.size, 0, none⟩) xs.length xs.length) xs :: is) :=
  h.add (newB _ _) (own_alloc w t cs xs hc hl)
end Go.Proofs.YtaeinllbjkjhlaaGreatDoor
