/- Plain words for the walks of this set: how a list lies in memory, in a world that may have grown; nothing of the program stands here. -/
import Derived.WalkKit
import Derived.WalkSpells
import Derived.WalkLawsBesides
import Derived.BigQuiet
import Derived.Lib.QuietBelow
import Derived.Lib.Hide
import Derived.Deep.LoopGhost
import Derived.Deep.Slices
import Derived.Laws.AppendOwnNone
import Derived.Lib.SliceRun
import Derived.ProofKit
import Derived.OpenShut
namespace Go.Proofs.YtaeinllbjkjhlaaGreatDoor
open Go.RowKit

/-- How a value of a Go type lies in cells, as a value of a Lean type. -/
class Rep (α : Type) where
  k : Nat
  pos : 0 < k
  rep : World → α → List Value → Prop
  ok : α → Prop
  len : ∀ {w x cs}, rep w x cs → cs.length = k
  below : ∀ {w w' x cs}, Below w.heap.size w w' → rep w x cs → rep w' x cs

/-- A list lies behind an address, element by element. -/
def At {α : Type} [Rep α] (w : World) (a : Option Addr) (xs : List α) : Prop :=
  xs = [] ∨ ∃ b off, a = some ⟨b, off, none⟩ ∧ b < w.heap.size ∧ ∀ i, (h : i < xs.length) → ∃ cs, Rep.rep w xs[i] cs ∧ ∀ j v, cs[j]? = some v → w.cell? ⟨b, off + i * Rep.k α + j, none⟩ = some v

theorem At.nil {α : Type} [Rep α] (w : World) (a : Option Addr) : At w a ([] : List α) := Or.inl rfl

theorem At.below {α : Type} [Rep α] {w w' : World} {a : Option Addr} {xs : List α} (hb : Below w.heap.size w w') (h : At w a xs) : At w' a xs := by
  rcases h with h | ⟨b, off, ha, hlt, h⟩
  · exact Or.inl h
  · refine Or.inr ⟨b, off, ha, Nat.lt_of_lt_of_le hlt hb.size, fun i hi => ?_⟩
    obtain ⟨cs, hr, hc⟩ := h i hi
    exact ⟨cs, Rep.below hb hr, fun j v hv => by rw [hb.cell (p := ⟨b, _, none⟩) hlt]; exact hc j v hv⟩

theorem At.addr {α : Type} [Rep α] {w : World} {a : Option Addr} {xs : List α} (h : At w a xs) {i : Nat} (hi : i < xs.length) :
    ∃ b off, a = some ⟨b, off, none⟩ := by
  rcases h with h | ⟨b, off, h, _⟩
  · subst h; simp at hi
  · exact ⟨b, off, h⟩

theorem At.lt {α : Type} [Rep α] {w : World} {b off : Nat} {xs : List α} (h : At w (some ⟨b, off, none⟩) xs) {i : Nat} (hi : i < xs.length) : b < w.heap.size := by
  rcases h with h | ⟨b, off, h, h2, _⟩
  · subst h; simp at hi
  · cases h; exact h2

theorem At.elem {α : Type} [Rep α] {w : World} {b off : Nat} {xs : List α} (h : At w (some ⟨b, off, none⟩) xs) {i : Nat} (hi : i < xs.length) :
    ∃ cs, Rep.rep w xs[i] cs ∧ ∀ j v, cs[j]? = some v → w.cell? ⟨b, off + i * Rep.k α + j, none⟩ = some v := by
  rcases h with h | ⟨b, off, h, _, h2⟩
  · subst h; simp at hi
  · cases h; exact h2 i hi

/-- A type whose values are cells and lead to nothing else. -/
class Flat (α : Type) where
  k : Nat
  pos : 0 < k
  el : α → List Value
  len : ∀ x, (el x).length = k
  one : ∀ x, ∀ u ∈ el x, u.oneCell' = true
  ok : α → Prop

instance {α : Type} [Flat α] : Rep α where
  k := Flat.k α
  pos := Flat.pos
  rep _ x cs := cs = Flat.el x
  ok := Flat.ok
  len h := by rw [h]; exact Flat.len _
  below _ h := h

instance : Flat Int := ⟨1, Nat.one_pos, fun x => [.int .i64 x], fun _ => rfl, fun x u h => by simp at h; subst h; rfl, fun x => -9223372036854775808 ≤ x ∧ x ≤ 9223372036854775807⟩
instance : Flat Bool := ⟨1, Nat.one_pos, fun x => [.bool x], fun _ => rfl, fun x u h => by simp at h; subst h; rfl, fun _ => True⟩
instance : Flat ByteArray := ⟨1, Nat.one_pos, fun x => [.string x], fun _ => rfl, fun x u h => by simp at h; subst h; rfl, fun x => x.size ≤ 9223372036854775807⟩

/-- The cells of a list of flat elements. -/
def flat {α : Type} [Flat α] (xs : List α) : List Value := xs.flatMap Flat.el

theorem flat_length {α : Type} [Flat α] (xs : List α) : (flat xs).length = xs.length * Flat.k α := by
  induction xs with
  | nil => simp [flat]
  | cons x xs ih => simp only [flat, List.flatMap_cons, List.length_append, List.length_cons, Flat.len, Nat.add_mul, Nat.one_mul] at *; omega

theorem flat_append {α : Type} [Flat α] (xs ys : List α) : flat (xs ++ ys) = flat xs ++ flat ys := by simp [flat]

theorem flat_get {α : Type} [Flat α] (xs : List α) : ∀ (i : Nat) (h : i < xs.length) (j : Nat) (v : Value), (Flat.el xs[i])[j]? = some v → (flat xs)[i * Flat.k α + j]? = some v := by
  induction xs with
  | nil => intro i h; simp at h
  | cons x xs ih =>
    intro i h j v hv
    have hj : j < Flat.k α := by rw [← Flat.len ((x :: xs)[i])]; exact (List.getElem?_eq_some_iff.1 hv).1
    have hl := Flat.len x
    simp only [flat, List.flatMap_cons]
    cases i with
    | zero =>
      simp only [Nat.zero_mul, Nat.zero_add]
      rw [List.getElem?_append_left (by omega)]
      simpa using hv
    | succ i =>
      have h' : i < xs.length := by simpa using h
      rw [List.getElem?_append_right (by rw [hl, Nat.add_mul]; omega), hl]
      have := ih i h' j v (by simpa using hv)
      rw [show (i + 1) * Flat.k α + j - Flat.k α = i * Flat.k α + j from by rw [Nat.add_mul]; omega]
      exact this

/-- The call owns the row in which the list lies. -/
def Own {α : Type} [Flat α] (B : Nat) (w : World) (e : TypeId) (v : Value) (xs : List α) : Prop := w.ownsRow B e (Flat.k α) v xs.length (flat xs)

instance {α : Type} [Rep α] : Rep (List α) where
  k := 1
  pos := Nat.one_pos
  rep w x cs := ∃ a c, cs = [.slice a x.length c] ∧ At w a x
  ok x := x.length ≤ 9223372036854775807 ∧ ∀ y ∈ x, Rep.ok y
  len h := by obtain ⟨a, c, h, _⟩ := h; rw [h]; rfl
  below hb h := by obtain ⟨a, c, h, h2⟩ := h; exact ⟨a, c, h, h2.below hb⟩

theorem At.str {w : World} {b off : Nat} {xs : List ByteArray} (h : At w (some ⟨b, off, none⟩) xs) {i : Nat} (hi : i < xs.length) :
    w.cell? ⟨b, off + i, none⟩ = some (.string xs[i]) := by
  obtain ⟨cs, hr, hc⟩ := h.elem hi
  have h0 := hc 0 (.string xs[i]) (by rw [hr]; rfl)
  simpa [Rep.k, Flat.k] using h0

theorem Own.at {α : Type} [Flat α] {B : Nat} {w : World} {e : TypeId} {v : Value} {xs : List α} (h : Own B w e v xs) : ∃ a c, v = .slice a xs.length c ∧ At w a xs := by
  rcases h.2 with ⟨rfl, h0⟩ | ⟨g, cap, cur, rfl, hg, hh, hn, hm, hs, ht⟩
  · have h0' : xs = [] := List.eq_nil_of_length_eq_zero h0
    subst h0'
    exact ⟨none, 0, rfl, At.nil _ _⟩
  · refine ⟨_, _, rfl, Or.inr ⟨g, 0, rfl, (Array.getElem?_eq_some_iff.1 hh).1, fun i hi => ⟨_, rfl, fun j v hv => ?_⟩⟩⟩
    have hj : j < Flat.k α := by rw [← Flat.len xs[i]]; exact (List.getElem?_eq_some_iff.1 hv).1
    have hlt : i * Flat.k α + j < xs.length * Flat.k α := by
      have h1 : (i + 1) * Flat.k α ≤ xs.length * Flat.k α := Nat.mul_le_mul_right _ hi
      rw [Nat.add_mul] at h1; omega
    have hc := World.ownsRow.cellAt (w := w) (base := B) (e := e) (size := Flat.k α) (n := xs.length) (cap := cap) (g := g) (xs := flat xs) h (i * Flat.k α + j) hlt
    rw [show 0 + i * Rep.k α + j = i * Flat.k α + j from by simp [Rep.k]]
    rw [hc]
    exact flat_get xs i hi j v hv

/-- An int64 in a list, at its cell, in every world that has grown. -/
theorem At.int {w : World} {b off : Nat} {xs : List Int} (h : At w (some ⟨b, off, none⟩) xs) {i : Nat} (hi : i < xs.length) :
    w.cell? ⟨b, off + i, none⟩ = some (.int .i64 xs[i]) := by
  obtain ⟨cs, hr, hc⟩ := h.elem hi
  have h0 := hc 0 (.int .i64 xs[i]) (by rw [hr]; rfl)
  simpa [Rep.k, Flat.k] using h0

theorem made_flat {α : Type} [Flat α] (d : α) (z : Array Value) (hz : z.toList = Flat.el d) (n : Nat) : (madeCells z (n * Flat.k α)).toList = flat (List.replicate n d) := by
  have hk : z.size = Flat.k α := by rw [← Array.length_toList, hz, Flat.len]
  have hp : 0 < Flat.k α := Flat.pos
  apply List.ext_getElem
  · rw [flat_length]; simp [madeCells]
  · intro i h1 h2
    have hi : i < n * Flat.k α := by simpa [madeCells] using h1
    have hdiv : i / Flat.k α < n := Nat.div_lt_of_lt_mul (by rw [Nat.mul_comm]; exact hi)
    have hmod : i % Flat.k α < Flat.k α := Nat.mod_lt _ hp
    have hv : (Flat.el d)[i % Flat.k α]? = some z[i % z.size]! := by
      have h3 : i % z.size < z.size := by rw [hk]; exact hmod
      rw [← hz, ← hk, getElem!_pos z _ h3, Array.getElem?_toList, Array.getElem?_eq_getElem h3]
    have := flat_get (List.replicate n d) (i / Flat.k α) (by simpa using hdiv) (i % Flat.k α) _ (by simpa using hv)
    rw [show i / Flat.k α * Flat.k α + i % Flat.k α = i from by rw [Nat.mul_comm]; exact Nat.div_add_mod i _] at this
    rw [List.getElem?_eq_getElem h2, Option.some.injEq] at this
    rw [this]
    simp [madeCells]

theorem flat_set {α : Type} [Flat α] (xs : List α) (x : α) : ∀ (i : Nat), i < xs.length → flat (xs.set i x) = (flat xs).take (i * Flat.k α) ++ Flat.el x ++ (flat xs).drop ((i + 1) * Flat.k α) := by
  induction xs with
  | nil => intro i h; simp at h
  | cons y xs ih =>
    intro i h
    have hy := Flat.len y
    cases i with
    | zero => simp only [List.set_cons_zero, flat, List.flatMap_cons, Nat.zero_mul, List.take_zero, List.nil_append, Nat.zero_add, Nat.one_mul]; rw [← hy, List.drop_left]
    | succ i =>
      have := ih i (by simpa using h)
      simp only [List.set_cons_succ, flat, List.flatMap_cons] at this ⊢
      rw [this]
      have e1 : (i + 1) * Flat.k α = (Flat.el y).length + i * Flat.k α := by rw [hy, Nat.add_mul]; omega
      have e2 : (i + 1 + 1) * Flat.k α = (Flat.el y).length + (i + 1) * Flat.k α := by rw [hy, Nat.add_mul (i + 1)]; omega
      rw [e2, e1, List.take_length_add_append, List.drop_length_add_append]
      simp

/-- The list behind the first k elements of which have been laid. -/
def filled {α : Type} (d : α) (xs : List α) (k : Nat) : List α := xs.take k ++ List.replicate (xs.length - k) d
theorem filled_length {α : Type} (d : α) (xs : List α) (k : Nat) (h : k ≤ xs.length) : (filled d xs k).length = xs.length := by simp [filled]; omega
theorem filled_zero {α : Type} (d : α) (xs : List α) : filled d xs 0 = List.replicate xs.length d := by simp [filled]
theorem filled_full {α : Type} (d : α) (xs : List α) {k : Nat} (h : xs.length ≤ k) : filled d xs k = xs := by
  unfold filled; rw [List.take_of_length_le h, show xs.length - k = 0 from by omega]; simp
theorem filled_succ {α : Type} (d : α) (xs : List α) (k : Nat) (h : k < xs.length) : (filled d xs k).set k xs[k] = filled d xs (k + 1) := by
  have hk : (xs.take k).length = k := by simp; omega
  unfold filled
  rw [List.set_append_right _ _ (by omega), hk, Nat.sub_self, show xs.length - k = (xs.length - (k + 1)) + 1 from by omega, List.replicate_succ, List.set_cons_zero, List.take_succ_eq_append_getElem h, List.append_assoc]
  rfl

theorem take_splice {β : Type} (cur news : List β) (p m n : Nat) (hm : news.length = m) (h : p + m ≤ n) (hn : n ≤ cur.length) :
    (cur.take p ++ news ++ cur.drop (p + m)).take n = (cur.take n).take p ++ news ++ (cur.take n).drop (p + m) := by
  have h1 : (cur.take p ++ news).length = p + m := by rw [List.length_append, List.length_take, hm]; omega
  rw [List.take_take, Nat.min_eq_left (by omega), List.drop_take, List.take_append, h1, List.take_of_length_le (by omega)]

/-- What the call owns it owns in every later world. -/
theorem Own.later {α : Type} [Flat α] {B : Nat} {w w' : World} {e : TypeId} {v : Value} {xs : List α} (h : Own B w e v xs) (hb : Below w.heap.size w w') : Own B w' e v xs :=
  World.ownsRow.kept (row := none) h ⟨hb.os, hb.tape, hb.output, hb.size, fun k hk _ => hb.block k hk⟩ (by cases v.ownBlock <;> simp)

/-- An owned list is nil and empty, or lies at the head of a row. -/
theorem Own.cases {α : Type} [Flat α] {B : Nat} {w : World} {e : TypeId} {v : Value} {xs : List α} (h : Own B w e v xs) : (v = .slice none 0 0 ∧ xs = []) ∨ ∃ g cap, v = .slice (some ⟨g, 0, none⟩) xs.length cap := by
  rcases h.2 with ⟨rfl, h0⟩ | ⟨g, cap, cur, rfl, _⟩
  · exact Or.inl ⟨rfl, List.eq_nil_of_length_eq_zero h0⟩
  · exact Or.inr ⟨g, cap, rfl⟩

theorem Own.row {α : Type} [Flat α] {B : Nat} {w : World} {e : TypeId} {v : Value} {xs : List α} (h : Own B w e v xs) (hl : 0 < xs.length) : ∃ g cap, v = .slice (some ⟨g, 0, none⟩) xs.length cap := by
  rcases h.cases with ⟨_, rfl⟩ | h
  · simp at hl
  · exact h

theorem grownBy_trans {w1 w2 w3 : World} {row : Option Nat} (h : w1.grownBy w2 row) (k : w2.grownBy w3 row) : w1.grownBy w3 row :=
  ⟨k.os.trans h.os, k.tape.trans h.tape, k.output.trans h.output, Nat.le_trans h.size k.size, fun i hi hr => (k.block i (Nat.lt_of_lt_of_le hi h.size) hr).trans (h.block i hi hr)⟩

/-- What the call owns it owns behind a change of another row. -/
theorem Own.kept {α : Type} [Flat α] {B : Nat} {w w' : World} {e : TypeId} {v : Value} {xs : List α} {row : Option Nat} (h : Own B w e v xs) (hg : w.grownBy w' row) (hne : v.ownBlock = none ∨ v.ownBlock ≠ row) : Own B w' e v xs :=
  World.ownsRow.kept h hg hne
theorem Own.base {α : Type} [Flat α] {B B' : Nat} {w : World} {e : TypeId} {v : Value} {xs : List α} (h : Own B w e v xs) (hB : B' ≤ B) : Own B' w e v xs := by
  refine ⟨h.1, ?_⟩
  rcases h.2 with h2 | ⟨g, cap, cur, h1, h2, h3⟩
  · exact Or.inl h2
  · exact Or.inr ⟨g, cap, cur, h1, Nat.le_trans hB h2, h3⟩
theorem Own.lt {α : Type} [Flat α] {B : Nat} {w : World} {e : TypeId} {v : Value} {xs : List α} (h : Own B w e v xs) : ∀ k, v.ownBlock = some k → B ≤ k ∧ k < w.heap.size := World.ownsRow.lt h

theorem Own.at' {α : Type} [Flat α] {B : Nat} {w : World} {e : TypeId} {a : Option Addr} {n c : Nat} {xs : List α} (h : Own B w e (.slice a n c) xs) : At w a xs := by
  obtain ⟨a', c', he, hA⟩ := h.at
  simp only [Value.slice.injEq] at he
  obtain ⟨rfl, rfl, rfl⟩ := he
  exact hA
theorem Own.at_n {α : Type} [Flat α] {B : Nat} {w : World} {e : TypeId} {a : Option Addr} {n c : Nat} {xs : List α} (h : Own B w e (.slice a n c) xs) : At w a xs := h.at'
/-- Two owned lists of which the second was made later lie in two blocks. -/
theorem own_apart {α β : Type} [Flat α] [Flat β] {B B' : Nat} {w w' : World} {e e' : TypeId} {v v' : Value} {xs : List α} {ys : List β} (h : Own B w e v xs) (h' : Own B' w' e' v' ys) (hB : w.heap.size ≤ B') : v'.ownBlock = none ∨ v'.ownBlock ≠ v.ownBlock := by
  cases hv : v'.ownBlock with
  | none => exact Or.inl rfl
  | some k =>
    right; intro e
    have := h'.lt k hv
    have := h.lt k e.symm
    omega
theorem own_apart' {α β : Type} [Flat α] [Flat β] {B B' : Nat} {w w' : World} {e e' : TypeId} {v v' : Value} {xs : List α} {ys : List β} (h : Own B w e v xs) (h' : Own B' w' e' v' ys) (hB : w'.heap.size ≤ B) : v'.ownBlock = none ∨ v'.ownBlock ≠ v.ownBlock := by
  cases hv : v'.ownBlock with
  | none => exact Or.inl rfl
  | some k =>
    right; intro e
    have := h'.lt k hv
    have := h.lt k e.symm
    omega
theorem below_mark {α : Type} [Flat α] {B' : Nat} {w wn w' : World} {e : TypeId} {v : Value} {xs : List α} (hb : Below w.heap.size w wn) (hO : Own B' wn e v xs) (hB : w.heap.size ≤ B') (hg : wn.grownBy w' v.ownBlock) : Below w.heap.size w w' :=
  hb.grown hg hb.size (fun k hk => by have := (hO.lt k hk).1; omega)

section
variable {P : Program} {ops : Array Oper} {rest : List Oper} {o : Oper} {a : Act} {w : World} {Q : Exit → Act → World → Prop}

/-- A store of a whole element into a row that the call owns. -/
theorem wpList_store_own {α : Type} [Flat α] (hgd : o.guard = none) (ty : TypeId) (x y : Operand) (ho : o.op = .store ty x y) (B : Nat) (e : TypeId) (g cap n : Nat) (ys : List α) (i j : Nat) (z : α)
    (hx : a.eval x = .pointer (some ⟨g, j, none⟩)) (hj : j = i * Flat.k α) (hy : (a.eval y).cells.toList = Flat.el z) (hi : (P.info? ty).map (·.size) = some (Flat.k α))
    (hn : n = ys.length) (hown : Own B w e (.slice (some ⟨g, 0, none⟩) n cap) ys) (hlt : i < ys.length)
    (h : ∀ w', Own B w' e (.slice (some ⟨g, 0, none⟩) n cap) (ys.set i z) → w.grownBy w' (some g) → wpList P ops Q rest (a.put o.dst undef) w') : wpList P ops Q (o :: rest) a w := by
  subst hn
  subst hj
  refine wpList_plain hgd fun K hK => ?_
  have hown' := hown
  rcases hown'.2 with ⟨h', _⟩ | ⟨g', cap', cur, h', hb, hg, hnc, hcm, hcs, htake⟩
  · simp at h'
  · simp only [Value.slice.injEq, Option.some.injEq, Addr.mk.injEq, and_true, true_and] at h'
    obtain ⟨rfl, rfl⟩ := h'
    have hk : (i + 1) * Flat.k α ≤ ys.length * Flat.k α := Nat.mul_le_mul_right _ hlt
    have hk2 : ys.length * Flat.k α ≤ cap * Flat.k α := Nat.mul_le_mul_right _ hnc
    have hk3 : (i + 1) * Flat.k α = i * Flat.k α + Flat.k α := by rw [Nat.add_mul]; omega
    have hlz : (a.eval y).cells.toList.length = Flat.k α := by rw [hy, Flat.len]
    have hst := run_storeCells_at P g (i * Flat.k α) e (a.eval y).cells.toList 0 cur w hg (by rw [hlz]; omega) (by rw [hy]; exact Flat.one z)
    simp only [Nat.add_zero] at hst
    cases hq : P.info? ty with
    | none => simp [hq] at hi
    | some ti =>
      have hs : (a.eval y).cells.size = ti.size := by rw [← Array.length_toList, hlz]; simp [hq] at hi; omega
      have hrun : (storeVar ty ⟨g, i * Flat.k α, none⟩ (a.eval y)).run P w = .ok () (w.setRow g (cur.toList.take (i * Flat.k α) ++ (a.eval y).cells.toList ++ cur.toList.drop (i * Flat.k α + (a.eval y).cells.toList.length)).toArray) := by
        simp [storeVar, sizeOf, typeInfo, hq, hs, hst]
      unfold Oper.wp execOp
      simp only [ho, hx, Instr.storeAt, Instr.sureAddr, Sem.run_bind, Sem.run_pure, Result.andThen_ok, hrun]
      refine hK _ _ (h _ ?_ ⟨rfl, rfl, rfl, by simp, fun k _ hk => setRow_other w g k _ (fun e => hk (by simp [e]))⟩)
      unfold Own
      rw [List.length_set]
      refine ⟨?_, .inr ⟨g, cap, _, rfl, hb, setRow_heap w g cur _ e _ hg, hnc, hcm, ?_, ?_⟩⟩
      · rw [flat_length, List.length_set]
      · simp only [List.size_toArray, List.length_append, List.length_take, List.length_drop, Array.length_toList] at *
        omega
      · rw [flat_set ys z i hlt, hy, ← htake, Flat.len, hk3, List.toList_toArray]
        exact take_splice _ _ _ _ _ (Flat.len z) (by omega) (by rw [Array.length_toList]; show ys.length * Flat.k α ≤ cur.size; omega)
end

/-- The cells of a list, one behind the other. -/
theorem At.cells {α : Type} [Flat α] {w : World} {b off : Nat} {xs : List α} (h : At w (some ⟨b, off, none⟩) xs) : ∀ j u, (flat xs)[j]? = some u → w.cell? ⟨b, off + j, none⟩ = some u := by
  intro j u hu
  have hp : 0 < Flat.k α := Flat.pos
  have hj : j < xs.length * Flat.k α := by rw [← flat_length]; exact (List.getElem?_eq_some_iff.1 hu).1
  have hdiv : j / Flat.k α < xs.length := Nat.div_lt_of_lt_mul (by rw [Nat.mul_comm]; exact hj)
  have hmod : j % Flat.k α < Flat.k α := Nat.mod_lt _ hp
  obtain ⟨cs, hr, hc⟩ := h.elem hdiv
  have hr : cs = Flat.el xs[j / Flat.k α] := hr
  subst hr
  have hv : (Flat.el xs[j / Flat.k α])[j % Flat.k α]? = some ((Flat.el xs[j / Flat.k α])[j % Flat.k α]'(by rw [Flat.len]; exact hmod)) := List.getElem?_eq_getElem _
  have h1 := flat_get xs _ hdiv _ _ hv
  have h2 := hc _ _ hv
  have e : j / Flat.k α * Flat.k α + j % Flat.k α = j := by rw [Nat.mul_comm]; exact Nat.div_add_mod j _
  rw [e, hu, Option.some.injEq] at h1
  rw [h1, ← h2]
  congr 2
  simp only [Rep.k]
  omega

section
variable {P : Program} {ops : Array Oper} {rest : List Oper} {o : Oper} {a : Act} {w : World} {Q : Exit → Act → World → Prop}
/-- An append of one element to a list that the call owns. -/
theorem wpList_push {α : Type} [Flat α] (hgd : o.guard = none) (s x : Operand) (t : TypeId) (ho : o.op = .call { callee := .builtin .append, args := #[s, x], argTypes := #[t, t] })
    (B : Nat) (e : TypeId) (d : Value) (bytes : Nat) (ht : P.underlying t = some (.slice e)) (hi : (P.info? e).map (fun i => (i.zero, i.size, i.bytes)) = some (some d, Flat.k α, bytes)) (hzs : d.cells.size = Flat.k α)
    (v : Value) (xs : List α) (z : α) (hs : a.eval s = v) (hown : Own B w e v xs) (g : Nat) (c : Nat) (hx : a.eval x = .slice (some ⟨g, 0, none⟩) 1 c) (te : TypeId) (hg : w.heap[g]? = some (.cells (Flat.el z).toArray te (0, 0)))
    (h63 : xs.length + 1 ≤ 4294967296) (hby : bytes ≤ 1024) (hbase : B ≤ w.heap.size)
    (h : ∀ v' w', Own B w' e v' (xs ++ [z]) → w.grownBy w' v.ownBlock → wpList P ops Q rest (a.put o.dst v') w') : wpList P ops Q (o :: rest) a w := by
  obtain ⟨i, hi, hz0, hz1, hz2⟩ := info_parts hi
  refine wpList_append_own w hgd s x t ho B e i d (Flat.k α) bytes ht hi hz0 hz1 hz2 hzs Flat.pos v xs.length (flat xs) hs hown ⟨g, 0, none⟩ 1 c (Flat.el z) hx (by rw [Flat.len]; omega) (fun j u hu => ?_) (Flat.one z) (by unfold maxLen; omega) ?_ hbase (fun v' w' h1 h2 _ => h v' w' ?_ h2)
  · rw [Go.WideShapes.add_plain, Nat.zero_add, cell_of_row w g j _ te (0, 0) hg]
    simpa using hu
  · have : (xs.length + 1) * bytes ≤ 4294967296 * 1024 := Nat.mul_le_mul h63 hby
    omega
  · unfold Own
    rw [flat_append, List.length_append]
    simpa [flat] using h1
end

section
variable {P : Program} {ops : Array Oper} {rest : List Oper} {o : Oper} {a : Act} {w : World} {Q : Exit → Act → World → Prop}
/-- An append of a whole list to one that the call owns. -/
theorem wpList_pushall {α : Type} [Flat α] (hgd : o.guard = none) (s x : Operand) (t : TypeId) (ho : o.op = .call { callee := .builtin .append, args := #[s, x], argTypes := #[t, t] })
    (B : Nat) (e : TypeId) (d : Value) (bytes : Nat) (ht : P.underlying t = some (.slice e)) (hi : (P.info? e).map (fun i => (i.zero, i.size, i.bytes)) = some (some d, Flat.k α, bytes)) (hzs : d.cells.size = Flat.k α)
    (v : Value) (xs ys : List α) (hs : a.eval s = v) (hown : Own B w e v xs) (sa : Option Addr) (c : Nat) (hx : a.eval x = .slice sa ys.length c) (hc : sa = none → c = 0) (hA : At w sa ys)
    (h63 : xs.length + ys.length ≤ 4294967296) (hby : bytes ≤ 1024) (hbase : B ≤ w.heap.size)
    (h : ∀ v' w', Own B w' e v' (xs ++ ys) → w.grownBy w' v.ownBlock → wpList P ops Q rest (a.put o.dst v') w') : wpList P ops Q (o :: rest) a w := by
  have hi0 := hi
  obtain ⟨i, hi, hz0, hz1, hz2⟩ := info_parts hi
  cases sa with
  | none =>
    obtain rfl := hc rfl
    have hy : ys = [] := by
      rcases hA with h | ⟨b, off, h, _⟩
      · exact h
      · cases h
    subst hy
    refine wpList_append_own_none hgd s x t ho B e i (Flat.k α) ht hi v xs.length (flat xs) hs hown hx ?_
    exact h v w (by simpa using hown) (World.grownBy.refl _ _)
  | some ad =>
    refine wpList_append_own w hgd s x t ho B e i d (Flat.k α) bytes ht hi hz0 hz1 hz2 hzs Flat.pos v xs.length (flat xs) hs hown ad ys.length c (flat ys) hx (flat_length ys) (fun j u hu => ?_) (fun u hu => ?_) (by unfold maxLen; omega) ?_ hbase (fun v' w' h1 h2 _ => h v' w' ?_ h2)
    · have hy : ys ≠ [] := by intro e; subst e; simp [flat] at hu
      obtain ⟨b, off, ha⟩ := hA.addr (List.length_pos_iff.2 hy)
      simp only [Option.some.injEq] at ha
      subst ha
      rw [Go.WideShapes.add_plain]
      exact hA.cells j u hu
    · obtain ⟨z, _, hz⟩ := List.mem_flatMap.1 hu
      exact Flat.one z u hz
    · have : (xs.length + ys.length) * bytes ≤ 4294967296 * 1024 := Nat.mul_le_mul h63 hby
      omega
    · unfold Own
      rw [flat_append, List.length_append]
      exact h1

/-- A store of one cell of an element. -/
theorem wpList_store_field {α : Type} [Flat α] (hgd : o.guard = none) (ty : TypeId) (x y : Operand) (ho : o.op = .store ty x y) (B : Nat) (e : TypeId) (g cap n : Nat) (ys : List α) (i j f : Nat) (z0 z : α) (u : Value)
    (hx : a.eval x = .pointer (some ⟨g, j, none⟩)) (hj : j = i * Flat.k α + f) (hf : f < Flat.k α) (hy : a.eval y = u) (hu : u.cells = #[u]) (hz : Flat.el z = (Flat.el z0).set f u) (hi : (P.info? ty).map (·.size) = some 1)
    (hn : n = ys.length) (hown : Own B w e (.slice (some ⟨g, 0, none⟩) n cap) (ys.set i z0)) (hlt : i < ys.length)
    (h : ∀ w', Own B w' e (.slice (some ⟨g, 0, none⟩) n cap) (ys.set i z) → w.grownBy w' (some g) → wpList P ops Q rest (a.put o.dst undef) w') : wpList P ops Q (o :: rest) a w := by
  subst hn
  subst hj
  have hl1 : (ys.set i z0).length = ys.length := List.length_set
  have hown' := hown
  unfold Own at hown'
  rw [hl1] at hown'
  have hin : i * Flat.k α + f < ys.length * Flat.k α := by
    have h1 : (i + 1) * Flat.k α ≤ ys.length * Flat.k α := Nat.mul_le_mul_right _ hlt
    rw [Nat.add_mul] at h1; omega
  have h1u : u.oneCell' = true := Flat.one z u (by rw [hz]; exact List.mem_set (by rw [Flat.len z0]; exact hf) _)
  have hc0 := hown'.cellAt (i * Flat.k α + f) hin
  have hfz := hown'.frozenAt (i * Flat.k α + f)
  obtain ⟨hst, hgr⟩ := hown'.stored (i * Flat.k α + f) u
  have hcs : ∃ u0, w.cell? ⟨g, i * Flat.k α + f, none⟩ = some u0 := by
    rw [hc0]
    exact ⟨_, List.getElem?_eq_getElem (by rw [flat_length, hl1]; exact hin)⟩
  obtain ⟨u0, hcs⟩ := hcs
  refine wpList_plain hgd fun K hK => ?_
  have hrun : (storeVar ty ⟨g, i * Flat.k α + f, none⟩ u).run P w = .ok () (w.setCell ⟨g, i * Flat.k α + f, none⟩ u) := by
    cases hq : P.info? ty with
    | none => simp [hq] at hi
    | some ti =>
      have hs : ti.size = 1 := by simpa [hq] using hi
      have := run_store P w ⟨g, i * Flat.k α + f, none⟩ u .plain h1u
      simp [storeVar, sizeOf, typeInfo, hq, hs, hu, storeCells, this, hcs, hfz, Addr.add]
  unfold Oper.wp execOp
  simp only [ho, hx, hy, Instr.storeAt, Instr.sureAddr, Sem.run_bind, Sem.run_pure, Result.andThen_ok, hrun]
  refine hK _ _ (h _ ?_ hgr)
  unfold Own
  rw [List.length_set]
  have e : (flat (ys.set i z0)).set (i * Flat.k α + f) u = flat (ys.set i z) := by
    have hz0 : (Flat.el z0).length = Flat.k α := Flat.len z0
    have hl : ((flat ys).take (i * Flat.k α)).length = i * Flat.k α := by rw [List.length_take, flat_length]; omega
    rw [flat_set ys z0 i hlt, flat_set ys z i hlt, hz, List.append_assoc, List.append_assoc, List.set_append_right _ _ (by omega), hl, Nat.add_sub_cancel_left, List.set_append_left _ _ (by omega)]
  rw [← e]
  exact hst
end

/-- A new row of no elements. -/
theorem own_new {α : Type} [Flat α] (w : World) (e : TypeId) : Own w.heap.size (w.alloc (.cells #[] e)) e (.slice (some ⟨w.heap.size, 0, none⟩) 0 0) ([] : List α) :=
  World.ownsRow_made w #[] 0 (Nat.le_refl _) (by unfold maxLen; omega) (by simp)

/-- A list whose first i places have been written over. -/
def over {α : Type} (L xs : List α) (i : Nat) : List α := L.take i ++ xs.drop i
theorem over_length {α : Type} (L xs : List α) (i : Nat) (h : L.length = xs.length) : (over L xs i).length = xs.length := by simp [over]; omega
theorem over_zero {α : Type} (L xs : List α) : over L xs 0 = xs := by simp [over]
theorem over_full {α : Type} (L xs : List α) {i : Nat} (h : L.length = xs.length) (hi : xs.length ≤ i) : over L xs i = L := by
  unfold over; rw [List.take_of_length_le (by omega), List.drop_of_length_le hi]; simp
theorem over_succ {α : Type} (L xs : List α) (i : Nat) (hl : L.length = xs.length) (h : i < L.length) : (over L xs i).set i L[i] = over L xs (i + 1) := by
  have hk : (L.take i).length = i := by simp; omega
  unfold over
  rw [List.set_append_right _ _ (by omega), hk, Nat.sub_self, List.drop_eq_getElem_cons (by omega), List.set_cons_zero, List.take_succ_eq_append_getElem h, List.append_assoc]
  rfl
/-- A list by its places. -/
def gen {α : Type} (n : Nat) (f : Nat → α) : List α := (List.range n).map f
theorem gen_length {α : Type} (n : Nat) (f : Nat → α) : (gen n f).length = n := by simp [gen]
theorem gen_get {α : Type} (n : Nat) (f : Nat → α) (i : Nat) (h : i < (gen n f).length) : (gen n f)[i] = f i := by simp [gen]

/-- Behind a region that draws its order, walked once: the world has grown. -/
theorem grown_of {w w' : World} (h : ∃ p : Regrown, w' = Go.Sort.grow (redrawn w p.d) p.os) : Below w.heap.size w w' := by
  obtain ⟨p, rfl⟩ := h; exact below_regrown w p.d p.os

/-- A cell, in every world of such a region. -/
theorem rg {w : World} {a : Addr} {v : Value} (h : w.cell? a = some v) : ∀ p : Regrown, (Go.Sort.grow (redrawn w p.d) p.os).cell? a = some v :=
  fun p => cell_regrown h p.d p.os

theorem up {w w1 w2 : World} {B : Nat} (h : Below B w w1) (k : Below w1.heap.size w1 w2) (hB : B ≤ w1.heap.size) : Below B w w2 := h.trans (k.mono hB)
theorem upw {w w1 w2 : World} (h : Below w.heap.size w w1) (k : Below w1.heap.size w1 w2) : Below w.heap.size w w2 := h.trans (k.mono h.size)

theorem ret_int {k : IntKind} {a b : Int} (h : a = b) : Ending.returned (.int k a) = .returned (.int k b) := by rw [h]
theorem ret2_int {k k' : IntKind} {a b c d : Int} (h : a = b) (h' : c = d) : Ending.returned (.tuple #[.int k a, .int k' c]) = .returned (.tuple #[.int k b, .int k' d]) := by rw [h, h']
theorem ret_bool {a b : Bool} (h : a = b) : Ending.returned (.bool a) = .returned (.bool b) := by rw [h]

/-- A contract that leaves the world as it is, met in a region that draws its order. -/
theorem Calls.regrown_same {P : Program} {f : FuncId} {args : Array Value} {w : World} {d : Nat} {os : Array Obj} {v : Value}
    (h : Calls P f args (Go.Sort.grow (redrawn w d) os) fun e w' => e = .returned v ∧ Go.Sort.grow (redrawn w d) os = w') : Calls P f args (Go.Sort.grow (redrawn w d) os) fun e w'' => e = .returned v ∧ ∃ p : Regrown, w'' = Go.Sort.grow (redrawn w p.d) p.os :=
  h.mono fun _ _ ⟨he, hw⟩ => ⟨he, ⟨⟨d, os⟩, hw.symm⟩⟩
theorem Calls.grown_same {P : Program} {f : FuncId} {args : Array Value} {w : World} {v : Value} (h : Calls P f args w fun e w' => e = .returned v ∧ w = w') : Calls P f args w fun e w' => e = .returned v ∧ Below w.heap.size w w' :=
  h.mono fun _ _ ⟨he, hw⟩ => ⟨he, hw ▸ Below.refl _ _⟩

/-- 'For all i below n'. -/
def allUpto (n : Nat) (p : Nat → Bool) : Bool := (List.range n).all p
theorem allUpto_true {n : Nat} {p : Nat → Bool} (h : ∀ i, i < n → p i = true) : allUpto n p = true := by simp [allUpto]; exact h
theorem allUpto_false {n : Nat} {p : Nat → Bool} {i : Nat} (hi : i < n) (h : p i = false) : allUpto n p = false := by simp [allUpto]; exact ⟨i, hi, h⟩
theorem allUpto_iff {n : Nat} {p : Nat → Bool} : allUpto n p = true ↔ ∀ i, i < n → p i = true := by simp [allUpto]
theorem allUpto_congr {n : Nat} {p q : Nat → Bool} (h : ∀ i, i < n → p i = q i) : allUpto n p = allUpto n q := by
  rw [Bool.eq_iff_iff, allUpto_iff, allUpto_iff]; exact ⟨fun k i hi => h i hi ▸ k i hi, fun k i hi => (h i hi) ▸ k i hi⟩
/-- What has held so far. -/
def Sofar (p : Nat → Bool) (k : Nat) : Prop := ∀ j, j < k → p j = true
theorem sofar_zero {p : Nat → Bool} : Sofar p 0 := fun _ h => absurd h (Nat.not_lt_zero _)
theorem sofar_succ {p : Nat → Bool} {k : Nat} (h : Sofar p k) (hk : p k = true) : Sofar p (k + 1) := by
  intro j hj; rcases Nat.lt_succ_iff_lt_or_eq.1 hj with hj | hj
  · exact h j hj
  · subst hj; exact hk
theorem sofar_all {p : Nat → Bool} {n k : Nat} (h : Sofar p k) (hk : n ≤ k) : allUpto n p = true := allUpto_true fun i hi => h i (by omega)

/-- The first place at which a test says yes; -1 if there is none. -/
def firstIdx {α : Type} (p : α → Bool) (xs : List α) : Int := if xs.any p then (xs.findIdx p : Int) else -1
theorem firstIdx_none {α : Type} {p : α → Bool} {xs : List α} {k : Nat} (hk : xs.length ≤ k) (h : ∀ j, j < k → ∀ (h1 : j < xs.length), p xs[j] = false) : firstIdx p xs = -1 := by
  have : xs.any p = false := by
    rw [List.any_eq_false]; intro x hx
    obtain ⟨j, hj, rfl⟩ := List.mem_iff_getElem.1 hx
    simp [h j (by omega) hj]
  simp [firstIdx, this]
theorem firstIdx_some {α : Type} {p : α → Bool} {xs : List α} {k : Nat} (hk : k < xs.length) (h : ∀ j, j < k → ∀ (h1 : j < xs.length), p xs[j] = false) (hp : p xs[k] = true) : firstIdx p xs = k := by
  have h1 : xs.any p = true := List.any_eq_true.2 ⟨_, List.getElem_mem hk, hp⟩
  have h2 : xs.findIdx p = k := by
    rw [List.findIdx_eq hk]; exact ⟨hp, fun j hj => by simpa using h j hj (by omega)⟩
  simp [firstIdx, h1, h2]
theorem firstIdx_pos {α : Type} (p : α → Bool) (xs : List α) : decide (0 ≤ firstIdx p xs) = xs.any p := by
  cases h : xs.any p <;> simp [firstIdx, h]
/-- The first of n places at which a test says yes; -1 if there is none. -/
def firstAt (n : Nat) (p : Nat → Bool) : Int := firstIdx p (List.range n)
/-- At no place so far. -/
def Noneyet (p : Nat → Bool) (k : Nat) : Prop := ∀ j, j < k → p j = false
theorem noneyet_zero {p : Nat → Bool} : Noneyet p 0 := fun _ h => absurd h (Nat.not_lt_zero _)
theorem noneyet_succ {p : Nat → Bool} {k : Nat} (h : Noneyet p k) (hp : p k = false) : Noneyet p (k + 1) := by
  intro j hj; rcases Nat.lt_succ_iff_lt_or_eq.1 hj with hj | hj
  · exact h j hj
  · subst hj; exact hp
theorem firstAt_none {n k : Nat} {p : Nat → Bool} (hk : n ≤ k) (h : Noneyet p k) : firstAt n p = -1 :=
  firstIdx_none (k := k) (by simpa using hk) (fun j hj h1 => by rw [List.getElem_range]; exact h j hj)
theorem firstAt_some {n k : Nat} {p : Nat → Bool} (hk : k < n) (h : Noneyet p k) (hp : p k = true) : firstAt n p = k :=
  firstIdx_some (k := k) (by simpa using hk) (fun j hj h1 => by rw [List.getElem_range]; exact h j hj) (by rw [List.getElem_range]; exact hp)
/-- No element so far. -/
def Nosofar {α : Type} (p : α → Bool) (xs : List α) (k : Nat) : Prop := ∀ j, j < k → ∀ (h1 : j < xs.length), p xs[j] = false
theorem nosofar_zero {α : Type} {p : α → Bool} {xs : List α} : Nosofar p xs 0 := fun _ h => absurd h (Nat.not_lt_zero _)
theorem nosofar_succ {α : Type} {p : α → Bool} {xs : List α} {k : Nat} {hk : k < xs.length} (h : Nosofar p xs k) (hp : p xs[k] = false) : Nosofar p xs (k + 1) := by
  intro j hj h1; rcases Nat.lt_succ_iff_lt_or_eq.1 hj with hj | hj
  · exact h j hj h1
  · subst hj; exact hp
theorem nosofar_any {α : Type} {p : α → Bool} {xs : List α} {k : Nat} (h : Nosofar p xs k) (hk : xs.length ≤ k) : xs.any p = false := by
  rw [List.any_eq_false]; intro x hx
  obtain ⟨j, hj, rfl⟩ := List.mem_iff_getElem.1 hx
  simp [h j (by omega) hj]
/-- A function of the program is entered when it is called as a value. -/
def Enters (P : Program) (K : FuncId) : Prop := ∀ args w, (callFunc K args).run P w = .ok (.enter K args) w
theorem enters_of {P : Program} {f : FuncId} {fn : Func} (hf : P.funcs[f]? = some fn) (hname : (fn.name == "runtime.NumGoroutine") = false) (hb : fn.body.isNone = false) : Enters P f := by
  intro args w
  have h1 : fn.name ≠ "runtime.NumGoroutine" := by simpa using hname
  have h2 : fn.body = none ↔ False := by cases h : fn.body <;> simp_all
  simp [callFunc, hf, h1, h2]

/-- Two lists that agree so far. -/
def Upto {α : Type} (xs ys : List α) (k : Nat) : Prop := ∀ j, j < k → ∀ (h1 : j < xs.length) (h2 : j < ys.length), xs[j] = ys[j]
theorem upto_zero {α : Type} {xs ys : List α} : Upto xs ys 0 := fun _ h => absurd h (Nat.not_lt_zero _)
theorem upto_succ {α : Type} {xs ys : List α} {k : Nat} {h1 : k < xs.length} {h2 : k < ys.length} (h : Upto xs ys k) (he : xs[k] = ys[k]) : Upto xs ys (k + 1) := by
  intro j hj h1 h2
  rcases Nat.lt_succ_iff_lt_or_eq.1 hj with hj | hj
  · exact h j hj h1 h2
  · subst hj; exact he
theorem beq_of_upto {α : Type} [DecidableEq α] {xs ys : List α} {k : Nat} (hl : xs.length = ys.length) (hk : xs.length ≤ k) (h : Upto xs ys k) : (xs == ys) = true := by
  rw [beq_iff_eq]; exact List.ext_getElem hl fun i h1 h2 => h i (by omega) h1 h2
theorem beq_of_ne {α : Type} [DecidableEq α] {xs ys : List α} {k : Nat} (h1 : k < xs.length) (h2 : k < ys.length) (h : xs[k] ≠ ys[k]) : (xs == ys) = false := by
  rw [beq_eq_false_iff_ne] at *; intro e; subst e; exact h rfl
theorem beq_of_len {α : Type} [DecidableEq α] {xs ys : List α} (h : xs.length ≠ ys.length) : (xs == ys) = false := by
  rw [beq_eq_false_iff_ne]; intro e; subst e; exact h rfl

/-- Whatever reads as a value of type t lies as a value of the Lean type. -/
def Opens (P : Program) (t : TypeId) (α : Type) [Rep α] : Prop :=
  ∀ {H : Type} {enc : TypeId × Value → H} {w : World} {fuel : Nat} {cs : List Value} {x : DataW H × List MemPlace}, DataW.trod enc P w 0 (fun _ => true) true fuel t cs = some x → ∃ z : α, Rep.rep w z cs ∧ Rep.ok z

theorem opens_int {P : Program} {t : TypeId} (ht : P.underlying t = some (.int .i64)) : Opens P t Int := by
  intro H enc w fuel cs x h
  obtain ⟨n, hc, _, hw⟩ := DataW.trod_int ht h
  exact ⟨n, hc, bounds_i64 hw⟩
theorem opens_string {P : Program} {t : TypeId} (ht : P.underlying t = some .string) : Opens P t ByteArray := by
  intro H enc w fuel cs x h
  obtain ⟨s, hc, _, hw⟩ := DataW.trod_string ht h
  exact ⟨s, hc, by unfold maxLen at hw; exact hw⟩

theorem list_of {α : Type} {p : Nat → α → Prop} : ∀ n : Nat, (∀ i, i < n → ∃ x, p i x) → ∃ xs : List α, xs.length = n ∧ ∀ i (h : i < xs.length), p i xs[i]
  | 0, _ => ⟨[], rfl, fun i h => by simp at h⟩
  | n + 1, h => by
    obtain ⟨xs, hl, hx⟩ := list_of n (fun i hi => h i (by omega))
    obtain ⟨y, hy⟩ := h n (by omega)
    refine ⟨xs ++ [y], by simp [hl], fun i hi => ?_⟩
    by_cases hin : i < xs.length
    · rw [List.getElem_append_left hin]; exact hx i hin
    · have e : i = xs.length := by simp at hi; omega
      subst e; rw [List.getElem_append_right (by omega)]; simpa [hl] using hy

theorem opens_slice {P : Program} {t e : TypeId} {α : Type} [Rep α] (ht : P.underlying t = some (.slice e)) (hc : P.cellsOf e = Rep.k α) (he : Opens P e α) : Opens P t (List α) := by
  intro H enc w fuel cs x h
  rcases Go.Deep.open_slice ht h with ⟨rfl, _⟩ | ⟨a, len, cap, m, n, D, Pl, rfl, _, hl, hm, hmm, _, hx⟩
  · exact ⟨[], ⟨none, 0, rfl, At.nil _ _⟩, by simp [Rep.ok]⟩
  · have hlm : len ≤ m := by rw [hmm]; split <;> omega
    obtain ⟨xs, hxl, hp⟩ := list_of (p := fun i z => ∃ cs', w.cells? 0 (a.add (i * Rep.k α)) (Rep.k α) = some cs' ∧ Rep.rep w z cs' ∧ Rep.ok z) len (fun i hi => by
      obtain ⟨cs', h1, h2⟩ := hx i (by omega)
      obtain ⟨z, hz, hk⟩ := he h2
      rw [hc] at h1
      exact ⟨z, cs', h1, hz, hk⟩)
    have hlen : len ≤ 9223372036854775807 := by unfold maxLen at hm; omega
    refine ⟨xs, ⟨some a, cap, by rw [hxl], ?_⟩, by omega, fun y hy => ?_⟩
    · by_cases h0 : xs = []
      · exact Or.inl h0
      · have hpos : 0 < xs.length := List.length_pos_iff.2 h0
        obtain ⟨cs0, h1, h2, _⟩ := hp 0 hpos
        have hk0 : 0 < Rep.k α := Rep.pos
        have hc0 : w.cell? a = some (cs0[0]'(by rw [Rep.len h2]; exact hk0)) := by
          obtain ⟨_, hlen0, hcell⟩ := World.cells?_some h1
          have := hcell 0 hk0
          simpa [Addr.add, List.getElem?_eq_getElem (show 0 < cs0.length by rw [Rep.len h2]; exact hk0)] using this
        obtain ⟨b, off, spot⟩ := a
        obtain rfl : spot = none := World.cell?_spot hc0
        refine Or.inr ⟨b, off, rfl, World.block_lt_of_cell? w _ hc0, fun i hi => ?_⟩
        obtain ⟨cs', h1, h2, _⟩ := hp i hi
        refine ⟨cs', h2, fun j v hv => ?_⟩
        obtain ⟨_, hlen', hcell⟩ := World.cells?_some h1
        have hj : j < Rep.k α := by rw [← Rep.len h2]; exact (List.getElem?_eq_some_iff.1 hv).1
        have := hcell j hj
        rw [Go.Deep.add_add, Go.WideShapes.add_plain] at this
        rw [Nat.add_assoc, this]; exact hv
    · obtain ⟨i, hi, rfl⟩ := List.mem_iff_getElem.1 hy
      exact (hp i hi).choose_spec.2.2

/-- Each field of a struct takes one cell, in the fields' order. -/
def oneCells (P : Program) (t : TypeId) (fs : Array Field) : Bool :=
  P.cellsOf t == fs.size && (List.range fs.size).all fun i => match fs[i]? with | some f => f.offset == i && P.cellsOf f.type == 1 | none => false

theorem trod_fields {P : Program} {H : Type} {enc : TypeId × Value → H} {w : World} {fuel : Nat} {t : TypeId} {fs : Array Field} {cs : List Value} {x : DataW H × List MemPlace} (ht : P.underlying t = some (.struct fs)) (h1 : oneCells P t fs = true)
    (h : DataW.trod enc P w 0 (fun _ => true) true fuel t cs = some x) :
    cs.length = fs.size ∧ ∃ n, ∀ (i : Nat) f v, fs[i]? = some f → cs[i]? = some v → ∃ y, DataW.trod enc P w 0 (fun _ => true) true n f.type [v] = some y := by
  simp only [oneCells, Bool.and_eq_true, beq_iff_eq, List.all_eq_true, List.mem_range] at h1
  obtain ⟨xs, n, _, _, hl, hxl, hf⟩ := DataW.trod_struct ht h
  refine ⟨by rw [hl, h1.1], n, fun i f v hfi hv => ?_⟩
  have hi : i < fs.size := (Array.getElem?_eq_some_iff.1 hfi).1
  have := h1.2 i hi
  rw [hfi] at this
  simp only [Bool.and_eq_true, beq_iff_eq] at this
  have g := hf i f hfi
  rw [this.1, this.2] at g
  have hi' : i < cs.length := by rw [hl, h1.1]; exact hi
  have e : (cs.drop i).take 1 = [v] := by
    rw [List.drop_eq_getElem_cons hi']
    simp [List.getElem?_eq_getElem hi'] at hv
    simp [hv]
  rw [e, List.getElem?_eq_getElem (by omega)] at g
  exact ⟨_, g⟩

/-- A slice among the arguments. -/
theorem open_list {P : Program} {t e : TypeId} {α : Type} [Rep α] {H : Type} {enc : TypeId × Value → H} {w : World} {r : Reach} {b0 : Nat} {v : Value} {d : DataW H} {p : List MemPlace} (ht : P.underlying t = some (.slice e)) (ho : Opens P t (List α))
    (hv : Value.okWide P w r b0 t v) (h : DataW.Trod enc P w 0 (fun _ => true) true t v d p) : ∃ (a : Option Addr) (xs : List α) (c : Nat), v = .slice a xs.length c ∧ At w a xs ∧ xs.length ≤ 9223372036854775807 ∧ ∀ y ∈ xs, Rep.ok y := by
  obtain ⟨a, l, c, rfl⟩ := Go.WideShapes.okWide_slice ht hv
  obtain ⟨fuel, hf⟩ := h
  obtain ⟨xs, ⟨a', c', he, hA⟩, hk⟩ := ho hf
  simp [Value.cells] at he
  obtain ⟨rfl, rfl, rfl⟩ := he
  exact ⟨a, xs, c, rfl, hA, hk.1, hk.2⟩

/-- A contract's Bool, by its worth. -/
theorem as_bool {P : Program} {f : Nat} {args : Array Value} {w : World} {b r : Bool} (h : b = r) (k : Calls P f args w fun e w' => e = .returned (.bool b) ∧ w = w') : Calls P f args w fun e w' => e = .returned (.bool r) ∧ w = w' := by subst h; exact k
theorem as_boolB {P : Program} {f : Nat} {args : Array Value} {w : World} {b r : Bool} (h : b = r) (k : Calls P f args w fun e w' => e = .returned (.bool b) ∧ Below w.heap.size w w') : Calls P f args w fun e w' => e = .returned (.bool r) ∧ Below w.heap.size w w' := by subst h; exact k
end Go.Proofs.YtaeinllbjkjhlaaGreatDoor
