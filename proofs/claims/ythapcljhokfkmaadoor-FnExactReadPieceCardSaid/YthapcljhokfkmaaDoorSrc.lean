/- The source of choices: what its functions answer. -/
import Derived.Test.YthapcljhokfkmaaDoorInts
import Derived.Test.YthapcljhokfkmaaDoorSmall
import Derived.Test.YthapcljhokfkmaaDoorNum
import Derived.Laws.BitsAllLaws
namespace Go.Proofs.YthapcljhokfkmaaDoor
open Go.RowKit

instance : Flat UInt8 := ⟨1, by decide, fun x => [.int .u8 (x.toNat : Int)], fun _ => rfl, fun x u h => by simp at h; subst h; rfl, fun _ => True⟩
theorem At.byte {w : World} {b off : Nat} {xs : List UInt8} (h : At w (some ⟨b, off, none⟩) xs) {i : Nat} (hi : i < xs.length) : w.cell? ⟨b, off + i, none⟩ = some (.int .u8 (xs[i].toNat : Int)) := by
  obtain ⟨cs, hr, hc⟩ := h.elem hi
  have h0 := hc 0 (.int .u8 (xs[i].toNat : Int)) (by rw [hr]; rfl)
  simpa [Rep.k, Flat.k] using h0
/-- A value of one cell. -/
def OneCell := { v : Value // v.oneCell' = true }
instance : Flat OneCell := ⟨1, by decide, fun x => [x.1], fun _ => rfl, fun x u h => by simp at h; subst h; exact x.2, fun _ => True⟩
/-- A source's cells. -/
def srcCells (ca : Option Addr) (n cc : Nat) (p sd : Int) : List OneCell := [⟨.slice ca n cc, rfl⟩, ⟨.int .i64 p, rfl⟩, ⟨.int .u64 sd, rfl⟩]
theorem own_one {B : Nat} {w : World} {e : TypeId} {g n c : Nat} {xs : List OneCell} (h : Own B w e (.slice (some ⟨g, 0, none⟩) n c) xs) {i : Nat} (hi : i < xs.length) : w.cell? ⟨g, i, none⟩ = some xs[i].1 := by
  obtain ⟨cs, hr, hc⟩ := h.at'.elem hi
  have h0 := hc 0 xs[i].1 (by rw [hr]; rfl)
  simpa [Rep.k, Flat.k] using h0
theorem src_cells {B : Nat} {w : World} {e : TypeId} {g n c : Nat} {ca : Option Addr} {k cc : Nat} {p sd : Int} (h : Own B w e (.slice (some ⟨g, 0, none⟩) n c) (srcCells ca k cc p sd)) :
    w.cell? ⟨g, 0, none⟩ = some (.slice ca k cc) ∧ w.cell? ⟨g, 1, none⟩ = some (.int .i64 p) ∧ w.cell? ⟨g, 2, none⟩ = some (.int .u64 sd) :=
  ⟨own_one h (i := 0) (by show 0 < 3; omega), own_one h (i := 1) (by show 1 < 3; omega), own_one h (i := 2) (by show 2 < 3; omega)⟩
/-- An address lies in another block. -/
def Off (a : Option Addr) (g : Nat) : Prop := ∀ b o, a = some ⟨b, o, none⟩ → b ≠ g
theorem At.off {α : Type} [Rep α] {w w' : World} {a : Option Addr} {xs : List α} {g : Nat} (h : At w a xs) (ho : xs = [] ∨ Off a g) (hf : ∀ {w w' : World} {x : α} {cs}, Rep.rep w x cs → Rep.rep w' x cs) (hg : w.grownBy w' (some g)) : At w' a xs := by
  rcases h with h | ⟨b, off, ha, hlt, h⟩
  · exact Or.inl h
  · refine Or.inr ⟨b, off, ha, Nat.lt_of_lt_of_le hlt hg.size, fun i hi => ?_⟩
    replace ho : Off a g := ho.resolve_left (fun k => by rw [k] at hi; simp at hi)
    obtain ⟨cs, hr, hc⟩ := h i hi
    refine ⟨cs, hf hr, fun j v hv => ?_⟩
    have hk := hc j v hv
    have hb := hg.block b hlt (by simpa using ho b off ha)
    unfold World.cell? at hk ⊢
    simp only [hb]
    exact hk
theorem At.offF {α : Type} [Flat α] {w w' : World} {a : Option Addr} {xs : List α} {g : Nat} (h : At w a xs) (ho : xs = [] ∨ Off a g) (hg : w.grownBy w' (some g)) : At w' a xs := h.off ho (fun h => h) hg
/-- An address lies in an elder block. -/
def Ahead (a : Option Addr) (g : Nat) : Prop := ∀ b o, a = some ⟨b, o, none⟩ → b < g
theorem Ahead.off {a : Option Addr} {g k : Nat} (h : Ahead a g) (hk : g ≤ k) : Off a k := fun b o e => by have := h b o e; omega
/-- What the call owns behind the source stays when something is drawn. -/
theorem Own.drew {α : Type} [Flat α] {B g : Nat} {w w' : World} {e : TypeId} {v : Value} {xs : List α} (h : Own B w e v xs) (hB : g < B) (hg : w.grownBy w' (some g)) : Own B w' e v xs := by
  refine h.kept hg ?_
  cases hv : v.ownBlock with
  | none => exact Or.inl rfl
  | some k => have := h.lt k hv; refine Or.inr fun e => ?_; simp at e; omega
/-- Only the source's block has turned; the rest has grown. -/
theorem drew_below {w w' : World} (g : Nat) (hb : Below w.heap.size w w') : w.grownBy w' (some g) := ⟨hb.os, hb.tape, hb.output, hb.size, fun k hk _ => hb.block k hk⟩
theorem drew_up {w0 w w' : World} {g : Nat} (h : Below w0.heap.size w0 w) (hg : w.grownBy w' (some g)) (h0 : w0.heap.size ≤ g) : Below w0.heap.size w0 w' := h.grown hg h.size (fun k hk => by simp at hk; omega)
theorem u64_lo (z : Int) : 0 ≤ IntKind.u64.wrap z := by
  have : IntKind.u64.wrap z = z % 18446744073709551616 := by simp [IntKind.wrap, IntKind.bits, IntKind.signed]
  omega
theorem u64_hi (z : Int) : IntKind.u64.wrap z < 18446744073709551616 := by
  have : IntKind.u64.wrap z = z % 18446744073709551616 := by simp [IntKind.wrap, IntKind.bits, IntKind.signed]
  omega
/-- A list of written numbers. -/
theorem at_lits (w : World) (t : TypeId) (xs : List Int) : At (w.alloc (.cells (xs.map (Value.int .i64)).toArray t)) (some ⟨w.heap.size, 0, none⟩) xs := by
  refine Or.inr ⟨w.heap.size, 0, rfl, by simp, fun i hi => ⟨_, rfl, fun j v hv => ?_⟩⟩
  obtain rfl : j = 0 := by
    have h1 : j < 1 := (List.getElem?_eq_some_iff.1 hv).1
    omega
  have hv' : v = .int .i64 xs[i] := by
    have h2 : ([Value.int .i64 xs[i]] : List Value)[0]? = some v := hv
    simpa using h2.symm
  subst hv'
  rw [cell_of_row _ _ _ _ t (0, 0) (heap_alloc_new _ _)]
  simp [Rep.k, Flat.k, hi]
theorem off_new {w : World} {g : Nat} (h : g < w.heap.size) : Off (some ⟨w.heap.size, 0, none⟩) g := fun b o e => by simp at e; omega
theorem At.tail {w : World} {b : Nat} {xs : List Int} (h : At w (some ⟨b, 0, none⟩) xs) : At w (some ⟨b, 1, none⟩) (xs.drop 1) := by
  cases xs with
  | nil => exact Or.inl rfl
  | cons x xs =>
    rcases h with h | ⟨b', off, e, hlt, h⟩
    · cases h
    · simp only [Option.some.injEq, Addr.mk.injEq, and_true] at e
      obtain ⟨rfl, rfl⟩ := e
      refine Or.inr ⟨b, 1, rfl, hlt, fun i hi => ?_⟩
      obtain ⟨cs, hr, hc⟩ := h (i + 1) (by simpa using hi)
      refine ⟨cs, by simpa using hr, fun j v hv => ?_⟩
      have := hc j v hv
      simpa [Rep.k, Flat.k, Nat.add_comm, Nat.add_left_comm] using this
end Go.Proofs.YthapcljhokfkmaaDoor
