/- Appends to a row that the call owns, at an operation of a region that draws its order. Nothing of the program stands here. -/
import Derived.Test.YtlaclknhenccdaaBase
import Derived.Deep.AppendLies
namespace Go.Proofs.Ytlaclknhenccdaa
open Go.RowKit

section
variable {P : Program} {o : Oper} {a : Act} {w : World} {K : Act → World → Prop} {Q : Exit → Act → World → Prop}
/-- A guard ahead of a law for a store: it fits this store alone, and fails at once elsewhere. -/
theorem at_st {ops : Array Oper} {rest : List Oper} {d : Option Tmp} {t : TypeId} {p : String} {af : Array Go.Edge} (ty : TypeId) (x y : Operand) (h : wpList P ops Q ({ dst := d, op := .store ty x y, type := t, pos := p, after := af, guard := none } :: rest) a w) : wpList P ops Q ({ dst := d, op := .store ty x y, type := t, pos := p, after := af, guard := none } :: rest) a w := h
theorem wp_pushall {α : Type} [Flat α] (s x : Operand) (t : TypeId) (ho : o.op = .call { callee := .builtin .append, args := #[s, x], argTypes := #[t, t] })
    (B : Nat) (e : TypeId) (d : Value) (bytes : Nat) (ht : P.underlying t = some (.slice e)) (hi : (P.info? e).map (fun i => (i.zero, i.size, i.bytes)) = some (some d, Flat.k α, bytes)) (hzs : d.cells.size = Flat.k α)
    (v : Value) (xs ys : List α) (hs : a.eval s = v) (hown : Own B w e v xs) (sa : Option Addr) (c : Nat) (hx : a.eval x = .slice sa ys.length c) (hc : sa = none → c = 0) (hA : At w sa ys)
    (h63 : xs.length + ys.length ≤ 4294967296) (hby : bytes ≤ 1024) (hbase : B ≤ w.heap.size)
    (h : ∀ v' w', Own B w' e v' (xs ++ ys) → w.grownBy w' v.ownBlock → K (a.put o.dst v') w') : Oper.wp P o a w K Q := by
  have hi0 := hi
  obtain ⟨i, hi, hz0, hz1, hz2⟩ := info_parts hi
  cases sa with
  | none =>
    obtain rfl := hc rfl
    have hy : ys = [] := by
      rcases hA with h | ⟨b, off, h, _⟩
      · exact h
      · cases h
    subst hy
    have hrun := run_append_owned_none (P := P) (w := w) B t o.type e i (Flat.k α) ht hi v xs.length (flat xs) hown
    unfold Oper.wp
    have hx' : a.eval x = .slice none 0 0 := hx
    simp [execOp, ho, resolve, invoke, builtin, hs, hx', hrun, Result.andThen]
    exact h v w (by simpa using hown) (World.grownBy.refl _ _)
  | some ad =>
    refine wp_append_own w s x t ho B e i d (Flat.k α) bytes ht hi hz0 hz1 hz2 hzs Flat.pos v xs.length (flat xs) hs hown ad ys.length c (flat ys) hx (flat_length ys) (fun j u hu => ?_) (fun u hu => ?_) (by unfold maxLen; omega) ?_ hbase (fun v' w' h1 h2 _ => h v' w' ?_ h2)
    · have hy : ys ≠ [] := by intro e; subst e; simp [flat] at hu
      obtain ⟨b, off, ha⟩ := hA.addr (List.length_pos_iff.2 hy)
      simp only [Option.some.injEq] at ha
      subst ha
      rw [Go.WideShapes.add_plain]
      exact hA.cells j u hu
    · obtain ⟨z, _, hz⟩ := List.mem_flatMap.1 hu
      exact Flat.one z u hz
    · have : (xs.length + ys.length) * bytes ≤ 4294967296 * 1024 := Nat.mul_le_mul h63 hby
      omega
    · unfold Own
      rw [flat_append, List.length_append]
      exact h1
theorem wp_pushTo {α : Type} [Flat α] (s x : Operand) (t : TypeId) (ho : o.op = .call { callee := .builtin .append, args := #[s, x], argTypes := #[t, t] })
    (B : Nat) (e : TypeId) (d : Value) (bytes : Nat) (ht : P.underlying t = some (.slice e)) (hi : (P.info? e).map (fun i => (i.zero, i.size, i.bytes)) = some (some d, Flat.k α, bytes)) (hzs : d.cells.size = Flat.k α)
    (v : Value) (xs : List α) (z : α) (hs : a.eval s = v) (hown : Own B w e v xs) (g : Nat) (c : Nat) (hx : a.eval x = .slice (some ⟨g, 0, none⟩) 1 c) (te : TypeId) (hg : w.heap[g]? = some (.cells (Flat.el z).toArray te (0, 0)))
    (h63 : xs.length + 1 ≤ 4294967296) (hby : bytes ≤ 1024) (hbase : B ≤ w.heap.size)
    (h : ∀ g' cap w', Own B w' e (.slice (some ⟨g', 0, none⟩) (xs.length + 1) cap) (xs ++ [z]) → w.grownBy w' v.ownBlock → (v.ownBlock = some g' ∨ g' = w.heap.size) → K (a.put o.dst (.slice (some ⟨g', 0, none⟩) (xs.length + 1) cap)) w') : Oper.wp P o a w K Q := by
  obtain ⟨i, hi, hz0, hz1, hz2⟩ := info_parts hi
  refine wp_append_lies w s x t ho B e i d (Flat.k α) bytes ht hi hz0 hz1 hz2 hzs Flat.pos v xs.length (flat xs) hs hown ⟨g, 0, none⟩ 1 c (Flat.el z) hx (by rw [Flat.len]; omega) (fun j u hu => ?_) (Flat.one z) Nat.one_pos (by unfold maxLen; omega) ?_ hbase w.heap.size rfl (fun g' cap w' h1 h2 h3 _ => h g' cap w' ?_ h2 h3)
  · rw [Go.WideShapes.add_plain, Nat.zero_add, cell_of_row w g j _ te (0, 0) hg]
    simpa using hu
  · have : (xs.length + 1) * bytes ≤ 4294967296 * 1024 := Nat.mul_le_mul h63 hby
    omega
  · unfold Own
    rw [flat_append, List.length_append]
    simpa [flat] using h1
end
end Go.Proofs.Ytlaclknhenccdaa
