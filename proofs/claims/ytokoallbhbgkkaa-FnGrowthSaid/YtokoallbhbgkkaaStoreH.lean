/- A store into a row that the call owns, in a region that draws its order. Nothing of the program stands here. -/
import Derived.Test.YtokoallbhbgkkaaBase
namespace Go.Proofs.Ytokoallbhbgkkaa
open Go.RowKit

section
variable {P : Program} {o : Oper} {a : Act} {w : World} {K : Act → World → Prop} {Q : Exit → Act → World → Prop}
/-- A store of a whole element into a row that the call owns. -/
theorem wp_store_own {α : Type} [Flat α] (ty : TypeId) (x y : Operand) (ho : o.op = .store ty x y) (B : Nat) (e : TypeId) (g cap n : Nat) (ys : List α) (i j : Nat) (z : α)
    (hx : a.eval x = .pointer (some ⟨g, j, none⟩)) (hj : j = i * Flat.k α) (hy : (a.eval y).cells.toList = Flat.el z) (hi : (P.info? ty).map (·.size) = some (Flat.k α))
    (hn : n = ys.length) (hown : Own B w e (.slice (some ⟨g, 0, none⟩) n cap) ys) (hlt : i < ys.length)
    (h : ∀ w', Own B w' e (.slice (some ⟨g, 0, none⟩) n cap) (ys.set i z) → w.grownBy w' (some g) → K (a.put o.dst undef) w') : Oper.wp P o a w K Q := by
  subst hn
  subst hj
  have hown' := hown
  rcases hown'.2 with ⟨h', _⟩ | ⟨g', cap', cur, h', hb, hg, hnc, hcm, hcs, htake⟩
  · simp at h'
  · simp only [Value.slice.injEq, Option.some.injEq, Addr.mk.injEq, and_true, true_and] at h'
    obtain ⟨rfl, rfl⟩ := h'
    have hk : (i + 1) * Flat.k α ≤ ys.length * Flat.k α := Nat.mul_le_mul_right _ hlt
    have hk2 : ys.length * Flat.k α ≤ cap * Flat.k α := Nat.mul_le_mul_right _ hnc
    have hk3 : (i + 1) * Flat.k α = i * Flat.k α + Flat.k α := by rw [Nat.add_mul]; omega
    have hlz : (a.eval y).cells.toList.length = Flat.k α := by rw [hy, Flat.len]
    have hst := run_storeCells_at P g (i * Flat.k α) e (a.eval y).cells.toList 0 cur w hg (by rw [hlz]; omega) (by rw [hy]; exact Flat.one z)
    simp only [Nat.add_zero] at hst
    cases hq : P.info? ty with
    | none => simp [hq] at hi
    | some ti =>
      have hs : (a.eval y).cells.size = ti.size := by rw [← Array.length_toList, hlz]; simp [hq] at hi; omega
      have hrun : (storeVar ty ⟨g, i * Flat.k α, none⟩ (a.eval y)).run P w = .ok () (w.setRow g (cur.toList.take (i * Flat.k α) ++ (a.eval y).cells.toList ++ cur.toList.drop (i * Flat.k α + (a.eval y).cells.toList.length)).toArray) := by
        simp [storeVar, sizeOf, typeInfo, hq, hs, hst]
      unfold Oper.wp execOp
      simp only [ho, hx, Instr.storeAt, Instr.sureAddr, Sem.run_bind, Sem.run_pure, Result.andThen_ok, hrun]
      refine (h _ ?_ ⟨rfl, rfl, rfl, by simp, fun k _ hk => setRow_other w g k _ (fun e => hk (by simp [e]))⟩)
      unfold Own
      rw [List.length_set]
      refine ⟨?_, .inr ⟨g, cap, _, rfl, hb, setRow_heap w g cur _ e _ hg, hnc, hcm, ?_, ?_⟩⟩
      · rw [flat_length, List.length_set]
      · simp only [List.size_toArray, List.length_append, List.length_take, List.length_drop, Array.length_toList] at *
        omega
      · rw [flat_set ys z i hlt, hy, ← htake, Flat.len, hk3, List.toList_toArray]
        exact take_splice _ _ _ _ _ (Flat.len z) (by omega) (by rw [Array.length_toList]; show ys.length * Flat.k α ≤ cur.size; omega)
end
end Go.Proofs.Ytokoallbhbgkkaa
