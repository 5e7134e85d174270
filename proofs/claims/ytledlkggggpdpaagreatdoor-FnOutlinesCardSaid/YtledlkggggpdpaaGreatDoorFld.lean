/- A store of one cell of an element into a row that the call owns. -/
import Derived.Test.YtledlkggggpdpaaGreatDoorBase
namespace Go.Proofs.YtledlkggggpdpaaGreatDoor
open Go.RowKit

theorem flat_fld {α : Type} [Flat α] (z : α) (t : Nat) (u : Value) (ht : t < Flat.k α) : ∀ (xs : List α) (i : Nat) (hi : i < xs.length), Flat.el z = (Flat.el xs[i]).set t u → flat (xs.set i z) = (flat xs).set (i * Flat.k α + t) u
  | [], i, hi, _ => by simp at hi
  | y :: xs, 0, _, hz => by
    simp only [List.getElem_cons_zero] at hz
    simp only [List.set_cons_zero, flat, List.flatMap_cons, Nat.zero_mul, Nat.zero_add]
    rw [hz, List.set_append_left _ _ (by rw [Flat.len]; exact ht)]
  | y :: xs, i + 1, hi, hz => by
    simp only [List.getElem_cons_succ] at hz
    have ih := flat_fld z t u ht xs i (by simpa using hi) hz
    simp only [List.set_cons_succ, flat, List.flatMap_cons] at ih ⊢
    rw [ih, List.set_append_right _ _ (by rw [Flat.len, Nat.add_mul]; omega), Flat.len]
    congr 2
    rw [Nat.add_mul]; omega
section
variable {P : Program} {ops : Array Oper} {rest : List Oper} {o : Oper} {a : Act} {w : World} {Q : Exit → Act → World → Prop}
theorem wpList_store_fld {α : Type} [Flat α] (hgd : o.guard = none) (ty : TypeId) (x y : Operand) (ho : o.op = .store ty x y) (B : Nat) (e : TypeId) (g cap n : Nat) (ys : List α) (i t j : Nat) (z : α) (u : Value)
    (hx : a.eval x = .pointer (some ⟨g, j, none⟩)) (hj : j = i * Flat.k α + t) (ht : t < Flat.k α) (hy : (a.eval y).cells.toList = [u]) (h1 : u.oneCell' = true) (hi : (P.info? ty).map (·.size) = some 1)
    (hn : n = ys.length) (hown : Own B w e (.slice (some ⟨g, 0, none⟩) n cap) ys) (hlt : i < ys.length) (hz : Flat.el z = (Flat.el ys[i]).set t u)
    (h : ∀ w', Own B w' e (.slice (some ⟨g, 0, none⟩) n cap) (ys.set i z) → w.grownBy w' (some g) → wpList P ops Q rest (a.put o.dst undef) w') : wpList P ops Q (o :: rest) a w := by
  subst hn
  subst hj
  refine wpList_plain hgd fun K hK => ?_
  have hown' := hown
  rcases hown'.2 with ⟨h', _⟩ | ⟨g', cap', cur, h', hb, hg, hnc, hcm, hcs, htake⟩
  · simp at h'
  · simp only [Value.slice.injEq, Option.some.injEq, Addr.mk.injEq, and_true, true_and] at h'
    obtain ⟨rfl, rfl⟩ := h'
    have hk : (i + 1) * Flat.k α ≤ ys.length * Flat.k α := Nat.mul_le_mul_right _ hlt
    have hk2 : ys.length * Flat.k α ≤ cap * Flat.k α := Nat.mul_le_mul_right _ hnc
    have hk3 : (i + 1) * Flat.k α = i * Flat.k α + Flat.k α := by rw [Nat.add_mul]; omega
    have hst := run_storeCells_at P g (i * Flat.k α + t) e (a.eval y).cells.toList 0 cur w hg (by rw [hy, List.length_singleton]; omega) (by rw [hy]; intro v hv; rw [List.mem_singleton] at hv; rw [hv]; exact h1)
    simp only [Nat.add_zero] at hst
    cases hq : P.info? ty with
    | none => simp [hq] at hi
    | some ti =>
      have hs : (a.eval y).cells.size = ti.size := by rw [← Array.length_toList, hy, List.length_singleton]; simp [hq] at hi; omega
      have hrun : (storeVar ty ⟨g, i * Flat.k α + t, none⟩ (a.eval y)).run P w = .ok () (w.setRow g (cur.toList.take (i * Flat.k α + t) ++ (a.eval y).cells.toList ++ cur.toList.drop (i * Flat.k α + t + (a.eval y).cells.toList.length)).toArray) := by
        simp [storeVar, sizeOf, typeInfo, hq, hs, hst]
      unfold Oper.wp execOp
      simp only [ho, hx, Instr.storeAt, Instr.sureAddr, Sem.run_bind, Sem.run_pure, Result.andThen_ok, hrun]
      refine hK _ _ (h _ ?_ ⟨rfl, rfl, rfl, by simp, fun k _ hk => setRow_other w g k _ (fun e => hk (by simp [e]))⟩)
      unfold Own
      rw [List.length_set]
      refine ⟨?_, .inr ⟨g, cap, _, rfl, hb, setRow_heap w g cur _ e _ hg, hnc, hcm, ?_, ?_⟩⟩
      · rw [flat_length, List.length_set]
      · simp only [List.size_toArray, List.length_append, List.length_take, List.length_drop, Array.length_toList, hy, List.length_singleton] at *
        omega
      · rw [flat_fld z t u ht ys i hlt hz, hy, ← htake, List.length_singleton, List.toList_toArray]
        have hl : i * Flat.k α + t < (cur.toList.take (ys.length * Flat.k α)).length := by
          have hcl : cur.toList.length = cap * Flat.k α := by rw [Array.length_toList]; exact hcs
          have hJ : i * Flat.k α + t < ys.length * Flat.k α := by omega
          rw [List.length_take, hcl]
          exact Nat.lt_min.2 ⟨hJ, Nat.lt_of_lt_of_le hJ hk2⟩
        rw [List.set_eq_take_append_cons_drop, if_pos hl]
        refine (take_splice _ _ _ 1 _ rfl (by omega) (by rw [Array.length_toList]; show ys.length * Flat.k α ≤ cur.size; omega)).trans ?_
        rw [List.append_assoc]; rfl
variable {K : Act → World → Prop}
theorem wp_store_fld {α : Type} [Flat α] (ty : TypeId) (x y : Operand) (ho : o.op = .store ty x y) (B : Nat) (e : TypeId) (g cap n : Nat) (ys : List α) (i t j : Nat) (z : α) (u : Value)
    (hx : a.eval x = .pointer (some ⟨g, j, none⟩)) (hj : j = i * Flat.k α + t) (ht : t < Flat.k α) (hy : (a.eval y).cells.toList = [u]) (h1 : u.oneCell' = true) (hi : (P.info? ty).map (·.size) = some 1)
    (hn : n = ys.length) (hown : Own B w e (.slice (some ⟨g, 0, none⟩) n cap) ys) (hlt : i < ys.length) (hz : Flat.el z = (Flat.el ys[i]).set t u)
    (h : ∀ w', Own B w' e (.slice (some ⟨g, 0, none⟩) n cap) (ys.set i z) → w.grownBy w' (some g) → K (a.put o.dst undef) w') : Oper.wp P o a w K Q := by
  subst hn
  subst hj
  have hown' := hown
  rcases hown'.2 with ⟨h', _⟩ | ⟨g', cap', cur, h', hb, hg, hnc, hcm, hcs, htake⟩
  · simp at h'
  · simp only [Value.slice.injEq, Option.some.injEq, Addr.mk.injEq, and_true, true_and] at h'
    obtain ⟨rfl, rfl⟩ := h'
    have hk : (i + 1) * Flat.k α ≤ ys.length * Flat.k α := Nat.mul_le_mul_right _ hlt
    have hk2 : ys.length * Flat.k α ≤ cap * Flat.k α := Nat.mul_le_mul_right _ hnc
    have hk3 : (i + 1) * Flat.k α = i * Flat.k α + Flat.k α := by rw [Nat.add_mul]; omega
    have hst := run_storeCells_at P g (i * Flat.k α + t) e (a.eval y).cells.toList 0 cur w hg (by rw [hy, List.length_singleton]; omega) (by rw [hy]; intro v hv; rw [List.mem_singleton] at hv; rw [hv]; exact h1)
    simp only [Nat.add_zero] at hst
    cases hq : P.info? ty with
    | none => simp [hq] at hi
    | some ti =>
      have hs : (a.eval y).cells.size = ti.size := by rw [← Array.length_toList, hy, List.length_singleton]; simp [hq] at hi; omega
      have hrun : (storeVar ty ⟨g, i * Flat.k α + t, none⟩ (a.eval y)).run P w = .ok () (w.setRow g (cur.toList.take (i * Flat.k α + t) ++ (a.eval y).cells.toList ++ cur.toList.drop (i * Flat.k α + t + (a.eval y).cells.toList.length)).toArray) := by
        simp [storeVar, sizeOf, typeInfo, hq, hs, hst]
      unfold Oper.wp execOp
      simp only [ho, hx, Instr.storeAt, Instr.sureAddr, Sem.run_bind, Sem.run_pure, Result.andThen_ok, hrun]
      refine h _ ?_ ⟨rfl, rfl, rfl, by simp, fun k _ hk => setRow_other w g k _ (fun e => hk (by simp [e]))⟩
      unfold Own
      rw [List.length_set]
      refine ⟨?_, .inr ⟨g, cap, _, rfl, hb, setRow_heap w g cur _ e _ hg, hnc, hcm, ?_, ?_⟩⟩
      · rw [flat_length, List.length_set]
      · simp only [List.size_toArray, List.length_append, List.length_take, List.length_drop, Array.length_toList, hy, List.length_singleton] at *
        omega
      · rw [flat_fld z t u ht ys i hlt hz, hy, ← htake, List.length_singleton, List.toList_toArray]
        have hl : i * Flat.k α + t < (cur.toList.take (ys.length * Flat.k α)).length := by
          have hcl : cur.toList.length = cap * Flat.k α := by rw [Array.length_toList]; exact hcs
          have hJ : i * Flat.k α + t < ys.length * Flat.k α := by omega
          rw [List.length_take, hcl]
          exact Nat.lt_min.2 ⟨hJ, Nat.lt_of_lt_of_le hJ hk2⟩
        rw [List.set_eq_take_append_cons_drop, if_pos hl]
        refine (take_splice _ _ _ 1 _ rfl (by omega) (by rw [Array.length_toList]; show ys.length * Flat.k α ≤ cur.size; omega)).trans ?_
        rw [List.append_assoc]; rfl
end
end Go.Proofs.YtledlkggggpdpaaGreatDoor
