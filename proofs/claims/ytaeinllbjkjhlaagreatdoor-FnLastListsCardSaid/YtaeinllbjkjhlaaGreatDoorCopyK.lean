/- copy between rows of elements of several cells, and a row with an element laid in (of no program). -/
import Derived.Test.YtaeinllbjkjhlaaGreatDoorBase
import Derived.Laws.CopyRow
namespace Go.Proofs.YtaeinllbjkjhlaaGreatDoor
open Go.RowKit

/-- copy into a row whose block is plain, elements of k cells: the cells read are laid over the row's cells. -/
theorem run_copy_rowK (P : Program) (w : World) (dT sT ty elem : TypeId) (k m : Nat) (g o dLen dCap : Nat) (a : Addr) (sLen sCap : Nat) (cur : Array Value) (t : TypeId) (cs : List Value)
    (hu : P.underlying dT = some (.slice elem)) (hs : (P.info? elem).map (·.size) = some k)
    (hg : w.heap[g]? = some (.cells cur t (0, 0))) (hm : Nat.min sLen dLen = m) (hn : cs.length = m * k)
    (hsrc : ∀ j v, cs[j]? = some v → w.cell? (a.add j) = some v) (hfit : o + cs.length ≤ cur.size) (h1 : ∀ v ∈ cs, v.oneCell' = true) :
    (Builtin.copy_ #[dT, sT] ty #[.slice (some ⟨g, o, none⟩) dLen dCap, .slice (some a) sLen sCap]).run P w =
      .ok (goInt m) (w.setRow g (cur.toList.take o ++ cs ++ cur.toList.drop (o + cs.length)).toArray) := by
  have hl := run_loadCells_list (P := P) w a cs hsrc
  have hst := run_storeCells_at P g o t cs 0 cur w hg (by simpa using hfit) h1
  cases hq : P.info? elem with
  | none => simp [hq] at hs
  | some i =>
    have hi : i.size = k := by simpa [hq] using hs
    simp [Builtin.copy_, run_underlying hu, Builtin.lenOf, Builtin.firstCells, sizeOf, typeInfo, hq, hi, hm, ← hn, hl, hst]

section
variable {P : Program} {ops : Array Oper} {rest : List Oper} {o : Oper} {a : Act} {w : World} {Q : Exit → Act → World → Prop}
theorem wpList_copy_run (hgd : o.guard = none) (d s : Operand) (t t' : TypeId)
    (ho : o.op = .call { callee := .builtin .copy, args := #[d, s], argTypes := #[t, t'] }) (v u : Value) (hd : a.eval d = v) (hs : a.eval s = u) {v' : Value} {w' : World}
    (hr : (Builtin.copy_ #[t, t'] o.type #[v, u]).run P w = .ok v' w') (h : wpList P ops Q rest (a.put o.dst v') w') : wpList P ops Q (o :: rest) a w :=
  wpList_plain hgd fun K hK => by
    unfold Oper.wp execOp
    simp only [ho, resolve, invoke, builtin, Sem.run_bind, Sem.run_pure, Result.andThen_ok, List.map_toArray, List.map_cons, List.map_nil, hd, hs, hr]
    exact hK _ _ h
end
theorem lay_in_shift {α : Type} (L D E : List α) (p k : Nat) (hE : E.length = k) (h : p + k + D.length ≤ L.length) :
    ((L.take (p + k) ++ D ++ L.drop (p + k + D.length)).take p ++ E ++ (L.take (p + k) ++ D ++ L.drop (p + k + D.length)).drop (p + k)).take (p + k + D.length) = L.take p ++ E ++ D := by
  have h1 : (L.take (p + k) ++ D ++ L.drop (p + k + D.length)).take p = L.take p := by
    rw [List.append_assoc, List.take_append_of_le_length (by rw [List.length_take]; omega), List.take_take, Nat.min_eq_left (by omega)]
  have h2 : (L.take (p + k) ++ D ++ L.drop (p + k + D.length)).drop (p + k) = D ++ L.drop (p + k + D.length) := by
    rw [List.append_assoc, List.drop_append_of_le_length (by rw [List.length_take]; omega)]
    simp
  rw [h1, h2, ← List.append_assoc, List.take_append_of_le_length (by simp; omega)]
  rw [List.take_of_length_le (by simp; omega)]
theorem lay_in_new {α : Type} (L D E : List α) (p k : Nat) (hE : E.length = k) (h : p + k + D.length ≤ L.length) :
    ((L.take p ++ E ++ L.drop (p + k)).take (p + k) ++ D ++ (L.take p ++ E ++ L.drop (p + k)).drop (p + k + D.length)).take (p + k + D.length) = L.take p ++ E ++ D := by
  have hl : (L.take p ++ E).length = p + k := by simp; omega
  have h1 : (L.take p ++ E ++ L.drop (p + k)).take (p + k) = L.take p ++ E := by
    rw [List.take_append_of_le_length (by omega), List.take_of_length_le (by omega)]
  rw [h1, List.take_append_of_le_length (by simp; omega), List.take_of_length_le (by simp; omega)]
end Go.Proofs.YtaeinllbjkjhlaaGreatDoor
