/- slices.DeleteFunc at feet. -/
import Derived.Test.YtledlkggggpdpaaGreatDoorF03
import Derived.Deep.Heap
namespace Go.Proofs.YtledlkggggpdpaaGreatDoor
open Go.RowKit

theorem own_capF {α : Type} [Flat α] {B : Nat} {w : World} {e : TypeId} {g n c : Nat} {xs : List α} (h : Own B w e (.slice (some ⟨g, 0, none⟩) n c) xs) : xs.length ≤ c ∧ c ≤ maxLen := by
  rcases h.2 with ⟨h', _⟩ | ⟨g', cap', cur, h', hb, hg, hnc, hcm, hcs, htake⟩
  · simp at h'
  · simp only [Value.slice.injEq, Option.some.injEq, Addr.mk.injEq, and_true] at h'
    obtain ⟨rfl, _, rfl⟩ := h'
    exact ⟨hnc, hcm⟩
theorem ofrzF {α : Type} [Flat α] {B : Nat} {w : World} {e : TypeId} {g n c : Nat} {xs : List α} (h : Own B w e (.slice (some ⟨g, 0, none⟩) n c) xs) (j : Nat) : w.frozen? ⟨g, j, none⟩ = false := by
  obtain ⟨a', c', he, _⟩ := h.at
  simp only [Value.slice.injEq] at he
  obtain ⟨_, rfl, _⟩ := he
  exact World.ownsRow.frozenAt h j
theorem grown_byF {w w' : World} (hb : Below w.heap.size w w') (row : Option Nat) : w.grownBy w' row := ⟨hb.os, hb.tape, hb.output, hb.size, fun k hk _ => hb.block k hk⟩
theorem grown_setCellF (w : World) (a : Addr) (v : Value) : w.grownBy (w.setCell a v) (some a.block) := ⟨rfl, rfl, rfl, by simp, fun k _ hk => Go.Deep.blk_setCell_other w a v k (fun e => hk (by rw [e]))⟩
theorem grown_setCellsF (b : Nat) : ∀ (vs : List Value) (o : Nat) (w : World), w.grownBy (w.setCells b o vs) (some b)
  | [], _, _ => World.grownBy.refl _ _
  | v :: vs, o, _ => grownBy_trans (grown_setCellF _ ⟨b, o, none⟩ v) (grown_setCellsF b vs (o + 1) _)
/-- Clearing a row of edges. -/
theorem run_clear_feet (w : World) (ty : TypeId) (b o n c : Nat) (hn : 0 < n) (hc : ∀ j, j < n * 4 → (w.cell? ⟨b, o + j, none⟩).isSome = true) (hf : ∀ j, j < n * 4 → w.frozen? ⟨b, o + j, none⟩ = false) :
    (Builtin.clear_ #[71] ty #[.slice (some ⟨b, o, none⟩) n c]).run Tryz.prog w = .ok (.tuple #[]) (w.setCells b o (Builtin.zeroCells #[.int .i64 0, .int .i64 0, .int .i64 0, .int .i64 0] n).toList) := by
  have hlen : (Builtin.zeroCells #[.int .i64 0, .int .i64 0, .int .i64 0, .int .i64 0] n).toList.length = n * 4 := by simp [Builtin.zeroCells]
  have hst := run_storeCells_cells (P := Tryz.prog) b o (Builtin.zeroCells #[.int .i64 0, .int .i64 0, .int .i64 0, .int .i64 0] n).toList 0 w (by rw [hlen]; simpa using hc) (by rw [hlen]; simpa using hf) (by
    intro v hv
    simp only [Builtin.zeroCells, Array.toList_map, List.mem_map] at hv
    obtain ⟨i, _, rfl⟩ := hv
    have : i % #[Value.int .i64 0, Value.int .i64 0, Value.int .i64 0, Value.int .i64 0].size = 0 ∨ i % #[Value.int .i64 0, Value.int .i64 0, Value.int .i64 0, Value.int .i64 0].size = 1 ∨ i % #[Value.int .i64 0, Value.int .i64 0, Value.int .i64 0, Value.int .i64 0].size = 2 ∨ i % #[Value.int .i64 0, Value.int .i64 0, Value.int .i64 0, Value.int .i64 0].size = 3 := by simp; omega
    rcases this with h | h | h | h <;> rw [h] <;> rfl)
  simp only [Nat.add_zero] at hst
  obtain ⟨m, rfl⟩ : ∃ m, n = m + 1 := ⟨n - 1, by omega⟩
  have hz : (Value.agg #[.int .i64 0, .int .i64 0, .int .i64 0, .int .i64 0]).cells = #[.int .i64 0, .int .i64 0, .int .i64 0, .int .i64 0] := by kernel_rfl
  simp [Builtin.clear_, run_underlying Tryz.underlying71, hz, hst]
theorem clear_outF (w : World) (b o n : Nat) (j : Nat) (hj : j < o) : (w.setCells b o (Builtin.zeroCells #[.int .i64 0, .int .i64 0, .int .i64 0, .int .i64 0] n).toList).cell? ⟨b, j, none⟩ = w.cell? ⟨b, j, none⟩ :=
  World.cell?_setCells_out b _ _ _ _ fun _ _ => Or.inl hj
theorem keep_takeF {p : Foot → Bool} {xs : List Foot} {j : Nat} (h : j < xs.length) : (xs.take (j + 1)).filter (fun x => !p x) = (xs.take j).filter (fun x => !p x) ++ if p xs[j] then [] else [xs[j]] := by
  rw [List.take_succ_eq_append_getElem h, List.filter_append]
  cases hp : p xs[j] <;> simp [hp]
theorem set_takeF (cur K : List Foot) (x : Foot) (h : cur.take K.length = K) (hl : K.length < cur.length) : (cur.set K.length x).take (K.length + 1) = K ++ [x] := by
  rw [List.take_succ_eq_append_getElem (by simpa using hl), List.getElem_set_self, List.take_set_of_le (Nat.le_refl _), h]
theorem set_dropF (cur : List Foot) (x : Foot) (i j : Nat) (h : i < j) : (cur.set i x).drop j = cur.drop j := by
  rw [List.drop_set_of_lt h]
end Go.Proofs.YtledlkggggpdpaaGreatDoor
