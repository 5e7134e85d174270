/- Texts cut at bytes, and numbers with a separator: what reading finds in what was written. -/
import Derived.Test.YtaeinllbjkjhlaaGreatDoorReadT
namespace Go.Proofs.YtaeinllbjkjhlaaGreatDoor
open Go.RowKit

theorem parts_two {c : UInt8} {s p q : ByteArray} (h : parts c s = [p, q]) : s = p ++ ⟨#[c]⟩ ++ q := by
  have h1 := parts_lists c s
  rw [h] at h1
  have h2 := join_splitC c s.data.toList
  rw [← h1] at h2
  apply Go.WideShapes.bytes_inj
  rw [← h2, List.map_cons, Lib.join_cons]
  simp [Lib.joinTail]
theorem numsT_list (c : UInt8) (xs : List Int) : (numsT ⟨#[c]⟩ xs).data.toList = Lib.join (xs.map Lib.itoa) [c] := by simp [numsT]
theorem parts_nums {c : UInt8} (hc : isSep c) (xs : List Int) (h0 : xs ≠ []) : parts c (numsT ⟨#[c]⟩ xs) = xs.map decT := by
  unfold parts
  rw [numsT_list, splitC_nums hc xs h0, List.map_map]; rfl
theorem rdB_dec {n : Int} (h : -1000000000000000000 < n ∧ n < 1000000000000000000) : rdB (decT n) = some n := by
  unfold rdB; rw [decT_list]; exact readDec_itoa (by omega)
theorem rdB_text {p : ByteArray} {n : Int} (h : rdB p = some n) : p = decT n := (decT_eq.2 (readDec_some h).1).symm
theorem join_free {c d : UInt8} (hd : isSep d) (hcd : d ≠ c) (xs : List Int) : d ∉ Lib.join (xs.map Lib.itoa) [c] := by
  cases xs with
  | nil => simp [Lib.join]
  | cons x xs =>
    rw [List.map_cons, Lib.join_cons]
    intro h
    rcases List.mem_append.1 h with h | h
    · exact itoa_free hd x h
    · unfold Lib.joinTail at h
      rw [List.mem_flatten] at h
      obtain ⟨l, hl, hdl⟩ := h
      simp only [List.map_map, List.mem_map] at hl
      obtain ⟨n, _, rfl⟩ := hl
      simp only [Function.comp, List.cons_append, List.nil_append, List.mem_cons] at hdl
      rcases hdl with h | h
      · exact hcd h
      · exact itoa_free hd n h
theorem numsT_free {c d : UInt8} (hd : isSep d) (hcd : d ≠ c) (xs : List Int) : d ∉ (numsT ⟨#[c]⟩ xs).data.toList := by
  rw [numsT_list]; exact join_free hd hcd xs
/-- A text around the first of a byte. -/
theorem parts_pair {d : UInt8} {p q : ByteArray} (hp : d ∉ p.data.toList) (hq : d ∉ q.data.toList) : parts d (p ++ ⟨#[d]⟩ ++ q) = [p, q] := by
  unfold parts
  rw [show (p ++ ⟨#[d]⟩ ++ q).data.toList = p.data.toList ++ d :: q.data.toList by simp, splitC_cons _ hp, splitC_free hq]
  simp
theorem numsN_nums {c : UInt8} (hc : isSep c) {xs : List Int} (h0 : xs ≠ []) (h : ∀ x ∈ xs, -1000000000000000000 < x ∧ x < 1000000000000000000) : numsN c xs.length (numsT ⟨#[c]⟩ xs) = some xs := by
  unfold numsN
  rw [parts_nums hc xs h0, if_pos (by simp), numsT_list]
  exact readNums_of hc h0 (fun x hx => by have := h x hx; omega)
theorem numsN_some {c : UInt8} {n : Nat} {s : ByteArray} {xs : List Int} (h : numsN c n s = some xs) : s = numsT ⟨#[c]⟩ xs ∧ xs.length = n ∧ ∀ x ∈ xs, -1000000000000000000 < x ∧ x < 1000000000000000000 := by
  unfold numsN at h
  by_cases hl : (parts c s).length = n
  · rw [if_pos hl] at h
    obtain ⟨h1, h2, h3⟩ := readNums_some h
    refine ⟨?_, ?_, fun x hx => by have := h2 x hx; omega⟩
    · apply Go.WideShapes.bytes_inj; rw [numsT_list, h1]
    · rw [← h3, ← parts_length, hl]
  · rw [if_neg hl] at h; cases h
theorem numsN_empty {c : UInt8} {n : Nat} (h : n ≠ 1) : numsN c n ⟨#[]⟩ = none := numsN_len (by rw [parts_length]; simp [splitC]; omega)
theorem own_other {α : Type} [Flat α] {B : Nat} {w : World} {e : TypeId} {v : Value} {xs : List α} {p : Nat} {cs : Array Value} {t : TypeId} {fr : Nat × Nat} (h : Own B w e v xs) (hp : w.heap[p]? = some (.cells cs t fr)) (hne : t ≠ e) : some p ≠ v.ownBlock := by
  intro k
  rcases h.2 with ⟨rfl, _⟩ | ⟨g, cap, cur, rfl, _, hg, _⟩
  · simp [Value.ownBlock] at k
  · simp [Value.ownBlock] at k
    subst k
    rw [hp] at hg
    simp only [Option.some.injEq, Obj.cells.injEq] at hg
    exact hne hg.2.1
theorem own_heapT {α : Type} [Flat α] {B : Nat} {w : World} {e : TypeId} {g n c : Nat} {xs : List α} (h : Own B w e (.slice (some ⟨g, 0, none⟩) n c) xs) : ∃ cs, w.heap[g]? = some (.cells cs e (0, 0)) := by
  rcases h.2 with ⟨h', _⟩ | ⟨g', cap', cur, h', hb, hg, _⟩
  · simp at h'
  · simp only [Value.slice.injEq, Option.some.injEq, Addr.mk.injEq, and_true] at h'
    obtain ⟨rfl, _, _⟩ := h'
    exact ⟨cur, hg⟩
end Go.Proofs.YtaeinllbjkjhlaaGreatDoor
