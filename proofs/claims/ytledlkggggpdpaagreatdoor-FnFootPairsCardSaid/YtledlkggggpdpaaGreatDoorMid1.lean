/- Measures of feet, each kind for itself: the library's sort, and what follows from sorted measures. -/
import Derived.Test.YtledlkggggpdpaaGreatDoorSortLay
import Derived.Test.YtledlkggggpdpaaGreatDoorMidMath
import Derived.Test.YtledlkggggpdpaaGreatDoorF02
import Derived.Test.YtledlkggggpdpaaGreatDoorSep
import Derived.Test.YtledlkggggpdpaaGreatDoorLists
import Derived.Test.YtledlkggggpdpaaGreatDoorF03
namespace Go.Proofs.YtledlkggggpdpaaGreatDoor
open Go.RowKit Go.Sort

theorem flatI_get (xs : List Int) (t : Nat) (h : t < xs.length) : (flat xs)[t]? = some (Value.int .i64 xs[t]) := by
  have := flat_get xs t h 0 (.int .i64 xs[t]) rfl
  rwa [show t * Flat.k Int + 0 = t from by show t * 1 + 0 = t; omega] at this
theorem sortI_c (B g c : Nat) (xs : List Int) (w : World) (h : Own B w 2 (.slice (some ⟨g, 0, none⟩) xs.length c) xs) (hl : xs.length ≤ 4294967296) :
    Calls Tryz.prog 204 #[.slice (some ⟨g, 0, none⟩) xs.length c] w fun e w' => e = .returned (.tuple #[]) ∧ Own B w' 2 (.slice (some ⟨g, 0, none⟩) xs.length c) (srt xs) ∧ w.grownBy w' (some g) := by
  obtain ⟨hB, hlt⟩ := h.lt g rfl
  have hat := h.at'
  have hH : Holds (Value.int .i64) w g 0 xs.toArray := by
    intro j hj
    have hj' : j < xs.length := by simpa using hj
    refine ⟨?_, h.frz _⟩
    rw [getElem!_pos xs.toArray j hj]
    have := hat.int hj'
    simpa using this
  have hcon := AnyM.slices_Sort_int sortIntLay g 0 c xs w hH hlt (by omega)
  change Calls Tryz.prog 204 _ _ _ at hcon
  refine hcon.mono ?_
  rintro e w' ⟨rfl, n, os, rfl⟩
  have hlen := srt_length xs
  change (srt xs).length = xs.length at hlen
  have es : (xs.mergeSort fun x y => decide (x ≤ y)) = srt xs := rfl
  rw [es]
  have hh : ∀ k, k < w.heap.size → (Go.Sort.grow (putRow (Value.int .i64) (Sort.ahead w n) g 0 (srt xs).toArray) os).heap[k]? = if g = k then w.heap[k]?.map (onCells (putCells (Value.int .i64) 0 (srt xs).toArray)) else w.heap[k]? := fun k hk => by
    show (w.heap.modify g (onCells (putCells (Value.int .i64) 0 (srt xs).toArray)) ++ os)[k]? = _
    rw [Array.getElem?_append_left (by simpa using hk), Array.getElem?_modify]
  refine ⟨rfl, ?_, ?_⟩
  · rcases h.2 with ⟨h', _⟩ | ⟨g', cap', cur, h', hb, hg, hnc, hcm, hcs, htake⟩
    · simp at h'
    · simp only [Value.slice.injEq, Option.some.injEq, Addr.mk.injEq, and_true] at h'
      obtain ⟨rfl, -, rfl⟩ := h'
      have hk1 : Flat.k Int = 1 := rfl
      refine ⟨by rw [flat_length], .inr ⟨g, c, putCells (Value.int .i64) 0 (srt xs).toArray cur, by rw [hlen], hb, ?_, by omega, hcm, by simpa [putCells] using hcs, ?_⟩⟩
      · rw [hh g hlt, if_pos rfl, hg]; rfl
      · apply List.ext_getElem?
        intro t
        rw [List.getElem?_take, hk1]
        by_cases ht : t < (srt xs).length * 1
        · rw [if_pos ht, flatI_get _ t (by omega), Array.getElem?_toList]
          have htc : t < cur.size := by
            have := hcs; simp only [hk1] at this; omega
          have ht' : t < (srt xs).length := by omega
          simp [putCells, htc, ht']
        · rw [if_neg ht, List.getElem?_eq_none (by rw [flat_length, hk1]; omega)]
  · refine ⟨rfl, rfl, rfl, ?_, fun k hk hne => ?_⟩
    · show w.heap.size ≤ (w.heap.modify g _ ++ os).size
      simp
    · rw [hh k hk, if_neg (fun e => hne (by rw [e]))]
end Go.Proofs.YtledlkggggpdpaaGreatDoor
