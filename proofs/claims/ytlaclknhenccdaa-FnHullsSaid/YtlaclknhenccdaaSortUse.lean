/- Chapter 7, hulls: the library's sort at the program's spots. -/
import Derived.Test.YtlaclknhenccdaaSortSpotLay
import Derived.Test.YtlaclknhenccdaaSortCmp
namespace Go.Proofs.Ytlaclknhenccdaa
open Go.RowKit Go.Sort

instance : Inhabited Spot := ⟨⟨0, 0⟩⟩
def encSpot (p : Spot) : List Value := [.int .i64 p.X, .int .i64 p.Y]
/-- One spot lies before another: by X, then by Y. -/
def before (p q : Spot) : Bool := decide (p.X < q.X) || (p.X == q.X && decide (p.Y < q.Y))
theorem ltOf_cmp (p q : Spot) : ltOf cmpSpot p q = before p q := by
  unfold ltOf cmpSpot orInt Lib.compareInt before
  rcases Int.lt_trichotomy p.X q.X with h | h | h
  · simp [h]
  · rcases Int.lt_trichotomy p.Y q.Y with h' | h' | h'
    · simp [h, h']
    · simp [h, h']
    · have h2 : ¬ p.Y < q.Y := by omega
      simp [h, h', h2]
  · have h2 : ¬ p.X < q.X := by omega
    have h3 : ¬ p.X = q.X := by omega
    simp [h, h2, h3]
theorem swo_cmp : SWO (ltOf cmpSpot) where
  irrefl x := by rw [ltOf_cmp]; simp [before]
  trans x y z h1 h2 := by rw [ltOf_cmp] at *; simp [before] at *; omega
  ntrans x y z h1 h2 := by rw [ltOf_cmp] at *; simp [before] at *; omega
theorem sort_raw (g c : Nat) (xs : List Spot) (w : World) (hH : HoldsK encSpot 2 w g 0 xs.toArray) (hg : g < w.heap.size) (hl : xs.length ≤ 24) :
    Calls Try.prog 177 #[.slice (some ⟨g, 0, none⟩) xs.length c, .func (.func 178) #[] #[]] w fun e w' =>
      e = .returned (.tuple #[]) ∧ ∃ (ys : List Spot) (n : Nat) (os : Array Obj), ys.Perm xs ∧ ys.Pairwise (fun p q => before q p = false) ∧ w' = sortWorldK encSpot 2 w g 0 n ys.toArray os := by
  have eg : ∀ args w, (callFunc 178 args).run Try.prog w = .ok (.enter 178 args) w := enters_of Try.func178 (by kernel_rfl) rfl
  have hcmp : CmpLays Try.prog 178 #[] encSpot 2 cmpSpot g 0 xs.toArray.size w := fun _ _ _ _ x y => closure_c x y _
  have hcon := AnyQ.slices_SortFunc sortSpot 2 Try.isAgg83 Try.sizeOf83 encSpot (fun _ => rfl) (fun x v hv => by simp [encSpot] at hv; rcases hv with rfl | rfl <;> rfl) cmpSpot swo_cmp 178 #[] g 0 c xs.toArray w eg hcmp hH hg (by simp; omega)
  change Calls Try.prog 177 _ _ _ at hcon
  rw [List.size_toArray] at hcon
  refine hcon.mono ?_
  rintro e w' ⟨rfl, d', n, os, hp, hs, rfl⟩
  refine ⟨rfl, d'.toList, n, os, ?_, ?_, by simp⟩
  · have h := hp.2.2
    have h1 := hp.1
    simp at h1
    have h2 : List.take xs.length d'.toList = d'.toList := List.take_of_length_le (by simp; omega)
    simpa [h2] using h
  · rw [List.pairwise_iff_getElem]
    intro i j hi hj hij
    have h1 := hp.1
    simp at h1 hi hj
    have h := hs i j (Nat.zero_le _) hij (by omega)
    rw [ltOf_cmp, getElem!_pos d' j hj, getElem!_pos d' i hi] at h
    simpa using h
theorem flatK_get (xs : List Spot) (t : Nat) (h : t < xs.length * 2) : (flat xs)[t]? = some (flatK encSpot 2 xs.toArray)[t]! := by
  have hi : t / 2 < xs.length := by omega
  rw [get_flatK _ _ _ _ (by simpa using h)]
  have hx : xs.toArray[t / 2]! = xs[t / 2] := by rw [getElem!_pos _ _ (by simpa using hi)]; simp
  rw [hx]
  have h2 := flat_get xs (t / 2) hi (t % 2) (encSpot xs[t / 2])[t % 2]! (by
    rcases (by omega : t % 2 = 0 ∨ t % 2 = 1) with h | h <;> rw [h] <;> rfl)
  have h3 : t / 2 * Flat.k Spot + t % 2 = t := by show t / 2 * 2 + t % 2 = t; omega
  rwa [h3] at h2
theorem sort_c (B g c : Nat) (xs : List Spot) (w : World) (h : Own B w 83 (.slice (some ⟨g, 0, none⟩) xs.length c) xs) (hl : xs.length ≤ 24) :
    Calls Try.prog 177 #[.slice (some ⟨g, 0, none⟩) xs.length c, .func (.func 178) #[] #[]] w fun e w' =>
      e = .returned (.tuple #[]) ∧ ∃ ys : List Spot, ys.Perm xs ∧ ys.Pairwise (fun p q => before q p = false) ∧ Own B w' 83 (.slice (some ⟨g, 0, none⟩) ys.length c) ys ∧ Below B w w' := by
  obtain ⟨hB, hlt⟩ := h.lt g rfl
  have hat := h.at'
  refine (sort_raw g c xs w ?_ hlt hl).mono ?_
  · intro j hj
    rw [size_flatK, List.size_toArray] at hj
    exact ⟨hat.cells j _ (flatK_get xs j hj), h.frz _⟩
  rintro e w' ⟨rfl, ys, n, os, hp, hs, rfl⟩
  have hlen := hp.length_eq
  have hh : ∀ k, k < w.heap.size → (sortWorldK encSpot 2 w g 0 n ys.toArray os).heap[k]? = if g = k then w.heap[k]?.map (onCells (putCells id 0 (flatK encSpot 2 ys.toArray))) else w.heap[k]? := fun k hk => by
    show (w.heap.modify g (onCells (putCells id 0 (flatK encSpot 2 ys.toArray))) ++ os)[k]? = _
    rw [Array.getElem?_append_left (by simpa using hk), Array.getElem?_modify]
  refine ⟨rfl, ys, hp, hs, ?_, ?_⟩
  · rcases h.2 with ⟨h', _⟩ | ⟨g', cap', cur, h', hb, hg, hnc, hcm, hcs, htake⟩
    · simp at h'
    · simp only [Value.slice.injEq, Option.some.injEq, Addr.mk.injEq, and_true, true_and] at h'
      obtain ⟨rfl, rfl⟩ := h'
      refine ⟨by rw [flat_length], .inr ⟨g, c, putCells id 0 (flatK encSpot 2 ys.toArray) cur, rfl, hb, ?_, by omega, hcm, by simpa [putCells] using hcs, ?_⟩⟩
      · rw [hh g hlt, if_pos rfl, hg]; rfl
      · have hcs2 : c * 2 = cur.size ∨ c * 2 ≤ cur.size := by first | exact .inl hcs.symm | exact .inr hcs | exact .inl hcs
        apply List.ext_getElem?
        intro t
        rw [List.getElem?_take]
        have hk : ys.length * Flat.k Spot = ys.length * 2 := rfl
        rw [hk]
        by_cases ht : t < ys.length * 2
        · rw [if_pos ht, flatK_get ys t ht, Array.getElem?_toList]
          have htc : t < cur.size := by omega
          simp [putCells, htc, ht]
        · rw [if_neg ht, List.getElem?_eq_none (by rw [flat_length, hk]; omega)]
  · refine ⟨rfl, rfl, rfl, ?_, fun k hk => ?_⟩
    · show w.heap.size ≤ (w.heap.modify g _ ++ os).size
      simp
    · rw [hh k (by omega), if_neg (by omega)]
end Go.Proofs.Ytlaclknhenccdaa
