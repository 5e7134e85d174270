/- Chapter 4, a last laid into a list: the library's slices.Insert, and what is added. -/
import Derived.Test.YtaeinllbjkjhlaaGreatDoorLas1
import Derived.Test.YtaeinllbjkjhlaaGreatDoorCopyK
import Derived.Lib.AppendZerosOnto
import Derived.Lib.Overlaps
namespace Go.Proofs.YtaeinllbjkjhlaaGreatDoor
open Go.RowKit

theorem grown_setRow {w : World} {g : Nat} (cs : Array Value) : w.grownBy (w.setRow g cs) (some g) :=
  ⟨rfl, rfl, rfl, by simp, fun k _ hk => setRow_other w g k cs (fun e => hk (by rw [e]))⟩
theorem grown_byL {w w' : World} (hb : Below w.heap.size w w') (row : Option Nat) : w.grownBy w' row := ⟨hb.os, hb.tape, hb.output, hb.size, fun k hk _ => hb.block k hk⟩
theorem flat_take {α : Type} [Flat α] : ∀ (xs : List α) (i : Nat), i ≤ xs.length → (flat xs).take (i * Flat.k α) = flat (xs.take i)
  | xs, 0, _ => by simp [flat]
  | [], i + 1, h => by simp at h
  | x :: xs, i + 1, h => by
    have e : flat (x :: xs) = Flat.el x ++ flat xs := by simp [flat]
    have e2 : flat ((x :: xs).take (i + 1)) = Flat.el x ++ flat (xs.take i) := by simp [flat]
    rw [e, e2, ← flat_take xs i (by simpa using h), List.take_append, Flat.len]
    rw [List.take_of_length_le (by rw [Flat.len, Nat.succ_mul]; omega)]
    congr 2
    rw [Nat.succ_mul]; omega
theorem flat_ins (xs : List Last) (i : Nat) (x : Last) : flat (insL xs i x) = flat (xs.take i) ++ Flat.el x ++ flat (xs.drop i) := by
  unfold insL; rw [flat_append]; simp [flat]
set_option maxRecDepth 100000 in
set_option maxHeartbeats 4000000 in
theorem insertLast_c (B : Nat) (v : Value) (xs : List Last) (i : Nat) (x : Last) (g' : Nat) (w : World) (hO : Own B w 30 v xs) (hB : B ≤ w.heap.size) (hi : i ≤ xs.length) (hl : xs.length ≤ 1000) (hv : w.heap[g']? = some (.cells (Flat.el x).toArray 30 (0, 0))) (hne : v.ownBlock ≠ some g') :
    Calls Tryz.prog 44 #[v, .int .i64 i, .slice (some ⟨g', 0, none⟩) 1 1] w fun e w' => ∃ v', e = .returned v' ∧ Own B w' 30 v' (insL xs i x) ∧ w.grownBy w' v.ownBlock := by
  by_cases he : i = xs.length
  · have hI : insL xs i x = xs ++ [x] := by subst he; simp [insL]
    rw [hI]
    subst he
    clear hI hi
    rcases hO.cases with ⟨rfl, rfl⟩ | ⟨g, cap, rfl⟩
    · go_enter Tryz.func44, Tryz.ntmps44
      go_wp2_with (at_builtin; refine wpList_push rfl (.tmp 23) (.tmp 24) 27 rfl B 30 (.agg #[.string ByteArray.empty, .int .i64 0, .int .i64 0, .int .i64 0, .int .i64 0, .int .i64 0]) 56 Tryz.underlying27 infoLast rfl _ [] x rfl hO g' 1 rfl 30 hv (by simp) (by decide) hB ?_; intro v1 w1 hO1 hg1)
      go_ret
      exact ⟨_, rfl, hO1, hg1⟩
    · go_enter Tryz.func44, Tryz.ntmps44
      go_wp2_with (at_builtin; refine wpList_push rfl (.tmp 23) (.tmp 24) 27 rfl B 30 (.agg #[.string ByteArray.empty, .int .i64 0, .int .i64 0, .int .i64 0, .int .i64 0, .int .i64 0]) 56 Tryz.underlying27 infoLast rfl _ xs x rfl hO g' 1 rfl 30 hv (by omega) (by decide) hB ?_; intro v1 w1 hO1 hg1)
      all_goals (go_ret; exact ⟨_, rfl, hO1, hg1⟩)
  · obtain ⟨hlen, h0 | ⟨g, cap, cur, rfl, hgB, hg, hnc, hcm, hcs, htk⟩⟩ := hO
    · omega
    have hlt : i < xs.length := by omega
    have hflat := flat_length xs
    have hk6 : Flat.k Last = 6 := rfl
    rw [hk6] at hlen hcs htk hflat
    obtain ⟨i0, hi0, hz0, hz1, hz3⟩ := info_parts infoLast
    have hsz : (Tryz.prog.info? 30).map (·.size) = some 6 := by rw [hi0]; simp [hz1]
    have hgw : g < w.heap.size := (Array.getElem?_eq_some_iff.1 hg).1
    have hgw' : g' < w.heap.size := (Array.getElem?_eq_some_iff.1 hv).1
    have hne' : g' ≠ g := fun e => hne (by rw [e]; rfl)
    have hti : (flat xs).take (i * 6) = flat (xs.take i) := flat_take xs i hi
    have hdi : (flat xs).drop (i * 6) = flat (xs.drop i) := by
      have := flat_append (xs.take i) (xs.drop i)
      rw [List.take_append_drop] at this
      rw [this, List.drop_append_of_le_length (by rw [flat_length, List.length_take, hk6]; omega), List.drop_of_length_le (by rw [flat_length, List.length_take, hk6]; omega)]
      rfl
    have hti' : cur.toList.take (i * 6) = flat (xs.take i) := by
      rw [← hti, ← htk, List.take_take, Nat.min_eq_left (by omega)]
    have hdl : (flat (xs.drop i)).length = (xs.length - i) * 6 := by rw [flat_length, List.length_drop, hk6]
    have hcell : ∀ j u, (flat (xs.drop i))[j]? = some u → w.cell? ⟨g, i * 6 + j, none⟩ = some u := fun j u hu => by
      rw [cell_of_row w g (i * 6 + j) cur _ (0, 0) hg]
      rw [← hdi, List.getElem?_drop, ← htk, List.getElem?_take] at hu
      split at hu
      · rw [Array.getElem?_toList] at hu; exact hu
      · cases hu
    have h1d : ∀ u ∈ flat (xs.drop i), u.oneCell' = true := fun u hu => by
      obtain ⟨z, _, hz⟩ := List.mem_flatMap.1 hu
      exact Flat.one z u hz
    have hz2 : ¬ ((i : Int) = (xs.length : Int)) := by omega
    have hiB : (i : Int) ≤ (xs.length : Int) := by omega
    have hw1 : IntKind.i64.wrap ((i : Int) + 1) = (i : Int) + 1 := IntWalk.i64_in _ (by omega)
    have htn : ((i : Int) + 1).toNat = i + 1 := by omega
    have hci : ¬ (cap = i) := by omega
    have hcm0 := hcm
    by_cases hroom : xs.length + 1 ≤ cap
    · have hroomI : ¬ ((cap : Int) < (xs.length : Int) + 1) := by omega
      have hov : ∀ (W : World), W.heap[g]? = some (.cells cur 30 (0, 0)) → W.heap[g']? = some (.cells (Flat.el x).toArray 30 (0, 0)) → ∀ lb cb, (callFunc 92 #[.slice (some ⟨g', 0, none⟩) 1 1, .slice (some ⟨g, (i + 1) * 6, none⟩) lb cb]).run Tryz.prog W = .ok (.value (.bool false)) W := fun W h1 h2 lb cb => by
        rw [run_callFunc_extern Tryz.func92 (by kernel_rfl) (by kernel_rfl) (by kernel_rfl) (e := Extern.SlicesOverlaps.overlaps #[27, 27] #[4]) (by kernel_rfl),
          Lib.run_overlaps_apart W 27 4 30 Tryz.underlying27 6 (by intro w; simp [sizeOf, typeInfo, hi0, hz1]) ⟨g', 0, none⟩ ⟨g, (i + 1) * 6, none⟩ 1 1 lb cb hne' 30 30 6 cur.size (by unfold World.shape?; rw [h2]; rfl) (by unfold World.shape?; rw [h1]) (by omega) (by unfold World.frozen?; rw [h2]; rfl) (by unfold World.frozen?; rw [h2]; rfl)]
        rfl
      obtain ⟨C1, hC1⟩ : ∃ C1 : Array Value, C1 = (cur.toList.take (i * 6 + 6) ++ flat (xs.drop i) ++ cur.toList.drop (i * 6 + 6 + (flat (xs.drop i)).length)).toArray := ⟨_, rfl⟩
      obtain ⟨C2, hC2⟩ : ∃ C2 : Array Value, C2 = (C1.toList.take (i * 6) ++ Flat.el x ++ C1.toList.drop (i * 6 + 6)).toArray := ⟨_, rfl⟩
      have hl6 : (Flat.el x).length = 6 := rfl
      have hcl : cur.toList.length = cap * 6 := by rw [Array.length_toList]; exact hcs
      have hs1 : C1.size = cap * 6 := by
        rw [hC1]
        simp only [List.size_toArray, List.length_append, List.length_take, List.length_drop, hdl, hcl]
        omega
      have hs2 : C2.size = cap * 6 := by
        rw [hC2]
        simp only [List.size_toArray, List.length_append, List.length_take, List.length_drop, hl6, Array.length_toList, hs1]
        omega
      have hfin : C2.toList.take ((xs.length + 1) * 6) = flat (insL xs i x) := by
        have hh := lay_in_shift cur.toList (flat (xs.drop i)) (Flat.el x) (i * 6) 6 rfl (by rw [hdl, hcl]; omega)
        rw [hdl] at hh
        rw [flat_ins, ← hti', ← hh, hC2, hC1, hdl]
        congr 1
        omega
      have hcp1 : ∀ (W : World), W.heap[g]? = some (.cells cur 30 (0, 0)) → ∀ ty dc sc, (Builtin.copy_ #[27, 27] ty #[.slice (some ⟨g, (i + 1) * 6, none⟩) (xs.length - i) dc, .slice (some ⟨g, i * 6, none⟩) (xs.length + 1 - i) sc]).run Tryz.prog W = .ok (goInt ((xs.length - i : Nat))) (W.setRow g C1) := fun W h1 ty dc sc => by
        rw [hC1, show (i + 1) * 6 = i * 6 + 6 by omega]
        refine run_copy_rowK Tryz.prog W _ _ ty 30 6 (xs.length - i) g (i * 6 + 6) _ dc ⟨g, i * 6, none⟩ _ sc cur 30 (flat (xs.drop i)) Tryz.underlying27 hsz h1 (by simp only [Nat.min_def]; split <;> omega) hdl (fun j u hu => ?_) (by rw [hdl]; omega) h1d
        rw [Go.WideShapes.add_plain, cell_of_row W g _ cur _ (0, 0) h1, ← cell_of_row w g _ cur _ (0, 0) hg]
        exact hcell j u hu
      have hcp2 : ∀ (W : World), W.heap[g]? = some (.cells C1 30 (0, 0)) → W.heap[g']? = some (.cells (Flat.el x).toArray 30 (0, 0)) → ∀ ty dc, (Builtin.copy_ #[27, 27] ty #[.slice (some ⟨g, i * 6, none⟩) (xs.length + 1 - i) dc, .slice (some ⟨g', 0, none⟩) 1 1]).run Tryz.prog W = .ok (goInt ((1 : Nat))) (W.setRow g C2) := fun W h1 h2 ty dc => by
        rw [hC2]
        refine run_copy_rowK Tryz.prog W _ _ ty 30 6 1 g (i * 6) _ dc ⟨g', 0, none⟩ _ 1 C1 30 (Flat.el x) Tryz.underlying27 hsz h1 (by simp only [Nat.min_def]; split <;> omega) rfl (fun j u hu => ?_) (by rw [hl6]; omega) (Flat.one x)
        rw [Go.WideShapes.add_plain, Nat.zero_add, cell_of_row W g' j _ _ (0, 0) h2]
        simpa using hu
      replace hov := Lib.hid hov
      replace hcp1 := Lib.hid hcp1
      replace hcp2 := Lib.hid hcp2
      replace hfin := Lib.hid hfin
      have hon := Lib.hid (show ∀ W : World, W.heap[g]? = some (.cells C2 30 (0, 0)) → Own B W 30 (.slice (some ⟨g, 0, none⟩) (xs.length + 1) cap) (insL xs i x) from fun W h => by
        have e := insL_len (x := x) hi
        refine ⟨flat_length _, .inr ⟨g, cap, C2, by rw [e], hgB, h, by rw [e]; exact hroom, hcm, hs2, ?_⟩⟩
        rw [e]; exact hfin.out)
      clear hC1 hC2 hs1 hs2 hti hdi hti' hdl hcell h1d hcl hl6 hcs htk hlen hflat
      replace hg := Lib.hid hg
      replace hv := Lib.hid hv
      have hd1 : (xs.length : Int) + 1 ≤ (cap : Int) := by omega
      have hd2 : (i : Int) + 1 ≤ (xs.length : Int) + 1 := by omega
      have hd3 : (i : Int) ≤ (xs.length : Int) + 1 := by omega
      have hov0 := hov.out w hg.out hv.out
      clear hB hgB hne hcm hz1 hsz he
      have hw0 : IntKind.i64.wrap ((xs.length : Int) + 1) = (xs.length : Int) + 1 := IntWalk.i64_in _ (by omega)
      have hc63 : (cap : Int) ≤ 9223372036854775807 := by unfold maxLen at hcm0; omega
      go_enter Tryz.func44, Tryz.ntmps44
      have hb := Below.refl w.heap.size w
      clear hov
      go_wp2_with (simp only [hov0])
      clear hov0
      refine wp_region_tail_below 8 (by kernel_rfl) (by kernel_rfl) (by kernel_rfl) (by simp only [List.take_succ_cons, List.take_zero]; rfl) (by simp only [List.drop_succ_cons, List.drop_zero]; rfl) ?_
      repeat (go_big_quiet_step ((fail)))
      refine wpQuiet_nil ?_
      intro w2 hw'
      replace hb := upw hb (grown_of hw')
      have hw2 := grown_of hw'
      clear hw'
      have hg2 := (hb.block g hgw).trans hg.out
      have hv2 := (hb.block g' hgw').trans hv.out
      have hg3 := setRow_heap w2 g cur C1 30 (0, 0) hg2
      have hv3 := (setRow_other w2 g g' C1 hne').trans hv2
      have hg4 := setRow_heap (w2.setRow g C1) g C1 C2 30 (0, 0) hg3
      have hr1 := Lib.hid (hcp1.out w2 hg2)
      have hr2 := Lib.hid (hcp2.out _ hg3 hv3)
      have hend := Lib.hid (hon.out _ hg4)
      have hgrow := Lib.hid (grownBy_trans (grownBy_trans (grown_byL hb (some g)) (grown_setRow (g := g) C1)) (grown_setRow (g := g) C2))
      clear hcp1 hcp2 hon hg2 hv2 hg3 hv3 hg4 hfin hg hv
      obtain ⟨w3, hw3⟩ : ∃ w3, w3 = w2.setRow g C1 := ⟨_, rfl⟩
      rw [← hw3] at hr1 hr2 hend hgrow
      obtain ⟨w4, hw4⟩ : ∃ w4, w4 = w3.setRow g C2 := ⟨_, rfl⟩
      rw [← hw4] at hr2 hend hgrow
      clear hw3 hw4
      go_wp2_with (first | simp only [hr1.out] | simp only [hr2.out])
      go_ret
      exact ⟨_, rfl, hend.out, hgrow.out⟩
    · have hG : xs.length + 1 ≤ grownCap w (xs.length + 1) cap 30 := grownCap_ge w _ _ _
      have hGm := grownCap_le_maxLen w (xs.length + 1) cap 30 (by unfold maxLen; omega)
      have hkk : (xs.length : Int) + 1 - (i : Int) = ((xs.length + 1 - i : Nat) : Int) := by omega
      have hik : i + (xs.length + 1 - i) = xs.length + 1 := by omega
      have hold : (Builtin.firstCells i0.size i (.slice (some ⟨g, 0, none⟩) i cap)).run Tryz.prog w.drew = .ok (flat (xs.take i)).toArray w.drew := by
        rw [hz1]
        exact run_firstCells_some w.drew 6 i ⟨g, 0, none⟩ i cap (flat (xs.take i)) (by rw [flat_length, List.length_take, hk6]; omega) (fun j u hj => by
          rw [Go.WideShapes.add_plain, Nat.zero_add, cell_of_row w.drew g j cur _ (0, 0) hg]
          rw [← hti', List.getElem?_take] at hj
          split at hj
          · rw [Array.getElem?_toList] at hj; exact hj
          · cases hj)
      have hrz : ∀ ty, (Builtin.append_ #[27, 3] ty #[.slice (some ⟨g, 0, none⟩) i cap, .int .i64 ((xs.length : Int) + 1 - (i : Int))]).run Tryz.prog w = .ok (.slice (some ⟨w.heap.size, 0, none⟩) (xs.length + 1) (grownCap w (xs.length + 1) cap 30)) (w.drew.alloc (.cells ((flat (xs.take i)).toArray ++ Builtin.zeroCells (Value.agg #[.string ByteArray.empty, .int .i64 0, .int .i64 0, .int .i64 0, .int .i64 0, .int .i64 0]).cells (xs.length + 1 - i) ++ Builtin.zeroCells (Value.agg #[.string ByteArray.empty, .int .i64 0, .int .i64 0, .int .i64 0, .int .i64 0, .int .i64 0]).cells (grownCap w (xs.length + 1) cap 30 - (xs.length + 1))) 30)) := fun ty => by
        have h := Lib.run_append_grow_zeros w 27 3 ty 30 i0 _ .i64 .i64 Tryz.underlying27 Tryz.underlying3 hi0 hz0 (some ⟨g, 0, none⟩) i cap (flat (xs.take i)) hold (xs.length + 1 - i) (by omega) (by omega) (by omega) (by omega) (by rw [hz3]; omega) (by rw [hz3, hik]; exact growslice_fits (by omega) (by omega))
        rw [hik] at h
        rw [hkk]
        exact h
      clear hold hkk hik hz0
      obtain ⟨G, hGe⟩ : ∃ G, G = grownCap w (xs.length + 1) cap 30 := ⟨_, rfl⟩
      rw [← hGe] at hrz hG hGm
      clear hGe
      obtain ⟨ROW, hROW⟩ : ∃ ROW : Array Value, ROW = (flat (xs.take i)).toArray ++ Builtin.zeroCells (Value.agg #[.string ByteArray.empty, .int .i64 0, .int .i64 0, .int .i64 0, .int .i64 0, .int .i64 0]).cells (xs.length + 1 - i) ++ Builtin.zeroCells (Value.agg #[.string ByteArray.empty, .int .i64 0, .int .i64 0, .int .i64 0, .int .i64 0, .int .i64 0]).cells (G - (xs.length + 1)) := ⟨_, rfl⟩
      rw [← hROW] at hrz
      have hti6 : (flat (xs.take i)).length = i * 6 := by rw [flat_length, List.length_take, hk6, Nat.min_eq_left hi]
      have hrs : ROW.size = G * 6 := by
        rw [hROW]
        simp only [Array.size_append, List.size_toArray, hti6, Builtin.zeroCells, Array.size_map, Array.size_range, Value.cells]
        show i * 6 + (xs.length + 1 - i) * 6 + (G - (xs.length + 1)) * 6 = G * 6
        omega
      have hrl : ROW.toList.length = G * 6 := by rw [Array.length_toList]; exact hrs
      have hrt : ROW.toList.take (i * 6) = flat (xs.take i) := by
        rw [hROW, Array.toList_append, Array.toList_append, List.append_assoc, List.take_append_of_le_length (by simp [hti6]), List.take_of_length_le (by simp [hti6])]
      clear hROW
      obtain ⟨C1, hC1⟩ : ∃ C1 : Array Value, C1 = (ROW.toList.take (i * 6) ++ Flat.el x ++ ROW.toList.drop (i * 6 + 6)).toArray := ⟨_, rfl⟩
      obtain ⟨C2, hC2⟩ : ∃ C2 : Array Value, C2 = (C1.toList.take (i * 6 + 6) ++ flat (xs.drop i) ++ C1.toList.drop (i * 6 + 6 + (flat (xs.drop i)).length)).toArray := ⟨_, rfl⟩
      have hl6 : (Flat.el x).length = 6 := rfl
      have hs1 : C1.size = G * 6 := by
        rw [hC1]
        simp only [List.size_toArray, List.length_append, List.length_take, List.length_drop, hl6, Array.length_toList, hrs]
        omega
      have hs2 : C2.size = G * 6 := by
        rw [hC2]
        simp only [List.size_toArray, List.length_append, List.length_take, List.length_drop, hdl, Array.length_toList, hs1]
        omega
      have hfin : C2.toList.take ((xs.length + 1) * 6) = flat (insL xs i x) := by
        have hh := lay_in_new ROW.toList (flat (xs.drop i)) (Flat.el x) (i * 6) 6 rfl (by rw [hdl, hrl]; omega)
        rw [hdl] at hh
        rw [flat_ins, ← hrt, ← hh, hC2, hC1, hdl]
        congr 1
        omega
      obtain ⟨N, hN⟩ : ∃ N, N = w.heap.size := ⟨_, rfl⟩
      obtain ⟨W1, hW1⟩ : ∃ W1, W1 = w.drew.alloc (.cells ROW 30) := ⟨_, rfl⟩
      rw [← hW1, ← hN] at hrz
      have hb1 : Below w.heap.size w W1 := by rw [hW1]; exact (Below.refl _ _).drew.alloc (Nat.le_refl _) _
      have hN1 : W1.heap[N]? = some (.cells ROW 30 (0, 0)) := by rw [hW1, hN]; exact heap_alloc_new w.drew _
      have hg1 := (hb1.block g hgw).trans hg
      have hv1 := (hb1.block g' hgw').trans hv
      clear hW1
      have hgN : g ≠ N := by omega
      have hvN : g' ≠ N := by omega
      have hr1 : ∀ ty dc, (Builtin.copy_ #[27, 27] ty #[.slice (some ⟨N, i * 6, none⟩) (xs.length + 1 - i) dc, .slice (some ⟨g', 0, none⟩) 1 1]).run Tryz.prog W1 = .ok (goInt ((1 : Nat))) (W1.setRow N C1) := fun ty dc => by
        rw [hC1]
        refine run_copy_rowK Tryz.prog W1 _ _ ty 30 6 1 N (i * 6) _ dc ⟨g', 0, none⟩ _ 1 ROW 30 (Flat.el x) Tryz.underlying27 hsz hN1 (by simp only [Nat.min_def]; split <;> omega) rfl (fun j u hu => ?_) (by rw [hl6]; omega) (Flat.one x)
        rw [Go.WideShapes.add_plain, Nat.zero_add, cell_of_row W1 g' j _ _ (0, 0) hv1]
        simpa using hu
      obtain ⟨W2, hW2⟩ : ∃ W2, W2 = W1.setRow N C1 := ⟨_, rfl⟩
      rw [← hW2] at hr1
      have hN2 : W2.heap[N]? = some (.cells C1 30 (0, 0)) := by rw [hW2]; exact setRow_heap W1 N ROW C1 _ (0, 0) hN1
      have hg2 : W2.heap[g]? = some (.cells cur 30 (0, 0)) := by rw [hW2]; exact (setRow_other W1 N g C1 hgN).trans hg1
      have hb2 : Below w.heap.size w W2 := by rw [hW2]; exact hb1.grown (grown_setRow C1) hb1.size (fun k hk => by have : N = k := Option.some.inj hk; omega)
      have hs12 : W2.heap.size = W1.heap.size := by rw [hW2]; simp
      have hNW : N < W2.heap.size := (Array.getElem?_eq_some_iff.1 hN2).1
      have hgW : g < W2.heap.size := (Array.getElem?_eq_some_iff.1 hg2).1
      clear hW2
      have hcp2 : ∀ (W : World), W.heap[N]? = some (.cells C1 30 (0, 0)) → W.heap[g]? = some (.cells cur 30 (0, 0)) → ∀ ty dc sc, (Builtin.copy_ #[27, 27] ty #[.slice (some ⟨N, (i + 1) * 6, none⟩) (xs.length - i) dc, .slice (some ⟨g, i * 6, none⟩) (xs.length - i) sc]).run Tryz.prog W = .ok (goInt ((xs.length - i : Nat))) (W.setRow N C2) := fun W h1 h2 ty dc sc => by
        rw [hC2, show (i + 1) * 6 = i * 6 + 6 by omega]
        refine run_copy_rowK Tryz.prog W _ _ ty 30 6 (xs.length - i) N (i * 6 + 6) _ dc ⟨g, i * 6, none⟩ _ sc C1 30 (flat (xs.drop i)) Tryz.underlying27 hsz h1 (by simp only [Nat.min_def]; split <;> omega) hdl (fun j u hu => ?_) (by rw [hdl]; omega) h1d
        rw [Go.WideShapes.add_plain, cell_of_row W g _ cur _ (0, 0) h2, ← cell_of_row w g _ cur _ (0, 0) hg]
        exact hcell j u hu
      have hon := Lib.hid (show ∀ W : World, W.heap[N]? = some (.cells C2 30 (0, 0)) → Own B W 30 (.slice (some ⟨N, 0, none⟩) (xs.length + 1) G) (insL xs i x) from fun W h => by
        have e := insL_len (x := x) hi
        refine ⟨flat_length _, .inr ⟨N, G, C2, by rw [e], by omega, h, by rw [e]; exact hG, hGm, hs2, ?_⟩⟩
        rw [e]; exact hfin)
      have hroomI : (cap : Int) < (xs.length : Int) + 1 := by omega
      have hw0 : IntKind.i64.wrap ((xs.length : Int) + 1) = (xs.length : Int) + 1 := IntWalk.i64_in _ (by omega)
      have hw5 : IntKind.i64.wrap ((xs.length : Int) + 1 - (i : Int)) = (xs.length : Int) + 1 - (i : Int) := IntWalk.i64_in _ (by omega)
      have hd0 : (i : Int) ≤ (cap : Int) := by omega
      have hd2 : (i : Int) + 1 ≤ (xs.length : Int) + 1 := by omega
      have hd3 : (i : Int) ≤ (xs.length : Int) + 1 := by omega
      have hG0 : ¬ (G = i) := by omega
      have hG1 : ¬ (G = i + 1) := by omega
      have hG63 : G ≤ 9223372036854775807 := by unfold maxLen at hGm; omega
      have hNw : w.heap.size ≤ N := by omega
      clear hC1 hC2 hs1 hs2 hti hdi hti' hdl hcell h1d hl6 hcs htk hlen hflat hfin hrs hrl hrt hti6 hsz hz1 hz3 hi0 hk6 hgB hne hne' hB hN1 hg1 hv1 hb1 hs12 hN hv hg
      replace hrz := Lib.hid hrz
      replace hr1 := Lib.hid hr1
      replace hcp2 := Lib.hid hcp2
      replace hb2 := Lib.hid hb2
      replace hN2 := Lib.hid hN2
      replace hg2 := Lib.hid hg2
      go_enter Tryz.func44, Tryz.ntmps44
      go_wp2_with (first | (at_builtin; refine Lib.wpList_append_run _ rfl (.tmp 34) (.tmp 39) _ _ rfl _ _ rfl rfl _ _ (hrz.out _) ?_) | simp only [hr1.out])
      have hb := Below.refl W2.heap.size W2
      clear hrz hr1
      refine wp_region_tail_below 8 (by kernel_rfl) (by kernel_rfl) (by kernel_rfl) (by simp only [List.take_succ_cons, List.take_zero]; rfl) (by simp only [List.drop_succ_cons, List.drop_zero]; rfl) ?_
      repeat (go_big_quiet_step ((fail)))
      refine wpQuiet_nil ?_
      intro w2 hw'
      replace hb := upw hb (grown_of hw')
      have hw2 := grown_of hw'
      clear hw'
      have hN3 := (hw2.block N hNW).trans hN2.out
      have hg3 := (hw2.block g hgW).trans hg2.out
      have hr2 := Lib.hid (hcp2.out w2 hN3 hg3)
      have hend := Lib.hid (hon.out _ (setRow_heap w2 N C1 C2 _ (0, 0) hN3))
      have hgrow := Lib.hid (grown_byL ((upw hb2.out hw2).grown (grown_setRow (g := N) C2) (upw hb2.out hw2).size (fun k hk => by have : N = k := Option.some.inj hk; omega)) (some g))
      obtain ⟨w4, hw4⟩ : ∃ w4, w4 = w2.setRow N C2 := ⟨_, rfl⟩
      rw [← hw4] at hr2 hend hgrow
      clear hw4 hcp2 hon hN3 hg3 hN2 hg2
      go_wp2_with (simp only [hr2.out])
      go_ret
      exact ⟨_, rfl, hend.out, hgrow.out⟩
end Go.Proofs.YtaeinllbjkjhlaaGreatDoor
