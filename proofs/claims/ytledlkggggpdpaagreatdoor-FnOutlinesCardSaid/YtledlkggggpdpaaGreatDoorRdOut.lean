/- Chapter 7: an outline read back from its text. -/
import Derived.Test.YtledlkggggpdpaaGreatDoorRdStrip
import Derived.Test.YtledlkggggpdpaaGreatDoorOutT
import Derived.Test.YtledlkggggpdpaaGreatDoorSmall
namespace Go.Proofs.YtledlkggggpdpaaGreatDoor
open Go.RowKit

/-- A spot read back. -/
def rdSpot (p : ByteArray) : Option Spot := (numsN 44 2 p).bind fun xs => some ⟨xs.getD 0 0, xs.getD 1 0⟩
def rdS (p : ByteArray) : Spot := (rdSpot p).getD ⟨0, 0⟩
theorem rdSpot_nums {p : ByteArray} {a b : Int} (h : numsN 44 2 p = some [a, b]) : rdSpot p = some ⟨a, b⟩ := by simp [rdSpot, h]
theorem rdSpot_none {p : ByteArray} (h : numsN 44 2 p = none) : rdSpot p = none := by simp [rdSpot, h]
theorem rdSpot_some {p : ByteArray} {x : Spot} (h : rdSpot p = some x) : p = spotT x ∧ (-1000000000000000000 < x.X ∧ x.X < 1000000000000000000) ∧ (-1000000000000000000 < x.Y ∧ x.Y < 1000000000000000000) := by
  cases hn : numsN 44 2 p with
  | none => rw [rdSpot_none hn] at h; cases h
  | some xs =>
    obtain ⟨h1, h2, h3⟩ := numsN_some hn
    obtain ⟨a, b, rfl⟩ := two_of h2
    rw [rdSpot_nums hn] at h
    obtain rfl := Option.some.inj h
    exact ⟨h1, h3 a (by simp), h3 b (by simp)⟩
theorem rdSpot_len {p : ByteArray} (h : ¬ (parts 44 p).length = 2) : rdSpot p = none := rdSpot_none (numsN_len h)
theorem rdSpot_two {p a b : ByteArray} (h : parts 44 p = [a, b]) : rdSpot p = if ((rdB a).isSome && (rdB b).isSome) = true then some ⟨(rdB a).getD 0, (rdB b).getD 0⟩ else none := by
  have hn : numsN 44 2 p = if allNums [a, b] = true then some [rd a, rd b] else none := by
    unfold numsN
    rw [h, if_pos (show [a, b].length = 2 from rfl), readNums_eq, h]; rfl
  have ha : allNums [a, b] = ((rdB a).isSome && (rdB b).isSome) := by simp [allNums]
  rw [ha] at hn
  by_cases hc : ((rdB a).isSome && (rdB b).isSome) = true
  · rw [if_pos hc] at hn ⊢
    exact rdSpot_nums hn
  · rw [if_neg hc] at hn ⊢
    exact rdSpot_none hn
theorem rdSpot_spotT {x : Spot} (h : okSpot x = true) : rdSpot (spotT x) = some x := by
  have h1 := okSpot_iff.1 h
  exact rdSpot_nums (numsN_nums isSep_comma (xs := [x.X, x.Y]) (by simp) (fun n hn => by simp at hn; rcases hn with rfl | rfl <;> omega))
theorem spotT_free (x : Spot) : (32 : UInt8) ∉ (spotT x).data.toList := numsT_free isSep_blank (by decide) _
/-- The outline with a text. -/
noncomputable def readOutline (s : ByteArray) : Option (List Spot) := unread fun xs => okOutline xs = true ∧ outT xs = s
theorem outT_parts {xs : List Spot} (h0 : xs ≠ []) : parts 32 (outT xs) = xs.map spotT := by
  unfold parts outT
  rw [show (⟨(Lib.join ((xs.map spotT).map (·.data.toList)) [32]).toArray⟩ : ByteArray).data.toList = Lib.join ((xs.map spotT).map (·.data.toList)) [32] by simp]
  rw [splitC_join _ (by simpa using h0) (fun y hy => by
    simp only [List.map_map, List.mem_map] at hy
    obtain ⟨x, _, rfl⟩ := hy
    exact spotT_free x)]
  simp
theorem outT_of_parts {s : ByteArray} {xs : List Spot} (h : parts 32 s = xs.map spotT) : outT xs = s := by
  apply Go.WideShapes.bytes_inj
  unfold outT
  rw [← h, parts_lists]
  simp [join_splitC]
theorem out_shape {s : ByteArray} {xs : List Spot} (h : okOutline xs = true) (e : outT xs = s) : parts 32 s = xs.map spotT ∧ xs.length ≤ 24 ∧ ∀ k (hk : k < (xs.map spotT).length), rdSpot (xs.map spotT)[k] = some (xs[k]'(by simpa using hk)) := by
  obtain ⟨⟨⟨h1, h2⟩, h3⟩, _⟩ := okOutline_iff.1 h
  refine ⟨?_, h2, fun k hk => ?_⟩
  · rw [← e, outT_parts (by intro k; rw [k] at h1; simp at h1)]
  · rw [List.getElem_map]
    exact rdSpot_spotT (h3 _ (List.getElem_mem _))
theorem out_again {xs : List Spot} (h : ∀ x ∈ xs, okSpot x = true) : (xs.map spotT).map rdS = xs := by
  rw [List.map_map]
  conv => rhs; rw [← List.map_id xs]
  apply List.map_congr_left
  intro x hx
  simp only [Function.comp, rdS, rdSpot_spotT (h x hx)]; rfl
theorem out_uniq {xs ys : List Spot} (hx : okOutline xs = true) (hy : okOutline ys = true) (e : outT xs = outT ys) : xs = ys := by
  have h1 := (out_shape hx rfl).1
  have h2 := (out_shape hy rfl).1
  rw [e, h2] at h1
  rw [← out_again (okOutline_iff.1 hx).1.2, ← out_again (okOutline_iff.1 hy).1.2, h1]
theorem readOutline_some {s : ByteArray} {xs : List Spot} (h : okOutline xs = true) (e : outT xs = s) : readOutline s = some xs :=
  unread_some (fun _ _ hx hy => out_uniq hx.1 hy.1 (hx.2.trans hy.2.symm)) ⟨h, e⟩
theorem readOutline_none {s : ByteArray} (h : ∀ x, okOutline x = true → outT x = s → False) : readOutline s = none := unread_none fun x hx => h x hx.1 hx.2
/-- Parts that are all of a text's, if these are few. -/
def Few (s : ByteArray) (ps : List ByteArray) : Prop := (parts 32 s).length ≤ 24 → ps = parts 32 s
theorem few_shape {s : ByteArray} {ps : List ByteArray} (hf : Few s ps) {xs : List Spot} (h : okOutline xs = true) (e : outT xs = s) : ps = xs.map spotT := by
  obtain ⟨h1, h2, _⟩ := out_shape h e
  rw [hf (by rw [h1]; simpa using h2), h1]
theorem out_bad {s : ByteArray} {ps : List ByteArray} (hf : Few s ps) {k : Nat} (hk : k < ps.length) (h : rdSpot ps[k] = none) : readOutline s = none :=
  readOutline_none fun xs hx e => by
    have h1 := few_shape hf hx e
    subst h1
    rw [(out_shape hx e).2.2 k hk] at h
    cases h
theorem out_unfit {s : ByteArray} {ps : List ByteArray} (hf : Few s ps) (h : okOutline (ps.map rdS) = false) : readOutline s = none :=
  readOutline_none fun xs hx e => by
    have h1 := few_shape hf hx e
    subst h1
    rw [out_again (okOutline_iff.1 hx).1.2, hx] at h
    cases h
theorem out_unlike {s : ByteArray} {ps : List ByteArray} (hf : Few s ps) (h : ¬ outT (ps.map rdS) = s) : readOutline s = none :=
  readOutline_none fun xs hx e => h (by
    have h1 := few_shape hf hx e
    subst h1
    rw [out_again (okOutline_iff.1 hx).1.2, e])
theorem out_read {s : ByteArray} (ha : ∀ j, j < (parts 32 s).length → ∀ (h1 : j < (parts 32 s).length), (rdSpot (parts 32 s)[j]).isSome = true) (h : okOutline ((parts 32 s).map rdS) = true) : readOutline s = some ((parts 32 s).map rdS) := by
  refine readOutline_some h (outT_of_parts ?_)
  rw [List.map_map]
  conv => lhs; rw [← List.map_id (parts 32 s)]
  apply List.map_congr_left
  intro p hp
  obtain ⟨j, hj, rfl⟩ := List.mem_iff_getElem.1 hp
  obtain ⟨x, hx⟩ := Option.isSome_iff_exists.1 (ha j hj hj)
  simp only [id, Function.comp, rdS, hx]
  exact (rdSpot_some hx).1
theorem rdS_range (p : ByteArray) : (-1000000000000000000 < (rdS p).X ∧ (rdS p).X < 1000000000000000000) ∧ (-1000000000000000000 < (rdS p).Y ∧ (rdS p).Y < 1000000000000000000) := by
  unfold rdS
  cases h : rdSpot p with
  | none => simp
  | some x => exact (rdSpot_some h).2
theorem few_all (s : ByteArray) : Few s (parts 32 s) := fun _ => rfl
theorem ReadOutline_len (s : ByteArray) : ((readOutline s).getD []).length ≤ 24 := by
  by_cases h : ∃ xs, okOutline xs = true ∧ outT xs = s
  · obtain ⟨xs, h1, h2⟩ := h
    rw [readOutline_some h1 h2]
    exact (okOutline_iff.1 h1).1.1.2
  · rw [readOutline_none fun xs h1 h2 => h ⟨xs, h1, h2⟩]
    exact Nat.zero_le _
set_option maxHeartbeats 1600000 in
set_option maxRecDepth 100000 in
theorem specReadOutline_c (s : ByteArray) (w : World) (hs : s.size ≤ 1048576) :
    Calls Tryz.prog 85 #[.string s] w fun e w' => ∃ v, e = .returned (.tuple #[v, .bool (readOutline s).isSome]) ∧ Own w.heap.size w' 106 v ((readOutline s).getD []) ∧ Below w.heap.size w w' := by
  have S0 := Lib.hid (l01Split_c s 32 w hs)
  have hsm := Lib.hid (parts_small (c := 32) (s := s))
  have hbad := Lib.hid (fun k => @out_bad s _ (few_all s) k)
  have hunf := Lib.hid (@out_unfit s _ (few_all s))
  have hread := Lib.hid (@out_read s)
  have hpl : (parts 32 s).length ≤ 1048577 := by rw [parts_length]; have := splitC_length_le 32 s.data.toList; rw [size_len] at this; omega
  generalize parts 32 s = ps at *
  go_enter Tryz.func85, Tryz.ntmps85
  go_wp2_with fail
  refine S0.out.mono ?_
  rintro e w1 ⟨va, rfl, hOa, hb1⟩
  have hs1 := Lib.hid hb1.size
  obtain ⟨a, cc, hv⟩ : ∃ a cc, va = .slice a ps.length cc := by
    rcases hOa.cases with ⟨hv, hL⟩ | ⟨g, cap, hv⟩
    · exact ⟨none, 0, by rw [hv, hL]; rfl⟩
    · exact ⟨_, cap, hv⟩
  subst hv
  have hA := Lib.hid hOa.at'
  clear hOa
  have hO0 := Lib.hid (own_new (α := Spot) w1 106)
  have hB1 : Below w1.heap.size w1 (w1.alloc (.cells #[] 106)) := (Below.refl _ _).alloc (Nat.le_refl _) _
  have hb0 := upw hb1 hB1
  go_wp2_with fail
  go_loopw [5, 6, 7, 8, 9, 10, 11] (fun v i _ _ _ _ _ wr => ∃ k : Nat, k ≤ ps.length ∧ i = .int .i64 k ∧ Hid (Own w1.heap.size wr 106 v ((ps.take k).map rdS)) ∧ Hid (∀ j, j < k → ∀ (h1 : j < ps.length), (rdSpot ps[j]).isSome = true) ∧ Below w.heap.size w wr ∧ Below w1.heap.size w1 wr) (fun _ i _ _ _ _ _ _ => ps.length - (intOf i).toNat)
  case atStart => exact ⟨0, Nat.zero_le _, rfl, hO0, Lib.hid (fun j h => absurd h (Nat.not_lt_zero j)), hb0, hB1⟩
  case round =>
    obtain ⟨k, hk, rfl, hO, hall, hb, hB⟩ := hrel
    by_cases hlt : k < ps.length
    · have hAr := hA.out.below hB
      obtain ⟨ga, oa, rfl⟩ := hAr.addr hlt
      have c0 := hAr.str hlt
      have hpk : ps[k].size ≤ 1048576 := Nat.le_trans (hsm.out _ (List.getElem_mem hlt)) hs
      have hlk : Hid (((ps.take k).map rdS).length ≤ 1048577) := Lib.hid (by rw [List.length_map, List.length_take]; omega)
      have hbk := hbad.out k hlt
      have E0 : (ps.take (k + 1)).map rdS = (ps.take k).map rdS ++ [rdS ps[k]] := by rw [List.take_succ_eq_append_getElem hlt, List.map_append]; rfl
      have hall2 : (rdSpot ps[k]).isSome = true → ∀ j, j < k + 1 → ∀ (h1 : j < ps.length), (rdSpot ps[j]).isSome = true := fun h j hj h1 => by
        rcases Nat.lt_succ_iff_lt_or_eq.1 hj with hj | hj
        · exact hall.out j hj h1
        · subst hj; exact h
      obtain ⟨p, hp⟩ : ∃ p, p = ps[k] := ⟨_, rfl⟩
      rw [← hp] at c0 hpk hbk E0 hall2
      replace hp := Lib.hid hp
      replace E0 := Lib.hid E0
      replace hall2 := Lib.hid hall2
      replace hbk := Lib.hid hbk
      have S1 := Lib.hid (l01Split_c p 44 wr hpk)
      have hsp := Lib.hid (parts_small (c := 44) (s := p))
      have hlen := Lib.hid (@rdSpot_len p)
      have htwo := Lib.hid (fun a b => @rdSpot_two p a b)
      have hXl : (parts 44 p).length ≤ 1048577 := by rw [parts_length]; have := splitC_length_le 44 p.data.toList; rw [size_len] at this; omega
      generalize parts 44 p = X at *
      clear hAr
      go_wp2_with fail
      refine S1.out.mono ?_
      rintro e w2 ⟨vx, rfl, hOx, hb2⟩
      replace hOx := Lib.hid hOx
      obtain ⟨ax, cx, hvx⟩ : ∃ a cc, vx = .slice a X.length cc := by
        rcases hOx.out.cases with ⟨hv, hL⟩ | ⟨g, cap, hv⟩
        · exact ⟨none, 0, by rw [hv, hL]; rfl⟩
        · exact ⟨_, cap, hv⟩
      subst hvx
      have hO2 := Lib.hid (hO.out.later hb2)
      have hb2' := upw hb hb2
      have hB2 := upw hB hb2
      by_cases hX2 : X.length = 2
      · obtain ⟨x0, x1, rfl⟩ := two_bytes hX2
        obtain ⟨g2, cap2, hv⟩ := hOx.out.row (by simp)
        simp only [Value.slice.injEq] at hv
        obtain ⟨rfl, -, rfl⟩ := hv
        have d0 := hOx.out.at'.str (i := 0) (by simp)
        have d1 := hOx.out.at'.str (i := 1) (by simp)
        simp only [Nat.zero_add, Nat.add_zero, List.getElem_cons_zero, List.getElem_cons_succ] at d0 d1
        have N0 := Lib.hid (fun w' => l01Number_c x0 w' (by have := hsp.out x0 (by simp); omega))
        have N1 := Lib.hid (fun w' => l01Number_c x1 w' (by have := hsp.out x1 (by simp); omega))
        have hres := htwo.out x0 x1 rfl
        have r0 : -1000000000000000000 < (rdB x0).getD 0 ∧ (rdB x0).getD 0 < 1000000000000000000 := rd_range x0
        have r1 : -1000000000000000000 < (rdB x1).getD 0 ∧ (rdB x1).getD 0 < 1000000000000000000 := rd_range x1
        unfold numRes at N0 N1
        generalize rdB x0 = o0 at *
        generalize rdB x1 = o1 at *
        replace hres := Lib.hid hres
        clear hX2 hXl hlen htwo hsp c0
        go_wp2_with fail
        refine (N0.out w2).mono ?_
        rintro e w3 ⟨rfl, hb3⟩
        replace d1 := kept_cell d1 hb3
        clear d0
        replace hO2 := Lib.hid (hO2.out.later hb3)
        replace hb2' := upw hb2' hb3
        replace hB2 := upw hB2 hb3
        go_wp2_with fail
        refine (N1.out w3).mono ?_
        rintro e w4 ⟨rfl, hb4⟩
        clear d1
        replace hO2 := Lib.hid (hO2.out.later hb4)
        replace hb2' := upw hb2' hb4
        replace hB2 := upw hB2 hb4
        cases h1 : o0.isSome
        · have hr := hres.out
          rw [if_neg (by simp [h1])] at hr
          replace hr := Lib.hid (hbk.out hr)
          go_wp2_with fail
          go_ret2
          exact ⟨_, by rw [hr.out]; rfl, by rw [hr.out]; exact own_none _ _ _, hb2'⟩
        · cases h2 : o1.isSome
          · have hr := hres.out
            rw [if_neg (by simp [h1, h2])] at hr
            replace hr := Lib.hid (hbk.out hr)
            go_wp2_with fail
            go_ret2
            exact ⟨_, by rw [hr.out]; rfl, by rw [hr.out]; exact own_none _ _ _, hb2'⟩
          · have hr := hres.out
            rw [if_pos (by simp [h1, h2])] at hr
            have hx : Hid (rdS p = ⟨o0.getD 0, o1.getD 0⟩) := Lib.hid (by unfold rdS; rw [hr]; rfl)
            have hall3 := Lib.hid (hall2.out (by rw [hr]; rfl))
            replace hr := Lib.hid hr
            generalize o0.getD 0 = z0 at *
            generalize o1.getD 0 = z1 at *
            have hsz := hB2.size
            have hb5 : Below w4.heap.size w4 (w4.alloc (.cells #[.int .i64 z0, .int .i64 z1] 106)) := (Below.refl _ _).alloc (Nat.le_refl _) _
            go_wp2_with (at_builtin; refine wpList_push rfl (.tmp 49) (.tmp 53) 96 rfl w1.heap.size 106 (.agg #[.int .i64 0, .int .i64 0]) 16 Tryz.underlying96 infoSpot rfl _ _ (⟨z0, z1⟩ : Spot) rfl (hO2.out.later hb5) _ _ rfl 106 (heap_alloc_new _ _) (by have := hlk.out; omega) (by decide) (by simp; omega) ?_; intro v1 w7 hO1 hg1)
            go_roundw
            case rel => exact ⟨k + 1, by omega, by go_num, Lib.hid (by rw [E0.out, hx.out]; exact hO1), hall3, below_mark (upw hb2' hb5) (hO2.out.later hb5) hs1.out hg1, below_mark (upw hB2 hb5) (hO2.out.later hb5) (Nat.le_refl _) hg1⟩
            case measure => simp [intOf]; omega
      · have hr := Lib.hid (hbk.out (hlen.out hX2))
        have hne : ((X.length : Int) != 2) = true := by simp; omega
        go_wp2_with fail
        go_ret2
        exact ⟨_, by rw [hr.out]; rfl, by rw [hr.out]; exact own_none _ _ _, hb2'⟩
    · obtain rfl : k = ps.length := by omega
      rw [List.take_length] at hO
      obtain ⟨ao, co, hvo⟩ : ∃ a cc, u5 = .slice a (ps.map rdS).length cc := by
        rcases hO.out.cases with ⟨hv, hL⟩ | ⟨g, cap, hv⟩
        · exact ⟨none, 0, by rw [hv, hL]; rfl⟩
        · exact ⟨_, cap, hv⟩
      rw [hvo] at hO ⊢
      have hml : (ps.map rdS).length = ps.length := List.length_map _
      have hK0 := l07Ok_c ao (ps.map rdS) co wr hO.out.at' (by omega)
      rw [hml] at hK0
      have hK := Lib.hid hK0
      clear hK0
      replace hml := Lib.hid hml
      cases hok : okOutline (ps.map rdS)
      · have hr := Lib.hid (hunf.out hok)
        go_wp2_with fail
        refine (as_boolB hok hK.out).mono ?_
        rintro e w2 ⟨rfl, hb2⟩
        go_wp2_with fail
        go_ret2
        exact ⟨_, by rw [hr.out]; rfl, by rw [hr.out]; exact own_none _ _ _, upw hb hb2⟩
      · have hr := Lib.hid (hread.out hall.out hok)
        go_wp2_with fail
        refine (as_boolB hok hK.out).mono ?_
        rintro e w2 ⟨rfl, hb2⟩
        go_wp2_with fail
        go_ret2
        have hOf : Own w.heap.size w2 106 (.slice ao ps.length co) (ps.map rdS) := by
          have k := (hO.out.base hs1.out).later hb2
          rw [hml.out] at k; exact k
        exact ⟨_, by rw [hr.out]; rfl, by rw [hr.out]; exact hOf, upw hb hb2⟩
theorem few_split {s : ByteArray} {ps : List ByteArray} (h : ps.map (fun p => p.data.toList) = Lib.splitK [32] 0 (min 25 (s.data.toList.length + 1) - 1) s.data.toList) : Few s ps := fun hl => by
  rw [parts_length] at hl
  exact parts_of (by rw [h]; exact splitK_all 32 _ 25 (by omega))
theorem splitK_mem {c : UInt8} : ∀ (k : Nat) (l : List UInt8), ∀ x ∈ Lib.splitK [c] 0 k l, x.length ≤ l.length
  | 0, l, x, hx => by simp [Lib.splitK] at hx; rw [hx]; exact Nat.le_refl _
  | k + 1, l, x, hx => by
    unfold Lib.splitK at hx
    split at hx
    · simp at hx; rw [hx]; exact Nat.le_refl _
    · rcases List.mem_cons.1 hx with rfl | hx
      · simp; omega
      · have := splitK_mem k _ x hx
        simp at this; omega
theorem heap_parts {w : World} {g : Nat} {ps : List ByteArray} {N : Nat} {t : TypeId} (h : w.heap[g]? = some (.cells (Lib.cellsOf ps N) t (0, 0))) {k : Nat} (hk : k < ps.length) : w.cell? ⟨g, k, none⟩ = some (.string ps[k]) := by
  rw [cell_of_row _ _ _ _ t (0, 0) h]
  simp [Lib.cellsOf, List.getElem?_append_left, hk]
set_option maxHeartbeats 1600000 in
set_option maxRecDepth 100000 in
theorem implReadOutline_c (s : ByteArray) (w : World) (hT : TabR w) (hs : s.size ≤ 1048576) :
    Calls Tryz.prog 83 #[.string s] w fun e w' => ∃ v, e = .returned (.tuple #[v, .bool (readOutline s).isSome]) ∧ Own w.heap.size w' 106 v ((readOutline s).getD []) ∧ Below w.heap.size w w' := by
  obtain ⟨m, hm⟩ := hT.ml
  have hw1b : Below w.heap.size w (w.alloc (.cells #[] 106)) := (Below.refl _ _).alloc (Nat.le_refl _) _
  have hO0 := Lib.hid (own_new (α := Spot) w 106)
  obtain ⟨w1, hw1⟩ : ∃ w1, w1 = w.alloc (.cells #[] 106) := ⟨_, rfl⟩
  rw [← hw1] at hO0 hw1b
  have hS := strSplitN s ⟨#[32]⟩ 25 m w1 (by omega) (kept_cell hm hw1b) (Nat.le_refl 1) (by omega) (by omega)
  obtain ⟨N, hN⟩ : ∃ N, N = min 25 (s.size + 1) := ⟨_, rfl⟩
  obtain ⟨ps, hps⟩ : ∃ ps, ps = Lib.splitB ⟨#[32]⟩ 0 (min 25 (s.size + 1) - 1) s := ⟨_, rfl⟩
  have hpl : ps.length ≤ N := by rw [hps, hN]; have := Lib.splitB_length_le ⟨#[32]⟩ 0 (min 25 (s.size + 1) - 1) s; omega
  have hmap : ps.map (fun p => p.data.toList) = Lib.splitK [32] 0 (min 25 (s.data.toList.length + 1) - 1) s.data.toList := by rw [hps, Lib.splitB_data, size_len]
  have hfew := few_split hmap
  have hsm : Hid (∀ p ∈ ps, p.size ≤ s.size) := Lib.hid (fun p hp => by
    have := splitK_mem _ _ p.data.toList (by rw [← hmap]; exact List.mem_map_of_mem hp)
    rw [size_len, size_len] at this; exact this)
  rw [← hps, ← hN] at hS
  have hpl25 : ps.length ≤ 25 := by omega
  have hb2' : Below w1.heap.size w1 (w1.alloc (.cells (Lib.cellsOf ps N) 9)) := (Below.refl _ _).alloc (Nat.le_refl _) _
  have hP := Lib.hid (heap_alloc_new w1 (.cells (Lib.cellsOf ps N) 9))
  have hbad := Lib.hid (fun k => @out_bad s _ hfew k)
  have hunf := Lib.hid (@out_unfit s _ hfew)
  have hunl := Lib.hid (@out_unlike s _ hfew)
  have hsome := Lib.hid (@readOutline_some s (ps.map rdS))
  replace hS := Lib.hid hS
  clear hfew hmap hps hN hpl hm
  replace hT := Lib.hid hT
  go_enter Tryz.func83, Tryz.ntmps83
  go_wp2_with fail
  rw [← hw1]
  clear hw1
  refine hS.out.mono ?_
  rintro e w2 ⟨rfl, hw2⟩
  rw [← hw2] at hb2' hP
  clear hw2
  have hb0 := upw hw1b hb2'
  replace hO0 := Lib.hid (hO0.out.later hb2')
  go_wp2_with fail
  go_loopw [4, 6, 7, 8, 13] (fun v _ _ _ i wr => ∃ k : Nat, k ≤ ps.length ∧ i = .int .i64 k ∧ Hid (Own w.heap.size wr 106 v ((ps.take k).map rdS)) ∧ Hid (wr.heap[w1.heap.size]? = some (.cells (Lib.cellsOf ps N) 9 (0, 0))) ∧ Below w.heap.size w wr) (fun _ _ _ _ i _ => ps.length - (intOf i).toNat)
  case atStart => exact ⟨0, Nat.zero_le _, rfl, hO0, hP, hb0⟩
  case round =>
    obtain ⟨k, hk, rfl, hO, hP, hb⟩ := hrel
    by_cases hlt : k < ps.length
    · have c0 := heap_parts hP.out hlt
      have hpk : ps[k].size ≤ 1048576 := Nat.le_trans (hsm.out _ (List.getElem_mem hlt)) hs
      have hlk : Hid (((ps.take k).map rdS).length ≤ 1048577) := Lib.hid (by rw [List.length_map, List.length_take]; omega)
      have hbk := Lib.hid (hbad.out k hlt)
      have E0 : (ps.take (k + 1)).map rdS = (ps.take k).map rdS ++ [rdS ps[k]] := by rw [List.take_succ_eq_append_getElem hlt, List.map_append]; rfl
      have hD := Lib.hid (readNumbers_c ps[k] 44 2 wr (hT.out.below hb) hpk (by omega))
      have h1 := Lib.hid (@rdSpot_none ps[k])
      have h2 := Lib.hid (fun a b => @rdSpot_nums ps[k] a b)
      have h3 := Lib.hid (fun xs => @numsN_some 44 2 ps[k] xs)
      obtain ⟨p, hp⟩ : ∃ p, p = ps[k] := ⟨_, rfl⟩
      rw [← hp] at c0 hbk hD h1 h2 h3 E0
      replace hp := Lib.hid hp
      replace E0 := Lib.hid E0
      generalize numsN 44 2 p = o at *
      clear hpk
      go_wp2_with fail
      refine hD.out.mono ?_
      rintro e w2 ⟨vn, rfl, hOn, hb2⟩
      replace hOn := Lib.hid hOn
      replace hO := Lib.hid (hO.out.later hb2)
      replace hP : Hid (w2.heap[w1.heap.size]? = some (.cells (Lib.cellsOf ps N) 9 (0, 0))) := Lib.hid (by rw [hb2.block _ (Array.getElem?_eq_some_iff.1 hP.out).1]; exact hP.out)
      have hb2' := upw hb hb2
      clear c0
      cases o with
      | none =>
        have hr := Lib.hid (hbk.out (h1.out rfl))
        go_wp2_with fail
        go_ret2
        exact ⟨_, by rw [hr.out]; rfl, by rw [hr.out]; exact own_none _ _ _, hb2'⟩
      | some xs =>
        obtain ⟨_, hx2, hxr⟩ := h3.out xs rfl
        obtain ⟨x, y, rfl⟩ := two_of hx2
        have hr := h2.out x y rfl
        have hx : Hid (rdS p = ⟨x, y⟩) := Lib.hid (by unfold rdS; rw [hr]; rfl)
        replace hr := Lib.hid hr
        have hxx := hxr x (by simp)
        have hyy := hxr y (by simp)
        have hOn2 : Hid (Own wr.heap.size w2 2 vn [x, y]) := Lib.hid hOn.out
        obtain ⟨g1, cap1, rfl⟩ := hOn2.out.row (by simp)
        have d0 := hOn2.out.at'.int (i := 0) (by simp)
        have d1 := hOn2.out.at'.int (i := 1) (by simp)
        simp only [Nat.zero_add, Nat.add_zero, List.getElem_cons_zero, List.getElem_cons_succ] at d0 d1
        replace d0 := rg d0
        replace d1 := rg d1
        replace hxr := Lib.hid hxr
        clear hx2 h1 h2 h3 hbk hD
        replace hb := hb2'
        clear hb2'
        clear hOn
        go_wp2_with fail
        refine wp_region_any (by kernel_rfl) ?_
        refine wpAny_take (i := 0) (v := _) rfl (by kernel_rfl) (by kernel_rfl) (by kernel_rfl) (fun _ _ _ h => h) (Or.inl ⟨by rfl, (by intro w; go_simp; try with_reducible rfl)⟩) ?_
        go_simp
        refine wp_any_tailq_below [1, 2, 3, 4, 5, 6, 7] [8, 9, 10] (by decide +kernel) (by kernel_rfl) (picked_cons rfl (picked_cons rfl (picked_cons rfl (picked_cons rfl (picked_cons rfl (picked_cons rfl (picked_cons rfl picked_nil))))))) (picked_cons rfl (picked_cons rfl (picked_cons rfl picked_nil))) ?_
        repeat (go_big_quiet_step ((fail)))
        refine wpQuiet_nil ?_
        intro w2 hw'
        replace hb := upw hb (grown_of hw')
        have hw2 := grown_of hw'
        clear hw'
        replace hO := Lib.hid (hO.out.later hw2)
        replace hP : Hid (w2.heap[w1.heap.size]? = some (.cells (Lib.cellsOf ps N) 9 (0, 0))) := Lib.hid (by rw [hw2.block _ (Array.getElem?_eq_some_iff.1 hP.out).1]; exact hP.out)
        obtain ⟨w5, hw5⟩ : ∃ w5, w5 = w2 := ⟨_, rfl⟩
        rw [← hw5] at hO hP hb ⊢
        clear hw5
        have hsz := hb.size
        have hb6 : Below w5.heap.size w5 (w5.alloc (.cells #[.int .i64 x, .int .i64 y] 106)) := (Below.refl _ _).alloc (Nat.le_refl _) _
        have hP6 : (w5.alloc (.cells #[.int .i64 x, .int .i64 y] 106)).heap[w1.heap.size]? = some (.cells (Lib.cellsOf ps N) 9 (0, 0)) := by rw [hb6.block _ (Array.getElem?_eq_some_iff.1 hP.out).1]; exact hP.out
        have hne := Lib.hid (own_other (hO.out.later hb6) hP6 (by decide))
        replace hP6 := Lib.hid hP6
        go_wp2_with (at_builtin; refine wpList_push rfl (.tmp 24) (.tmp 32) 96 rfl w.heap.size 106 (.agg #[.int .i64 0, .int .i64 0]) 16 Tryz.underlying96 infoSpot rfl _ _ (⟨x, y⟩ : Spot) rfl (hO.out.later hb6) _ _ rfl 106 (heap_alloc_new _ _) (by have := hlk.out; omega) (by decide) (by simp; omega) ?_; intro v1 w7 hO1 hg1)
        go_roundw
        case rel => exact ⟨k + 1, by omega, by go_num, Lib.hid (by rw [E0.out, hx.out]; exact hO1), Lib.hid (by rw [hg1.block _ (Array.getElem?_eq_some_iff.1 hP6.out).1 hne.out]; exact hP6.out), below_mark (upw hb hb6) (hO.out.later hb6) (Nat.le_refl _) hg1⟩
        case measure => simp [intOf]; omega
    · obtain rfl : k = ps.length := by omega
      rw [List.take_length] at hO
      obtain ⟨ao, co, hvo⟩ : ∃ a cc, u4 = .slice a (ps.map rdS).length cc := by
        rcases hO.out.cases with ⟨hv, hL⟩ | ⟨g, cap, hv⟩
        · exact ⟨none, 0, by rw [hv, hL]; rfl⟩
        · exact ⟨_, cap, hv⟩
      rw [hvo] at hO ⊢
      have hml : (ps.map rdS).length = ps.length := List.length_map _
      have hK0 := implValidOutline_c ao (ps.map rdS) co wr hO.out.at' (by omega)
      rw [hml] at hK0
      have hK := Lib.hid hK0
      clear hK0
      cases hok : okOutline (ps.map rdS)
      · have hr := Lib.hid (hunf.out hok)
        replace hml := Lib.hid hml
        go_wp2_with fail
        refine (as_boolB hok hK.out).mono ?_
        rintro e w2 ⟨rfl, hb2⟩
        go_wp2_with fail
        go_ret2
        exact ⟨_, by rw [hr.out]; rfl, by rw [hr.out]; exact own_none _ _ _, upw hb hb2⟩
      · have hok' := okOutline_iff.1 hok
        have hT0 := Lib.hid (fun w' hb' => outlineText_c ao (ps.map rdS) co w' (hO.out.at'.below hb') (by omega) (by omega) (fun x hx => by have := okSpot_iff.1 (hok'.1.2 x hx); omega) (hT.out.tab.below (upw hb hb')))
        rw [hml] at hT0
        replace hok' := Lib.hid hok'
        replace hml := Lib.hid hml
        by_cases he : outT (ps.map rdS) = s
        · have hr := Lib.hid (hsome.out hok he)
          have he1 := str_same he
          replace he := Lib.hid he
          go_wp2_with fail
          refine (as_boolB hok hK.out).mono ?_
          rintro e w2 ⟨rfl, hb2⟩
          go_wp2_with fail
          refine (hT0.out w2 hb2).mono ?_
          rintro e w3 ⟨rfl, hb3⟩
          go_wp2_with fail
          go_ret2
          have hOf : Own w.heap.size w3 106 (.slice ao ps.length co) (ps.map rdS) := by
            have k := (hO.out.later hb2).later hb3
            rw [hml.out] at k; exact k
          exact ⟨_, by rw [hr.out]; rfl, by rw [hr.out]; exact hOf, upw (upw hb hb2) hb3⟩
        · have hr := Lib.hid (hunl.out he)
          have he1 := str_other he
          replace he := Lib.hid he
          go_wp2_with fail
          refine (as_boolB hok hK.out).mono ?_
          rintro e w2 ⟨rfl, hb2⟩
          go_wp2_with fail
          refine (hT0.out w2 hb2).mono ?_
          rintro e w3 ⟨rfl, hb3⟩
          go_wp2_with fail
          go_ret2
          exact ⟨_, by rw [hr.out]; rfl, by rw [hr.out]; exact own_none _ _ _, upw (upw hb hb2) hb3⟩
end Go.Proofs.YtledlkggggpdpaaGreatDoor
