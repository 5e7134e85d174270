/- FnGrowth: for all bytes the law returns true, and the bytes read behind the call as before. -/
import Derived.Test.YtokoallbhbgkkaaG07
namespace Go.Proofs.Ytokoallbhbgkkaa
open Go.ChangeShapes Go.WideShapes Go.ChangeAt Go.RowKit

set_option maxRecDepth 100000 in
set_option maxHeartbeats 8000000 in
theorem lawGrowth (a : Option Addr) (L : List UInt8) (c : Nat) (a' : Option Addr) (M : List UInt8) (c' : Nat) (w : World) (hx : At w a L) (hlx : L.length ≤ 9223372036854775807) (hy : At w a' M) (hly : M.length ≤ 9223372036854775807) :
    Calls Try.prog 8 #[.slice a L.length c, .slice a' M.length c'] w fun e w' => e = .returned (.bool true) ∧ Below w.heap.size w w' := by
  have hlong := a2Long_c a a' L M c c' w
  by_cases hg : 3000 < L.length ∨ 3000 < M.length
  · have e : (decide (3000 < L.length) || decide (3000 < M.length)) = true := by simpa using hg
    rw [e] at hlong
    go_enter Try.func8, Try.ntmps8
    go_wp2_with (go_at_call 24; refine hlong.mono ?_; rintro e w1 ⟨rfl, rfl⟩)
    go_ret
    exact ⟨rfl, Below.refl _ _⟩
  · have e : (decide (3000 < L.length) || decide (3000 < M.length)) = false := by simp; omega
    rw [e] at hlong
    have hM3 : M.length ≤ 3000 := by omega
    clear e hg
    go_enter Try.func8, Try.ntmps8
    go_wp2_with fail
    refine hlong.mono ?_
    rintro e w1 ⟨rfl, rfl⟩
    go_wp2_with fail
    refine (A2Feet_c a L c w hx hlx).mono ?_
    rintro e w1 ⟨v1, fs, rfl, hO1, hnear, hfl, hb1⟩
    obtain ⟨a1, c1, rfl, hA1⟩ := hO1.at
    go_wp2_with fail
    refine (A2Days_c a' M c' fs.length w1 (hy.below hb1) hly (by omega)).mono ?_
    rintro e w2 ⟨v2, ds, rfl, hO2, hdl, hrise, hday, hb2⟩
    obtain ⟨a2, c2, rfl, hA2⟩ := hO2.at
    replace hA1 := hA1.below hb2
    have hb := upw hb1 hb2
    have D : DaysOk ds fs := ⟨hdl, by omega, hrise, hday, fun f hf => near_okF (hnear f hf)⟩
    clear hO1 hO2 hb1 hb2 hlong hx
    replace hnear := Lib.hid hnear
    replace D := Lib.hid D
    replace hrise := Lib.hid hrise
    replace hday := Lib.hid hday
    have hdl0 := Lib.hid hdl
    clear hdl
    go_wp2_with fail
    refine (a2At_c a' M c' 40 2 w2 (hy.below hb) hM3 (by omega) (by omega) (by omega)).mono ?_
    rintro e w3 ⟨r, rfl, r0, r1, rfl⟩
    have hr : 0 ≤ r ∧ r ≤ 1 := by omega
    clear r0 r1
    obtain ⟨w3, hw3⟩ : ∃ w3, w3 = (w2.alloc (.cells #[] 39)).alloc (.cells #[] 39) := ⟨_, rfl⟩
    have hb3 : Below w2.heap.size w2 w3 := by rw [hw3]; exact (newB _ _).trans ((newB _ _).mono (by simp))
    have hT : TwoL w2.heap.size w3 (.slice (some ⟨w2.heap.size, 0, none⟩) 0 0) (.slice (some ⟨w2.heap.size + 1, 0, none⟩) 0 0) [] [] := by
      refine ⟨?_, ?_, Or.inr (fun e => by have := Option.some.inj (show some w2.heap.size = some (w2.heap.size + 1) from e); omega)⟩
      · rw [hw3]; exact (own_new (α := Foot) w2 39).later (newB _ _)
      · rw [hw3]
        have h9 := own_new (α := Foot) (w2.alloc (.cells #[] 39)) 39
        have es : (w2.alloc (.cells #[] 39)).heap.size = w2.heap.size + 1 := by simp
        rw [es] at h9; exact h9.base (by omega)
    replace hw3 := Lib.hid hw3
    replace hT := Lib.hid hT
    go_wp2_with fail
    rw [← hw3.out]
    go_loopw [8, 9, 10] (fun v u i wr => ∃ k : Nat, k ≤ fs.length ∧ i = .int .i64 k ∧ Hid (TwoL w2.heap.size wr v u ((straightL r fs ds).take k) ((fs.map longer).take k)) ∧ Below w2.heap.size w2 wr) (fun _ _ i _ => fs.length - (intOf i).toNat)
    case atStart => exact ⟨0, by omega, rfl, by simpa using hT, hb3⟩
    case round =>
      clear hT hb3 hw3
      obtain ⟨k, hk, rfl, hT, hbr⟩ := hrel
      obtain ⟨wa, hwa⟩ : ∃ wo : World, wo = wr := ⟨_, rfl⟩
      subst hwa
      have hdl := hdl0.out
      have hA1w := hA1.below hbr
      have hA2w := hA2.below hbr
      by_cases hkf : k < fs.length
      · have hkd : k < ds.length := by omega
        obtain ⟨b1, o1, rfl⟩ := hA1w.addr hkf
        obtain ⟨b2, o2, rfl⟩ := hA2w.addr hkd
        obtain ⟨x0, x1, x2, x3⟩ := hA1w.foot hkf
        have hf := hnear.out _ (List.getElem_mem hkf)
        have f1 := hf.length; have f2 := hf.ball; have f3 := hf.instep; have f4 := hf.heel
        have hd := hday.out _ (List.getElem_mem hkd)
        have hrd : 0 ≤ r * ds[k] ∧ r * ds[k] ≤ 2000 := by rcases (by omega : r = 0 ∨ r = 1) with e | e <;> rw [e] <;> omega
        have hsl := straight_length (r := r) hdl
        have hx1 : Hid ((straightL r fs ds).take (k + 1) = (straightL r fs ds).take k ++ [onLine r fs[k] ds[k]]) := Lib.hid (by
          rw [List.take_succ_eq_append_getElem (by rw [hsl]; exact hkf)]
          have e : (straightL r fs ds)[k]'(by rw [hsl]; exact hkf) = onLine r fs[k] ds[k] := List.getElem_zipWith
          rw [e])
        have hy1 : Hid ((fs.map longer).take (k + 1) = (fs.map longer).take k ++ [longer fs[k]]) := Lib.hid (by
          rw [List.take_succ_eq_append_getElem (by simpa using hkf)]
          simp)
        obtain ⟨xs, hxs⟩ : ∃ xs, xs = (straightL r fs ds).take k := ⟨_, rfl⟩
        obtain ⟨ys, hys⟩ : ∃ ys, ys = (fs.map longer).take k := ⟨_, rfl⟩
        have hxl : xs.length + 1 ≤ 4294967296 := by have := List.length_take_le k (straightL r fs ds); rw [hxs]; omega
        have hyl : ys.length + 1 ≤ 4294967296 := by have := List.length_take_le k (fs.map longer); rw [hys]; omega
        rw [← hxs, ← hys] at hT
        rw [← hxs] at hx1
        rw [← hys] at hy1
        clear hxs hys hsl hf hdl
        have hsz := hbr.size
        have T0 := hT
        obtain ⟨w5, hw5⟩ : ∃ w5, w5 = wa.alloc (.cells #[.int .i64 fs[k].Length, .int .i64 fs[k].Ball, .int .i64 fs[k].Instep, .int .i64 fs[k].Heel] 39) := ⟨_, rfl⟩
        have hb5 : Below wa.heap.size wa w5 := by rw [hw5]; exact newB _ _
        have V : Hid (Own wa.heap.size w5 39 (.slice (some ⟨wa.heap.size, 0, none⟩) 4 4) (footC fs[k])) := Lib.hid (by rw [hw5]; exact own_footC wa _ _)
        replace hT := Lib.hid (hT.out.later hb5)
        replace hbr := upw hbr hb5
        have d0 := (hA2.below hbr).int hkd
        replace hw5 := Lib.hid hw5
        clear hb5
        go_wp2_with (first | rw [← hw5.out] | ((with_reducible refine at_st 2 (.tmp 54) (.tmp 53) ?_); refine wpList_store_own rfl 2 (.tmp 54) (.tmp 53) rfl wa.heap.size 39 wa.heap.size 4 4 (footC fs[k]) 0 0 (⟨.int .i64 (2000 + r * ds[k]), rfl⟩ : OneCell) rfl rfl rfl (by kernel_rfl) rfl V.out (by show 0 < 4; omega) ?_; intro w6 hV hgv; replace hV : Own wa.heap.size w6 39 (.slice (some ⟨wa.heap.size, 0, none⟩) 4 4) (footC (onLine r fs[k] ds[k])) := hV; replace hbr := below_mark hbr V.out hsz hgv; replace hT := Lib.hid (hT.out.mark T0.out (Nat.le_refl _) hgv); replace V := Lib.hid hV; clear hV hgv; obtain ⟨y0, y1, y2, y3⟩ := footC_cells V.out; obtain ⟨w6t, hww6⟩ : ∃ wt, wt = w6.alloc (.cells #[.int .i64 (onLine r fs[k] ds[k]).Length, .int .i64 (onLine r fs[k] ds[k]).Ball, .int .i64 (onLine r fs[k] ds[k]).Instep, .int .i64 (onLine r fs[k] ds[k]).Heel] 39) := ⟨_, rfl⟩; have hct : Below w6.heap.size w6 w6t := (by rw [hww6]; exact newB _ _); have htmp : w6t.heap[w6.heap.size]? = some (.cells (Flat.el ((onLine r fs[k] ds[k]))).toArray 39 (0, 0)) := (by rw [hww6]; exact heap_alloc_new _ _); replace hww6 := Lib.hid hww6; replace hT := Lib.hid (hT.out.later hct); replace hbr := upw hbr hct; have hBw := hbr.size; clear V hct; have hTo8 := hT.out.o8; have hTo9 := hT.out.o9) | rw [← hww6.out] | (at_builtin; refine wpList_pushTo rfl (.tmp 55) (.tmp 57) 61 rfl w2.heap.size 39 (.agg #[.int .i64 0, .int .i64 0, .int .i64 0, .int .i64 0]) 32 Try.underlying61 infoFoot rfl _ xs (onLine r fs[k] ds[k]) rfl hTo8 w6.heap.size 1 rfl 39 htmp hxl (by decide) hBw ?_; intro g8 cap8 wq8 hO' hg' hl'; replace hbr := below_mark hbr hTo8 (Nat.le_refl _) hg'; replace hT := Lib.hid (hT.out.push8 hO' hg' hl'); clear hO' hg' hl' htmp y0 y1 y2 y3 hTo8 hTo9 hBw; have hsz := hbr.size; replace T0 := hT; obtain ⟨w8, hw8⟩ : ∃ w8, w8 = wq8.alloc (.cells #[.int .i64 fs[k].Length, .int .i64 fs[k].Ball, .int .i64 fs[k].Instep, .int .i64 fs[k].Heel] 39) := ⟨_, rfl⟩; have hb8 : Below wq8.heap.size wq8 w8 := (by rw [hw8]; exact newB _ _); have V : Hid (Own wq8.heap.size w8 39 (.slice (some ⟨wq8.heap.size, 0, none⟩) 4 4) (footC fs[k])) := Lib.hid (by rw [hw8]; exact own_footC wq8 _ _); obtain ⟨x0, x1, x2, x3⟩ := (hA1.below hbr).foot hkf; replace hT := Lib.hid (hT.out.later hb8); replace hbr := upw hbr hb8; replace hw8 := Lib.hid hw8; clear hb8; have z0 := (footC_cells V.out).1) | rw [← hw8.out] | ((with_reducible refine at_st 2 (.tmp 66) (.tmp 65) ?_); refine wpList_store_own rfl 2 (.tmp 66) (.tmp 65) rfl wq8.heap.size 39 wq8.heap.size 4 4 (footC fs[k]) 0 0 (⟨.int .i64 (fs[k].Length + 100), rfl⟩ : OneCell) rfl rfl rfl (by kernel_rfl) rfl V.out (by show 0 < 4; omega) ?_; intro w9 hV hgv; replace hV : Own wq8.heap.size w9 39 (.slice (some ⟨wq8.heap.size, 0, none⟩) 4 4) (footC (longer fs[k])) := hV; replace hbr := below_mark hbr V.out hsz hgv; replace hT := Lib.hid (hT.out.mark T0.out (Nat.le_refl _) hgv); replace V := Lib.hid hV; clear hV hgv; obtain ⟨y0, y1, y2, y3⟩ := footC_cells V.out; obtain ⟨w9t, hww9⟩ : ∃ wt, wt = w9.alloc (.cells #[.int .i64 (longer fs[k]).Length, .int .i64 (longer fs[k]).Ball, .int .i64 (longer fs[k]).Instep, .int .i64 (longer fs[k]).Heel] 39) := ⟨_, rfl⟩; have hct : Below w9.heap.size w9 w9t := (by rw [hww9]; exact newB _ _); have htmp : w9t.heap[w9.heap.size]? = some (.cells (Flat.el ((longer fs[k]))).toArray 39 (0, 0)) := (by rw [hww9]; exact heap_alloc_new _ _); replace hww9 := Lib.hid hww9; replace hT := Lib.hid (hT.out.later hct); replace hbr := upw hbr hct; have hBw := hbr.size; clear V hct; have hTo8 := hT.out.o8; have hTo9 := hT.out.o9) | rw [← hww9.out] | (at_builtin; refine wpList_pushTo rfl (.tmp 67) (.tmp 69) 61 rfl w2.heap.size 39 (.agg #[.int .i64 0, .int .i64 0, .int .i64 0, .int .i64 0]) 32 Try.underlying61 infoFoot rfl _ ys (longer fs[k]) rfl hTo9 w9.heap.size 1 rfl 39 htmp hyl (by decide) hBw ?_; intro g9 cap9 wq9 hO' hg' hl'; replace hbr := below_mark hbr hTo9 (Nat.le_refl _) hg'; replace hT := Lib.hid (hT.out.push9 hO' hg' hl'); clear hO' hg' hl' htmp y0 y1 y2 y3 hTo8 hTo9 hBw))
        go_roundw
        case rel => exact ⟨k + 1, by omega, by go_num, by rw [hx1.out, hy1.out]; exact hT, hbr⟩
        case measure => simp [intOf]; omega
      · have hkk : k = fs.length := by omega
        subst hkk
        by_cases h2 : fs.length < 2
        · have hG := growthOfF_ok a2 a1 ds fs c2 c1 wa hA2w hA1w D.out
          have e3 : growF ds fs = (0, 0, 3) := by unfold growF; exact if_pos h2
          rw [e3] at hG
          replace hG := Lib.hid hG
          clear e3 hT hA1w hA2w hdl hkf hk
          go_wp2_with fail
          refine hG.out.mono ?_
          rintro e w4 ⟨rfl, hb4⟩
          go_wp2_with fail
          go_ret
          exact ⟨rfl, upw (upw hb hbr) (upw hb4 (newB _ _))⟩
        · have hsl := straight_length (r := r) hdl
          have T := hT.out
          rw [List.take_of_length_le (by omega), List.take_of_length_le (by simp)] at T
          obtain ⟨a8, c8, rfl, hA8⟩ := T.o8.at
          obtain ⟨a9, c9, rfl, hA9⟩ := T.o9.at
          obtain ⟨D1, D2⟩ := line_ok hr D.out hnear.out
          have eL := growF_line hr D.out hnear.out (by omega)
          have eM := growF_more hdl
          have eS := straight_lens r fs ds hdl
          have h0 : (growF ds fs).2.2 = 0 := by unfold growF; rw [if_neg h2]
          have hbw := upw hb hbr
          obtain ⟨G, hGe⟩ : ∃ G, G = growF ds fs := ⟨_, rfl⟩
          have hc1 := Lib.hid (fun w' (h : Below wa.heap.size wa w') => growthOfF_ok a2 a8 ds (straightL r fs ds) c2 c8 w' (hA2w.below h) (hA8.below h) D1)
          have hc2 := Lib.hid (fun w' (h : Below wa.heap.size wa w') => growthOfF_ok a2 a1 ds fs c2 c1 w' (hA2w.below h) (hA1w.below h) D.out)
          have hc3 := Lib.hid (fun w' (h : Below wa.heap.size wa w') => growthOfF_ok a2 a9 ds (fs.map longer) c2 c9 w' (hA2w.below h) (hA9.below h) D2)
          have hc4 := Lib.hid (fun w' day (h : Below wa.heap.size wa w') hd => lengthOn_line r a2 a8 ds (straightL r fs ds) c2 c8 day w' (hA2w.below h) (hA8.below h) D1 hd (by rw [hsl]; omega) hr eS)
          rw [eL] at hc1
          rw [eM, ← hGe] at hc3
          simp only [List.length_map] at hc3
          rw [← hGe] at hc2 h0
          obtain ⟨g1, g2, g3⟩ := G
          dsimp only at h0
          subst h0
          clear hsl hdl hkf hk eL eM eS hGe D1 D2 T hT hA1w hA2w hA8 hA9 D hnear hrise hday
          go_wp2_with fail
          refine (a2At_c a' M c' 41 150 wa (hy.below hbw) hM3 (by omega) (by omega) (by omega)).mono ?_
          rintro e w4 ⟨q, rfl, q0, q1, rfl⟩
          have hq : 0 ≤ q ∧ q ≤ 149 := by omega
          clear q0 q1
          have hrq : 0 ≤ r * (10 * q) ∧ r * (10 * q) ≤ 1490 := by rcases (by omega : r = 0 ∨ r = 1) with e | e <;> rw [e] <;> omega
          go_wp2_with fail
          refine (hc1.out _ (Below.refl _ _)).mono ?_
          rintro e w5 ⟨rfl, hb5⟩
          obtain ⟨x5, hx5⟩ : ∃ x5, x5 = w5.alloc (.cells #[.int .i64 r, .int .i64 1] 65) := ⟨_, rfl⟩
          have hbx5 : Below w5.heap.size w5 x5 := by rw [hx5]; exact newB _ _
          have p0 : x5.cell? ⟨w5.heap.size, 0, none⟩ = some (.int .i64 r) := by rw [hx5]; go_simp
          have p1 : x5.cell? ⟨w5.heap.size, 1, none⟩ = some (.int .i64 1) := by rw [hx5]; go_simp
          replace hx5 := Lib.hid hx5
          replace hb5 := upw hb5 hbx5
          clear hbx5
          go_wp2_with (rw [← hx5.out])
          refine (hc4.out _ _ hb5 (by omega)).mono ?_
          rintro e w6 ⟨rfl, hb6⟩
          replace p0 := kept_cell p0 hb6
          replace p1 := kept_cell p1 hb6
          replace hb6 := upw hb5 hb6
          go_wp2_with fail
          refine (hc2.out _ hb6).mono ?_
          rintro e w7 ⟨rfl, hb7⟩
          obtain ⟨x7, hx7⟩ : ∃ x7, x7 = w7.alloc (.cells #[.int .i64 g1, .int .i64 g2] 65) := ⟨_, rfl⟩
          have hbx7 : Below w7.heap.size w7 x7 := by rw [hx7]; exact newB _ _
          have q2 : x7.cell? ⟨w7.heap.size, 0, none⟩ = some (.int .i64 g1) := by rw [hx7]; go_simp
          have q3 : x7.cell? ⟨w7.heap.size, 1, none⟩ = some (.int .i64 g2) := by rw [hx7]; go_simp
          replace hx7 := Lib.hid hx7
          replace p0 := kept_cell (kept_cell p0 hb7) hbx7
          replace p1 := kept_cell (kept_cell p1 hb7) hbx7
          replace hb7 := upw (upw hb6 hb7) hbx7
          clear hbx7
          go_wp2_with (rw [← hx7.out])
          refine (hc3.out _ hb7).mono ?_
          rintro e w8 ⟨rfl, hb8⟩
          obtain ⟨x8, hx8⟩ : ∃ x8, x8 = w8.alloc (.cells #[.int .i64 g1, .int .i64 g2] 65) := ⟨_, rfl⟩
          have hbx8 : Below w8.heap.size w8 x8 := by rw [hx8]; exact newB _ _
          have s2 : x8.cell? ⟨w8.heap.size, 0, none⟩ = some (.int .i64 g1) := by rw [hx8]; go_simp
          have s3 : x8.cell? ⟨w8.heap.size, 1, none⟩ = some (.int .i64 g2) := by rw [hx8]; go_simp
          replace hx8 := Lib.hid hx8
          replace p0 := kept_cell (kept_cell p0 hb8) hbx8
          replace p1 := kept_cell (kept_cell p1 hb8) hbx8
          replace q2 := kept_cell (kept_cell q2 hb8) hbx8
          replace q3 := kept_cell (kept_cell q3 hb8) hbx8
          replace hb8 := upw hbw (upw (upw hb7 hb8) hbx8)
          clear hbx8 hb5 hb6 hb7
          go_wp2_with (rw [← hx8.out])
          go_ret
          exact ⟨rfl, hb8⟩
end Go.Proofs.Ytokoallbhbgkkaa
