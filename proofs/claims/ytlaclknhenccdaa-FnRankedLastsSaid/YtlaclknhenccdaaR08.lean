/- Chapter 4, what a last costs: the reference. -/
import Derived.Test.YtlaclknhenccdaaR07
import Derived.Test.YtlaclknhenccdaaMid2
namespace Go.Proofs.Ytlaclknhenccdaa
open Go.RowKit

set_option maxHeartbeats 2000000 in
theorem l04Fit_ok (bq : Nat) (q : FitV) (fa : Option Addr) (c : Nat) (w : World) (hq : OkFit q) (hW : At w fa q.ws) (hc : w.cell? ⟨bq, 0, none⟩ = some (.int .i64 q.mn) ∧ w.cell? ⟨bq, 1, none⟩ = some (.int .i64 q.mx) ∧ w.cell? ⟨bq, 2, none⟩ = some (.int .i64 q.gi) ∧ w.cell? ⟨bq, 3, none⟩ = some (.slice fa 4 c)) :
    Calls Try.prog 123 #[.pointer (some ⟨bq, 0, none⟩)] w fun e w' => e = .returned (.bool true) ∧ Below w.heap.size w w' := by
  obtain ⟨h1, h2, h3, -⟩ := fit_inr hq
  obtain ⟨q0, q1, q2, q3⟩ := hc
  obtain ⟨fb, fo, rfl⟩ := hW.addr (show 0 < q.ws.length by show 0 < 4; omega)
  have hwr := Lib.hid (fun (k : Nat) (hk : k < 4) => inr_true.2 (wt_range hq hk))
  clear hq
  have hb := Below.refl w.heap.size w
  go_enter Try.func123, Try.ntmps123
  go_wp2_with fail
  go_loopw [3] (fun i wr => ∃ k : Nat, k ≤ 4 ∧ i = .int .i64 k ∧ wr = w) (fun i _ => 4 - (intOf i).toNat)
  case atStart => exact ⟨0, by omega, rfl, rfl⟩
  case round =>
    obtain ⟨k, hk, rfl, rfl⟩ := hrel
    by_cases hlt : k < 4
    · have d3 := hW.int (i := k) (ws_lt hlt)
      simp only [wt_get] at d3
      have hi := hwr.out k hlt
      have hltI : (k : Int) < 4 := by omega
      generalize q.wt k = V at *
      go_wp2_with (go_at_call 77; refine (as_bool hi (l00In_c _ _ _ _)).mono ?_; rintro e w' ⟨rfl, rfl⟩)
      go_roundw
      case rel => exact ⟨k + 1, by omega, by first | rfl | go_num, trivial⟩
      case measure => first | (simp [intOf]; done) | (simp [intOf]; omega)
    · obtain rfl : k = 4 := by omega
      have hi1 := fun w' => as_bool h1 (l00In_c q.mx 0 500 w')
      have hi2 := fun w' => as_bool h2 (l00In_c q.mn 0 q.mx w')
      have hi3 := fun w' => as_bool h3 (l00In_c q.gi 0 500 w')
      replace hi1 := Lib.hid hi1
      replace hi2 := Lib.hid hi2
      replace hi3 := Lib.hid hi3
      go_wp2_with fail
      have q0r := rg q0
      have q1r := rg q1
      have q2r := rg q2
      have q3r := rg q3
      refine wp_region_quiet_below (by kernel_rfl) (by kernel_rfl) ?_
      repeat (go_big_quiet_step ((go_at_call 77; first | (with_reducible exact Calls.regrown_same (hi1.out _)) | (with_reducible exact Calls.regrown_same (hi2.out _)) | (with_reducible exact Calls.regrown_same (hi3.out _)))))
      refine wpQuiet_nil ?_
      intro w2 hw'
      have hb2 := grown_of hw'
      replace hb := upw hb hb2
      clear hw' q0r q1r q2r q3r
      clear q0 q1 q2 q3
      go_wp2_with fail
      go_ret
      exact ⟨rfl, hb⟩
theorem costS_four (x : Last) (f : Foot) (q : FitV) : costS x f q = if mayK x f q 4 then costK x f q 4 else -1 := rfl
theorem costS_no {x : Last} {f : Foot} {q : FitV} {k : Nat} (hk : k ≤ 4) (h : mayK x f q k = false) : costS x f q = -1 := by
  have := mayK_false h (4 - k)
  rw [show k + (4 - k) = 4 by omega] at this
  rw [costS_four, this]; rfl
set_option maxRecDepth 100000 in
set_option maxHeartbeats 4000000 in
theorem l04Cost_c (x : Last) (f : Foot) (bq : Nat) (q : FitV) (fa : Option Addr) (c : Nat) (w : World) (hx : okLast x = true) (hf : okFoot f = true) (hq : OkFit q) (hW : At w fa q.ws) (hc : w.cell? ⟨bq, 0, none⟩ = some (.int .i64 q.mn) ∧ w.cell? ⟨bq, 1, none⟩ = some (.int .i64 q.mx) ∧ w.cell? ⟨bq, 2, none⟩ = some (.int .i64 q.gi) ∧ w.cell? ⟨bq, 3, none⟩ = some (.slice fa 4 c)) :
    Calls Try.prog 124 #[.agg #[.string x.Name, .int .i64 x.Length, .int .i64 x.Ball, .int .i64 x.Instep, .int .i64 x.Heel, .int .i64 x.Pitch], .agg #[.int .i64 f.Length, .int .i64 f.Ball, .int .i64 f.Instep, .int .i64 f.Heel], .pointer (some ⟨bq, 0, none⟩)] w fun e w' => e = .returned (.int .i64 (costS x f q)) ∧ Below w.heap.size w w' := by
  have hC := costs_of hx hf hq
  have c1 := hC.len
  have c2 := hC.p0
  have q1' := hq.mx; have q2' := hq.mn; have q3' := hq.gi
  have hR := Lib.hid (fun k (hk : k ≤ 4) => costK_range hC hk)
  have hWr := Lib.hid (fun k (hk : k < 4) => wt_range hq hk)
  have hxr := Lib.hid (fun k (hk : k < 4) => four_range (last_foot_ok hx) hk)
  have hfr := Lib.hid (fun k (hk : k < 4) => four_range hf hk)
  have hxl := (okLast_iff2.1 hx).2.1.1
  have hfl := (okFoot_iff.1 hf).1
  clear hC hx hf hq
  obtain ⟨q0, q1, q2, q3⟩ := hc
  obtain ⟨fb, fo, rfl⟩ := hW.addr (show 0 < q.ws.length by show 0 < 4; omega)
  obtain ⟨wa, hwa⟩ : ∃ wa, wa = w.alloc (.cells #[.string x.Name, .int .i64 x.Length, .int .i64 x.Ball, .int .i64 x.Instep, .int .i64 x.Heel, .int .i64 x.Pitch] 77) := ⟨_, rfl⟩
  have Da : Sp w wa [ite' 77 (.slice (some ⟨w.heap.size, 0, none⟩) 6 6) (lastC x)] := by rw [hwa]; exact (Sp.refl w).add (newB w _) (own_lastC w _ x)
  have hsa : wa.heap.size = w.heap.size + 1 := by rw [hwa]; exact World.size_alloc _ _
  obtain ⟨wb, hwb⟩ : ∃ wb, wb = wa.alloc (.cells #[.int .i64 f.Length, .int .i64 f.Ball, .int .i64 f.Instep, .int .i64 f.Heel] 62) := ⟨_, rfl⟩
  have D := Da.add (w' := wb) (by rw [hwb]; exact newB wa _) (by rw [hwb]; exact own_footC wa 62 f)
  rw [hsa] at D
  replace hwb := Lib.hid (hwb.trans (by rw [hwa]))
  clear Da hsa hwa
  obtain ⟨x0, x1, x2, x3, x4, x5⟩ := lastC_cells (D.get 1 rfl)
  replace hW := hW.below D.up
  replace q0 := kept_cell q0 D.up
  replace q1 := kept_cell q1 D.up
  replace q2 := kept_cell q2 D.up
  replace q3 := kept_cell q3 D.up
  replace D := Lib.hid D
  go_enter Try.func124, Try.ntmps124
  go_wp2_with (rw [← hwb.out])
  refine (l04Foot_c x _).mono ?_
  rintro e w2 ⟨rfl, hb2⟩
  replace D := Lib.hid (D.out.later hb2)
  replace hW := hW.below hb2
  replace q0 := kept_cell q0 hb2
  replace q1 := kept_cell q1 hb2
  replace q2 := kept_cell q2 hb2
  replace q3 := kept_cell q3 hb2
  clear hb2 hwb x0 x1 x2 x3 x4 x5
  go_wp2_with fail
  refine (l02Four_c (lastFoot x) _).mono ?_
  rintro e w2 ⟨g1, rfl, hO1, hb2⟩
  replace D := Lib.hid (D.out.add hb2 hO1)
  replace hW := hW.below hb2
  replace q0 := kept_cell q0 hb2
  replace q1 := kept_cell q1 hb2
  replace q2 := kept_cell q2 hb2
  replace q3 := kept_cell q3 hb2
  clear hb2 hO1
  obtain ⟨f0, f1, f2, f3⟩ := footC_cells (D.out.get 1 rfl)
  go_wp2_with fail
  refine (l02Four_c f _).mono ?_
  rintro e w2 ⟨g2, rfl, hO1, hb2⟩
  replace D := Lib.hid (D.out.add hb2 hO1)
  replace hW := hW.below hb2
  replace q0 := kept_cell q0 hb2
  replace q1 := kept_cell q1 hb2
  replace q2 := kept_cell q2 hb2
  replace q3 := kept_cell q3 hb2
  clear hb2 hO1 f0 f1 f2 f3
  have a0 : w2.cell? ⟨g1, 0, none⟩ = some (.int .i64 x.Length) := (D.out.get 1 rfl : Own _ _ _ _ (fourOf (lastFoot x))).at'.int (i := 0) (show 0 < 4 by omega)
  have b0 : w2.cell? ⟨g2, 0, none⟩ = some (.int .i64 f.Length) := (D.out.get 0 rfl : Own _ _ _ _ (fourOf f)).at'.int (i := 0) (show 0 < 4 by omega)
  have w0 : w2.cell? ⟨fb, fo, none⟩ = some (.int .i64 q.w0) := hW.int (i := 0) (show 0 < 4 by omega)
  have hb := D.out.up
  go_wp2_with fail
  have a0r := rg a0
  have b0r := rg b0
  refine wp_region_quiet_below (by kernel_rfl) (by kernel_rfl) ?_
  repeat (go_big_quiet_step ((fail)))
  refine wpQuiet_nil ?_
  intro w2 hw'
  have hb2 := grown_of hw'
  replace hb := upw hb hb2
  clear hw' a0r b0r
  replace q0 := kept_cell q0 hb2
  replace q1 := kept_cell q1 hb2
  replace q2 := kept_cell q2 hb2
  replace q3 := kept_cell q3 hb2
  replace w0 := kept_cell w0 hb2
  clear a0 b0
  replace D := Lib.hid (D.out.later hb2)
  replace hW := hW.below hb2
  clear hb2
  have hI0 := Lib.hid (fun w' => l00In_c (x.Length - f.Length) q.mn q.mx w')
  have hm0 := Lib.hid (show mayK x f q 0 = inr (x.Length - f.Length) q.mn q.mx from rfl)
  go_wp2_with fail
  cases hM0 : inr (x.Length - f.Length) q.mn q.mx
  · rw [hM0] at hI0 hm0
    replace hM0 := Lib.hid hM0
    have q0r := rg q0
    have q1r := rg q1
    refine wp_region_quiet_below (by kernel_rfl) (by kernel_rfl) ?_
    repeat (go_big_quiet_step ((go_at_call 77; exact Calls.regrown_same (hI0.out _))))
    refine wpQuiet_nil ?_
    intro w2 hw'
    have hb2 := grown_of hw'
    replace hb := upw hb hb2
    clear hw' q0r q1r
    clear q0 q1
    go_wp2_with fail
    go_ret
    exact ⟨by rw [costS_no (by omega) hm0.out]; rfl, hb⟩
  rw [hM0] at hI0 hm0
  replace hM0 := Lib.hid hM0
  have q0r := rg q0
  have q1r := rg q1
  refine wp_region_quiet_below (by kernel_rfl) (by kernel_rfl) ?_
  repeat (go_big_quiet_step ((go_at_call 77; exact Calls.regrown_same (hI0.out _))))
  refine wpQuiet_nil ?_
  intro w2 hw'
  have hb2 := grown_of hw'
  replace hb := upw hb hb2
  clear hw' q0r q1r
  replace q0 := kept_cell q0 hb2
  replace q2 := kept_cell q2 hb2
  replace q3 := kept_cell q3 hb2
  replace w0 := kept_cell w0 hb2
  clear q1
  replace D := Lib.hid (D.out.later hb2)
  replace hW := hW.below hb2
  clear hb2 hI0
  go_wp2_with fail
  have q0r := rg q0
  have q3r := rg q3
  have w0r := rg w0
  refine wp_region_quiet_below (by kernel_rfl) (by kernel_rfl) ?_
  repeat (go_big_quiet_step ((fail)))
  refine wpQuiet_nil ?_
  intro w2 hw'
  have hb2 := grown_of hw'
  replace hb := upw hb hb2
  clear hw' q0r q3r w0r
  replace q2 := kept_cell q2 hb2
  replace q3 := kept_cell q3 hb2
  clear q0 w0
  replace D := Lib.hid (D.out.later hb2)
  replace hW := hW.below hb2
  clear hb2
  have e1 : q.w0 * (x.Length - f.Length - q.mn) = costK x f q 1 := rfl
  rw [e1]
  have hmt : Hid (mayK x f q 1 = true) := Lib.hid hm0.out
  clear e1 hm0 c1 c2 hxl hfl
  have hst : ∃ k : Nat, 1 ≤ k ∧ k ≤ 4 ∧ Value.int .i64 1 = .int .i64 k ∧ Value.int .i64 (costK x f q 1) = .int .i64 (costK x f q k) ∧ Hid (mayK x f q k = true) ∧ Below w2.heap.size w2 w2 := ⟨1, by omega, by omega, rfl, rfl, hmt, Below.refl _ _⟩
  have A1 := Lib.hid (D.out.get 1 rfl : Own _ _ _ _ (fourOf (lastFoot x))).at'
  have A2 := Lib.hid (D.out.get 0 rfl : Own _ _ _ _ (fourOf f)).at'
  generalize costK x f q 1 = C1 at *
  clear hmt
  go_wp2_with fail
  go_loopw [10, 11, 12] (fun sv i _ wr => ∃ k : Nat, 1 ≤ k ∧ k ≤ 4 ∧ i = .int .i64 k ∧ sv = .int .i64 (costK x f q k) ∧ Hid (mayK x f q k = true) ∧ Below w2.heap.size w2 wr) (fun _ i _ _ => 4 - (intOf i).toNat)
  case atStart => exact hst
  case round =>
    clear hst
    obtain ⟨k, hk1, hk, rfl, rfl, hm, hbr⟩ := hrel
    obtain ⟨wc, hwc⟩ : ∃ wo : World, wo = wr := ⟨_, rfl⟩
    subst hwc
    replace hb := upw hb hbr
    by_cases hlt : k < 4
    · have d1 := (A1.out.below hbr).int (i := k) (four_lt hlt)
      have d2 := (A2.out.below hbr).int (i := k) (four_lt hlt)
      have d3 := (hW.below hbr).int (i := k) (ws_lt hlt)
      simp only [four_get, wt_get, Nat.zero_add] at d1 d2 d3
      replace q2 := kept_cell q2 hbr
      replace q3 := kept_cell q3 hbr
      have r1 := hxr.out k hlt
      have r2 := hfr.out k hlt
      have r3 := hWr.out k hlt
      have r4 := hR.out k hk
      have hltI : (k : Int) < 4 := by omega
      have hcs := Lib.hid (costK_succ x f q (show k ≠ 0 by omega))
      have hms := mayK_succ x f q (show k ≠ 0 by omega)
      rw [hm.out, Bool.true_and] at hms
      replace hms := Lib.hid hms
      generalize (fourOf (lastFoot x)).getD k 0 = X at *
      generalize (fourOf f).getD k 0 = Y at *
      have hP := Lib.hid (fun w' => l02Size_c (X - Y) w' (by omega))
      have hZ : 0 ≤ size (X - Y) ∧ size (X - Y) ≤ 4500 := by unfold size; omega
      generalize size (X - Y) = Z at *
      have hM := mul_range r3 hZ
      generalize q.wt k = V at *
      obtain ⟨P, hPe⟩ : ∃ P, P = V * Z := ⟨_, rfl⟩
      have hz1 : IntKind.i64.wrap (V * Z) = P := by rw [hPe]; exact IntWalk.i64_in _ (by omega)
      rw [← hPe] at hcs hM
      replace hPe := Lib.hid hPe
      obtain ⟨C, hCe⟩ : ∃ C, C = costK x f q k := ⟨_, rfl⟩
      rw [← hCe] at hcs r4 ⊢
      replace hCe := Lib.hid hCe
      go_wp2_with fail
      have d1r := rg d1
      have d2r := rg d2
      refine wp_region_quiet_below (by kernel_rfl) (by kernel_rfl) ?_
      repeat (go_big_quiet_step ((go_at_call 141; exact Calls.regrown_same (hP.out _))))
      refine wpQuiet_nil ?_
      intro w2 hw'
      have hb2 := grown_of hw'
      replace hb := upw hb hb2
      clear hw' d1r d2r
      replace d3 := kept_cell d3 hb2
      replace q2 := kept_cell q2 hb2
      replace q3 := kept_cell q3 hb2
      clear d1 d2
      replace hbr := upw hbr hb2
      clear hb2
      by_cases hgz : q.gi < Z
      · have hmf : Hid (mayK x f q (k + 1) = false) := Lib.hid (by rw [hms.out]; simpa using hgz)
        go_wp2_with fail
        go_ret
        exact ⟨by rw [costS_no (by omega) hmf.out]; rfl, hb⟩
      · have hmf : Hid (mayK x f q (k + 1) = true) := Lib.hid (by rw [hms.out]; simpa using hgz)
        go_wp2_with fail
        go_roundw
        case rel => exact ⟨k + 1, by omega, by omega, by first | rfl | go_num, by rw [hcs.out], hmf, hbr⟩
        case measure => first | (simp [intOf]; done) | (simp [intOf]; omega)
    · obtain rfl : k = 4 := by omega
      have hE := Lib.hid (show costS x f q = costK x f q 4 by rw [costS_four, hm.out]; rfl)
      go_wp2_with fail
      go_ret
      exact ⟨by rw [hE.out]; rfl, hb⟩
set_option maxHeartbeats 2000000 in
theorem specFitCost_c (x : Last) (f : Foot) (q : FitV) (fa : Option Addr) (c : Nat) (w : World) (hx : okLast x = true) (hf : okFoot f = true) (hq : OkFit q) (hn : x.Name.size ≤ 9223372036854775807) (hW : At w fa q.ws) :
    Calls Try.prog 52 #[.agg #[.string x.Name, .int .i64 x.Length, .int .i64 x.Ball, .int .i64 x.Instep, .int .i64 x.Heel, .int .i64 x.Pitch], .agg #[.int .i64 f.Length, .int .i64 f.Ball, .int .i64 f.Instep, .int .i64 f.Heel], .agg #[.int .i64 q.mn, .int .i64 q.mx, .int .i64 q.gi, .slice fa 4 c]] w fun e w' => e = .returned (.tuple #[.int .i64 (if mayL x f q then costL x f q else 0), .int .i64 (if mayL x f q then 0 else 10)]) ∧ Below w.heap.size w w' := by
  obtain ⟨w3, hw3, D⟩ := box3 w x f q fa c
  replace hW := hW.below D.up
  have hc1 := Lib.hid (fun w' => l04One_c x w' hn)
  have hc2 := Lib.hid (fun w' => l02Foot_c f w')
  have hc3 := Lib.hid (fun w' h => l04Fit_ok (w.heap.size + 1 + 1) q fa c w' hq h)
  have hc4 := Lib.hid (fun w' h => l04Cost_c x f (w.heap.size + 1 + 1) q fa c w' hx hf hq h)
  rw [hx] at hc1
  rw [hf] at hc2
  have hpos := Lib.hid (fun (h : mayL x f q = true) => costL_may (costs_of hx hf hq) hq h)
  have hcs := Lib.hid (show costS x f q = if mayL x f q then costL x f q else -1 from rfl)
  clear hx hf hq hn
  obtain ⟨r1, hr1⟩ : ∃ r, r = if mayL x f q then costL x f q else 0 := ⟨_, rfl⟩
  obtain ⟨r2, hr2⟩ : ∃ r, r = if mayL x f q then (0 : Int) else 10 := ⟨_, rfl⟩
  rw [← hr1, ← hr2]
  replace hr1 := Lib.hid hr1
  replace hr2 := Lib.hid hr2
  replace hw3 := Lib.hid hw3
  replace D := Lib.hid D
  obtain ⟨x0, x1, x2, x3, x4, x5⟩ := lastC_cells (D.out.get 2 rfl)
  go_enter Try.func52, Try.ntmps52
  go_wp2_with (rw [← hw3.out])
  refine (hc1.out _).mono ?_
  rintro e w2 ⟨rfl, hb2⟩
  replace D := Lib.hid (D.out.later hb2)
  replace hW := hW.below hb2
  clear hb2 x0 x1 x2 x3 x4 x5 hw3
  obtain ⟨f0, f1, f2, f3⟩ := footC_cells (D.out.get 1 rfl)
  go_wp2_with fail
  refine (hc2.out _).mono ?_
  rintro e w2 ⟨rfl, hb2⟩
  replace D := Lib.hid (D.out.later hb2)
  replace hW := hW.below hb2
  clear hb2 f0 f1 f2 f3
  go_wp2_with fail
  refine (hc3.out _ hW (fitC_cells (D.out.get 0 rfl))).mono ?_
  rintro e w2 ⟨rfl, hb2⟩
  replace D := Lib.hid (D.out.later hb2)
  replace hW := hW.below hb2
  clear hb2
  obtain ⟨x0, x1, x2, x3, x4, x5⟩ := lastC_cells (D.out.get 2 rfl)
  obtain ⟨f0, f1, f2, f3⟩ := footC_cells (D.out.get 1 rfl)
  go_wp2_with fail
  refine (hc4.out _ hW (fitC_cells (D.out.get 0 rfl))).mono ?_
  rintro e w2 ⟨rfl, hb2⟩
  replace D := Lib.hid (D.out.later hb2)
  clear hb2 x0 x1 x2 x3 x4 x5 f0 f1 f2 f3
  cases hm : mayL x f q
  · have hE : costS x f q = -1 := by rw [hcs.out, hm]; rfl
    rw [hE]
    clear hE
    replace hm := Lib.hid hm
    go_wp2_with fail
    go_ret2
    exact ⟨by rw [hr1.out, hr2.out, hm.out]; rfl, D.out.up⟩
  · have hE : costS x f q = costL x f q := by rw [hcs.out, hm]; rfl
    have hp := hpos.out hm
    rw [hE]
    clear hE
    replace hm := Lib.hid hm
    go_wp2_with fail
    go_ret2
    exact ⟨by rw [hr1.out, hr2.out, hm.out]; rfl, D.out.up⟩
end Go.Proofs.Ytlaclknhenccdaa
