/- FnRankedLasts: for all bytes the law returns true, and the bytes read behind the call as before. -/
import Derived.Test.YtlaclknhenccdaaR10
import Derived.Test.YtlaclknhenccdaaA2
namespace Go.Proofs.Ytlaclknhenccdaa
open Go.ChangeShapes Go.WideShapes Go.ChangeAt Go.RowKit

set_option maxHeartbeats 2000000 in
theorem a2Rises_ok (a : Option Addr) (xs : List Int) (c n : Nat) (w : World) (hx : At w a xs) (hl : xs.length ≤ 1000000) (hr : ∀ v ∈ xs, 0 ≤ v ∧ v < n) (hu : xs.Pairwise (· < ·)) (_hn : n ≤ 1000000) :
    Calls Try.prog 43 #[.slice a xs.length c, .int .i64 n] w fun e w' => e = .returned (.bool true) ∧ Below w.heap.size w w' := by
  replace hr := Lib.hid hr
  replace hu := Lib.hid hu
  have hb0 := Below.refl w.heap.size w
  go_enter Try.func43, Try.ntmps43
  go_wp2_with fail
  go_loopw [5] (fun i wr => ∃ k : Nat, k ≤ xs.length ∧ i = .int .i64 k ∧ Below w.heap.size w wr) (fun i _ => xs.length - (intOf i).toNat)
  case atStart => exact ⟨0, Nat.zero_le _, rfl, Below.refl _ _⟩
  case round =>
    obtain ⟨k, hk, rfl, hb⟩ := hrel
    obtain ⟨wa, hwa⟩ : ∃ wo : World, wo = wr := ⟨_, rfl⟩
    subst hwa
    by_cases hlt : k < xs.length
    · have hxa := hx.below hb
      obtain ⟨g, o, rfl⟩ := hx.addr hlt
      have ck := hxa.int hlt
      have hlI : (k : Int) < xs.length := by omega
      have hrk := hr.out _ (List.getElem_mem hlt)
      by_cases hk0 : k = 0
      · have hkD : decide (0 < k) = false := by simp [hk0]
        generalize xs[k] = X at *
        have h1 : decide (X < 0) = false := by simp; omega
        have h2 : decide ((n : Int) ≤ X) = false := by simp; omega
        replace hk0 := Lib.hid hk0
        replace ck := rg ck
        clear hrk
        go_wp2_with fail
        refine wp_region_quiet_below (by kernel_rfl) (by kernel_rfl) ?_
        repeat (go_big_quiet_step (fail))
        refine wpQuiet_nil ?_
        intro wq hw'
        replace hb := upw hb (grown_of hw')
        clear hw'
        go_wp2_with fail
        go_roundw
        case rel => exact ⟨k + 1, by omega, by first | rfl | go_num, hb⟩
        case measure => first | (simp [intOf]; done) | (simp [intOf]; omega)
      · have hkD : decide (0 < k) = true := by simp; omega
        obtain ⟨p, hp⟩ : ∃ p, k = p + 1 := ⟨k - 1, by omega⟩
        have hpl : p < xs.length := by omega
        have cp := hxa.int hpl
        have hpk := (List.pairwise_iff_getElem.1 hu.out) p k hpl hlt (by omega)
        have hpI : (k : Int) - 1 = (p : Int) := by omega
        have hpJ : (p : Int) < xs.length := by omega
        generalize xs[k] = X at *
        generalize xs[p] = Y at *
        have h1 : decide (X < 0) = false := by simp; omega
        have h2 : decide ((n : Int) ≤ X) = false := by simp; omega
        have h3 : decide (X ≤ Y) = false := by simp; omega
        replace hp := Lib.hid hp
        replace ck := rg ck
        replace cp := rg cp
        clear hrk hk0 hpk
        go_wp2_with fail
        refine wp_region_quiet_below (by kernel_rfl) (by kernel_rfl) ?_
        repeat (go_big_quiet_step (fail))
        refine wpQuiet_nil ?_
        intro wq hw'
        replace hb := upw hb (grown_of hw')
        clear hw'
        go_wp2_with fail
        go_roundw
        case rel => exact ⟨k + 1, by omega, by first | rfl | go_num, hb⟩
        case measure => first | (simp [intOf]; done) | (simp [intOf]; omega)
    · obtain rfl : k = xs.length := by omega
      go_wp2_with fail
      go_ret
      exact ⟨rfl, hb⟩
set_option maxRecDepth 100000 in
set_option maxHeartbeats 8000000 in
theorem lawRankedLasts (a : Option Addr) (L : List UInt8) (c : Nat) (a' : Option Addr) (M : List UInt8) (c' : Nat) (w : World) (hx : At w a L) (hlx : L.length ≤ 9223372036854775807) (hy : At w a' M) (hly : M.length ≤ 9223372036854775807) :
    Calls Try.prog 6 #[.slice a L.length c, .slice a' M.length c'] w fun e w' => e = .returned (.bool true) ∧ Below w.heap.size w w' := by
  have hlong := a2Long_c a a' L M c c' w
  by_cases hg : 3000 < L.length ∨ 3000 < M.length
  · have e : (decide (3000 < L.length) || decide (3000 < M.length)) = true := by simpa using hg
    rw [e] at hlong
    go_enter Try.func6, Try.ntmps6
    go_wp2_with (go_at_call 37; refine hlong.mono ?_; rintro e w1 ⟨rfl, rfl⟩)
    go_ret
    exact ⟨rfl, Below.refl _ _⟩
  · have e : (decide (3000 < L.length) || decide (3000 < M.length)) = false := by simp; omega
    rw [e] at hlong
    have hL3 : L.length ≤ 3000 := by omega
    have hM3 : M.length ≤ 3000 := by omega
    clear e hg
    have hF := footD_is L 0 0
    have c1 := Lib.hid (A2Foot_d a L c w hx hlx)
    generalize footD L 0 0 = f at *
    have hfo := hF.ok
    have c2 := Lib.hid (fun w' hb => A2Lasts_c a L c f w' (hx.below (w' := w') hb) hlx hF)
    have c3 := Lib.hid (fun w' hb => A2Fit_c a' M c' w' (hy.below (w' := w') hb) hly)
    have c8 := Lib.hid (fun w' hb n h0 h1 => a2At_c a' M c' 30 n w' (hy.below (w' := w') hb) (by omega) (by omega) h0 h1)
    clear hx hy hlx hly hL3 hM3
    replace hF := Lib.hid hF
    go_enter Try.func6, Try.ntmps6
    go_wp2_with (go_at_call 37; refine hlong.mono ?_; rintro e w1 ⟨rfl, rfl⟩)
    refine c1.out.mono ?_
    rintro e w1 ⟨rfl, hb1⟩
    clear c1 hlong
    obtain ⟨w2, hw2⟩ : ∃ w2, w2 = w1.alloc (.cells #[.int .i64 f.Length, .int .i64 f.Ball, .int .i64 f.Instep, .int .i64 f.Heel] 62) := ⟨_, rfl⟩
    have D := ((Sp.refl w).later hb1).add (w' := w2) (by rw [hw2]; exact newB w1 _) (by rw [hw2]; exact own_footC w1 62 f)
    obtain ⟨nf, hnf⟩ : ∃ nf, nf = w1.heap.size := ⟨_, rfl⟩
    replace hw2 := Lib.hid hw2
    replace D := Lib.hid D
    obtain ⟨f0, f1, f2, f3⟩ := footC_cells (D.out.get 0 rfl)
    clear hb1
    go_wp2_with (rw [← hw2.out])
    refine (c2.out _ D.out.up).mono ?_
    rintro e w3 ⟨v1, xs, rfl, hN, hO, hb⟩
    obtain ⟨a1, k1, rfl, -⟩ := hO.at
    have hX := hN.ok hF.out (Nat.le_refl 7)
    have hxl7 : xs.length ≤ 7 := hN.len
    replace D := Lib.hid (D.out.add hb hO)
    rw [← hnf] at D ⊢
    clear hb hO hN hnf f0 f1 f2 f3 hw2 c2
    go_wp2_with fail
    refine (c3.out _ D.out.up).mono ?_
    rintro e w4 ⟨q, fa, fc, rfl, hq, hO, hb⟩
    replace D := Lib.hid (D.out.add hb hO)
    clear hb hO c3
    obtain ⟨w5, hw5⟩ : ∃ w5, w5 = w4.alloc (.cells #[.int .i64 q.mn, .int .i64 q.mx, .int .i64 q.gi, .slice fa 4 fc] 72) := ⟨_, rfl⟩
    replace D := Lib.hid (D.out.add (w' := w5) (by rw [hw5]; exact newB w4 _) (by rw [hw5]; exact own_fitC w4 72 q fa fc))
    replace hw5 := Lib.hid hw5
    obtain ⟨f0, f1, f2, f3⟩ := footC_cells (D.out.get 3 rfl)
    obtain ⟨q0, q1, q2, q3⟩ := fitC_cells (D.out.get 0 rfl)
    have B1 := Lib.hid (fun w' h h2 => allowedLasts_ok a1 xs k1 f q fa fc w' h hX hfo hq h2)
    have B2 := Lib.hid (fun w' h h2 => rankLasts_ok a1 xs k1 f q fa fc w' h hX (by omega) hfo hq h2)
    have B3 := Lib.hid (fun r (hr : okFoot r = true) w' h h2 => pairLast_ok a1 xs k1 f r q fa fc w' h hX hfo hr hq h2)
    have B4 := Lib.hid (fun r (hr : okFoot r = true) (i : Nat) (hi : i < xs.length) w' h => specFitCost_c xs[i] r q fa fc w' (hX.ok _ (List.getElem_mem hi)) hr hq (hX.size _ (List.getElem_mem hi)) h)
    have B5 := Lib.hid (fun (i : Nat) (hi : i < xs.length) w' h => mayFit_ok xs[i] f q fa fc w' (hX.ok _ (List.getElem_mem hi)) hfo hq (hX.size _ (List.getElem_mem hi)) h)
    have hcr := Lib.hid (fun r (hr : okFoot r = true) (i : Nat) (hi : i < xs.length) => costL_range (costs_of (hX.ok _ (List.getElem_mem hi)) hr hq))
    replace hX := Lib.hid hX
    replace hq := Lib.hid hq
    replace hfo := Lib.hid hfo
    go_wp2_with (rw [← hw5.out])
    obtain ⟨nq, hnq⟩ : ∃ nq, nq = w4.heap.size := ⟨_, rfl⟩
    rw [← hnq] at D q0 q1 q2 q3 ⊢
    clear hnq hw5
    refine (B1.out _ (D.out.get 2 rfl : Own _ _ _ _ xs).at' (D.out.get 1 rfl : Own _ _ _ _ q.ws).at').mono ?_
    rintro e w6 ⟨v2, rfl, hO, hb⟩
    obtain ⟨a2, k2, rfl, -⟩ := hO.at
    replace D := Lib.hid (D.out.add hb hO)
    clear hb hO B1 f0 f1 f2 f3 q0 q1 q2 q3
    obtain ⟨f0, f1, f2, f3⟩ := footC_cells (D.out.get 4 rfl)
    obtain ⟨q0, q1, q2, q3⟩ := fitC_cells (D.out.get 1 rfl)
    have hAm := Lib.hid (fun v (h : v ∈ alwTo (mayAt xs f q) xs.length) => (alw_mem (mayAt xs f q)).1 h)
    have hAh := Lib.hid (fun k (h : k < xs.length) => alw_has (mayAt xs f q) h)
    have hAr := Lib.hid (fun v (h : v ∈ alwTo (mayAt xs f q) xs.length) => alw_range (mayAt xs f q) h)
    have hAu := Lib.hid (alw_up (mayAt xs f q) xs.length)
    have hAl := alw_length (mayAt xs f q) xs.length
    generalize hAe : alwTo (mayAt xs f q) xs.length = A at *
    replace hAe := Lib.hid hAe
    go_wp2_with fail
    refine (B2.out _ (D.out.get 3 rfl : Own _ _ _ _ xs).at' (D.out.get 2 rfl : Own _ _ _ _ q.ws).at').mono ?_
    rintro e w7 ⟨v3, ys, rfl, hRk, hO, hb⟩
    obtain ⟨a3, k3, rfl, -⟩ := hO.at
    replace D := Lib.hid (D.out.add hb hO)
    clear hb hO B2 f0 f1 f2 f3 q0 q1 q2 q3
    have hyl : ys.length ≤ 7 := by have := hRk.len; omega
    have hne : ((ys.length : Int) != A.length) = false := by simp [hRk.len]
    have hRs := Lib.hid (fun w' h => a2Rises_ok a2 A k2 xs.length w' h (by omega) hAr.out hAu.out (by omega))
    replace hRk := Lib.hid hRk
    replace hAl := Lib.hid hAl
    replace D : Hid (Sp w w7 [ite' 2 (.slice a3 ys.length k3) ys, ite' 2 (.slice a2 A.length k2) A, ite' 72 (.slice (some ⟨nq, 0, none⟩) 4 4) (fitC q fa fc), ite' 2 (.slice fa 4 fc) q.ws, ite' 77 (.slice a1 xs.length k1) xs, ite' 62 (.slice (some ⟨nf, 0, none⟩) 4 4) (footC f)]) := D
    go_wp2_with (go_at_call 43; refine (hRs.out _ (D.out.get 1 rfl : Own _ _ _ _ A).at').mono ?_; rintro e w8 ⟨rfl, hb8⟩; replace D := Lib.hid (D.out.later hb8))
    clear hne hRs hb8
    go_loopw [12, 13, 14, 15, 16] (fun i _ _ _ _ wr => ∃ k : Nat, k ≤ ys.length ∧ i = .int .i64 k ∧ Below w8.heap.size w8 wr) (fun i _ _ _ _ _ => ys.length - (intOf i).toNat)
    case atStart => exact ⟨0, Nat.zero_le _, rfl, Below.refl _ _⟩
    case round =>
      obtain ⟨k, hk, rfl, hbr⟩ := hrel
      obtain ⟨wa, hwa⟩ : ∃ wo : World, wo = wr := ⟨_, rfl⟩
      subst hwa
      replace D := Lib.hid (D.out.later hbr)
      by_cases hlt : k < ys.length
      · have hltI : (k : Int) < ys.length := by omega
        have hAy := Lib.hid (D.out.get 0 rfl : Own _ _ _ _ ys).at'
        obtain ⟨g3, o3, rfl⟩ := hAy.out.addr hlt
        have hym : ys[k] ∈ A := hRk.out.mem _ (List.getElem_mem hlt)
        obtain ⟨j2, hj2, e2, hm2⟩ := hAm.out _ hym
        have hHas := Lib.hid (as_bool (show decide (ys[k] ∈ A) = true by simpa using hym) (a2Has_c a2 A k2 ys[k] wa (D.out.get 1 rfl : Own _ _ _ _ A).at' (by have := hAl.out; omega)))
        have y2 := hAy.out.int hlt
        by_cases hk0 : k = 0
        · have hkB : ((k : Int) == 0) = true := by simp [hk0]
          rw [e2] at y2 hHas
          replace hk0 := Lib.hid hk0
          replace e2 := Lib.hid e2
          clear hym
          go_wp2_with fail
          refine hHas.out.mono ?_
          rintro e w' ⟨rfl, rfl⟩
          go_wp2_with fail
          go_roundw
          case rel => exact ⟨k + 1, by omega, by first | rfl | go_num, hbr⟩
          case measure => first | (simp [intOf]; done) | (simp [intOf]; omega)
        · have hkB : ((k : Int) == 0) = false := beq_eq_false_iff_ne.2 (by omega)
          obtain ⟨p, hp⟩ : ∃ p, k = p + 1 := ⟨k - 1, by omega⟩
          have hpl : p < ys.length := by omega
          have hym1 : ys[p] ∈ A := hRk.out.mem _ (List.getElem_mem hpl)
          obtain ⟨j1, hj1, e1, hm1⟩ := hAm.out _ hym1
          have y1 := hAy.out.int hpl
          have hBf : Before2 (costAt xs f q) ys[p] ys[k] := (List.pairwise_iff_getElem.1 hRk.out.up) p k hpl hlt (by omega)
          rw [e1, e2] at hBf
          rw [e1] at y1
          rw [e2] at y2 hHas
          have hc1 : costAt xs f q (j1 : Int) = costL xs[j1] f q := by unfold costAt; rw [show ((j1 : Nat) : Int).toNat = j1 by omega, lastAt_get hj1]
          have hc2 : costAt xs f q (j2 : Int) = costL xs[j2] f q := by unfold costAt; rw [show ((j2 : Nat) : Int).toNat = j2 by omega, lastAt_get hj2]
          unfold Before2 at hBf
          rw [hc1, hc2] at hBf
          unfold mayAt at hm1 hm2
          rw [lastAt_get hj1] at hm1
          rw [lastAt_get hj2] at hm2
          have hF1 := B4.out f hfo.out j1 hj1
          have hF2 := B4.out f hfo.out j2 hj2
          rw [hm1] at hF1
          rw [hm2] at hF2
          simp only [if_true] at hF1 hF2
          have hR1 := hcr.out f hfo.out j1 hj1
          have hR2 := hcr.out f hfo.out j2 hj2
          replace hF1 := Lib.hid hF1
          replace hF2 := Lib.hid hF2
          have hAx := Lib.hid (D.out.get 4 rfl : Own _ _ _ _ xs).at'
          obtain ⟨g1, o1, rfl⟩ := hAx.out.addr hj1
          have hX1 := Lib.hid (fun w' (h : At w' (some ⟨g1, o1, none⟩) xs) => h.last hj1)
          have hX2 := Lib.hid (fun w' (h : At w' (some ⟨g1, o1, none⟩) xs) => h.last hj2)
          obtain ⟨x, hx1⟩ : ∃ x, x = xs[j1] := ⟨_, rfl⟩
          obtain ⟨y, hx2⟩ : ∃ y, y = xs[j2] := ⟨_, rfl⟩
          rw [← hx1] at hF1 hBf hR1 hX1
          rw [← hx2] at hF2 hBf hR2 hX2
          have hpI : (k : Int) - 1 = (p : Int) := by omega
          have hpJ : (p : Int) < ys.length := by omega
          have hj1I : (j1 : Int) < xs.length := by omega
          have hj2I : (j2 : Int) < xs.length := by omega
          clear hc1 hc2 hm1 hm2 hx1 hx2 hym hym1 e1 e2
          generalize costL x f q = C1 at *
          generalize costL y f q = C2 at *
          replace hp := Lib.hid hp
          clear hk0
          go_wp2_with fail
          refine hHas.out.mono ?_
          rintro e w' ⟨rfl, rfl⟩
          go_wp2_with fail
          obtain ⟨x0, x1, x2, x3, x4, x5⟩ := hX1.out _ hAx.out
          obtain ⟨f0, f1, f2, f3⟩ := footC_cells (D.out.get 5 rfl)
          obtain ⟨q0, q1, q2, q3⟩ := fitC_cells (D.out.get 2 rfl)
          have y1r := y1
          have hWs := Lib.hid (D.out.get 3 rfl : Own _ _ _ _ q.ws).at'
          replace x0 := rg x0
          replace x1 := rg x1
          replace x2 := rg x2
          replace x3 := rg x3
          replace x4 := rg x4
          replace x5 := rg x5
          replace f0 := rg f0
          replace f1 := rg f1
          replace f2 := rg f2
          replace f3 := rg f3
          replace q0 := rg q0
          replace q1 := rg q1
          replace q2 := rg q2
          replace q3 := rg q3
          replace y1r := rg y1r
          refine wp_region_quiet_below (by kernel_rfl) (by kernel_rfl) ?_
          repeat (go_big_quiet_step ((go_at_call 52; exact Calls.regrown_of (hF1.out _ (hWs.out.below (grown_of ⟨⟨_, _⟩, rfl⟩))))))
          refine wpQuiet_nil ?_
          intro wq hw'
          have hbq := grown_of hw'
          clear hw' x0 x1 x2 x3 x4 x5 f0 f1 f2 f3 q0 q1 q2 q3 y1r

          replace D := Lib.hid (D.out.later hbq)
          replace hAx := Lib.hid (hAx.out.below hbq)
          replace y1 := kept_cell y1 hbq
          replace y2 := kept_cell y2 hbq
          replace hbr := upw hbr hbq
          clear hbq hWs hF1 hX1
          obtain ⟨wb, hwb⟩ : ∃ wo : World, wo = wq := ⟨_, rfl⟩
          subst hwb
          go_wp2_with fail
          obtain ⟨x0, x1, x2, x3, x4, x5⟩ := hX2.out _ hAx.out
          obtain ⟨f0, f1, f2, f3⟩ := footC_cells (D.out.get 5 rfl)
          obtain ⟨q0, q1, q2, q3⟩ := fitC_cells (D.out.get 2 rfl)
          have y2r := y2
          have hWs := Lib.hid (D.out.get 3 rfl : Own _ _ _ _ q.ws).at'
          replace x0 := rg x0
          replace x1 := rg x1
          replace x2 := rg x2
          replace x3 := rg x3
          replace x4 := rg x4
          replace x5 := rg x5
          replace f0 := rg f0
          replace f1 := rg f1
          replace f2 := rg f2
          replace f3 := rg f3
          replace q0 := rg q0
          replace q1 := rg q1
          replace q2 := rg q2
          replace q3 := rg q3
          replace y2r := rg y2r
          refine wp_region_quiet_below (by kernel_rfl) (by kernel_rfl) ?_
          repeat (go_big_quiet_step ((go_at_call 52; exact Calls.regrown_of (hF2.out _ (hWs.out.below (grown_of ⟨⟨_, _⟩, rfl⟩))))))
          refine wpQuiet_nil ?_
          intro wq hw'
          have hbq := grown_of hw'
          clear hw' x0 x1 x2 x3 x4 x5 f0 f1 f2 f3 q0 q1 q2 q3 y2r

          replace y1 := kept_cell y1 hbq
          replace y2 := kept_cell y2 hbq
          replace hbr := upw hbr hbq
          clear hbq hWs hF2 hX2 D
          obtain ⟨wc, hwc⟩ : ∃ wo : World, wo = wq := ⟨_, rfl⟩
          subst hwc
          go_wp2_with fail
          have hgt : decide (C2 < C1) = false := by simp; omega
          by_cases hCC : C1 = C2
          · have heq : (C1 == C2) = true := by simpa using hCC
            have hjj : decide (j2 ≤ j1) = false := by simp; omega
            clear hCC hBf
            replace y1 := rg y1
            replace y2 := rg y2
            refine wp_region_quiet_below (by kernel_rfl) (by kernel_rfl) ?_
            repeat (go_big_quiet_step ((fail)))
            refine wpQuiet_nil ?_
            intro wq hw'
            have hbq := grown_of hw'
            clear hw' 

            replace hbr := upw hbr hbq
            clear hbq
            go_wp2_with fail
            go_roundw
            case rel => exact ⟨k + 1, by omega, by first | rfl | go_num, hbr⟩
            case measure => first | (simp [intOf]; done) | (simp [intOf]; omega)
          · have heq : (C1 == C2) = false := by simpa using hCC
            clear hCC hBf
            replace y1 := rg y1
            replace y2 := rg y2
            refine wp_region_quiet_below (by kernel_rfl) (by kernel_rfl) ?_
            repeat (go_big_quiet_step ((fail)))
            refine wpQuiet_nil ?_
            intro wq hw'
            have hbq := grown_of hw'
            clear hw' 

            replace hbr := upw hbr hbq
            clear hbq
            go_wp2_with fail
            go_roundw
            case rel => exact ⟨k + 1, by omega, by first | rfl | go_num, hbr⟩
            case measure => first | (simp [intOf]; done) | (simp [intOf]; omega)
      · obtain rfl : k = ys.length := by omega
        obtain ⟨f0, f1, f2, f3⟩ := footC_cells (D.out.get 5 rfl)
        obtain ⟨w9, hw9⟩ : ∃ w9, w9 = wa.alloc (.cells #[.int .i64 f.Length, .int .i64 f.Ball, .int .i64 f.Instep, .int .i64 f.Heel] 62) := ⟨_, rfl⟩
        replace D := Lib.hid (D.out.add (w' := w9) (by rw [hw9]; exact newB wa _) (by rw [hw9]; exact own_footC wa 62 f))
        replace hw9 := Lib.hid hw9
        clear hbr hAm hRk
        go_wp2_with (rw [← hw9.out])
        obtain ⟨nr, hnr⟩ : ∃ nr, nr = wa.heap.size := ⟨_, rfl⟩
        rw [← hnr] at D ⊢
        clear hnr hw9 f0 f1 f2 f3
        have z0 := (footC_cells (D.out.get 0 rfl)).1
        refine wp_region_heldS (S := (fun w' => w'.cell? ⟨nr, 0, none⟩ = some (.int .i64 f.Length))) 7 (by kernel_rfl) z0 (fun hHeld => ?_)
        obtain ⟨wo, hwo⟩ : ∃ wo, wo = w9.drew := ⟨_, rfl⟩
        rw [← hwo] at hHeld ⊢
        have hbo : Below w9.heap.size w9 wo := by rw [hwo]; exact (Below.refl _ _).drew
        replace D := Lib.hid (D.out.later hbo)
        clear hwo z0 hbo
        have hfl := hF.out.length
        refine wpAnyS_take (i := 0) (v := _) rfl (by kernel_rfl) (by kernel_rfl) (by kernel_rfl) (by kernel_rfl) (by kernel_rfl) (fun _ _ _ h => h) (Or.inl ⟨by rfl, (by intro w hSw; (try dsimp only at hSw); go_simp; try with_reducible rfl)⟩) (by assumption) ?_
        go_simp
        refine wpAnyS_take (i := 1) (v := _) rfl (by kernel_rfl) (by kernel_rfl) (by kernel_rfl) (by kernel_rfl) (by kernel_rfl) (fun _ _ _ h => h) (Or.inl ⟨by rfl, (by intro w hSw; (try dsimp only at hSw); go_simp; try with_reducible rfl)⟩) (by assumption) ?_
        go_simp
        refine wpAnyS_take (i := 2) (v := _) rfl (by kernel_rfl) (by kernel_rfl) (by kernel_rfl) (by kernel_rfl) (by kernel_rfl) (fun _ _ _ h => h) (Or.inl ⟨by rfl, (by intro w hSw; (try dsimp only at hSw); go_simp; try with_reducible rfl)⟩) (by assumption) ?_
        go_simp
        refine wpAnyS_step (i := 3) (by kernel_rfl) rfl (fun K hK => ?_)
        go_simp
        (refine (c8.out wo D.out.up 8 (by omega) (by omega)).mono ?_; rintro e wp ⟨z, rfl, z0, z1, rfl⟩; have hz8 : z < 8 := (by omega); clear z1; have hzw : IntKind.i64.wrap (5 * z) = 5 * z := IntWalk.i64_in _ (by omega); have hzw2 : IntKind.i64.wrap (f.Length + 5 * z) = f.Length + 5 * z := IntWalk.i64_in _ (by omega))
        refine hK.out _ _ ((footC_cells (D.out.get 0 rfl)).1) (fun hHeld => ?_)
        clear hK K
        go_simp
        refine wpAnyS_take (i := 4) (v := _) rfl (by kernel_rfl) (by kernel_rfl) (by kernel_rfl) (by kernel_rfl) (by kernel_rfl) (fun _ _ _ h => h) (Or.inl ⟨by rfl, (by intro w hSw; (try dsimp only at hSw); go_simp; try with_reducible rfl)⟩) (by assumption) ?_
        go_simp
        refine wpAnyS_take (i := 5) (v := _) rfl (by kernel_rfl) (by kernel_rfl) (by kernel_rfl) (by kernel_rfl) (by kernel_rfl) (fun _ _ _ h => h) (Or.inl ⟨by rfl, (by intro w hSw; (try dsimp only at hSw); go_simp; try with_reducible rfl)⟩) (by assumption) ?_
        go_simp
        refine wpAnyS_take (i := 6) (v := _) rfl (by kernel_rfl) (by kernel_rfl) (by kernel_rfl) (by kernel_rfl) (by kernel_rfl) (fun _ _ _ h => h) (Or.inl ⟨by rfl, (by intro w hSw; (try dsimp only at hSw); go_simp; try with_reducible rfl)⟩) (by assumption) ?_
        go_simp
        have V := (D.out.get 0 rfl : Own _ _ _ _ (footC f))
        obtain ⟨r, hr⟩ : ∃ r : Foot, r = ⟨f.Length + 5 * z, f.Ball, f.Instep, f.Heel⟩ := ⟨_, rfl⟩
        have hro : Hid (okFoot r = true) := by
          have h := okFoot_iff.1 hfo.out
          rw [hr]
          refine Lib.hid (okFoot_iff.2 ⟨?_, h.2⟩)
          dsimp only; omega
        refine wpAnyS_last (i := 7) (by kernel_rfl) rfl (by kernel_rfl) (fun K hK => ?_)
        (refine cast (if_pos (by rfl)).symm ?_; refine wp_store_own 2 (.tmp 150) (.tmp 149) rfl w.heap.size 62 nr 4 4 (footC f) 0 0 ⟨.int .i64 (f.Length + 5 * z), rfl⟩ rfl rfl rfl (by kernel_rfl) rfl V (by show 0 < 4; omega) ?_; intro wst hV hgq)
        refine hK.out _ _ ?_
        clear hK K
        go_simp
        refine wpAnyS_done (by kernel_rfl) ?_ _
        replace hV : Own w.heap.size wst 62 (.slice (some ⟨nr, 0, none⟩) 4 4) (footC r) := by rw [hr]; exact hV
        replace D := Lib.hid (D.out.set 0 rfl hV hgq (Or.inl rfl))
        replace hr := Lib.hid hr
        clear hV hgq V hHeld hzw hzw2 hz8 z0 hfl
        replace D : Hid (Sp w wst [ite' 62 (.slice (some ⟨nr, 0, none⟩) 4 4) (footC r), ite' 2 (.slice a3 ys.length k3) ys, ite' 2 (.slice a2 A.length k2) A, ite' 72 (.slice (some ⟨nq, 0, none⟩) 4 4) (fitC q fa fc), ite' 2 (.slice fa 4 fc) q.ws, ite' 77 (.slice a1 xs.length k1) xs, ite' 62 (.slice (some ⟨nf, 0, none⟩) 4 4) (footC f)]) := D
        obtain ⟨f0, f1, f2, f3⟩ := footC_cells (D.out.get 6 rfl)
        obtain ⟨q0, q1, q2, q3⟩ := fitC_cells (D.out.get 3 rfl)
        obtain ⟨r0, r1, r2, r3⟩ := footC_cells (D.out.get 0 rfl)
        have hPC := Lib.hid (pair_cases xs q [f, r])
        have B3r := Lib.hid (B3.out r hro.out)
        obtain ⟨P, hP⟩ : ∃ P, P = fun i => allF (lastAt xs i) q [f, r] := ⟨_, rfl⟩
        obtain ⟨C, hC⟩ : ∃ C, C = fun i => sumF (lastAt xs i) q [f, r] := ⟨_, rfl⟩
        rw [← hP, ← hC] at hPC
        have hPk := Lib.hid (fun k (h : k < xs.length) => show P k = (mayL xs[k] f q && mayL xs[k] r q) by rw [hP]; dsimp only; rw [lastAt_get h]; simp [allF])
        have hCk := Lib.hid (fun k (h : k < xs.length) => show C k = costL xs[k] f q + costL xs[k] r q by rw [hC]; dsimp only; rw [lastAt_get h]; simp [sumF, sumI_cons, sumI_nil])
        clear hP hC
        generalize (pairRes xs q [f, r]).1 = P1 at *
        generalize (pairRes xs q [f, r]).2 = P2 at *
        go_wp2_with fail
        refine (B3r.out _ (D.out.get 5 rfl : Own _ _ _ _ xs).at' (D.out.get 4 rfl : Own _ _ _ _ q.ws).at').mono ?_
        rintro e wt ⟨rfl, hb⟩
        replace D := Lib.hid (D.out.later hb)
        clear hb B3r B3 f0 f1 f2 f3 q0 q1 q2 q3 r0 r1 r2 r3 hlt
        go_wp2_with fail
        go_loopw [20, 21, 22, 23, 24, 25, 26, 27, 28] (fun bv lv i _ _ _ _ _ _ wv => ∃ k : Nat, k ≤ xs.length ∧ i = .int .i64 k ∧ bv = .int .i64 (bestTo P C k).1 ∧ lv = .int .i64 (bestTo P C k).2 ∧ Below wt.heap.size wt wv) (fun _ _ i _ _ _ _ _ _ _ => xs.length - (intOf i).toNat)
        case atStart => exact ⟨0, Nat.zero_le _, rfl, rfl, rfl, Below.refl _ _⟩
        case round =>
          obtain ⟨k, hk, rfl, rfl, rfl, hbr⟩ := hrel
          obtain ⟨wb, hwb⟩ : ∃ wo : World, wo = wr := ⟨_, rfl⟩
          subst hwb
          replace D := Lib.hid (D.out.later hbr)
          by_cases hlt : k < xs.length
          · have hltI : (k : Int) < xs.length := by omega
            have hAx := (D.out.get 5 rfl : Own _ _ _ _ xs).at'
            obtain ⟨g1, o1, rfl⟩ := hAx.addr hlt
            clear hAx
            have hX := Lib.hid (fun w' (h : At w' (some ⟨g1, o1, none⟩) xs) => h.last hlt)
            have hM := Lib.hid (B5.out k hlt)
            have hF1 := Lib.hid (B4.out f hfo.out k hlt)
            have hF2 := Lib.hid (B4.out r hro.out k hlt)
            have hPx := hPk.out k hlt
            have hCx := hCk.out k hlt
            have hAk := hAh.out k hlt
            unfold mayAt at hAk
            rw [lastAt_get hlt] at hAk
            have hHas := fun w' h => a2Has_c a2 A k2 (k : Int) w' h (by have := hAl.out; omega)
            rw [hAk] at hHas
            replace hHas := Lib.hid hHas
            have hR1 := hcr.out f hfo.out k hlt
            have hR2 := hcr.out r hro.out k hlt
            clear hAk
            obtain ⟨x, hxe⟩ : ∃ x, x = xs[k] := ⟨_, rfl⟩
            rw [← hxe] at hX hM hF1 hF2 hPx hCx hHas hR1 hR2
            clear hxe
            obtain ⟨m1, hm1⟩ : ∃ m, m = mayL x f q := ⟨_, rfl⟩
            obtain ⟨m2, hm2⟩ : ∃ m, m = mayL x r q := ⟨_, rfl⟩
            obtain ⟨C1, hC1⟩ : ∃ m, m = costL x f q := ⟨_, rfl⟩
            obtain ⟨C2, hC2⟩ : ∃ m, m = costL x r q := ⟨_, rfl⟩
            rw [← hm1] at hM hF1 hPx hHas
            rw [← hm2] at hF2 hPx
            rw [← hC1] at hF1 hCx hR1
            rw [← hC2] at hF2 hCx hR2
            clear hm1 hm2 hC1 hC2
            replace hCx := Lib.hid hCx
            cases m1
            · have hS := Lib.hid (best_no P C (k := k) (by rw [hPx]; rfl))
              clear hPx
              simp only [Bool.false_eq_true, if_false] at hF1
              generalize hB : (bestTo P C k).1 = B at *
              generalize hLq : (bestTo P C k).2 = Lq at *
              replace hB := Lib.hid hB
              replace hLq := Lib.hid hLq
              cases m2
              · simp only [Bool.false_eq_true, if_false] at hF2
                go_wp2_with fail
                obtain ⟨x0, x1, x2, x3, x4, x5⟩ := hX.out _ (D.out.get 5 rfl : Own _ _ _ _ xs).at'
                obtain ⟨f0, f1, f2, f3⟩ := footC_cells (D.out.get 6 rfl)
                obtain ⟨q0, q1, q2, q3⟩ := fitC_cells (D.out.get 3 rfl)
                have hWs := Lib.hid (D.out.get 4 rfl : Own _ _ _ _ q.ws).at'
                replace x0 := rg x0
                replace x1 := rg x1
                replace x2 := rg x2
                replace x3 := rg x3
                replace x4 := rg x4
                replace x5 := rg x5
                replace f0 := rg f0
                replace f1 := rg f1
                replace f2 := rg f2
                replace f3 := rg f3
                replace q0 := rg q0
                replace q1 := rg q1
                replace q2 := rg q2
                replace q3 := rg q3
                refine wp_region_quiet_below (by kernel_rfl) (by kernel_rfl) ?_
                repeat (go_big_quiet_step ((go_at_call 54; exact Calls.regrown_of (hM.out _ (hWs.out.below (grown_of ⟨⟨_, _⟩, rfl⟩))))))
                refine wpQuiet_nil ?_
                intro wq hw'
                have hbq := grown_of hw'
                clear hw' x0 x1 x2 x3 x4 x5 f0 f1 f2 f3 q0 q1 q2 q3
                replace D := Lib.hid (D.out.later hbq)
                replace hbr := upw hbr hbq
                clear hbq
                clear hWs
                obtain ⟨wb1, hwb1⟩ : ∃ wo : World, wo = wq := ⟨_, rfl⟩
                subst hwb1
                go_wp2_with (go_at_call 45; refine (hHas.out _ (D.out.get 2 rfl : Own _ _ _ _ A).at').mono ?_; rintro e w' ⟨rfl, rfl⟩)
                obtain ⟨x0, x1, x2, x3, x4, x5⟩ := hX.out _ (D.out.get 5 rfl : Own _ _ _ _ xs).at'
                obtain ⟨f0, f1, f2, f3⟩ := footC_cells (D.out.get 6 rfl)
                obtain ⟨q0, q1, q2, q3⟩ := fitC_cells (D.out.get 3 rfl)
                have hWs := Lib.hid (D.out.get 4 rfl : Own _ _ _ _ q.ws).at'
                replace x0 := rg x0
                replace x1 := rg x1
                replace x2 := rg x2
                replace x3 := rg x3
                replace x4 := rg x4
                replace x5 := rg x5
                replace f0 := rg f0
                replace f1 := rg f1
                replace f2 := rg f2
                replace f3 := rg f3
                replace q0 := rg q0
                replace q1 := rg q1
                replace q2 := rg q2
                replace q3 := rg q3
                refine wp_region_quiet_below (by kernel_rfl) (by kernel_rfl) ?_
                repeat (go_big_quiet_step ((go_at_call 52; exact Calls.regrown_of (hF1.out _ (hWs.out.below (grown_of ⟨⟨_, _⟩, rfl⟩))))))
                refine wpQuiet_nil ?_
                intro wq hw'
                have hbq := grown_of hw'
                clear hw' x0 x1 x2 x3 x4 x5 f0 f1 f2 f3 q0 q1 q2 q3
                replace D := Lib.hid (D.out.later hbq)
                replace hbr := upw hbr hbq
                clear hbq
                clear hWs
                obtain ⟨wb2, hwb2⟩ : ∃ wo : World, wo = wq := ⟨_, rfl⟩
                subst hwb2
                go_wp2_with fail
                obtain ⟨x0, x1, x2, x3, x4, x5⟩ := hX.out _ (D.out.get 5 rfl : Own _ _ _ _ xs).at'
                obtain ⟨r0, r1, r2, r3⟩ := footC_cells (D.out.get 0 rfl)
                obtain ⟨q0, q1, q2, q3⟩ := fitC_cells (D.out.get 3 rfl)
                have hWs := Lib.hid (D.out.get 4 rfl : Own _ _ _ _ q.ws).at'
                replace x0 := rg x0
                replace x1 := rg x1
                replace x2 := rg x2
                replace x3 := rg x3
                replace x4 := rg x4
                replace x5 := rg x5
                replace r0 := rg r0
                replace r1 := rg r1
                replace r2 := rg r2
                replace r3 := rg r3
                replace q0 := rg q0
                replace q1 := rg q1
                replace q2 := rg q2
                replace q3 := rg q3
                refine wp_region_quiet_below (by kernel_rfl) (by kernel_rfl) ?_
                repeat (go_big_quiet_step ((go_at_call 52; exact Calls.regrown_of (hF2.out _ (hWs.out.below (grown_of ⟨⟨_, _⟩, rfl⟩))))))
                refine wpQuiet_nil ?_
                intro wq hw'
                have hbq := grown_of hw'
                clear hw' x0 x1 x2 x3 x4 x5 r0 r1 r2 r3 q0 q1 q2 q3
                replace D := Lib.hid (D.out.later hbq)
                replace hbr := upw hbr hbq
                clear hbq
                clear hWs
                obtain ⟨wb3, hwb3⟩ : ∃ wo : World, wo = wq := ⟨_, rfl⟩
                subst hwb3
                go_wp2_with fail
                go_roundw
                case rel => exact ⟨k + 1, by omega, by first | rfl | go_num, by rw [hS.out, hB.out], by rw [hS.out, hLq.out], hbr⟩
                case measure => first | (simp [intOf]; done) | (simp [intOf]; omega)

              · simp only [if_true] at hF2
                go_wp2_with fail
                obtain ⟨x0, x1, x2, x3, x4, x5⟩ := hX.out _ (D.out.get 5 rfl : Own _ _ _ _ xs).at'
                obtain ⟨f0, f1, f2, f3⟩ := footC_cells (D.out.get 6 rfl)
                obtain ⟨q0, q1, q2, q3⟩ := fitC_cells (D.out.get 3 rfl)
                have hWs := Lib.hid (D.out.get 4 rfl : Own _ _ _ _ q.ws).at'
                replace x0 := rg x0
                replace x1 := rg x1
                replace x2 := rg x2
                replace x3 := rg x3
                replace x4 := rg x4
                replace x5 := rg x5
                replace f0 := rg f0
                replace f1 := rg f1
                replace f2 := rg f2
                replace f3 := rg f3
                replace q0 := rg q0
                replace q1 := rg q1
                replace q2 := rg q2
                replace q3 := rg q3
                refine wp_region_quiet_below (by kernel_rfl) (by kernel_rfl) ?_
                repeat (go_big_quiet_step ((go_at_call 54; exact Calls.regrown_of (hM.out _ (hWs.out.below (grown_of ⟨⟨_, _⟩, rfl⟩))))))
                refine wpQuiet_nil ?_
                intro wq hw'
                have hbq := grown_of hw'
                clear hw' x0 x1 x2 x3 x4 x5 f0 f1 f2 f3 q0 q1 q2 q3
                replace D := Lib.hid (D.out.later hbq)
                replace hbr := upw hbr hbq
                clear hbq
                clear hWs
                obtain ⟨wb1, hwb1⟩ : ∃ wo : World, wo = wq := ⟨_, rfl⟩
                subst hwb1
                go_wp2_with (go_at_call 45; refine (hHas.out _ (D.out.get 2 rfl : Own _ _ _ _ A).at').mono ?_; rintro e w' ⟨rfl, rfl⟩)
                obtain ⟨x0, x1, x2, x3, x4, x5⟩ := hX.out _ (D.out.get 5 rfl : Own _ _ _ _ xs).at'
                obtain ⟨f0, f1, f2, f3⟩ := footC_cells (D.out.get 6 rfl)
                obtain ⟨q0, q1, q2, q3⟩ := fitC_cells (D.out.get 3 rfl)
                have hWs := Lib.hid (D.out.get 4 rfl : Own _ _ _ _ q.ws).at'
                replace x0 := rg x0
                replace x1 := rg x1
                replace x2 := rg x2
                replace x3 := rg x3
                replace x4 := rg x4
                replace x5 := rg x5
                replace f0 := rg f0
                replace f1 := rg f1
                replace f2 := rg f2
                replace f3 := rg f3
                replace q0 := rg q0
                replace q1 := rg q1
                replace q2 := rg q2
                replace q3 := rg q3
                refine wp_region_quiet_below (by kernel_rfl) (by kernel_rfl) ?_
                repeat (go_big_quiet_step ((go_at_call 52; exact Calls.regrown_of (hF1.out _ (hWs.out.below (grown_of ⟨⟨_, _⟩, rfl⟩))))))
                refine wpQuiet_nil ?_
                intro wq hw'
                have hbq := grown_of hw'
                clear hw' x0 x1 x2 x3 x4 x5 f0 f1 f2 f3 q0 q1 q2 q3
                replace D := Lib.hid (D.out.later hbq)
                replace hbr := upw hbr hbq
                clear hbq
                clear hWs
                obtain ⟨wb2, hwb2⟩ : ∃ wo : World, wo = wq := ⟨_, rfl⟩
                subst hwb2
                go_wp2_with fail
                obtain ⟨x0, x1, x2, x3, x4, x5⟩ := hX.out _ (D.out.get 5 rfl : Own _ _ _ _ xs).at'
                obtain ⟨r0, r1, r2, r3⟩ := footC_cells (D.out.get 0 rfl)
                obtain ⟨q0, q1, q2, q3⟩ := fitC_cells (D.out.get 3 rfl)
                have hWs := Lib.hid (D.out.get 4 rfl : Own _ _ _ _ q.ws).at'
                replace x0 := rg x0
                replace x1 := rg x1
                replace x2 := rg x2
                replace x3 := rg x3
                replace x4 := rg x4
                replace x5 := rg x5
                replace r0 := rg r0
                replace r1 := rg r1
                replace r2 := rg r2
                replace r3 := rg r3
                replace q0 := rg q0
                replace q1 := rg q1
                replace q2 := rg q2
                replace q3 := rg q3
                refine wp_region_quiet_below (by kernel_rfl) (by kernel_rfl) ?_
                repeat (go_big_quiet_step ((go_at_call 52; exact Calls.regrown_of (hF2.out _ (hWs.out.below (grown_of ⟨⟨_, _⟩, rfl⟩))))))
                refine wpQuiet_nil ?_
                intro wq hw'
                have hbq := grown_of hw'
                clear hw' x0 x1 x2 x3 x4 x5 r0 r1 r2 r3 q0 q1 q2 q3
                replace D := Lib.hid (D.out.later hbq)
                replace hbr := upw hbr hbq
                clear hbq
                clear hWs
                obtain ⟨wb3, hwb3⟩ : ∃ wo : World, wo = wq := ⟨_, rfl⟩
                subst hwb3
                go_wp2_with fail
                go_roundw
                case rel => exact ⟨k + 1, by omega, by first | rfl | go_num, by rw [hS.out, hB.out], by rw [hS.out, hLq.out], hbr⟩
                case measure => first | (simp [intOf]; done) | (simp [intOf]; omega)

            · simp only [if_true] at hF1
              cases m2
              · have hS := Lib.hid (best_no P C (k := k) (by rw [hPx]; rfl))
                clear hPx
                simp only [Bool.false_eq_true, if_false] at hF2
                generalize hB : (bestTo P C k).1 = B at *
                generalize hLq : (bestTo P C k).2 = Lq at *
                replace hB := Lib.hid hB
                replace hLq := Lib.hid hLq
                go_wp2_with fail
                obtain ⟨x0, x1, x2, x3, x4, x5⟩ := hX.out _ (D.out.get 5 rfl : Own _ _ _ _ xs).at'
                obtain ⟨f0, f1, f2, f3⟩ := footC_cells (D.out.get 6 rfl)
                obtain ⟨q0, q1, q2, q3⟩ := fitC_cells (D.out.get 3 rfl)
                have hWs := Lib.hid (D.out.get 4 rfl : Own _ _ _ _ q.ws).at'
                replace x0 := rg x0
                replace x1 := rg x1
                replace x2 := rg x2
                replace x3 := rg x3
                replace x4 := rg x4
                replace x5 := rg x5
                replace f0 := rg f0
                replace f1 := rg f1
                replace f2 := rg f2
                replace f3 := rg f3
                replace q0 := rg q0
                replace q1 := rg q1
                replace q2 := rg q2
                replace q3 := rg q3
                refine wp_region_quiet_below (by kernel_rfl) (by kernel_rfl) ?_
                repeat (go_big_quiet_step ((go_at_call 54; exact Calls.regrown_of (hM.out _ (hWs.out.below (grown_of ⟨⟨_, _⟩, rfl⟩))))))
                refine wpQuiet_nil ?_
                intro wq hw'
                have hbq := grown_of hw'
                clear hw' x0 x1 x2 x3 x4 x5 f0 f1 f2 f3 q0 q1 q2 q3
                replace D := Lib.hid (D.out.later hbq)
                replace hbr := upw hbr hbq
                clear hbq
                clear hWs
                obtain ⟨wb1, hwb1⟩ : ∃ wo : World, wo = wq := ⟨_, rfl⟩
                subst hwb1
                go_wp2_with (go_at_call 45; refine (hHas.out _ (D.out.get 2 rfl : Own _ _ _ _ A).at').mono ?_; rintro e w' ⟨rfl, rfl⟩)
                obtain ⟨x0, x1, x2, x3, x4, x5⟩ := hX.out _ (D.out.get 5 rfl : Own _ _ _ _ xs).at'
                obtain ⟨f0, f1, f2, f3⟩ := footC_cells (D.out.get 6 rfl)
                obtain ⟨q0, q1, q2, q3⟩ := fitC_cells (D.out.get 3 rfl)
                have hWs := Lib.hid (D.out.get 4 rfl : Own _ _ _ _ q.ws).at'
                replace x0 := rg x0
                replace x1 := rg x1
                replace x2 := rg x2
                replace x3 := rg x3
                replace x4 := rg x4
                replace x5 := rg x5
                replace f0 := rg f0
                replace f1 := rg f1
                replace f2 := rg f2
                replace f3 := rg f3
                replace q0 := rg q0
                replace q1 := rg q1
                replace q2 := rg q2
                replace q3 := rg q3
                refine wp_region_quiet_below (by kernel_rfl) (by kernel_rfl) ?_
                repeat (go_big_quiet_step ((go_at_call 52; exact Calls.regrown_of (hF1.out _ (hWs.out.below (grown_of ⟨⟨_, _⟩, rfl⟩))))))
                refine wpQuiet_nil ?_
                intro wq hw'
                have hbq := grown_of hw'
                clear hw' x0 x1 x2 x3 x4 x5 f0 f1 f2 f3 q0 q1 q2 q3
                replace D := Lib.hid (D.out.later hbq)
                replace hbr := upw hbr hbq
                clear hbq
                clear hWs
                obtain ⟨wb2, hwb2⟩ : ∃ wo : World, wo = wq := ⟨_, rfl⟩
                subst hwb2
                go_wp2_with fail
                obtain ⟨x0, x1, x2, x3, x4, x5⟩ := hX.out _ (D.out.get 5 rfl : Own _ _ _ _ xs).at'
                obtain ⟨r0, r1, r2, r3⟩ := footC_cells (D.out.get 0 rfl)
                obtain ⟨q0, q1, q2, q3⟩ := fitC_cells (D.out.get 3 rfl)
                have hWs := Lib.hid (D.out.get 4 rfl : Own _ _ _ _ q.ws).at'
                replace x0 := rg x0
                replace x1 := rg x1
                replace x2 := rg x2
                replace x3 := rg x3
                replace x4 := rg x4
                replace x5 := rg x5
                replace r0 := rg r0
                replace r1 := rg r1
                replace r2 := rg r2
                replace r3 := rg r3
                replace q0 := rg q0
                replace q1 := rg q1
                replace q2 := rg q2
                replace q3 := rg q3
                refine wp_region_quiet_below (by kernel_rfl) (by kernel_rfl) ?_
                repeat (go_big_quiet_step ((go_at_call 52; exact Calls.regrown_of (hF2.out _ (hWs.out.below (grown_of ⟨⟨_, _⟩, rfl⟩))))))
                refine wpQuiet_nil ?_
                intro wq hw'
                have hbq := grown_of hw'
                clear hw' x0 x1 x2 x3 x4 x5 r0 r1 r2 r3 q0 q1 q2 q3
                replace D := Lib.hid (D.out.later hbq)
                replace hbr := upw hbr hbq
                clear hbq
                clear hWs
                obtain ⟨wb3, hwb3⟩ : ∃ wo : World, wo = wq := ⟨_, rfl⟩
                subst hwb3
                go_wp2_with fail
                go_roundw
                case rel => exact ⟨k + 1, by omega, by first | rfl | go_num, by rw [hS.out, hB.out], by rw [hS.out, hLq.out], hbr⟩
                case measure => first | (simp [intOf]; done) | (simp [intOf]; omega)

              · simp only [if_true] at hF2
                have hPt : P k = true := by rw [hPx]; rfl
                have hS1 := Lib.hid (best_new P C (k := k) hPt)
                have hS2 := Lib.hid (best_old P C (k := k))
                clear hPx hPt
                generalize hB : (bestTo P C k).1 = B at *
                generalize hLq : (bestTo P C k).2 = Lq at *
                replace hB := Lib.hid hB
                replace hLq := Lib.hid hLq
                by_cases hBn : B < 0
                · have hBD : decide (B < 0) = true := by simpa using hBn
                  have hS : Hid (bestTo P C (k + 1) = ((k : Int), C1 + C2)) := Lib.hid (by rw [hS1.out (Or.inl hBn), hCx.out])
                  clear hBn hS1 hS2
                  go_wp2_with fail
                  obtain ⟨x0, x1, x2, x3, x4, x5⟩ := hX.out _ (D.out.get 5 rfl : Own _ _ _ _ xs).at'
                  obtain ⟨f0, f1, f2, f3⟩ := footC_cells (D.out.get 6 rfl)
                  obtain ⟨q0, q1, q2, q3⟩ := fitC_cells (D.out.get 3 rfl)
                  have hWs := Lib.hid (D.out.get 4 rfl : Own _ _ _ _ q.ws).at'
                  replace x0 := rg x0
                  replace x1 := rg x1
                  replace x2 := rg x2
                  replace x3 := rg x3
                  replace x4 := rg x4
                  replace x5 := rg x5
                  replace f0 := rg f0
                  replace f1 := rg f1
                  replace f2 := rg f2
                  replace f3 := rg f3
                  replace q0 := rg q0
                  replace q1 := rg q1
                  replace q2 := rg q2
                  replace q3 := rg q3
                  refine wp_region_quiet_below (by kernel_rfl) (by kernel_rfl) ?_
                  repeat (go_big_quiet_step ((go_at_call 54; exact Calls.regrown_of (hM.out _ (hWs.out.below (grown_of ⟨⟨_, _⟩, rfl⟩))))))
                  refine wpQuiet_nil ?_
                  intro wq hw'
                  have hbq := grown_of hw'
                  clear hw' x0 x1 x2 x3 x4 x5 f0 f1 f2 f3 q0 q1 q2 q3
                  replace D := Lib.hid (D.out.later hbq)
                  replace hbr := upw hbr hbq
                  clear hbq
                  clear hWs
                  obtain ⟨wb1, hwb1⟩ : ∃ wo : World, wo = wq := ⟨_, rfl⟩
                  subst hwb1
                  go_wp2_with (go_at_call 45; refine (hHas.out _ (D.out.get 2 rfl : Own _ _ _ _ A).at').mono ?_; rintro e w' ⟨rfl, rfl⟩)
                  obtain ⟨x0, x1, x2, x3, x4, x5⟩ := hX.out _ (D.out.get 5 rfl : Own _ _ _ _ xs).at'
                  obtain ⟨f0, f1, f2, f3⟩ := footC_cells (D.out.get 6 rfl)
                  obtain ⟨q0, q1, q2, q3⟩ := fitC_cells (D.out.get 3 rfl)
                  have hWs := Lib.hid (D.out.get 4 rfl : Own _ _ _ _ q.ws).at'
                  replace x0 := rg x0
                  replace x1 := rg x1
                  replace x2 := rg x2
                  replace x3 := rg x3
                  replace x4 := rg x4
                  replace x5 := rg x5
                  replace f0 := rg f0
                  replace f1 := rg f1
                  replace f2 := rg f2
                  replace f3 := rg f3
                  replace q0 := rg q0
                  replace q1 := rg q1
                  replace q2 := rg q2
                  replace q3 := rg q3
                  refine wp_region_quiet_below (by kernel_rfl) (by kernel_rfl) ?_
                  repeat (go_big_quiet_step ((go_at_call 52; exact Calls.regrown_of (hF1.out _ (hWs.out.below (grown_of ⟨⟨_, _⟩, rfl⟩))))))
                  refine wpQuiet_nil ?_
                  intro wq hw'
                  have hbq := grown_of hw'
                  clear hw' x0 x1 x2 x3 x4 x5 f0 f1 f2 f3 q0 q1 q2 q3
                  replace D := Lib.hid (D.out.later hbq)
                  replace hbr := upw hbr hbq
                  clear hbq
                  clear hWs
                  obtain ⟨wb2, hwb2⟩ : ∃ wo : World, wo = wq := ⟨_, rfl⟩
                  subst hwb2
                  go_wp2_with fail
                  obtain ⟨x0, x1, x2, x3, x4, x5⟩ := hX.out _ (D.out.get 5 rfl : Own _ _ _ _ xs).at'
                  obtain ⟨r0, r1, r2, r3⟩ := footC_cells (D.out.get 0 rfl)
                  obtain ⟨q0, q1, q2, q3⟩ := fitC_cells (D.out.get 3 rfl)
                  have hWs := Lib.hid (D.out.get 4 rfl : Own _ _ _ _ q.ws).at'
                  replace x0 := rg x0
                  replace x1 := rg x1
                  replace x2 := rg x2
                  replace x3 := rg x3
                  replace x4 := rg x4
                  replace x5 := rg x5
                  replace r0 := rg r0
                  replace r1 := rg r1
                  replace r2 := rg r2
                  replace r3 := rg r3
                  replace q0 := rg q0
                  replace q1 := rg q1
                  replace q2 := rg q2
                  replace q3 := rg q3
                  refine wp_region_quiet_below (by kernel_rfl) (by kernel_rfl) ?_
                  repeat (go_big_quiet_step ((go_at_call 52; exact Calls.regrown_of (hF2.out _ (hWs.out.below (grown_of ⟨⟨_, _⟩, rfl⟩))))))
                  refine wpQuiet_nil ?_
                  intro wq hw'
                  have hbq := grown_of hw'
                  clear hw' x0 x1 x2 x3 x4 x5 r0 r1 r2 r3 q0 q1 q2 q3
                  replace D := Lib.hid (D.out.later hbq)
                  replace hbr := upw hbr hbq
                  clear hbq
                  clear hWs
                  obtain ⟨wb3, hwb3⟩ : ∃ wo : World, wo = wq := ⟨_, rfl⟩
                  subst hwb3
                  go_wp2_with fail
                  go_roundw
                  case rel => exact ⟨k + 1, by omega, by first | rfl | go_num, by rw [hS.out], by rw [hS.out], hbr⟩
                  case measure => first | (simp [intOf]; done) | (simp [intOf]; omega)

                · have hBD : decide (B < 0) = false := by simpa using hBn
                  by_cases hCL : C1 + C2 < Lq
                  · have hCD : decide (C1 + C2 < Lq) = true := by simpa using hCL
                    have hS : Hid (bestTo P C (k + 1) = ((k : Int), C1 + C2)) := Lib.hid (by rw [hS1.out (Or.inr (by rw [hCx.out]; exact hCL)), hCx.out])
                    clear hBn hCL hS1 hS2
                    go_wp2_with fail
                    obtain ⟨x0, x1, x2, x3, x4, x5⟩ := hX.out _ (D.out.get 5 rfl : Own _ _ _ _ xs).at'
                    obtain ⟨f0, f1, f2, f3⟩ := footC_cells (D.out.get 6 rfl)
                    obtain ⟨q0, q1, q2, q3⟩ := fitC_cells (D.out.get 3 rfl)
                    have hWs := Lib.hid (D.out.get 4 rfl : Own _ _ _ _ q.ws).at'
                    replace x0 := rg x0
                    replace x1 := rg x1
                    replace x2 := rg x2
                    replace x3 := rg x3
                    replace x4 := rg x4
                    replace x5 := rg x5
                    replace f0 := rg f0
                    replace f1 := rg f1
                    replace f2 := rg f2
                    replace f3 := rg f3
                    replace q0 := rg q0
                    replace q1 := rg q1
                    replace q2 := rg q2
                    replace q3 := rg q3
                    refine wp_region_quiet_below (by kernel_rfl) (by kernel_rfl) ?_
                    repeat (go_big_quiet_step ((go_at_call 54; exact Calls.regrown_of (hM.out _ (hWs.out.below (grown_of ⟨⟨_, _⟩, rfl⟩))))))
                    refine wpQuiet_nil ?_
                    intro wq hw'
                    have hbq := grown_of hw'
                    clear hw' x0 x1 x2 x3 x4 x5 f0 f1 f2 f3 q0 q1 q2 q3
                    replace D := Lib.hid (D.out.later hbq)
                    replace hbr := upw hbr hbq
                    clear hbq
                    clear hWs
                    obtain ⟨wb1, hwb1⟩ : ∃ wo : World, wo = wq := ⟨_, rfl⟩
                    subst hwb1
                    go_wp2_with (go_at_call 45; refine (hHas.out _ (D.out.get 2 rfl : Own _ _ _ _ A).at').mono ?_; rintro e w' ⟨rfl, rfl⟩)
                    obtain ⟨x0, x1, x2, x3, x4, x5⟩ := hX.out _ (D.out.get 5 rfl : Own _ _ _ _ xs).at'
                    obtain ⟨f0, f1, f2, f3⟩ := footC_cells (D.out.get 6 rfl)
                    obtain ⟨q0, q1, q2, q3⟩ := fitC_cells (D.out.get 3 rfl)
                    have hWs := Lib.hid (D.out.get 4 rfl : Own _ _ _ _ q.ws).at'
                    replace x0 := rg x0
                    replace x1 := rg x1
                    replace x2 := rg x2
                    replace x3 := rg x3
                    replace x4 := rg x4
                    replace x5 := rg x5
                    replace f0 := rg f0
                    replace f1 := rg f1
                    replace f2 := rg f2
                    replace f3 := rg f3
                    replace q0 := rg q0
                    replace q1 := rg q1
                    replace q2 := rg q2
                    replace q3 := rg q3
                    refine wp_region_quiet_below (by kernel_rfl) (by kernel_rfl) ?_
                    repeat (go_big_quiet_step ((go_at_call 52; exact Calls.regrown_of (hF1.out _ (hWs.out.below (grown_of ⟨⟨_, _⟩, rfl⟩))))))
                    refine wpQuiet_nil ?_
                    intro wq hw'
                    have hbq := grown_of hw'
                    clear hw' x0 x1 x2 x3 x4 x5 f0 f1 f2 f3 q0 q1 q2 q3
                    replace D := Lib.hid (D.out.later hbq)
                    replace hbr := upw hbr hbq
                    clear hbq
                    clear hWs
                    obtain ⟨wb2, hwb2⟩ : ∃ wo : World, wo = wq := ⟨_, rfl⟩
                    subst hwb2
                    go_wp2_with fail
                    obtain ⟨x0, x1, x2, x3, x4, x5⟩ := hX.out _ (D.out.get 5 rfl : Own _ _ _ _ xs).at'
                    obtain ⟨r0, r1, r2, r3⟩ := footC_cells (D.out.get 0 rfl)
                    obtain ⟨q0, q1, q2, q3⟩ := fitC_cells (D.out.get 3 rfl)
                    have hWs := Lib.hid (D.out.get 4 rfl : Own _ _ _ _ q.ws).at'
                    replace x0 := rg x0
                    replace x1 := rg x1
                    replace x2 := rg x2
                    replace x3 := rg x3
                    replace x4 := rg x4
                    replace x5 := rg x5
                    replace r0 := rg r0
                    replace r1 := rg r1
                    replace r2 := rg r2
                    replace r3 := rg r3
                    replace q0 := rg q0
                    replace q1 := rg q1
                    replace q2 := rg q2
                    replace q3 := rg q3
                    refine wp_region_quiet_below (by kernel_rfl) (by kernel_rfl) ?_
                    repeat (go_big_quiet_step ((go_at_call 52; exact Calls.regrown_of (hF2.out _ (hWs.out.below (grown_of ⟨⟨_, _⟩, rfl⟩))))))
                    refine wpQuiet_nil ?_
                    intro wq hw'
                    have hbq := grown_of hw'
                    clear hw' x0 x1 x2 x3 x4 x5 r0 r1 r2 r3 q0 q1 q2 q3
                    replace D := Lib.hid (D.out.later hbq)
                    replace hbr := upw hbr hbq
                    clear hbq
                    clear hWs
                    obtain ⟨wb3, hwb3⟩ : ∃ wo : World, wo = wq := ⟨_, rfl⟩
                    subst hwb3
                    go_wp2_with fail
                    go_roundw
                    case rel => exact ⟨k + 1, by omega, by first | rfl | go_num, by rw [hS.out], by rw [hS.out], hbr⟩
                    case measure => first | (simp [intOf]; done) | (simp [intOf]; omega)

                  · have hCD : decide (C1 + C2 < Lq) = false := by simpa using hCL
                    have hS := Lib.hid (hS2.out hBn (by rw [hCx.out]; exact hCL))
                    clear hBn hCL hS1 hS2
                    go_wp2_with fail
                    obtain ⟨x0, x1, x2, x3, x4, x5⟩ := hX.out _ (D.out.get 5 rfl : Own _ _ _ _ xs).at'
                    obtain ⟨f0, f1, f2, f3⟩ := footC_cells (D.out.get 6 rfl)
                    obtain ⟨q0, q1, q2, q3⟩ := fitC_cells (D.out.get 3 rfl)
                    have hWs := Lib.hid (D.out.get 4 rfl : Own _ _ _ _ q.ws).at'
                    replace x0 := rg x0
                    replace x1 := rg x1
                    replace x2 := rg x2
                    replace x3 := rg x3
                    replace x4 := rg x4
                    replace x5 := rg x5
                    replace f0 := rg f0
                    replace f1 := rg f1
                    replace f2 := rg f2
                    replace f3 := rg f3
                    replace q0 := rg q0
                    replace q1 := rg q1
                    replace q2 := rg q2
                    replace q3 := rg q3
                    refine wp_region_quiet_below (by kernel_rfl) (by kernel_rfl) ?_
                    repeat (go_big_quiet_step ((go_at_call 54; exact Calls.regrown_of (hM.out _ (hWs.out.below (grown_of ⟨⟨_, _⟩, rfl⟩))))))
                    refine wpQuiet_nil ?_
                    intro wq hw'
                    have hbq := grown_of hw'
                    clear hw' x0 x1 x2 x3 x4 x5 f0 f1 f2 f3 q0 q1 q2 q3
                    replace D := Lib.hid (D.out.later hbq)
                    replace hbr := upw hbr hbq
                    clear hbq
                    clear hWs
                    obtain ⟨wb1, hwb1⟩ : ∃ wo : World, wo = wq := ⟨_, rfl⟩
                    subst hwb1
                    go_wp2_with (go_at_call 45; refine (hHas.out _ (D.out.get 2 rfl : Own _ _ _ _ A).at').mono ?_; rintro e w' ⟨rfl, rfl⟩)
                    obtain ⟨x0, x1, x2, x3, x4, x5⟩ := hX.out _ (D.out.get 5 rfl : Own _ _ _ _ xs).at'
                    obtain ⟨f0, f1, f2, f3⟩ := footC_cells (D.out.get 6 rfl)
                    obtain ⟨q0, q1, q2, q3⟩ := fitC_cells (D.out.get 3 rfl)
                    have hWs := Lib.hid (D.out.get 4 rfl : Own _ _ _ _ q.ws).at'
                    replace x0 := rg x0
                    replace x1 := rg x1
                    replace x2 := rg x2
                    replace x3 := rg x3
                    replace x4 := rg x4
                    replace x5 := rg x5
                    replace f0 := rg f0
                    replace f1 := rg f1
                    replace f2 := rg f2
                    replace f3 := rg f3
                    replace q0 := rg q0
                    replace q1 := rg q1
                    replace q2 := rg q2
                    replace q3 := rg q3
                    refine wp_region_quiet_below (by kernel_rfl) (by kernel_rfl) ?_
                    repeat (go_big_quiet_step ((go_at_call 52; exact Calls.regrown_of (hF1.out _ (hWs.out.below (grown_of ⟨⟨_, _⟩, rfl⟩))))))
                    refine wpQuiet_nil ?_
                    intro wq hw'
                    have hbq := grown_of hw'
                    clear hw' x0 x1 x2 x3 x4 x5 f0 f1 f2 f3 q0 q1 q2 q3
                    replace D := Lib.hid (D.out.later hbq)
                    replace hbr := upw hbr hbq
                    clear hbq
                    clear hWs
                    obtain ⟨wb2, hwb2⟩ : ∃ wo : World, wo = wq := ⟨_, rfl⟩
                    subst hwb2
                    go_wp2_with fail
                    obtain ⟨x0, x1, x2, x3, x4, x5⟩ := hX.out _ (D.out.get 5 rfl : Own _ _ _ _ xs).at'
                    obtain ⟨r0, r1, r2, r3⟩ := footC_cells (D.out.get 0 rfl)
                    obtain ⟨q0, q1, q2, q3⟩ := fitC_cells (D.out.get 3 rfl)
                    have hWs := Lib.hid (D.out.get 4 rfl : Own _ _ _ _ q.ws).at'
                    replace x0 := rg x0
                    replace x1 := rg x1
                    replace x2 := rg x2
                    replace x3 := rg x3
                    replace x4 := rg x4
                    replace x5 := rg x5
                    replace r0 := rg r0
                    replace r1 := rg r1
                    replace r2 := rg r2
                    replace r3 := rg r3
                    replace q0 := rg q0
                    replace q1 := rg q1
                    replace q2 := rg q2
                    replace q3 := rg q3
                    refine wp_region_quiet_below (by kernel_rfl) (by kernel_rfl) ?_
                    repeat (go_big_quiet_step ((go_at_call 52; exact Calls.regrown_of (hF2.out _ (hWs.out.below (grown_of ⟨⟨_, _⟩, rfl⟩))))))
                    refine wpQuiet_nil ?_
                    intro wq hw'
                    have hbq := grown_of hw'
                    clear hw' x0 x1 x2 x3 x4 x5 r0 r1 r2 r3 q0 q1 q2 q3
                    replace D := Lib.hid (D.out.later hbq)
                    replace hbr := upw hbr hbq
                    clear hbq
                    clear hWs
                    obtain ⟨wb3, hwb3⟩ : ∃ wo : World, wo = wq := ⟨_, rfl⟩
                    subst hwb3
                    go_wp2_with fail
                    go_roundw
                    case rel => exact ⟨k + 1, by omega, by first | rfl | go_num, by rw [hS.out, hB.out], by rw [hS.out, hLq.out], hbr⟩
                    case measure => first | (simp [intOf]; done) | (simp [intOf]; omega)

          · obtain rfl : k = xs.length := by omega
            have hfin := D.out.up
            have hPC2 := hPC.out
            clear hPC hPk hCk
            generalize (bestTo P C xs.length).1 = B at *
            rcases hPC2 with ⟨h1, h2⟩ | ⟨h1, h2, h3⟩
            · have e1 : decide (B < 0) = true := by simpa using h1
              have e2 : (P2 == 10) = true := by simpa using h2
              clear h1 h2
              go_wp2_with fail
              go_ret
              exact ⟨rfl, hfin⟩
            · have e1 : decide (B < 0) = false := by simp; omega
              have e2 : (P2 == 0) = true := by simpa using h3
              have e3 : decide (0 ≤ B) = true := by simpa using h1
              have e4 : (P1 == B) = true := by simpa using h2
              clear h1 h2 h3
              go_wp2_with fail
              go_ret
              exact ⟨rfl, hfin⟩


end Go.Proofs.Ytlaclknhenccdaa
