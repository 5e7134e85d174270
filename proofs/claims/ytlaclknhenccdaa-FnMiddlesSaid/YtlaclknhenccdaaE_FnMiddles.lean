/- FnMiddles: for all bytes the law returns true, and the bytes read behind the call as before. -/
import Derived.Test.YtlaclknhenccdaaMid6
import Derived.Test.YtlaclknhenccdaaMid8
import Derived.Test.YtlaclknhenccdaaG06
import Derived.Test.YtlaclknhenccdaaA2
namespace Go.Proofs.Ytlaclknhenccdaa
open Go.ChangeShapes Go.WideShapes Go.ChangeAt Go.RowKit

theorem near_okM {f : Foot} (h : NearF f) : okFoot f = true := by
  rw [okFoot_iff]
  have h1 := h.length; have h2 := h.ball; have h3 := h.instep; have h4 := h.heel
  omega
theorem a2Size_c (n : Int) (w : World) (h : -9223372036854775807 ≤ n ∧ n ≤ 9223372036854775807) : Calls Try.prog 44 #[.int .i64 n] w fun e w' => e = .returned (.int .i64 (size n)) ∧ w = w' := by
  have hs : (n < 0 → size n = -n) ∧ (¬ n < 0 → size n = n) := by unfold size; omega
  by_cases h0 : n < 0
  · rw [hs.1 h0]
    clear hs
    go_enter Try.func44, Try.ntmps44
    go_wp2_with fail
    go_ret
    exact ⟨rfl, rfl⟩
  · rw [hs.2 h0]
    clear hs
    go_enter Try.func44, Try.ntmps44
    go_wp2_with fail
    go_ret
    exact ⟨rfl, rfl⟩
set_option maxHeartbeats 800000 in
theorem a2Rises_ok (a : Option Addr) (xs : List Int) (c : Nat) (n : Int) (w : World) (hx : At w a xs) (hl : xs.length ≤ 1000000) (_hn : n ≤ 1000000) (hr : xs.Pairwise (· < ·)) (hb : ∀ x ∈ xs, 0 ≤ x ∧ x < n) :
    Calls Try.prog 43 #[.slice a xs.length c, .int .i64 n] w fun e w' => e = .returned (.bool true) ∧ Below w.heap.size w w' := by
  have hp := Lib.hid (List.pairwise_iff_getElem.1 hr)
  replace hb := Lib.hid hb
  clear hr
  go_enter Try.func43, Try.ntmps43
  go_wp2_with fail
  go_loopw [5] (fun i wr => ∃ k : Nat, k ≤ xs.length ∧ i = .int .i64 k ∧ Below w.heap.size w wr) (fun i _ => xs.length - (intOf i).toNat)
  case atStart => exact ⟨0, Nat.zero_le _, rfl, Below.refl _ _⟩
  case round =>
    obtain ⟨k, hk, rfl, hB⟩ := hrel
    by_cases hlt : k < xs.length
    · have hM := hx.below hB
      obtain ⟨bq, oq, hq⟩ := hM.addr hlt
      subst hq
      have d0 := rg (hM.int hlt)
      have q0 := hb.out _ (List.getElem_mem hlt)
      by_cases hk0 : 0 < k
      · have hk1 : k - 1 < xs.length := by omega
        have d1 := rg (hM.int hk1)
        have q1 := hp.out (k - 1) k hk1 hlt (by omega)
        have hkI : (k : Int) - 1 = ((k - 1 : Nat) : Int) := by omega
        generalize xs[k] = X at *
        generalize xs[k - 1] = Y at *
        have s0 : decide (X < 0) = false := by simp; omega
        have s1 : decide (n ≤ X) = false := by simp; omega
        have s2 : decide (X ≤ Y) = false := by simp; omega
        have s3 : decide (0 < k) = true := by simpa using hk0
        clear q0 q1 hM
        go_wp2_with fail
        refine wp_region_quiet_below (by kernel_rfl) (by kernel_rfl) ?_
        repeat (go_big_quiet_step (fail))
        refine wpQuiet_nil ?_
        intro wq hw'
        have hB2 := upw hB (grown_of hw')
        clear hw'
        go_wp2_with fail
        go_roundw
        case rel => exact ⟨k + 1, by omega, by first | rfl | go_num, hB2⟩
        case measure => first | (simp [intOf]; done) | (simp [intOf]; omega)
      · obtain rfl : k = 0 := by omega
        generalize xs[0] = X at *
        have s0 : decide (X < 0) = false := by simp; omega
        have s1 : decide (n ≤ X) = false := by simp; omega
        rw [Nat.add_zero] at d0
        clear q0 hM
        go_wp2_with fail
        refine wp_region_quiet_below (by kernel_rfl) (by kernel_rfl) ?_
        repeat (go_big_quiet_step (fail))
        refine wpQuiet_nil ?_
        intro wq hw'
        have hB2 := upw hB (grown_of hw')
        clear hw'
        go_wp2_with fail
        go_roundw
        case rel => exact ⟨1, by omega, by first | rfl | go_num, hB2⟩
        case measure => first | (simp [intOf]; done) | (simp [intOf]; omega)
    · go_wp2_with fail
      go_ret
      exact ⟨rfl, hB⟩
theorem foot_same (a b c d : Int) (w : World) : (binOp .eql 62 (.agg #[.int .i64 a, .int .i64 b, .int .i64 c, .int .i64 d]) (.agg #[.int .i64 a, .int .i64 b, .int .i64 c, .int .i64 d])).run Try.prog w = .ok (.bool true) w := by
  simp [go_sem]
attribute [local go_sem ↓] foot_same
theorem run_max4 (P : Program) (ts : Array TypeId) (t : TypeId) (a b c d : Int) (w : World) : (Builtin.max_ ts t #[.int .i64 a, .int .i64 b, .int .i64 c, .int .i64 d]).run P w = .ok (.int .i64 (max a (max b (max c d)))) w := by
  have hm : ∀ a b : Int, (if a < b then b else a) = max a b := fun a b => by split <;> omega
  simp [Builtin.max_, Builtin.max2, go_sem, hm]
theorem count_col (fs : List Foot) (p : Int → Bool) : fs.countP (fun f => p f.Length) = (col 0 fs).countP p := by
  unfold col; rw [List.countP_map]; rfl
theorem countP_snocF {α : Type} (p : α → Bool) (xs : List α) (k : Nat) (h : k < xs.length) : (xs.take (k + 1)).countP p = (xs.take k).countP p + if p xs[k] then 1 else 0 := by
  rw [List.take_succ_eq_append_getElem h, List.countP_append, List.countP_singleton]
theorem near_take {fs : List Foot} {p : Foot → Bool} {k : Nat} (h : k < fs.length) : (fs.take (k + 1)).filter p = (fs.take k).filter p ++ if p fs[k] then [fs[k]] else [] := by
  rw [List.take_succ_eq_append_getElem h, List.filter_append]
  cases hp : p fs[k] <;> simp [hp]
set_option maxRecDepth 100000 in
set_option maxHeartbeats 8000000 in
theorem lawMiddles (a : Option Addr) (L : List UInt8) (c : Nat) (a' : Option Addr) (M : List UInt8) (c' : Nat) (w : World) (hx : At w a L) (hlx : L.length ≤ 9223372036854775807) (hy : At w a' M) (hly : M.length ≤ 9223372036854775807) :
    Calls Try.prog 5 #[.slice a L.length c, .slice a' M.length c'] w fun e w' => e = .returned (.bool true) ∧ Below w.heap.size w w' := by
  have hlong := a2Long_c a a' L M c c' w
  by_cases hg : 3000 < L.length ∨ 3000 < M.length
  · have e : (decide (3000 < L.length) || decide (3000 < M.length)) = true := by simpa using hg
    rw [e] at hlong
    go_enter Try.func5, Try.ntmps5
    go_wp2_with (go_at_call 37; refine hlong.mono ?_; rintro e w1 ⟨rfl, rfl⟩)
    go_ret
    exact ⟨rfl, Below.refl _ _⟩
  · have e : (decide (3000 < L.length) || decide (3000 < M.length)) = false := by simp; omega
    rw [e] at hlong
    have hM3 : M.length ≤ 3000 := by omega
    clear e hg
    go_enter Try.func5, Try.ntmps5
    go_wp2_with fail
    refine hlong.mono ?_
    rintro e w1 ⟨rfl, rfl⟩
    go_wp2_with fail
    refine (A2Feet_c a L c w hx hlx).mono ?_
    rintro e w1 ⟨v1, fs, rfl, hO1, hnear, ⟨hf1, hf8⟩, hb1⟩
    obtain ⟨a1, c1, rfl, hA1⟩ := hO1.at
    have hv : ∀ f ∈ fs, okFoot f = true := fun f hf => near_okM (hnear f hf)
    go_wp2_with fail
    refine (a2At_c a' M c' 0 60 w1 (hy.below hb1) hM3 (by omega) (by omega) (by omega)).mono ?_
    rintro e w2 ⟨m, rfl, m0, m1, rfl⟩
    have hm : 0 ≤ m ∧ m ≤ 59 := by omega
    have hb := hb1
    clear m0 m1 hO1 hb1 hlong hx hy hnear
    have hA0 := hA1
    have hC1 := Lib.hid (fun w' h => implMiddleFoot_ok a1 fs c1 w' h (by omega) hf1 hv)
    have hC2 := Lib.hid (fun w' h => farFeet_ok a1 fs c1 m w' h (by omega) hf1 hv (by omega))
    have hC3 := Lib.hid (fun w' h => joinFeet_ok a1 fs c1 m w' h (by omega) hf1 hv (by omega))
    have hmok := Lib.hid (mid_ok hv hf1)
    have hlaw := Lib.hid (mid_law (xs := col 0 fs) (by rw [col_length]; exact hf1))
    have hJF := Lib.hid (show ∀ N, N = nearL fs (midFoot fs) m → joinF' fs m = (if N.length = 0 then ⟨0, 0, 0, 0⟩ else midFoot N) ∧ joinC fs m = (if N.length = 0 then 9 else 0) from fun N h => by rw [h]; exact ⟨rfl, rfl⟩)
    have hgl := Lib.hid (show midOf (col 0 fs) = (midFoot fs).Length from rfl)
    obtain ⟨g, hge⟩ : ∃ g, g = midFoot fs := ⟨_, rfl⟩
    rw [← hge] at hC1 hC2 hmok hJF hgl
    clear hge
    obtain ⟨J, hJ⟩ : ∃ J, J = joinF' fs m := ⟨_, rfl⟩
    obtain ⟨jc, hjc⟩ : ∃ jc, jc = joinC fs m := ⟨_, rfl⟩
    rw [← hJ] at hC3 hJF
    rw [← hjc] at hC3 hJF
    clear hJ hjc
    replace hv := Lib.hid hv
    go_wp2_with fail
    refine (hC1.out _ hA1).mono ?_
    rintro e w3 ⟨rfl, hb3⟩
    obtain ⟨w4, hw4⟩ : ∃ w4, w4 = w3.alloc (.cells #[.int .i64 g.Length, .int .i64 g.Ball, .int .i64 g.Instep, .int .i64 g.Heel] 62) := ⟨_, rfl⟩
    have hb4 : Below w3.heap.size w3 w4 := by rw [hw4]; exact newB _ _
    have V : Own w3.heap.size w4 62 (.slice (some ⟨w3.heap.size, 0, none⟩) 4 4) (footC g) := by rw [hw4]; exact own_footC w3 _ g
    have D := Lib.hid (((Sp.refl w1).later hb3).add hb4 V)
    replace hA1 := hA1.below (upw hb3 hb4)
    replace hw4 := Lib.hid hw4
    obtain ⟨n3, hn3⟩ : ∃ n3, n3 = w3.heap.size := ⟨_, rfl⟩
    rw [← hn3] at D
    clear hb3 hb4 V
    go_wp2_with (rw [← hw4.out])
    rw [← hn3]
    clear hn3 hw4 hC1
    refine (hC2.out _ hA1).mono ?_
    rintro e w5 ⟨v5, rfl, hO5, hb5⟩
    obtain ⟨a5, c5, rfl⟩ := own_slice hO5
    replace D := Lib.hid (D.out.add hb5 hO5)
    replace hA1 := hA1.below hb5
    clear hb5 hO5 hC2
    have hIl := idxTo_length (farI fs g m) fs.length
    have hIr := Lib.hid (idxTo_rises (farI fs g m) fs.length)
    have hIm := Lib.hid (fun x => idxTo_mem (p := farI fs g m) (n := fs.length) (x := x))
    obtain ⟨I, hIe⟩ : ∃ I, I = idxTo (farI fs g m) fs.length := ⟨_, rfl⟩
    rw [← hIe] at D hIl hIr
    simp only [← hIe] at hIm
    rw [← hIe]
    clear hIe
    go_wp2_with fail
    refine (hC3.out _ hA1).mono ?_
    rintro e w6 ⟨rfl, hb6⟩
    obtain ⟨w7, hw7⟩ : ∃ w7, w7 = w6.alloc (.cells #[.int .i64 J.Length, .int .i64 J.Ball, .int .i64 J.Instep, .int .i64 J.Heel] 62) := ⟨_, rfl⟩
    have hb7 : Below w6.heap.size w6 w7 := by rw [hw7]; exact newB _ _
    have V : Own w6.heap.size w7 62 (.slice (some ⟨w6.heap.size, 0, none⟩) 4 4) (footC J) := by rw [hw7]; exact own_footC w6 _ J
    replace D := Lib.hid ((D.out.later hb6).add hb7 V)
    replace hw7 := Lib.hid hw7
    obtain ⟨n6, hn6⟩ : ∃ n6, n6 = w6.heap.size := ⟨_, rfl⟩
    rw [← hn6] at D
    clear hb6 hb7 V hC3
    go_wp2_with (rw [← hw7.out])
    rw [← hn6]
    clear hn6 hw7
    refine (a2Rises_ok a5 I c5 fs.length w7 (D.out.get 1 rfl).at' (by omega) (by omega) hIr.out (fun x hxI => by obtain ⟨i, hi, _, rfl⟩ := (hIm.out x).1 hxI; omega)).mono ?_
    rintro e w8 ⟨rfl, hb8⟩
    replace D := Lib.hid (D.out.later hb8)
    clear hb8
    obtain ⟨w9, hw9⟩ : ∃ w9, w9 = w8.alloc (.cells #[] 62) := ⟨_, rfl⟩
    have D9 := D.out.add (newB w8 (.cells #[] 62)) (own_new (α := Foot) w8 62)
    rw [← hw9] at D9
    replace D := Lib.hid D9
    have hb9 : Below w8.heap.size w8 w9 := by rw [hw9]; exact newB _ _
    replace hw9 := Lib.hid hw9
    obtain ⟨n8, hn8⟩ : ∃ n8, n8 = w8.heap.size := ⟨_, rfl⟩
    rw [← hn8] at D
    clear hb9 D9
    go_wp2_with (rw [← hw9.out])
    rw [← hn8]
    clear hn8 hw9
    go_loopw [13, 14, 15, 16, 17, 18] (fun p q v i _ _ wr => ∃ k : Nat, k ≤ fs.length ∧ i = .int .i64 k ∧ p = .int .i64 ((fs.take k).countP (fun f => decide (f.Length < g.Length)) : Nat) ∧ q = .int .i64 ((fs.take k).countP (fun f => decide (g.Length < f.Length)) : Nat) ∧ Hid (Sp w1 wr [ite' 62 v ((fs.take k).filter fun f => !farB f g m), ite' 62 (.slice (some ⟨n6, 0, none⟩) 4 4) (footC J), ite' 2 (.slice a5 I.length c5) I, ite' 62 (.slice (some ⟨n3, 0, none⟩) 4 4) (footC g)])) (fun _ _ _ i _ _ _ => fs.length - (intOf i).toNat)
    case atStart => exact ⟨0, Nat.zero_le _, rfl, rfl, rfl, D⟩
    case round =>
      clear D
      obtain ⟨k, hk, rfl, rfl, rfl, D⟩ := hrel
      obtain ⟨wa, hwa⟩ : ∃ wo : World, wo = wr := ⟨_, rfl⟩
      subst hwa
      have hxa := hA0.below D.out.up
      by_cases hlt : k < fs.length
      · obtain ⟨b, off, ha⟩ := hxa.addr hlt
        subst ha
        obtain ⟨x0, x1, x2, x3⟩ := hxa.foot hlt
        have hfo := hv.out _ (List.getElem_mem hlt)
        have hE1 := Lib.hid (countP_snocF (fun f : Foot => decide (f.Length < g.Length)) fs k hlt)
        have hE2 := Lib.hid (countP_snocF (fun f : Foot => decide (g.Length < f.Length)) fs k hlt)
        have hE3 := Lib.hid (near_take (p := fun f => !farB f g m) hlt)
        have hF := farI_get (g := g) (m := m) hlt
        have hcl1 := List.countP_le_length (p := fun f : Foot => decide (f.Length < g.Length)) (l := fs.take k)
        have hcl2 := List.countP_le_length (p := fun f : Foot => decide (g.Length < f.Length)) (l := fs.take k)
        have hLl := List.length_filter_le (fun f => !farB f g m) (fs.take k)
        have htk := List.length_take_le k fs
        have hhas := Lib.hid (show decide ((k : Int) ∈ I) = farB fs[k] g m by
          rw [← hF]
          cases hfi : farI fs g m k with
          | true => simp only [decide_eq_true_eq]; exact (hIm.out _).2 ⟨k, hlt, hfi, rfl⟩
          | false =>
            simp only [decide_eq_false_iff_not]
            intro h
            obtain ⟨i, _, h2, h3⟩ := (hIm.out _).1 h
            obtain rfl : k = i := by omega
            rw [hfi] at h2; cases h2)
        have hmax := Lib.hid (farB_max fs[k] g m)
        obtain ⟨f, hf⟩ : ∃ f, f = fs[k] := ⟨_, rfl⟩
        rw [← hf] at x0 x1 x2 x3 hfo hE1 hE2 hE3 hhas hmax
        clear hf hF
        obtain ⟨P, hP⟩ : ∃ P, P = (fs.take k).countP (fun f => decide (f.Length < g.Length)) := ⟨_, rfl⟩
        obtain ⟨Q, hQ⟩ : ∃ Q, Q = (fs.take k).countP (fun f => decide (g.Length < f.Length)) := ⟨_, rfl⟩
        obtain ⟨N, hN⟩ : ∃ N, N = (fs.take k).filter (fun f => !farB f g m) := ⟨_, rfl⟩
        rw [← hP] at hE1 hcl1 ⊢
        rw [← hQ] at hE2 hcl2 ⊢
        rw [← hN] at hE3 hLl D
        clear hP hQ hN
        have hNl : N.length + 1 ≤ 4294967296 := by omega
        have hPl : P ≤ 8 := by omega
        have hQl : Q ≤ 8 := by omega
        clear hcl1 hcl2 hLl htk
        obtain ⟨w5', hw5⟩ : ∃ w5, w5 = wa.alloc (.cells #[.int .i64 f.Length, .int .i64 f.Ball, .int .i64 f.Instep, .int .i64 f.Heel] 62) := ⟨_, rfl⟩
        have hb5 : Below wa.heap.size wa w5' := by rw [hw5]; exact newB _ _
        have V : Own wa.heap.size w5' 62 (.slice (some ⟨wa.heap.size, 0, none⟩) 4 4) (footC f) := by rw [hw5]; exact own_footC wa _ f
        obtain ⟨y0, y1, y2, y3⟩ := footC_cells V
        replace D := Lib.hid (D.out.later hb5)
        obtain ⟨z0, z1, z2, z3⟩ := footC_cells (D.out.get 3 rfl)
        replace hw5 := Lib.hid hw5
        clear hb5 V hxa
        rw [okFoot_iff] at hfo
        have hgo := hmok.out
        rw [okFoot_iff] at hgo
        have b0 : -4500 ≤ f.Length - g.Length ∧ f.Length - g.Length ≤ 4500 := by omega
        have b1 : -4500 ≤ f.Ball - g.Ball ∧ f.Ball - g.Ball ≤ 4500 := by omega
        have b2 : -4500 ≤ f.Instep - g.Instep ∧ f.Instep - g.Instep ≤ 4500 := by omega
        have b3 : -4500 ≤ f.Heel - g.Heel ∧ f.Heel - g.Heel ≤ 4500 := by omega
        clear hgo hfo
        have y0r := rg y0
        have y1r := rg y1
        have y2r := rg y2
        have y3r := rg y3
        have z0r := rg z0
        have z1r := rg z1
        have z2r := rg z2
        have z3r := rg z3
        have r0 : IntKind.i64.wrap (f.Length - g.Length) = f.Length - g.Length := IntWalk.i64_in _ (by omega)
        have r1 : IntKind.i64.wrap (f.Ball - g.Ball) = f.Ball - g.Ball := IntWalk.i64_in _ (by omega)
        have r2 : IntKind.i64.wrap (f.Instep - g.Instep) = f.Instep - g.Instep := IntWalk.i64_in _ (by omega)
        have r3 : IntKind.i64.wrap (f.Heel - g.Heel) = f.Heel - g.Heel := IntWalk.i64_in _ (by omega)
        have hmx := run_max4 Try.prog
        by_cases h1 : f.Length < g.Length
        · have h2 : ¬ g.Length < f.Length := by omega
          cases hfar : farB f g m
          · have e1 : Hid ((fs.take (k + 1)).countP (fun f => decide (f.Length < g.Length)) = P + 1) := Lib.hid (by rw [hE1.out]; simp [h1])
            have e2 : Hid ((fs.take (k + 1)).countP (fun f => decide (g.Length < f.Length)) = Q) := Lib.hid (by rw [hE2.out]; simp [h2])
            have e3 : Hid ((fs.take (k + 1)).filter (fun f => !farB f g m) = N ++ [f]) := Lib.hid (by rw [hE3.out]; simp [hfar])
            have hhas2 := hhas.out
            rw [hfar] at hhas2
            have hmx2 := hmax.out
            rw [hfar] at hmx2
            replace hmx2 := Lib.hid hmx2
            replace hfar := Lib.hid hfar
            replace hhas2 := Lib.hid hhas2
            go_wp2_with (rw [← hw5.out])
            refine wp_region_quiet_below (by kernel_rfl) (by kernel_rfl) ?_
            repeat (go_big_quiet_step ((go_at_call 44; exact Calls.regrown_same (a2Size_c _ _ (by omega)))))
            refine wpQuiet_nil ?_
            intro wq hw'
            have hG := grown_of hw'
            replace D := Lib.hid (D.out.later hG)
            replace y0 := kept_cell y0 hG
            replace y1 := kept_cell y1 hG
            replace y2 := kept_cell y2 hG
            replace y3 := kept_cell y3 hG
            clear hw' hG y0r y1r y2r y3r z0r z1r z2r z3r r0 r1 r2 r3 z0 z1 z2 z3 hmx x0 x1 x2 x3
            replace hmx2 := hmx2.out
            generalize max (size (f.Length - g.Length)) (max (size (f.Ball - g.Ball)) (max (size (f.Instep - g.Instep)) (size (f.Heel - g.Heel)))) = Z at *
            have hHas := Lib.hid (fun w' h => a2Has_c a5 I c5 (k : Int) w' h (by omega))
            rw [hhas2.out] at hHas
            have t1 : ¬ m < Z := by simpa using hmx2.symm
            have t2 : Z ≤ m := by omega
            clear hmx2
            have hsz := D.out.up.size
            go_wp2_with (first | ((with_reducible refine (hHas.out _ (D.out.get 2 rfl).at').mono ?_); rintro e w' ⟨rfl, rfl⟩) | (at_builtin; refine wpList_pushTo rfl (.tmp 118) (.tmp 120) 58 rfl w1.heap.size 62 (.agg #[.int .i64 0, .int .i64 0, .int .i64 0, .int .i64 0]) 32 Try.underlying58 infoFoot rfl _ N f rfl ((D.out.get 0 rfl).later (newB _ _)) _ _ rfl 62 (heap_alloc_new _ _) hNl (by decide) (by simp; omega) ?_; intro g' cap w8 hO8 hg8 hl8))
            have D8 := Lib.hid ((D.out.later (newB _ _)).push 0 rfl hO8 hg8 hl8)
            go_roundw
            case rel => exact ⟨k + 1, by omega, by first | rfl | go_num, by first | (rw [e1.out]; done) | (rw [e1.out]; go_num), by first | (rw [e2.out]; done) | (rw [e2.out]; go_num), Lib.hid (by rw [e3.out]; exact D8.out)⟩
            case measure => first | (simp [intOf]; done) | (simp [intOf]; omega)
          · have e1 : Hid ((fs.take (k + 1)).countP (fun f => decide (f.Length < g.Length)) = P + 1) := Lib.hid (by rw [hE1.out]; simp [h1])
            have e2 : Hid ((fs.take (k + 1)).countP (fun f => decide (g.Length < f.Length)) = Q) := Lib.hid (by rw [hE2.out]; simp [h2])
            have e3 : Hid ((fs.take (k + 1)).filter (fun f => !farB f g m) = N) := Lib.hid (by rw [hE3.out]; simp [hfar])
            have hhas2 := hhas.out
            rw [hfar] at hhas2
            have hmx2 := hmax.out
            rw [hfar] at hmx2
            replace hmx2 := Lib.hid hmx2
            replace hfar := Lib.hid hfar
            replace hhas2 := Lib.hid hhas2
            go_wp2_with (rw [← hw5.out])
            refine wp_region_quiet_below (by kernel_rfl) (by kernel_rfl) ?_
            repeat (go_big_quiet_step ((go_at_call 44; exact Calls.regrown_same (a2Size_c _ _ (by omega)))))
            refine wpQuiet_nil ?_
            intro wq hw'
            have hG := grown_of hw'
            replace D := Lib.hid (D.out.later hG)
            replace y0 := kept_cell y0 hG
            replace y1 := kept_cell y1 hG
            replace y2 := kept_cell y2 hG
            replace y3 := kept_cell y3 hG
            clear hw' hG y0r y1r y2r y3r z0r z1r z2r z3r r0 r1 r2 r3 z0 z1 z2 z3 hmx x0 x1 x2 x3
            replace hmx2 := hmx2.out
            generalize max (size (f.Length - g.Length)) (max (size (f.Ball - g.Ball)) (max (size (f.Instep - g.Instep)) (size (f.Heel - g.Heel)))) = Z at *
            have hHas := Lib.hid (fun w' h => a2Has_c a5 I c5 (k : Int) w' h (by omega))
            rw [hhas2.out] at hHas
            have t1 : m < Z := by simpa using hmx2
            have t2 : ¬ Z ≤ m := by omega
            clear hmx2
            go_wp2_with ((with_reducible refine (hHas.out _ (D.out.get 2 rfl).at').mono ?_); rintro e w' ⟨rfl, rfl⟩)
            go_roundw
            case rel => exact ⟨k + 1, by omega, by first | rfl | go_num, by first | (rw [e1.out]; done) | (rw [e1.out]; go_num), by first | (rw [e2.out]; done) | (rw [e2.out]; go_num), Lib.hid (by rw [e3.out]; exact D.out)⟩
            case measure => first | (simp [intOf]; done) | (simp [intOf]; omega)
        · by_cases h2 : g.Length < f.Length
          · cases hfar : farB f g m
            · have e1 : Hid ((fs.take (k + 1)).countP (fun f => decide (f.Length < g.Length)) = P) := Lib.hid (by rw [hE1.out]; simp [h1])
              have e2 : Hid ((fs.take (k + 1)).countP (fun f => decide (g.Length < f.Length)) = Q + 1) := Lib.hid (by rw [hE2.out]; simp [h2])
              have e3 : Hid ((fs.take (k + 1)).filter (fun f => !farB f g m) = N ++ [f]) := Lib.hid (by rw [hE3.out]; simp [hfar])
              have hhas2 := hhas.out
              rw [hfar] at hhas2
              have hmx2 := hmax.out
              rw [hfar] at hmx2
              replace hmx2 := Lib.hid hmx2
              replace hfar := Lib.hid hfar
              replace hhas2 := Lib.hid hhas2
              go_wp2_with (rw [← hw5.out])
              refine wp_region_quiet_below (by kernel_rfl) (by kernel_rfl) ?_
              repeat (go_big_quiet_step ((go_at_call 44; exact Calls.regrown_same (a2Size_c _ _ (by omega)))))
              refine wpQuiet_nil ?_
              intro wq hw'
              have hG := grown_of hw'
              replace D := Lib.hid (D.out.later hG)
              replace y0 := kept_cell y0 hG
              replace y1 := kept_cell y1 hG
              replace y2 := kept_cell y2 hG
              replace y3 := kept_cell y3 hG
              clear hw' hG y0r y1r y2r y3r z0r z1r z2r z3r r0 r1 r2 r3 z0 z1 z2 z3 hmx x0 x1 x2 x3
              replace hmx2 := hmx2.out
              generalize max (size (f.Length - g.Length)) (max (size (f.Ball - g.Ball)) (max (size (f.Instep - g.Instep)) (size (f.Heel - g.Heel)))) = Z at *
              have hHas := Lib.hid (fun w' h => a2Has_c a5 I c5 (k : Int) w' h (by omega))
              rw [hhas2.out] at hHas
              have t1 : ¬ m < Z := by simpa using hmx2.symm
              have t2 : Z ≤ m := by omega
              clear hmx2
              have hsz := D.out.up.size
              go_wp2_with (first | ((with_reducible refine (hHas.out _ (D.out.get 2 rfl).at').mono ?_); rintro e w' ⟨rfl, rfl⟩) | (at_builtin; refine wpList_pushTo rfl (.tmp 118) (.tmp 120) 58 rfl w1.heap.size 62 (.agg #[.int .i64 0, .int .i64 0, .int .i64 0, .int .i64 0]) 32 Try.underlying58 infoFoot rfl _ N f rfl ((D.out.get 0 rfl).later (newB _ _)) _ _ rfl 62 (heap_alloc_new _ _) hNl (by decide) (by simp; omega) ?_; intro g' cap w8 hO8 hg8 hl8))
              have D8 := Lib.hid ((D.out.later (newB _ _)).push 0 rfl hO8 hg8 hl8)
              go_roundw
              case rel => exact ⟨k + 1, by omega, by first | rfl | go_num, by first | (rw [e1.out]; done) | (rw [e1.out]; go_num), by first | (rw [e2.out]; done) | (rw [e2.out]; go_num), Lib.hid (by rw [e3.out]; exact D8.out)⟩
              case measure => first | (simp [intOf]; done) | (simp [intOf]; omega)
            · have e1 : Hid ((fs.take (k + 1)).countP (fun f => decide (f.Length < g.Length)) = P) := Lib.hid (by rw [hE1.out]; simp [h1])
              have e2 : Hid ((fs.take (k + 1)).countP (fun f => decide (g.Length < f.Length)) = Q + 1) := Lib.hid (by rw [hE2.out]; simp [h2])
              have e3 : Hid ((fs.take (k + 1)).filter (fun f => !farB f g m) = N) := Lib.hid (by rw [hE3.out]; simp [hfar])
              have hhas2 := hhas.out
              rw [hfar] at hhas2
              have hmx2 := hmax.out
              rw [hfar] at hmx2
              replace hmx2 := Lib.hid hmx2
              replace hfar := Lib.hid hfar
              replace hhas2 := Lib.hid hhas2
              go_wp2_with (rw [← hw5.out])
              refine wp_region_quiet_below (by kernel_rfl) (by kernel_rfl) ?_
              repeat (go_big_quiet_step ((go_at_call 44; exact Calls.regrown_same (a2Size_c _ _ (by omega)))))
              refine wpQuiet_nil ?_
              intro wq hw'
              have hG := grown_of hw'
              replace D := Lib.hid (D.out.later hG)
              replace y0 := kept_cell y0 hG
              replace y1 := kept_cell y1 hG
              replace y2 := kept_cell y2 hG
              replace y3 := kept_cell y3 hG
              clear hw' hG y0r y1r y2r y3r z0r z1r z2r z3r r0 r1 r2 r3 z0 z1 z2 z3 hmx x0 x1 x2 x3
              replace hmx2 := hmx2.out
              generalize max (size (f.Length - g.Length)) (max (size (f.Ball - g.Ball)) (max (size (f.Instep - g.Instep)) (size (f.Heel - g.Heel)))) = Z at *
              have hHas := Lib.hid (fun w' h => a2Has_c a5 I c5 (k : Int) w' h (by omega))
              rw [hhas2.out] at hHas
              have t1 : m < Z := by simpa using hmx2
              have t2 : ¬ Z ≤ m := by omega
              clear hmx2
              go_wp2_with ((with_reducible refine (hHas.out _ (D.out.get 2 rfl).at').mono ?_); rintro e w' ⟨rfl, rfl⟩)
              go_roundw
              case rel => exact ⟨k + 1, by omega, by first | rfl | go_num, by first | (rw [e1.out]; done) | (rw [e1.out]; go_num), by first | (rw [e2.out]; done) | (rw [e2.out]; go_num), Lib.hid (by rw [e3.out]; exact D.out)⟩
              case measure => first | (simp [intOf]; done) | (simp [intOf]; omega)
          · cases hfar : farB f g m
            · have e1 : Hid ((fs.take (k + 1)).countP (fun f => decide (f.Length < g.Length)) = P) := Lib.hid (by rw [hE1.out]; simp [h1])
              have e2 : Hid ((fs.take (k + 1)).countP (fun f => decide (g.Length < f.Length)) = Q) := Lib.hid (by rw [hE2.out]; simp [h2])
              have e3 : Hid ((fs.take (k + 1)).filter (fun f => !farB f g m) = N ++ [f]) := Lib.hid (by rw [hE3.out]; simp [hfar])
              have hhas2 := hhas.out
              rw [hfar] at hhas2
              have hmx2 := hmax.out
              rw [hfar] at hmx2
              replace hmx2 := Lib.hid hmx2
              replace hfar := Lib.hid hfar
              replace hhas2 := Lib.hid hhas2
              go_wp2_with (rw [← hw5.out])
              refine wp_region_quiet_below (by kernel_rfl) (by kernel_rfl) ?_
              repeat (go_big_quiet_step ((go_at_call 44; exact Calls.regrown_same (a2Size_c _ _ (by omega)))))
              refine wpQuiet_nil ?_
              intro wq hw'
              have hG := grown_of hw'
              replace D := Lib.hid (D.out.later hG)
              replace y0 := kept_cell y0 hG
              replace y1 := kept_cell y1 hG
              replace y2 := kept_cell y2 hG
              replace y3 := kept_cell y3 hG
              clear hw' hG y0r y1r y2r y3r z0r z1r z2r z3r r0 r1 r2 r3 z0 z1 z2 z3 hmx x0 x1 x2 x3
              replace hmx2 := hmx2.out
              generalize max (size (f.Length - g.Length)) (max (size (f.Ball - g.Ball)) (max (size (f.Instep - g.Instep)) (size (f.Heel - g.Heel)))) = Z at *
              have hHas := Lib.hid (fun w' h => a2Has_c a5 I c5 (k : Int) w' h (by omega))
              rw [hhas2.out] at hHas
              have t1 : ¬ m < Z := by simpa using hmx2.symm
              have t2 : Z ≤ m := by omega
              clear hmx2
              have hsz := D.out.up.size
              go_wp2_with (first | ((with_reducible refine (hHas.out _ (D.out.get 2 rfl).at').mono ?_); rintro e w' ⟨rfl, rfl⟩) | (at_builtin; refine wpList_pushTo rfl (.tmp 118) (.tmp 120) 58 rfl w1.heap.size 62 (.agg #[.int .i64 0, .int .i64 0, .int .i64 0, .int .i64 0]) 32 Try.underlying58 infoFoot rfl _ N f rfl ((D.out.get 0 rfl).later (newB _ _)) _ _ rfl 62 (heap_alloc_new _ _) hNl (by decide) (by simp; omega) ?_; intro g' cap w8 hO8 hg8 hl8))
              have D8 := Lib.hid ((D.out.later (newB _ _)).push 0 rfl hO8 hg8 hl8)
              go_roundw
              case rel => exact ⟨k + 1, by omega, by first | rfl | go_num, by first | (rw [e1.out]; done) | (rw [e1.out]; go_num), by first | (rw [e2.out]; done) | (rw [e2.out]; go_num), Lib.hid (by rw [e3.out]; exact D8.out)⟩
              case measure => first | (simp [intOf]; done) | (simp [intOf]; omega)
            · have e1 : Hid ((fs.take (k + 1)).countP (fun f => decide (f.Length < g.Length)) = P) := Lib.hid (by rw [hE1.out]; simp [h1])
              have e2 : Hid ((fs.take (k + 1)).countP (fun f => decide (g.Length < f.Length)) = Q) := Lib.hid (by rw [hE2.out]; simp [h2])
              have e3 : Hid ((fs.take (k + 1)).filter (fun f => !farB f g m) = N) := Lib.hid (by rw [hE3.out]; simp [hfar])
              have hhas2 := hhas.out
              rw [hfar] at hhas2
              have hmx2 := hmax.out
              rw [hfar] at hmx2
              replace hmx2 := Lib.hid hmx2
              replace hfar := Lib.hid hfar
              replace hhas2 := Lib.hid hhas2
              go_wp2_with (rw [← hw5.out])
              refine wp_region_quiet_below (by kernel_rfl) (by kernel_rfl) ?_
              repeat (go_big_quiet_step ((go_at_call 44; exact Calls.regrown_same (a2Size_c _ _ (by omega)))))
              refine wpQuiet_nil ?_
              intro wq hw'
              have hG := grown_of hw'
              replace D := Lib.hid (D.out.later hG)
              replace y0 := kept_cell y0 hG
              replace y1 := kept_cell y1 hG
              replace y2 := kept_cell y2 hG
              replace y3 := kept_cell y3 hG
              clear hw' hG y0r y1r y2r y3r z0r z1r z2r z3r r0 r1 r2 r3 z0 z1 z2 z3 hmx x0 x1 x2 x3
              replace hmx2 := hmx2.out
              generalize max (size (f.Length - g.Length)) (max (size (f.Ball - g.Ball)) (max (size (f.Instep - g.Instep)) (size (f.Heel - g.Heel)))) = Z at *
              have hHas := Lib.hid (fun w' h => a2Has_c a5 I c5 (k : Int) w' h (by omega))
              rw [hhas2.out] at hHas
              have t1 : m < Z := by simpa using hmx2
              have t2 : ¬ Z ≤ m := by omega
              clear hmx2
              go_wp2_with ((with_reducible refine (hHas.out _ (D.out.get 2 rfl).at').mono ?_); rintro e w' ⟨rfl, rfl⟩)
              go_roundw
              case rel => exact ⟨k + 1, by omega, by first | rfl | go_num, by first | (rw [e1.out]; done) | (rw [e1.out]; go_num), by first | (rw [e2.out]; done) | (rw [e2.out]; go_num), Lib.hid (by rw [e3.out]; exact D.out)⟩
              case measure => first | (simp [intOf]; done) | (simp [intOf]; omega)
      · obtain rfl : k = fs.length := by omega
        simp only [List.take_length] at D ⊢
        have hP1 := count_col fs (fun x => decide (x < g.Length))
        have hQ1 := count_col fs (fun x => decide (g.Length < x))
        obtain ⟨l1, l2⟩ := hlaw.out
        rw [hgl.out, col_length] at l1 l2
        rw [← hP1] at l1
        rw [← hQ1] at l2
        clear hP1 hQ1
        have hjf := Lib.hid (hJF.out _ (show (fs.filter fun f => !farB f g m) = nearL fs g m from rfl))
        have hNv := Lib.hid (show ∀ f ∈ (fs.filter fun f => !farB f g m), okFoot f = true from fun f hf => hv.out f (List.mem_filter.1 hf).1)
        have hNl := List.length_filter_le (fun f => !farB f g m) fs
        obtain ⟨P, hP⟩ : ∃ P, P = fs.countP (fun f => decide (f.Length < g.Length)) := ⟨_, rfl⟩
        obtain ⟨Q, hQ⟩ : ∃ Q, Q = fs.countP (fun f => decide (g.Length < f.Length)) := ⟨_, rfl⟩
        obtain ⟨N, hN⟩ : ∃ N, N = fs.filter (fun f => !farB f g m) := ⟨_, rfl⟩
        rw [← hP] at l1 ⊢
        rw [← hQ] at l2 ⊢
        rw [← hN] at hjf hNv hNl D
        clear hP hQ hN hlaw hJF hgl hIl hIr hIm hxa
        have l1' : 2 * (P : Int) < fs.length := by omega
        have l2' : 2 * (Q : Int) ≤ fs.length := by omega
        obtain ⟨an, cn, hvn⟩ : ∃ an cn, u15 = .slice an N.length cn := by
          rcases (D.out.get 0 rfl).cases with ⟨hv', hL'⟩ | ⟨g', cap', hv'⟩
          · exact ⟨none, 0, by rw [hv', hL']; rfl⟩
          · exact ⟨_, cap', hv'⟩
        subst hvn
        by_cases h0 : N.length = 0
        · have e9 : jc = 9 := by have := hjf.out.2; rw [if_pos h0] at this; exact this
          subst e9
          have h0' : ((N.length : Int) == 0) = true := by simp [h0]
          replace h0 := Lib.hid h0
          go_wp2_with fail
          go_ret
          exact ⟨rfl, upw hb D.out.up⟩
        · have e9 : jc = 0 := by have := hjf.out.2; rw [if_neg h0] at this; exact this
          have eJ : J = midFoot N := by have := hjf.out.1; rw [if_neg h0] at this; exact this
          subst e9 eJ
          have h0' : ((N.length : Int) == 0) = false := beq_eq_false_iff_ne.2 (by omega)
          have hC := Lib.hid (specMiddleFoot_ok an N cn wa (D.out.get 0 rfl).at' (by omega) (by omega) hNv.out)
          obtain ⟨F, hF⟩ : ∃ F, F = midFoot N := ⟨_, rfl⟩
          rw [← hF] at hC D
          clear hF hjf hNv
          replace h0 := Lib.hid h0
          go_wp2_with fail
          refine hC.out.mono ?_
          rintro e wc ⟨rfl, hbc⟩
          replace D := Lib.hid (D.out.later hbc)
          obtain ⟨wd, hwd⟩ : ∃ wd, wd = wc.alloc (.cells #[.int .i64 F.Length, .int .i64 F.Ball, .int .i64 F.Instep, .int .i64 F.Heel] 62) := ⟨_, rfl⟩
          have hbd : Below wc.heap.size wc wd := by rw [hwd]; exact newB _ _
          have V : Own wc.heap.size wd 62 (.slice (some ⟨wc.heap.size, 0, none⟩) 4 4) (footC F) := by rw [hwd]; exact own_footC wc _ F
          replace D := Lib.hid (D.out.later hbd)
          obtain ⟨y0, y1, y2, y3⟩ := footC_cells V
          obtain ⟨z0, z1, z2, z3⟩ := footC_cells (D.out.get 1 rfl)
          replace hwd := Lib.hid hwd
          clear hbd hbc V hC
          go_wp2_with (rw [← hwd.out])
          go_ret
          exact ⟨rfl, upw hb D.out.up⟩
end Go.Proofs.Ytlaclknhenccdaa
