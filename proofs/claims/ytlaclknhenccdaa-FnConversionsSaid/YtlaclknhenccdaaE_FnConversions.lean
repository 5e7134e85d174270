/- FnConversions: for all bytes the law returns true, and the bytes read behind the call as before. -/
import Derived.Test.YtlaclknhenccdaaConvLaw
namespace Go.Proofs.Ytlaclknhenccdaa
open Go.ChangeShapes Go.WideShapes Go.ChangeAt Go.RowKit

set_option maxRecDepth 100000 in
set_option maxHeartbeats 8000000 in
theorem lawConversions (ca : Option Addr) (L : List UInt8) (cc : Nat) (w : World) (hx : At w ca L) (hl : L.length ≤ 9223372036854775807) :
    Calls Try.prog 4 #[.slice ca L.length cc] w fun e w' => e = .returned (.bool true) ∧ Below w.heap.size w w' := by
  have hbig := f6big_c ca L.length cc w
  by_cases hg : 4096 < L.length
  · have e : decide (4096 < L.length) = true := by simpa using hg
    rw [e] at hbig
    go_enter Try.func4, Try.ntmps4
    go_wp2_with fail
    refine hbig.mono ?_
    rintro e w1 ⟨rfl, rfl⟩
    go_wp2_with fail
    go_ret
    exact ⟨rfl, Below.refl _ _⟩
  · have e : decide (4096 < L.length) = false := by simpa using hg
    rw [e] at hbig
    clear e hg
    go_enter Try.func4, Try.ntmps4
    go_wp2_with fail
    refine hbig.mono ?_
    rintro e w1 ⟨rfl, rfl⟩
    clear hbig
    go_wp2_with fail
    refine (drawLostSizes_c ca L cc w hx hl).mono ?_
    rintro e w11 ⟨x, y, f, t, rfl, hxs, hys, hbn⟩
    have hb := hbn
    replace hx := hx.below hbn
    clear hbn
    have hxs2 : x.name.size ≤ 9223372036854775807 := by omega
    have hys2 : y.name.size ≤ 9223372036854775807 := by omega
    clear hxs hys
    obtain ⟨w12, hw, hbn, ⟨c0, c1, c2, c3⟩, d0, d1, d2, d3⟩ := scl_new2 w11 42 x y
    replace hw := Lib.hid hw
    replace hx := hx.below hbn
    replace hb := upw hb hbn
    clear hbn
    go_wp2_with (rw [← hw.out])
    clear hw
    have hI1 := Lib.hid (implLostSizes_c x y f t w12 hxs2 hys2)
    have hI2 := Lib.hid (fun w' => specLostSizes_c x y f t w' hxs2 hys2)
    have hB := Lib.hid (fun (e : lsCode x y f t = 0) => (⟨ls_law e, fun v hv => ls_mem (v := v) e hv⟩ : (okScl x = true ∧ okScl y = true ∧ (0 ≤ f ∧ f ≤ 120) ∧ (f ≤ t ∧ t ≤ 120)) ∧ ∀ v, f ≤ v ∧ v ≤ t → decide (v ∈ lsRow x y f t) = lostAt x y v))
    have hRl := ls_len x y f t
    generalize lsCode x y f t = B at *
    generalize lsRow x y f t = R at *
    refine hI1.out.mono ?_
    rintro e w13 ⟨v1, rfl, O1, hbn⟩
    clear hI1
    obtain ⟨a1, k1, rfl, A1⟩ := O1.at
    clear O1
    replace c0 := kept_cell c0 hbn
    replace c1 := kept_cell c1 hbn
    replace c2 := kept_cell c2 hbn
    replace c3 := kept_cell c3 hbn
    replace d0 := kept_cell d0 hbn
    replace d1 := kept_cell d1 hbn
    replace d2 := kept_cell d2 hbn
    replace d3 := kept_cell d3 hbn
    replace hx := hx.below hbn
    replace hb := upw hb hbn
    clear hbn
    go_wp2_with fail
    refine (hI2.out _).mono ?_
    rintro e w14 ⟨v2, rfl, O2, hbn⟩
    clear hI2
    obtain ⟨a2, k2, rfl, A2⟩ := O2.at
    clear O2
    replace c0 := kept_cell c0 hbn
    replace c1 := kept_cell c1 hbn
    replace c2 := kept_cell c2 hbn
    replace c3 := kept_cell c3 hbn
    replace d0 := kept_cell d0 hbn
    replace d1 := kept_cell d1 hbn
    replace d2 := kept_cell d2 hbn
    replace d3 := kept_cell d3 hbn
    replace hx := hx.below hbn
    replace A1 := A1.below hbn
    replace hb := upw hb hbn
    clear hbn
    go_wp2_with fail
    refine (drawConvertHalf_c ca L cc _ hx hl).mono ?_
    rintro e w15 ⟨u, h, z, rfl, hus, hzs, hh, hbn⟩
    replace c0 := kept_cell c0 hbn
    replace c1 := kept_cell c1 hbn
    replace c2 := kept_cell c2 hbn
    replace c3 := kept_cell c3 hbn
    replace d0 := kept_cell d0 hbn
    replace d1 := kept_cell d1 hbn
    replace d2 := kept_cell d2 hbn
    replace d3 := kept_cell d3 hbn
    replace hx := hx.below hbn
    replace A1 := A1.below hbn
    replace A2 := A2.below hbn
    replace hb := upw hb hbn
    clear hbn
    have hus2 : u.name.size ≤ 9223372036854775807 := by omega
    have hzs2 : z.name.size ≤ 9223372036854775807 := by omega
    clear hus hzs
    obtain ⟨w16, hw, hbn, ⟨p0, p1, p2, p3⟩, q0, q1, q2, q3⟩ := scl_new2 w15 42 u z
    replace hw := Lib.hid hw
    replace c0 := kept_cell c0 hbn
    replace c1 := kept_cell c1 hbn
    replace c2 := kept_cell c2 hbn
    replace c3 := kept_cell c3 hbn
    replace d0 := kept_cell d0 hbn
    replace d1 := kept_cell d1 hbn
    replace d2 := kept_cell d2 hbn
    replace d3 := kept_cell d3 hbn
    replace hx := hx.below hbn
    replace A1 := A1.below hbn
    replace A2 := A2.below hbn
    replace hb := upw hb hbn
    clear hbn
    go_wp2_with (rw [← hw.out])
    clear hw
    have hN := Lib.hid (fun (e : (cvRes u z h).2 = 0) (hh : h < 120) => cv_next e hh)
    have hC1 := Lib.hid (fun w' => implConvertHalf_c u z h w' hus2 hzs2)
    have hC2 := Lib.hid (fun w' => specConvertHalf_c u z h w' hus2 hzs2)
    have hC3 := Lib.hid (fun w' => implConvertHalf_c u z (h + 1) w' hus2 hzs2)
    generalize (cvRes u z h).1 = n1 at *
    generalize (cvRes u z h).2 = n2 at *
    generalize (cvRes u z (h + 1)).1 = m1 at *
    generalize (cvRes u z (h + 1)).2 = m2 at *
    refine (hC1.out _).mono ?_
    rintro e w17 ⟨rfl, hbn⟩
    clear hC1
    replace c0 := kept_cell c0 hbn
    replace c1 := kept_cell c1 hbn
    replace c2 := kept_cell c2 hbn
    replace c3 := kept_cell c3 hbn
    replace d0 := kept_cell d0 hbn
    replace d1 := kept_cell d1 hbn
    replace d2 := kept_cell d2 hbn
    replace d3 := kept_cell d3 hbn
    replace p0 := kept_cell p0 hbn
    replace p1 := kept_cell p1 hbn
    replace p2 := kept_cell p2 hbn
    replace p3 := kept_cell p3 hbn
    replace q0 := kept_cell q0 hbn
    replace q1 := kept_cell q1 hbn
    replace q2 := kept_cell q2 hbn
    replace q3 := kept_cell q3 hbn
    replace hx := hx.below hbn
    replace A1 := A1.below hbn
    replace A2 := A2.below hbn
    replace hb := upw hb hbn
    clear hbn
    go_wp2_with fail
    refine (hC2.out _).mono ?_
    rintro e w18 ⟨rfl, hbn⟩
    clear hC2
    replace c0 := kept_cell c0 hbn
    replace c1 := kept_cell c1 hbn
    replace c2 := kept_cell c2 hbn
    replace c3 := kept_cell c3 hbn
    replace d0 := kept_cell d0 hbn
    replace d1 := kept_cell d1 hbn
    replace d2 := kept_cell d2 hbn
    replace d3 := kept_cell d3 hbn
    replace p0 := kept_cell p0 hbn
    replace p1 := kept_cell p1 hbn
    replace p2 := kept_cell p2 hbn
    replace p3 := kept_cell p3 hbn
    replace q0 := kept_cell q0 hbn
    replace q1 := kept_cell q1 hbn
    replace q2 := kept_cell q2 hbn
    replace q3 := kept_cell q3 hbn
    replace hx := hx.below hbn
    replace A1 := A1.below hbn
    replace A2 := A2.below hbn
    replace hb := upw hb hbn
    clear hbn
    go_wp2_with fail
    refine (drawWidthFor_c ca L cc _ hx hl).mono ?_
    rintro e w19 ⟨g, wh, wg, rfl, hbn⟩
    replace c0 := kept_cell c0 hbn
    replace c1 := kept_cell c1 hbn
    replace c2 := kept_cell c2 hbn
    replace c3 := kept_cell c3 hbn
    replace d0 := kept_cell d0 hbn
    replace d1 := kept_cell d1 hbn
    replace d2 := kept_cell d2 hbn
    replace d3 := kept_cell d3 hbn
    replace p0 := kept_cell p0 hbn
    replace p1 := kept_cell p1 hbn
    replace p2 := kept_cell p2 hbn
    replace p3 := kept_cell p3 hbn
    replace q0 := kept_cell q0 hbn
    replace q1 := kept_cell q1 hbn
    replace q2 := kept_cell q2 hbn
    replace q3 := kept_cell q3 hbn
    replace hx := hx.below hbn
    replace A1 := A1.below hbn
    replace A2 := A2.below hbn
    replace hb := upw hb hbn
    clear hbn
    obtain ⟨w20, hw, hbn, r0, r1, r2, r3⟩ := four_new w19 51 g
    replace hw := Lib.hid hw
    replace c0 := kept_cell c0 hbn
    replace c1 := kept_cell c1 hbn
    replace c2 := kept_cell c2 hbn
    replace c3 := kept_cell c3 hbn
    replace d0 := kept_cell d0 hbn
    replace d1 := kept_cell d1 hbn
    replace d2 := kept_cell d2 hbn
    replace d3 := kept_cell d3 hbn
    replace p0 := kept_cell p0 hbn
    replace p1 := kept_cell p1 hbn
    replace p2 := kept_cell p2 hbn
    replace p3 := kept_cell p3 hbn
    replace q0 := kept_cell q0 hbn
    replace q1 := kept_cell q1 hbn
    replace q2 := kept_cell q2 hbn
    replace q3 := kept_cell q3 hbn
    replace hx := hx.below hbn
    replace A1 := A1.below hbn
    replace A2 := A2.below hbn
    replace hb := upw hb hbn
    clear hbn
    go_wp2_with (rw [← hw.out])
    clear hw
    have hWn := Lib.hid (fun (e : (wfRes g wh wg).2 = 0) => wf_next e)
    have hW1 := Lib.hid (fun w' => implWidthFor_c g wh wg w')
    have hW2 := Lib.hid (fun w' => specWidthFor_c g wh wg w')
    generalize (wfRes g wh wg).1 = b1 at *
    generalize (wfRes g wh wg).2 = b2 at *
    refine (hW1.out _).mono ?_
    rintro e w21 ⟨rfl, hbn⟩
    clear hW1
    replace c0 := kept_cell c0 hbn
    replace c1 := kept_cell c1 hbn
    replace c2 := kept_cell c2 hbn
    replace c3 := kept_cell c3 hbn
    replace d0 := kept_cell d0 hbn
    replace d1 := kept_cell d1 hbn
    replace d2 := kept_cell d2 hbn
    replace d3 := kept_cell d3 hbn
    replace p0 := kept_cell p0 hbn
    replace p1 := kept_cell p1 hbn
    replace p2 := kept_cell p2 hbn
    replace p3 := kept_cell p3 hbn
    replace q0 := kept_cell q0 hbn
    replace q1 := kept_cell q1 hbn
    replace q2 := kept_cell q2 hbn
    replace q3 := kept_cell q3 hbn
    replace r0 := kept_cell r0 hbn
    replace r1 := kept_cell r1 hbn
    replace r2 := kept_cell r2 hbn
    replace r3 := kept_cell r3 hbn
    replace hx := hx.below hbn
    replace A1 := A1.below hbn
    replace A2 := A2.below hbn
    replace hb := upw hb hbn
    clear hbn
    go_wp2_with fail
    refine (hW2.out _).mono ?_
    rintro e w22 ⟨rfl, hbn⟩
    clear hW2
    replace c0 := kept_cell c0 hbn
    replace c1 := kept_cell c1 hbn
    replace c2 := kept_cell c2 hbn
    replace c3 := kept_cell c3 hbn
    replace d0 := kept_cell d0 hbn
    replace d1 := kept_cell d1 hbn
    replace d2 := kept_cell d2 hbn
    replace d3 := kept_cell d3 hbn
    replace p0 := kept_cell p0 hbn
    replace p1 := kept_cell p1 hbn
    replace p2 := kept_cell p2 hbn
    replace p3 := kept_cell p3 hbn
    replace q0 := kept_cell q0 hbn
    replace q1 := kept_cell q1 hbn
    replace q2 := kept_cell q2 hbn
    replace q3 := kept_cell q3 hbn
    replace r0 := kept_cell r0 hbn
    replace r1 := kept_cell r1 hbn
    replace r2 := kept_cell r2 hbn
    replace r3 := kept_cell r3 hbn
    replace hx := hx.below hbn
    replace A1 := A1.below hbn
    replace A2 := A2.below hbn
    replace hb := upw hb hbn
    clear hbn
    go_wp2_with fail
    refine (drawGirthOf_c ca L cc _ hx hl).mono ?_
    rintro e w23 ⟨s, sh, sg, rfl, hbn⟩
    replace c0 := kept_cell c0 hbn
    replace c1 := kept_cell c1 hbn
    replace c2 := kept_cell c2 hbn
    replace c3 := kept_cell c3 hbn
    replace d0 := kept_cell d0 hbn
    replace d1 := kept_cell d1 hbn
    replace d2 := kept_cell d2 hbn
    replace d3 := kept_cell d3 hbn
    replace p0 := kept_cell p0 hbn
    replace p1 := kept_cell p1 hbn
    replace p2 := kept_cell p2 hbn
    replace p3 := kept_cell p3 hbn
    replace q0 := kept_cell q0 hbn
    replace q1 := kept_cell q1 hbn
    replace q2 := kept_cell q2 hbn
    replace q3 := kept_cell q3 hbn
    replace r0 := kept_cell r0 hbn
    replace r1 := kept_cell r1 hbn
    replace r2 := kept_cell r2 hbn
    replace r3 := kept_cell r3 hbn
    replace hx := hx.below hbn
    replace A1 := A1.below hbn
    replace A2 := A2.below hbn
    replace hb := upw hb hbn
    clear hbn
    clear hx hl
    obtain ⟨w24, hw, hbn, s0, s1, s2, s3⟩ := four_new w23 51 s
    replace hw := Lib.hid hw
    replace c0 := kept_cell c0 hbn
    replace c1 := kept_cell c1 hbn
    replace c2 := kept_cell c2 hbn
    replace c3 := kept_cell c3 hbn
    replace d0 := kept_cell d0 hbn
    replace d1 := kept_cell d1 hbn
    replace d2 := kept_cell d2 hbn
    replace d3 := kept_cell d3 hbn
    replace p0 := kept_cell p0 hbn
    replace p1 := kept_cell p1 hbn
    replace p2 := kept_cell p2 hbn
    replace p3 := kept_cell p3 hbn
    replace q0 := kept_cell q0 hbn
    replace q1 := kept_cell q1 hbn
    replace q2 := kept_cell q2 hbn
    replace q3 := kept_cell q3 hbn
    replace r0 := kept_cell r0 hbn
    replace r1 := kept_cell r1 hbn
    replace r2 := kept_cell r2 hbn
    replace r3 := kept_cell r3 hbn
    replace A1 := A1.below hbn
    replace A2 := A2.below hbn
    replace hb := upw hb hbn
    clear hbn
    go_wp2_with (rw [← hw.out])
    clear hw
    have hG1 := Lib.hid (fun w' => implGirthOf_c s sh sg w')
    have hG2 := Lib.hid (fun w' => specGirthOf_c s sh sg w')
    generalize (gofRes s sh sg).1 = e1 at *
    generalize (gofRes s sh sg).2 = e2 at *
    refine (hG1.out _).mono ?_
    rintro e w25 ⟨rfl, hbn⟩
    clear hG1
    replace c0 := kept_cell c0 hbn
    replace c1 := kept_cell c1 hbn
    replace c2 := kept_cell c2 hbn
    replace c3 := kept_cell c3 hbn
    replace d0 := kept_cell d0 hbn
    replace d1 := kept_cell d1 hbn
    replace d2 := kept_cell d2 hbn
    replace d3 := kept_cell d3 hbn
    replace p0 := kept_cell p0 hbn
    replace p1 := kept_cell p1 hbn
    replace p2 := kept_cell p2 hbn
    replace p3 := kept_cell p3 hbn
    replace q0 := kept_cell q0 hbn
    replace q1 := kept_cell q1 hbn
    replace q2 := kept_cell q2 hbn
    replace q3 := kept_cell q3 hbn
    replace r0 := kept_cell r0 hbn
    replace r1 := kept_cell r1 hbn
    replace r2 := kept_cell r2 hbn
    replace r3 := kept_cell r3 hbn
    replace s0 := kept_cell s0 hbn
    replace s1 := kept_cell s1 hbn
    replace s2 := kept_cell s2 hbn
    replace s3 := kept_cell s3 hbn
    replace A1 := A1.below hbn
    replace A2 := A2.below hbn
    replace hb := upw hb hbn
    clear hbn
    go_wp2_with fail
    refine (hG2.out _).mono ?_
    rintro e w26 ⟨rfl, hbn⟩
    clear hG2
    replace c0 := kept_cell c0 hbn
    replace c1 := kept_cell c1 hbn
    replace c2 := kept_cell c2 hbn
    replace c3 := kept_cell c3 hbn
    replace d0 := kept_cell d0 hbn
    replace d1 := kept_cell d1 hbn
    replace d2 := kept_cell d2 hbn
    replace d3 := kept_cell d3 hbn
    replace p0 := kept_cell p0 hbn
    replace p1 := kept_cell p1 hbn
    replace p2 := kept_cell p2 hbn
    replace p3 := kept_cell p3 hbn
    replace q0 := kept_cell q0 hbn
    replace q1 := kept_cell q1 hbn
    replace q2 := kept_cell q2 hbn
    replace q3 := kept_cell q3 hbn
    replace r0 := kept_cell r0 hbn
    replace r1 := kept_cell r1 hbn
    replace r2 := kept_cell r2 hbn
    replace r3 := kept_cell r3 hbn
    replace s0 := kept_cell s0 hbn
    replace s1 := kept_cell s1 hbn
    replace s2 := kept_cell s2 hbn
    replace s3 := kept_cell s3 hbn
    replace A1 := A1.below hbn
    replace A2 := A2.below hbn
    replace hb := upw hb hbn
    clear hbn
    clear s0 s1 s2 s3
    have hV := Lib.hid (fun w' => implValidWidths_c g w')
    have hV2 := Lib.hid (fun w' => specValidWidths_c g w')
    generalize okWid g = vw at hV hV2
    have hF := Lib.hid (fun w' (hb' : Below w26.heap.size w26 w') => f6ints_same a1 a2 R k1 k2 w' (A1.below hb') (A2.below hb') (by omega))
    have r0r := rg r0
    have r1r := rg r1
    have r2r := rg r2
    have r3r := rg r3
    go_wp2_with fail
    refine wp_region_quiet_below (by kernel_rfl) (by kernel_rfl) ?_
    repeat (go_big_quiet_step ((first | (go_at_call 20; exact Calls.regrown_of (hF.out _ (grown_of ⟨⟨_, _⟩, rfl⟩))) | (go_at_call 34; exact Calls.regrown_of (hV.out _)) | (go_at_call 35; exact Calls.regrown_of (hV2.out _)))))
    refine wpQuiet_nil ?_
    intro wq hw'
    have hbn := grown_of hw'
    clear hw' r0r r1r r2r r3r hF hV hV2
    replace c0 := kept_cell c0 hbn
    replace c1 := kept_cell c1 hbn
    replace c2 := kept_cell c2 hbn
    replace c3 := kept_cell c3 hbn
    replace d0 := kept_cell d0 hbn
    replace d1 := kept_cell d1 hbn
    replace d2 := kept_cell d2 hbn
    replace d3 := kept_cell d3 hbn
    replace p0 := kept_cell p0 hbn
    replace p1 := kept_cell p1 hbn
    replace p2 := kept_cell p2 hbn
    replace p3 := kept_cell p3 hbn
    replace q0 := kept_cell q0 hbn
    replace q1 := kept_cell q1 hbn
    replace q2 := kept_cell q2 hbn
    replace q3 := kept_cell q3 hbn
    replace r0 := kept_cell r0 hbn
    replace r1 := kept_cell r1 hbn
    replace r2 := kept_cell r2 hbn
    replace r3 := kept_cell r3 hbn
    replace A1 := A1.below hbn
    replace A2 := A2.below hbn
    replace hb := upw hb hbn
    clear hbn
    clear A1
    by_cases hn2 : n2 = 0
    · subst hn2
      by_cases hh2 : h < 120
      · obtain ⟨hm2, hm1⟩ := hN.out rfl hh2
        subst hm2
        clear hN
        go_wp2_with fail
        refine (hC3.out _).mono ?_
        rintro e wc1 ⟨rfl, hbn⟩
        replace c0 := kept_cell c0 hbn
        replace c1 := kept_cell c1 hbn
        replace c2 := kept_cell c2 hbn
        replace c3 := kept_cell c3 hbn
        replace d0 := kept_cell d0 hbn
        replace d1 := kept_cell d1 hbn
        replace d2 := kept_cell d2 hbn
        replace d3 := kept_cell d3 hbn
        replace r0 := kept_cell r0 hbn
        replace r1 := kept_cell r1 hbn
        replace r2 := kept_cell r2 hbn
        replace r3 := kept_cell r3 hbn
        replace A2 := A2.below hbn
        replace hb := upw hb hbn
        clear hbn
        clear p0 p1 p2 p3 q0 q1 q2 q3 hC3
        by_cases hb2 : b2 = 0
        · subst hb2
          obtain ⟨_, rfl, hK, g1, g2, g3⟩ := hWn.out rfl
          clear hWn
          have hQ := Lib.hid (fun w' => implGirthOf_c g wh b1 w')
          obtain ⟨G1, hG1⟩ : ∃ G1, G1 = (gofRes g wh b1).1 := ⟨_, rfl⟩
          rw [g1, ← hG1] at hQ
          rw [← hG1] at g2
          clear hG1 g1
          by_cases hk : 0 < b1
          · obtain ⟨g4, g5⟩ := g3 hk
            have hQ2 := Lib.hid (fun w' => implGirthOf_c g wh (b1 - 1) w')
            clear g3
            obtain ⟨G3, hG3⟩ : ∃ G3, G3 = (gofRes g wh (b1 - 1)).1 := ⟨_, rfl⟩
            rw [g4, ← hG3] at hQ2
            rw [← hG3] at g5
            clear hG3 g4
            go_wp2_with fail
            refine (hQ.out _).mono ?_
            rintro e wg1 ⟨rfl, hbn⟩
            replace c0 := kept_cell c0 hbn
            replace c1 := kept_cell c1 hbn
            replace c2 := kept_cell c2 hbn
            replace c3 := kept_cell c3 hbn
            replace d0 := kept_cell d0 hbn
            replace d1 := kept_cell d1 hbn
            replace d2 := kept_cell d2 hbn
            replace d3 := kept_cell d3 hbn
            replace r0 := kept_cell r0 hbn
            replace r1 := kept_cell r1 hbn
            replace r2 := kept_cell r2 hbn
            replace r3 := kept_cell r3 hbn
            replace A2 := A2.below hbn
            replace hb := upw hb hbn
            clear hbn
            go_wp2_with fail
            refine (hQ2.out _).mono ?_
            rintro e wg2 ⟨rfl, hbn⟩
            replace c0 := kept_cell c0 hbn
            replace c1 := kept_cell c1 hbn
            replace c2 := kept_cell c2 hbn
            replace c3 := kept_cell c3 hbn
            replace d0 := kept_cell d0 hbn
            replace d1 := kept_cell d1 hbn
            replace d2 := kept_cell d2 hbn
            replace d3 := kept_cell d3 hbn
            replace A2 := A2.below hbn
            replace hb := upw hb hbn
            clear hbn
            clear r0 r1 r2 r3 hQ hQ2 g2
            by_cases hB0 : B = 0
            · subst hB0
              obtain ⟨⟨ox, oy, hf, ht⟩, hm⟩ := hB.out rfl
              replace hm := Lib.hid hm
              replace ox := Lib.hid ox
              replace oy := Lib.hid oy
              clear hB
              go_wp2_with fail
              go_loopw [38, 39, 40, 41, 42] (fun i _ _ _ _ wr => ∃ v : Int, i = .int .i64 v ∧ (f ≤ v ∧ v ≤ t + 1) ∧ Below wg2.heap.size wg2 wr) (fun i _ _ _ _ _ => (t + 1 - intOf i).toNat)
              case atStart => exact ⟨f, rfl, by omega, Below.refl _ _⟩
              case round =>
                obtain ⟨v, rfl, hv, hbn⟩ := hrel
                have hbr := hbn
                replace c0 := kept_cell c0 hbn
                replace c1 := kept_cell c1 hbn
                replace c2 := kept_cell c2 hbn
                replace c3 := kept_cell c3 hbn
                replace d0 := kept_cell d0 hbn
                replace d1 := kept_cell d1 hbn
                replace d2 := kept_cell d2 hbn
                replace d3 := kept_cell d3 hbn
                replace A2 := A2.below hbn
                replace hb := upw hb hbn
                clear hbn
                by_cases hvt : v ≤ t
                · have hq1 := conv_le x y v
                  have hC1 := Lib.hid (fun w' => implConvertHalf_c x y v w' hxs2 hys2)
                  rw [cv_ok ox.out oy.out (by omega)] at hC1
                  have hC2 := Lib.hid (fun w' => implConvertHalf_c y x ((conv x y v : Nat) : Int) w' hys2 hxs2)
                  rw [cv_ok oy.out ox.out (by omega)] at hC2
                  have hE := Lib.hid ((hm.out v (by omega)).trans (show lostAt x y v = !(((conv y x (conv x y v : Nat) : Nat) : Int) == v) from rfl))
                  generalize conv y x ((conv x y v : Nat) : Int) = Q at *
                  generalize conv x y v = P at *
                  go_wp2_with fail
                  refine (hC1.out _).mono ?_
                  rintro e wa ⟨rfl, hbn⟩
                  replace hbr := upw hbr hbn
                  replace c0 := kept_cell c0 hbn
                  replace c1 := kept_cell c1 hbn
                  replace c2 := kept_cell c2 hbn
                  replace c3 := kept_cell c3 hbn
                  replace d0 := kept_cell d0 hbn
                  replace d1 := kept_cell d1 hbn
                  replace d2 := kept_cell d2 hbn
                  replace d3 := kept_cell d3 hbn
                  replace A2 := A2.below hbn
                  replace hb := upw hb hbn
                  clear hbn
                  go_wp2_with fail
                  refine (hC2.out _).mono ?_
                  rintro e wb ⟨rfl, hbn⟩
                  replace hbr := upw hbr hbn
                  replace c0 := kept_cell c0 hbn
                  replace c1 := kept_cell c1 hbn
                  replace c2 := kept_cell c2 hbn
                  replace c3 := kept_cell c3 hbn
                  replace d0 := kept_cell d0 hbn
                  replace d1 := kept_cell d1 hbn
                  replace d2 := kept_cell d2 hbn
                  replace d3 := kept_cell d3 hbn
                  replace A2 := A2.below hbn
                  replace hb := upw hb hbn
                  clear hbn
                  have hH := Lib.hid (fun w' h => f6has_c a2 R k2 v w' h (by omega))
                  rw [hE.out] at hH
                  clear hE hC1 hC2
                  cases hq : ((Q : Int) == v)
                  · rw [hq, Bool.not_false] at hH
                    have hqn : ((Q : Int) != v) = true := by simp [bne, hq]
                    clear hq
                    go_wp2_with fail
                    refine (hH.out _ A2).mono ?_
                    rintro e w' ⟨rfl, rfl⟩
                    go_wp2_with fail
                    go_roundw
                    case rel => exact ⟨v + 1, by first | rfl | go_num, by omega, hbr⟩
                    case measure => first | (simp [intOf]; done) | (simp [intOf]; omega)
                  · rw [hq, Bool.not_true] at hH
                    have hqn : ((Q : Int) != v) = false := by simp [bne, hq]
                    clear hq
                    go_wp2_with fail
                    refine (hH.out _ A2).mono ?_
                    rintro e w' ⟨rfl, rfl⟩
                    go_wp2_with fail
                    go_roundw
                    case rel => exact ⟨v + 1, by first | rfl | go_num, by omega, hbr⟩
                    case measure => first | (simp [intOf]; done) | (simp [intOf]; omega)
                · go_wp2_with fail
                  go_ret
                  exact ⟨rfl, hb⟩
            · have hB0' : (B != 0) = true := by simp [bne, hB0]
              clear hB0
              go_wp2_with fail
              go_ret
              exact ⟨rfl, hb⟩
          · clear g3
            go_wp2_with fail
            refine (hQ.out _).mono ?_
            rintro e wg1 ⟨rfl, hbn⟩
            replace c0 := kept_cell c0 hbn
            replace c1 := kept_cell c1 hbn
            replace c2 := kept_cell c2 hbn
            replace c3 := kept_cell c3 hbn
            replace d0 := kept_cell d0 hbn
            replace d1 := kept_cell d1 hbn
            replace d2 := kept_cell d2 hbn
            replace d3 := kept_cell d3 hbn
            replace A2 := A2.below hbn
            replace hb := upw hb hbn
            clear hbn
            clear r0 r1 r2 r3 hQ
            by_cases hB0 : B = 0
            · subst hB0
              obtain ⟨⟨ox, oy, hf, ht⟩, hm⟩ := hB.out rfl
              replace hm := Lib.hid hm
              replace ox := Lib.hid ox
              replace oy := Lib.hid oy
              clear hB
              go_wp2_with fail
              go_loopw [38, 39, 40, 41, 42] (fun i _ _ _ _ wr => ∃ v : Int, i = .int .i64 v ∧ (f ≤ v ∧ v ≤ t + 1) ∧ Below wg1.heap.size wg1 wr) (fun i _ _ _ _ _ => (t + 1 - intOf i).toNat)
              case atStart => exact ⟨f, rfl, by omega, Below.refl _ _⟩
              case round =>
                obtain ⟨v, rfl, hv, hbn⟩ := hrel
                have hbr := hbn
                replace c0 := kept_cell c0 hbn
                replace c1 := kept_cell c1 hbn
                replace c2 := kept_cell c2 hbn
                replace c3 := kept_cell c3 hbn
                replace d0 := kept_cell d0 hbn
                replace d1 := kept_cell d1 hbn
                replace d2 := kept_cell d2 hbn
                replace d3 := kept_cell d3 hbn
                replace A2 := A2.below hbn
                replace hb := upw hb hbn
                clear hbn
                by_cases hvt : v ≤ t
                · have hq1 := conv_le x y v
                  have hC1 := Lib.hid (fun w' => implConvertHalf_c x y v w' hxs2 hys2)
                  rw [cv_ok ox.out oy.out (by omega)] at hC1
                  have hC2 := Lib.hid (fun w' => implConvertHalf_c y x ((conv x y v : Nat) : Int) w' hys2 hxs2)
                  rw [cv_ok oy.out ox.out (by omega)] at hC2
                  have hE := Lib.hid ((hm.out v (by omega)).trans (show lostAt x y v = !(((conv y x (conv x y v : Nat) : Nat) : Int) == v) from rfl))
                  generalize conv y x ((conv x y v : Nat) : Int) = Q at *
                  generalize conv x y v = P at *
                  go_wp2_with fail
                  refine (hC1.out _).mono ?_
                  rintro e wa ⟨rfl, hbn⟩
                  replace hbr := upw hbr hbn
                  replace c0 := kept_cell c0 hbn
                  replace c1 := kept_cell c1 hbn
                  replace c2 := kept_cell c2 hbn
                  replace c3 := kept_cell c3 hbn
                  replace d0 := kept_cell d0 hbn
                  replace d1 := kept_cell d1 hbn
                  replace d2 := kept_cell d2 hbn
                  replace d3 := kept_cell d3 hbn
                  replace A2 := A2.below hbn
                  replace hb := upw hb hbn
                  clear hbn
                  go_wp2_with fail
                  refine (hC2.out _).mono ?_
                  rintro e wb ⟨rfl, hbn⟩
                  replace hbr := upw hbr hbn
                  replace c0 := kept_cell c0 hbn
                  replace c1 := kept_cell c1 hbn
                  replace c2 := kept_cell c2 hbn
                  replace c3 := kept_cell c3 hbn
                  replace d0 := kept_cell d0 hbn
                  replace d1 := kept_cell d1 hbn
                  replace d2 := kept_cell d2 hbn
                  replace d3 := kept_cell d3 hbn
                  replace A2 := A2.below hbn
                  replace hb := upw hb hbn
                  clear hbn
                  have hH := Lib.hid (fun w' h => f6has_c a2 R k2 v w' h (by omega))
                  rw [hE.out] at hH
                  clear hE hC1 hC2
                  cases hq : ((Q : Int) == v)
                  · rw [hq, Bool.not_false] at hH
                    have hqn : ((Q : Int) != v) = true := by simp [bne, hq]
                    clear hq
                    go_wp2_with fail
                    refine (hH.out _ A2).mono ?_
                    rintro e w' ⟨rfl, rfl⟩
                    go_wp2_with fail
                    go_roundw
                    case rel => exact ⟨v + 1, by first | rfl | go_num, by omega, hbr⟩
                    case measure => first | (simp [intOf]; done) | (simp [intOf]; omega)
                  · rw [hq, Bool.not_true] at hH
                    have hqn : ((Q : Int) != v) = false := by simp [bne, hq]
                    clear hq
                    go_wp2_with fail
                    refine (hH.out _ A2).mono ?_
                    rintro e w' ⟨rfl, rfl⟩
                    go_wp2_with fail
                    go_roundw
                    case rel => exact ⟨v + 1, by first | rfl | go_num, by omega, hbr⟩
                    case measure => first | (simp [intOf]; done) | (simp [intOf]; omega)
                · go_wp2_with fail
                  go_ret
                  exact ⟨rfl, hb⟩
            · have hB0' : (B != 0) = true := by simp [bne, hB0]
              clear hB0
              go_wp2_with fail
              go_ret
              exact ⟨rfl, hb⟩
        · have hb2' : (b2 == 0) = false := beq_eq_false_iff_ne.2 hb2
          clear hb2 hWn r0 r1 r2 r3
          by_cases hB0 : B = 0
          · subst hB0
            obtain ⟨⟨ox, oy, hf, ht⟩, hm⟩ := hB.out rfl
            replace hm := Lib.hid hm
            replace ox := Lib.hid ox
            replace oy := Lib.hid oy
            clear hB
            go_wp2_with fail
            go_loopw [38, 39, 40, 41, 42] (fun i _ _ _ _ wr => ∃ v : Int, i = .int .i64 v ∧ (f ≤ v ∧ v ≤ t + 1) ∧ Below wc1.heap.size wc1 wr) (fun i _ _ _ _ _ => (t + 1 - intOf i).toNat)
            case atStart => exact ⟨f, rfl, by omega, Below.refl _ _⟩
            case round =>
              obtain ⟨v, rfl, hv, hbn⟩ := hrel
              have hbr := hbn
              replace c0 := kept_cell c0 hbn
              replace c1 := kept_cell c1 hbn
              replace c2 := kept_cell c2 hbn
              replace c3 := kept_cell c3 hbn
              replace d0 := kept_cell d0 hbn
              replace d1 := kept_cell d1 hbn
              replace d2 := kept_cell d2 hbn
              replace d3 := kept_cell d3 hbn
              replace A2 := A2.below hbn
              replace hb := upw hb hbn
              clear hbn
              by_cases hvt : v ≤ t
              · have hq1 := conv_le x y v
                have hC1 := Lib.hid (fun w' => implConvertHalf_c x y v w' hxs2 hys2)
                rw [cv_ok ox.out oy.out (by omega)] at hC1
                have hC2 := Lib.hid (fun w' => implConvertHalf_c y x ((conv x y v : Nat) : Int) w' hys2 hxs2)
                rw [cv_ok oy.out ox.out (by omega)] at hC2
                have hE := Lib.hid ((hm.out v (by omega)).trans (show lostAt x y v = !(((conv y x (conv x y v : Nat) : Nat) : Int) == v) from rfl))
                generalize conv y x ((conv x y v : Nat) : Int) = Q at *
                generalize conv x y v = P at *
                go_wp2_with fail
                refine (hC1.out _).mono ?_
                rintro e wa ⟨rfl, hbn⟩
                replace hbr := upw hbr hbn
                replace c0 := kept_cell c0 hbn
                replace c1 := kept_cell c1 hbn
                replace c2 := kept_cell c2 hbn
                replace c3 := kept_cell c3 hbn
                replace d0 := kept_cell d0 hbn
                replace d1 := kept_cell d1 hbn
                replace d2 := kept_cell d2 hbn
                replace d3 := kept_cell d3 hbn
                replace A2 := A2.below hbn
                replace hb := upw hb hbn
                clear hbn
                go_wp2_with fail
                refine (hC2.out _).mono ?_
                rintro e wb ⟨rfl, hbn⟩
                replace hbr := upw hbr hbn
                replace c0 := kept_cell c0 hbn
                replace c1 := kept_cell c1 hbn
                replace c2 := kept_cell c2 hbn
                replace c3 := kept_cell c3 hbn
                replace d0 := kept_cell d0 hbn
                replace d1 := kept_cell d1 hbn
                replace d2 := kept_cell d2 hbn
                replace d3 := kept_cell d3 hbn
                replace A2 := A2.below hbn
                replace hb := upw hb hbn
                clear hbn
                have hH := Lib.hid (fun w' h => f6has_c a2 R k2 v w' h (by omega))
                rw [hE.out] at hH
                clear hE hC1 hC2
                cases hq : ((Q : Int) == v)
                · rw [hq, Bool.not_false] at hH
                  have hqn : ((Q : Int) != v) = true := by simp [bne, hq]
                  clear hq
                  go_wp2_with fail
                  refine (hH.out _ A2).mono ?_
                  rintro e w' ⟨rfl, rfl⟩
                  go_wp2_with fail
                  go_roundw
                  case rel => exact ⟨v + 1, by first | rfl | go_num, by omega, hbr⟩
                  case measure => first | (simp [intOf]; done) | (simp [intOf]; omega)
                · rw [hq, Bool.not_true] at hH
                  have hqn : ((Q : Int) != v) = false := by simp [bne, hq]
                  clear hq
                  go_wp2_with fail
                  refine (hH.out _ A2).mono ?_
                  rintro e w' ⟨rfl, rfl⟩
                  go_wp2_with fail
                  go_roundw
                  case rel => exact ⟨v + 1, by first | rfl | go_num, by omega, hbr⟩
                  case measure => first | (simp [intOf]; done) | (simp [intOf]; omega)
              · go_wp2_with fail
                go_ret
                exact ⟨rfl, hb⟩
          · have hB0' : (B != 0) = true := by simp [bne, hB0]
            clear hB0
            go_wp2_with fail
            go_ret
            exact ⟨rfl, hb⟩
      · clear hN hC3 p0 p1 p2 p3 q0 q1 q2 q3
        by_cases hb2 : b2 = 0
        · subst hb2
          obtain ⟨_, rfl, hK, g1, g2, g3⟩ := hWn.out rfl
          clear hWn
          have hQ := Lib.hid (fun w' => implGirthOf_c g wh b1 w')
          obtain ⟨G1, hG1⟩ : ∃ G1, G1 = (gofRes g wh b1).1 := ⟨_, rfl⟩
          rw [g1, ← hG1] at hQ
          rw [← hG1] at g2
          clear hG1 g1
          by_cases hk : 0 < b1
          · obtain ⟨g4, g5⟩ := g3 hk
            have hQ2 := Lib.hid (fun w' => implGirthOf_c g wh (b1 - 1) w')
            clear g3
            obtain ⟨G3, hG3⟩ : ∃ G3, G3 = (gofRes g wh (b1 - 1)).1 := ⟨_, rfl⟩
            rw [g4, ← hG3] at hQ2
            rw [← hG3] at g5
            clear hG3 g4
            go_wp2_with fail
            refine (hQ.out _).mono ?_
            rintro e wg1 ⟨rfl, hbn⟩
            replace c0 := kept_cell c0 hbn
            replace c1 := kept_cell c1 hbn
            replace c2 := kept_cell c2 hbn
            replace c3 := kept_cell c3 hbn
            replace d0 := kept_cell d0 hbn
            replace d1 := kept_cell d1 hbn
            replace d2 := kept_cell d2 hbn
            replace d3 := kept_cell d3 hbn
            replace r0 := kept_cell r0 hbn
            replace r1 := kept_cell r1 hbn
            replace r2 := kept_cell r2 hbn
            replace r3 := kept_cell r3 hbn
            replace A2 := A2.below hbn
            replace hb := upw hb hbn
            clear hbn
            go_wp2_with fail
            refine (hQ2.out _).mono ?_
            rintro e wg2 ⟨rfl, hbn⟩
            replace c0 := kept_cell c0 hbn
            replace c1 := kept_cell c1 hbn
            replace c2 := kept_cell c2 hbn
            replace c3 := kept_cell c3 hbn
            replace d0 := kept_cell d0 hbn
            replace d1 := kept_cell d1 hbn
            replace d2 := kept_cell d2 hbn
            replace d3 := kept_cell d3 hbn
            replace A2 := A2.below hbn
            replace hb := upw hb hbn
            clear hbn
            clear r0 r1 r2 r3 hQ hQ2 g2
            by_cases hB0 : B = 0
            · subst hB0
              obtain ⟨⟨ox, oy, hf, ht⟩, hm⟩ := hB.out rfl
              replace hm := Lib.hid hm
              replace ox := Lib.hid ox
              replace oy := Lib.hid oy
              clear hB
              go_wp2_with fail
              go_loopw [38, 39, 40, 41, 42] (fun i _ _ _ _ wr => ∃ v : Int, i = .int .i64 v ∧ (f ≤ v ∧ v ≤ t + 1) ∧ Below wg2.heap.size wg2 wr) (fun i _ _ _ _ _ => (t + 1 - intOf i).toNat)
              case atStart => exact ⟨f, rfl, by omega, Below.refl _ _⟩
              case round =>
                obtain ⟨v, rfl, hv, hbn⟩ := hrel
                have hbr := hbn
                replace c0 := kept_cell c0 hbn
                replace c1 := kept_cell c1 hbn
                replace c2 := kept_cell c2 hbn
                replace c3 := kept_cell c3 hbn
                replace d0 := kept_cell d0 hbn
                replace d1 := kept_cell d1 hbn
                replace d2 := kept_cell d2 hbn
                replace d3 := kept_cell d3 hbn
                replace A2 := A2.below hbn
                replace hb := upw hb hbn
                clear hbn
                by_cases hvt : v ≤ t
                · have hq1 := conv_le x y v
                  have hC1 := Lib.hid (fun w' => implConvertHalf_c x y v w' hxs2 hys2)
                  rw [cv_ok ox.out oy.out (by omega)] at hC1
                  have hC2 := Lib.hid (fun w' => implConvertHalf_c y x ((conv x y v : Nat) : Int) w' hys2 hxs2)
                  rw [cv_ok oy.out ox.out (by omega)] at hC2
                  have hE := Lib.hid ((hm.out v (by omega)).trans (show lostAt x y v = !(((conv y x (conv x y v : Nat) : Nat) : Int) == v) from rfl))
                  generalize conv y x ((conv x y v : Nat) : Int) = Q at *
                  generalize conv x y v = P at *
                  go_wp2_with fail
                  refine (hC1.out _).mono ?_
                  rintro e wa ⟨rfl, hbn⟩
                  replace hbr := upw hbr hbn
                  replace c0 := kept_cell c0 hbn
                  replace c1 := kept_cell c1 hbn
                  replace c2 := kept_cell c2 hbn
                  replace c3 := kept_cell c3 hbn
                  replace d0 := kept_cell d0 hbn
                  replace d1 := kept_cell d1 hbn
                  replace d2 := kept_cell d2 hbn
                  replace d3 := kept_cell d3 hbn
                  replace A2 := A2.below hbn
                  replace hb := upw hb hbn
                  clear hbn
                  go_wp2_with fail
                  refine (hC2.out _).mono ?_
                  rintro e wb ⟨rfl, hbn⟩
                  replace hbr := upw hbr hbn
                  replace c0 := kept_cell c0 hbn
                  replace c1 := kept_cell c1 hbn
                  replace c2 := kept_cell c2 hbn
                  replace c3 := kept_cell c3 hbn
                  replace d0 := kept_cell d0 hbn
                  replace d1 := kept_cell d1 hbn
                  replace d2 := kept_cell d2 hbn
                  replace d3 := kept_cell d3 hbn
                  replace A2 := A2.below hbn
                  replace hb := upw hb hbn
                  clear hbn
                  have hH := Lib.hid (fun w' h => f6has_c a2 R k2 v w' h (by omega))
                  rw [hE.out] at hH
                  clear hE hC1 hC2
                  cases hq : ((Q : Int) == v)
                  · rw [hq, Bool.not_false] at hH
                    have hqn : ((Q : Int) != v) = true := by simp [bne, hq]
                    clear hq
                    go_wp2_with fail
                    refine (hH.out _ A2).mono ?_
                    rintro e w' ⟨rfl, rfl⟩
                    go_wp2_with fail
                    go_roundw
                    case rel => exact ⟨v + 1, by first | rfl | go_num, by omega, hbr⟩
                    case measure => first | (simp [intOf]; done) | (simp [intOf]; omega)
                  · rw [hq, Bool.not_true] at hH
                    have hqn : ((Q : Int) != v) = false := by simp [bne, hq]
                    clear hq
                    go_wp2_with fail
                    refine (hH.out _ A2).mono ?_
                    rintro e w' ⟨rfl, rfl⟩
                    go_wp2_with fail
                    go_roundw
                    case rel => exact ⟨v + 1, by first | rfl | go_num, by omega, hbr⟩
                    case measure => first | (simp [intOf]; done) | (simp [intOf]; omega)
                · go_wp2_with fail
                  go_ret
                  exact ⟨rfl, hb⟩
            · have hB0' : (B != 0) = true := by simp [bne, hB0]
              clear hB0
              go_wp2_with fail
              go_ret
              exact ⟨rfl, hb⟩
          · clear g3
            go_wp2_with fail
            refine (hQ.out _).mono ?_
            rintro e wg1 ⟨rfl, hbn⟩
            replace c0 := kept_cell c0 hbn
            replace c1 := kept_cell c1 hbn
            replace c2 := kept_cell c2 hbn
            replace c3 := kept_cell c3 hbn
            replace d0 := kept_cell d0 hbn
            replace d1 := kept_cell d1 hbn
            replace d2 := kept_cell d2 hbn
            replace d3 := kept_cell d3 hbn
            replace A2 := A2.below hbn
            replace hb := upw hb hbn
            clear hbn
            clear r0 r1 r2 r3 hQ
            by_cases hB0 : B = 0
            · subst hB0
              obtain ⟨⟨ox, oy, hf, ht⟩, hm⟩ := hB.out rfl
              replace hm := Lib.hid hm
              replace ox := Lib.hid ox
              replace oy := Lib.hid oy
              clear hB
              go_wp2_with fail
              go_loopw [38, 39, 40, 41, 42] (fun i _ _ _ _ wr => ∃ v : Int, i = .int .i64 v ∧ (f ≤ v ∧ v ≤ t + 1) ∧ Below wg1.heap.size wg1 wr) (fun i _ _ _ _ _ => (t + 1 - intOf i).toNat)
              case atStart => exact ⟨f, rfl, by omega, Below.refl _ _⟩
              case round =>
                obtain ⟨v, rfl, hv, hbn⟩ := hrel
                have hbr := hbn
                replace c0 := kept_cell c0 hbn
                replace c1 := kept_cell c1 hbn
                replace c2 := kept_cell c2 hbn
                replace c3 := kept_cell c3 hbn
                replace d0 := kept_cell d0 hbn
                replace d1 := kept_cell d1 hbn
                replace d2 := kept_cell d2 hbn
                replace d3 := kept_cell d3 hbn
                replace A2 := A2.below hbn
                replace hb := upw hb hbn
                clear hbn
                by_cases hvt : v ≤ t
                · have hq1 := conv_le x y v
                  have hC1 := Lib.hid (fun w' => implConvertHalf_c x y v w' hxs2 hys2)
                  rw [cv_ok ox.out oy.out (by omega)] at hC1
                  have hC2 := Lib.hid (fun w' => implConvertHalf_c y x ((conv x y v : Nat) : Int) w' hys2 hxs2)
                  rw [cv_ok oy.out ox.out (by omega)] at hC2
                  have hE := Lib.hid ((hm.out v (by omega)).trans (show lostAt x y v = !(((conv y x (conv x y v : Nat) : Nat) : Int) == v) from rfl))
                  generalize conv y x ((conv x y v : Nat) : Int) = Q at *
                  generalize conv x y v = P at *
                  go_wp2_with fail
                  refine (hC1.out _).mono ?_
                  rintro e wa ⟨rfl, hbn⟩
                  replace hbr := upw hbr hbn
                  replace c0 := kept_cell c0 hbn
                  replace c1 := kept_cell c1 hbn
                  replace c2 := kept_cell c2 hbn
                  replace c3 := kept_cell c3 hbn
                  replace d0 := kept_cell d0 hbn
                  replace d1 := kept_cell d1 hbn
                  replace d2 := kept_cell d2 hbn
                  replace d3 := kept_cell d3 hbn
                  replace A2 := A2.below hbn
                  replace hb := upw hb hbn
                  clear hbn
                  go_wp2_with fail
                  refine (hC2.out _).mono ?_
                  rintro e wb ⟨rfl, hbn⟩
                  replace hbr := upw hbr hbn
                  replace c0 := kept_cell c0 hbn
                  replace c1 := kept_cell c1 hbn
                  replace c2 := kept_cell c2 hbn
                  replace c3 := kept_cell c3 hbn
                  replace d0 := kept_cell d0 hbn
                  replace d1 := kept_cell d1 hbn
                  replace d2 := kept_cell d2 hbn
                  replace d3 := kept_cell d3 hbn
                  replace A2 := A2.below hbn
                  replace hb := upw hb hbn
                  clear hbn
                  have hH := Lib.hid (fun w' h => f6has_c a2 R k2 v w' h (by omega))
                  rw [hE.out] at hH
                  clear hE hC1 hC2
                  cases hq : ((Q : Int) == v)
                  · rw [hq, Bool.not_false] at hH
                    have hqn : ((Q : Int) != v) = true := by simp [bne, hq]
                    clear hq
                    go_wp2_with fail
                    refine (hH.out _ A2).mono ?_
                    rintro e w' ⟨rfl, rfl⟩
                    go_wp2_with fail
                    go_roundw
                    case rel => exact ⟨v + 1, by first | rfl | go_num, by omega, hbr⟩
                    case measure => first | (simp [intOf]; done) | (simp [intOf]; omega)
                  · rw [hq, Bool.not_true] at hH
                    have hqn : ((Q : Int) != v) = false := by simp [bne, hq]
                    clear hq
                    go_wp2_with fail
                    refine (hH.out _ A2).mono ?_
                    rintro e w' ⟨rfl, rfl⟩
                    go_wp2_with fail
                    go_roundw
                    case rel => exact ⟨v + 1, by first | rfl | go_num, by omega, hbr⟩
                    case measure => first | (simp [intOf]; done) | (simp [intOf]; omega)
                · go_wp2_with fail
                  go_ret
                  exact ⟨rfl, hb⟩
            · have hB0' : (B != 0) = true := by simp [bne, hB0]
              clear hB0
              go_wp2_with fail
              go_ret
              exact ⟨rfl, hb⟩
        · have hb2' : (b2 == 0) = false := beq_eq_false_iff_ne.2 hb2
          clear hb2 hWn r0 r1 r2 r3
          by_cases hB0 : B = 0
          · subst hB0
            obtain ⟨⟨ox, oy, hf, ht⟩, hm⟩ := hB.out rfl
            replace hm := Lib.hid hm
            replace ox := Lib.hid ox
            replace oy := Lib.hid oy
            clear hB
            go_wp2_with fail
            go_loopw [38, 39, 40, 41, 42] (fun i _ _ _ _ wr => ∃ v : Int, i = .int .i64 v ∧ (f ≤ v ∧ v ≤ t + 1) ∧ Below wq.heap.size wq wr) (fun i _ _ _ _ _ => (t + 1 - intOf i).toNat)
            case atStart => exact ⟨f, rfl, by omega, Below.refl _ _⟩
            case round =>
              obtain ⟨v, rfl, hv, hbn⟩ := hrel
              have hbr := hbn
              replace c0 := kept_cell c0 hbn
              replace c1 := kept_cell c1 hbn
              replace c2 := kept_cell c2 hbn
              replace c3 := kept_cell c3 hbn
              replace d0 := kept_cell d0 hbn
              replace d1 := kept_cell d1 hbn
              replace d2 := kept_cell d2 hbn
              replace d3 := kept_cell d3 hbn
              replace A2 := A2.below hbn
              replace hb := upw hb hbn
              clear hbn
              by_cases hvt : v ≤ t
              · have hq1 := conv_le x y v
                have hC1 := Lib.hid (fun w' => implConvertHalf_c x y v w' hxs2 hys2)
                rw [cv_ok ox.out oy.out (by omega)] at hC1
                have hC2 := Lib.hid (fun w' => implConvertHalf_c y x ((conv x y v : Nat) : Int) w' hys2 hxs2)
                rw [cv_ok oy.out ox.out (by omega)] at hC2
                have hE := Lib.hid ((hm.out v (by omega)).trans (show lostAt x y v = !(((conv y x (conv x y v : Nat) : Nat) : Int) == v) from rfl))
                generalize conv y x ((conv x y v : Nat) : Int) = Q at *
                generalize conv x y v = P at *
                go_wp2_with fail
                refine (hC1.out _).mono ?_
                rintro e wa ⟨rfl, hbn⟩
                replace hbr := upw hbr hbn
                replace c0 := kept_cell c0 hbn
                replace c1 := kept_cell c1 hbn
                replace c2 := kept_cell c2 hbn
                replace c3 := kept_cell c3 hbn
                replace d0 := kept_cell d0 hbn
                replace d1 := kept_cell d1 hbn
                replace d2 := kept_cell d2 hbn
                replace d3 := kept_cell d3 hbn
                replace A2 := A2.below hbn
                replace hb := upw hb hbn
                clear hbn
                go_wp2_with fail
                refine (hC2.out _).mono ?_
                rintro e wb ⟨rfl, hbn⟩
                replace hbr := upw hbr hbn
                replace c0 := kept_cell c0 hbn
                replace c1 := kept_cell c1 hbn
                replace c2 := kept_cell c2 hbn
                replace c3 := kept_cell c3 hbn
                replace d0 := kept_cell d0 hbn
                replace d1 := kept_cell d1 hbn
                replace d2 := kept_cell d2 hbn
                replace d3 := kept_cell d3 hbn
                replace A2 := A2.below hbn
                replace hb := upw hb hbn
                clear hbn
                have hH := Lib.hid (fun w' h => f6has_c a2 R k2 v w' h (by omega))
                rw [hE.out] at hH
                clear hE hC1 hC2
                cases hq : ((Q : Int) == v)
                · rw [hq, Bool.not_false] at hH
                  have hqn : ((Q : Int) != v) = true := by simp [bne, hq]
                  clear hq
                  go_wp2_with fail
                  refine (hH.out _ A2).mono ?_
                  rintro e w' ⟨rfl, rfl⟩
                  go_wp2_with fail
                  go_roundw
                  case rel => exact ⟨v + 1, by first | rfl | go_num, by omega, hbr⟩
                  case measure => first | (simp [intOf]; done) | (simp [intOf]; omega)
                · rw [hq, Bool.not_true] at hH
                  have hqn : ((Q : Int) != v) = false := by simp [bne, hq]
                  clear hq
                  go_wp2_with fail
                  refine (hH.out _ A2).mono ?_
                  rintro e w' ⟨rfl, rfl⟩
                  go_wp2_with fail
                  go_roundw
                  case rel => exact ⟨v + 1, by first | rfl | go_num, by omega, hbr⟩
                  case measure => first | (simp [intOf]; done) | (simp [intOf]; omega)
              · go_wp2_with fail
                go_ret
                exact ⟨rfl, hb⟩
          · have hB0' : (B != 0) = true := by simp [bne, hB0]
            clear hB0
            go_wp2_with fail
            go_ret
            exact ⟨rfl, hb⟩
    · have hn2' : (n2 == 0) = false := beq_eq_false_iff_ne.2 hn2
      clear hn2 hN hC3 p0 p1 p2 p3 q0 q1 q2 q3
      by_cases hb2 : b2 = 0
      · subst hb2
        obtain ⟨_, rfl, hK, g1, g2, g3⟩ := hWn.out rfl
        clear hWn
        have hQ := Lib.hid (fun w' => implGirthOf_c g wh b1 w')
        obtain ⟨G1, hG1⟩ : ∃ G1, G1 = (gofRes g wh b1).1 := ⟨_, rfl⟩
        rw [g1, ← hG1] at hQ
        rw [← hG1] at g2
        clear hG1 g1
        by_cases hk : 0 < b1
        · obtain ⟨g4, g5⟩ := g3 hk
          have hQ2 := Lib.hid (fun w' => implGirthOf_c g wh (b1 - 1) w')
          clear g3
          obtain ⟨G3, hG3⟩ : ∃ G3, G3 = (gofRes g wh (b1 - 1)).1 := ⟨_, rfl⟩
          rw [g4, ← hG3] at hQ2
          rw [← hG3] at g5
          clear hG3 g4
          go_wp2_with fail
          refine (hQ.out _).mono ?_
          rintro e wg1 ⟨rfl, hbn⟩
          replace c0 := kept_cell c0 hbn
          replace c1 := kept_cell c1 hbn
          replace c2 := kept_cell c2 hbn
          replace c3 := kept_cell c3 hbn
          replace d0 := kept_cell d0 hbn
          replace d1 := kept_cell d1 hbn
          replace d2 := kept_cell d2 hbn
          replace d3 := kept_cell d3 hbn
          replace r0 := kept_cell r0 hbn
          replace r1 := kept_cell r1 hbn
          replace r2 := kept_cell r2 hbn
          replace r3 := kept_cell r3 hbn
          replace A2 := A2.below hbn
          replace hb := upw hb hbn
          clear hbn
          go_wp2_with fail
          refine (hQ2.out _).mono ?_
          rintro e wg2 ⟨rfl, hbn⟩
          replace c0 := kept_cell c0 hbn
          replace c1 := kept_cell c1 hbn
          replace c2 := kept_cell c2 hbn
          replace c3 := kept_cell c3 hbn
          replace d0 := kept_cell d0 hbn
          replace d1 := kept_cell d1 hbn
          replace d2 := kept_cell d2 hbn
          replace d3 := kept_cell d3 hbn
          replace A2 := A2.below hbn
          replace hb := upw hb hbn
          clear hbn
          clear r0 r1 r2 r3 hQ hQ2 g2
          by_cases hB0 : B = 0
          · subst hB0
            obtain ⟨⟨ox, oy, hf, ht⟩, hm⟩ := hB.out rfl
            replace hm := Lib.hid hm
            replace ox := Lib.hid ox
            replace oy := Lib.hid oy
            clear hB
            go_wp2_with fail
            go_loopw [38, 39, 40, 41, 42] (fun i _ _ _ _ wr => ∃ v : Int, i = .int .i64 v ∧ (f ≤ v ∧ v ≤ t + 1) ∧ Below wg2.heap.size wg2 wr) (fun i _ _ _ _ _ => (t + 1 - intOf i).toNat)
            case atStart => exact ⟨f, rfl, by omega, Below.refl _ _⟩
            case round =>
              obtain ⟨v, rfl, hv, hbn⟩ := hrel
              have hbr := hbn
              replace c0 := kept_cell c0 hbn
              replace c1 := kept_cell c1 hbn
              replace c2 := kept_cell c2 hbn
              replace c3 := kept_cell c3 hbn
              replace d0 := kept_cell d0 hbn
              replace d1 := kept_cell d1 hbn
              replace d2 := kept_cell d2 hbn
              replace d3 := kept_cell d3 hbn
              replace A2 := A2.below hbn
              replace hb := upw hb hbn
              clear hbn
              by_cases hvt : v ≤ t
              · have hq1 := conv_le x y v
                have hC1 := Lib.hid (fun w' => implConvertHalf_c x y v w' hxs2 hys2)
                rw [cv_ok ox.out oy.out (by omega)] at hC1
                have hC2 := Lib.hid (fun w' => implConvertHalf_c y x ((conv x y v : Nat) : Int) w' hys2 hxs2)
                rw [cv_ok oy.out ox.out (by omega)] at hC2
                have hE := Lib.hid ((hm.out v (by omega)).trans (show lostAt x y v = !(((conv y x (conv x y v : Nat) : Nat) : Int) == v) from rfl))
                generalize conv y x ((conv x y v : Nat) : Int) = Q at *
                generalize conv x y v = P at *
                go_wp2_with fail
                refine (hC1.out _).mono ?_
                rintro e wa ⟨rfl, hbn⟩
                replace hbr := upw hbr hbn
                replace c0 := kept_cell c0 hbn
                replace c1 := kept_cell c1 hbn
                replace c2 := kept_cell c2 hbn
                replace c3 := kept_cell c3 hbn
                replace d0 := kept_cell d0 hbn
                replace d1 := kept_cell d1 hbn
                replace d2 := kept_cell d2 hbn
                replace d3 := kept_cell d3 hbn
                replace A2 := A2.below hbn
                replace hb := upw hb hbn
                clear hbn
                go_wp2_with fail
                refine (hC2.out _).mono ?_
                rintro e wb ⟨rfl, hbn⟩
                replace hbr := upw hbr hbn
                replace c0 := kept_cell c0 hbn
                replace c1 := kept_cell c1 hbn
                replace c2 := kept_cell c2 hbn
                replace c3 := kept_cell c3 hbn
                replace d0 := kept_cell d0 hbn
                replace d1 := kept_cell d1 hbn
                replace d2 := kept_cell d2 hbn
                replace d3 := kept_cell d3 hbn
                replace A2 := A2.below hbn
                replace hb := upw hb hbn
                clear hbn
                have hH := Lib.hid (fun w' h => f6has_c a2 R k2 v w' h (by omega))
                rw [hE.out] at hH
                clear hE hC1 hC2
                cases hq : ((Q : Int) == v)
                · rw [hq, Bool.not_false] at hH
                  have hqn : ((Q : Int) != v) = true := by simp [bne, hq]
                  clear hq
                  go_wp2_with fail
                  refine (hH.out _ A2).mono ?_
                  rintro e w' ⟨rfl, rfl⟩
                  go_wp2_with fail
                  go_roundw
                  case rel => exact ⟨v + 1, by first | rfl | go_num, by omega, hbr⟩
                  case measure => first | (simp [intOf]; done) | (simp [intOf]; omega)
                · rw [hq, Bool.not_true] at hH
                  have hqn : ((Q : Int) != v) = false := by simp [bne, hq]
                  clear hq
                  go_wp2_with fail
                  refine (hH.out _ A2).mono ?_
                  rintro e w' ⟨rfl, rfl⟩
                  go_wp2_with fail
                  go_roundw
                  case rel => exact ⟨v + 1, by first | rfl | go_num, by omega, hbr⟩
                  case measure => first | (simp [intOf]; done) | (simp [intOf]; omega)
              · go_wp2_with fail
                go_ret
                exact ⟨rfl, hb⟩
          · have hB0' : (B != 0) = true := by simp [bne, hB0]
            clear hB0
            go_wp2_with fail
            go_ret
            exact ⟨rfl, hb⟩
        · clear g3
          go_wp2_with fail
          refine (hQ.out _).mono ?_
          rintro e wg1 ⟨rfl, hbn⟩
          replace c0 := kept_cell c0 hbn
          replace c1 := kept_cell c1 hbn
          replace c2 := kept_cell c2 hbn
          replace c3 := kept_cell c3 hbn
          replace d0 := kept_cell d0 hbn
          replace d1 := kept_cell d1 hbn
          replace d2 := kept_cell d2 hbn
          replace d3 := kept_cell d3 hbn
          replace A2 := A2.below hbn
          replace hb := upw hb hbn
          clear hbn
          clear r0 r1 r2 r3 hQ
          by_cases hB0 : B = 0
          · subst hB0
            obtain ⟨⟨ox, oy, hf, ht⟩, hm⟩ := hB.out rfl
            replace hm := Lib.hid hm
            replace ox := Lib.hid ox
            replace oy := Lib.hid oy
            clear hB
            go_wp2_with fail
            go_loopw [38, 39, 40, 41, 42] (fun i _ _ _ _ wr => ∃ v : Int, i = .int .i64 v ∧ (f ≤ v ∧ v ≤ t + 1) ∧ Below wg1.heap.size wg1 wr) (fun i _ _ _ _ _ => (t + 1 - intOf i).toNat)
            case atStart => exact ⟨f, rfl, by omega, Below.refl _ _⟩
            case round =>
              obtain ⟨v, rfl, hv, hbn⟩ := hrel
              have hbr := hbn
              replace c0 := kept_cell c0 hbn
              replace c1 := kept_cell c1 hbn
              replace c2 := kept_cell c2 hbn
              replace c3 := kept_cell c3 hbn
              replace d0 := kept_cell d0 hbn
              replace d1 := kept_cell d1 hbn
              replace d2 := kept_cell d2 hbn
              replace d3 := kept_cell d3 hbn
              replace A2 := A2.below hbn
              replace hb := upw hb hbn
              clear hbn
              by_cases hvt : v ≤ t
              · have hq1 := conv_le x y v
                have hC1 := Lib.hid (fun w' => implConvertHalf_c x y v w' hxs2 hys2)
                rw [cv_ok ox.out oy.out (by omega)] at hC1
                have hC2 := Lib.hid (fun w' => implConvertHalf_c y x ((conv x y v : Nat) : Int) w' hys2 hxs2)
                rw [cv_ok oy.out ox.out (by omega)] at hC2
                have hE := Lib.hid ((hm.out v (by omega)).trans (show lostAt x y v = !(((conv y x (conv x y v : Nat) : Nat) : Int) == v) from rfl))
                generalize conv y x ((conv x y v : Nat) : Int) = Q at *
                generalize conv x y v = P at *
                go_wp2_with fail
                refine (hC1.out _).mono ?_
                rintro e wa ⟨rfl, hbn⟩
                replace hbr := upw hbr hbn
                replace c0 := kept_cell c0 hbn
                replace c1 := kept_cell c1 hbn
                replace c2 := kept_cell c2 hbn
                replace c3 := kept_cell c3 hbn
                replace d0 := kept_cell d0 hbn
                replace d1 := kept_cell d1 hbn
                replace d2 := kept_cell d2 hbn
                replace d3 := kept_cell d3 hbn
                replace A2 := A2.below hbn
                replace hb := upw hb hbn
                clear hbn
                go_wp2_with fail
                refine (hC2.out _).mono ?_
                rintro e wb ⟨rfl, hbn⟩
                replace hbr := upw hbr hbn
                replace c0 := kept_cell c0 hbn
                replace c1 := kept_cell c1 hbn
                replace c2 := kept_cell c2 hbn
                replace c3 := kept_cell c3 hbn
                replace d0 := kept_cell d0 hbn
                replace d1 := kept_cell d1 hbn
                replace d2 := kept_cell d2 hbn
                replace d3 := kept_cell d3 hbn
                replace A2 := A2.below hbn
                replace hb := upw hb hbn
                clear hbn
                have hH := Lib.hid (fun w' h => f6has_c a2 R k2 v w' h (by omega))
                rw [hE.out] at hH
                clear hE hC1 hC2
                cases hq : ((Q : Int) == v)
                · rw [hq, Bool.not_false] at hH
                  have hqn : ((Q : Int) != v) = true := by simp [bne, hq]
                  clear hq
                  go_wp2_with fail
                  refine (hH.out _ A2).mono ?_
                  rintro e w' ⟨rfl, rfl⟩
                  go_wp2_with fail
                  go_roundw
                  case rel => exact ⟨v + 1, by first | rfl | go_num, by omega, hbr⟩
                  case measure => first | (simp [intOf]; done) | (simp [intOf]; omega)
                · rw [hq, Bool.not_true] at hH
                  have hqn : ((Q : Int) != v) = false := by simp [bne, hq]
                  clear hq
                  go_wp2_with fail
                  refine (hH.out _ A2).mono ?_
                  rintro e w' ⟨rfl, rfl⟩
                  go_wp2_with fail
                  go_roundw
                  case rel => exact ⟨v + 1, by first | rfl | go_num, by omega, hbr⟩
                  case measure => first | (simp [intOf]; done) | (simp [intOf]; omega)
              · go_wp2_with fail
                go_ret
                exact ⟨rfl, hb⟩
          · have hB0' : (B != 0) = true := by simp [bne, hB0]
            clear hB0
            go_wp2_with fail
            go_ret
            exact ⟨rfl, hb⟩
      · have hb2' : (b2 == 0) = false := beq_eq_false_iff_ne.2 hb2
        clear hb2 hWn r0 r1 r2 r3
        by_cases hB0 : B = 0
        · subst hB0
          obtain ⟨⟨ox, oy, hf, ht⟩, hm⟩ := hB.out rfl
          replace hm := Lib.hid hm
          replace ox := Lib.hid ox
          replace oy := Lib.hid oy
          clear hB
          go_wp2_with fail
          go_loopw [38, 39, 40, 41, 42] (fun i _ _ _ _ wr => ∃ v : Int, i = .int .i64 v ∧ (f ≤ v ∧ v ≤ t + 1) ∧ Below wq.heap.size wq wr) (fun i _ _ _ _ _ => (t + 1 - intOf i).toNat)
          case atStart => exact ⟨f, rfl, by omega, Below.refl _ _⟩
          case round =>
            obtain ⟨v, rfl, hv, hbn⟩ := hrel
            have hbr := hbn
            replace c0 := kept_cell c0 hbn
            replace c1 := kept_cell c1 hbn
            replace c2 := kept_cell c2 hbn
            replace c3 := kept_cell c3 hbn
            replace d0 := kept_cell d0 hbn
            replace d1 := kept_cell d1 hbn
            replace d2 := kept_cell d2 hbn
            replace d3 := kept_cell d3 hbn
            replace A2 := A2.below hbn
            replace hb := upw hb hbn
            clear hbn
            by_cases hvt : v ≤ t
            · have hq1 := conv_le x y v
              have hC1 := Lib.hid (fun w' => implConvertHalf_c x y v w' hxs2 hys2)
              rw [cv_ok ox.out oy.out (by omega)] at hC1
              have hC2 := Lib.hid (fun w' => implConvertHalf_c y x ((conv x y v : Nat) : Int) w' hys2 hxs2)
              rw [cv_ok oy.out ox.out (by omega)] at hC2
              have hE := Lib.hid ((hm.out v (by omega)).trans (show lostAt x y v = !(((conv y x (conv x y v : Nat) : Nat) : Int) == v) from rfl))
              generalize conv y x ((conv x y v : Nat) : Int) = Q at *
              generalize conv x y v = P at *
              go_wp2_with fail
              refine (hC1.out _).mono ?_
              rintro e wa ⟨rfl, hbn⟩
              replace hbr := upw hbr hbn
              replace c0 := kept_cell c0 hbn
              replace c1 := kept_cell c1 hbn
              replace c2 := kept_cell c2 hbn
              replace c3 := kept_cell c3 hbn
              replace d0 := kept_cell d0 hbn
              replace d1 := kept_cell d1 hbn
              replace d2 := kept_cell d2 hbn
              replace d3 := kept_cell d3 hbn
              replace A2 := A2.below hbn
              replace hb := upw hb hbn
              clear hbn
              go_wp2_with fail
              refine (hC2.out _).mono ?_
              rintro e wb ⟨rfl, hbn⟩
              replace hbr := upw hbr hbn
              replace c0 := kept_cell c0 hbn
              replace c1 := kept_cell c1 hbn
              replace c2 := kept_cell c2 hbn
              replace c3 := kept_cell c3 hbn
              replace d0 := kept_cell d0 hbn
              replace d1 := kept_cell d1 hbn
              replace d2 := kept_cell d2 hbn
              replace d3 := kept_cell d3 hbn
              replace A2 := A2.below hbn
              replace hb := upw hb hbn
              clear hbn
              have hH := Lib.hid (fun w' h => f6has_c a2 R k2 v w' h (by omega))
              rw [hE.out] at hH
              clear hE hC1 hC2
              cases hq : ((Q : Int) == v)
              · rw [hq, Bool.not_false] at hH
                have hqn : ((Q : Int) != v) = true := by simp [bne, hq]
                clear hq
                go_wp2_with fail
                refine (hH.out _ A2).mono ?_
                rintro e w' ⟨rfl, rfl⟩
                go_wp2_with fail
                go_roundw
                case rel => exact ⟨v + 1, by first | rfl | go_num, by omega, hbr⟩
                case measure => first | (simp [intOf]; done) | (simp [intOf]; omega)
              · rw [hq, Bool.not_true] at hH
                have hqn : ((Q : Int) != v) = false := by simp [bne, hq]
                clear hq
                go_wp2_with fail
                refine (hH.out _ A2).mono ?_
                rintro e w' ⟨rfl, rfl⟩
                go_wp2_with fail
                go_roundw
                case rel => exact ⟨v + 1, by first | rfl | go_num, by omega, hbr⟩
                case measure => first | (simp [intOf]; done) | (simp [intOf]; omega)
            · go_wp2_with fail
              go_ret
              exact ⟨rfl, hb⟩
        · have hB0' : (B != 0) = true := by simp [bne, hB0]
          clear hB0
          go_wp2_with fail
          go_ret
          exact ⟨rfl, hb⟩
end Go.Proofs.Ytlaclknhenccdaa
