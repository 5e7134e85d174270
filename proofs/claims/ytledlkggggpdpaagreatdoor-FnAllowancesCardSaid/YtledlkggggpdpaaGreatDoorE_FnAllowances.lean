/- FnAllowances: for all bytes the law returns true, and the bytes read behind the call as before. -/
import Derived.Test.YtledlkggggpdpaaGreatDoorSam
import Derived.Test.YtledlkggggpdpaaGreatDoorAllowMath
import Derived.Test.YtledlkggggpdpaaGreatDoorF6
namespace Go.Proofs.YtledlkggggpdpaaGreatDoor
open Go.ChangeShapes Go.WideShapes Go.ChangeAt Go.RowKit

theorem strip_same (a b c d : Int) (w : World) : (binOp .neq 54 (.agg #[.int .i64 a, .int .i64 b, .int .i64 c, .int .i64 d]) (.agg #[.int .i64 a, .int .i64 b, .int .i64 c, .int .i64 d])).run Tryz.prog w = .ok (.bool false) w := by
  simp [go_sem]
attribute [local go_sem ↓] strip_same
set_option maxRecDepth 100000 in
set_option maxHeartbeats 8000000 in
theorem lawAllowances (a : Option Addr) (L : List UInt8) (c : Nat) (w : World) (hx : At w a L) (hlx : L.length ≤ 9223372036854775807) (hT : TabR w) :
    Calls Tryz.prog 4 #[.slice a L.length c] w fun e w' => e = .returned (.bool true) ∧ Below w.heap.size w w' := by
  have hbig := f6big_c a L.length c w
  by_cases hg : 4096 < L.length
  · have e : decide (4096 < L.length) = true := by simpa using hg
    rw [e] at hbig
    go_enter Tryz.func4, Tryz.ntmps4
    go_wp2_with fail
    refine hbig.mono ?_
    rintro e w1 ⟨rfl, rfl⟩
    go_wp2_with fail
    go_ret
    exact ⟨rfl, Below.refl _ _⟩
  · have e : decide (4096 < L.length) = false := by simpa using hg
    rw [e] at hbig
    clear e
    have D := Lib.hid (Sp.refl w)
    replace hT := Lib.hid hT
    replace hx := Lib.hid hx
    go_enter Tryz.func4, Tryz.ntmps4
    go_wp2_with fail
    refine hbig.mono ?_
    rintro e w1 ⟨rfl, rfl⟩
    clear hbig hg
    go_wp2_with fail
    refine (drawAddAllow_c a L c _ (hx.out.below D.out.up) hlx).mono ?_
    rintro e w2 ⟨v, xs, k, m, rfl, hxl, hxr, hkr, hmr, hO, hb⟩
    obtain ⟨xa, xc, rfl, -⟩ := hO.at
    replace hT := Lib.hid (hT.out.below hb)
    replace D := Lib.hid (D.out.add hb hO)
    clear hb hO
    have k1 := Lib.hid (fun w' h => implAddAllow_c xa xs xc k m w' h (by omega) hkr hmr)
    have k2 := Lib.hid (fun w' h => specAddAllow_c xa xs xc k m w' h (by omega) hkr hmr)
    have fA := Lib.hid (allow_facts xs k m)
    have hAl := AddAllow_len xs k m
    generalize addAllowCode xs k m = cA at *
    generalize addAllow xs k m = A at *
    clear hxr hkr hmr
    go_wp2_with fail
    refine (k1.out _ (D.out.get 0 rfl : Own _ _ _ _ xs).at').mono ?_
    rintro e w2 ⟨v, rfl, hO, hb⟩
    obtain ⟨pa, pc, rfl, -⟩ := hO.at
    replace hT := Lib.hid (hT.out.below hb)
    replace D := Lib.hid (D.out.add hb hO)
    clear hb hO
    clear k1
    go_wp2_with fail
    refine (k2.out _ (D.out.get 1 rfl : Own _ _ _ _ xs).at').mono ?_
    rintro e w2 ⟨v, rfl, hO, hb⟩
    obtain ⟨pb, pd, rfl, -⟩ := hO.at
    replace hT := Lib.hid (hT.out.below hb)
    replace D := Lib.hid (D.out.add hb hO)
    clear hb hO
    clear k2
    go_wp2_with fail
    refine (drawCutLengths_c a L c _ (hx.out.below D.out.up) hlx).mono ?_
    rintro e w2 ⟨v, ys, rfl, hyl, hyr, hO, hb⟩
    obtain ⟨ya, yc, rfl, -⟩ := hO.at
    replace hT := Lib.hid (hT.out.below hb)
    replace D := Lib.hid (D.out.add hb hO)
    clear hb hO
    have k1 := Lib.hid (fun w' h => implCutLengths_c ya ys yc w' h (by omega))
    have k2 := Lib.hid (fun w' h => specCutLengths_c ya ys yc w' h (by omega))
    have k3 := Lib.hid (fun w' h => implRoundStrips_c ya ys yc w' h (by omega))
    have k4 := Lib.hid (fun w' h => specRoundStrips_c ya ys yc w' h (by omega))
    have k5 := Lib.hid (fun w' h => implAllowArea_c ya ys yc w' h (by omega))
    have k6 := Lib.hid (fun w' h => specAllowArea_c ya ys yc w' h (by omega))
    have f1 := Lib.hid (cut_facts ys)
    have f2 := Lib.hid (round_facts ys)
    have f3 := Lib.hid (area_facts ys)
    have f4 := Lib.hid (cuts_prefix ys)
    have hCl := CutLengths_len ys
    generalize cutsCode ys = cC at *
    generalize cuts ys = C at *
    generalize (roundRes ys).1 = R0 at *
    generalize (roundRes ys).2.1 = R1 at *
    generalize (roundRes ys).2.2 = R2 at *
    generalize (areaRes ys).1 = R3 at *
    generalize (areaRes ys).2 = R4 at *
    clear hyr
    go_wp2_with fail
    refine (k1.out _ (D.out.get 0 rfl : Own _ _ _ _ ys).at').mono ?_
    rintro e w2 ⟨v, rfl, hO, hb⟩
    obtain ⟨ca, cc, rfl, -⟩ := hO.at
    replace hT := Lib.hid (hT.out.below hb)
    replace D := Lib.hid (D.out.add hb hO)
    clear hb hO
    clear k1
    go_wp2_with fail
    refine (k2.out _ (D.out.get 1 rfl : Own _ _ _ _ ys).at').mono ?_
    rintro e w2 ⟨v, rfl, hO, hb⟩
    obtain ⟨cb, cd, rfl, -⟩ := hO.at
    replace hT := Lib.hid (hT.out.below hb)
    replace D := Lib.hid (D.out.add hb hO)
    clear hb hO
    clear k2
    go_wp2_with fail
    refine (k3.out _ (D.out.get 2 rfl : Own _ _ _ _ ys).at').mono ?_
    rintro e w2 ⟨rfl, hb⟩
    replace hT := Lib.hid (hT.out.below hb)
    replace D := Lib.hid (D.out.later hb)
    clear hb
    clear k3
    go_wp2_with fail
    refine (k4.out _ (D.out.get 2 rfl : Own _ _ _ _ ys).at').mono ?_
    rintro e w2 ⟨rfl, hb⟩
    replace hT := Lib.hid (hT.out.below hb)
    replace D := Lib.hid (D.out.later hb)
    clear hb
    clear k4
    go_wp2_with fail
    refine (k5.out _ (D.out.get 2 rfl : Own _ _ _ _ ys).at').mono ?_
    rintro e w2 ⟨rfl, hb⟩
    replace hT := Lib.hid (hT.out.below hb)
    replace D := Lib.hid (D.out.later hb)
    clear hb
    clear k5
    go_wp2_with fail
    refine (k6.out _ (D.out.get 2 rfl : Own _ _ _ _ ys).at').mono ?_
    rintro e w2 ⟨rfl, hb⟩
    replace hT := Lib.hid (hT.out.below hb)
    replace D := Lib.hid (D.out.later hb)
    clear hb
    clear k6
    go_wp2_with fail
    refine (drawStripText_c a L c _ (hx.out.below D.out.up) hlx).mono ?_
    rintro e w2 ⟨x, rfl, hxx, hb⟩
    replace hT := Lib.hid (hT.out.below hb)
    replace D := Lib.hid (D.out.later hb)
    clear hb
    have k1 := Lib.hid (fun w' h => implStripText_c x w' hxx h)
    have k2 := Lib.hid (fun w' => specStripText_c x w' hxx)
    have k3 := Lib.hid (fun w' h => implReadStrip_c (stripText x) w' h (stripText_size x))
    obtain ⟨y, b, he, hb0, hb1⟩ := read_back x
    rw [he] at k3
    unfold stripRet at k3
    generalize stripText x = T at *
    clear he hxx
    replace hb0 := Lib.hid hb0
    replace hb1 := Lib.hid hb1
    obtain ⟨wn, hwn⟩ : ∃ wn, wn = w2.alloc (.cells #[.int .i64 x.Length, .int .i64 x.Allow, .int .i64 x.Left, .int .i64 x.Right] 54) := ⟨_, rfl⟩
    replace D := Lib.hid (D.out.add (w' := wn) (by rw [hwn]; exact newB w2 _) (by rw [hwn]; exact own_strip w2 54 x))
    replace hT := Lib.hid (hT.out.below (w' := wn) (by rw [hwn]; exact newB w2 _))
    replace hwn := Lib.hid hwn
    obtain ⟨x0, x1, x2, x3⟩ := strip_cell4 (D.out.get 0 rfl : Own _ _ _ _ [x])
    obtain ⟨nx, hnx⟩ : ∃ b, b = w2.heap.size := ⟨_, rfl⟩
    go_wp2_with (rw [← hwn.out])
    clear x0 x1 x2 x3
    rw [← hnx] at D ⊢
    clear hnx hwn w2
    refine (k1.out _ hT.out.tab).mono ?_
    rintro e w2 ⟨rfl, hb⟩
    replace hT := Lib.hid (hT.out.below hb)
    replace D := Lib.hid (D.out.later hb)
    clear hb
    clear k1
    go_wp2_with fail
    refine (k3.out _ hT.out).mono ?_
    rintro e w2 ⟨rfl, hb⟩
    replace hT := Lib.hid (hT.out.below hb)
    replace D := Lib.hid (D.out.later hb)
    clear hb
    clear k3
    obtain ⟨wn, hwn⟩ : ∃ wn, wn = w2.alloc (.cells #[.int .i64 y.Length, .int .i64 y.Allow, .int .i64 y.Left, .int .i64 y.Right] 54) := ⟨_, rfl⟩
    replace D := Lib.hid (D.out.add (w' := wn) (by rw [hwn]; exact newB w2 _) (by rw [hwn]; exact own_strip w2 54 y))
    replace hT := Lib.hid (hT.out.below (w' := wn) (by rw [hwn]; exact newB w2 _))
    replace hwn := Lib.hid hwn
    obtain ⟨ny, hny⟩ : ∃ b, b = w2.heap.size := ⟨_, rfl⟩
    go_wp2_with (rw [← hwn.out])
    rw [← hny] at D ⊢
    clear hny hwn w2
    refine (drawReadStrip_c a L c _ (hx.out.below D.out.up) hlx).mono ?_
    rintro e w2 ⟨s, rfl, hs, hb⟩
    replace hT := Lib.hid (hT.out.below hb)
    replace D := Lib.hid (D.out.later hb)
    clear hb
    have k1 := Lib.hid (fun w' h => implReadStrip_c s w' h hs)
    have k3 := Lib.hid (fun w' => specReadStrip_c s w' hs)
    obtain ⟨z, bz, he⟩ : ∃ z bz, stripRes (readStrip s) = stripRet z bz := ⟨_, _, stripRes_ret _⟩
    rw [he] at k1 k3
    unfold stripRet at k1 k3
    clear he hs
    go_wp2_with fail
    refine (k1.out _ hT.out).mono ?_
    rintro e w2 ⟨rfl, hb⟩
    replace hT := Lib.hid (hT.out.below hb)
    replace D := Lib.hid (D.out.later hb)
    clear hb
    clear k1
    obtain ⟨wn, hwn⟩ : ∃ wn, wn = w2.alloc (.cells #[.int .i64 z.Length, .int .i64 z.Allow, .int .i64 z.Left, .int .i64 z.Right] 54) := ⟨_, rfl⟩
    replace D := Lib.hid (D.out.add (w' := wn) (by rw [hwn]; exact newB w2 _) (by rw [hwn]; exact own_strip w2 54 z))
    replace hT := Lib.hid (hT.out.below (w' := wn) (by rw [hwn]; exact newB w2 _))
    replace hwn := Lib.hid hwn
    obtain ⟨nz, hnz⟩ : ∃ b, b = w2.heap.size := ⟨_, rfl⟩
    go_wp2_with (rw [← hwn.out])
    rw [← hnz] at D ⊢
    clear hnz hwn w2
    refine (k3.out _).mono ?_
    rintro e w2 ⟨rfl, hb⟩
    replace hT := Lib.hid (hT.out.below hb)
    replace D := Lib.hid (D.out.later hb)
    clear hb
    clear k3
    obtain ⟨wn, hwn⟩ : ∃ wn, wn = w2.alloc (.cells #[.int .i64 z.Length, .int .i64 z.Allow, .int .i64 z.Left, .int .i64 z.Right] 54) := ⟨_, rfl⟩
    replace D := Lib.hid (D.out.add (w' := wn) (by rw [hwn]; exact newB w2 _) (by rw [hwn]; exact own_strip w2 54 z))
    replace hT := Lib.hid (hT.out.below (w' := wn) (by rw [hwn]; exact newB w2 _))
    replace hwn := Lib.hid hwn
    obtain ⟨nu, hnu⟩ : ∃ b, b = w2.heap.size := ⟨_, rfl⟩
    go_wp2_with (rw [← hwn.out])
    rw [← hnu] at D ⊢
    clear hnu hwn w2
    refine (drawSameStrips_c a L c _ (hx.out.below D.out.up) hlx).mono ?_
    rintro e w2 ⟨v1, v2, us, vs, rfl, hul, hvl, hU, hV, hb⟩
    obtain ⟨ua, uc, rfl, -⟩ := hU.at
    obtain ⟨va, vc, rfl, -⟩ := hV.at
    replace hU := Lib.hid hU.at'
    replace hV := Lib.hid hV.at'
    replace hT := Lib.hid (hT.out.below hb)
    replace D := Lib.hid (D.out.later hb)
    clear hb
    obtain ⟨u0, u1, u2, u3⟩ := strip_cell4 (D.out.get 0 rfl : Own _ _ _ _ [z])
    obtain ⟨z0, z1, z2, z3⟩ := strip_cell4 (D.out.get 1 rfl : Own _ _ _ _ [z])
    obtain ⟨y0, y1, y2, y3⟩ := strip_cell4 (D.out.get 2 rfl : Own _ _ _ _ [y])
    obtain ⟨x0, x1, x2, x3⟩ := strip_cell4 (D.out.get 3 rfl : Own _ _ _ _ [x])
    cases b
    · obtain rfl := hb0.out rfl
      clear hb0 hb1
      go_wp2_with fail
      refine (show Calls Tryz.prog 35 _ _ fun e w' => e = .returned (.bool true) ∧ Below _ _ w' by simpa using specSameStrips_c pa A pc pb A pd _ (D.out.get 8 rfl : Own _ _ _ _ A).at' (by omega) (D.out.get 7 rfl : Own _ _ _ _ A).at' (by omega)).mono ?_
      rintro e w2 ⟨rfl, hb⟩
      replace hU := Lib.hid (hU.out.below hb)
      replace hV := Lib.hid (hV.out.below hb)
      replace hT := Lib.hid (hT.out.below hb)
      replace D := Lib.hid (D.out.later hb)
      clear hb
      clear u0 u1 u2 u3 z0 z1 z2 z3 y0 y1 y2 y3 x0 x1 x2 x3
      obtain ⟨u0, u1, u2, u3⟩ := strip_cell4 (D.out.get 0 rfl : Own _ _ _ _ [z])
      obtain ⟨z0, z1, z2, z3⟩ := strip_cell4 (D.out.get 1 rfl : Own _ _ _ _ [z])
      obtain ⟨y0, y1, y2, y3⟩ := strip_cell4 (D.out.get 2 rfl : Own _ _ _ _ [y])
      obtain ⟨x0, x1, x2, x3⟩ := strip_cell4 (D.out.get 3 rfl : Own _ _ _ _ [x])
      go_wp2_with fail
      refine (f6ints_same ca cb C cc cd _ (D.out.get 5 rfl : Own _ _ _ _ C).at' (D.out.get 4 rfl : Own _ _ _ _ C).at' (by omega)).mono ?_
      rintro e w2 ⟨rfl, hb⟩
      replace hU := Lib.hid (hU.out.below hb)
      replace hV := Lib.hid (hV.out.below hb)
      replace hT := Lib.hid (hT.out.below hb)
      replace D := Lib.hid (D.out.later hb)
      clear hb
      clear u0 u1 u2 u3 z0 z1 z2 z3 y0 y1 y2 y3 x0 x1 x2 x3
      obtain ⟨u0, u1, u2, u3⟩ := strip_cell4 (D.out.get 0 rfl : Own _ _ _ _ [z])
      obtain ⟨z0, z1, z2, z3⟩ := strip_cell4 (D.out.get 1 rfl : Own _ _ _ _ [z])
      obtain ⟨y0, y1, y2, y3⟩ := strip_cell4 (D.out.get 2 rfl : Own _ _ _ _ [y])
      obtain ⟨x0, x1, x2, x3⟩ := strip_cell4 (D.out.get 3 rfl : Own _ _ _ _ [x])
      go_wp2_with fail
      refine (k2.out _).mono ?_
      rintro e w2 ⟨rfl, hb⟩
      replace hU := Lib.hid (hU.out.below hb)
      replace hV := Lib.hid (hV.out.below hb)
      replace hT := Lib.hid (hT.out.below hb)
      replace D := Lib.hid (D.out.later hb)
      clear hb
      clear k2
      clear u0 u1 u2 u3 z0 z1 z2 z3 y0 y1 y2 y3 x0 x1 x2 x3
      obtain ⟨u0, u1, u2, u3⟩ := strip_cell4 (D.out.get 0 rfl : Own _ _ _ _ [z])
      obtain ⟨z0, z1, z2, z3⟩ := strip_cell4 (D.out.get 1 rfl : Own _ _ _ _ [z])
      obtain ⟨y0, y1, y2, y3⟩ := strip_cell4 (D.out.get 2 rfl : Own _ _ _ _ [y])
      obtain ⟨x0, x1, x2, x3⟩ := strip_cell4 (D.out.get 3 rfl : Own _ _ _ _ [x])
      go_wp2_with fail
      refine (implSameStrips_c ua us uc va vs vc _ hU.out (by omega) hV.out (by omega)).mono ?_
      rintro e w2 ⟨rfl, hb⟩
      replace hU := Lib.hid (hU.out.below hb)
      replace hV := Lib.hid (hV.out.below hb)
      replace hT := Lib.hid (hT.out.below hb)
      replace D := Lib.hid (D.out.later hb)
      clear hb
      go_wp2_with fail
      refine (specSameStrips_c ua us uc va vs vc _ hU.out (by omega) hV.out (by omega)).mono ?_
      rintro e w2 ⟨rfl, hb⟩
      replace hU := Lib.hid (hU.out.below hb)
      replace hV := Lib.hid (hV.out.below hb)
      replace hT := Lib.hid (hT.out.below hb)
      replace D := Lib.hid (D.out.later hb)
      clear hb
      go_wp2_with fail
      refine (implValidStrips_c ya ys yc _ (D.out.get 6 rfl : Own _ _ _ _ ys).at' (by omega)).mono ?_
      rintro e w2 ⟨rfl, hb⟩
      replace hT := Lib.hid (hT.out.below hb)
      replace D := Lib.hid (D.out.later hb)
      clear hb
      go_wp2_with fail
      refine (specValidStrips_c ya ys yc _ (D.out.get 6 rfl : Own _ _ _ _ ys).at' (by omega)).mono ?_
      rintro e w2 ⟨rfl, hb⟩
      replace hT := Lib.hid (hT.out.below hb)
      replace D := Lib.hid (D.out.later hb)
      clear hb
      by_cases hcz : cC = 0
      · subst hcz
        obtain ⟨g1, g2, g3, g4⟩ := f1.out rfl
        obtain ⟨g5, g6, g7, g8⟩ := f2.out rfl
        have g9 := f4.out rfl
        replace g3 := Lib.hid g3
        replace g4 := Lib.hid g4
        replace g9 := Lib.hid g9
        have hlC : C.length = ys.length := by rw [g4.out, List.length_map]
        replace hlC := Lib.hid hlC
        have g6' : ¬ R1 < R0 := by omega
        go_wp2_with fail
        have Ac := Lib.hid (D.out.get 4 rfl : Own _ _ _ _ C).at'
        have Ay := Lib.hid (D.out.get 6 rfl : Own _ _ _ _ ys).at'
        obtain ⟨wb, hwb⟩ : ∃ wo : World, wo = w2 := ⟨_, rfl⟩
        subst hwb
        go_loopw [36] (fun i wr => ∃ k : Nat, k ≤ C.length ∧ i = .int .i64 k ∧ Below wb.heap.size wb wr) (fun i _ => C.length - (intOf i).toNat)
        case atStart => exact ⟨0, by omega, rfl, Below.refl _ _⟩
        case round =>
          obtain ⟨j, hj, rfl, hbr⟩ := hrel
          obtain ⟨wc, hwc⟩ : ∃ wo : World, wo = wr := ⟨_, rfl⟩
          subst hwc
          by_cases hlt : j < C.length
          · have hlt2 : j < ys.length := by rw [← hlC.out]; exact hlt
            obtain ⟨gd, od, rfl⟩ := Ac.out.addr hlt
            obtain ⟨ge, oe, rfl⟩ := Ay.out.addr hlt2
            have d1 := (Ac.out.below hbr).int hlt
            obtain ⟨s0, s1, s2, s3⟩ := (Ay.out.below hbr).strip hlt2
            have hok := g3.out _ (List.getElem_mem hlt2)
            have hcut : C[j] = cutLen ys[j] := by simp only [g4.out, List.getElem_map]
            rw [hcut] at d1
            have hle := cutLen_le hok
            have hz0 : ys[j].Allow = 0 → cutLen ys[j] = ys[j].Length := fun h => by unfold cutLen; rw [if_pos h]
            generalize ys[j] = x at *
            generalize cutLen x = u at *
            generalize x.Length = n at *
            generalize x.Allow = q at *
            have hle2 : ¬ u < n := by omega
            clear hok hcut s2 s3 hle
            replace d1 := rg d1
            replace s0 := rg s0
            replace s1 := rg s1
            have hltI : (j : Int) < C.length := by omega
            have hlt2I : (j : Int) < ys.length := by omega
            by_cases hq : q = 0
            · subst hq
              obtain rfl := hz0 rfl
              clear hz0
              go_wp2_with fail
              refine wp_region_quiet_below (by kernel_rfl) (by kernel_rfl) ?_
              repeat (go_big_quiet_step ((fail)))
              refine wpQuiet_nil ?_
              intro wq hw'
              have hbq := grown_of hw'
              clear hw'
              replace hbr := upw hbr hbq
              clear hbq
              go_wp2_with fail
              go_roundw
              case rel => exact ⟨j + 1, by omega, by first | rfl | go_num, hbr⟩
              case measure => first | (simp [intOf]; done) | (simp [intOf]; omega)
            · have hqB : (q == 0) = false := beq_eq_false_iff_ne.2 hq
              have hle3 : decide (u < n) = false := decide_eq_false hle2
              clear hz0
              go_wp2_with fail
              refine wp_region_quiet_below (by kernel_rfl) (by kernel_rfl) ?_
              repeat (go_big_quiet_step ((fail)))
              refine wpQuiet_nil ?_
              intro wq hw'
              have hbq := grown_of hw'
              clear hw'
              replace hbr := upw hbr hbq
              clear hbq
              go_wp2_with fail
              go_roundw
              case rel => exact ⟨j + 1, by omega, by first | rfl | go_num, hbr⟩
              case measure => first | (simp [intOf]; done) | (simp [intOf]; omega)
          · obtain rfl : j = C.length := by omega
            replace D := Lib.hid (D.out.later hbr)
            clear hbr hlt hj
            go_wp2_with fail
            refine (f6sum_c cb C cd wc (D.out.get 4 rfl : Own _ _ _ _ C).at' (by omega) g9.out).mono ?_
            rintro e w2 ⟨rfl, hb⟩
            rw [← g5]
            replace D := Lib.hid (D.out.later hb)
            clear hb
            go_wp2_with fail
            refine (f6widest_c ya ys yc w2 (D.out.get 6 rfl : Own _ _ _ _ ys).at' (by omega) (fun x hx => (okStrip_iff.1 (g3.out x hx)).2.1)).mono ?_
            rintro e w3 ⟨mw, rfl, m0, m1, m2, rfl⟩
            have f5 := f3.out (by first | rfl | trivial) mw m0 m1 m2
            clear m0 m1 m2
            by_cases hc : cA = 0
            · obtain ⟨n, rfl, h1, h2, e1, e2⟩ := fA.out hc
              subst hc
              have h1I : (n : Int) < xs.length := by omega
              have h2I : (n : Int) < A.length := by omega
              obtain ⟨xb, xo, rfl⟩ := (D.out.get 9 rfl : Own _ _ _ _ xs).at'.addr h1
              obtain ⟨pb', po, rfl⟩ := (D.out.get 8 rfl : Own _ _ _ _ A).at'.addr h2
              obtain ⟨x0, x1, x2, x3⟩ := (D.out.get 9 rfl : Own _ _ _ _ xs).at'.strip h1
              obtain ⟨y0, y1, y2, y3⟩ := (D.out.get 8 rfl : Own _ _ _ _ A).at'.strip h2
              rw [e1] at y1
              rw [e2] at y0
              generalize xs[n].Length = P at *
              clear x1 x2 x3 y2 y3 e1 e2
              replace x0 := rg x0
              replace y0 := rg y0
              replace y1 := rg y1
              go_wp2_with fail
              refine wp_region_quiet_below (by kernel_rfl) (by kernel_rfl) ?_
              repeat (go_big_quiet_step ((fail)))
              refine wpQuiet_nil ?_
              intro wq hw'
              have hbq := grown_of hw'
              clear hw'
              go_wp2_with fail
              go_ret
              exact ⟨rfl, upw D.out.up hbq⟩
            · have hcN : (cA != 0) = true := by simp [hc]
              go_wp2_with fail
              refine wp_region_quiet_below (by kernel_rfl) (by kernel_rfl) ?_
              repeat (go_big_quiet_step ((fail)))
              refine wpQuiet_nil ?_
              intro wq hw'
              have hbq := grown_of hw'
              clear hw'
              go_wp2_with fail
              go_ret
              exact ⟨rfl, upw D.out.up hbq⟩
      · have hczB : (cC == 0) = false := beq_eq_false_iff_ne.2 hcz
        by_cases hc : cA = 0
        · obtain ⟨n, rfl, h1, h2, e1, e2⟩ := fA.out hc
          subst hc
          have h1I : (n : Int) < xs.length := by omega
          have h2I : (n : Int) < A.length := by omega
          obtain ⟨xb, xo, rfl⟩ := (D.out.get 9 rfl : Own _ _ _ _ xs).at'.addr h1
          obtain ⟨pb', po, rfl⟩ := (D.out.get 8 rfl : Own _ _ _ _ A).at'.addr h2
          obtain ⟨x0, x1, x2, x3⟩ := (D.out.get 9 rfl : Own _ _ _ _ xs).at'.strip h1
          obtain ⟨y0, y1, y2, y3⟩ := (D.out.get 8 rfl : Own _ _ _ _ A).at'.strip h2
          rw [e1] at y1
          rw [e2] at y0
          generalize xs[n].Length = P at *
          clear x1 x2 x3 y2 y3 e1 e2
          replace x0 := rg x0
          replace y0 := rg y0
          replace y1 := rg y1
          go_wp2_with fail
          refine wp_region_quiet_below (by kernel_rfl) (by kernel_rfl) ?_
          repeat (go_big_quiet_step ((fail)))
          refine wpQuiet_nil ?_
          intro wq hw'
          have hbq := grown_of hw'
          clear hw'
          go_wp2_with fail
          go_ret
          exact ⟨rfl, upw D.out.up hbq⟩
        · have hcN : (cA != 0) = true := by simp [hc]
          go_wp2_with fail
          refine wp_region_quiet_below (by kernel_rfl) (by kernel_rfl) ?_
          repeat (go_big_quiet_step ((fail)))
          refine wpQuiet_nil ?_
          intro wq hw'
          have hbq := grown_of hw'
          clear hw'
          go_wp2_with fail
          go_ret
          exact ⟨rfl, upw D.out.up hbq⟩

    · obtain ⟨hTn, hyx⟩ := hb1.out rfl
      obtain rfl := hyx.symm
      have hT1 : T.toList ≠ [] := fun h => by rw [h] at hTn; simp at hTn
      have hT2 : (T.toList == []) = false := by simpa using hT1
      have hT3 : T.toList.isEmpty = false := by simpa using hT1
      clear hb0 hb1
      go_wp2_with fail
      refine (show Calls Tryz.prog 35 _ _ fun e w' => e = .returned (.bool true) ∧ Below _ _ w' by simpa using specSameStrips_c pa A pc pb A pd _ (D.out.get 8 rfl : Own _ _ _ _ A).at' (by omega) (D.out.get 7 rfl : Own _ _ _ _ A).at' (by omega)).mono ?_
      rintro e w2 ⟨rfl, hb⟩
      replace hU := Lib.hid (hU.out.below hb)
      replace hV := Lib.hid (hV.out.below hb)
      replace hT := Lib.hid (hT.out.below hb)
      replace D := Lib.hid (D.out.later hb)
      clear hb
      clear u0 u1 u2 u3 z0 z1 z2 z3 y0 y1 y2 y3 x0 x1 x2 x3
      obtain ⟨u0, u1, u2, u3⟩ := strip_cell4 (D.out.get 0 rfl : Own _ _ _ _ [z])
      obtain ⟨z0, z1, z2, z3⟩ := strip_cell4 (D.out.get 1 rfl : Own _ _ _ _ [z])
      obtain ⟨y0, y1, y2, y3⟩ := strip_cell4 (D.out.get 2 rfl : Own _ _ _ _ [x])
      obtain ⟨x0, x1, x2, x3⟩ := strip_cell4 (D.out.get 3 rfl : Own _ _ _ _ [x])
      go_wp2_with fail
      refine (f6ints_same ca cb C cc cd _ (D.out.get 5 rfl : Own _ _ _ _ C).at' (D.out.get 4 rfl : Own _ _ _ _ C).at' (by omega)).mono ?_
      rintro e w2 ⟨rfl, hb⟩
      replace hU := Lib.hid (hU.out.below hb)
      replace hV := Lib.hid (hV.out.below hb)
      replace hT := Lib.hid (hT.out.below hb)
      replace D := Lib.hid (D.out.later hb)
      clear hb
      clear u0 u1 u2 u3 z0 z1 z2 z3 y0 y1 y2 y3 x0 x1 x2 x3
      obtain ⟨u0, u1, u2, u3⟩ := strip_cell4 (D.out.get 0 rfl : Own _ _ _ _ [z])
      obtain ⟨z0, z1, z2, z3⟩ := strip_cell4 (D.out.get 1 rfl : Own _ _ _ _ [z])
      obtain ⟨y0, y1, y2, y3⟩ := strip_cell4 (D.out.get 2 rfl : Own _ _ _ _ [x])
      obtain ⟨x0, x1, x2, x3⟩ := strip_cell4 (D.out.get 3 rfl : Own _ _ _ _ [x])
      go_wp2_with fail
      refine (k2.out _).mono ?_
      rintro e w2 ⟨rfl, hb⟩
      replace hU := Lib.hid (hU.out.below hb)
      replace hV := Lib.hid (hV.out.below hb)
      replace hT := Lib.hid (hT.out.below hb)
      replace D := Lib.hid (D.out.later hb)
      clear hb
      clear k2
      clear u0 u1 u2 u3 z0 z1 z2 z3 y0 y1 y2 y3 x0 x1 x2 x3
      obtain ⟨u0, u1, u2, u3⟩ := strip_cell4 (D.out.get 0 rfl : Own _ _ _ _ [z])
      obtain ⟨z0, z1, z2, z3⟩ := strip_cell4 (D.out.get 1 rfl : Own _ _ _ _ [z])
      obtain ⟨y0, y1, y2, y3⟩ := strip_cell4 (D.out.get 2 rfl : Own _ _ _ _ [x])
      obtain ⟨x0, x1, x2, x3⟩ := strip_cell4 (D.out.get 3 rfl : Own _ _ _ _ [x])
      go_wp2_with fail
      refine (implSameStrips_c ua us uc va vs vc _ hU.out (by omega) hV.out (by omega)).mono ?_
      rintro e w2 ⟨rfl, hb⟩
      replace hU := Lib.hid (hU.out.below hb)
      replace hV := Lib.hid (hV.out.below hb)
      replace hT := Lib.hid (hT.out.below hb)
      replace D := Lib.hid (D.out.later hb)
      clear hb
      go_wp2_with fail
      refine (specSameStrips_c ua us uc va vs vc _ hU.out (by omega) hV.out (by omega)).mono ?_
      rintro e w2 ⟨rfl, hb⟩
      replace hU := Lib.hid (hU.out.below hb)
      replace hV := Lib.hid (hV.out.below hb)
      replace hT := Lib.hid (hT.out.below hb)
      replace D := Lib.hid (D.out.later hb)
      clear hb
      go_wp2_with fail
      refine (implValidStrips_c ya ys yc _ (D.out.get 6 rfl : Own _ _ _ _ ys).at' (by omega)).mono ?_
      rintro e w2 ⟨rfl, hb⟩
      replace hT := Lib.hid (hT.out.below hb)
      replace D := Lib.hid (D.out.later hb)
      clear hb
      go_wp2_with fail
      refine (specValidStrips_c ya ys yc _ (D.out.get 6 rfl : Own _ _ _ _ ys).at' (by omega)).mono ?_
      rintro e w2 ⟨rfl, hb⟩
      replace hT := Lib.hid (hT.out.below hb)
      replace D := Lib.hid (D.out.later hb)
      clear hb
      by_cases hcz : cC = 0
      · subst hcz
        obtain ⟨g1, g2, g3, g4⟩ := f1.out rfl
        obtain ⟨g5, g6, g7, g8⟩ := f2.out rfl
        have g9 := f4.out rfl
        replace g3 := Lib.hid g3
        replace g4 := Lib.hid g4
        replace g9 := Lib.hid g9
        have hlC : C.length = ys.length := by rw [g4.out, List.length_map]
        replace hlC := Lib.hid hlC
        have g6' : ¬ R1 < R0 := by omega
        go_wp2_with fail
        have Ac := Lib.hid (D.out.get 4 rfl : Own _ _ _ _ C).at'
        have Ay := Lib.hid (D.out.get 6 rfl : Own _ _ _ _ ys).at'
        obtain ⟨wb, hwb⟩ : ∃ wo : World, wo = w2 := ⟨_, rfl⟩
        subst hwb
        go_loopw [36] (fun i wr => ∃ k : Nat, k ≤ C.length ∧ i = .int .i64 k ∧ Below wb.heap.size wb wr) (fun i _ => C.length - (intOf i).toNat)
        case atStart => exact ⟨0, by omega, rfl, Below.refl _ _⟩
        case round =>
          obtain ⟨j, hj, rfl, hbr⟩ := hrel
          obtain ⟨wc, hwc⟩ : ∃ wo : World, wo = wr := ⟨_, rfl⟩
          subst hwc
          by_cases hlt : j < C.length
          · have hlt2 : j < ys.length := by rw [← hlC.out]; exact hlt
            obtain ⟨gd, od, rfl⟩ := Ac.out.addr hlt
            obtain ⟨ge, oe, rfl⟩ := Ay.out.addr hlt2
            have d1 := (Ac.out.below hbr).int hlt
            obtain ⟨s0, s1, s2, s3⟩ := (Ay.out.below hbr).strip hlt2
            have hok := g3.out _ (List.getElem_mem hlt2)
            have hcut : C[j] = cutLen ys[j] := by simp only [g4.out, List.getElem_map]
            rw [hcut] at d1
            have hle := cutLen_le hok
            have hz0 : ys[j].Allow = 0 → cutLen ys[j] = ys[j].Length := fun h => by unfold cutLen; rw [if_pos h]
            generalize ys[j] = x at *
            generalize cutLen x = u at *
            generalize x.Length = n at *
            generalize x.Allow = q at *
            have hle2 : ¬ u < n := by omega
            clear hok hcut s2 s3 hle
            replace d1 := rg d1
            replace s0 := rg s0
            replace s1 := rg s1
            have hltI : (j : Int) < C.length := by omega
            have hlt2I : (j : Int) < ys.length := by omega
            by_cases hq : q = 0
            · subst hq
              obtain rfl := hz0 rfl
              clear hz0
              go_wp2_with fail
              refine wp_region_quiet_below (by kernel_rfl) (by kernel_rfl) ?_
              repeat (go_big_quiet_step ((fail)))
              refine wpQuiet_nil ?_
              intro wq hw'
              have hbq := grown_of hw'
              clear hw'
              replace hbr := upw hbr hbq
              clear hbq
              go_wp2_with fail
              go_roundw
              case rel => exact ⟨j + 1, by omega, by first | rfl | go_num, hbr⟩
              case measure => first | (simp [intOf]; done) | (simp [intOf]; omega)
            · have hqB : (q == 0) = false := beq_eq_false_iff_ne.2 hq
              have hle3 : decide (u < n) = false := decide_eq_false hle2
              clear hz0
              go_wp2_with fail
              refine wp_region_quiet_below (by kernel_rfl) (by kernel_rfl) ?_
              repeat (go_big_quiet_step ((fail)))
              refine wpQuiet_nil ?_
              intro wq hw'
              have hbq := grown_of hw'
              clear hw'
              replace hbr := upw hbr hbq
              clear hbq
              go_wp2_with fail
              go_roundw
              case rel => exact ⟨j + 1, by omega, by first | rfl | go_num, hbr⟩
              case measure => first | (simp [intOf]; done) | (simp [intOf]; omega)
          · obtain rfl : j = C.length := by omega
            replace D := Lib.hid (D.out.later hbr)
            clear hbr hlt hj
            go_wp2_with fail
            refine (f6sum_c cb C cd wc (D.out.get 4 rfl : Own _ _ _ _ C).at' (by omega) g9.out).mono ?_
            rintro e w2 ⟨rfl, hb⟩
            rw [← g5]
            replace D := Lib.hid (D.out.later hb)
            clear hb
            go_wp2_with fail
            refine (f6widest_c ya ys yc w2 (D.out.get 6 rfl : Own _ _ _ _ ys).at' (by omega) (fun x hx => (okStrip_iff.1 (g3.out x hx)).2.1)).mono ?_
            rintro e w3 ⟨mw, rfl, m0, m1, m2, rfl⟩
            have f5 := f3.out (by first | rfl | trivial) mw m0 m1 m2
            clear m0 m1 m2
            by_cases hc : cA = 0
            · obtain ⟨n, rfl, h1, h2, e1, e2⟩ := fA.out hc
              subst hc
              have h1I : (n : Int) < xs.length := by omega
              have h2I : (n : Int) < A.length := by omega
              obtain ⟨xb, xo, rfl⟩ := (D.out.get 9 rfl : Own _ _ _ _ xs).at'.addr h1
              obtain ⟨pb', po, rfl⟩ := (D.out.get 8 rfl : Own _ _ _ _ A).at'.addr h2
              obtain ⟨x0, x1, x2, x3⟩ := (D.out.get 9 rfl : Own _ _ _ _ xs).at'.strip h1
              obtain ⟨y0, y1, y2, y3⟩ := (D.out.get 8 rfl : Own _ _ _ _ A).at'.strip h2
              rw [e1] at y1
              rw [e2] at y0
              generalize xs[n].Length = P at *
              clear x1 x2 x3 y2 y3 e1 e2
              replace x0 := rg x0
              replace y0 := rg y0
              replace y1 := rg y1
              go_wp2_with fail
              refine wp_region_quiet_below (by kernel_rfl) (by kernel_rfl) ?_
              repeat (go_big_quiet_step ((fail)))
              refine wpQuiet_nil ?_
              intro wq hw'
              have hbq := grown_of hw'
              clear hw'
              go_wp2_with fail
              go_ret
              exact ⟨rfl, upw D.out.up hbq⟩
            · have hcN : (cA != 0) = true := by simp [hc]
              go_wp2_with fail
              refine wp_region_quiet_below (by kernel_rfl) (by kernel_rfl) ?_
              repeat (go_big_quiet_step ((fail)))
              refine wpQuiet_nil ?_
              intro wq hw'
              have hbq := grown_of hw'
              clear hw'
              go_wp2_with fail
              go_ret
              exact ⟨rfl, upw D.out.up hbq⟩
      · have hczB : (cC == 0) = false := beq_eq_false_iff_ne.2 hcz
        by_cases hc : cA = 0
        · obtain ⟨n, rfl, h1, h2, e1, e2⟩ := fA.out hc
          subst hc
          have h1I : (n : Int) < xs.length := by omega
          have h2I : (n : Int) < A.length := by omega
          obtain ⟨xb, xo, rfl⟩ := (D.out.get 9 rfl : Own _ _ _ _ xs).at'.addr h1
          obtain ⟨pb', po, rfl⟩ := (D.out.get 8 rfl : Own _ _ _ _ A).at'.addr h2
          obtain ⟨x0, x1, x2, x3⟩ := (D.out.get 9 rfl : Own _ _ _ _ xs).at'.strip h1
          obtain ⟨y0, y1, y2, y3⟩ := (D.out.get 8 rfl : Own _ _ _ _ A).at'.strip h2
          rw [e1] at y1
          rw [e2] at y0
          generalize xs[n].Length = P at *
          clear x1 x2 x3 y2 y3 e1 e2
          replace x0 := rg x0
          replace y0 := rg y0
          replace y1 := rg y1
          go_wp2_with fail
          refine wp_region_quiet_below (by kernel_rfl) (by kernel_rfl) ?_
          repeat (go_big_quiet_step ((fail)))
          refine wpQuiet_nil ?_
          intro wq hw'
          have hbq := grown_of hw'
          clear hw'
          go_wp2_with fail
          go_ret
          exact ⟨rfl, upw D.out.up hbq⟩
        · have hcN : (cA != 0) = true := by simp [hc]
          go_wp2_with fail
          refine wp_region_quiet_below (by kernel_rfl) (by kernel_rfl) ?_
          repeat (go_big_quiet_step ((fail)))
          refine wpQuiet_nil ?_
          intro wq hw'
          have hbq := grown_of hw'
          clear hw'
          go_wp2_with fail
          go_ret
          exact ⟨rfl, upw D.out.up hbq⟩

end Go.Proofs.YtledlkggggpdpaaGreatDoor
