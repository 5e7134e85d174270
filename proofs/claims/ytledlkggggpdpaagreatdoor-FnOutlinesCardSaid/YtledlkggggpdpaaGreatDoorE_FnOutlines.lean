/- FnOutlines: for all bytes the law returns true, and the bytes read behind the call as before. -/
import Derived.Test.YtledlkggggpdpaaGreatDoorOutFacts
import Derived.Test.YtledlkggggpdpaaGreatDoorF6
namespace Go.Proofs.YtledlkggggpdpaaGreatDoor
open Go.ChangeShapes Go.WideShapes Go.ChangeAt Go.RowKit

theorem spot_cell2 {B : Nat} {w : World} {e : TypeId} {g n c : Nat} {x : Spot} (h : Own B w e (.slice (some ⟨g, 0, none⟩) n c) [x]) :
    w.cell? ⟨g, 0, none⟩ = some (.int .i64 x.X) ∧ w.cell? ⟨g, 1, none⟩ = some (.int .i64 x.Y) := by
  have := h.at'.spot (i := 0) (by simp)
  simpa using this
theorem spot_same (a b : Int) (w : World) : (binOp .neq 106 (.agg #[.int .i64 a, .int .i64 b]) (.agg #[.int .i64 a, .int .i64 b])).run Tryz.prog w = .ok (.bool false) w := by
  simp [go_sem]
attribute [local go_sem ↓] spot_same
set_option maxRecDepth 100000 in
set_option maxHeartbeats 8000000 in
theorem lawOutlines (a : Option Addr) (L : List UInt8) (c : Nat) (w : World) (hx : At w a L) (hlx : L.length ≤ 9223372036854775807) (hT : TabR w) :
    Calls Tryz.prog 7 #[.slice a L.length c] w fun e w' => e = .returned (.bool true) ∧ Below w.heap.size w w' := by
  have hbig := f6big_c a L.length c w
  by_cases hg : 4096 < L.length
  · have e : decide (4096 < L.length) = true := by simpa using hg
    rw [e] at hbig
    go_enter Tryz.func7, Tryz.ntmps7
    go_wp2_with fail
    refine hbig.mono ?_
    rintro e w1 ⟨rfl, rfl⟩
    go_wp2_with fail
    go_ret
    exact ⟨rfl, Below.refl _ _⟩
  · have e : decide (4096 < L.length) = false := by simpa using hg
    rw [e] at hbig
    clear e
    have D := Lib.hid (Sp.refl w)
    replace hT := Lib.hid hT
    replace hx := Lib.hid hx
    go_enter Tryz.func7, Tryz.ntmps7
    go_wp2_with fail
    refine hbig.mono ?_
    rintro e w1 ⟨rfl, rfl⟩
    clear hbig hg
    go_wp2_with fail
    refine (drawTurnOutline_c a L c _ (hx.out.below D.out.up) hlx).mono ?_
    rintro e w2 ⟨v, xs, q, rfl, hxl, hxr, hq, hO, hb⟩
    obtain ⟨xa, xc, rfl, -⟩ := hO.at
    replace hT := Lib.hid (hT.out.below hb)
    replace D := Lib.hid (D.out.add hb hO)
    clear hb hO
    have k1 := Lib.hid (fun w' h => implTurnOutline_c xa xs xc q w' h (by omega) (by omega))
    have k2 := Lib.hid (fun w' h => specTurnOutline_c xa xs xc q w' h (by omega) (by omega))
    have fT := Lib.hid (turn_facts (xs := xs) (q := q))
    have hT1l := TurnOutline_len xs q
    generalize turnCode xs q = cT at *
    generalize turnOf xs q = T1 at *
    clear hxr
    go_wp2_with fail
    refine (k1.out _ (D.out.get 0 rfl : Own _ _ _ _ xs).at').mono ?_
    rintro e w2 ⟨v, rfl, hO, hb⟩
    obtain ⟨ta, tc, rfl, -⟩ := hO.at
    replace hT := Lib.hid (hT.out.below hb)
    replace D := Lib.hid (D.out.add hb hO)
    clear hb hO
    clear k1
    go_wp2_with fail
    refine (k2.out _ (D.out.get 1 rfl : Own _ _ _ _ xs).at').mono ?_
    rintro e w2 ⟨v, rfl, hO, hb⟩
    obtain ⟨sa, sc, rfl, -⟩ := hO.at
    replace hT := Lib.hid (hT.out.below hb)
    replace D := Lib.hid (D.out.add hb hO)
    clear hb hO
    clear k2
    go_wp2_with fail
    refine (drawMirrorOutline_c a L c _ (hx.out.below D.out.up) hlx).mono ?_
    rintro e w2 ⟨v, ys, rfl, hyl, hyr, hO, hb⟩
    obtain ⟨ya, yc, rfl, -⟩ := hO.at
    replace hT := Lib.hid (hT.out.below hb)
    replace D := Lib.hid (D.out.add hb hO)
    clear hb hO
    have k1 := Lib.hid (fun w' h => implMirrorOutline_c ya ys yc w' h (by omega))
    have k2 := Lib.hid (fun w' h => specMirrorOutline_c ya ys yc w' h (by omega))
    have k3 := Lib.hid (fun w' h => implTwiceArea_c ya ys yc w' h (by omega))
    have k4 := Lib.hid (fun w' h => specTwiceArea_c ya ys yc w' h (by omega))
    have k5 := Lib.hid (fun w' h => implIsLeftHanded_c ya ys yc w' h (by omega))
    have k6 := Lib.hid (fun w' h => specIsLeftHanded_c ya ys yc w' h (by omega))
    have k7 := Lib.hid (fun w' h => implBoxOf_c ya ys yc w' h (by omega))
    have k8 := Lib.hid (fun w' h => specBoxOf_c ya ys yc w' h (by omega))
    have k9 := Lib.hid (fun w' h hb => implOutlineText_c ya ys yc w' h (by omega) hb)
    have kA := Lib.hid (fun w' h => specOutlineText_c ya ys yc w' h (by omega))
    have hTs := outlineText_size ys
    have fB := out_back ys
    have f1 := Lib.hid (mirror_facts (ys := ys))
    have f2 := Lib.hid (box_facts (ys := ys))
    have f3 := Lib.hid (area_facts7 (ys := ys))
    have f4 := Lib.hid (box_in (ys := ys))
    have hMl := MirrorOutline_len ys
    have hcM : Hid (okOutline ys = false → mirrorCode ys = 1) := Lib.hid (fun h => by simp [mirrorCode, h])
    generalize mirrorCode ys = cM at *
    generalize mirrorOf ys = M at *
    generalize (twiceArea ys).1 = A at *
    generalize (twiceArea ys).2 = cA at *
    generalize (leftHanded ys).1 = B at *
    generalize (leftHanded ys).2 = cL at *
    generalize (box ys).2.2 = cB at *
    generalize (box ys).2.1 = hi at *
    generalize (box ys).1 = lo at *
    generalize outlineText ys = T at *
    clear hyr
    replace fB := Lib.hid fB
    go_wp2_with fail
    refine (k1.out _ (D.out.get 0 rfl : Own _ _ _ _ ys).at').mono ?_
    rintro e w2 ⟨v, rfl, hO, hb⟩
    obtain ⟨ma, mc, rfl, -⟩ := hO.at
    replace hT := Lib.hid (hT.out.below hb)
    replace D := Lib.hid (D.out.add hb hO)
    clear hb hO
    clear k1
    go_wp2_with fail
    refine (k2.out _ (D.out.get 1 rfl : Own _ _ _ _ ys).at').mono ?_
    rintro e w2 ⟨v, rfl, hO, hb⟩
    obtain ⟨na, nc, rfl, -⟩ := hO.at
    replace hT := Lib.hid (hT.out.below hb)
    replace D := Lib.hid (D.out.add hb hO)
    clear hb hO
    clear k2
    go_wp2_with fail
    refine (k3.out _ (D.out.get 2 rfl : Own _ _ _ _ ys).at').mono ?_
    rintro e w2 ⟨rfl, hb⟩
    replace hT := Lib.hid (hT.out.below hb)
    replace D := Lib.hid (D.out.later hb)
    clear hb
    clear k3
    go_wp2_with fail
    refine (k4.out _ (D.out.get 2 rfl : Own _ _ _ _ ys).at').mono ?_
    rintro e w2 ⟨rfl, hb⟩
    replace hT := Lib.hid (hT.out.below hb)
    replace D := Lib.hid (D.out.later hb)
    clear hb
    clear k4
    go_wp2_with fail
    refine (k5.out _ (D.out.get 2 rfl : Own _ _ _ _ ys).at').mono ?_
    rintro e w2 ⟨rfl, hb⟩
    replace hT := Lib.hid (hT.out.below hb)
    replace D := Lib.hid (D.out.later hb)
    clear hb
    clear k5
    go_wp2_with fail
    refine (k6.out _ (D.out.get 2 rfl : Own _ _ _ _ ys).at').mono ?_
    rintro e w2 ⟨rfl, hb⟩
    replace hT := Lib.hid (hT.out.below hb)
    replace D := Lib.hid (D.out.later hb)
    clear hb
    clear k6
    go_wp2_with fail
    refine (k7.out _ (D.out.get 2 rfl : Own _ _ _ _ ys).at').mono ?_
    rintro e w2 ⟨rfl, hb⟩
    replace hT := Lib.hid (hT.out.below hb)
    replace D := Lib.hid (D.out.later hb)
    clear hb
    clear k7
    obtain ⟨wm, hwm, D', hT'⟩ : ∃ wm, (w2.alloc (.cells #[.int .i64 lo.X, .int .i64 lo.Y] 106)).alloc (.cells #[.int .i64 hi.X, .int .i64 hi.Y] 106) = wm ∧ Hid (Sp w wm (ite' 106 (.slice (some ⟨w2.heap.size + 1, 0, none⟩) 1 1) [hi] :: ite' 106 (.slice (some ⟨w2.heap.size, 0, none⟩) 1 1) [lo] :: _)) ∧ Hid (TabR wm) := by
      refine ⟨_, rfl, Lib.hid ?_, Lib.hid ((hT.out.below (newB w2 _)).below (newB _ _))⟩
      have d1 := D.out.add (newB w2 (.cells #[.int .i64 lo.X, .int .i64 lo.Y] 106)) (own_alloc w2 106 #[.int .i64 lo.X, .int .i64 lo.Y] [lo] rfl (by simp))
      have d2 := d1.add (newB _ (.cells #[.int .i64 hi.X, .int .i64 hi.Y] 106)) (own_alloc _ 106 #[.int .i64 hi.X, .int .i64 hi.Y] [hi] rfl (by simp))
      simp only [List.length_singleton] at d2
      have hsz : (w2.alloc (.cells #[.int .i64 lo.X, .int .i64 lo.Y] 106)).heap.size = w2.heap.size + 1 := by simp
      rw [hsz] at d2
      exact d2
    clear D hT
    have D := D'
    have hT := hT'
    clear D' hT'
    obtain ⟨nh1, hnh⟩ : ∃ b, b = w2.heap.size + 1 := ⟨_, rfl⟩
    obtain ⟨nl1, hnl⟩ : ∃ b, b = w2.heap.size := ⟨_, rfl⟩
    rw [← hnh, ← hnl] at D
    replace hnh := Lib.hid hnh
    replace hnl := Lib.hid hnl
    go_wp2_with fail
    rw [← hnh.out, ← hnl.out]
    clear hnh hnl hwm w2
    refine (k8.out _ (D.out.get 4 rfl : Own _ _ _ _ ys).at').mono ?_
    rintro e w2 ⟨rfl, hb⟩
    replace hT := Lib.hid (hT.out.below hb)
    replace D := Lib.hid (D.out.later hb)
    clear hb
    clear k8
    obtain ⟨wm, hwm, D', hT'⟩ : ∃ wm, (w2.alloc (.cells #[.int .i64 lo.X, .int .i64 lo.Y] 106)).alloc (.cells #[.int .i64 hi.X, .int .i64 hi.Y] 106) = wm ∧ Hid (Sp w wm (ite' 106 (.slice (some ⟨w2.heap.size + 1, 0, none⟩) 1 1) [hi] :: ite' 106 (.slice (some ⟨w2.heap.size, 0, none⟩) 1 1) [lo] :: _)) ∧ Hid (TabR wm) := by
      refine ⟨_, rfl, Lib.hid ?_, Lib.hid ((hT.out.below (newB w2 _)).below (newB _ _))⟩
      have d1 := D.out.add (newB w2 (.cells #[.int .i64 lo.X, .int .i64 lo.Y] 106)) (own_alloc w2 106 #[.int .i64 lo.X, .int .i64 lo.Y] [lo] rfl (by simp))
      have d2 := d1.add (newB _ (.cells #[.int .i64 hi.X, .int .i64 hi.Y] 106)) (own_alloc _ 106 #[.int .i64 hi.X, .int .i64 hi.Y] [hi] rfl (by simp))
      simp only [List.length_singleton] at d2
      have hsz : (w2.alloc (.cells #[.int .i64 lo.X, .int .i64 lo.Y] 106)).heap.size = w2.heap.size + 1 := by simp
      rw [hsz] at d2
      exact d2
    clear D hT
    have D := D'
    have hT := hT'
    clear D' hT'
    obtain ⟨nh2, hnh⟩ : ∃ b, b = w2.heap.size + 1 := ⟨_, rfl⟩
    obtain ⟨nl2, hnl⟩ : ∃ b, b = w2.heap.size := ⟨_, rfl⟩
    rw [← hnh, ← hnl] at D
    replace hnh := Lib.hid hnh
    replace hnl := Lib.hid hnl
    go_wp2_with fail
    rw [← hnh.out, ← hnl.out]
    clear hnh hnl hwm w2
    refine (k9.out _ (D.out.get 6 rfl : Own _ _ _ _ ys).at' hT.out.tab).mono ?_
    rintro e w2 ⟨rfl, hb⟩
    replace hT := Lib.hid (hT.out.below hb)
    replace D := Lib.hid (D.out.later hb)
    clear hb
    clear k9
    have k3 := Lib.hid (fun w' h => implReadOutline_c T w' h hTs)
    obtain ⟨Y2, b1, hY2, hb1⟩ : ∃ Y2 b1, Y2 = (readOutline T).getD [] ∧ b1 = (readOutline T).isSome := ⟨_, _, rfl, rfl⟩
    have hY2l := readOutline_len T
    rw [← hY2] at hY2l
    rw [← hb1, ← hY2] at k3
    replace hY2 := Lib.hid hY2
    replace hb1 := Lib.hid hb1
    go_wp2_with fail
    refine (k3.out _ hT.out).mono ?_
    rintro e w2 ⟨v, rfl, hO, hb⟩
    obtain ⟨za, zc, rfl, -⟩ := hO.at
    replace hT := Lib.hid (hT.out.below hb)
    replace D := Lib.hid (D.out.add hb hO)
    clear hb hO
    clear k3
    go_wp2_with fail
    refine (drawReadOutline_c a L c _ (hx.out.below D.out.up) hlx).mono ?_
    rintro e w2 ⟨s, rfl, hs, hb⟩
    replace hT := Lib.hid (hT.out.below hb)
    replace D := Lib.hid (D.out.later hb)
    clear hb
    have k1 := Lib.hid (fun w' h => implReadOutline_c s w' h hs)
    have k2 := Lib.hid (fun w' => specReadOutline_c s w' hs)
    have hUl := readOutline_len s
    generalize (readOutline s).getD [] = U at *
    generalize (readOutline s).isSome = bU at *
    clear hs
    go_wp2_with fail
    refine (k1.out _ hT.out).mono ?_
    rintro e w2 ⟨v, rfl, hO, hb⟩
    obtain ⟨ua, uc, rfl, -⟩ := hO.at
    replace hT := Lib.hid (hT.out.below hb)
    replace D := Lib.hid (D.out.add hb hO)
    clear hb hO
    clear k1
    go_wp2_with fail
    refine (k2.out _).mono ?_
    rintro e w2 ⟨v, rfl, hO, hb⟩
    obtain ⟨va, vc, rfl, -⟩ := hO.at
    replace hT := Lib.hid (hT.out.below hb)
    replace D := Lib.hid (D.out.add hb hO)
    clear hb hO
    clear k2
    go_wp2_with fail
    refine (drawSameOutline_c a L c _ (hx.out.below D.out.up) hlx).mono ?_
    rintro e w2 ⟨v1, v2, us, vs, rfl, hul, hvl, hU, hV, hb⟩
    obtain ⟨pa, pc, rfl, -⟩ := hU.at
    obtain ⟨qa, qc, rfl, -⟩ := hV.at
    replace hU := Lib.hid hU.at'
    replace hV := Lib.hid hV.at'
    replace hT := Lib.hid (hT.out.below hb)
    replace D := Lib.hid (D.out.later hb)
    clear hb
    rcases fB.out with ⟨hok1, hR, hTn⟩ | ⟨hok1, hR, rfl⟩
    · obtain rfl : ys = Y2 := by rw [hY2.out, hR]; rfl
      obtain rfl : b1 = true := by rw [hb1.out, hR]; rfl
      have hT1' : T.toList ≠ [] := hTn
      have hT2 : (T.toList == []) = false := by simpa using hTn
      have hT3 : T.toList.isEmpty = false := by simpa using hTn
      clear hY2 hb1 hR hTn hcM
      obtain ⟨m1', m2', m3', m4', m5', m6', m7'⟩ := f1.out hok1
      obtain ⟨u1, u2⟩ := f3.out hok1
      obtain ⟨b0, b0'⟩ := f2.out hok1
      have bin := f4.out hok1
      have hys := Lib.hid (okOutline_iff.1 hok1).1
      subst m1'
      go_wp2_with fail
      refine (show Calls Tryz.prog 87 _ _ fun e w' => e = .returned (.bool true) ∧ Below _ _ w' by simpa using specSameOutline_c ta T1 tc sa T1 sc _ (D.out.get 11 rfl : Own _ _ _ _ T1).at' (by omega) (D.out.get 10 rfl : Own _ _ _ _ T1).at' (by omega)).mono ?_
      rintro e w2 ⟨rfl, hb⟩
      replace hT := Lib.hid (hT.out.below hb)
      replace hU := Lib.hid (hU.out.below hb)
      replace hV := Lib.hid (hV.out.below hb)
      replace D := Lib.hid (D.out.later hb)
      clear hb
      go_wp2_with fail
      refine (show Calls Tryz.prog 87 _ _ fun e w' => e = .returned (.bool true) ∧ Below _ _ w' by simpa using specSameOutline_c ma M mc na M nc _ (D.out.get 8 rfl : Own _ _ _ _ M).at' (by omega) (D.out.get 7 rfl : Own _ _ _ _ M).at' (by omega)).mono ?_
      rintro e w2 ⟨rfl, hb⟩
      replace hT := Lib.hid (hT.out.below hb)
      replace hU := Lib.hid (hU.out.below hb)
      replace hV := Lib.hid (hV.out.below hb)
      replace D := Lib.hid (D.out.later hb)
      clear hb
      obtain ⟨p0, p1⟩ := spot_cell2 (D.out.get 6 rfl : Own _ _ _ _ [lo])
      obtain ⟨q0, q1⟩ := spot_cell2 (D.out.get 5 rfl : Own _ _ _ _ [hi])
      obtain ⟨r0, r1⟩ := spot_cell2 (D.out.get 4 rfl : Own _ _ _ _ [lo])
      obtain ⟨s0, s1⟩ := spot_cell2 (D.out.get 3 rfl : Own _ _ _ _ [hi])
      go_wp2_with fail
      refine (kA.out _ (D.out.get 9 rfl : Own _ _ _ _ ys).at').mono ?_
      rintro e w2 ⟨rfl, hb⟩
      replace hT := Lib.hid (hT.out.below hb)
      replace hU := Lib.hid (hU.out.below hb)
      replace hV := Lib.hid (hV.out.below hb)
      replace D := Lib.hid (D.out.later hb)
      clear hb
      clear kA
      clear p0 p1 q0 q1 r0 r1 s0 s1
      go_wp2_with fail
      refine (show Calls Tryz.prog 87 _ _ fun e w' => e = .returned (.bool true) ∧ Below _ _ w' by simpa using specSameOutline_c za ys zc ya ys yc _ (D.out.get 2 rfl : Own _ _ _ _ ys).at' (by omega) (D.out.get 9 rfl : Own _ _ _ _ ys).at' (by omega)).mono ?_
      rintro e w2 ⟨rfl, hb⟩
      replace hT := Lib.hid (hT.out.below hb)
      replace hU := Lib.hid (hU.out.below hb)
      replace hV := Lib.hid (hV.out.below hb)
      replace D := Lib.hid (D.out.later hb)
      clear hb
      go_wp2_with fail
      refine (show Calls Tryz.prog 87 _ _ fun e w' => e = .returned (.bool true) ∧ Below _ _ w' by simpa using specSameOutline_c ua U uc va U vc _ (D.out.get 1 rfl : Own _ _ _ _ U).at' (by omega) (D.out.get 0 rfl : Own _ _ _ _ U).at' (by omega)).mono ?_
      rintro e w2 ⟨rfl, hb⟩
      replace hT := Lib.hid (hT.out.below hb)
      replace hU := Lib.hid (hU.out.below hb)
      replace hV := Lib.hid (hV.out.below hb)
      replace D := Lib.hid (D.out.later hb)
      clear hb
      go_wp2_with fail
      refine (implSameOutline_c pa us pc qa vs qc _ hU.out (by omega) hV.out (by omega)).mono ?_
      rintro e w2 ⟨rfl, hb⟩
      replace hT := Lib.hid (hT.out.below hb)
      replace hU := Lib.hid (hU.out.below hb)
      replace hV := Lib.hid (hV.out.below hb)
      replace D := Lib.hid (D.out.later hb)
      clear hb
      go_wp2_with fail
      refine (specSameOutline_c pa us pc qa vs qc _ hU.out (by omega) hV.out (by omega)).mono ?_
      rintro e w2 ⟨rfl, hb⟩
      replace hT := Lib.hid (hT.out.below hb)
      replace hU := Lib.hid (hU.out.below hb)
      replace hV := Lib.hid (hV.out.below hb)
      replace D := Lib.hid (D.out.later hb)
      clear hb
      go_wp2_with fail
      refine (implValidOutline_c ya ys yc _ (D.out.get 9 rfl : Own _ _ _ _ ys).at' (by omega)).mono ?_
      rintro e w2 ⟨rfl, hb⟩
      replace hT := Lib.hid (hT.out.below hb)
      replace hU := Lib.hid (hU.out.below hb)
      replace hV := Lib.hid (hV.out.below hb)
      replace D := Lib.hid (D.out.later hb)
      clear hb
      go_wp2_with fail
      refine (specValidOutline_c ya ys yc _ (D.out.get 9 rfl : Own _ _ _ _ ys).at' (by omega)).mono ?_
      rintro e w2 ⟨rfl, hb⟩
      replace hT := Lib.hid (hT.out.below hb)
      replace hU := Lib.hid (hU.out.below hb)
      replace hV := Lib.hid (hV.out.below hb)
      replace D := Lib.hid (D.out.later hb)
      clear hb
      have k1 := Lib.hid (fun w' h => implTwiceArea_c ma M mc w' h (by omega))
      have k2 := Lib.hid (fun w' h => implIsLeftHanded_c ma M mc w' h (by omega))
      have k3 := Lib.hid (fun w' h => implMirrorOutline_c ma M mc w' h (by omega))
      rw [m2', m3'] at k1
      rw [m4', m5'] at k2
      rw [m6', m7'] at k3
      clear m2' m3' m4' m5' m6' m7'
      have hZl : (lay ys).length = ys.length := lay_length ys
      have hZB : (((lay ys).length : Int) != ys.length) = false := by simp [hZl]
      replace hZl := Lib.hid hZl
      replace b0 := Lib.hid b0
      clear b0'
      obtain ⟨Z, hZ⟩ : ∃ Z, Z = lay ys := ⟨_, rfl⟩
      rw [← hZ] at k3 hZl hZB
      replace hZ := Lib.hid hZ
      go_wp2_with fail
      refine (k1.out _ (D.out.get 8 rfl : Own _ _ _ _ M).at').mono ?_
      rintro e w2 ⟨rfl, hb⟩
      replace hT := Lib.hid (hT.out.below hb)
      replace hU := Lib.hid (hU.out.below hb)
      replace hV := Lib.hid (hV.out.below hb)
      replace D := Lib.hid (D.out.later hb)
      clear hb
      clear k1
      go_wp2_with fail
      refine (k2.out _ (D.out.get 8 rfl : Own _ _ _ _ M).at').mono ?_
      rintro e w2 ⟨rfl, hb⟩
      replace hT := Lib.hid (hT.out.below hb)
      replace hU := Lib.hid (hU.out.below hb)
      replace hV := Lib.hid (hV.out.below hb)
      replace D := Lib.hid (D.out.later hb)
      clear hb
      clear k2
      go_wp2_with fail
      refine (k3.out _ (D.out.get 8 rfl : Own _ _ _ _ M).at').mono ?_
      rintro e w2 ⟨v, rfl, hO, hb⟩
      obtain ⟨ga, gc, rfl, -⟩ := hO.at
      replace hT := Lib.hid (hT.out.below hb)
      replace hU := Lib.hid (hU.out.below hb)
      replace hV := Lib.hid (hV.out.below hb)
      replace D := Lib.hid (D.out.add hb hO)
      clear hb hO
      clear k3
      go_wp2_with fail
      have Ay := Lib.hid (D.out.get 10 rfl : Own _ _ _ _ ys).at'
      have Az := Lib.hid (D.out.get 0 rfl : Own _ _ _ _ Z).at'
      obtain ⟨r0, r1⟩ := spot_cell2 (D.out.get 5 rfl : Own _ _ _ _ [lo])
      obtain ⟨wb, hwb⟩ : ∃ wo : World, wo = w2 := ⟨_, rfl⟩
      subst hwb
      go_loopw [44] (fun i wr => ∃ k : Nat, k ≤ ys.length ∧ i = .int .i64 k ∧ Below wb.heap.size wb wr) (fun i _ => ys.length - (intOf i).toNat)
      case atStart => exact ⟨0, by omega, rfl, Below.refl _ _⟩
      case round =>
        obtain ⟨j, hj, rfl, hbr⟩ := hrel
        obtain ⟨wc', hwc⟩ : ∃ wo : World, wo = wr := ⟨_, rfl⟩
        subst hwc
        replace r0 := kept_cell r0 hbr
        replace r1 := kept_cell r1 hbr
        by_cases hlt : j < ys.length
        · have hlt2 : j < Z.length := by rw [hZl.out]; exact hlt
          obtain ⟨gd, od, rfl⟩ := Ay.out.addr hlt
          obtain ⟨ge, oe, rfl⟩ := Az.out.addr hlt2
          obtain ⟨d0, d1⟩ := (Ay.out.below hbr).spot hlt
          obtain ⟨e0, e1⟩ := (Az.out.below hbr).spot hlt2
          have ez : Z[j] = ⟨ys[j].X - lo.X, ys[j].Y - lo.Y⟩ := by rw [b0.out]; simp only [hZ.out]; exact lay_at hlt (by rw [lay_length]; exact hlt)
          rw [ez] at e0 e1
          simp only at e0 e1
          have b1' := okSpot_iff.1 (hys.out.2 _ (List.getElem_mem hlt))
          clear ez
          generalize ys[j].X = m0 at *
          generalize ys[j].Y = m1 at *
          have z0 : IntKind.i64.wrap (m0 - lo.X) = m0 - lo.X := IntWalk.i64_in _ (by omega)
          have z1 : IntKind.i64.wrap (m1 - lo.Y) = m1 - lo.Y := IntWalk.i64_in _ (by omega)
          replace d0 := rg d0
          replace d1 := rg d1
          replace e0 := rg e0
          replace e1 := rg e1
          replace r0 := rg r0
          replace r1 := rg r1
          have hltI : (j : Int) < ys.length := by omega
          have hltZ : (j : Int) < Z.length := by omega
          go_wp2_with fail
          refine wp_region_quiet_below (by kernel_rfl) (by kernel_rfl) ?_
          repeat (go_big_quiet_step ((fail)))
          refine wpQuiet_nil ?_
          intro wq hw'
          have hbq := grown_of hw'
          clear hw'
          replace hbr := upw hbr hbq
          clear hbq
          go_wp2_with fail
          go_roundw
          case rel => exact ⟨j + 1, by omega, by first | rfl | go_num, hbr⟩
          case measure => first | (simp [intOf]; done) | (simp [intOf]; omega)
        · clear r0 r1
          replace D := Lib.hid (D.out.later hbr)
          replace hT := Lib.hid (hT.out.below hbr)
          replace hU := Lib.hid (hU.out.below hbr)
          replace hV := Lib.hid (hV.out.below hbr)
          clear hbr hj Ay Az
          obtain ⟨r0, r1⟩ := spot_cell2 (D.out.get 5 rfl : Own _ _ _ _ [lo])
          obtain ⟨s0, s1⟩ := spot_cell2 (D.out.get 4 rfl : Own _ _ _ _ [hi])
          have c0 : IntKind.i64.wrap (hi.X - lo.X) = hi.X - lo.X := IntWalk.i64_in _ (by omega)
          have c1 : IntKind.i64.wrap (hi.Y - lo.Y) = hi.Y - lo.Y := IntWalk.i64_in _ (by omega)
          have c2 : IntKind.i64.wrap (2 * (hi.X - lo.X)) = 2 * (hi.X - lo.X) := IntWalk.i64_in _ (by omega)
          have cm := mul_in' (a := 2 * (hi.X - lo.X)) (b := hi.Y - lo.Y) (A := 20000) (B := 10000) (by omega) (by omega) (by omega) (by omega)
          have c3 : IntKind.i64.wrap (2 * (hi.X - lo.X) * (hi.Y - lo.Y)) = 2 * (hi.X - lo.X) * (hi.Y - lo.Y) := IntWalk.i64_in _ (by omega)
          clear cm
          by_cases hc : cT = 0
          · obtain ⟨Q, rfl, hQ3, hx24, hx3, hok, okT, lT, codeW, lW, okW, hsb⟩ := fT.out hc
            subst hc
            have hmod := tdiv_four hQ3
            obtain ⟨r, hr⟩ : ∃ r : Int, r = (((4 - Q) % 4 : Nat) : Int) := ⟨_, rfl⟩
            rw [← hr] at hmod codeW lW okW hsb
            have hr3 : 0 ≤ r ∧ r ≤ 3 := by omega
            have k1 := Lib.hid (fun w' h => implTurnOutline_c ta T1 tc r w' h (by omega) (by omega))
            rw [codeW] at k1
            obtain ⟨W, hW⟩ : ∃ W, W = turnOf T1 r := ⟨_, rfl⟩
            rw [← hW] at k1 lW okW hsb
            replace hsb := Lib.hid hsb
            replace okW := Lib.hid okW
            replace hok := Lib.hid hok
            have hWB : ((W.length : Int) != xs.length) = false := by simp [lW]
            replace lW := Lib.hid lW
            replace lT := Lib.hid lT
            clear hr codeW okT hW
            have hw4 : IntKind.i64.wrap (4 - (Q : Int)) = 4 - (Q : Int) := IntWalk.i64_in _ (by omega)
            go_wp2_with fail
            refine (k1.out _ (D.out.get 12 rfl : Own _ _ _ _ T1).at').mono ?_
            rintro e w2 ⟨v, rfl, hO, hb⟩
            obtain ⟨wa, wc, rfl, -⟩ := hO.at
            replace hT := Lib.hid (hT.out.below hb)
            replace hU := Lib.hid (hU.out.below hb)
            replace hV := Lib.hid (hV.out.below hb)
            replace D := Lib.hid (D.out.add hb hO)
            clear hb hO
            clear k1
            go_wp2_with fail
            have Ax := Lib.hid (D.out.get 14 rfl : Own _ _ _ _ xs).at'
            have Aw := Lib.hid (D.out.get 0 rfl : Own _ _ _ _ W).at'
            obtain ⟨wb, hwb⟩ : ∃ wo : World, wo = w2 := ⟨_, rfl⟩
            subst hwb
            go_loopw [47] (fun i wr => ∃ k : Nat, k ≤ xs.length ∧ i = .int .i64 k ∧ Below wb.heap.size wb wr) (fun i _ => xs.length - (intOf i).toNat)
            case atStart => exact ⟨0, by omega, rfl, Below.refl _ _⟩
            case round =>
              obtain ⟨j, hj, rfl, hbr⟩ := hrel
              obtain ⟨wc', hwc⟩ : ∃ wo : World, wo = wr := ⟨_, rfl⟩
              subst hwc
              by_cases hlt : j < xs.length
              · have h0 : 0 < xs.length := by omega
                have hlt2 : j < W.length := by rw [lW.out]; exact hlt
                have h02 : 0 < W.length := by rw [lW.out]; exact h0
                obtain ⟨gd, od, rfl⟩ := Ax.out.addr hlt
                obtain ⟨ge, oe, rfl⟩ := Aw.out.addr hlt2
                obtain ⟨d0, d1⟩ := (Ax.out.below hbr).spot hlt
                obtain ⟨d2, d3⟩ := (Ax.out.below hbr).spot h0
                obtain ⟨e0, e1⟩ := (Aw.out.below hbr).spot hlt2
                obtain ⟨e2, e3⟩ := (Aw.out.below hbr).spot h02
                simp only [Nat.zero_mul, Nat.add_zero] at d2 d3 e2 e3
                have g := hsb.out j
                rw [nth_get hlt2, nth_get h02, nth_get hlt, nth_get h0] at g
                have b1' := okSpot_iff.1 (hok.out _ (List.getElem_mem hlt))
                have b2 := okSpot_iff.1 (hok.out _ (List.getElem_mem h0))
                have b3 := okSpot_iff.1 (okW.out _ (List.getElem_mem hlt2))
                have b4 := okSpot_iff.1 (okW.out _ (List.getElem_mem h02))
                unfold Pick.sb at g
                rw [Spot.mk.injEq] at g
                obtain ⟨g0, g1⟩ := g
                generalize xs[j].X = m0 at *
                generalize xs[j].Y = m1 at *
                generalize xs[0].X = m2 at *
                generalize xs[0].Y = m3 at *
                generalize W[j].X = m4 at *
                generalize W[j].Y = m5 at *
                generalize W[0].X = m6 at *
                generalize W[0].Y = m7 at *
                have z0 : IntKind.i64.wrap (m4 - m6) = m4 - m6 := IntWalk.i64_in _ (by omega)
                have z1 : IntKind.i64.wrap (m0 - m2) = m0 - m2 := IntWalk.i64_in _ (by omega)
                have z2 : IntKind.i64.wrap (m5 - m7) = m5 - m7 := IntWalk.i64_in _ (by omega)
                have z3 : IntKind.i64.wrap (m1 - m3) = m1 - m3 := IntWalk.i64_in _ (by omega)
                have t0 : ((m4 - m6) != (m0 - m2)) = false := by rw [g0]; simp
                have t1 : ((m5 - m7) != (m1 - m3)) = false := by rw [g1]; simp
                clear g0 g1 b1' b2 b3 b4
                replace d0 := rg d0
                replace d1 := rg d1
                replace d2 := rg d2
                replace d3 := rg d3
                replace e0 := rg e0
                replace e1 := rg e1
                replace e2 := rg e2
                replace e3 := rg e3
                have hltI : (j : Int) < xs.length := by omega
                have hltW : (j : Int) < W.length := by omega
                have h0I : (0 : Int) < xs.length := by omega
                have h0W : (0 : Int) < W.length := by omega
                go_wp2_with fail
                refine wp_region_quiet_below (by kernel_rfl) (by kernel_rfl) ?_
                repeat (go_big_quiet_step ((fail)))
                refine wpQuiet_nil ?_
                intro wq hw'
                have hbq := grown_of hw'
                clear hw'
                replace hbr := upw hbr hbq
                clear hbq
                go_wp2_with fail
                go_roundw
                case rel => exact ⟨j + 1, by omega, by first | rfl | go_num, hbr⟩
                case measure => first | (simp [intOf]; done) | (simp [intOf]; omega)
              · go_wp2_with fail
                go_ret
                exact ⟨rfl, upw D.out.up hbr⟩
          · have hcB : (cT != 0) = true := by simp [hc]
            go_wp2_with fail
            go_ret
            exact ⟨rfl, D.out.up⟩

    · obtain rfl : b1 = false := by rw [hb1.out, hR]; rfl
      clear hb1 hR
      have hcm := hcM.out hok1
      subst hcm
      go_wp2_with fail
      refine (show Calls Tryz.prog 87 _ _ fun e w' => e = .returned (.bool true) ∧ Below _ _ w' by simpa using specSameOutline_c ta T1 tc sa T1 sc _ (D.out.get 11 rfl : Own _ _ _ _ T1).at' (by omega) (D.out.get 10 rfl : Own _ _ _ _ T1).at' (by omega)).mono ?_
      rintro e w2 ⟨rfl, hb⟩
      replace hT := Lib.hid (hT.out.below hb)
      replace hU := Lib.hid (hU.out.below hb)
      replace hV := Lib.hid (hV.out.below hb)
      replace D := Lib.hid (D.out.later hb)
      clear hb
      go_wp2_with fail
      refine (show Calls Tryz.prog 87 _ _ fun e w' => e = .returned (.bool true) ∧ Below _ _ w' by simpa using specSameOutline_c ma M mc na M nc _ (D.out.get 8 rfl : Own _ _ _ _ M).at' (by omega) (D.out.get 7 rfl : Own _ _ _ _ M).at' (by omega)).mono ?_
      rintro e w2 ⟨rfl, hb⟩
      replace hT := Lib.hid (hT.out.below hb)
      replace hU := Lib.hid (hU.out.below hb)
      replace hV := Lib.hid (hV.out.below hb)
      replace D := Lib.hid (D.out.later hb)
      clear hb
      obtain ⟨p0, p1⟩ := spot_cell2 (D.out.get 6 rfl : Own _ _ _ _ [lo])
      obtain ⟨q0, q1⟩ := spot_cell2 (D.out.get 5 rfl : Own _ _ _ _ [hi])
      obtain ⟨r0, r1⟩ := spot_cell2 (D.out.get 4 rfl : Own _ _ _ _ [lo])
      obtain ⟨s0, s1⟩ := spot_cell2 (D.out.get 3 rfl : Own _ _ _ _ [hi])
      go_wp2_with fail
      refine (kA.out _ (D.out.get 9 rfl : Own _ _ _ _ ys).at').mono ?_
      rintro e w2 ⟨rfl, hb⟩
      replace hT := Lib.hid (hT.out.below hb)
      replace hU := Lib.hid (hU.out.below hb)
      replace hV := Lib.hid (hV.out.below hb)
      replace D := Lib.hid (D.out.later hb)
      clear hb
      clear kA
      clear p0 p1 q0 q1 r0 r1 s0 s1
      go_wp2_with fail
      refine (show Calls Tryz.prog 87 _ _ fun e w' => e = .returned (.bool true) ∧ Below _ _ w' by simpa using specSameOutline_c ua U uc va U vc _ (D.out.get 1 rfl : Own _ _ _ _ U).at' (by omega) (D.out.get 0 rfl : Own _ _ _ _ U).at' (by omega)).mono ?_
      rintro e w2 ⟨rfl, hb⟩
      replace hT := Lib.hid (hT.out.below hb)
      replace hU := Lib.hid (hU.out.below hb)
      replace hV := Lib.hid (hV.out.below hb)
      replace D := Lib.hid (D.out.later hb)
      clear hb
      go_wp2_with fail
      refine (implSameOutline_c pa us pc qa vs qc _ hU.out (by omega) hV.out (by omega)).mono ?_
      rintro e w2 ⟨rfl, hb⟩
      replace hT := Lib.hid (hT.out.below hb)
      replace hU := Lib.hid (hU.out.below hb)
      replace hV := Lib.hid (hV.out.below hb)
      replace D := Lib.hid (D.out.later hb)
      clear hb
      go_wp2_with fail
      refine (specSameOutline_c pa us pc qa vs qc _ hU.out (by omega) hV.out (by omega)).mono ?_
      rintro e w2 ⟨rfl, hb⟩
      replace hT := Lib.hid (hT.out.below hb)
      replace hU := Lib.hid (hU.out.below hb)
      replace hV := Lib.hid (hV.out.below hb)
      replace D := Lib.hid (D.out.later hb)
      clear hb
      go_wp2_with fail
      refine (implValidOutline_c ya ys yc _ (D.out.get 9 rfl : Own _ _ _ _ ys).at' (by omega)).mono ?_
      rintro e w2 ⟨rfl, hb⟩
      replace hT := Lib.hid (hT.out.below hb)
      replace hU := Lib.hid (hU.out.below hb)
      replace hV := Lib.hid (hV.out.below hb)
      replace D := Lib.hid (D.out.later hb)
      clear hb
      go_wp2_with fail
      refine (specValidOutline_c ya ys yc _ (D.out.get 9 rfl : Own _ _ _ _ ys).at' (by omega)).mono ?_
      rintro e w2 ⟨rfl, hb⟩
      replace hT := Lib.hid (hT.out.below hb)
      replace hU := Lib.hid (hU.out.below hb)
      replace hV := Lib.hid (hV.out.below hb)
      replace D := Lib.hid (D.out.later hb)
      clear hb
      by_cases hc : cT = 0
      · obtain ⟨Q, rfl, hQ3, hx24, hx3, hok, okT, lT, codeW, lW, okW, hsb⟩ := fT.out hc
        subst hc
        have hmod := tdiv_four hQ3
        obtain ⟨r, hr⟩ : ∃ r : Int, r = (((4 - Q) % 4 : Nat) : Int) := ⟨_, rfl⟩
        rw [← hr] at hmod codeW lW okW hsb
        have hr3 : 0 ≤ r ∧ r ≤ 3 := by omega
        have k1 := Lib.hid (fun w' h => implTurnOutline_c ta T1 tc r w' h (by omega) (by omega))
        rw [codeW] at k1
        obtain ⟨W, hW⟩ : ∃ W, W = turnOf T1 r := ⟨_, rfl⟩
        rw [← hW] at k1 lW okW hsb
        replace hsb := Lib.hid hsb
        replace okW := Lib.hid okW
        replace hok := Lib.hid hok
        have hWB : ((W.length : Int) != xs.length) = false := by simp [lW]
        replace lW := Lib.hid lW
        replace lT := Lib.hid lT
        clear hr codeW okT hW
        have hw4 : IntKind.i64.wrap (4 - (Q : Int)) = 4 - (Q : Int) := IntWalk.i64_in _ (by omega)
        go_wp2_with fail
        refine (k1.out _ (D.out.get 11 rfl : Own _ _ _ _ T1).at').mono ?_
        rintro e w2 ⟨v, rfl, hO, hb⟩
        obtain ⟨wa, wc, rfl, -⟩ := hO.at
        replace hT := Lib.hid (hT.out.below hb)
        replace hU := Lib.hid (hU.out.below hb)
        replace hV := Lib.hid (hV.out.below hb)
        replace D := Lib.hid (D.out.add hb hO)
        clear hb hO
        clear k1
        go_wp2_with fail
        have Ax := Lib.hid (D.out.get 13 rfl : Own _ _ _ _ xs).at'
        have Aw := Lib.hid (D.out.get 0 rfl : Own _ _ _ _ W).at'
        obtain ⟨wb, hwb⟩ : ∃ wo : World, wo = w2 := ⟨_, rfl⟩
        subst hwb
        go_loopw [47] (fun i wr => ∃ k : Nat, k ≤ xs.length ∧ i = .int .i64 k ∧ Below wb.heap.size wb wr) (fun i _ => xs.length - (intOf i).toNat)
        case atStart => exact ⟨0, by omega, rfl, Below.refl _ _⟩
        case round =>
          obtain ⟨j, hj, rfl, hbr⟩ := hrel
          obtain ⟨wc', hwc⟩ : ∃ wo : World, wo = wr := ⟨_, rfl⟩
          subst hwc
          by_cases hlt : j < xs.length
          · have h0 : 0 < xs.length := by omega
            have hlt2 : j < W.length := by rw [lW.out]; exact hlt
            have h02 : 0 < W.length := by rw [lW.out]; exact h0
            obtain ⟨gd, od, rfl⟩ := Ax.out.addr hlt
            obtain ⟨ge, oe, rfl⟩ := Aw.out.addr hlt2
            obtain ⟨d0, d1⟩ := (Ax.out.below hbr).spot hlt
            obtain ⟨d2, d3⟩ := (Ax.out.below hbr).spot h0
            obtain ⟨e0, e1⟩ := (Aw.out.below hbr).spot hlt2
            obtain ⟨e2, e3⟩ := (Aw.out.below hbr).spot h02
            simp only [Nat.zero_mul, Nat.add_zero] at d2 d3 e2 e3
            have g := hsb.out j
            rw [nth_get hlt2, nth_get h02, nth_get hlt, nth_get h0] at g
            have b1' := okSpot_iff.1 (hok.out _ (List.getElem_mem hlt))
            have b2 := okSpot_iff.1 (hok.out _ (List.getElem_mem h0))
            have b3 := okSpot_iff.1 (okW.out _ (List.getElem_mem hlt2))
            have b4 := okSpot_iff.1 (okW.out _ (List.getElem_mem h02))
            unfold Pick.sb at g
            rw [Spot.mk.injEq] at g
            obtain ⟨g0, g1⟩ := g
            generalize xs[j].X = m0 at *
            generalize xs[j].Y = m1 at *
            generalize xs[0].X = m2 at *
            generalize xs[0].Y = m3 at *
            generalize W[j].X = m4 at *
            generalize W[j].Y = m5 at *
            generalize W[0].X = m6 at *
            generalize W[0].Y = m7 at *
            have z0 : IntKind.i64.wrap (m4 - m6) = m4 - m6 := IntWalk.i64_in _ (by omega)
            have z1 : IntKind.i64.wrap (m0 - m2) = m0 - m2 := IntWalk.i64_in _ (by omega)
            have z2 : IntKind.i64.wrap (m5 - m7) = m5 - m7 := IntWalk.i64_in _ (by omega)
            have z3 : IntKind.i64.wrap (m1 - m3) = m1 - m3 := IntWalk.i64_in _ (by omega)
            have t0 : ((m4 - m6) != (m0 - m2)) = false := by rw [g0]; simp
            have t1 : ((m5 - m7) != (m1 - m3)) = false := by rw [g1]; simp
            clear g0 g1 b1' b2 b3 b4
            replace d0 := rg d0
            replace d1 := rg d1
            replace d2 := rg d2
            replace d3 := rg d3
            replace e0 := rg e0
            replace e1 := rg e1
            replace e2 := rg e2
            replace e3 := rg e3
            have hltI : (j : Int) < xs.length := by omega
            have hltW : (j : Int) < W.length := by omega
            have h0I : (0 : Int) < xs.length := by omega
            have h0W : (0 : Int) < W.length := by omega
            go_wp2_with fail
            refine wp_region_quiet_below (by kernel_rfl) (by kernel_rfl) ?_
            repeat (go_big_quiet_step ((fail)))
            refine wpQuiet_nil ?_
            intro wq hw'
            have hbq := grown_of hw'
            clear hw'
            replace hbr := upw hbr hbq
            clear hbq
            go_wp2_with fail
            go_roundw
            case rel => exact ⟨j + 1, by omega, by first | rfl | go_num, hbr⟩
            case measure => first | (simp [intOf]; done) | (simp [intOf]; omega)
          · go_wp2_with fail
            go_ret
            exact ⟨rfl, upw D.out.up hbr⟩
      · have hcB : (cT != 0) = true := by simp [hc]
        go_wp2_with fail
        go_ret
        exact ⟨rfl, D.out.up⟩

end Go.Proofs.YtledlkggggpdpaaGreatDoor
