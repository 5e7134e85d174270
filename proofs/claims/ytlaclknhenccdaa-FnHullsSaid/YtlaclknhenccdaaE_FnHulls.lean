/- FnHulls: for all bytes the law returns true, and the bytes read behind the call as before. -/
import Derived.Test.YtlaclknhenccdaaHullSum
import Derived.Test.YtlaclknhenccdaaDrP
import Derived.Test.YtlaclknhenccdaaF6
namespace Go.Proofs.Ytlaclknhenccdaa
open Go.ChangeShapes Go.WideShapes Go.ChangeAt Go.RowKit

set_option maxRecDepth 100000 in
set_option maxHeartbeats 8000000 in
theorem lawHulls (a : Option Addr) (L : List UInt8) (c : Nat) (w : World) (hx : At w a L) (hlx : L.length ≤ 9223372036854775807) :
    Calls Try.prog 7 #[.slice a L.length c] w fun e w' => e = .returned (.bool true) ∧ Below w.heap.size w w' := by
  have hbig := f6big_c a L.length c w
  by_cases hg : 4096 < L.length
  · have e : decide (4096 < L.length) = true := by simpa using hg
    rw [e] at hbig
    go_enter Try.func7, Try.ntmps7
    go_wp2_with fail
    refine hbig.mono ?_
    rintro e w1 ⟨rfl, rfl⟩
    go_wp2_with fail
    go_ret
    exact ⟨rfl, Below.refl _ _⟩
  · have e : decide (4096 < L.length) = false := by simpa using hg
    rw [e] at hbig
    clear e
    have D := Lib.hid (Sp.refl w)
    go_enter Try.func7, Try.ntmps7
    go_wp2_with fail
    refine hbig.mono ?_
    rintro e w1 ⟨rfl, rfl⟩
    clear hbig hg
    go_wp2_with fail
    refine (drawPlaceOfSpot_c a L c _ (hx.below D.out.up) hlx).mono ?_
    rintro e w2 ⟨v, xs, p, rfl, hxl, hpr, hxr, hO, hb⟩
    obtain ⟨xa, xc, rfl, -⟩ := hO.at
    replace D := Lib.hid (D.out.add hb hO)
    clear hb hO
    clear hx hxr
    have k1 := Lib.hid (fun w' h => implPlaceOfSpot_c xa xs xc p w' h (by omega) hpr)
    have k2 := Lib.hid (fun w' h => specPlaceOfSpot_c xa xs xc p w' h (by omega) hpr)
    have k3 := Lib.hid (fun w' h => implHullOf_c xa xs xc w' h (by omega))
    have k4 := Lib.hid (fun w' h => specHullOf_c xa xs xc w' h (by omega))
    have k5 := Lib.hid (fun w' h => implIsHollow_c xa xs xc w' h (by omega))
    have k6 := Lib.hid (fun w' h => specIsHollow_c xa xs xc w' h (by omega))
    have k7 := Lib.hid (fun w' h => implSpotsInside_c xa xs xc w' h (by omega))
    have k8 := Lib.hid (fun w' h => specSpotsInside_c xa xs xc w' h (by omega))
    have k9 := Lib.hid (fun w' h => specBoxOf_c xa xs xc w' h (by omega))
    have fH := Lib.hid (hullX_ok (xs := xs))
    have fI := Lib.hid (fun h => @count_all xs h)
    have fP : Hid (okOutline xs = false → hullCode xs = 1) := Lib.hid (fun h => by simp [hullCode, h])
    have fL := HullOf_len xs
    have fQ : Hid (okOutline xs = true → (okSpot p = true ∧ (placeOf xs p).2 = 0 ∧ ((placeOf xs p).1 = ⟨#[101, 100, 103, 101]⟩ ∨ (placeOf xs p).1 = ⟨#[105, 110, 115, 105, 100, 101]⟩) ∧ placeOf (hullL xs) p ≠ (outB, 0)) ∨ (placeOf xs p).2 = 2 ∨ ((placeOf xs p).1 = ⟨#[111, 117, 116, 115, 105, 100, 101]⟩ ∧ (placeOf xs p).2 = 0)) := Lib.hid (fun h => by
      cases hp : okSpot p
      · right; left; simp [placeOf, h, hp]
      · rcases place_count h hp with ⟨e, _⟩ | ⟨e, _⟩ | ⟨e, _⟩
        · left; exact ⟨rfl, by rw [e], Or.inl (by rw [e]), hull_inside h hp (by rw [e]; decide)⟩
        · left; exact ⟨rfl, by rw [e], Or.inr (by rw [e]), hull_inside h hp (by rw [e]; decide)⟩
        · right; right; exact ⟨by rw [e], by rw [e]⟩)
    generalize hP1 : (placeOf xs p).1 = P1 at *
    generalize (placeOf xs p).2 = cP at *
    generalize hullCode xs = cH at *
    generalize hullX xs = H at *
    generalize (hollow xs).2 = cO at *
    generalize hB : (hollow xs).1 = B at *
    generalize (spotsInside xs).2.2 = cI at *
    generalize (spotsInside xs).2.1 = I2 at *
    generalize (spotsInside xs).1 = I1 at *
    replace hB := Lib.hid hB
    clear hP1
    obtain ⟨wn, hwn⟩ : ∃ wn, wn = w2.alloc (.cells #[.int .i64 p.X, .int .i64 p.Y] 83) := ⟨_, rfl⟩
    replace D := Lib.hid (D.out.add (w' := wn) (by rw [hwn]; exact newB w2 _) (by rw [hwn]; exact own_alloc w2 83 #[.int .i64 p.X, .int .i64 p.Y] [p] rfl (by simp)))
    simp only [List.length_singleton] at D
    obtain ⟨np, hnp⟩ : ∃ b, b = w2.heap.size := ⟨_, rfl⟩
    rw [← hnp] at D
    replace hwn := Lib.hid hwn
    obtain ⟨p0, p1⟩ := spot_cell2 (D.out.get 0 rfl : Own _ _ _ _ [p])
    rw [hnp] at p0 p1
    replace hnp := Lib.hid hnp
    go_wp2_with (rw [← hwn.out])
    rw [← hnp.out]
    clear hwn hnp w2 p0 p1
    refine (k1.out _ (D.out.get 1 rfl : Own _ _ _ _ xs).at').mono ?_
    rintro e w2 ⟨rfl, hb⟩
    replace D := Lib.hid (D.out.later hb)
    clear hb
    clear k1
    obtain ⟨p0, p1⟩ := spot_cell2 (D.out.get 0 rfl : Own _ _ _ _ [p])
    go_wp2_with fail
    clear p0 p1
    refine (k2.out _ (D.out.get 1 rfl : Own _ _ _ _ xs).at').mono ?_
    rintro e w2 ⟨rfl, hb⟩
    replace D := Lib.hid (D.out.later hb)
    clear hb
    clear k2
    go_wp2_with fail
    refine (k3.out _ (D.out.get 1 rfl : Own _ _ _ _ xs).at').mono ?_
    rintro e w2 ⟨v, rfl, hO, hb⟩
    obtain ⟨ha, hc, rfl, -⟩ := hO.at
    replace D := Lib.hid (D.out.add hb hO)
    clear hb hO
    clear k3
    go_wp2_with fail
    refine (k4.out _ (D.out.get 2 rfl : Own _ _ _ _ xs).at').mono ?_
    rintro e w2 ⟨v, rfl, hO, hb⟩
    obtain ⟨ga, gc, rfl, -⟩ := hO.at
    replace D := Lib.hid (D.out.add hb hO)
    clear hb hO
    clear k4
    go_wp2_with fail
    refine (k5.out _ (D.out.get 3 rfl : Own _ _ _ _ xs).at').mono ?_
    rintro e w2 ⟨rfl, hb⟩
    replace D := Lib.hid (D.out.later hb)
    clear hb
    clear k5
    go_wp2_with fail
    refine (k6.out _ (D.out.get 3 rfl : Own _ _ _ _ xs).at').mono ?_
    rintro e w2 ⟨rfl, hb⟩
    replace D := Lib.hid (D.out.later hb)
    clear hb
    clear k6
    go_wp2_with fail
    refine (k7.out _ (D.out.get 3 rfl : Own _ _ _ _ xs).at').mono ?_
    rintro e w2 ⟨rfl, hb⟩
    replace D := Lib.hid (D.out.later hb)
    clear hb
    clear k7
    go_wp2_with fail
    refine (k8.out _ (D.out.get 3 rfl : Own _ _ _ _ xs).at').mono ?_
    rintro e w2 ⟨rfl, hb⟩
    replace D := Lib.hid (D.out.later hb)
    clear hb
    clear k8
    go_wp2_with fail
    refine (show Calls Try.prog 64 _ _ fun e w' => e = .returned (.bool true) ∧ Below _ _ w' by simpa using specSameOutline_c ha H hc ga H gc _ (D.out.get 1 rfl : Own _ _ _ _ H).at' (by omega) (D.out.get 0 rfl : Own _ _ _ _ H).at' (by omega)).mono ?_
    rintro e w2 ⟨rfl, hb⟩
    replace D := Lib.hid (D.out.later hb)
    clear hb
    cases hok1 : okOutline xs
    · have e1 := fP.out hok1
      subst e1
      go_wp2_with fail
      go_ret
      exact ⟨rfl, D.out.up⟩
    · obtain ⟨e1, e2, e3, e4, e5, e6⟩ := fH.out hok1
      subst e1
      have eB : B = decide (H.length < xs.length) := by rw [← hB.out, e6, e2]
      have hBB : (!B == decide (H.length < xs.length)) = false := by rw [eB]; cases decide (H.length < xs.length) <;> rfl
      have hHn : ¬ xs.length < H.length := by rw [e2]; omega
      have hHl : ¬ (xs.length : Int) < H.length := by rw [e2]; omega
      have kH := Lib.hid (fun w' h => implHullOf_c ha H hc w' h (by omega))
      rw [e2, e3, e4, ← e2] at kH
      replace eB := Lib.hid eB
      replace e2 := Lib.hid e2
      clear e3 e4 e5 e6 fP hB
      go_wp2_with fail
      refine (kH.out _ (D.out.get 1 rfl : Own _ _ _ _ H).at').mono ?_
      rintro e w2 ⟨v, rfl, hO, hb⟩
      obtain ⟨ra, rc, rfl, -⟩ := hO.at
      replace D := Lib.hid (D.out.add hb hO)
      clear hb hO
      clear kH
      go_wp2_with fail
      refine (show Calls Try.prog 64 _ _ fun e w' => e = .returned (.bool true) ∧ Below _ _ w' by simpa using specSameOutline_c ra H rc ga H gc _ (D.out.get 0 rfl : Own _ _ _ _ H).at' (by omega) (D.out.get 1 rfl : Own _ _ _ _ H).at' (by omega)).mono ?_
      rintro e w2 ⟨rfl, hb⟩
      replace D := Lib.hid (D.out.later hb)
      clear hb
      go_wp2_with fail
      have Ax := Lib.hid (D.out.get 4 rfl : Own _ _ _ _ xs).at'
      have Ah := Lib.hid (D.out.get 2 rfl : Own _ _ _ _ H).at'
      obtain ⟨wb, hwb⟩ : ∃ wo : World, wo = w2 := ⟨_, rfl⟩
      subst hwb
      go_loopw [25] (fun i wr => ∃ k : Nat, k ≤ xs.length ∧ i = .int .i64 k ∧ Below wb.heap.size wb wr) (fun i _ => xs.length - (intOf i).toNat)
      case atStart => exact ⟨0, by omega, rfl, Below.refl _ _⟩
      case round =>
        obtain ⟨j, hj, rfl, hbr⟩ := hrel
        obtain ⟨wc', hwc⟩ : ∃ wo : World, wo = wr := ⟨_, rfl⟩
        subst hwc
        by_cases hlt : j < xs.length
        · obtain ⟨gd, od, rfl⟩ := Ax.out.addr hlt
          obtain ⟨d0, d1⟩ := (Ax.out.below hbr).spot hlt
          have hq9 := (okOutline_iff.1 hok1).1.2 _ (List.getElem_mem hlt)
          have hc9 := hull_corner hok1 (List.getElem_mem hlt)
          obtain ⟨P, hP, hP2⟩ := hull_two hok1 hq9 hc9
          have hr9 : Rep.ok xs[j] := by have := okSpot_iff.1 hq9; exact ⟨by omega, by omega⟩
          generalize xs[j] = q at *
          have kq := Lib.hid (fun w' h => implPlaceOfSpot_c ha H hc q w' h (by omega) hr9)
          rw [e2.out, hP, ← e2.out] at kq
          clear hq9 hc9 hP hr9
          have hltI : (j : Int) < xs.length := by omega
          go_wp2_with fail
          refine (kq.out _ (Ah.out.below hbr)).mono ?_
          rintro e w3 ⟨rfl, hb3⟩
          replace hbr := upw hbr hb3
          clear hb3 kq d0 d1
          rcases hP2 with rfl | rfl
          · go_wp2_with fail
            go_roundw
            case rel => exact ⟨j + 1, by omega, by first | rfl | go_num, hbr⟩
            case measure => first | (simp [intOf]; done) | (simp [intOf]; omega)
          · go_wp2_with fail
            go_roundw
            case rel => exact ⟨j + 1, by omega, by first | rfl | go_num, hbr⟩
            case measure => first | (simp [intOf]; done) | (simp [intOf]; omega)
        · replace D := Lib.hid (D.out.later hbr)
          clear hbr hj Ax Ah
          rcases fQ.out hok1 with ⟨hp9, hc9, hP9, hin9⟩ | hc9 | ⟨hP9, hc9⟩
          · subst hc9
            obtain ⟨P, hP, hP2⟩ := hull_two hok1 hp9 hin9
            have v1 : (P1.toList == ({ data := #[111, 117, 116, 115, 105, 100, 101] } : ByteArray).toList) = false := by rcases hP9 with rfl | rfl <;> (simp only [Lib.toList_data]; decide)
            have v2 : (P1.toList == [111, 117, 116, 115, 105, 100, 101]) = false := by rcases hP9 with rfl | rfl <;> (simp only [Lib.toList_data]; decide)
            have v3 : ¬ P1.toList = [111, 117, 116, 115, 105, 100, 101] := by rcases hP9 with rfl | rfl <;> (simp only [Lib.toList_data]; decide)
            have v4 : ¬ P1 = ({ data := #[111, 117, 116, 115, 105, 100, 101] } : ByteArray) := by rcases hP9 with rfl | rfl <;> decide
            have u1 : (P.toList == ({ data := #[111, 117, 116, 115, 105, 100, 101] } : ByteArray).toList) = false := by rcases hP2 with rfl | rfl <;> (simp only [Lib.toList_data]; decide)
            have u2 : (P.toList == [111, 117, 116, 115, 105, 100, 101]) = false := by rcases hP2 with rfl | rfl <;> (simp only [Lib.toList_data]; decide)
            have u3 : ¬ P.toList = [111, 117, 116, 115, 105, 100, 101] := by rcases hP2 with rfl | rfl <;> (simp only [Lib.toList_data]; decide)
            have u4 : ¬ P = ({ data := #[111, 117, 116, 115, 105, 100, 101] } : ByteArray) := by rcases hP2 with rfl | rfl <;> decide
            have kq := Lib.hid (fun w' h => implPlaceOfSpot_c ha H hc p w' h (by omega) hpr)
            rw [e2.out, hP, ← e2.out] at kq
            clear hP hP2 hP9 hin9 hp9
            obtain ⟨p0, p1⟩ := spot_cell2 (D.out.get 3 rfl : Own _ _ _ _ [p])
            go_wp2_with fail
            refine (kq.out _ (D.out.get 2 rfl : Own _ _ _ _ H).at').mono ?_
            rintro e w2 ⟨rfl, hb⟩
            replace D := Lib.hid (D.out.later hb)
            clear hb
            clear kq p0 p1
            go_wp2_with fail
            refine (k9.out _ (D.out.get 4 rfl : Own _ _ _ _ xs).at').mono ?_
            rintro e w2 ⟨rfl, hb⟩
            replace D := Lib.hid (D.out.later hb)
            clear hb k9
            rw [box_lo hok1]
            have bR := box_range hok1
            have fC : Hid (∀ nx ny : Nat, (hiTo xs xs.length).X - (loTo xs xs.length).X + 1 = nx → (hiTo xs xs.length).Y - (loTo xs xs.length).Y + 1 = ny → cntTo (inF xs) (loTo xs xs.length) ny nx 0 = I1 ∧ cntTo (onF xs) (loTo xs xs.length) ny nx 0 = I2) := Lib.hid (fun nx ny h1 h2 => fI.out hok1 h1 h2)
            have bS := Lib.hid (fun q => @box_spot xs hok1 q)
            generalize loTo xs xs.length = lo at *
            generalize hiTo xs xs.length = hi at *
            have c0 : IntKind.i64.wrap (hi.X - lo.X) = hi.X - lo.X := IntWalk.i64_in _ (by omega)
            have c1 : IntKind.i64.wrap (hi.Y - lo.Y) = hi.Y - lo.Y := IntWalk.i64_in _ (by omega)
            obtain ⟨wm, hwm, D'⟩ : ∃ wm, (w2.alloc (.cells #[.int .i64 lo.X, .int .i64 lo.Y] 83)).alloc (.cells #[.int .i64 hi.X, .int .i64 hi.Y] 83) = wm ∧ Hid (Sp w wm (ite' 83 (.slice (some ⟨w2.heap.size + 1, 0, none⟩) 1 1) [hi] :: ite' 83 (.slice (some ⟨w2.heap.size, 0, none⟩) 1 1) [lo] :: _)) := by
              refine ⟨_, rfl, Lib.hid ?_⟩
              have d1 := D.out.add (newB w2 (.cells #[.int .i64 lo.X, .int .i64 lo.Y] 83)) (own_alloc w2 83 #[.int .i64 lo.X, .int .i64 lo.Y] [lo] rfl (by simp))
              have d2 := d1.add (newB _ (.cells #[.int .i64 hi.X, .int .i64 hi.Y] 83)) (own_alloc _ 83 #[.int .i64 hi.X, .int .i64 hi.Y] [hi] rfl (by simp))
              simp only [List.length_singleton] at d2
              have hsz : (w2.alloc (.cells #[.int .i64 lo.X, .int .i64 lo.Y] 83)).heap.size = w2.heap.size + 1 := by simp
              rw [hsz] at d2
              exact d2
            clear D
            have D := D'
            clear D'
            obtain ⟨nh, hnh⟩ : ∃ b, b = w2.heap.size + 1 := ⟨_, rfl⟩
            obtain ⟨nl, hnl⟩ : ∃ b, b = w2.heap.size := ⟨_, rfl⟩
            rw [← hnh, ← hnl] at D
            obtain ⟨l0, l1⟩ := spot_cell2 (D.out.get 1 rfl : Own _ _ _ _ [lo])
            obtain ⟨h0, h1⟩ := spot_cell2 (D.out.get 0 rfl : Own _ _ _ _ [hi])
            rw [hnl] at l0 l1
            rw [hnh] at h0 h1
            replace hnh := Lib.hid hnh
            replace hnl := Lib.hid hnl
            by_cases g1 : 40 < hi.X - lo.X
            · go_wp2_with fail
              go_ret
              exact ⟨rfl, D.out.up⟩
            · by_cases g2 : 45 < hi.Y - lo.Y
              · go_wp2_with fail
                go_ret
                exact ⟨rfl, D.out.up⟩
              · obtain ⟨nx, hnx⟩ : ∃ nx : Nat, hi.X - lo.X + 1 = nx := ⟨(hi.X - lo.X + 1).toNat, by omega⟩
                obtain ⟨ny, hny⟩ : ∃ ny : Nat, hi.Y - lo.Y + 1 = ny := ⟨(hi.Y - lo.Y + 1).toNat, by omega⟩
                obtain ⟨fC1, fC2⟩ := fC.out nx ny hnx hny
                replace fC1 := Lib.hid fC1
                replace fC2 := Lib.hid fC2
                replace hnx := Lib.hid hnx
                replace hny := Lib.hid hny
                clear fC
                go_wp2_with fail
                have hwD := D.out.up
                have Ax := Lib.hid (D.out.get 6 rfl : Own _ _ _ _ xs).at'
                have l0' := l0
                obtain ⟨wb, hwb⟩ : ∃ wo : World, wo = wm := ⟨_, rfl⟩
                subst hwb
                have hnx9 : nx ≤ 41 := by have := hnx.out; omega
                have hny9 : ny ≤ 46 := by have := hny.out; omega
                go_loopw [33, 34, 35] (fun c s x wr => ∃ (k : Nat) (z u : Int), k ≤ nx ∧ x = .int .i64 (lo.X + k) ∧ c = .int .i64 z ∧ s = .int .i64 u ∧ Hid (z = cntTo (inF xs) lo ny k 0) ∧ Hid (u = cntTo (onF xs) lo ny k 0) ∧ (0 ≤ z ∧ z ≤ 46 * k) ∧ (0 ≤ u ∧ u ≤ 46 * k) ∧ Below wb.heap.size wb wr) (fun _ _ x _ => nx - (intOf x - lo.X).toNat)
                case atStart => exact ⟨0, 0, 0, Nat.zero_le _, by first | rfl | simp, rfl, rfl, Lib.hid (cntTo_zero _ _ _).symm, Lib.hid (cntTo_zero _ _ _).symm, by omega, by omega, Below.refl _ _⟩
                case round =>
                  obtain ⟨k, z, u, hk, rfl, rfl, rfl, hz, hu, bz, bu, hbr⟩ := hrel
                  obtain ⟨wc', hwc⟩ : ∃ wo : World, wo = wr := ⟨_, rfl⟩
                  subst hwc
                  have a0 := kept_cell l0 hbr
                  have a1 := kept_cell l1 hbr
                  have a2 := kept_cell h0 hbr
                  have a3 := kept_cell h1 hbr
                  by_cases hlt : k < nx
                  · have hxI : lo.X + (k : Int) ≤ hi.X := by have := hnx.out; omega
                    go_wp2_with fail
                    go_loopw [33, 34, 36] (fun c s y wr => ∃ (j : Nat) (z u : Int), j ≤ ny ∧ y = .int .i64 (lo.Y + j) ∧ c = .int .i64 z ∧ s = .int .i64 u ∧ Hid (z = cntTo (inF xs) lo ny k j) ∧ Hid (u = cntTo (onF xs) lo ny k j) ∧ (0 ≤ z ∧ z ≤ 46 * k + j) ∧ (0 ≤ u ∧ u ≤ 46 * k + j) ∧ Below wc'.heap.size wc' wr) (fun _ _ y _ => ny - (intOf y - lo.Y).toNat)
                    case atStart => exact ⟨0, z, u, Nat.zero_le _, by first | rfl | simp, rfl, rfl, hz, hu, by omega, by omega, Below.refl _ _⟩
                    case round =>
                      obtain ⟨j, z', u', hjn, rfl, rfl, rfl, hz', hu', bz', bu', hb2⟩ := hrel
                      obtain ⟨wd, hwd⟩ : ∃ wo : World, wo = wr := ⟨_, rfl⟩
                      subst hwd
                      replace a1 := kept_cell a1 hb2
                      replace a3 := kept_cell a3 hb2
                      have hbE := upw hbr hb2
                      by_cases hlj : j < ny
                      · have hyI : lo.Y + (j : Int) ≤ hi.Y := by have := hny.out; omega
                        have hq := bS.out ⟨lo.X + k, lo.Y + j⟩ ⟨by simp only; omega, by simp only; omega⟩ ⟨by simp only; omega, by simp only; omega⟩
                        have hr9 : Rep.ok (⟨lo.X + k, lo.Y + j⟩ : Spot) := ⟨by simp only; omega, by simp only; omega⟩
                        have kq := Lib.hid (implPlaceOfSpot_c xa xs xc ⟨lo.X + k, lo.Y + j⟩ wd (Ax.out.below hbE) (by omega) hr9)
                        have s1 := Lib.hid (cntTo_succ (inF xs) lo ny k j)
                        have s2 := Lib.hid (cntTo_succ (onF xs) lo ny k j)
                        rcases place_count hok1 hq with ⟨e, ei, eo⟩ | ⟨e, ei, eo⟩ | ⟨e, ei, eo⟩
                        all_goals
                          rw [e] at kq
                          rw [ei] at s1
                          rw [eo] at s2
                          clear e ei eo hq hr9
                          go_wp2_with fail
                          refine kq.out.mono ?_
                          rintro e w4 ⟨rfl, hb4⟩
                          replace hb2 := upw hb2 hb4
                          clear hb4 kq a0 a1 a2 a3
                          go_wp2_with fail
                          go_roundw
                        case rel => exact ⟨j + 1, z', u' + 1, by omega, by first | rfl | go_num, rfl, rfl, Lib.hid (by rw [s1.out, ← hz'.out]; omega), Lib.hid (by rw [s2.out, ← hu'.out]), by omega, by omega, hb2⟩
                        case measure => first | (simp [intOf]; done) | (simp [intOf]; omega)
                        case rel => exact ⟨j + 1, z' + 1, u', by omega, by first | rfl | go_num, rfl, rfl, Lib.hid (by rw [s1.out, ← hz'.out]), Lib.hid (by rw [s2.out, ← hu'.out]; omega), by omega, by omega, hb2⟩
                        case measure => first | (simp [intOf]; done) | (simp [intOf]; omega)
                        case rel => exact ⟨j + 1, z', u', by omega, by first | rfl | go_num, rfl, rfl, Lib.hid (by rw [s1.out, ← hz'.out]; omega), Lib.hid (by rw [s2.out, ← hu'.out]; omega), by omega, by omega, hb2⟩
                        case measure => first | (simp [intOf]; done) | (simp [intOf]; omega)
                      · obtain rfl : j = ny := by omega
                        have hyI : ¬ lo.Y + (j : Int) ≤ hi.Y := by have := hny.out; omega
                        go_wp2_with fail
                        go_roundw
                        case rel => exact ⟨k + 1, z', u', by omega, by first | rfl | go_num, rfl, rfl, Lib.hid (by rw [cntTo_row]; exact hz'.out), Lib.hid (by rw [cntTo_row]; exact hu'.out), by omega, by omega, upw hbr hb2⟩
                        case measure => first | (simp [intOf]; done) | (simp [intOf]; omega)
                  · obtain rfl : k = nx := by omega
                    have hxI : ¬ lo.X + (k : Int) ≤ hi.X := by have := hnx.out; omega
                    obtain rfl : z = I1 := hz.out.trans fC1.out
                    obtain rfl : u = I2 := hu.out.trans fC2.out
                    go_wp2_with fail
                    go_ret
                    exact ⟨by simp, upw D.out.up hbr⟩

          · subst hc9
            go_wp2_with fail
            refine (k9.out _ (D.out.get 4 rfl : Own _ _ _ _ xs).at').mono ?_
            rintro e w2 ⟨rfl, hb⟩
            replace D := Lib.hid (D.out.later hb)
            clear hb k9
            rw [box_lo hok1]
            have bR := box_range hok1
            have fC : Hid (∀ nx ny : Nat, (hiTo xs xs.length).X - (loTo xs xs.length).X + 1 = nx → (hiTo xs xs.length).Y - (loTo xs xs.length).Y + 1 = ny → cntTo (inF xs) (loTo xs xs.length) ny nx 0 = I1 ∧ cntTo (onF xs) (loTo xs xs.length) ny nx 0 = I2) := Lib.hid (fun nx ny h1 h2 => fI.out hok1 h1 h2)
            have bS := Lib.hid (fun q => @box_spot xs hok1 q)
            generalize loTo xs xs.length = lo at *
            generalize hiTo xs xs.length = hi at *
            have c0 : IntKind.i64.wrap (hi.X - lo.X) = hi.X - lo.X := IntWalk.i64_in _ (by omega)
            have c1 : IntKind.i64.wrap (hi.Y - lo.Y) = hi.Y - lo.Y := IntWalk.i64_in _ (by omega)
            obtain ⟨wm, hwm, D'⟩ : ∃ wm, (w2.alloc (.cells #[.int .i64 lo.X, .int .i64 lo.Y] 83)).alloc (.cells #[.int .i64 hi.X, .int .i64 hi.Y] 83) = wm ∧ Hid (Sp w wm (ite' 83 (.slice (some ⟨w2.heap.size + 1, 0, none⟩) 1 1) [hi] :: ite' 83 (.slice (some ⟨w2.heap.size, 0, none⟩) 1 1) [lo] :: _)) := by
              refine ⟨_, rfl, Lib.hid ?_⟩
              have d1 := D.out.add (newB w2 (.cells #[.int .i64 lo.X, .int .i64 lo.Y] 83)) (own_alloc w2 83 #[.int .i64 lo.X, .int .i64 lo.Y] [lo] rfl (by simp))
              have d2 := d1.add (newB _ (.cells #[.int .i64 hi.X, .int .i64 hi.Y] 83)) (own_alloc _ 83 #[.int .i64 hi.X, .int .i64 hi.Y] [hi] rfl (by simp))
              simp only [List.length_singleton] at d2
              have hsz : (w2.alloc (.cells #[.int .i64 lo.X, .int .i64 lo.Y] 83)).heap.size = w2.heap.size + 1 := by simp
              rw [hsz] at d2
              exact d2
            clear D
            have D := D'
            clear D'
            obtain ⟨nh, hnh⟩ : ∃ b, b = w2.heap.size + 1 := ⟨_, rfl⟩
            obtain ⟨nl, hnl⟩ : ∃ b, b = w2.heap.size := ⟨_, rfl⟩
            rw [← hnh, ← hnl] at D
            obtain ⟨l0, l1⟩ := spot_cell2 (D.out.get 1 rfl : Own _ _ _ _ [lo])
            obtain ⟨h0, h1⟩ := spot_cell2 (D.out.get 0 rfl : Own _ _ _ _ [hi])
            rw [hnl] at l0 l1
            rw [hnh] at h0 h1
            replace hnh := Lib.hid hnh
            replace hnl := Lib.hid hnl
            by_cases g1 : 40 < hi.X - lo.X
            · go_wp2_with fail
              go_ret
              exact ⟨rfl, D.out.up⟩
            · by_cases g2 : 45 < hi.Y - lo.Y
              · go_wp2_with fail
                go_ret
                exact ⟨rfl, D.out.up⟩
              · obtain ⟨nx, hnx⟩ : ∃ nx : Nat, hi.X - lo.X + 1 = nx := ⟨(hi.X - lo.X + 1).toNat, by omega⟩
                obtain ⟨ny, hny⟩ : ∃ ny : Nat, hi.Y - lo.Y + 1 = ny := ⟨(hi.Y - lo.Y + 1).toNat, by omega⟩
                obtain ⟨fC1, fC2⟩ := fC.out nx ny hnx hny
                replace fC1 := Lib.hid fC1
                replace fC2 := Lib.hid fC2
                replace hnx := Lib.hid hnx
                replace hny := Lib.hid hny
                clear fC
                go_wp2_with fail
                have hwD := D.out.up
                have Ax := Lib.hid (D.out.get 6 rfl : Own _ _ _ _ xs).at'
                have l0' := l0
                obtain ⟨wb, hwb⟩ : ∃ wo : World, wo = wm := ⟨_, rfl⟩
                subst hwb
                have hnx9 : nx ≤ 41 := by have := hnx.out; omega
                have hny9 : ny ≤ 46 := by have := hny.out; omega
                go_loopw [33, 34, 35] (fun c s x wr => ∃ (k : Nat) (z u : Int), k ≤ nx ∧ x = .int .i64 (lo.X + k) ∧ c = .int .i64 z ∧ s = .int .i64 u ∧ Hid (z = cntTo (inF xs) lo ny k 0) ∧ Hid (u = cntTo (onF xs) lo ny k 0) ∧ (0 ≤ z ∧ z ≤ 46 * k) ∧ (0 ≤ u ∧ u ≤ 46 * k) ∧ Below wb.heap.size wb wr) (fun _ _ x _ => nx - (intOf x - lo.X).toNat)
                case atStart => exact ⟨0, 0, 0, Nat.zero_le _, by first | rfl | simp, rfl, rfl, Lib.hid (cntTo_zero _ _ _).symm, Lib.hid (cntTo_zero _ _ _).symm, by omega, by omega, Below.refl _ _⟩
                case round =>
                  obtain ⟨k, z, u, hk, rfl, rfl, rfl, hz, hu, bz, bu, hbr⟩ := hrel
                  obtain ⟨wc', hwc⟩ : ∃ wo : World, wo = wr := ⟨_, rfl⟩
                  subst hwc
                  have a0 := kept_cell l0 hbr
                  have a1 := kept_cell l1 hbr
                  have a2 := kept_cell h0 hbr
                  have a3 := kept_cell h1 hbr
                  by_cases hlt : k < nx
                  · have hxI : lo.X + (k : Int) ≤ hi.X := by have := hnx.out; omega
                    go_wp2_with fail
                    go_loopw [33, 34, 36] (fun c s y wr => ∃ (j : Nat) (z u : Int), j ≤ ny ∧ y = .int .i64 (lo.Y + j) ∧ c = .int .i64 z ∧ s = .int .i64 u ∧ Hid (z = cntTo (inF xs) lo ny k j) ∧ Hid (u = cntTo (onF xs) lo ny k j) ∧ (0 ≤ z ∧ z ≤ 46 * k + j) ∧ (0 ≤ u ∧ u ≤ 46 * k + j) ∧ Below wc'.heap.size wc' wr) (fun _ _ y _ => ny - (intOf y - lo.Y).toNat)
                    case atStart => exact ⟨0, z, u, Nat.zero_le _, by first | rfl | simp, rfl, rfl, hz, hu, by omega, by omega, Below.refl _ _⟩
                    case round =>
                      obtain ⟨j, z', u', hjn, rfl, rfl, rfl, hz', hu', bz', bu', hb2⟩ := hrel
                      obtain ⟨wd, hwd⟩ : ∃ wo : World, wo = wr := ⟨_, rfl⟩
                      subst hwd
                      replace a1 := kept_cell a1 hb2
                      replace a3 := kept_cell a3 hb2
                      have hbE := upw hbr hb2
                      by_cases hlj : j < ny
                      · have hyI : lo.Y + (j : Int) ≤ hi.Y := by have := hny.out; omega
                        have hq := bS.out ⟨lo.X + k, lo.Y + j⟩ ⟨by simp only; omega, by simp only; omega⟩ ⟨by simp only; omega, by simp only; omega⟩
                        have hr9 : Rep.ok (⟨lo.X + k, lo.Y + j⟩ : Spot) := ⟨by simp only; omega, by simp only; omega⟩
                        have kq := Lib.hid (implPlaceOfSpot_c xa xs xc ⟨lo.X + k, lo.Y + j⟩ wd (Ax.out.below hbE) (by omega) hr9)
                        have s1 := Lib.hid (cntTo_succ (inF xs) lo ny k j)
                        have s2 := Lib.hid (cntTo_succ (onF xs) lo ny k j)
                        rcases place_count hok1 hq with ⟨e, ei, eo⟩ | ⟨e, ei, eo⟩ | ⟨e, ei, eo⟩
                        all_goals
                          rw [e] at kq
                          rw [ei] at s1
                          rw [eo] at s2
                          clear e ei eo hq hr9
                          go_wp2_with fail
                          refine kq.out.mono ?_
                          rintro e w4 ⟨rfl, hb4⟩
                          replace hb2 := upw hb2 hb4
                          clear hb4 kq a0 a1 a2 a3
                          go_wp2_with fail
                          go_roundw
                        case rel => exact ⟨j + 1, z', u' + 1, by omega, by first | rfl | go_num, rfl, rfl, Lib.hid (by rw [s1.out, ← hz'.out]; omega), Lib.hid (by rw [s2.out, ← hu'.out]), by omega, by omega, hb2⟩
                        case measure => first | (simp [intOf]; done) | (simp [intOf]; omega)
                        case rel => exact ⟨j + 1, z' + 1, u', by omega, by first | rfl | go_num, rfl, rfl, Lib.hid (by rw [s1.out, ← hz'.out]), Lib.hid (by rw [s2.out, ← hu'.out]; omega), by omega, by omega, hb2⟩
                        case measure => first | (simp [intOf]; done) | (simp [intOf]; omega)
                        case rel => exact ⟨j + 1, z', u', by omega, by first | rfl | go_num, rfl, rfl, Lib.hid (by rw [s1.out, ← hz'.out]; omega), Lib.hid (by rw [s2.out, ← hu'.out]; omega), by omega, by omega, hb2⟩
                        case measure => first | (simp [intOf]; done) | (simp [intOf]; omega)
                      · obtain rfl : j = ny := by omega
                        have hyI : ¬ lo.Y + (j : Int) ≤ hi.Y := by have := hny.out; omega
                        go_wp2_with fail
                        go_roundw
                        case rel => exact ⟨k + 1, z', u', by omega, by first | rfl | go_num, rfl, rfl, Lib.hid (by rw [cntTo_row]; exact hz'.out), Lib.hid (by rw [cntTo_row]; exact hu'.out), by omega, by omega, upw hbr hb2⟩
                        case measure => first | (simp [intOf]; done) | (simp [intOf]; omega)
                  · obtain rfl : k = nx := by omega
                    have hxI : ¬ lo.X + (k : Int) ≤ hi.X := by have := hnx.out; omega
                    obtain rfl : z = I1 := hz.out.trans fC1.out
                    obtain rfl : u = I2 := hu.out.trans fC2.out
                    go_wp2_with fail
                    go_ret
                    exact ⟨by simp, upw D.out.up hbr⟩

          · subst hc9
            subst hP9
            go_wp2_with fail
            refine (k9.out _ (D.out.get 4 rfl : Own _ _ _ _ xs).at').mono ?_
            rintro e w2 ⟨rfl, hb⟩
            replace D := Lib.hid (D.out.later hb)
            clear hb k9
            rw [box_lo hok1]
            have bR := box_range hok1
            have fC : Hid (∀ nx ny : Nat, (hiTo xs xs.length).X - (loTo xs xs.length).X + 1 = nx → (hiTo xs xs.length).Y - (loTo xs xs.length).Y + 1 = ny → cntTo (inF xs) (loTo xs xs.length) ny nx 0 = I1 ∧ cntTo (onF xs) (loTo xs xs.length) ny nx 0 = I2) := Lib.hid (fun nx ny h1 h2 => fI.out hok1 h1 h2)
            have bS := Lib.hid (fun q => @box_spot xs hok1 q)
            generalize loTo xs xs.length = lo at *
            generalize hiTo xs xs.length = hi at *
            have c0 : IntKind.i64.wrap (hi.X - lo.X) = hi.X - lo.X := IntWalk.i64_in _ (by omega)
            have c1 : IntKind.i64.wrap (hi.Y - lo.Y) = hi.Y - lo.Y := IntWalk.i64_in _ (by omega)
            obtain ⟨wm, hwm, D'⟩ : ∃ wm, (w2.alloc (.cells #[.int .i64 lo.X, .int .i64 lo.Y] 83)).alloc (.cells #[.int .i64 hi.X, .int .i64 hi.Y] 83) = wm ∧ Hid (Sp w wm (ite' 83 (.slice (some ⟨w2.heap.size + 1, 0, none⟩) 1 1) [hi] :: ite' 83 (.slice (some ⟨w2.heap.size, 0, none⟩) 1 1) [lo] :: _)) := by
              refine ⟨_, rfl, Lib.hid ?_⟩
              have d1 := D.out.add (newB w2 (.cells #[.int .i64 lo.X, .int .i64 lo.Y] 83)) (own_alloc w2 83 #[.int .i64 lo.X, .int .i64 lo.Y] [lo] rfl (by simp))
              have d2 := d1.add (newB _ (.cells #[.int .i64 hi.X, .int .i64 hi.Y] 83)) (own_alloc _ 83 #[.int .i64 hi.X, .int .i64 hi.Y] [hi] rfl (by simp))
              simp only [List.length_singleton] at d2
              have hsz : (w2.alloc (.cells #[.int .i64 lo.X, .int .i64 lo.Y] 83)).heap.size = w2.heap.size + 1 := by simp
              rw [hsz] at d2
              exact d2
            clear D
            have D := D'
            clear D'
            obtain ⟨nh, hnh⟩ : ∃ b, b = w2.heap.size + 1 := ⟨_, rfl⟩
            obtain ⟨nl, hnl⟩ : ∃ b, b = w2.heap.size := ⟨_, rfl⟩
            rw [← hnh, ← hnl] at D
            obtain ⟨l0, l1⟩ := spot_cell2 (D.out.get 1 rfl : Own _ _ _ _ [lo])
            obtain ⟨h0, h1⟩ := spot_cell2 (D.out.get 0 rfl : Own _ _ _ _ [hi])
            rw [hnl] at l0 l1
            rw [hnh] at h0 h1
            replace hnh := Lib.hid hnh
            replace hnl := Lib.hid hnl
            by_cases g1 : 40 < hi.X - lo.X
            · go_wp2_with fail
              go_ret
              exact ⟨rfl, D.out.up⟩
            · by_cases g2 : 45 < hi.Y - lo.Y
              · go_wp2_with fail
                go_ret
                exact ⟨rfl, D.out.up⟩
              · obtain ⟨nx, hnx⟩ : ∃ nx : Nat, hi.X - lo.X + 1 = nx := ⟨(hi.X - lo.X + 1).toNat, by omega⟩
                obtain ⟨ny, hny⟩ : ∃ ny : Nat, hi.Y - lo.Y + 1 = ny := ⟨(hi.Y - lo.Y + 1).toNat, by omega⟩
                obtain ⟨fC1, fC2⟩ := fC.out nx ny hnx hny
                replace fC1 := Lib.hid fC1
                replace fC2 := Lib.hid fC2
                replace hnx := Lib.hid hnx
                replace hny := Lib.hid hny
                clear fC
                go_wp2_with fail
                have hwD := D.out.up
                have Ax := Lib.hid (D.out.get 6 rfl : Own _ _ _ _ xs).at'
                have l0' := l0
                obtain ⟨wb, hwb⟩ : ∃ wo : World, wo = wm := ⟨_, rfl⟩
                subst hwb
                have hnx9 : nx ≤ 41 := by have := hnx.out; omega
                have hny9 : ny ≤ 46 := by have := hny.out; omega
                go_loopw [33, 34, 35] (fun c s x wr => ∃ (k : Nat) (z u : Int), k ≤ nx ∧ x = .int .i64 (lo.X + k) ∧ c = .int .i64 z ∧ s = .int .i64 u ∧ Hid (z = cntTo (inF xs) lo ny k 0) ∧ Hid (u = cntTo (onF xs) lo ny k 0) ∧ (0 ≤ z ∧ z ≤ 46 * k) ∧ (0 ≤ u ∧ u ≤ 46 * k) ∧ Below wb.heap.size wb wr) (fun _ _ x _ => nx - (intOf x - lo.X).toNat)
                case atStart => exact ⟨0, 0, 0, Nat.zero_le _, by first | rfl | simp, rfl, rfl, Lib.hid (cntTo_zero _ _ _).symm, Lib.hid (cntTo_zero _ _ _).symm, by omega, by omega, Below.refl _ _⟩
                case round =>
                  obtain ⟨k, z, u, hk, rfl, rfl, rfl, hz, hu, bz, bu, hbr⟩ := hrel
                  obtain ⟨wc', hwc⟩ : ∃ wo : World, wo = wr := ⟨_, rfl⟩
                  subst hwc
                  have a0 := kept_cell l0 hbr
                  have a1 := kept_cell l1 hbr
                  have a2 := kept_cell h0 hbr
                  have a3 := kept_cell h1 hbr
                  by_cases hlt : k < nx
                  · have hxI : lo.X + (k : Int) ≤ hi.X := by have := hnx.out; omega
                    go_wp2_with fail
                    go_loopw [33, 34, 36] (fun c s y wr => ∃ (j : Nat) (z u : Int), j ≤ ny ∧ y = .int .i64 (lo.Y + j) ∧ c = .int .i64 z ∧ s = .int .i64 u ∧ Hid (z = cntTo (inF xs) lo ny k j) ∧ Hid (u = cntTo (onF xs) lo ny k j) ∧ (0 ≤ z ∧ z ≤ 46 * k + j) ∧ (0 ≤ u ∧ u ≤ 46 * k + j) ∧ Below wc'.heap.size wc' wr) (fun _ _ y _ => ny - (intOf y - lo.Y).toNat)
                    case atStart => exact ⟨0, z, u, Nat.zero_le _, by first | rfl | simp, rfl, rfl, hz, hu, by omega, by omega, Below.refl _ _⟩
                    case round =>
                      obtain ⟨j, z', u', hjn, rfl, rfl, rfl, hz', hu', bz', bu', hb2⟩ := hrel
                      obtain ⟨wd, hwd⟩ : ∃ wo : World, wo = wr := ⟨_, rfl⟩
                      subst hwd
                      replace a1 := kept_cell a1 hb2
                      replace a3 := kept_cell a3 hb2
                      have hbE := upw hbr hb2
                      by_cases hlj : j < ny
                      · have hyI : lo.Y + (j : Int) ≤ hi.Y := by have := hny.out; omega
                        have hq := bS.out ⟨lo.X + k, lo.Y + j⟩ ⟨by simp only; omega, by simp only; omega⟩ ⟨by simp only; omega, by simp only; omega⟩
                        have hr9 : Rep.ok (⟨lo.X + k, lo.Y + j⟩ : Spot) := ⟨by simp only; omega, by simp only; omega⟩
                        have kq := Lib.hid (implPlaceOfSpot_c xa xs xc ⟨lo.X + k, lo.Y + j⟩ wd (Ax.out.below hbE) (by omega) hr9)
                        have s1 := Lib.hid (cntTo_succ (inF xs) lo ny k j)
                        have s2 := Lib.hid (cntTo_succ (onF xs) lo ny k j)
                        rcases place_count hok1 hq with ⟨e, ei, eo⟩ | ⟨e, ei, eo⟩ | ⟨e, ei, eo⟩
                        all_goals
                          rw [e] at kq
                          rw [ei] at s1
                          rw [eo] at s2
                          clear e ei eo hq hr9
                          go_wp2_with fail
                          refine kq.out.mono ?_
                          rintro e w4 ⟨rfl, hb4⟩
                          replace hb2 := upw hb2 hb4
                          clear hb4 kq a0 a1 a2 a3
                          go_wp2_with fail
                          go_roundw
                        case rel => exact ⟨j + 1, z', u' + 1, by omega, by first | rfl | go_num, rfl, rfl, Lib.hid (by rw [s1.out, ← hz'.out]; omega), Lib.hid (by rw [s2.out, ← hu'.out]), by omega, by omega, hb2⟩
                        case measure => first | (simp [intOf]; done) | (simp [intOf]; omega)
                        case rel => exact ⟨j + 1, z' + 1, u', by omega, by first | rfl | go_num, rfl, rfl, Lib.hid (by rw [s1.out, ← hz'.out]), Lib.hid (by rw [s2.out, ← hu'.out]; omega), by omega, by omega, hb2⟩
                        case measure => first | (simp [intOf]; done) | (simp [intOf]; omega)
                        case rel => exact ⟨j + 1, z', u', by omega, by first | rfl | go_num, rfl, rfl, Lib.hid (by rw [s1.out, ← hz'.out]; omega), Lib.hid (by rw [s2.out, ← hu'.out]; omega), by omega, by omega, hb2⟩
                        case measure => first | (simp [intOf]; done) | (simp [intOf]; omega)
                      · obtain rfl : j = ny := by omega
                        have hyI : ¬ lo.Y + (j : Int) ≤ hi.Y := by have := hny.out; omega
                        go_wp2_with fail
                        go_roundw
                        case rel => exact ⟨k + 1, z', u', by omega, by first | rfl | go_num, rfl, rfl, Lib.hid (by rw [cntTo_row]; exact hz'.out), Lib.hid (by rw [cntTo_row]; exact hu'.out), by omega, by omega, upw hbr hb2⟩
                        case measure => first | (simp [intOf]; done) | (simp [intOf]; omega)
                  · obtain rfl : k = nx := by omega
                    have hxI : ¬ lo.X + (k : Int) ≤ hi.X := by have := hnx.out; omega
                    obtain rfl : z = I1 := hz.out.trans fC1.out
                    obtain rfl : u = I2 := hu.out.trans fC2.out
                    go_wp2_with fail
                    go_ret
                    exact ⟨by simp, upw D.out.up hbr⟩

end Go.Proofs.Ytlaclknhenccdaa
