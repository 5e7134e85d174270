/- FnOpenings: for all bytes the law returns true, and the bytes read behind the call as before. -/
import Derived.Test.YtlmhiocmldhkhaaGreatDoorA2P
import Derived.Test.YtlmhiocmldhkhaaGreatDoorA2
import Derived.Test.YtlmhiocmldhkhaaGreatDoorOpenSum
import Derived.Test.YtlmhiocmldhkhaaGreatDoorRdPieceC
namespace Go.Proofs.YtlmhiocmldhkhaaGreatDoor
open Go.ChangeShapes Go.WideShapes Go.ChangeAt Go.RowKit

theorem okPiece_of {p : Pattern} (h : Okp p) {x : Piece} (hx : x ∈ p.pieces) : okPiece x = true := by
  have h1 := h.name x hx
  have h2 := h.len x hx
  have h3 := h.edge x hx
  unfold okPiece
  rw [h1, inr_true.2 (by omega), outs_false.2 h3]; rfl
theorem txt_size (nm : ByteArray) (xs : List Int) (h0 : 0 < xs.length) (h : xs.length ≤ 1000) (hr : ∀ x ∈ xs, -9223372036854775808 ≤ x ∧ x ≤ 9223372036854775807) : (txt nm xs).size ≤ nm.size + 22001 := by
  rw [← txt_join nm xs h0]
  have := numsT_size xs h hr
  have h1 : (⟨#[32]⟩ : ByteArray).size = 1 := rfl
  rw [ByteArray.size_append, ByteArray.size_append]
  omega
theorem pieceText_size {x : Piece} (h : okPiece x = true) : (pieceText x).size ≤ 1048576 := by
  obtain ⟨h1, h2, h3, h4⟩ := okPiece_facts h
  rw [pieceText_true h]
  have := txt_size x.name x.edges (by omega) (by omega) fun n hn => by have := h3 n hn; omega
  omega
/-- What is read back. -/
theorem readText_c (x : Piece) (hx : okPiece x = true) (w : World) (hT : TabR w) :
    Calls Tryz.prog 8 #[.string (pieceText x)] w fun e w' => ∃ pa pc, e = .returned (.tuple #[.agg #[.string x.name, .slice pa x.edges.length pc], .bool true]) ∧ At w' pa x.edges ∧ Below w.heap.size w w' := by
  have h := readPiece_some hx (pieceText_true hx).symm
  have hc := implReadPiece_c (pieceText x) w hT (pieceText_size hx)
  rw [h] at hc
  refine hc.mono ?_
  rintro e w' ⟨pa, pc, rfl, hO, hb⟩
  exact ⟨pa, pc, rfl, hO.at', hb⟩
/-- What the law looks at of a pattern: its open edges. -/
theorem open_get {p : Pattern} {k : Nat} (h : k < (openOf p).length) : ∃ i j : Nat, (openOf p)[k] = ⟨(i : Int), (j : Int)⟩ ∧ ∃ (hi : i < p.pieces.length) (hj : j < (p.pieces[i]).edges.length), edgeLen p (openOf p)[k] = (p.pieces[i]).edges[j] := by
  obtain ⟨i, j, e, hi, hj⟩ := hasEdge_get (mem_open.1 (List.getElem_mem h)).1
  refine ⟨i, j, e, hi, hj, ?_⟩
  rw [e]; exact edgeLen_get hi hj
/-- Another number below n. -/
theorem other_mod {n : Nat} {u v : Int} (h2 : 2 ≤ n) (hu : 0 ≤ u ∧ (u = 0 ∨ u < n)) (hv : 0 ≤ v ∧ (v = 0 ∨ v < (n : Int) - 1)) : ∃ i k : Nat, u = i ∧ (u + 1 + v) % (n : Int) = k ∧ i < n ∧ k < n ∧ i ≠ k := by
  by_cases h : u + 1 + v < n
  · exact ⟨u.toNat, (u + 1 + v).toNat, by omega, by rw [Int.emod_eq_of_lt (by omega) h]; omega, by omega, by omega, by omega⟩
  · have e : (u + 1 + v) % (n : Int) = u + 1 + v - n := by
      rw [← Int.sub_emod_right, Int.emod_eq_of_lt (by omega) (by omega)]
    exact ⟨u.toNat, (u + 1 + v - n).toNat, by omega, by rw [e]; omega, by omega, by omega, by omega⟩
theorem a2Same_c (a a' : Option Addr) (xs : List Int) (c c' : Nat) (w : World) (hx : At w a xs) (hy : At w a' xs) (hl : xs.length ≤ 1000000) :
    Calls Tryz.prog 10 #[.slice a xs.length c, .slice a' xs.length c'] w fun e w' => e = .returned (.bool true) ∧ Below w.heap.size w w' := by
  go_enter Tryz.func10, Tryz.ntmps10
  go_wp2_with fail
  go_loopw [5] (fun i wr => ∃ k : Nat, k ≤ xs.length ∧ i = .int .i64 k ∧ Below w.heap.size w wr) (fun i _ => xs.length - (intOf i).toNat)
  case atStart => exact ⟨0, Nat.zero_le _, rfl, Below.refl _ _⟩
  case round =>
    obtain ⟨k, hk, rfl, hb⟩ := hrel
    by_cases hlt : k < xs.length
    · have hx' := hx.below hb
      have hy' := hy.below hb
      obtain ⟨b, off, rfl⟩ := hx'.addr hlt
      obtain ⟨b', off', rfl⟩ := hy'.addr hlt
      have c0 := rg (hx'.int hlt)
      have c1 := rg (hy'.int hlt)
      generalize xs[k] = z at c0 c1
      have hz : (z != z) = false := by simp
      go_wp2_with fail
      refine wp_region_quiet_below (by kernel_rfl) (by kernel_rfl) ?_
      repeat (go_big_quiet_step ((fail)))
      refine wpQuiet_nil ?_
      intro w2 hw'
      replace hb := upw hb (grown_of hw')
      clear hw'
      go_wp2_with fail
      go_roundw
      case rel => exact ⟨k + 1, by omega, by go_num, hb⟩
      case measure => simp [intOf]; omega
    · go_wp2_with fail
      go_ret
      exact ⟨rfl, hb⟩
set_option maxRecDepth 100000 in
set_option maxHeartbeats 8000000 in
theorem lawOpenings (a : Option Addr) (L : List UInt8) (c : Nat) (a' : Option Addr) (M : List UInt8) (c' : Nat) (w : World) (hx : At w a L) (hlx : L.length ≤ 9223372036854775807) (hy : At w a' M) (hly : M.length ≤ 9223372036854775807) (hT : TabR w) :
    Calls Tryz.prog 3 #[.slice a L.length c, .slice a' M.length c'] w fun e w' => e = .returned (.bool true) ∧ Below w.heap.size w w' := by
  have hlong := a2Long_c a a' L M c c' w
  by_cases hg : 3000 < L.length ∨ 3000 < M.length
  · have e : (decide (3000 < L.length) || decide (3000 < M.length)) = true := by simpa using hg
    rw [e] at hlong
    go_enter Tryz.func3, Tryz.ntmps3
    go_wp2_with (go_at_call 4; refine hlong.mono ?_; rintro e w1 ⟨rfl, rfl⟩)
    go_ret
    exact ⟨rfl, Below.refl _ _⟩
  · have e : (decide (3000 < L.length) || decide (3000 < M.length)) = false := by simp; omega
    rw [e] at hlong
    have hM3 : M.length ≤ 3000 := by omega
    clear e hg
    go_enter Tryz.func3, Tryz.ntmps3
    go_wp2_with fail
    refine hlong.mono ?_
    rintro e w1 ⟨rfl, rfl⟩
    go_wp2_with fail
    refine (A2Pattern_c a L c w hx hlx).mono ?_
    rintro e w1 ⟨p, pa, pc, sa, sc, rfl, ⟨rs, hP⟩, hok, hb1⟩
    obtain ⟨w2, hw2⟩ : ∃ w2, w2 = w1.alloc (.cells #[.slice pa p.pieces.length pc, .slice sa p.seams.length sc, .int .i64 p.openings] 27) := ⟨_, rfl⟩
    have hb2 : Below w1.heap.size w1 w2 := by rw [hw2]; exact new_below _ _
    have D : PatW w.heap.size w2 w1.heap.size pa pc sa sc rs p := by rw [hw2]; exact patW_of hP hb1.size
    have hb := upw hb1 hb2
    replace hw2 := Lib.hid hw2
    replace D := Lib.hid D
    clear hP hb1 hb2 hlong hx
    have hsm := okp_small hok
    have htot : totPattern p ≤ 1048576 := by omega
    have hokb := okp_iff.2 hok
    have C1 := fun w' h => implOpenEdges_c p pa pc sa sc w' h htot
    have C2 := fun w' h => implOpeningsOf_c p pa pc sa sc w' h htot
    simp only [oeOf, oeCode, opOf, opCode, hokb, if_true] at C1 C2
    have hol := openings_length hok
    have hfew := openings_few p
    have hsome := openings_some hok
    have hsum := openings_sum hok
    have hcnt := open_left hok
    have holen := open_length hok
    have hel := edges_length hok
    generalize hO : openings p = O at *
    have hOr : ∀ x ∈ O, -1000000 ≤ x ∧ x ≤ 1000000 := by rw [← hO]; exact openings_range hok
    clear hO
    have hbig := Lib.hid (fun k (hk : k ≤ (openOf p).length) => sums_range hok k hk)
    obtain ⟨E, hE⟩ : ∃ E, E = (openOf p).map eL := ⟨_, rfl⟩
    have hEl : E.length = (openOf p).length := by rw [hE]; simp
    rw [← hE] at C1
    obtain ⟨n, hn⟩ : ∃ n, n = (openOf p).length := ⟨_, rfl⟩
    rw [← hn] at hfew hsome hcnt holen hEl
    have hcr : cntE p p.pieces.length ≤ 80 := hel
    generalize hC : cntE p p.pieces.length = cn at *
    replace hC := Lib.hid hC
    replace hE := Lib.hid hE
    replace hn := Lib.hid hn
    replace hEl := Lib.hid hEl
    replace hsum := Lib.hid hsum
    replace C1 := Lib.hid C1
    replace C2 := Lib.hid C2
    clear hokb hel
    obtain ⟨y0, y1, y2⟩ := D.out.cells
    replace hy := Lib.hid (hy.below hb)
    replace hT := Lib.hid (hT.below hb)
    go_wp2_with (rw [← hw2.out])
    refine (C1.out _ D.out.pat.lie).mono ?_
    rintro e w4 ⟨v3, rs3, rfl, hO3, hb4⟩
    obtain ⟨a3, c3, rfl, hA3⟩ := hO3.at
    replace hA3 := Lib.hid hA3
    replace y0 := kept_cell y0 hb4
    replace y1 := kept_cell y1 hb4
    replace y2 := kept_cell y2 hb4
    replace D := Lib.hid (D.out.later hb4)
    replace hy := Lib.hid (hy.out.below hb4)
    replace hT := Lib.hid (hT.out.below hb4)
    replace hb := upw hb hb4
    clear hb4 hO3
    rw [hEl.out]
    go_wp2_with fail
    refine (C2.out _ D.out.pat.lie).mono ?_
    rintro e w5 ⟨v4, rfl, hO4, hb5⟩
    obtain ⟨a4, c4, rfl, hA4⟩ := hO4.at
    replace hA4 := Lib.hid hA4
    replace hA3 := Lib.hid (hA3.out.below hb5)
    replace y0 := kept_cell y0 hb5
    replace y1 := kept_cell y1 hb5
    replace y2 := kept_cell y2 hb5
    replace D := Lib.hid (D.out.later hb5)
    replace hy := Lib.hid (hy.out.below hb5)
    replace hT := Lib.hid (hT.out.below hb5)
    replace hb := upw hb hb5
    clear hb5 hO4 C1 C2
    have hS := Lib.hid (show sumI (((openOf p).take n).map (edgeLen p)) = sumI O by rw [hn.out, List.take_length]; exact hsum.out.symm)
    obtain ⟨w6, hw6⟩ : ∃ w6 : World, w6 = w5 := ⟨_, rfl⟩
    subst hw6
    go_wp2_with fail
    go_loopw [10, 11] (fun s i wr => ∃ (k : Nat) (sk : Int), k ≤ n ∧ i = .int .i64 k ∧ s = .int .i64 sk ∧ Hid (sk = sumI (((openOf p).take k).map (edgeLen p))) ∧ Below w6.heap.size w6 wr) (fun _ i _ => n - (intOf i).toNat)
    case atStart => exact ⟨0, 0, Nat.zero_le _, rfl, rfl, Lib.hid rfl, Below.refl _ _⟩
    case round =>
      obtain ⟨k, sk, hk, rfl, rfl, hsk, hbl⟩ := hrel
      by_cases hlt : k < n
      · have hlt' : k < (openOf p).length := by rw [← hn.out]; exact hlt
        obtain ⟨i, j, he, hi, hj, hlen⟩ := open_get hlt'
        have hnext := Lib.hid ((sums_succ p hlt').trans (by rw [← hsk.out]))
        have r0 := hbig.out k (by rw [← hn.out]; omega)
        rw [← hsk.out] at r0
        have r1 := hbig.out (k + 1) (by rw [← hn.out]; omega)
        rw [hnext.out, hlen] at r1
        have hE0 : k < E.length := by rw [hEl.out]; exact hlt
        have hE1 : E[k] = [(i : Int), (j : Int)] := by simp only [hE.out, List.getElem_map, he, eL]
        have hA := hA3.out.below hbl
        obtain ⟨b3, o3, rfl⟩ := hA.addr hE0
        obtain ⟨ar, cr, c0, hAr⟩ := hA.ints hE0
        rw [hE1] at c0 hAr
        obtain ⟨b6, o6, rfl⟩ := hAr.addr (i := 0) (by simp)
        have d0 := hAr.int (i := 0) (by simp)
        have d1 := hAr.int (i := 1) (by simp)
        simp only [List.length_cons, List.length_nil, List.getElem_cons_zero, List.getElem_cons_succ, Nat.add_zero, Nat.zero_add, Nat.reduceAdd] at c0 d0 d1
        obtain ⟨b7, o7, ea, ec, hpa, _, hV⟩ := (D.out.pat.lie.below hbl).pieV hi
        have x0 := kept_cell y0 hbl
        rw [hpa] at x0
        have v1 := hV.c1
        obtain ⟨b8, o8, rfl⟩ := hV.edges.addr hj
        have v2 := hV.edges.int hj
        have hm8 := (hok.len _ (List.getElem_mem hi)).2
        have hnext2 := Lib.hid (hnext.out.trans (by rw [hlen]))
        clear hnext hV hA hAr he hlen hE1
        replace hE0 := Lib.hid hE0
        generalize (p.pieces[i]).edges[j] = z at *
        generalize (p.pieces[i]).edges.length = m8 at *
        have t1 : decide ((i : Int) < 0) = false := by simp
        have t2 : decide (p.pieces.length ≤ i) = false := by simp; omega
        have t3 : decide ((j : Int) < 0) = false := by simp
        have t4 : decide (m8 ≤ j) = false := by simp; omega
        obtain ⟨hb0, hb0h⟩ : ∃ q, q = hb := ⟨_, rfl⟩
        clear hb0h
        clear hb
        have hb := upw hb0 hbl
        have c0g := rg c0
        have d0g := rg d0
        have d1g := rg d1
        have x0g := rg x0
        have v1g := rg v1
        go_wp2_with fail
        refine wp_region_quiet_below (by kernel_rfl) (by kernel_rfl) ?_
        repeat (go_big_quiet_step ((fail)))
        refine wpQuiet_nil ?_
        intro w2 hw'
        replace hb := upw hb (grown_of hw')
        have hw2 := grown_of hw'
        clear hw'
        replace hbl := upw hbl hw2
        clear c0g d0g d1g x0g v1g
        replace c0 := kept_cell c0 hw2
        replace d0 := kept_cell d0 hw2
        replace d1 := kept_cell d1 hw2
        replace x0 := kept_cell x0 hw2
        replace v1 := kept_cell v1 hw2
        replace v2 := kept_cell v2 hw2
        clear hw2
        replace c0 := rg c0
        replace d0 := rg d0
        replace d1 := rg d1
        replace x0 := rg x0
        replace v1 := rg v1
        replace v2 := rg v2
        go_wp2_with fail
        refine wp_region_quiet_below (by kernel_rfl) (by kernel_rfl) ?_
        repeat (go_big_quiet_step ((fail)))
        refine wpQuiet_nil ?_
        intro w2 hw'
        replace hb := upw hb (grown_of hw')
        have hw2 := grown_of hw'
        clear hw'
        replace hbl := upw hbl hw2
        clear hw2
        go_wp2_with fail
        go_roundw
        case rel => exact ⟨k + 1, sk + z, by omega, by go_num, rfl, Lib.hid hnext2.out.symm, hbl⟩
        case measure => simp [intOf]; omega
      · have hkn : k = n := by omega
        obtain rfl : sk = sumI O := hsk.out.trans (by rw [hkn]; exact hS.out)
        replace D := Lib.hid (D.out.later hbl)
        replace hA3 := Lib.hid (hA3.out.below hbl)
        replace hA4 := Lib.hid (hA4.out.below hbl)
        replace hT := Lib.hid (hT.out.below hbl)
        replace hy := Lib.hid (hy.out.below hbl)
        replace y0 := kept_cell y0 hbl
        replace y1 := kept_cell y1 hbl
        replace y2 := kept_cell y2 hbl
        replace hb := upw hb hbl
        clear hbl hsk hS hkn hk hbig
        obtain ⟨w7, hw7⟩ : ∃ w7 : World, w7 = wr := ⟨_, rfl⟩
        subst hw7
        have hcap := Lib.hid (fun k (hk : k ≤ p.pieces.length) => (show cntE p k ≤ 80 from by have := edgesTo_length hok k hk; unfold cntE; have := hok.n10; omega))
        go_wp2_with fail
        go_loopw [12, 13, 14, 15] (fun e i _ _ wr => ∃ k q : Nat, k ≤ p.pieces.length ∧ i = .int .i64 k ∧ e = .int .i64 q ∧ Hid (q = cntE p k) ∧ Below w7.heap.size w7 wr) (fun _ i _ _ _ => p.pieces.length - (intOf i).toNat)
        case atStart => exact ⟨0, 0, Nat.zero_le _, rfl, rfl, Lib.hid rfl, Below.refl _ _⟩
        case round =>
          obtain ⟨k, q, hk, rfl, rfl, hq, hbl⟩ := hrel
          have x0 := kept_cell y0 hbl
          by_cases hlt2 : k < p.pieces.length
          · obtain ⟨b7, o7, ea, ec, hpa, _, hV⟩ := (D.out.pat.lie.below hbl).pieV hlt2
            rw [hpa] at x0
            clear hpa
            have hpk := okPiece_of hok (List.getElem_mem hlt2)
            have q1 := hcap.out (k + 1) (by omega)
            rw [cntE_succ, nE_get hlt2, ← hq.out] at q1
            have hq2 := Lib.hid ((cntE_succ p k).trans (by rw [nE_get hlt2, ← hq.out]))
            have hTk := Lib.hid (hT.out.below hbl)
            generalize p.pieces[k] = x at *
            have v0 := hV.c0
            have v1 := hV.c1
            have hAx := Lib.hid hV.edges
            obtain ⟨_, hx8, _, hxn⟩ := okPiece_facts hpk
            have htx : totPiece x ≤ 1048576 := by unfold totPiece; omega
            clear hV hq
            go_wp2_with fail
            refine (implPieceText_c x ea ec _ hAx.out htx hTk.out.tab).mono ?_
            rintro e wa ⟨rfl, hba⟩
            go_wp2_with fail
            refine (readText_c x hpk wa (hTk.out.below hba)).mono ?_
            rintro e wb ⟨qa, qc, rfl, hAq, hbb⟩
            obtain ⟨wm, hwm⟩ : ∃ wm, wm = wb.alloc (.cells #[.string x.name, .slice qa x.edges.length qc] 36) := ⟨_, rfl⟩
            have hbm : Below wb.heap.size wb wm := by rw [hwm]; exact new_below _ _
            have m0 : wm.cell? ⟨wb.heap.size, 0, none⟩ = some (.string x.name) := by rw [hwm]; go_simp
            have m1 : wm.cell? ⟨wb.heap.size, 1, none⟩ = some (.slice qa x.edges.length qc) := by rw [hwm]; go_simp
            have hbw := upw hba (upw hbb hbm)
            replace hwm := Lib.hid hwm
            have hlq := Lib.hid (hAq.below hbm)
            have hlx2 := Lib.hid (hAx.out.below hbw)
            have HS := Lib.hid (fun w' (hb' : Below wm.heap.size wm w') => a2Same_c qa ea x.edges qc ec w' (hlq.out.below hb') (hlx2.out.below hb') (by omega))
            replace v0 := kept_cell v0 hbw
            replace v1 := kept_cell v1 hbw
            replace x0 := kept_cell x0 hbw
            replace hbl := upw hbl hbw
            obtain ⟨hb0, hb0h⟩ : ∃ z, z = hb := ⟨_, rfl⟩
            clear hb0h hb
            have hb := upw hb0 hbl
            go_wp2_with (rw [← hwm.out])
            replace v0 := rg v0
            replace v1 := rg v1
            replace x0 := rg x0
            replace m0 := rg m0
            replace m1 := rg m1
            refine wp_region_quiet_below (by kernel_rfl) (by kernel_rfl) ?_
            repeat (go_big_quiet_step ((go_at_call 10; exact Calls.regrown_of (HS.out _ (grown_of ⟨⟨_, _⟩, rfl⟩)))))
            refine wpQuiet_nil ?_
            intro w2 hw'
            replace hb := upw hb (grown_of hw')
            have hw2 := grown_of hw'
            clear hw'
            replace hbl := upw hbl hw2
            clear hw2
            go_wp2_with fail
            go_roundw
            case rel => exact ⟨k + 1, q + x.edges.length, by omega, by go_num, by go_num, Lib.hid hq2.out.symm, hbl⟩
            case measure => simp [intOf]; omega
          · have hkn : k = p.pieces.length := by omega
            obtain rfl : cn = q := (hq.out.trans (by rw [hkn]; exact hC.out)).symm
            replace D := Lib.hid (D.out.later hbl)
            replace hA3 := Lib.hid (hA3.out.below hbl)
            replace hA4 := Lib.hid (hA4.out.below hbl)
            replace hT := Lib.hid (hT.out.below hbl)
            replace hy := Lib.hid (hy.out.below hbl)
            replace y0 := kept_cell y0 hbl
            replace y1 := kept_cell y1 hbl
            replace y2 := kept_cell y2 hbl
            replace hb := upw hb hbl
            clear hbl hq hC hkn hk hcap x0
            have c1' : IntKind.i64.wrap (2 * (p.seams.length : Int)) = 2 * (p.seams.length : Int) := IntWalk.i64_in _ (by omega)
            have c2' : (cn : Int) - 2 * (p.seams.length : Int) = (n : Int) := by omega
            go_wp2_with fail
            refine (a2Sum_c _ O _ _ hA4.out (by omega) hOr).mono ?_
            rintro e w8 ⟨rfl, rfl⟩
            by_cases hn2 : n < 2
            · by_cases hn0 : n = 0
              · obtain rfl : O = [] := List.eq_nil_of_length_eq_zero (by omega)
                subst hn0
                go_wp2_with fail
                go_ret
                exact ⟨rfl, hb⟩
              · have ho1 := hsome (by omega)
                have ho0 : ¬ O.length = 0 := by omega
                have hoe : ¬ O = [] := fun h => by rw [h] at ho1; exact absurd ho1 (Nat.lt_irrefl 0)
                have hob : (O.length == 0) = false := by simpa using hoe
                have hol' : decide (n < O.length) = false := by simp; omega
                have hnp : decide (0 < n) = true := by simp; omega
                go_wp2_with fail
                go_ret
                exact ⟨rfl, hb⟩
            · have ho1 := hsome (by omega)
              have ho0 : ¬ O.length = 0 := by omega
              have hoe : ¬ O = [] := fun h => by rw [h] at ho1; exact absurd ho1 (Nat.lt_irrefl 0)
              have hob : (O.length == 0) = false := by simpa using hoe
              have hol' : decide (n < O.length) = false := by simp; omega
              have hnp : decide (0 < n) = true := by simp; omega
              go_wp2_with fail
              refine (a2At_c a' M c' 0 n _ hy.out hM3 (by omega) (by omega) (by omega)).mono ?_
              rintro e w8 ⟨u, rfl, u0, u1, rfl⟩
              have hub : u ≤ 79 := by omega
              go_wp2_with fail
              refine (a2At_c a' M c' 1 ((n : Int) - 1) _ hy.out hM3 (by omega) (by omega) (by omega)).mono ?_
              rintro e w8 ⟨v, rfl, v0, v1, rfl⟩
              have hvb : v ≤ 79 := by omega
              obtain ⟨i1, k1, rfl, hmod, hi1, hk1, hne⟩ := other_mod (n := n) (by omega) ⟨u0, u1⟩ ⟨v0, v1⟩
              have hnn : ¬ (n : Int) = 0 := by omega
              have hw1 : 0 ≤ (i1 : Int) + 1 + v := by omega
              have hi1' : i1 < (openOf p).length := by rw [← hn.out]; exact hi1
              have hk1' : k1 < (openOf p).length := by rw [← hn.out]; exact hk1
              obtain ⟨hAdd, hok2, hopen2⟩ := add_open hok hi1' hk1' hne
              have hEi0 : i1 < E.length := by rw [hEl.out]; exact hi1
              have hEk0 : k1 < E.length := by rw [hEl.out]; exact hk1
              have hEi : E[i1] = [(openOf p)[i1].piece, (openOf p)[i1].number] := by simp only [hE.out, List.getElem_map, eL]
              have hEk : E[k1] = [(openOf p)[k1].piece, (openOf p)[k1].number] := by simp only [hE.out, List.getElem_map, eL]
              have hA := hA3.out
              obtain ⟨b3, o3, rfl⟩ := hA.addr hEi0
              obtain ⟨ar, cr, c0, hAr⟩ := hA.ints hEi0
              obtain ⟨ar2, cr2, e0, hAr2⟩ := hA.ints hEk0
              rw [hEi] at c0 hAr
              rw [hEk] at e0 hAr2
              generalize (openOf p)[i1] = s1 at *
              generalize (openOf p)[k1] = s2 at *
              obtain ⟨b6, o6, rfl⟩ := hAr.addr (i := 0) (by simp)
              obtain ⟨b8, o8, rfl⟩ := hAr2.addr (i := 0) (by simp)
              have d0 := hAr.int (i := 0) (by simp)
              have d1 := hAr.int (i := 1) (by simp)
              have f0 := hAr2.int (i := 0) (by simp)
              have f1 := hAr2.int (i := 1) (by simp)
              simp only [List.length_cons, List.length_nil, List.getElem_cons_zero, List.getElem_cons_succ, Nat.add_zero, Nat.zero_add, Nat.reduceAdd] at c0 d0 d1 e0 f0 f1
              have hsm2 := okp_small hok2
              have hokb2 := okp_iff.2 hok2
              generalize addP p (seamOf s1 s2) = p2 at *
              have htot2 : totPattern p2 ≤ 1048576 := by omega
              have AS := fun w' h => implAddSeam_c w.heap.size p pa pc sa sc rs (seamOf s1 s2) w' h htot
              simp only [hAdd] at AS
              simp only [seamOf] at AS
              have C3 := fun pa' pc' sa' sc' w' h => implOpenEdges_c p2 pa' pc' sa' sc' w' h htot2
              have C4 := fun pa' pc' sa' sc' w' h => specValidPattern_c p2 pa' pc' sa' sc' w' h htot2
              simp only [oeOf, oeCode, hokb2, if_true] at C3 C4
              have hEl2 : ((openOf p2).map eL).length + 2 = n := by rw [List.length_map, hn.out]; exact hopen2
              generalize (openOf p2).map eL = E2 at *
              have hm2 : (E2.length : Int) = (n : Int) - 2 := by omega
              replace hm2 := Lib.hid hm2
              replace AS := Lib.hid AS
              replace C3 := Lib.hid C3
              replace C4 := Lib.hid C4
              clear hEi hEk hAdd hok2 hopen2 hEl2 hA hAr hAr2 hEi0 hEk0 hi1' hk1' hokb2 hsm2
              go_wp2_with (rw [hmod])
              have hSS : ∀ w', Below wr.heap.size wr w' → ((w'.cell? ⟨w1.heap.size, 0, none⟩ = some (.slice pa p.pieces.length pc) ∧ w'.cell? ⟨w1.heap.size, 1, none⟩ = some (.slice sa p.seams.length sc) ∧ w'.cell? ⟨w1.heap.size, 2, none⟩ = some (.int .i64 p.openings)) ∧ (w'.cell? ⟨b3, o3 + i1, none⟩ = some (.slice (some ⟨b6, o6, none⟩) 2 cr) ∧ w'.cell? ⟨b6, o6, none⟩ = some (.int .i64 s1.piece) ∧ w'.cell? ⟨b6, o6 + 1, none⟩ = some (.int .i64 s1.number)) ∧ w'.cell? ⟨b3, o3 + k1, none⟩ = some (.slice (some ⟨b8, o8, none⟩) 2 cr2) ∧ w'.cell? ⟨b8, o8, none⟩ = some (.int .i64 s2.piece) ∧ w'.cell? ⟨b8, o8 + 1, none⟩ = some (.int .i64 s2.number)) := fun w' h => ⟨⟨kept_cell y0 h, kept_cell y1 h, kept_cell y2 h⟩, ⟨kept_cell c0 h, kept_cell d0 h, kept_cell d1 h⟩, kept_cell e0 h, kept_cell f0 h, kept_cell f1 h⟩
              replace hSS := Lib.hid hSS
              refine wp_region_held_drew (S := (fun w' => (w'.cell? ⟨w1.heap.size, 0, none⟩ = some (.slice pa p.pieces.length pc) ∧ w'.cell? ⟨w1.heap.size, 1, none⟩ = some (.slice sa p.seams.length sc) ∧ w'.cell? ⟨w1.heap.size, 2, none⟩ = some (.int .i64 p.openings)) ∧ (w'.cell? ⟨b3, o3 + i1, none⟩ = some (.slice (some ⟨b6, o6, none⟩) 2 cr) ∧ w'.cell? ⟨b6, o6, none⟩ = some (.int .i64 s1.piece) ∧ w'.cell? ⟨b6, o6 + 1, none⟩ = some (.int .i64 s1.number)) ∧ w'.cell? ⟨b3, o3 + k1, none⟩ = some (.slice (some ⟨b8, o8, none⟩) 2 cr2) ∧ w'.cell? ⟨b8, o8, none⟩ = some (.int .i64 s2.piece) ∧ w'.cell? ⟨b8, o8 + 1, none⟩ = some (.int .i64 s2.number))) (by kernel_rfl) (hSS.out _ (Below.refl _ _).drew) (fun hHeld => ?_)
              obtain ⟨wo, hwo⟩ : ∃ wo, wo = wr.drew := ⟨_, rfl⟩
              rw [← hwo] at hHeld ⊢
              have hbo : Below wr.heap.size wr wo := by rw [hwo]; exact (Below.refl _ _).drew
              have DO := Lib.hid (D.out.later hbo).pat
              clear hwo y0 y1 y2 c0 d0 d1 e0 f0 f1
              refine wpAnyH_take (i := 0) (v := _) rfl (by kernel_rfl) (by kernel_rfl) (by kernel_rfl) (fun _ _ _ h => h) (Or.inl ⟨by rfl, (by intro w hSw; (try dsimp only at hSw); go_simp; try with_reducible rfl)⟩) (by assumption) ?_
              go_simp
              refine wpAnyH_take (i := 1) (v := _) rfl (by kernel_rfl) (by kernel_rfl) (by kernel_rfl) (fun _ _ _ h => h) (Or.inl ⟨by rfl, (by intro w hSw; (try dsimp only at hSw); go_simp; try with_reducible rfl)⟩) (by assumption) ?_
              go_simp
              refine wpAnyH_take (i := 2) (v := _) rfl (by kernel_rfl) (by kernel_rfl) (by kernel_rfl) (fun _ _ _ h => h) (Or.inl ⟨by rfl, (by intro w hSw; (try dsimp only at hSw); go_simp; try with_reducible rfl)⟩) (by assumption) ?_
              go_simp
              refine wpAnyH_take (i := 3) (v := _) rfl (by kernel_rfl) (by kernel_rfl) (by kernel_rfl) (fun _ _ _ h => h) (Or.inl ⟨by rfl, (by intro w hSw; (try dsimp only at hSw); go_simp; try with_reducible rfl)⟩) (by assumption) ?_
              go_simp
              refine wpAnyH_take (i := 4) (v := _) rfl (by kernel_rfl) (by kernel_rfl) (by kernel_rfl) (fun _ _ _ h => h) (Or.inl ⟨by rfl, (by intro w hSw; (try dsimp only at hSw); go_simp; try with_reducible rfl)⟩) (by assumption) ?_
              go_simp
              refine wpAnyH_take (i := 5) (v := _) rfl (by kernel_rfl) (by kernel_rfl) (by kernel_rfl) (fun _ _ _ h => h) (Or.inl ⟨by rfl, (by intro w hSw; (try dsimp only at hSw); go_simp; try with_reducible rfl)⟩) (by assumption) ?_
              go_simp
              refine wpAnyH_take (i := 6) (v := _) rfl (by kernel_rfl) (by kernel_rfl) (by kernel_rfl) (fun _ _ _ h => h) (Or.inl ⟨by rfl, (by intro w hSw; (try dsimp only at hSw); go_simp; try with_reducible rfl)⟩) (by assumption) ?_
              go_simp
              refine wpAnyH_take (i := 7) (v := _) rfl (by kernel_rfl) (by kernel_rfl) (by kernel_rfl) (fun _ _ _ h => h) (Or.inl ⟨by rfl, (by intro w hSw; (try dsimp only at hSw); go_simp; try with_reducible rfl)⟩) (by assumption) ?_
              go_simp
              refine wpAnyH_take (i := 8) (v := _) rfl (by kernel_rfl) (by kernel_rfl) (by kernel_rfl) (fun _ _ _ h => h) (Or.inl ⟨by rfl, (by intro w hSw; (try dsimp only at hSw); go_simp; try with_reducible rfl)⟩) (by assumption) ?_
              go_simp
              refine wpAnyH_take (i := 9) (v := _) rfl (by kernel_rfl) (by kernel_rfl) (by kernel_rfl) (fun _ _ _ h => h) (Or.inl ⟨by rfl, (by intro w hSw; (try dsimp only at hSw); go_simp; try with_reducible rfl)⟩) (by assumption) ?_
              go_simp
              refine wpAnyH_take (i := 10) (v := _) rfl (by kernel_rfl) (by kernel_rfl) (by kernel_rfl) (fun _ _ _ h => h) (Or.inl ⟨by rfl, (by intro w hSw; (try dsimp only at hSw); go_simp; try with_reducible rfl)⟩) (by assumption) ?_
              go_simp
              refine wpAnyH_take (i := 11) (v := _) rfl (by kernel_rfl) (by kernel_rfl) (by kernel_rfl) (fun _ _ _ h => h) (Or.inl ⟨by rfl, (by intro w hSw; (try dsimp only at hSw); go_simp; try with_reducible rfl)⟩) (by assumption) ?_
              go_simp
              refine wpAnyH_take (i := 12) (v := _) rfl (by kernel_rfl) (by kernel_rfl) (by kernel_rfl) (fun _ _ _ h => h) (Or.inl ⟨by rfl, (by intro w hSw; (try dsimp only at hSw); go_simp; try with_reducible rfl)⟩) (by assumption) ?_
              go_simp
              refine wpAnyH_take (i := 13) (v := _) rfl (by kernel_rfl) (by kernel_rfl) (by kernel_rfl) (fun _ _ _ h => h) (Or.inl ⟨by rfl, (by intro w hSw; (try dsimp only at hSw); go_simp; try with_reducible rfl)⟩) (by assumption) ?_
              go_simp
              refine wpAnyH_take (i := 14) (v := _) rfl (by kernel_rfl) (by kernel_rfl) (by kernel_rfl) (fun _ _ _ h => h) (Or.inl ⟨by rfl, (by intro w hSw; (try dsimp only at hSw); go_simp; try with_reducible rfl)⟩) (by assumption) ?_
              go_simp
              refine wpAnyH_take (i := 15) (v := _) rfl (by kernel_rfl) (by kernel_rfl) (by kernel_rfl) (fun _ _ _ h => h) (Or.inl ⟨by rfl, (by intro w hSw; (try dsimp only at hSw); go_simp; try with_reducible rfl)⟩) (by assumption) ?_
              go_simp
              refine wpAnyH_take (i := 16) (v := _) rfl (by kernel_rfl) (by kernel_rfl) (by kernel_rfl) (fun _ _ _ h => h) (Or.inl ⟨by rfl, (by intro w hSw; (try dsimp only at hSw); go_simp; try with_reducible rfl)⟩) (by assumption) ?_
              go_simp
              refine wpAnyH_take (i := 17) (v := _) rfl (by kernel_rfl) (by kernel_rfl) (by kernel_rfl) (fun _ _ _ h => h) (Or.inl ⟨by rfl, (by intro w hSw; (try dsimp only at hSw); go_simp; try with_reducible rfl)⟩) (by assumption) ?_
              go_simp
              refine wpAnyH_take (i := 18) (v := _) rfl (by kernel_rfl) (by kernel_rfl) (by kernel_rfl) (fun _ _ _ h => h) (Or.inl ⟨by rfl, (by intro w hSw; (try dsimp only at hSw); go_simp; try with_reducible rfl)⟩) (by assumption) ?_
              go_simp
              refine wpAnyH_take (i := 19) (v := _) rfl (by kernel_rfl) (by kernel_rfl) (by kernel_rfl) (fun _ _ _ h => h) (Or.inl ⟨by rfl, (by intro w hSw; (try dsimp only at hSw); go_simp; try with_reducible rfl)⟩) (by assumption) ?_
              go_simp
              refine wpAnyH_take (i := 20) (v := _) rfl (by kernel_rfl) (by kernel_rfl) (by kernel_rfl) (fun _ _ _ h => h) (Or.inl ⟨by rfl, (by intro w hSw; (try dsimp only at hSw); go_simp; try with_reducible rfl)⟩) (by assumption) ?_
              go_simp
              refine wpAnyH_take (i := 21) (v := _) rfl (by kernel_rfl) (by kernel_rfl) (by kernel_rfl) (fun _ _ _ h => h) (Or.inl ⟨by rfl, (by intro w hSw; (try dsimp only at hSw); go_simp; try with_reducible rfl)⟩) (by assumption) ?_
              go_simp
              refine wpAnyH_take (i := 22) (v := _) rfl (by kernel_rfl) (by kernel_rfl) (by kernel_rfl) (fun _ _ _ h => h) (Or.inl ⟨by rfl, (by intro w hSw; (try dsimp only at hSw); go_simp; try with_reducible rfl)⟩) (by assumption) ?_
              go_simp
              refine wpAnyH_take (i := 23) (v := _) rfl (by kernel_rfl) (by kernel_rfl) (by kernel_rfl) (fun _ _ _ h => h) (Or.inl ⟨by rfl, (by intro w hSw; (try dsimp only at hSw); go_simp; try with_reducible rfl)⟩) (by assumption) ?_
              go_simp
              refine wpAnyH_take (i := 24) (v := _) rfl (by kernel_rfl) (by kernel_rfl) (by kernel_rfl) (fun _ _ _ h => h) (Or.inl ⟨by rfl, (by intro w hSw; (try dsimp only at hSw); go_simp; try with_reducible rfl)⟩) (by assumption) ?_
              go_simp
              refine wpAnyH_take (i := 25) (v := _) rfl (by kernel_rfl) (by kernel_rfl) (by kernel_rfl) (fun _ _ _ h => h) (Or.inl ⟨by rfl, (by intro w hSw; (try dsimp only at hSw); go_simp; try with_reducible rfl)⟩) (by assumption) ?_
              go_simp
              refine wpAnyH_ready (rs := [26, 30]) (by kernel_rfl) (by simp) ?_
              refine AllReadyH.cons rfl (fun K hK => ?_) (AllReadyH.cons rfl (fun K hK => ?_) AllReadyH.nil)
              · go_simp
                refine (AS.out _ (DO.out)).mono ?_
                rintro e wp ⟨pa2, pc2, sa2, sc2, rs2, rfl, hP2, hb9⟩
                have hbp := upw hbo hb9
                refine hK.out _ _ (hSS.out _ hbp) (fun hHeld => ?_)
                clear hK K
                go_simp
                refine wpAnyH_take (i := 27) (v := _) rfl (by kernel_rfl) (by kernel_rfl) (by kernel_rfl) (fun _ _ _ h => h) (Or.inl ⟨by rfl, (by intro w hSw; (try dsimp only at hSw); go_simp; try with_reducible rfl)⟩) (by assumption) ?_
                go_simp
                refine wpAnyH_take (i := 28) (v := _) rfl (by kernel_rfl) (by kernel_rfl) (by kernel_rfl) (fun _ _ _ h => h) (Or.inl ⟨by rfl, (by intro w hSw; (try dsimp only at hSw); go_simp; try with_reducible rfl)⟩) (by assumption) ?_
                go_simp
                refine wpAnyH_take (i := 29) (v := _) rfl (by kernel_rfl) (by kernel_rfl) (by kernel_rfl) (fun _ _ _ h => h) (Or.inl ⟨by rfl, (by intro w hSw; (try dsimp only at hSw); go_simp; try with_reducible rfl)⟩) (by assumption) ?_
                go_simp
                refine wpAnyH_ready (rs := [30]) (by kernel_rfl) (by simp) ?_
                refine AllReadyH.cons rfl (fun K hK => ?_) AllReadyH.nil
                go_simp
                obtain ⟨wz, hwz⟩ : ∃ wz, wz = wp.alloc (.cells #[.slice none 0 0, .slice none 0 0, .int .i64 0] 27) := ⟨_, rfl⟩
                rw [← hwz]
                have hbz0 : Below wp.heap.size wp wz := by rw [hwz]; exact new_below _ _
                have hR : Own wp.heap.size wz 27 (.slice (some ⟨wp.heap.size, 0, none⟩) 1 1) [zeroT] := by rw [hwz]; exact own_rawT _ _ zeroT
                have hbz := upw hbp hbz0
                clear hwz
                refine hK.out _ _ (hSS.out _ hbz) (fun hHeld => ?_)
                clear hK K
                go_simp
                replace hP2 := hP2.later hbz0
                refine wpAnyH_ready (rs := [31]) (by kernel_rfl) (by simp) ?_
                refine AllReadyH.cons rfl (fun K hK => ?_) AllReadyH.nil
                refine cast (if_pos (by rfl)).symm ?_; refine wp_store_own 27 (.tmp 18) (.tmp 256) rfl wp.heap.size 27 wp.heap.size 1 1 [zeroT] 0 _ (⟨pa2, p2.pieces.length, pc2, sa2, p2.seams.length, sc2, p2.openings⟩ : RawT) rfl rfl rfl (by kernel_rfl) rfl hR (by simp) ?_; intro wq hRq hgq
                have hbq := below_mark hbz hR (by have := hbp.size; omega) hgq
                have hPq := hP2.keptV hR hgq
                refine hK.out _ _ (hSS.out _ hbq) (fun hHeld => ?_)
                clear hK K
                go_simp
                refine wpAnyH_take (i := 32) (v := _) rfl (by kernel_rfl) (by kernel_rfl) (by kernel_rfl) (fun _ _ _ h => h) (Or.inl ⟨by rfl, (by intro w hSw; (try dsimp only at hSw); go_simp; try with_reducible rfl)⟩) (by assumption) ?_
                go_simp
                refine wpAnyH_done (by kernel_rfl) ?_ _
                obtain ⟨q0, q1, q2⟩ := rawT_cells hRq
                replace hb := upw hb hbq
                replace hPq := Lib.hid hPq
                clear hbo hRq hgq hR hSS DO hHeld
                go_wp2_with fail
                refine (C3.out _ _ _ _ _ hPq.out.lie).mono ?_
                rintro e wx ⟨vx, rsx, rfl, hOx, hbx⟩
                obtain ⟨ax, cx, rfl, hAx⟩ := hOx.at
                replace q0 := kept_cell q0 hbx
                replace q1 := kept_cell q1 hbx
                replace q2 := kept_cell q2 hbx
                replace hPq := Lib.hid (hPq.out.later hbx)
                replace hb := upw hb hbx
                clear hbx hOx hAx
                have hE2 := hm2.out
                go_wp2_with (go_at_call 14; refine (C4.out _ _ _ _ _ hPq.out.lie).mono ?_; rintro e wy ⟨rfl, hby⟩)
                go_ret
                exact ⟨by simp, upw hb hby⟩
              · go_simp
                obtain ⟨wz, hwz⟩ : ∃ wz, wz = wo.alloc (.cells #[.slice none 0 0, .slice none 0 0, .int .i64 0] 27) := ⟨_, rfl⟩
                rw [← hwz]
                have hbz0 : Below wo.heap.size wo wz := by rw [hwz]; exact new_below _ _
                have hR : Own wo.heap.size wz 27 (.slice (some ⟨wo.heap.size, 0, none⟩) 1 1) [zeroT] := by rw [hwz]; exact own_rawT _ _ zeroT
                have hbz := upw hbo hbz0
                clear hwz
                refine hK.out _ _ (hSS.out _ hbz) (fun hHeld => ?_)
                clear hK K
                go_simp
                refine wpAnyH_ready (rs := [26]) (by kernel_rfl) (by simp) ?_
                refine AllReadyH.cons rfl (fun K hK => ?_) AllReadyH.nil
                go_simp
                refine (AS.out _ (DO.out.later hbz0)).mono ?_
                rintro e wp ⟨pa2, pc2, sa2, sc2, rs2, rfl, hP2, hb9⟩
                have hbp := upw hbz hb9
                refine hK.out _ _ (hSS.out _ hbp) (fun hHeld => ?_)
                clear hK K
                go_simp
                replace hR := hR.later hb9
                refine wpAnyH_take (i := 27) (v := _) rfl (by kernel_rfl) (by kernel_rfl) (by kernel_rfl) (fun _ _ _ h => h) (Or.inl ⟨by rfl, (by intro w hSw; (try dsimp only at hSw); go_simp; try with_reducible rfl)⟩) (by assumption) ?_
                go_simp
                refine wpAnyH_take (i := 28) (v := _) rfl (by kernel_rfl) (by kernel_rfl) (by kernel_rfl) (fun _ _ _ h => h) (Or.inl ⟨by rfl, (by intro w hSw; (try dsimp only at hSw); go_simp; try with_reducible rfl)⟩) (by assumption) ?_
                go_simp
                refine wpAnyH_take (i := 29) (v := _) rfl (by kernel_rfl) (by kernel_rfl) (by kernel_rfl) (fun _ _ _ h => h) (Or.inl ⟨by rfl, (by intro w hSw; (try dsimp only at hSw); go_simp; try with_reducible rfl)⟩) (by assumption) ?_
                go_simp
                refine wpAnyH_ready (rs := [31]) (by kernel_rfl) (by simp) ?_
                refine AllReadyH.cons rfl (fun K hK => ?_) AllReadyH.nil
                refine cast (if_pos (by rfl)).symm ?_; refine wp_store_own 27 (.tmp 18) (.tmp 256) rfl wo.heap.size 27 wo.heap.size 1 1 [zeroT] 0 _ (⟨pa2, p2.pieces.length, pc2, sa2, p2.seams.length, sc2, p2.openings⟩ : RawT) rfl rfl rfl (by kernel_rfl) rfl hR (by simp) ?_; intro wq hRq hgq
                have hbq := below_mark hbp hR (hbo.size) hgq
                have hPq := hP2.keptV hR hgq
                refine hK.out _ _ (hSS.out _ hbq) (fun hHeld => ?_)
                clear hK K
                go_simp
                refine wpAnyH_take (i := 32) (v := _) rfl (by kernel_rfl) (by kernel_rfl) (by kernel_rfl) (fun _ _ _ h => h) (Or.inl ⟨by rfl, (by intro w hSw; (try dsimp only at hSw); go_simp; try with_reducible rfl)⟩) (by assumption) ?_
                go_simp
                refine wpAnyH_done (by kernel_rfl) ?_ _
                obtain ⟨q0, q1, q2⟩ := rawT_cells hRq
                replace hb := upw hb hbq
                replace hPq := Lib.hid hPq
                clear hbo hRq hgq hR hSS DO hHeld
                go_wp2_with fail
                refine (C3.out _ _ _ _ _ hPq.out.lie).mono ?_
                rintro e wx ⟨vx, rsx, rfl, hOx, hbx⟩
                obtain ⟨ax, cx, rfl, hAx⟩ := hOx.at
                replace q0 := kept_cell q0 hbx
                replace q1 := kept_cell q1 hbx
                replace q2 := kept_cell q2 hbx
                replace hPq := Lib.hid (hPq.out.later hbx)
                replace hb := upw hb hbx
                clear hbx hOx hAx
                have hE2 := hm2.out
                go_wp2_with (go_at_call 14; refine (C4.out _ _ _ _ _ hPq.out.lie).mono ?_; rintro e wy ⟨rfl, hby⟩)
                go_ret
                exact ⟨by simp, upw hb hby⟩
end Go.Proofs.YtlmhiocmldhkhaaGreatDoor
