/- FnEuler: for all bytes the law returns true, and the bytes read behind the call as before. -/
import Derived.Test.YtlmhiocmldhkhaaEulMath
import Derived.Test.YtlmhiocmldhkhaaA2P
import Derived.Test.YtlmhiocmldhkhaaA2
import Derived.Test.YtlmhiocmldhkhaaP08t
import Derived.Test.YtlmhiocmldhkhaaP08c4
namespace Go.Proofs.Ytlmhiocmldhkhaa
open Go.ChangeShapes Go.WideShapes Go.ChangeAt Go.RowKit

/-- What the law asks of the parts. -/
structure PartOk (p : Pattern) (f : Nat → Nat) : Prop where
  le : ∀ i, f i ≤ i
  idem : ∀ i, f (f i) = f i
  seam : ∀ s ∈ p.seams, ∃ a b : Nat, s.A = a ∧ s.B = b ∧ a < p.pieces.length ∧ b < p.pieces.length ∧ f a = f b
theorem part_ok {p : Pattern} (ok : Okp p) : PartOk p (joinAll (SP p) id) := by
  have J := joined_of (SP p)
  refine ⟨J.le, J.idem, fun s hs => ?_⟩
  obtain ⟨h1, h2⟩ := ok.seam s hs
  obtain ⟨i, _, e1, hi, _⟩ := hasEdge_get h1
  obtain ⟨j, _, e2, hj, _⟩ := hasEdge_get h2
  have a1 : s.A = i := congrArg Edge.piece e1
  have a2 : s.B = j := congrArg Edge.piece e2
  refine ⟨i, j, a1, a2, hi, hj, ?_⟩
  have := J.eq (s.A.toNat, s.B.toNat) (List.mem_map.2 ⟨s, hs, rfl⟩)
  simpa [a1, a2] using this
def surfTo (f : Nat → Nat) (k : Nat) : Nat := (List.range k).countP fun i => f i == i
theorem surfTo_succ (f : Nat → Nat) (k : Nat) : surfTo f (k + 1) = surfTo f k + if f k = k then 1 else 0 := by
  unfold surfTo
  rw [List.range_succ, List.countP_append]
  by_cases h : f k = k <;> simp [h]
theorem surfTo_le (f : Nat → Nat) (k : Nat) : surfTo f k ≤ k := by
  unfold surfTo
  have := List.countP_le_length (p := fun i => f i == i) (l := List.range k)
  simpa using this
set_option maxRecDepth 100000 in
set_option maxHeartbeats 8000000 in
theorem lawEuler (a : Option Addr) (L : List UInt8) (c : Nat) (w : World) (hx : At w a L) (hlx : L.length ≤ 9223372036854775807) :
    Calls Try.prog 5 #[.slice a L.length c] w fun e w' => e = .returned (.bool true) ∧ Below w.heap.size w w' := by
  have hlong := a2Long_c a none L ([] : List UInt8) c 0 w
  by_cases hg : 3000 < L.length
  · have e : (decide (3000 < L.length) || decide (3000 < ([] : List UInt8).length)) = true := by simpa using hg
    rw [e] at hlong
    go_enter Try.func5, Try.ntmps5
    go_wp2_with (go_at_call 14; refine hlong.mono ?_; rintro e w1 ⟨rfl, rfl⟩)
    go_ret
    exact ⟨rfl, Below.refl _ _⟩
  · have e : (decide (3000 < L.length) || decide (3000 < ([] : List UInt8).length)) = false := by simp; omega
    rw [e] at hlong
    clear e hg
    go_enter Try.func5, Try.ntmps5
    go_wp2_with fail
    refine hlong.mono ?_
    rintro e w1 ⟨rfl, rfl⟩
    go_wp2_with fail
    refine (A2Pattern_c a L c w hx hlx).mono ?_
    rintro e w1 ⟨p, pa, pc, sa, sc, rfl, ⟨rs, hP⟩, hok, hb1⟩
    obtain ⟨w2, hw2⟩ : ∃ w2, w2 = w1.alloc (.cells #[.slice pa p.pieces.length pc, .slice sa p.seams.length sc, .int .i64 p.openings] 32) := ⟨_, rfl⟩
    have hb2 : Below w1.heap.size w1 w2 := by rw [hw2]; exact new_below _ _
    have hs12 : w1.heap.size < w2.heap.size := by rw [hw2]; simp
    have D : PatW w.heap.size w2 w1.heap.size pa pc sa sc rs p := by rw [hw2]; exact patW_of hP hb1.size
    have hb := upw hb1 hb2
    replace hw2 := Lib.hid hw2
    have HL := Lib.hid D.pat.lie
    have htot : totPattern p ≤ 1048576 := by have := (okp_small hok).1; omega
    obtain ⟨y0, y1, y2⟩ := D.cells
    clear hP hb1 hb2 hlong D
    have hokb := okp_iff.2 hok
    have C1 := fun w' h => implCornersOf_c p pa pc sa sc w' h htot
    have C2 := fun w' h => implEulerOf_c p pa pc sa sc w' h htot
    have C3 := fun w' h => implPartsOf_c p pa pc sa sc w' h htot
    have C4 := fun w' h => implOpeningsOf_c p pa pc sa sc w' h htot
    rw [euOf_open hokb] at C2
    simp only [coOf, coCode, paOf, paCode, opOf, opCode, hokb, if_true] at C1 C2 C3 C4
    have hF10 := hok.n10
    have hF1 := hok.n1
    have hS := two_seams hok
    have hol := openings_length hok
    have hopl := open_length hok
    have hel := edges_length hok
    have hcl := cornersOf_le hok
    have hc1 := corners_pos hok
    have hopen := open_count hok
    obtain ⟨g, hgen⟩ := holes hok
    have hpart := Lib.hid (part_ok hok)
    have hsur := Lib.hid (show surfaces p = surfTo (joinAll (SP p) id) p.pieces.length from rfl)
    have hPl : (partsL p).length = p.pieces.length := partsL_length p
    have hPg := Lib.hid (fun i h => labs_get p.pieces.length (joinAll (SP p) id) i h)
    have hPe : partsL p = labs p.pieces.length (joinAll (SP p) id) := rfl
    have hETo := Lib.hid (fun k => edgesTo_succ p k)
    have hEall := Lib.hid (show edgesTo p p.pieces.length = edgesOf p from rfl)
    have hETl := Lib.hid (fun k hk => edgesTo_length hok k hk)
    have hnE := Lib.hid (fun i h => nE_get (p := p) (i := i) h)
    have hlen := Lib.hid hok.len
    have hokh := Lib.hid hok
    obtain ⟨F, hFe⟩ : ∃ F, F = p.pieces.length := ⟨_, rfl⟩
    obtain ⟨f, hf⟩ : ∃ f, f = joinAll (SP p) id := ⟨_, rfl⟩
    rw [← hf] at hpart hsur hPe hPg
    replace hf := Lib.hid hf
    obtain ⟨E, hEe⟩ : ∃ E, E = (edgesOf p).length := ⟨_, rfl⟩
    rw [← hEe] at hopen hel
    replace hEe := Lib.hid hEe
    obtain ⟨sf, hsf⟩ : ∃ sf, sf = surfaces p := ⟨_, rfl⟩
    rw [← hsf] at hgen hsur
    have hsfl : sf ≤ p.pieces.length := by rw [hsur.out]; exact surfTo_le _ _
    clear hsf
    generalize cornersOf p = V at *
    generalize (openOf p).length = op at *
    generalize openings p = O at *
    obtain ⟨S, hSe⟩ : ∃ S, S = p.seams.length := ⟨_, rfl⟩
    obtain ⟨eu, heu⟩ : ∃ eu, eu = ((V : Int) - ((op : Int) + (p.seams.length : Int)) + (p.pieces.length : Int)) := ⟨_, rfl⟩
    rw [← heu] at hgen C2
    have t1 : eu = (V : Int) - ((E : Int) - (p.seams.length : Int)) + (p.pieces.length : Int) := by omega
    have t2 : (eu == (V : Int) - ((E : Int) - (p.seams.length : Int)) + (p.pieces.length : Int)) = true := by simpa using t1
    have t3 : decide ((1 : Int) ≤ (V : Int)) = true := by simp; omega
    have t4 : decide ((0 : Int) ≤ 2 * (sf : Int) - eu - (O.length : Int)) = true := by simp; omega
    have t5 : (2 * (sf : Int) - eu - (O.length : Int)) % 2 = 0 := by omega
    have hu : -1000 ≤ eu ∧ eu ≤ 1000 := by omega
    replace C1 := Lib.hid C1
    replace C2 := Lib.hid C2
    replace C3 := Lib.hid C3
    replace C4 := Lib.hid C4
    have hY : Hid (∀ i, (h : i < (partsL p).length) → (partsL p)[i] = ((f i : Nat) : Int)) := Lib.hid (fun i h => by
      have := hPg.out i (by rw [← hPe]; exact h)
      simp only [hPe]; exact this)
    obtain ⟨Y, hYe⟩ : ∃ Y, Y = partsL p := ⟨_, rfl⟩
    rw [← hYe] at C3 hY hPl
    replace hPl := Lib.hid hPl
    clear hPe hPg hYe hokb heu hgen hopen t1 hc1 hopl hSe hFe hok
    replace t2 := Lib.hid t2
    replace t5 := Lib.hid t5
    go_wp2_with (rw [← hw2.out])
    refine (C1.out _ HL.out).mono ?_
    rintro e w3 ⟨rfl, hb3⟩
    replace y0 := kept_cell y0 hb3
    replace y1 := kept_cell y1 hb3
    replace y2 := kept_cell y2 hb3
    replace HL := Lib.hid (HL.out.below hb3)
    replace hb := upw hb hb3
    clear hb3 hw2
    go_wp2_with fail
    refine (C2.out _ HL.out).mono ?_
    rintro e w4 ⟨rfl, hb4⟩
    replace y0 := kept_cell y0 hb4
    replace y1 := kept_cell y1 hb4
    replace y2 := kept_cell y2 hb4
    replace HL := Lib.hid (HL.out.below hb4)
    replace hb := upw hb hb4
    clear hb4
    go_wp2_with fail
    refine (C3.out _ HL.out).mono ?_
    rintro e w5 ⟨v5, rfl, hO5, hb5⟩
    obtain ⟨a5, c5, rfl, hA5⟩ := hO5.at
    replace y0 := kept_cell y0 hb5
    replace y1 := kept_cell y1 hb5
    replace y2 := kept_cell y2 hb5
    replace HL := Lib.hid (HL.out.below hb5)
    replace hb := upw hb hb5
    clear hb5 hO5
    go_wp2_with fail
    refine (C4.out _ HL.out).mono ?_
    rintro e w6 ⟨v6, rfl, hO6, hb6⟩
    obtain ⟨a6, c6, rfl, hA6⟩ := hO6.at
    replace y0 := kept_cell y0 hb6
    replace y1 := kept_cell y1 hb6
    replace HL := Lib.hid (HL.out.below hb6)
    replace hA5 := hA5.below hb6
    replace hb := upw hb hb6
    clear hb6 hO6 hA6 C1 C2 C3 C4 y2
    have hne : ((Y.length : Int) != (p.pieces.length : Int)) = false := by rw [hPl.out]; simp
    go_wp2_with fail
    clear hne
    obtain ⟨bp, hbp⟩ : ∃ bp, bp = w1.heap.size := ⟨_, rfl⟩
    rw [← hbp] at y0 y1 ⊢
    clear hbp hs12
    go_loopw [12, 14, 15] (fun q s i wr => ∃ k : Nat, k ≤ p.pieces.length ∧ i = .int .i64 k ∧ q = .int .i64 ((edgesTo p k).length : Nat) ∧ s = .int .i64 (surfTo f k : Nat) ∧ Below w6.heap.size w6 wr) (fun _ _ i _ => p.pieces.length - (intOf i).toNat)
    case atStart => exact ⟨0, Nat.zero_le _, rfl, rfl, rfl, Below.refl _ _⟩
    case round =>
      obtain ⟨k, hk, rfl, rfl, rfl, hB⟩ := hrel
      obtain ⟨wa, hwa⟩ : ∃ wo : World, wo = wr := ⟨_, rfl⟩
      subst hwa
      have z0 := kept_cell y0 hB
      have z1 := kept_cell y1 hB
      have HL2 := Lib.hid (HL.out.below hB)
      have hA := hA5.below hB
      by_cases hlt : k < p.pieces.length
      · have hkY : k < Y.length := by rw [hPl.out]; exact hlt
        obtain ⟨bb, off, ea, ec, hpa, _, hV⟩ := HL2.out.pieV hlt
        have x1 := hV.c1
        obtain ⟨nm, hnm⟩ : ∃ nm, nm = p.pieces[k].edges.length := ⟨_, rfl⟩
        rw [← hnm] at x1
        have hnE2 := hnE.out k hlt
        have l8 := (hlen.out _ (List.getElem_mem hlt)).2
        rw [← hnm] at hnE2 l8
        have hEk := Lib.hid (show (edgesTo p (k + 1)).length = (edgesTo p k).length + nm by rw [hETo.out]; simp [rowE, hnE2])
        have hEl := hETl.out k hk
        obtain ⟨q, hq⟩ : ∃ q, q = (edgesTo p k).length := ⟨_, rfl⟩
        rw [← hq] at hEk hEl ⊢
        have hsk := Lib.hid (surfTo_succ f k)
        have hsl := surfTo_le f k
        obtain ⟨s, hs⟩ : ∃ s, s = surfTo f k := ⟨_, rfl⟩
        rw [← hs] at hsk hsl ⊢
        have hm := hpart.out.le k
        have hmm := hpart.out.idem k
        obtain ⟨m, hme⟩ : ∃ m, m = f k := ⟨_, rfl⟩
        rw [← hme] at hm hmm hsk
        have hmY : m < Y.length := by omega
        obtain ⟨b5, o5, ha5⟩ := hA.addr hkY
        subst ha5
        have d0 := hA.int hkY
        have d1 := hA.int hmY
        rw [hY.out k hkY, ← hme] at d0
        rw [hY.out m hmY, hmm] at d1
        clear hmm hq hs hme hnm hnE2 hV
        subst hpa
        have d0r := rg d0
        have d1r := rg d1
        have u1 : decide ((m : Int) < 0) = false := by simp
        have u2 : decide (k < m) = false := by simp; omega
        go_wp2_with fail
        refine wp_region_quiet_below (by kernel_rfl) (by kernel_rfl) ?_
        repeat (go_big_quiet_step (fail))
        refine wpQuiet_nil ?_
        intro wq hw'
        have hG := grown_of hw'
        have d2 := kept_cell d0 hG
        have hB2 := upw hB hG
        clear hw' hG d0r d1r u1 u2
        by_cases hmk : m = k
        · have hmk2 : ((m : Int) == (k : Int)) = true := by simp [hmk]
          rw [if_pos hmk] at hsk
          replace hmk := Lib.hid hmk
          go_wp2_with fail
          go_roundw
          case rel => exact ⟨k + 1, by omega, by go_num, by rw [hEk.out]; go_num, by rw [hsk.out]; go_num, hB2⟩
          case measure => first | (simp [intOf]; done) | (simp [intOf]; omega)
        · have hmk2 : ((m : Int) == (k : Int)) = false := by simp; omega
          rw [if_neg hmk] at hsk
          replace hmk := Lib.hid hmk
          go_wp2_with fail
          go_roundw
          case rel => exact ⟨k + 1, by omega, by go_num, by rw [hEk.out]; go_num, by rw [hsk.out]; first | rfl | go_num, hB2⟩
          case measure => first | (simp [intOf]; done) | (simp [intOf]; omega)
      · obtain rfl : k = p.pieces.length := by omega
        have q1 : ((edgesTo p p.pieces.length).length : Nat) = E := by rw [hEall.out, hEe.out]
        have q2 : surfTo f p.pieces.length = sf := hsur.out.symm
        rw [q1, q2]
        clear q1 q2 z0 hlt hk
        go_wp2_with fail
        go_loopw [16] (fun i wr => ∃ k : Nat, k ≤ p.seams.length ∧ i = .int .i64 k ∧ Below wa.heap.size wa wr) (fun i _ => p.seams.length - (intOf i).toNat)
        case atStart => exact ⟨0, Nat.zero_le _, rfl, Below.refl _ _⟩
        case round =>
          obtain ⟨k, hk, rfl, hB3⟩ := hrel
          obtain ⟨wb, hwb⟩ : ∃ wo : World, wo = wr := ⟨_, rfl⟩
          subst hwb
          have x1 := kept_cell z1 hB3
          by_cases hlt : k < p.seams.length
          · have HL3 := HL2.out.below hB3
            have hA3 := hA.below hB3
            obtain ⟨ia, ib, ea, eb, hia, hib, hfe⟩ := hpart.out.seam _ (List.getElem_mem hlt)
            obtain ⟨bs, os, hsa⟩ := HL3.seams.addr hlt
            subst hsa
            obtain ⟨s0, s1, s2, s3⟩ := HL3.seams.seam hlt
            rw [ea] at s0
            rw [eb] at s2
            have hiaY : ia < Y.length := by rw [hPl.out]; exact hia
            have hibY : ib < Y.length := by rw [hPl.out]; exact hib
            obtain ⟨b5, o5, ha5⟩ := hA3.addr hiaY
            subst ha5
            have d0 := hA3.int hiaY
            have d1 := hA3.int hibY
            rw [hY.out ia hiaY] at d0
            rw [hY.out ib hibY, ← hfe] at d1
            clear hfe HL3 hA3 s1 s3 ea eb
            obtain ⟨m, hme⟩ : ∃ m, m = f ia := ⟨_, rfl⟩
            rw [← hme] at d0 d1
            clear hme
            have x1r := rg x1
            replace s0 := rg s0
            replace s2 := rg s2
            replace d0 := rg d0
            replace d1 := rg d1
            go_wp2_with fail
            refine wp_region_quiet_below (by kernel_rfl) (by kernel_rfl) ?_
            repeat (go_big_quiet_step (fail))
            refine wpQuiet_nil ?_
            intro wq hw'
            have hB4 := upw hB3 (grown_of hw')
            clear hw'
            go_wp2_with fail
            go_roundw
            case rel => exact ⟨k + 1, by omega, by go_num, hB4⟩
            case measure => first | (simp [intOf]; done) | (simp [intOf]; omega)
          · obtain rfl : k = p.seams.length := by omega
            have t2' := t2.out
            have t5' := t5.out
            have t6 : (2 * (sf : Int) - eu - (O.length : Int)).tmod 2 = 0 := by
              rw [Int.tmod_eq_emod_of_nonneg (by simpa using t4)]; exact t5'
            clear hlt hk HL2 hA
            go_wp2_with fail
            all_goals first
              | (exfalso; have h4 := of_decide_eq_true t4; omega)
              | (go_ret; exact ⟨rfl, upw hb (upw hB hB3)⟩)
end Go.Proofs.Ytlmhiocmldhkhaa
