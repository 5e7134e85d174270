/- Chapter 8, patterns: corners, as the reference counts them. -/
import Derived.Test.YtigaimehlcgobaaP08c2
import Derived.Test.YtigaimehlcgobaaP08i
import Derived.Test.YtigaimehlcgobaaP08p
namespace Go.Proofs.Ytigaimehlcgobaa
open Go.RowKit

def hitN (F : Nat → Nat) (e : Edge) : Bool := F (code e) == code e
theorem hits_all (p : Pattern) : (edgesOf p).countP (hitN (joinAll (SC p) id)) = cornersOf p := by
  unfold cornersOf codes; rw [List.countP_map]; rfl
theorem code_lt {p : Pattern} (ok : Okp p) {e : Edge} (h : hasEdge p e = true) : code e < 8 * p.pieces.length := by
  obtain ⟨i, j, rfl, hi, hj⟩ := hasEdge_get h
  have := (ok.len _ (List.getElem_mem hi)).2
  unfold code
  simp only [Int.toNat_natCast]
  omega
theorem code_int {p : Pattern} {e : Edge} (h : hasEdge p e = true) : 8 * e.piece + e.number = (code e : Nat) := by
  obtain ⟨i, j, rfl, hi, hj⟩ := hasEdge_get h
  unfold code
  simp only [Int.toNat_natCast]
  omega
theorem has_bounds {p : Pattern} (ok : Okp p) {e : Edge} (h : hasEdge p e = true) : 0 ≤ e.piece ∧ e.piece ≤ 9 ∧ 0 ≤ e.number ∧ e.number ≤ 7 := by
  obtain ⟨i, j, rfl, hi, hj⟩ := hasEdge_get h
  have := (ok.len _ (List.getElem_mem hi)).2
  have := ok.n10
  simp only
  omega
theorem countP_snoc {α : Type} (q : α → Bool) (l : List α) (x : α) : (l ++ [x]).countP q = l.countP q + if q x then 1 else 0 := by
  rw [List.countP_append]; simp [List.countP_cons]
set_option maxRecDepth 100000 in
set_option maxHeartbeats 6400000 in
theorem l08Corners_c (p : Pattern) (b : Nat) (pa : Option Addr) (pc : Nat) (sa : Option Addr) (sc : Nat) (w : World) (hP : PatV w b pa pc sa sc p) (hl : totPattern p ≤ 1048576) (ok : Okp p) :
    Calls Try.prog 72 #[.pointer (some ⟨b, 0, none⟩)] w fun en w' => en = .returned (.int .i64 (cornersOf p : Nat)) ∧ Below w.heap.size w w' := by
  obtain ⟨i0, hi, hz0, hz1, hz2⟩ := info_parts infoInt
  have l1 := ok.n10
  have l0 := ok.n1
  have l2 := (tot_okp hl).2
  have HP := Lib.hid hP
  have c0 := hP.c0
  clear hP
  have hmax := Lib.hid (fun n h => edgesTo_length ok n h)
  have HES := Lib.hid (edgesTo_succ p)
  replace ok := Lib.hid ok
  obtain ⟨N, hN⟩ : ∃ N, N = 8 * p.pieces.length := ⟨_, rfl⟩
  have hN2 : (8 : Int) * (p.pieces.length : Int) = (N : Int) := by omega
  have hNl : N ≤ 80 := by omega
  have HN := Lib.hid hN
  clear hN
  have hw8 : IntKind.i64.wrap (8 * (p.pieces.length : Int)) = (N : Int) := by rw [hN2]; exact IntWalk.i64_in _ (by omega)
  go_enter Try.func72, Try.ntmps72
  go_wp2_with (at_make; refine wpList_make_full _ rfl (.tmp 20) (.tmp 20) 36 rfl w.heap.size 2 i0 (.int .i64 0) 1 Try.underlying36 hi hz0 hz1 .i64 .i64 _ _ N rfl rfl rfl rfl (by rw [hz2]; omega) (by unfold maxLen; omega) (Nat.le_refl _) ?_; intro w1 hown hg; refine Hid.out ?_)
  have hb1 : Below w.heap.size w w1 := (Below.refl _ _).grown hg (Nat.le_refl _) (by simp)
  have HO : Hid (Own w.heap.size w1 2 (.slice (some ⟨w.heap.size, 0, none⟩) N N) (List.replicate N (0 : Int))) := Lib.hid (by
    unfold Own; rw [List.length_replicate, ← made_flat (0 : Int) _ rfl]; exact hown)
  clear hown hg c0 hi hz0 hz1 hz2 hw8 hN2
  obtain ⟨g, hg⟩ : ∃ g, g = w.heap.size := ⟨_, rfl⟩
  have HG := Lib.hid hg
  have HO1 : Hid (Own w.heap.size w1 2 (.slice (some ⟨g, 0, none⟩) N N) (List.replicate N (0 : Int))) := by rw [hg]; exact HO
  rw [← hg]
  clear hg HO
  have hLl := Lib.hid (labs_length N id)
  have hRl : Hid ((labs N id).length = (List.replicate N (0 : Int)).length) := Lib.hid (by rw [labs_length, List.length_replicate])
  refine Lib.hid ?_
  go_wp2_with fail
  go_loopw [4] (fun i wr => ∃ k : Nat, k ≤ N ∧ i = .int .i64 k ∧ Hid (Own w.heap.size wr 2 (.slice (some ⟨g, 0, none⟩) N N) (over (labs N id) (List.replicate N (0 : Int)) k)) ∧ Below w.heap.size w wr) (fun i _ => N - (intOf i).toNat)
  case atStart => exact ⟨0, Nat.zero_le _, rfl, by rw [over_zero]; exact HO1, hb1⟩
  case round =>
    clear HO1 hb1
    obtain ⟨k, hk, rfl, hO, hb⟩ := hrel
    obtain ⟨wo, rfl⟩ : ∃ wo : World, wo = wr := ⟨_, rfl⟩
    by_cases hlt : k < N
    · have hko : k < (over (labs N id) (List.replicate N (0 : Int)) k).length := by rw [over_length _ _ _ hRl.out, List.length_replicate]; exact hlt
      have hov := Lib.hid (show N = (over (labs N id) (List.replicate N (0 : Int)) k).length by rw [over_length _ _ _ hRl.out, List.length_replicate])
      have hE : Hid ((over (labs N id) (List.replicate N (0 : Int)) k).set k (k : Int) = over (labs N id) (List.replicate N (0 : Int)) (k + 1)) := Lib.hid (by
        rw [← over_succ _ _ k hRl.out (by rw [hLl.out]; exact hlt), labs_get]; rfl)
      go_wp2_with (refine wpList_store_own rfl 2 (.tmp 31) (.tmp 30) rfl w.heap.size 2 _ _ _ (over (labs N id) (List.replicate N (0 : Int)) k) k _ (k : Int) rfl (by simp [Flat.k]) rfl (by kernel_rfl) hov.out hO.out hko ?_; intro w5 hO5 hg5)
      go_roundw
      case rel => exact ⟨k + 1, by omega, by go_num, Lib.hid (by rw [← hE.out]; exact hO5), below_mark hb hO.out (Nat.le_refl _) hg5⟩
      case measure => simp [intOf]; omega
    · obtain rfl : k = N := by omega
      have hst : Hid (over (labs k id) (List.replicate k (0 : Int)) k = labs k (joinAll (SCto p 0) id)) := Lib.hid (over_full _ _ hRl.out (by rw [List.length_replicate]; exact Nat.le_refl _))
      rw [hst.out] at hO
      go_wp2_with fail
      go_loopw [5, 6, 7, 8, 9, 10] (fun i _ _ _ _ _ wr => ∃ m : Nat, m ≤ p.seams.length ∧ i = .int .i64 m ∧ Hid (Own w.heap.size wr 2 (.slice (some ⟨g, 0, none⟩) k k) (labs k (joinAll (SCto p m) id))) ∧ Below w.heap.size w wr) (fun i _ _ _ _ _ _ => p.seams.length - (intOf i).toNat)
      case atStart => exact ⟨0, Nat.zero_le _, rfl, hO, hb⟩
      case round =>
        clear hO hb
        obtain ⟨m, hm, rfl, hO, hb⟩ := hrel
        obtain ⟨wp, rfl⟩ : ∃ wp : World, wp = wr := ⟨_, rfl⟩
        have hP := Lib.hid (HP.out.below hb)
        obtain ⟨c0, c1, c2, hL⟩ := hP.out
        clear c2
        by_cases hlt2 : m < p.seams.length
        · have hx := hL.seams
          obtain ⟨bb, off, rfl⟩ := hx.addr hlt2
          have hbl := hx.lt hlt2
          obtain ⟨d0, d1, d2, d3⟩ := hx.seam hlt2
          obtain ⟨hsA, hsB⟩ := ok.out.seam _ (List.getElem_mem hlt2)
          have hT := Lib.hid (SCto_succ p m hlt2)
          obtain ⟨s, hse⟩ : ∃ s, s = p.seams[m] := ⟨_, rfl⟩
          rw [← hse] at d0 d1 d2 d3 hsA hsB hT
          replace hse := Lib.hid hse
          clear c0 hL hx
          obtain ⟨A1, A2, A3, A4⟩ := has_bounds ok.out hsA
          obtain ⟨B1, B2, B3, B4⟩ := has_bounds ok.out hsB
          have hnA := next_has hsA
          have hnB := next_has hsB
          obtain ⟨_, _, A5, A6⟩ := has_bounds ok.out hnA
          obtain ⟨_, _, B5, B6⟩ := has_bounds ok.out hnB
          have eA := code_int hsA
          have eB := code_int hsB
          have eNA := code_int hnA
          have eNB := code_int hnB
          have lA := code_lt ok.out hsA
          have lB := code_lt ok.out hsB
          have lNA := code_lt ok.out hnA
          have lNB := code_lt ok.out hnB
          rw [← HN.out] at lA lB lNA lNB
          have pnA : (nextE p (endA s)).piece = s.A := rfl
          have pnB : (nextE p (endB s)).piece = s.B := rfl
          rw [pnA] at eNA
          rw [pnB] at eNB
          change 0 ≤ s.A at A1
          change s.A ≤ 9 at A2
          change 0 ≤ s.EdgeA at A3
          change s.EdgeA ≤ 7 at A4
          change 0 ≤ s.B at B1
          change s.B ≤ 9 at B2
          change 0 ≤ s.EdgeB at B3
          change s.EdgeB ≤ 7 at B4
          change 8 * s.A + s.EdgeA = _ at eA
          change 8 * s.B + s.EdgeB = _ at eB
          have NXA := Lib.hid (fun w' (h : PatV w' b pa pc (some ⟨bb, off, none⟩) sc p) => l08Next_c p b pa pc _ sc (endA s) w' h ok.out hsA)
          have NXB := Lib.hid (fun w' (h : PatV w' b pa pc (some ⟨bb, off, none⟩) sc p) => l08Next_c p b pa pc _ sc (endB s) w' h ok.out hsB)
          obtain ⟨kA, hkA⟩ : ∃ n, n = code (endA s) := ⟨_, rfl⟩
          obtain ⟨kB, hkB⟩ : ∃ n, n = code (endB s) := ⟨_, rfl⟩
          obtain ⟨kNA, hkNA⟩ : ∃ n, n = code (nextE p (endA s)) := ⟨_, rfl⟩
          obtain ⟨kNB, hkNB⟩ : ∃ n, n = code (nextE p (endB s)) := ⟨_, rfl⟩
          rw [← hkA] at eA lA hT
          rw [← hkB] at eB lB hT
          rw [← hkNA] at eNA lNA hT
          rw [← hkNB] at eNB lNB hT
          obtain ⟨nA, hnn⟩ : ∃ n, n = (nextE p (endA s)).number := ⟨_, rfl⟩
          obtain ⟨nB, hnn2⟩ : ∃ n, n = (nextE p (endB s)).number := ⟨_, rfl⟩
          rw [← hnn] at A5 A6 eNA NXA
          rw [← hnn2] at B5 B6 eNB NXB
          replace hkA := Lib.hid hkA
          replace hkB := Lib.hid hkB
          replace hkNA := Lib.hid hkNA
          replace hkNB := Lib.hid hkNB
          replace hnn := Lib.hid hnn
          replace hnn2 := Lib.hid hnn2
          have wA : IntKind.i64.wrap (8 * s.A) = 8 * s.A := IntWalk.i64_in _ (by omega)
          have wB : IntKind.i64.wrap (8 * s.B) = 8 * s.B := IntWalk.i64_in _ (by omega)
          have wNA : IntKind.i64.wrap (8 * s.A + nA) = (kNA : Int) := by rw [eNA]; exact IntWalk.i64_in _ (by omega)
          have wNB : IntKind.i64.wrap (8 * s.B + nB) = (kNB : Int) := by rw [eNB]; exact IntWalk.i64_in _ (by omega)
          obtain ⟨f, hf⟩ : ∃ f, f = joinAll (SCto p m) id := ⟨_, rfl⟩
          have hJ : Hid (joinAll (SCto p (m + 1)) id = joinF (joinF f kA kNB) kNA kB) := Lib.hid (by rw [hT.out, joinAll_two, hf])
          rw [← hf] at hO
          replace hf := Lib.hid hf
          have hlf := Lib.hid (fun f => labs_length k f)
          have hJ1 := Lib.hid (joinL_labs k f kA kNB)
          have hJ2 := Lib.hid (joinL_labs k (joinF f kA kNB) kNA kB)
          replace eNA := Lib.hid eNA
          replace eNB := Lib.hid eNB
          replace pnA := Lib.hid pnA
          replace pnB := Lib.hid pnB
          replace hnA := Lib.hid hnA
          replace hnB := Lib.hid hnB
          replace hsA := Lib.hid hsA
          replace hsB := Lib.hid hsB
          have hb5 := new_below wp (.cells #[.int .i64 s.A, .int .i64 s.EdgeA, .int .i64 s.B, .int .i64 s.EdgeB] 53)
          obtain ⟨w5, hw5⟩ : ∃ w5, w5 = wp.alloc (.cells #[.int .i64 s.A, .int .i64 s.EdgeA, .int .i64 s.B, .int .i64 s.EdgeB] 53) := ⟨_, rfl⟩
          rw [← hw5] at hb5
          have VS : Var w5 wp.heap.size [.int .i64 s.A, .int .i64 s.EdgeA, .int .i64 s.B, .int .i64 s.EdgeB] := by rw [hw5]; exact Var.new4 _ _ _ _ _ _
          have hO5 := Lib.hid (hO.out.later hb5)
          have hP5 := Lib.hid (hP.out.below hb5)
          replace hb := upw hb hb5
          have HW5 := Lib.hid hw5
          have hgl := (hO.out.lt g rfl).2
          clear hw5 hb5
          have a0 := rg (VS.cell 0 _ rfl)
          have a1 := rg (VS.cell 1 _ rfl)
          have a2 := rg (VS.cell 2 _ rfl)
          have a3 := rg (VS.cell 3 _ rfl)
          replace VS := Lib.hid VS
          go_wp2_with fail
          rw [← HW5.out]
          clear d0 d1 d2 d3 hbl c1
          refine wp_region_quiet_below (by kernel_rfl) (by kernel_rfl) ?_
          repeat (go_big_quiet_step ((go_at_call 109; exact Calls.regrown_same (NXA.out _ (hP5.out.below (grown_of ⟨⟨_, _⟩, rfl⟩))))))
          refine wpQuiet_nil ?_
          intro w2 hw'
          replace hb := upw hb (grown_of hw')
          have hw2 := grown_of hw'
          clear hw'
          have VS6 := Lib.hid (VS.out.below hw2)
          have hO6 := Lib.hid (hO5.out.later hw2)
          have hP6 := Lib.hid (hP5.out.below hw2)
          clear a0 a1 a2 a3 hw2
          have a0 := rg (VS6.out.cell 0 _ rfl)
          have a1 := rg (VS6.out.cell 1 _ rfl)
          have a2 := rg (VS6.out.cell 2 _ rfl)
          have a3 := rg (VS6.out.cell 3 _ rfl)
          go_wp2_with fail
          refine wp_region_quiet_below (by kernel_rfl) (by kernel_rfl) ?_
          repeat (go_big_quiet_step ((go_at_call 109; exact Calls.regrown_same (NXB.out _ (hP6.out.below (grown_of ⟨⟨_, _⟩, rfl⟩))))))
          refine wpQuiet_nil ?_
          intro w2 hw'
          replace hb := upw hb (grown_of hw')
          have hw2 := grown_of hw'
          clear hw'
          have hO7 := Lib.hid (hO6.out.later hw2)
          clear a0 a1 a2 a3 hw2 wA wB wNA wNB
          have x0 := hO7.out.at'.int (i := kA) (by rw [hlf.out]; exact lA)
          have x1 := hO7.out.at'.int (i := kNB) (by rw [hlf.out]; exact lNB)
          rw [labs_get, Nat.zero_add] at x0 x1
          replace x0 := rg x0
          replace x1 := rg x1
          go_wp2_with fail
          refine wp_region_tail_below 9 (by kernel_rfl) (by kernel_rfl) (by kernel_rfl) (by simp only [List.take_succ_cons, List.take_zero]; rfl) (by simp only [List.drop_succ_cons, List.drop_zero]; rfl) ?_
          repeat (go_big_quiet_step ((fail)))
          refine wpQuiet_nil ?_
          intro w2 hw'
          replace hb := upw hb (grown_of hw')
          have hw2 := grown_of hw'
          clear hw'
          have hO8 := Lib.hid (hO7.out.later hw2)
          clear x0 x1 hw2
          go_wp2_with (go_at_call 110; refine (l08Join_c w.heap.size g k k (labs k f) _ _ _ hO8.out (by rw [hlf.out]) (by omega)).mono ?_; rintro e w9 ⟨rfl, hO9, hg9⟩; refine Hid.out ?_)
          rw [hJ1.out] at hO9
          have hb9 := below_mark hb hO8.out (Nat.le_refl _) hg9
          replace hO9 := Lib.hid hO9
          clear hb hg9
          have hb := hb9
          clear hb9
          have x0 := hO9.out.at'.int (i := kNA) (by rw [hlf.out]; exact lNA)
          have x1 := hO9.out.at'.int (i := kB) (by rw [hlf.out]; exact lB)
          rw [labs_get, Nat.zero_add] at x0 x1
          replace x0 := rg x0
          replace x1 := rg x1
          refine Lib.hid ?_
          go_wp2_with fail
          refine wp_region_tail_below 9 (by kernel_rfl) (by kernel_rfl) (by kernel_rfl) (by simp only [List.take_succ_cons, List.take_zero]; rfl) (by simp only [List.drop_succ_cons, List.drop_zero]; rfl) ?_
          repeat (go_big_quiet_step ((fail)))
          refine wpQuiet_nil ?_
          intro w2 hw'
          replace hb := upw hb (grown_of hw')
          have hw2 := grown_of hw'
          clear hw'
          have hO10 := Lib.hid (hO9.out.later hw2)
          clear x0 x1 hw2
          go_wp2_with (go_at_call 110; refine (l08Join_c w.heap.size g k k (labs k (joinF f kA kNB)) _ _ _ hO10.out (by rw [hlf.out]) (by omega)).mono ?_; rintro e w11 ⟨rfl, hO11, hg11⟩)
          go_roundw
          case rel => exact ⟨m + 1, by omega, by go_num, Lib.hid (by rw [hJ.out, ← hJ2.out]; exact hO11), below_mark hb hO10.out (Nat.le_refl _) hg11⟩
          case measure => simp [intOf]; omega
        · obtain rfl : m = p.seams.length := by omega
          rw [SCto_all] at hO
          clear c0 hL
          obtain ⟨F, hF⟩ : ∃ F, F = joinAll (SC p) id := ⟨_, rfl⟩
          rw [← hF] at hO
          have hfin : Hid ((edgesOf p).countP (hitN F) = cornersOf p) := Lib.hid (by rw [hF]; exact hits_all p)
          replace hF := Lib.hid hF
          go_wp2_with fail
          clear c1
          have HO := hO
          clear hO
          go_loopw [11, 12, 13, 14] (fun q i _ _ wr => ∃ j : Nat, j ≤ p.pieces.length ∧ i = .int .i64 j ∧ q = .int .i64 ((edgesTo p j).countP (hitN F) : Nat) ∧ Hid (Own w.heap.size wr 2 (.slice (some ⟨g, 0, none⟩) k k) (labs k F)) ∧ Below w.heap.size w wr) (fun _ i _ _ _ => p.pieces.length - (intOf i).toNat)
          case atStart => exact ⟨0, Nat.zero_le _, rfl, by simp [edgesTo], HO, hb⟩
          case round =>
            clear HO hb hP
            obtain ⟨j, hj, rfl, rfl, hO, hb⟩ := hrel
            obtain ⟨wq, rfl⟩ : ∃ wq : World, wq = wr := ⟨_, rfl⟩
            have hP := Lib.hid (HP.out.below hb)
            obtain ⟨c0, c1, c2, hL⟩ := hP.out
            clear c1 c2
            by_cases hlt3 : j < p.pieces.length
            · have hne := Lib.hid (nE_get hlt3)
              have l3 := (ok.out.len _ (List.getElem_mem hlt3)).2
              have hEk := Lib.hid (HES.out j)
              obtain ⟨nm, hnm⟩ : ∃ nm, nm = p.pieces[j].edges.length := ⟨_, rfl⟩
              rw [← hnm] at l3 hne
              have HNM := Lib.hid hnm
              clear hnm
              have hLk := Lib.hid (hmax.out j (by omega))
              clear hL
              go_wp2_with fail
              clear c0
              go_loopw [11, 13, 14] (fun q i _ wr => ∃ u : Nat, u ≤ nm ∧ i = .int .i64 u ∧ q = .int .i64 ((edgesTo p j ++ rowE j u).countP (hitN F) : Nat) ∧ Hid (Own w.heap.size wr 2 (.slice (some ⟨g, 0, none⟩) k k) (labs k F)) ∧ Below w.heap.size w wr) (fun _ i _ _ => nm - (intOf i).toNat)
              case atStart => exact ⟨0, Nat.zero_le _, rfl, by simp [rowE], hO, hb⟩
              case round =>
                clear hO hb hP
                obtain ⟨u, hu, rfl, rfl, hO, hb⟩ := hrel
                have hP := Lib.hid (HP.out.below hb)
                obtain ⟨c0, c1, c2, hL⟩ := hP.out
                obtain ⟨bb, off, ea, ec, rfl, hbl, hV⟩ := hL.pieV hlt3
                have h1 := hV.c1
                rw [← HNM.out] at h1
                clear c1 c2 hL hV
                have hcl : (edgesTo p j ++ rowE j u).countP (hitN F) ≤ 100 := by
                  have a1 := List.countP_le_length (p := hitN F) (l := edgesTo p j ++ rowE j u)
                  rw [List.length_append] at a1
                  have a2 : (rowE j u).length = u := by simp [rowE]
                  have a3 := hLk.out
                  omega
                by_cases hlt4 : u < nm
                · have hcs : Hid ((edgesTo p j ++ rowE j (u + 1)).countP (hitN F) = (edgesTo p j ++ rowE j u).countP (hitN F) + if hitN F ⟨(j : Int), (u : Int)⟩ then 1 else 0) := Lib.hid (by rw [rowE_succ, ← List.append_assoc, countP_snoc])
                  obtain ⟨q, hq⟩ : ∃ q, q = (edgesTo p j ++ rowE j u).countP (hitN F) := ⟨_, rfl⟩
                  rw [← hq] at hcl hcs
                  rw [← hq]
                  replace hq := Lib.hid hq
                  have hcode : Hid (code ⟨(j : Int), (u : Int)⟩ = 8 * j + u) := Lib.hid (by simp [code])
                  obtain ⟨at', hat⟩ : ∃ a, a = 8 * j + u := ⟨_, rfl⟩
                  have hat2 : (8 : Int) * (j : Int) + (u : Int) = (at' : Int) := by omega
                  have hatk : at' < k := by have := HN.out; omega
                  have x0 := hO.out.at'.int (i := at') (by rw [labs_length]; exact hatk)
                  rw [labs_get, Nat.zero_add] at x0
                  have hhit : Hid (hitN F ⟨(j : Int), (u : Int)⟩ = (F at' == at')) := Lib.hid (by unfold hitN; rw [hcode.out, ← hat])
                  replace hat := Lib.hid hat
                  by_cases ht : F at' = at'
                  · have ht2 : (((F at' : Nat) : Int) == (at' : Int)) = true := by simp [ht]
                    have hcs1 : Hid ((edgesTo p j ++ rowE j (u + 1)).countP (hitN F) = q + 1) := Lib.hid (by rw [hcs.out, hhit.out]; simp [ht])
                    replace ht := Lib.hid ht
                    go_wp2_with fail
                    go_roundw
                    case rel => exact ⟨u + 1, by omega, by go_num, by rw [hcs1.out]; go_num, hO, hb⟩
                    case measure => simp [intOf]; omega
                  · have ht2 : (((F at' : Nat) : Int) == (at' : Int)) = false := by simp; omega
                    have hcs1 : Hid ((edgesTo p j ++ rowE j (u + 1)).countP (hitN F) = q) := Lib.hid (by rw [hcs.out, hhit.out]; simp [ht])
                    replace ht := Lib.hid ht
                    go_wp2_with fail
                    go_roundw
                    case rel => exact ⟨u + 1, by omega, by go_num, by rw [hcs1.out], hO, hb⟩
                    case measure => simp [intOf]; omega
                · obtain rfl : u = nm := by omega
                  have hrow : Hid (edgesTo p j ++ rowE j u = edgesTo p (j + 1)) := Lib.hid (by rw [hEk.out, hne.out])
                  rw [hrow.out]
                  go_wp2_with fail
                  go_roundw
                  case rel => exact ⟨j + 1, by omega, by go_num, rfl, hO, hb⟩
                  case measure => simp [intOf]; omega
            · obtain rfl : j = p.pieces.length := by omega
              have hfin2 : (edgesTo p p.pieces.length).countP (hitN F) = cornersOf p := hfin.out
              rw [hfin2]
              go_wp2_with fail
              go_ret
              exact ⟨rfl, hb⟩
end Go.Proofs.Ytigaimehlcgobaa
