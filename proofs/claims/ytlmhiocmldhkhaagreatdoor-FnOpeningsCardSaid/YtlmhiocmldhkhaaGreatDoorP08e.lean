/- Chapter 8, patterns: all edges, the edge behind one, as the program has them. -/
import Derived.Test.YtlmhiocmldhkhaaGreatDoorP08d
import Derived.Test.YtlmhiocmldhkhaaGreatDoorOpenMath
namespace Go.Proofs.YtlmhiocmldhkhaaGreatDoor
open Go.RowKit

instance : Flat Edge := ⟨2, by decide, fun e => [.int .i64 e.piece, .int .i64 e.number], fun _ => rfl, fun x u h => by simp at h; rcases h with h | h <;> subst h <;> rfl, fun _ => True⟩
theorem At.edge {w : World} {b off : Nat} {xs : List Edge} (h : At w (some ⟨b, off, none⟩) xs) {i : Nat} (hi : i < xs.length) :
    w.cell? ⟨b, off + i * 2, none⟩ = some (.int .i64 xs[i].piece) ∧ w.cell? ⟨b, off + i * 2 + 1, none⟩ = some (.int .i64 xs[i].number) := by
  obtain ⟨cs, hr, hc⟩ := h.elem hi
  have h0 := hc 0 (.int .i64 xs[i].piece) (by rw [hr]; rfl)
  have h1 := hc 1 (.int .i64 xs[i].number) (by rw [hr]; rfl)
  exact ⟨by simpa [Rep.k, Flat.k] using h0, by simpa [Rep.k, Flat.k] using h1⟩
theorem infoEdge : (Tryz.prog.info? 54).map (fun i => (i.zero, i.size, i.bytes)) = some (some (.agg #[.int .i64 0, .int .i64 0]), 2, 16) := by kernel_rfl
set_option maxRecDepth 100000 in
set_option maxHeartbeats 1600000 in
theorem edges_c (p : Pattern) (pa : Option Addr) (pc : Nat) (sa : Option Addr) (sc : Nat) (w : World) (hp : LieP w pa sa p) (ok : Okp p) :
    Calls Tryz.prog 41 #[.agg #[.slice pa p.pieces.length pc, .slice sa p.seams.length sc, .int .i64 p.openings]] w fun en w' => ∃ v, en = .returned v ∧ Own w.heap.size w' 54 v (edgesOf p) ∧ Below w.heap.size w w' := by
  have l1 := ok.n10
  obtain ⟨w1, hw1, hP, hs1, hb1⟩ := patW_new p pa pc sa sc w
  obtain ⟨w2, hw2⟩ : ∃ w2, w2 = w1.alloc (.cells #[] 54) := ⟨_, rfl⟩
  have hb2 : Below w1.heap.size w1 w2 := by rw [hw2]; exact new_below _ _
  have hO : Own (w.heap.size + 1) w2 54 (.slice (some ⟨w.heap.size + 1, 0, none⟩) 0 0) ([] : List Edge) := by
    rw [hw2, ← hs1]; exact own_new (α := Edge) w1 54
  have HW := Lib.hid (show (w.alloc (.cells #[.slice pa p.pieces.length pc, .slice sa p.seams.length sc, .int .i64 p.openings] 27)).alloc (.cells #[] 54) = w2 by rw [hw2, hw1])
  replace hP := hP.below hb2
  have hb : Below w.heap.size w w2 := upw hb1 hb2
  have hs := hb2.size
  rw [hs1] at hs
  have hz := Lib.hid hs1
  have c0 := hP.cell 0 _ rfl
  have HE := Lib.hid (edgesTo_succ p)
  have HL := Lib.hid (fun n h => edgesTo_length ok n h)
  clear hw1 hw2 hs1 hb1 hb2 hP
  replace ok := Lib.hid ok
  go_enter Tryz.func41, Tryz.ntmps41
  go_wp2_with fail
  rw [HW.out]
  clear c0
  go_loopw [3, 4, 5, 6, 11] (fun v _ _ _ i wr => ∃ k : Nat, k ≤ p.pieces.length ∧ i = .int .i64 k ∧ Own (w.heap.size + 1) wr 54 v (edgesTo p k) ∧ Below w.heap.size w wr) (fun _ _ _ _ i _ => p.pieces.length - (intOf i).toNat)
  case atStart => exact ⟨0, Nat.zero_le _, rfl, by simpa [edgesTo] using hO, hb⟩
  case round =>
    clear hO hb hs
    obtain ⟨k, hk, rfl, hO, hb⟩ := hrel
    obtain ⟨wo, rfl⟩ : ∃ wo : World, wo = wr := ⟨_, rfl⟩
    by_cases hlt : k < p.pieces.length
    · have hx := (hp.below hb).pieces
      obtain ⟨b, off, rfl⟩ := hx.addr hlt
      have hbl := hx.lt hlt
      obtain ⟨ea, ec, c0, c1, hA⟩ := hx.piece hlt
      have l3 := (ok.out.len _ (List.getElem_mem hlt)).2
      have hne := Lib.hid (nE_get hlt)
      have hEk := Lib.hid (HE.out k)
      have hLk := HL.out k (by omega)
      have hb3 := new_below wo (.cells #[.string p.pieces[k].name, .slice ea p.pieces[k].edges.length ec] 36)
      obtain ⟨w3, hw3⟩ : ∃ w3, w3 = wo.alloc (.cells #[.string p.pieces[k].name, .slice ea p.pieces[k].edges.length ec] 36) := ⟨_, rfl⟩
      rw [← hw3] at hb3
      have hO3 := hO.later hb3
      have hsz := hb.size
      replace hb := upw hb hb3
      have HW3 := Lib.hid hw3
      clear hw3 hA hO hx
      go_wp2_with fail
      rw [← HW3.out]
      obtain ⟨nm, hnm⟩ : ∃ nm, nm = p.pieces[k].edges.length := ⟨_, rfl⟩
      rw [← hnm] at l3 hne ⊢
      replace hnm := Lib.hid hnm
      go_loopw [3, 6, 19] (fun v _ i wr => ∃ m : Nat, m ≤ nm ∧ i = .int .i64 m ∧ Own (w.heap.size + 1) wr 54 v (edgesTo p k ++ rowE k m) ∧ Below w.heap.size w wr) (fun _ _ i _ => nm - (intOf i).toNat)
      case atStart => exact ⟨0, Nat.zero_le _, rfl, by simpa [rowE] using hO3, hb⟩
      case round =>
        clear hO3 hb hb3 c0 c1
        obtain ⟨m, hm, rfl, hO, hb⟩ := hrel
        have hz2 := hb.size
        by_cases hlt2 : m < nm
        · have E := Lib.hid (show edgesTo p k ++ rowE k (m + 1) = (edgesTo p k ++ rowE k m) ++ [⟨(k : Int), (m : Int)⟩] by rw [rowE_succ, List.append_assoc])
          have hlen : Hid ((edgesTo p k ++ rowE k m).length ≤ 100) := Lib.hid (by rw [List.length_append]; have : (rowE k m).length = m := by simp [rowE]
                                                                                  omega)
          go_wp2_with (at_builtin; refine wpList_push rfl (.tmp 22) (.tmp 26) 51 rfl (w.heap.size + 1) 54 (.agg #[.int .i64 0, .int .i64 0]) 16 Tryz.underlying51 infoEdge rfl _ _ (⟨(k : Int), (m : Int)⟩ : Edge) rfl (hO.later (new_below _ _)) _ _ rfl 54 (heap_alloc_new _ _) (by have := hlen.out; omega) (by decide) (by simp; omega) ?_; intro v1 w7 hO1 hg1)
          go_roundw
          case rel => exact ⟨m + 1, by omega, by go_num, by rw [E.out]; exact hO1, below_mark (hb.alloc hb.size _) (hO.later (new_below _ _)) (Nat.le_succ _) hg1⟩
          case measure => simp [intOf]; omega
        · obtain rfl : m = nm := by omega
          go_wp2_with fail
          go_roundw
          case rel => exact ⟨k + 1, by omega, by go_num, by rw [hEk.out, hne.out]; exact hO, hb⟩
          case measure => simp [intOf]; omega
    · obtain rfl : k = p.pieces.length := by omega
      go_wp2_with fail
      go_ret
      exact ⟨_, rfl, hO.base (Nat.le_succ _), hb⟩
set_option maxRecDepth 100000 in
set_option maxHeartbeats 800000 in
theorem nextEdge_c (p : Pattern) (pa : Option Addr) (pc : Nat) (sa : Option Addr) (sc : Nat) (e : Edge) (w : World) (hp : LieP w pa sa p) (ok : Okp p) (he : hasEdge p e = true) :
    Calls Tryz.prog 44 #[.agg #[.slice pa p.pieces.length pc, .slice sa p.seams.length sc, .int .i64 p.openings], .agg #[.int .i64 e.piece, .int .i64 e.number]] w fun en w' => en = .returned (.agg #[.int .i64 (nextE p e).piece, .int .i64 (nextE p e).number]) ∧ Below w.heap.size w w' := by
  have l1 := ok.n10
  obtain ⟨i, j, rfl, hi, hj⟩ := hasEdge_get he
  have l3 := (ok.len _ (List.getElem_mem hi))
  have hn : nextE p ⟨i, j⟩ = ⟨i, ((j : Int) + 1) % ((p.pieces[i]).edges.length : Int)⟩ := by simp only [nextE, nEdges_get hi]
  rw [hn]
  simp only
  obtain ⟨wA, hwA, hP, hs1, hb1⟩ := patV_new p pa pc sa sc w hp
  obtain ⟨wB, hwB⟩ : ∃ wB, wB = wA.alloc (.cells #[.int .i64 (i : Int), .int .i64 (j : Int)] 54) := ⟨_, rfl⟩
  obtain ⟨wC, hwC⟩ : ∃ wC, wC = wB.alloc (.cells #[.int .i64 0, .int .i64 0] 54) := ⟨_, rfl⟩
  have hb2 : Below wA.heap.size wA wB := by rw [hwB]; exact new_below _ _
  have hb3 : Below wB.heap.size wB wC := by rw [hwC]; exact new_below _ _
  have hs2 : wB.heap.size = w.heap.size + 1 + 1 := by rw [hwB]; simp [hs1]
  have V : Var wC (w.heap.size + 1) [.int .i64 (i : Int), .int .i64 (j : Int)] := Var.below (by rw [hwB, ← hs1]; exact Var.new2 _ _ _ _) hb3
  have U : Var wC (w.heap.size + 1 + 1) [.int .i64 0, .int .i64 0] := by rw [hwC, ← hs2]; exact Var.new2 _ _ _ _
  replace hP := (hP.below hb2).below hb3
  have hb : Below w.heap.size w wC := upw (upw hb1 hb2) hb3
  have d0 := rg (V.cell 0 _ rfl)
  have d1 := rg (V.cell 1 _ rfl)
  have c0 := rg hP.c0
  obtain ⟨b, off, ea, ec, rfl, hbl, hV⟩ := hP.lie.pieV hi
  have h1 := rg hV.c1
  obtain ⟨n, hnn⟩ : ∃ n, n = (p.pieces[i]).edges.length := ⟨_, rfl⟩
  rw [← hnn] at l3 hj h1 ⊢
  replace hnn := Lib.hid hnn
  have hr1 : 0 ≤ ((j : Int) + 1) % (n : Int) := Int.emod_nonneg _ (by omega)
  have hr2 : ((j : Int) + 1) % (n : Int) < n := Int.emod_lt_of_pos _ (by omega)
  have hrem : Int.tmod ((j : Int) + 1) (n : Int) = ((j : Int) + 1) % (n : Int) := Int.tmod_eq_emod_of_nonneg (by omega)
  have HW := Lib.hid (show ((w.alloc (.cells #[.slice (some ⟨b, off, none⟩) p.pieces.length pc, .slice sa p.seams.length sc, .int .i64 p.openings] 27)).alloc (.cells #[.int .i64 (i : Int), .int .i64 (j : Int)] 54)).alloc (.cells #[.int .i64 0, .int .i64 0] 54) = wC by rw [hwC, hwB, hwA])
  clear hwA hwB hwC V hb1 hb2 hb3 hs1 hs2 ok he hp hP hn
  replace hrem := Lib.hid hrem
  go_enter Tryz.func44, Tryz.ntmps44
  go_wp2_with fail
  rw [HW.out]
  refine wp_region_tail_below 15 (by kernel_rfl) (by kernel_rfl) (by kernel_rfl) (by simp only [List.take_succ_cons, List.take_zero]; rfl) (by simp only [List.drop_succ_cons, List.drop_zero]; rfl) ?_
  repeat (go_big_quiet_step ((fail)))
  refine wpQuiet_nil ?_
  intro w2 hw'
  replace hb := upw hb (grown_of hw')
  have hw2 := grown_of hw'
  clear hw'
  replace U := U.below hw2
  have e0 := U.cell 0 _ rfl
  have e1 := U.cell 1 _ rfl
  have f0 := U.free 0 _ rfl
  have f1 := U.free 1 _ rfl
  go_wp2_with fail
  refine bodyPost_ret (v := .agg #[.int .i64 (i : Int), .int .i64 (((j : Int) + 1) % (n : Int))]) (by simp [results, Tryz.results44, go_sem, e0, e1]) rfl ⟨rfl, (hb.setCell (p := ⟨w.heap.size + 1 + 1, 0, none⟩) (show w.heap.size ≤ w.heap.size + 1 + 1 by omega) _).setCell (p := ⟨w.heap.size + 1 + 1, 1, none⟩) (show w.heap.size ≤ w.heap.size + 1 + 1 by omega) _⟩
end Go.Proofs.YtlmhiocmldhkhaaGreatDoor
