/- Chapter 8, patterns: the program's and the reference's open edges, and the open edge that follows. -/
import Derived.Test.YtlmhiocmldhkhaaGreatDoorP08g
import Derived.Test.YtlmhiocmldhkhaaGreatDoorLists
namespace Go.Proofs.YtlmhiocmldhkhaaGreatDoor
open Go.RowKit

theorem edges_pos {p : Pattern} (ok : Okp p) : 0 < (edgesOf p).length := by
  have h0 : 0 < p.pieces.length := by have := ok.n1; omega
  have := (ok.len _ (List.getElem_mem h0)).1
  have hm := mem_edges.2 (hasEdge_of (p := p) (i := 0) (j := 0) h0 (by omega))
  exact List.length_pos_of_mem hm
set_option maxRecDepth 100000 in
set_option maxHeartbeats 1600000 in
theorem openEdges_c (p : Pattern) (pa : Option Addr) (pc : Nat) (sa : Option Addr) (sc : Nat) (w : World) (hp : LieP w pa sa p) (hl : totPattern p ≤ 1048576) (ok : Okp p) :
    Calls Tryz.prog 18 #[.agg #[.slice pa p.pieces.length pc, .slice sa p.seams.length sc, .int .i64 p.openings]] w fun en w' => ∃ g n c, en = .returned (.slice (some ⟨g, 0, none⟩) n c) ∧ n = (openOf p).length ∧ w.heap.size ≤ g ∧ g < w'.heap.size ∧ At w' (some ⟨g, 0, none⟩) (openOf p) ∧ Below w.heap.size w w' := by
  obtain ⟨w1, hw1, V, hs1, hb⟩ := patW_new p pa pc sa sc w
  have c0 := V.cell 0 _ rfl
  have c1 := V.cell 1 _ rfl
  have c2 := V.cell 2 _ rfl
  have hf : (openOf p) = (edgesOf p).filter fun x => !(fun e => !isOpen p e) x := by unfold openOf; simp
  have HFi := Lib.hid hf
  have hel := Lib.hid (edges_length ok)
  have hep := Lib.hid (edges_pos ok)
  clear hf
  replace hw1 := Lib.hid hw1
  replace hs1 := Lib.hid hs1
  go_enter Tryz.func18, Tryz.ntmps18
  go_wp2_with fail
  rw [hw1.out]
  refine (joined_ok p _ _ _ _ _ (hp.below hb) hl ok).mono ?_
  rintro e w2 ⟨r, rfl, hr, hM, hb2⟩
  clear c0 c1 c2
  have V2 := V.below hb2
  have hlt2 : w.heap.size < w2.heap.size := by have := hb2.size; rw [hs1.out] at this; omega
  obtain ⟨w3, hw3⟩ : ∃ w3, w3 = w2.alloc (.cells #[.map (some r)] 78) := ⟨_, rfl⟩
  have hb3 : Below w2.heap.size w2 w3 := by rw [hw3]; exact new_below _ _
  have U : Var w3 w2.heap.size [.map (some r)] := by rw [hw3]; exact Var.new1 _ _ _
  have hs3 : w3.heap.size = w2.heap.size + 1 := by rw [hw3]; simp
  have hM3 := hM.below hb3
  have hrl := hM.lt
  replace V := (V.below hb2).below hb3
  have hb0 := Lib.hid hb
  replace hb := upw (upw hb hb2) hb3
  replace hw3 := Lib.hid hw3
  have c0 := V2.cell 0 _ rfl
  have c1 := V2.cell 1 _ rfl
  have c2 := V2.cell 2 _ rfl
  go_wp2_with fail
  rw [← hw3.out]
  refine (edges_c p _ _ _ _ _ (hp.below hb) ok).mono ?_
  rintro e w4 ⟨v, rfl, hO, hb4⟩
  obtain ⟨g, cap, rfl⟩ := hO.row hep.out
  have hgB := (hO.lt g rfl).1
  have hgL := (hO.lt g rfl).2
  have hbb := Lib.hid (upw hb hb4)
  have hM4 := hM3.below hb4
  have U4 := (U.below hb4).cell 0 _ rfl
  clear c0 c1 c2
  have hr1 : some r ≠ some g := some_ne (by omega)
  have hr2 : some w2.heap.size ≠ some g := some_ne (by omega)
  have hD := deleteEdges_any w3.heap.size g (edgesOf p).length cap (edgesOf p) 42 #[.pointer (some ⟨w2.heap.size, 0, none⟩)] (fun e => !isOpen p e) w4 openEdges1_enters hO rfl (by have := hel.out; omega)
    (fun x hx w' hg => openEdges1_c p r w2.heap.size x w' (hM4.grown hg hr1) (hg.cell (a := ⟨w2.heap.size, 0, none⟩) U4 hr2))
  replace hD := Lib.hid hD
  have hsz := hb.size
  clear U4 hr1 hr2
  go_wp2_with fail
  refine hD.out.mono ?_
  rintro e w5 ⟨m, rfl, hm, hA, hg⟩
  replace hm := Lib.hid hm
  go_wp2_with fail
  go_ret
  exact ⟨_, _, _, rfl, by rw [hm.out, HFi.out], by omega, by have := hg.size; omega, by rw [HFi.out]; exact hA, hbb.out.grown hg (by have := hbb.out.size; exact this) (fun k hk => by cases hk; omega)⟩
set_option maxRecDepth 100000 in
set_option maxHeartbeats 800000 in
theorem l08Next_c (p : Pattern) (b : Nat) (pa : Option Addr) (pc : Nat) (sa : Option Addr) (sc : Nat) (e : Edge) (w : World) (hP : PatV w b pa pc sa sc p) (ok : Okp p) (he : hasEdge p e = true) :
    Calls Tryz.prog 82 #[.pointer (some ⟨b, 0, none⟩), .int .i64 e.piece, .int .i64 e.number] w fun en w' => en = .returned (.int .i64 (nextE p e).number) ∧ w = w' := by
  have l1 := ok.n10
  obtain ⟨i, j, rfl, hi, hj⟩ := hasEdge_get he
  have l3 := (ok.len _ (List.getElem_mem hi))
  have hn : (nextE p ⟨i, j⟩).number = ((j : Int) + 1) % ((p.pieces[i]).edges.length : Int) := by simp only [nextE, nEdges_get hi]
  rw [hn]
  simp only
  have c0 := hP.c0
  obtain ⟨bb, off, ea, ec, rfl, hbl, hV⟩ := hP.lie.pieV hi
  have h1 := hV.c1
  obtain ⟨n, hnn⟩ : ∃ n, n = (p.pieces[i]).edges.length := ⟨_, rfl⟩
  rw [← hnn] at l3 hj h1 ⊢
  replace hnn := Lib.hid hnn
  have hr1 : 0 ≤ ((j : Int) + 1) % (n : Int) := Int.emod_nonneg _ (by omega)
  have hr2 : ((j : Int) + 1) % (n : Int) < n := Int.emod_lt_of_pos _ (by omega)
  clear hn he ok hP hV
  go_enter Tryz.func82, Tryz.ntmps82
  go_wp2_with fail
  go_ret
  exact ⟨rfl, rfl⟩
theorem mate_of {p : Pattern} (ok : Okp p) {k : Nat} (h : k < p.seams.length) : mate p (endA p.seams[k]) = some (endB p.seams[k]) ∧ mate p (endB p.seams[k]) = some (endA p.seams[k]) := by
  have hm : ∀ x, x ∈ [(endA p.seams[k], endB p.seams[k]), (endB p.seams[k], endA p.seams[k])] → x ∈ PP8 p := fun x hx => List.mem_flatMap.2 ⟨_, List.getElem_mem h, hx⟩
  exact ⟨lookE_of (by unfold PP8; rw [pairs_keys]; exact ok.once) (hm _ (by simp)), lookE_of (by unfold PP8; rw [pairs_keys]; exact ok.once) (hm _ (by simp))⟩
set_option maxRecDepth 100000 in
set_option maxHeartbeats 1600000 in
theorem l08Mate_c (p : Pattern) (b : Nat) (pa : Option Addr) (pc : Nat) (sa : Option Addr) (sc : Nat) (e m : Edge) (w : World) (hP : PatV w b pa pc sa sc p) (hl : totPattern p ≤ 1048576) (ok : Okp p) (hm : mate p e = some m) :
    Calls Tryz.prog 83 #[.pointer (some ⟨b, 0, none⟩), .int .i64 e.piece, .int .i64 e.number] w fun en w' => en = .returned (.tuple #[.int .i64 m.piece, .int .i64 m.number]) ∧ Below w.heap.size w w' := by
  have l2 := (tot_okp hl).2
  have hin : e ∈ ends p.seams := by
    apply Classical.byContradiction
    intro h
    rw [mate_none.2 h] at hm; cases hm
  have hno : ∀ k, k ≤ p.seams.length → (∀ j (h : j < p.seams.length), j < k → endA p.seams[j] ≠ e ∧ endB p.seams[j] ≠ e) → k < p.seams.length := fun k hk h => by
    apply Classical.byContradiction
    intro hge
    simp only [ends, List.mem_flatMap] at hin
    obtain ⟨s, hs, he⟩ := hin
    obtain ⟨j, hj, rfl⟩ := List.mem_iff_getElem.1 hs
    have := h j hj (by omega)
    simp only [List.mem_cons, List.not_mem_nil, or_false] at he
    rcases he with he | he
    · exact this.1 he.symm
    · exact this.2 he.symm
  replace hno := Lib.hid hno
  clear hin
  replace ok := Lib.hid ok
  replace hm := Lib.hid hm
  obtain ⟨ep, eN⟩ := e
  simp only
  go_enter Tryz.func83, Tryz.ntmps83
  go_wp2_with fail
  go_loopw [8, 9] (fun i _ wr => ∃ k : Nat, k ≤ p.seams.length ∧ i = .int .i64 k ∧ Hid (∀ j (h : j < p.seams.length), j < k → endA p.seams[j] ≠ ⟨ep, eN⟩ ∧ endB p.seams[j] ≠ ⟨ep, eN⟩) ∧ Below w.heap.size w wr) (fun i _ _ => p.seams.length - (intOf i).toNat)
  case atStart => exact ⟨0, Nat.zero_le _, rfl, Lib.hid (fun j _ h => absurd h (Nat.not_lt_zero _)), Below.refl _ _⟩
  case round =>
    obtain ⟨k, hk, rfl, hs, hb⟩ := hrel
    obtain ⟨c0, c1, c2, hL⟩ := hP.below hb
    have hx := hL.seams
    clear c0 c2
    have hlt := hno.out k hk hs.out
    obtain ⟨bb, off, rfl⟩ := hx.addr hlt
    have hbl := hx.lt hlt
    obtain ⟨d0, d1, d2, d3⟩ := hx.seam hlt
    have M := Lib.hid (mate_of ok.out hlt)
    have hb3 := new_below wr (.cells #[.int .i64 p.seams[k].A, .int .i64 p.seams[k].EdgeA, .int .i64 p.seams[k].B, .int .i64 p.seams[k].EdgeB] 46)
    clear hL hx
    by_cases hA : p.seams[k].A = ep ∧ p.seams[k].EdgeA = eN
    · obtain ⟨a1, a2⟩ := hA
      have hr : Hid (m = endB p.seams[k]) := Lib.hid (by
        have h1 := M.out.1
        have e1 : endA p.seams[k] = ⟨ep, eN⟩ := by simp [endA, a1, a2]
        rw [e1, hm.out] at h1
        exact Option.some.inj h1)
      obtain ⟨s, hse⟩ : ∃ s, s = p.seams[k] := ⟨_, rfl⟩
      rw [← hse] at d0 d1 d2 d3 a1 a2 hb3 hr
      replace hse := Lib.hid hse
      have t1 : (s.A == ep) = true := by simpa using a1
      have t2 : (s.EdgeA == eN) = true := by simpa using a2
      clear a1 a2
      have V := Var.new4 wr (.int .i64 s.A) (.int .i64 s.EdgeA) (.int .i64 s.B) (.int .i64 s.EdgeB) 46
      have e2 := rg (V.cell 2 _ rfl)
      have e3 := rg (V.cell 3 _ rfl)
      replace hb := upw hb hb3
      clear V
      go_wp2_with fail
      refine wp_region_quiet_below (by kernel_rfl) (by kernel_rfl) ?_
      repeat (go_big_quiet_step ((fail)))
      refine wpQuiet_nil ?_
      intro w2 hw'
      replace hb := upw hb (grown_of hw')
      clear hw'
      go_wp2_with fail
      go_ret2
      exact ⟨by rw [hr.out]; rfl, hb⟩
    · by_cases hB : p.seams[k].B = ep ∧ p.seams[k].EdgeB = eN
      · obtain ⟨b1, b2⟩ := hB
        have hr : Hid (m = endA p.seams[k]) := Lib.hid (by
          have h1 := M.out.2
          have e1 : endB p.seams[k] = ⟨ep, eN⟩ := by simp [endB, b1, b2]
          rw [e1, hm.out] at h1
          exact Option.some.inj h1)
        obtain ⟨s, hse⟩ : ∃ s, s = p.seams[k] := ⟨_, rfl⟩
        rw [← hse] at d0 d1 d2 d3 b1 b2 hA hb3 hr
        replace hse := Lib.hid hse
        have u1 : (s.B == ep) = true := by simpa using b1
        have u2 : (s.EdgeB == eN) = true := by simpa using b2
        clear b1 b2
        have V := Var.new4 wr (.int .i64 s.A) (.int .i64 s.EdgeA) (.int .i64 s.B) (.int .i64 s.EdgeB) 46
        have e0 := rg (V.cell 0 _ rfl)
        have e1 := rg (V.cell 1 _ rfl)
        replace hb := upw hb hb3
        clear V
        cases t1 : s.A == ep
        · clear hA
          go_wp2_with fail
          refine wp_region_quiet_below (by kernel_rfl) (by kernel_rfl) ?_
          repeat (go_big_quiet_step ((fail)))
          refine wpQuiet_nil ?_
          intro w2 hw'
          replace hb := upw hb (grown_of hw')
          clear hw'
          go_wp2_with fail
          go_ret2
          exact ⟨by rw [hr.out]; rfl, hb⟩
        · have t2 : (s.EdgeA == eN) = false := by
            have a1 : s.A = ep := by simpa using t1
            simpa using fun h => hA ⟨a1, h⟩
          clear hA
          go_wp2_with fail
          refine wp_region_quiet_below (by kernel_rfl) (by kernel_rfl) ?_
          repeat (go_big_quiet_step ((fail)))
          refine wpQuiet_nil ?_
          intro w2 hw'
          replace hb := upw hb (grown_of hw')
          clear hw'
          go_wp2_with fail
          go_ret2
          exact ⟨by rw [hr.out]; rfl, hb⟩
      · have hs2 : Hid (∀ j (h : j < p.seams.length), j < k + 1 → endA p.seams[j] ≠ ⟨ep, eN⟩ ∧ endB p.seams[j] ≠ ⟨ep, eN⟩) := Lib.hid (fun j h hj => by
          rcases Nat.lt_succ_iff_lt_or_eq.1 hj with h1 | h1
          · exact hs.out j h h1
          · subst h1
            exact ⟨fun e => hA (by simpa [endA] using e), fun e => hB (by simpa [endB] using e)⟩)
        obtain ⟨s, hse⟩ : ∃ s, s = p.seams[k] := ⟨_, rfl⟩
        rw [← hse] at d0 d1 d2 d3 hA hB hb3
        replace hse := Lib.hid hse
        replace hb := upw hb hb3
        have hA' : (s.A == ep) = true → (s.EdgeA == eN) = false := fun h => by
          have a1 : s.A = ep := by simpa using h
          simpa using fun h => hA ⟨a1, h⟩
        have hB' : (s.B == ep) = true → (s.EdgeB == eN) = false := fun h => by
          have a1 : s.B = ep := by simpa using h
          simpa using fun h => hB ⟨a1, h⟩
        clear hA hB
        cases t1 : s.A == ep <;> cases u1 : s.B == ep
        all_goals
          first
          | have t2 := hA' t1
          | skip
          first
          | have u2 := hB' u1
          | skip
          clear hA' hB'
          go_wp2_with fail
          go_roundw
          case rel => exact ⟨k + 1, by omega, by go_num, hs2, hb⟩
          case measure => simp [intOf]; omega
set_option maxRecDepth 100000 in
set_option maxHeartbeats 1600000 in
theorem l08Follow_c (p : Pattern) (b : Nat) (pa : Option Addr) (pc : Nat) (sa : Option Addr) (sc : Nat) (e : Edge) (w : World) (hP : PatV w b pa pc sa sc p) (hl : totPattern p ≤ 1048576) (ok : Okp p) (he : e ∈ openOf p) :
    Calls Tryz.prog 65 #[.pointer (some ⟨b, 0, none⟩), .int .i64 e.piece, .int .i64 e.number] w fun en w' => en = .returned (.tuple #[.int .i64 (follow p e).piece, .int .i64 (follow p e).number]) ∧ Below w.heap.size w w' := by
  have hh := (mem_open.1 he).1
  have hN := Lib.hid (nears_first ok he)
  have h1 := next_has hh
  have hnp : (nextE p e).piece = e.piece := rfl
  replace ok := Lib.hid ok
  replace he := Lib.hid he
  have HP := Lib.hid hP
  have hn0 := Lib.hid (l08Next_c p b pa pc sa sc e w hP ok.out hh)
  obtain ⟨x0, hx0⟩ : ∃ x, x = nextE p e := ⟨_, rfl⟩
  rw [← hx0] at hN h1 hnp hn0
  replace hx0 := Lib.hid hx0
  replace hh := Lib.hid hh
  replace h1 := Lib.hid h1
  rw [← hnp]
  rw [← hnp] at hn0
  clear hP
  replace hnp := Lib.hid hnp
  go_enter Tryz.func65, Tryz.ntmps65
  go_wp2_with fail
  refine hn0.out.mono ?_
  rintro e' w' ⟨rfl, rfl⟩
  go_wp2_with fail
  go_loopw [1, 2] (fun i j wr => ∃ x : Edge, i = .int .i64 x.piece ∧ j = .int .i64 x.number ∧ Hid (Nears p x (follow p e)) ∧ Hid (hasEdge p x = true) ∧ Below w.heap.size w wr) (fun i j _ => hops p (edgesOf p).length ⟨intOf i, intOf j⟩)
  case atStart => exact ⟨x0, rfl, rfl, hN, h1, Below.refl _ _⟩
  case round =>
    obtain ⟨x, rfl, rfl, hx, hxe, hb⟩ := hrel
    have hP := Lib.hid (HP.out.below hb)
    have hT := Lib.hid (l08Times_c p b pa pc sa sc x wr hP.out hl)
    cases hm : mate p x with
    | none =>
      have e1 : times p.seams x = 0 := open_times.1 (by simp [isOpen, hm])
      rw [e1] at hT
      have hr : Hid (x = follow p e) := Lib.hid (hx.out.done hm)
      replace hm := Lib.hid hm
      replace e1 := Lib.hid e1
      go_wp2_with fail
      refine hT.out.mono ?_
      rintro e' w2 ⟨rfl, hb2⟩
      replace hb := upw hb hb2
      go_wp2_with fail
      go_ret2
      exact ⟨by rw [← hr.out]; rfl, hb⟩
    | some m =>
      have e1 : 0 < times p.seams x := by
        rw [times_pos]
        apply Classical.byContradiction
        intro h
        rw [mate_none.2 h] at hm; cases hm
      obtain ⟨t, ht⟩ : ∃ t, t = times p.seams x := ⟨_, rfl⟩
      rw [← ht] at e1 hT
      replace ht := Lib.hid ht
      have hst := Lib.hid (hx.out.step hm)
      have hmh := Lib.hid (mate_has ok.out hm)
      have hnx := Lib.hid (next_has hmh.out)
      have hmp : (nextE p m).piece = m.piece := rfl
      have HM := Lib.hid hm
      clear hm
      obtain ⟨y, hy⟩ : ∃ y, y = nextE p m := ⟨_, rfl⟩
      go_wp2_with fail
      refine hT.out.mono ?_
      rintro e' w2 ⟨rfl, hb2⟩
      replace hb := upw hb hb2
      have hP2 := Lib.hid (hP.out.below hb2)
      go_wp2_with fail
      refine (l08Mate_c p b pa pc sa sc x m _ hP2.out hl ok.out HM.out).mono ?_
      rintro e' w3 ⟨rfl, hb3⟩
      replace hb := upw hb hb3
      have hn3 := Lib.hid (l08Next_c p b pa pc sa sc m _ (hP2.out.below hb3) ok.out hmh.out)
      rw [← hy] at hst hnx hmp hn3
      replace hy := Lib.hid hy
      go_wp2_with fail
      refine hn3.out.mono ?_
      rintro e' w' ⟨rfl, rfl⟩
      rw [← hmp]
      replace hmp := Lib.hid hmp
      go_wp2_with fail
      go_roundw
      case rel => exact ⟨y, rfl, rfl, Lib.hid hst.out.1, hnx, hb⟩
      case measure => have := hst.out.2; simpa [intOf] using this
end Go.Proofs.YtlmhiocmldhkhaaGreatDoor
