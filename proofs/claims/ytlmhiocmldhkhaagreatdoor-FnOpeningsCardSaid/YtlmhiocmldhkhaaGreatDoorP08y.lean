/- Chapter 8, patterns: the reference's validity. -/
import Derived.Test.YtlmhiocmldhkhaaGreatDoorP08w
namespace Go.Proofs.YtlmhiocmldhkhaaGreatDoor
open Go.RowKit

theorem okPiece_edge {x : Piece} {k : Nat} (hk : k < x.edges.length) (h : inr x.edges[k] 1 10000 = false) : okPiece x = false := by
  have : outs x.edges 1 10000 = true := List.any_eq_true.2 ⟨_, List.getElem_mem hk, by simp [h]⟩
  simp [okPiece, this]
theorem okPiece_all {x : Piece} (h : Nosofar (fun n => !inr n 1 10000) x.edges x.edges.length) : okPiece x = (isName x.name && inr x.edges.length 3 8) := by
  have : outs x.edges 1 10000 = false := nosofar_any h (Nat.le_refl _)
  simp [okPiece, this]
set_option maxHeartbeats 800000 in
theorem l08One_c (x : Piece) (b o : Nat) (ea : Option Addr) (ec : Nat) (w : World) (hV : PieV w b o ea ec x) (hn : x.name.size ≤ 9223372036854775807) (hl : x.edges.length ≤ 9223372036854775807) :
    Calls Tryz.prog 57 #[.pointer (some ⟨b, o, none⟩)] w fun e w' => e = .returned (.bool (okPiece x)) ∧ w = w' := by
  obtain ⟨c0, c1, hA⟩ := hV
  go_enter Tryz.func57, Tryz.ntmps57
  go_wp2
  go_loop [3] (fun i => ∃ k : Nat, k ≤ x.edges.length ∧ i = .int .i64 k ∧ Nosofar (fun n => !inr n 1 10000) x.edges k) (fun i => x.edges.length - (intOf i).toNat)
  case atStart => exact ⟨0, Nat.zero_le _, rfl, nosofar_zero⟩
  case round =>
    obtain ⟨k, hk, rfl, hS⟩ := hrel
    replace hS := Lib.hid hS
    by_cases hlt : k < x.edges.length
    · obtain ⟨b', off', rfl⟩ := hA.addr hlt
      have c2 := hA.int hlt
      cases h1 : inr x.edges[k] 1 10000
      · have e := Lib.hid (okPiece_edge hlt h1)
        go_wp2_with fail
        refine (as_bool h1 (l00In_c _ _ _ _)).mono ?_
        rintro e w' ⟨rfl, rfl⟩
        go_wp2_with fail
        go_ret
        exact ⟨ret_bool e.out.symm, rfl⟩
      · have HS := Lib.hid (nosofar_succ (hk := hlt) hS.out (by simp [h1]))
        go_wp2_with fail
        refine (as_bool h1 (l00In_c _ _ _ _)).mono ?_
        rintro e w' ⟨rfl, rfl⟩
        go_wp2_with fail
        go_round
        case rel => exact ⟨k + 1, by omega, by go_num, HS.out⟩
        case measure => simp [intOf]; omega
    · obtain rfl : k = x.edges.length := by omega
      have e := Lib.hid (okPiece_all hS.out)
      cases h1 : isName x.name
      all_goals
        go_wp2_with (first | (go_at_call 79; refine (as_bool h1 (specIsName_c _ _ hn)).mono ?_; rintro e w' ⟨rfl, rfl⟩) | (go_at_call 58; refine (l00In_c _ _ _ _).mono ?_; rintro e w' ⟨rfl, rfl⟩))
        go_ret
        exact ⟨ret_bool (by rw [e.out, h1]; simp), rfl⟩
set_option maxHeartbeats 800000 in
theorem l08Edge_c (p : Pattern) (b : Nat) (pa : Option Addr) (pc : Nat) (sa : Option Addr) (sc : Nat) (i j : Int) (w : World) (hP : PatV w b pa pc sa sc p) (hl : totPattern p ≤ 1048576) :
    Calls Tryz.prog 80 #[.pointer (some ⟨b, 0, none⟩), .int .i64 i, .int .i64 j] w fun e w' => e = .returned (.bool (hasEdge p ⟨i, j⟩)) ∧ w = w' := by
  have l1 : p.pieces.length ≤ 1048576 := by unfold totPattern totPieces at hl; omega
  obtain ⟨c0, c1, c2, hL⟩ := hP
  clear c1 c2
  cases h1 : inr i 0 ((p.pieces.length : Int) - 1)
  · have hr : hasEdge p ⟨i, j⟩ = false := by simp [hasEdge, h1]
    rw [hr]
    replace hr := Lib.hid hr
    go_enter Tryz.func80, Tryz.ntmps80
    go_wp2_with fail
    refine (as_bool h1 (l00In_c _ _ _ _)).mono ?_
    rintro e w' ⟨rfl, rfl⟩
    go_wp2_with fail
    go_ret
    exact ⟨rfl, rfl⟩
  · have h1' := inr_true.1 h1
    obtain ⟨i, rfl⟩ := Int.eq_ofNat_of_zero_le h1'.1
    have hilt : i < p.pieces.length := by omega
    obtain ⟨bb, off, ea, ec, rfl, hbl, d0, d1, hA⟩ := hL.pieV hilt
    have l2 : p.pieces[i].edges.length ≤ 1048576 := by
      have := sumN_mem totPiece p.pieces i hilt
      unfold totPattern totPieces at hl; unfold totPiece at *; omega
    have hr : hasEdge p ⟨(i : Int), j⟩ = inr j 0 ((p.pieces[i].edges.length : Int) - 1) := by
      have hn : nEdges p i = (p.pieces[i].edges.length : Int) := nEdges_get hilt
      simp [hasEdge, h1, hn]
    rw [hr]
    replace hr := Lib.hid hr
    clear d0 hA
    go_enter Tryz.func80, Tryz.ntmps80
    go_wp2_with fail
    refine (as_bool h1 (l00In_c _ _ _ _)).mono ?_
    rintro e w' ⟨rfl, rfl⟩
    go_wp2_with fail
    refine (l00In_c _ _ _ _).mono ?_
    rintro e w' ⟨rfl, rfl⟩
    go_wp2_with fail
    go_ret
    exact ⟨rfl, rfl⟩
theorem l08Seam_c (p : Pattern) (b : Nat) (pa : Option Addr) (pc : Nat) (sa : Option Addr) (sc : Nat) (s : Seam) (w : World) (hP : PatV w b pa pc sa sc p) (hl : totPattern p ≤ 1048576) :
    Calls Tryz.prog 59 #[.pointer (some ⟨b, 0, none⟩), .agg #[.int .i64 s.A, .int .i64 s.EdgeA, .int .i64 s.B, .int .i64 s.EdgeB]] w fun e w' => e = .returned (.bool (hasSeam p s)) ∧ Below w.heap.size w w' := by
  have hr : hasSeam p s = (hasEdge p ⟨s.A, s.EdgeA⟩ && hasEdge p ⟨s.B, s.EdgeB⟩) := rfl
  rw [hr]
  have hb := new_below w (.cells #[.int .i64 s.A, .int .i64 s.EdgeA, .int .i64 s.B, .int .i64 s.EdgeB] 46)
  replace hP := hP.below hb
  have HP := Lib.hid hP
  clear hP
  cases h1 : hasEdge p ⟨s.A, s.EdgeA⟩
  · go_enter Tryz.func59, Tryz.ntmps59
    go_wp2_with fail
    refine (as_bool h1 (l08Edge_c p _ _ _ _ _ _ _ _ HP.out hl)).mono ?_
    rintro e w' ⟨rfl, rfl⟩
    go_wp2_with fail
    go_ret
    exact ⟨rfl, hb⟩
  · go_enter Tryz.func59, Tryz.ntmps59
    go_wp2_with fail
    refine (as_bool h1 (l08Edge_c p _ _ _ _ _ _ _ _ HP.out hl)).mono ?_
    rintro e w' ⟨rfl, rfl⟩
    go_wp2_with fail
    refine (l08Edge_c p _ _ _ _ _ _ _ _ HP.out hl).mono ?_
    rintro e w' ⟨rfl, rfl⟩
    go_wp2_with fail
    go_ret
    exact ⟨by simp, hb⟩
theorem times_succ (ss : List Seam) (e : Edge) (k : Nat) (h : k < ss.length) : times (ss.take (k + 1)) e = times (ss.take k) e + (if endA ss[k] = e then 1 else 0) + (if endB ss[k] = e then 1 else 0) := by
  unfold times
  rw [List.take_succ_eq_append_getElem h, ends_append, List.count_append]
  have h2 : (ends [ss[k]]).count e = (if endA ss[k] = e then 1 else 0) + (if endB ss[k] = e then 1 else 0) := by
    show List.count e [endA ss[k], endB ss[k]] = _
    by_cases h1 : endA ss[k] = e <;> by_cases h2 : endB ss[k] = e <;> simp [h1, h2]
  rw [h2]; omega
theorem times_le (ss : List Seam) (e : Edge) (k : Nat) : times (ss.take k) e ≤ 2 * ss.length := by
  unfold times
  have h1 := List.count_le_length (a := e) (l := ends (ss.take k))
  rw [ends_length, List.length_take] at h1
  omega
set_option maxRecDepth 100000 in
set_option maxHeartbeats 1600000 in
theorem l08Times_c (p : Pattern) (b : Nat) (pa : Option Addr) (pc : Nat) (sa : Option Addr) (sc : Nat) (e : Edge) (w : World) (hP : PatV w b pa pc sa sc p) (hl : totPattern p ≤ 1048576) :
    Calls Tryz.prog 60 #[.pointer (some ⟨b, 0, none⟩), .int .i64 e.piece, .int .i64 e.number] w fun en w' => en = .returned (.int .i64 (times p.seams e)) ∧ Below w.heap.size w w' := by
  have l2 : p.seams.length ≤ 1048576 := by unfold totPattern at hl; omega
  obtain ⟨ep, en⟩ := e
  simp only
  go_enter Tryz.func60, Tryz.ntmps60
  go_wp2_with fail
  go_loopw [7, 8] (fun n i wr => ∃ k : Nat, k ≤ p.seams.length ∧ i = .int .i64 k ∧ n = .int .i64 (times (p.seams.take k) ⟨ep, en⟩ : Nat) ∧ Below w.heap.size w wr) (fun _ i _ => p.seams.length - (intOf i).toNat)
  case atStart => exact ⟨0, Nat.zero_le _, rfl, by simp [times, ends], Below.refl _ _⟩
  case round =>
    obtain ⟨k, hk, rfl, rfl, hb⟩ := hrel
    obtain ⟨c0, c1, c2, hL⟩ := hP.below hb
    have hx := hL.seams
    clear c0 c2
    have tl := times_le p.seams ⟨ep, en⟩ k
    by_cases hlt : k < p.seams.length
    · obtain ⟨bb, off, rfl⟩ := hx.addr hlt
      have hbl := hx.lt hlt
      obtain ⟨d0, d1, d2, d3⟩ := hx.seam hlt
      have E := Lib.hid (times_succ p.seams ⟨ep, en⟩ k hlt)
      clear hL hx
      by_cases a1 : p.seams[k].A = ep <;> by_cases a2 : p.seams[k].EdgeA = en <;> by_cases a3 : p.seams[k].B = ep <;> by_cases a4 : p.seams[k].EdgeB = en
      all_goals
        have A1 := Lib.hid a1
        have A2 := Lib.hid a2
        have A3 := Lib.hid a3
        have A4 := Lib.hid a4
        go_wp2_with fail
        go_roundw
        case rel => exact ⟨k + 1, by omega, by go_num, by rw [E.out]; simp only [endA, endB, Edge.mk.injEq, A1.out, A2.out, A3.out, A4.out]; (first | (simp; done) | (simp; omega) | (simp [Int.add_assoc]; done)), hb.alloc hb.size _⟩
        case measure => simp [intOf]; omega
    · obtain rfl : k = p.seams.length := by omega
      go_wp2_with fail
      go_ret
      exact ⟨ret_int (by rw [List.take_length]), hb⟩
theorem nodup_times {ss : List Seam} : (ends ss).Nodup ↔ ∀ s ∈ ss, times ss (endA s) ≤ 1 ∧ times ss (endB s) ≤ 1 := by
  rw [List.nodup_iff_count]
  constructor
  · exact fun h s _ => ⟨h _, h _⟩
  · intro h e
    by_cases he : e ∈ ends ss
    · simp only [ends, List.mem_flatMap] at he
      obtain ⟨s, hs, he⟩ := he
      simp only [List.mem_cons, List.not_mem_nil, or_false] at he
      rcases he with rfl | rfl
      · exact (h s hs).1
      · exact (h s hs).2
    · rw [List.count_eq_zero_of_not_mem he]; omega
/-- What the reference asks of a seam. -/
def seamOk (p : Pattern) (s : Seam) : Bool := hasSeam p s && (decide (times p.seams (endA s) ≤ 1) && decide (times p.seams (endB s) ≤ 1))
theorem okPattern_eq (p : Pattern) : okPattern p = ((inr p.pieces.length 1 10 && !(p.pieces.any fun x => !okPiece x)) && (!(p.seams.any fun s => !seamOk p s) && inr p.openings 0 100)) := by
  have h : ((!(p.seams.any fun s => !hasSeam p s)) && decide (ends p.seams).Nodup) = !(p.seams.any fun s => !seamOk p s) := by
    rw [Bool.eq_iff_iff]
    simp only [Bool.and_eq_true, Bool.not_eq_true', List.any_eq_false, Bool.not_eq_true', decide_eq_true_eq, nodup_times, seamOk]
    constructor
    · intro ⟨h1, h2⟩ s hs
      have a := h1 s hs
      have b := h2 s hs
      simp_all
    · intro h
      refine ⟨fun s hs => ?_, fun s hs => ?_⟩
      · have := h s hs; simp_all
      · have := h s hs; simp_all
  unfold okPattern
  rw [← h]
  cases inr p.pieces.length 1 10 <;> cases (p.pieces.any fun x => !okPiece x) <;> cases (p.seams.any fun s => !hasSeam p s) <;> cases decide (ends p.seams).Nodup <;> cases inr p.openings 0 100 <;> rfl
theorem okPattern_piece {p : Pattern} {i : Nat} (hi : i < p.pieces.length) (h : okPiece p.pieces[i] = false) : okPattern p = false := by
  have : (p.pieces.any fun x => !okPiece x) = true := List.any_eq_true.2 ⟨_, List.getElem_mem hi, by simp [h]⟩
  rw [okPattern_eq, this]; simp
theorem okPattern_seam {p : Pattern} {i : Nat} (hi : i < p.seams.length) (h : seamOk p p.seams[i] = false) : okPattern p = false := by
  have : (p.seams.any fun s => !seamOk p s) = true := List.any_eq_true.2 ⟨_, List.getElem_mem hi, by simp [h]⟩
  rw [okPattern_eq, this]; simp
set_option maxRecDepth 100000 in
set_option maxHeartbeats 4000000 in
theorem l08Ok_c (p : Pattern) (b : Nat) (pa : Option Addr) (pc : Nat) (sa : Option Addr) (sc : Nat) (w : World) (hP : PatV w b pa pc sa sc p) (hl : totPattern p ≤ 1048576) :
    Calls Tryz.prog 28 #[.pointer (some ⟨b, 0, none⟩)] w fun en w' => en = .returned (.bool (okPattern p)) ∧ Below w.heap.size w w' := by
  have l1 : p.pieces.length ≤ 1048576 := by unfold totPattern totPieces at hl; omega
  have l2 : p.seams.length ≤ 1048576 := by unfold totPattern at hl; omega
  have l3 : Hid (∀ x ∈ p.pieces, x.name.size ≤ 9223372036854775807 ∧ x.edges.length ≤ 9223372036854775807) := Lib.hid fun x hx => by
    obtain ⟨i, hi, rfl⟩ := List.mem_iff_getElem.1 hx
    have := sumN_mem totPiece p.pieces i hi
    unfold totPattern totPieces at hl; unfold totPiece at *; omega
  have HP := Lib.hid hP
  replace hl := Lib.hid hl
  obtain ⟨c0, c1, c2, hL⟩ := hP
  go_enter Tryz.func28, Tryz.ntmps28
  go_wp2_with fail
  go_loop [3] (fun i => ∃ k : Nat, k ≤ p.pieces.length ∧ i = .int .i64 k ∧ Nosofar (fun x => !okPiece x) p.pieces k) (fun i => p.pieces.length - (intOf i).toNat)
  case atStart => exact ⟨0, Nat.zero_le _, rfl, nosofar_zero⟩
  case round =>
    obtain ⟨k, hk, rfl, hS⟩ := hrel
    replace hS := Lib.hid hS
    by_cases hlt : k < p.pieces.length
    · obtain ⟨bb, off, ea, ec, rfl, hbl, hV⟩ := hL.pieV hlt
      have hx := l3.out _ (List.getElem_mem hlt)
      obtain ⟨x1, x2⟩ := hx
      replace hV := Lib.hid hV
      cases h1 : okPiece p.pieces[k]
      · have e := Lib.hid (okPattern_piece hlt h1)
        go_wp2_with fail
        refine (as_bool h1 (l08One_c _ _ _ _ _ _ hV.out x1 x2)).mono ?_
        rintro e w' ⟨rfl, rfl⟩
        go_wp2_with fail
        go_ret
        exact ⟨ret_bool e.out.symm, Below.refl _ _⟩
      · have HS := Lib.hid (nosofar_succ (hk := hlt) hS.out (by simp [h1]))
        go_wp2_with fail
        refine (as_bool h1 (l08One_c _ _ _ _ _ _ hV.out x1 x2)).mono ?_
        rintro e w' ⟨rfl, rfl⟩
        go_wp2_with fail
        go_round
        case rel => exact ⟨k + 1, by omega, by go_num, HS.out⟩
        case measure => simp [intOf]; omega
    · obtain rfl : k = p.pieces.length := by omega
      have hpa := nosofar_any hS.out (Nat.le_refl _)
      have hok : okPattern p = (inr p.pieces.length 1 10 && (!(p.seams.any fun s => !seamOk p s) && inr p.openings 0 100)) := by rw [okPattern_eq, hpa]; simp
      replace hok := Lib.hid hok
      clear hpa
      cases h1 : inr p.pieces.length 1 10
      · go_wp2_with fail
        refine (as_bool h1 (l00In_c _ _ _ _)).mono ?_
        rintro e w' ⟨rfl, rfl⟩
        go_wp2_with fail
        go_ret
        exact ⟨ret_bool (by rw [hok.out, h1]; simp), Below.refl _ _⟩
      · cases h2 : inr p.openings 0 100
        · go_wp2_with fail
          refine (as_bool h1 (l00In_c _ _ _ _)).mono ?_
          rintro e w' ⟨rfl, rfl⟩
          go_wp2_with fail
          refine (as_bool h2 (l00In_c _ _ _ _)).mono ?_
          rintro e w' ⟨rfl, rfl⟩
          go_wp2_with fail
          go_ret
          exact ⟨ret_bool (by rw [hok.out, h2]; simp), Below.refl _ _⟩
        · go_wp2_with fail
          refine (as_bool h1 (l00In_c _ _ _ _)).mono ?_
          rintro e w' ⟨rfl, rfl⟩
          go_wp2_with fail
          refine (as_bool h2 (l00In_c _ _ _ _)).mono ?_
          rintro e w' ⟨rfl, rfl⟩
          have H12 := Lib.hid (And.intro h1 h2)
          clear h1 h2 c0 c1 c2
          go_wp2_with fail
          go_loopw [4] (fun i wr => ∃ k : Nat, k ≤ p.seams.length ∧ i = .int .i64 k ∧ Nosofar (fun s => !seamOk p s) p.seams k ∧ Below w.heap.size w wr) (fun i _ => p.seams.length - (intOf i).toNat)
          case atStart => exact ⟨0, Nat.zero_le _, rfl, nosofar_zero, Below.refl _ _⟩
          case round =>
            obtain ⟨k, hk, rfl, hT, hb⟩ := hrel
            replace hT := Lib.hid hT
            obtain ⟨c0, c1, c2, hL⟩ := HP.out.below hb
            have hx := hL.seams
            by_cases hlt : k < p.seams.length
            · obtain ⟨bb, off, rfl⟩ := hx.addr hlt
              have hbl := hx.lt hlt
              obtain ⟨d0, d1, d2, d3⟩ := hx.seam hlt
              obtain ⟨w3, hw3⟩ : ∃ w3, w3 = wr.alloc (.cells #[.int .i64 p.seams[k].A, .int .i64 p.seams[k].EdgeA, .int .i64 p.seams[k].B, .int .i64 p.seams[k].EdgeB] 46) := ⟨_, rfl⟩
              have hb3 : Below wr.heap.size wr w3 := by rw [hw3]; exact new_below _ _
              have V : Var w3 wr.heap.size [.int .i64 p.seams[k].A, .int .i64 p.seams[k].EdgeA, .int .i64 p.seams[k].B, .int .i64 p.seams[k].EdgeB] := by rw [hw3]; exact Var.new4 _ _ _ _ _ _
              have HW3 := Lib.hid hw3
              have hP3 := HP.out.below (upw hb hb3)
              replace hb := upw hb hb3
              clear hw3 hb3 c2
              cases h1 : hasSeam p p.seams[k]
              · have e := Lib.hid (okPattern_seam hlt (show seamOk p p.seams[k] = false by simp [seamOk, h1]))
                go_wp2_with fail
                rw [← HW3.out]
                refine (as_boolB h1 (l08Seam_c p _ _ _ _ _ _ _ hP3 hl.out)).mono ?_
                rintro e w4 ⟨rfl, hb4⟩
                replace hb := upw hb hb4
                go_wp2_with fail
                go_ret
                exact ⟨ret_bool e.out.symm, hb⟩
              · by_cases h2 : times p.seams (endA p.seams[k]) ≤ 1
                · by_cases h3 : times p.seams (endB p.seams[k]) ≤ 1
                  · have HT := Lib.hid (nosofar_succ (hk := hlt) hT.out (show (!seamOk p p.seams[k]) = false by simp [seamOk, h1, h2, h3]))
                    replace h2 : ¬ 1 < (times p.seams (endA p.seams[k]) : Int) := by omega
                    replace h3 : ¬ 1 < (times p.seams (endB p.seams[k]) : Int) := by omega
                    go_wp2_with fail
                    rw [← HW3.out]
                    refine (as_boolB h1 (l08Seam_c p _ _ _ _ _ _ _ hP3 hl.out)).mono ?_
                    rintro e w4 ⟨rfl, hb4⟩
                    replace hb := upw hb hb4
                    replace hP3 := hP3.below hb4
                    replace V := V.below hb4
                    clear d0 d1 d2 d3
                    have d0 := V.cell 0 _ rfl
                    have d1 := V.cell 1 _ rfl
                    go_wp2_with fail
                    refine (l08Times_c p _ _ _ _ _ (endA p.seams[k]) _ hP3 hl.out).mono ?_
                    rintro e w5 ⟨rfl, hb5⟩
                    replace hb := upw hb hb5
                    replace hP3 := hP3.below hb5
                    replace V := V.below hb5
                    clear d0 d1
                    have d2 := V.cell 2 _ rfl
                    have d3 := V.cell 3 _ rfl
                    go_wp2_with fail
                    refine (l08Times_c p _ _ _ _ _ (endB p.seams[k]) _ hP3 hl.out).mono ?_
                    rintro e w6 ⟨rfl, hb6⟩
                    replace hb := upw hb hb6
                    go_wp2_with fail
                    go_roundw
                    case rel => exact ⟨k + 1, by omega, by go_num, HT.out, hb⟩
                    case measure => simp [intOf]; omega
                  · have e := Lib.hid (okPattern_seam hlt (show seamOk p p.seams[k] = false by simp [seamOk, h3]))
                    replace h2 : ¬ 1 < (times p.seams (endA p.seams[k]) : Int) := by omega
                    replace h3 : 1 < (times p.seams (endB p.seams[k]) : Int) := by omega
                    go_wp2_with fail
                    rw [← HW3.out]
                    refine (as_boolB h1 (l08Seam_c p _ _ _ _ _ _ _ hP3 hl.out)).mono ?_
                    rintro e w4 ⟨rfl, hb4⟩
                    replace hb := upw hb hb4
                    replace hP3 := hP3.below hb4
                    replace V := V.below hb4
                    clear d0 d1 d2 d3
                    have d0 := V.cell 0 _ rfl
                    have d1 := V.cell 1 _ rfl
                    go_wp2_with fail
                    refine (l08Times_c p _ _ _ _ _ (endA p.seams[k]) _ hP3 hl.out).mono ?_
                    rintro e w5 ⟨rfl, hb5⟩
                    replace hb := upw hb hb5
                    replace hP3 := hP3.below hb5
                    replace V := V.below hb5
                    clear d0 d1
                    have d2 := V.cell 2 _ rfl
                    have d3 := V.cell 3 _ rfl
                    go_wp2_with fail
                    refine (l08Times_c p _ _ _ _ _ (endB p.seams[k]) _ hP3 hl.out).mono ?_
                    rintro e w6 ⟨rfl, hb6⟩
                    replace hb := upw hb hb6
                    go_wp2_with fail
                    go_ret
                    exact ⟨ret_bool e.out.symm, hb⟩
                · have e := Lib.hid (okPattern_seam hlt (show seamOk p p.seams[k] = false by simp [seamOk, h2]))
                  replace h2 : 1 < (times p.seams (endA p.seams[k]) : Int) := by omega
                  go_wp2_with fail
                  rw [← HW3.out]
                  refine (as_boolB h1 (l08Seam_c p _ _ _ _ _ _ _ hP3 hl.out)).mono ?_
                  rintro e w4 ⟨rfl, hb4⟩
                  replace hb := upw hb hb4
                  replace hP3 := hP3.below hb4
                  replace V := V.below hb4
                  clear d0 d1 d2 d3
                  have d0 := V.cell 0 _ rfl
                  have d1 := V.cell 1 _ rfl
                  go_wp2_with fail
                  refine (l08Times_c p _ _ _ _ _ (endA p.seams[k]) _ hP3 hl.out).mono ?_
                  rintro e w5 ⟨rfl, hb5⟩
                  replace hb := upw hb hb5
                  go_wp2_with fail
                  go_ret
                  exact ⟨ret_bool e.out.symm, hb⟩
            · obtain rfl : k = p.seams.length := by omega
              have e : okPattern p = true := by rw [hok.out, nosofar_any hT.out (Nat.le_refl _), H12.out.1, H12.out.2]; rfl
              replace e := Lib.hid e
              go_wp2_with fail
              go_ret
              exact ⟨ret_bool e.out.symm, hb⟩
theorem specValidPattern_c (p : Pattern) (pa : Option Addr) (pc : Nat) (sa : Option Addr) (sc : Nat) (w : World) (hp : LieP w pa sa p) (hl : totPattern p ≤ 1048576) :
    Calls Tryz.prog 14 #[.agg #[.slice pa p.pieces.length pc, .slice sa p.seams.length sc, .int .i64 p.openings]] w fun en w' => en = .returned (.bool (okPattern p)) ∧ Below w.heap.size w w' := by
  obtain ⟨w1, hw1, hP, hs1, hb⟩ := patV_new p pa pc sa sc w hp
  go_enter Tryz.func14, Tryz.ntmps14
  go_wp2_with fail
  refine (l08Ok_c p _ _ _ _ _ _ hP hl).mono ?_
  rintro e w2 ⟨rfl, hb2⟩
  go_wp2_with fail
  go_ret
  exact ⟨rfl, upw hb hb2⟩
end Go.Proofs.YtlmhiocmldhkhaaGreatDoor
