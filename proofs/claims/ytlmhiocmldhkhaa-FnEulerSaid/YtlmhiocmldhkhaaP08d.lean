/- Chapter 8, patterns: the differences of seams, the program's and the reference's. -/
import Derived.Test.YtlmhiocmldhkhaaP08k
namespace Go.Proofs.Ytlmhiocmldhkhaa
open Go.RowKit

def diffOf (p : Pattern) (s : Seam) : Int := size (edgeLen p (endA s) - edgeLen p (endB s))
def diffs (p : Pattern) : List Int := p.seams.map (diffOf p)
theorem diffs_length (p : Pattern) : (diffs p).length = p.seams.length := by simp [diffs]
theorem diffs_take (p : Pattern) (k : Nat) (h : k < p.seams.length) : (diffs p).take (k + 1) = (diffs p).take k ++ [diffOf p p.seams[k]] := by
  rw [List.take_succ_eq_append_getElem (by rw [diffs_length]; exact h)]; simp [diffs]
theorem PatV.of {w : World} {b : Nat} {pa : Option Addr} {pc : Nat} {sa : Option Addr} {sc : Nat} {p : Pattern} (V : Var w b [.slice pa p.pieces.length pc, .slice sa p.seams.length sc, .int .i64 p.openings]) (hL : LieP w pa sa p) : PatV w b pa pc sa sc p :=
  ⟨V.cell 0 _ rfl, V.cell 1 _ rfl, V.cell 2 _ rfl, hL⟩
theorem own_ne {α : Type} [Flat α] {B b : Nat} {w : World} {e : TypeId} {v : Value} {xs : List α} (h : Own B w e v xs) (hb : b < B) : some b ≠ v.ownBlock := fun e => by
  have := (h.lt b e.symm).1; omega
/-- A new variable that holds a pattern. -/
theorem patW_new (p : Pattern) (pa : Option Addr) (pc : Nat) (sa : Option Addr) (sc : Nat) (w : World) : ∃ w1, w.alloc (.cells #[.slice pa p.pieces.length pc, .slice sa p.seams.length sc, .int .i64 p.openings] 32) = w1 ∧ Var w1 w.heap.size [.slice pa p.pieces.length pc, .slice sa p.seams.length sc, .int .i64 p.openings] ∧ w1.heap.size = w.heap.size + 1 ∧ Below w.heap.size w w1 :=
  ⟨_, rfl, Var.new3 _ _ _ _ _, by simp, new_below _ _⟩
theorem apartB_c (a b r : Int) (w : World) (ha : 1 ≤ a ∧ a ≤ 10000) (hb : 1 ≤ b ∧ b ≤ 10000) (hr : size (a - b) = r) :
    Calls Try.prog 80 #[.int .i64 a, .int .i64 b] w fun e w' => e = .returned (.int .i64 r) ∧ w = w' := by
  subst hr; exact apart_c a b w (by omega) (by omega)
set_option maxRecDepth 100000 in
set_option maxHeartbeats 1600000 in
theorem differences_c (p : Pattern) (pa : Option Addr) (pc : Nat) (sa : Option Addr) (sc : Nat) (w : World) (hp : LieP w pa sa p) (hl : totPattern p ≤ 1048576) (ok : Okp p) :
    Calls Try.prog 48 #[.agg #[.slice pa p.pieces.length pc, .slice sa p.seams.length sc, .int .i64 p.openings]] w fun en w' => ∃ v, en = .returned v ∧ Own w.heap.size w' 2 v (diffs p) ∧ Below w.heap.size w w' := by
  have l2 := (tot_okp hl).2
  obtain ⟨w1, hw1, hP, hs1, hb1⟩ := patW_new p pa pc sa sc w
  obtain ⟨w2, hw2⟩ : ∃ w2, w2 = w1.alloc (.cells #[] 2) := ⟨_, rfl⟩
  have hb2 : Below w1.heap.size w1 w2 := by rw [hw2]; exact new_below _ _
  have hO : Own (w.heap.size + 1) w2 2 (.slice (some ⟨w.heap.size + 1, 0, none⟩) 0 0) ([] : List Int) := by
    rw [hw2, ← hs1]; exact own_new (α := Int) w1 2
  have HW := Lib.hid (show (w.alloc (.cells #[.slice pa p.pieces.length pc, .slice sa p.seams.length sc, .int .i64 p.openings] 32)).alloc (.cells #[] 2) = w2 by rw [hw2, hw1])
  replace hP := hP.below hb2
  have hb : Below w.heap.size w w2 := upw hb1 hb2
  have hz := Lib.hid hs1
  obtain ⟨c0, c1, c2, _⟩ := PatV.of hP (hp.below hb)
  clear hw1 hw2 hs1 hb1 hb2
  replace ok := Lib.hid ok
  go_enter Try.func48, Try.ntmps48
  go_wp2_with fail
  rw [HW.out]
  clear c0 c1 c2
  go_loopw [3, 12, 5, 6, 7] (fun v i _ _ _ wr => ∃ k : Nat, k ≤ p.seams.length ∧ i = .int .i64 k ∧ Own (w.heap.size + 1) wr 2 v ((diffs p).take k) ∧ Var wr w.heap.size [.slice pa p.pieces.length pc, .slice sa p.seams.length sc, .int .i64 p.openings] ∧ Below w.heap.size w wr) (fun _ i _ _ _ _ => p.seams.length - (intOf i).toNat)
  case atStart => exact ⟨0, Nat.zero_le _, rfl, by simpa using hO, hP, hb⟩
  case round =>
    clear hO hP hb
    obtain ⟨k, hk, rfl, hO, hP, hb⟩ := hrel
    have hbs := hb.size
    by_cases hlt : k < p.seams.length
    · have hx := (hp.below hb).seams
      obtain ⟨b, off, rfl⟩ := hx.addr hlt
      have hbl := hx.lt hlt
      obtain ⟨c0, c1, c2, c3⟩ := hx.seam hlt
      have hs := ok.out.seam _ (List.getElem_mem hlt)
      have E := Lib.hid (diffs_take p k hlt)
      obtain ⟨s, hse⟩ : ∃ s, s = p.seams[k] := ⟨_, rfl⟩
      rw [← hse] at hs c0 c1 c2 c3 E
      replace hse := Lib.hid hse
      have hlk := Lib.hid (show ((diffs p).take k).length ≤ k by rw [List.length_take]; omega)
      obtain ⟨hsA, hsB⟩ := hs
      have rA := edgeLen_in ok.out hsA
      have rB := edgeLen_in ok.out hsB
      have hO := Lib.hid hO
      have hP := Lib.hid hP
      have hb3 := new_below wr (.cells #[.int .i64 s.A, .int .i64 s.EdgeA, .int .i64 s.B, .int .i64 s.EdgeB] 36)
      obtain ⟨w3, hw3⟩ : ∃ w3, w3 = wr.alloc (.cells #[.int .i64 s.A, .int .i64 s.EdgeA, .int .i64 s.B, .int .i64 s.EdgeB] 36) := ⟨_, rfl⟩
      rw [← hw3] at hb3
      replace hw3 := Lib.hid hw3
      go_wp2_with fail
      rw [← hw3.out]
      refine (sides_c s _).mono ?_
      rintro e w4 ⟨rfl, hb4⟩
      replace hb4 := upw hb3 hb4
      obtain ⟨w5, hw5⟩ : ∃ w5, w5 = (w4.alloc (.cells #[.int .i64 s.A, .int .i64 s.EdgeA] 98)).alloc (.cells #[.int .i64 s.B, .int .i64 s.EdgeB] 98) := ⟨_, rfl⟩
      have hb5 : Below w4.heap.size w4 w5 := by rw [hw5]; exact upw (new_below _ _) (new_below _ _)
      have VA : Var w5 w4.heap.size [.int .i64 s.A, .int .i64 s.EdgeA] := by rw [hw5]; exact (Var.new2 _ _ _ _).below (new_below _ _)
      have VB : Var w5 (w4.heap.size + 1) [.int .i64 s.B, .int .i64 s.EdgeB] := by
        rw [hw5, show w4.heap.size + 1 = (w4.alloc (.cells #[.int .i64 s.A, .int .i64 s.EdgeA] 98)).heap.size by simp]; exact Var.new2 _ _ _ _
      have HW5 := Lib.hid hw5
      replace hb5 := upw hb4 hb5
      have hV5 := hP.out.below hb5
      have hO5 := Lib.hid (hO.out.later hb5)
      replace hb := upw hb hb5
      have hP5 := PatV.of hV5 (hp.below hb)
      replace hV5 := Lib.hid hV5
      clear hw5 hb3 hb4 c0 c1 c2 c3
      go_wp2_with fail
      rw [← HW5.out]
      have p0 := rg hP5.c0
      have p1 := rg hP5.c1
      have p2 := rg hP5.c2
      have a0 := rg (VA.cell 0 _ rfl)
      have a1 := rg (VA.cell 1 _ rfl)
      have b0 := rg (VB.cell 0 _ rfl)
      have b1 := rg (VB.cell 1 _ rfl)
      have hL5 := Lib.hid hP5.lie
      have CA : Hid (∀ w', LieP w' pa (some ⟨b, off, none⟩) p → Calls Try.prog 81 #[.agg #[.slice pa p.pieces.length pc, .slice (some ⟨b, off, none⟩) p.seams.length sc, .int .i64 p.openings], .agg #[.int .i64 s.A, .int .i64 s.EdgeA]] w' fun en w'' => en = .returned (.int .i64 (edgeLen p (endA s))) ∧ Below w'.heap.size w' w'') := Lib.hid fun w' h => length_c p _ _ _ _ (endA s) _ h ok.out hsA
      have CB : Hid (∀ w', LieP w' pa (some ⟨b, off, none⟩) p → Calls Try.prog 81 #[.agg #[.slice pa p.pieces.length pc, .slice (some ⟨b, off, none⟩) p.seams.length sc, .int .i64 p.openings], .agg #[.int .i64 s.B, .int .i64 s.EdgeB]] w' fun en w'' => en = .returned (.int .i64 (edgeLen p (endB s))) ∧ Below w'.heap.size w' w'') := Lib.hid fun w' h => length_c p _ _ _ _ (endB s) _ h ok.out hsB
      have CD : Hid (∀ w', Calls Try.prog 80 #[.int .i64 (edgeLen p (endA s)), .int .i64 (edgeLen p (endB s))] w' fun en w'' => en = .returned (.int .i64 (diffOf p s)) ∧ w' = w'') := Lib.hid fun w' => apartB_c _ _ _ _ rA rB rfl
      have HP5 := Lib.hid hP5
      clear hP5 VA VB hsA hsB rA rB
      refine wp_region_any (by kernel_rfl) ?_
      refine wpAny_take (i := 0) (v := _) rfl (by kernel_rfl) (by kernel_rfl) (by kernel_rfl) (fun _ _ _ h => h) (Or.inl ⟨by rfl, (by intro w; go_simp; try with_reducible rfl)⟩) ?_
      go_simp
      refine wp_any_tailq_below [1, 2, 3, 4, 5, 6, 7] [8, 9, 10] (by decide +kernel) (by kernel_rfl) (picked_cons rfl (picked_cons rfl (picked_cons rfl (picked_cons rfl (picked_cons rfl (picked_cons rfl (picked_cons rfl picked_nil))))))) (picked_cons rfl (picked_cons rfl (picked_cons rfl picked_nil))) ?_
      repeat (go_big_quiet_step ((first | (go_at_call 81; first | with_reducible exact Calls.regrown_of (CA.out _ (hL5.out.below (grown_of ⟨⟨_, _⟩, rfl⟩))) | with_reducible exact Calls.regrown_of (CB.out _ (hL5.out.below (grown_of ⟨⟨_, _⟩, rfl⟩)))) | (go_at_call 80; with_reducible exact Calls.regrown_same (CD.out _)))))
      refine wpQuiet_nil ?_
      intro w2 hw'
      replace hb := upw hb (grown_of hw')
      have hw2 := grown_of hw'
      clear hw'
      go_wp2_with (at_builtin; refine wpList_push rfl (.tmp 21) (.tmp 29) 49 rfl (w.heap.size + 1) 2 (.int .i64 0) 8 Try.underlying49 infoInt rfl _ _ (diffOf p s) rfl ((hO5.out.later hw2).later ((Below.refl _ _).alloc (Nat.le_refl _) _)) _ _ rfl 2 (heap_alloc_new _ _) (by have := hlk.out; omega) (by decide) (by have := hb.size; simp; omega) ?_; intro v1 w7 hO1 hg1)
      go_roundw
      case rel => exact ⟨k + 1, by omega, by go_num, by rw [E.out]; exact hO1, ((hV5.out.below hw2).below (new_below _ _)).grown hg1 (own_ne hO5.out (Nat.lt_succ_self _)), below_mark (hb.alloc hb.size _) ((hO5.out.later hw2).later ((Below.refl _ _).alloc (Nat.le_refl _) _)) (Nat.le_succ _) hg1⟩
      case measure => simp [intOf]; omega
    · obtain rfl : k = p.seams.length := by omega
      rw [List.take_of_length_le (by rw [diffs_length]; exact Nat.le_refl _)] at hO
      go_wp2_with fail
      go_ret
      exact ⟨_, rfl, hO.base (Nat.le_succ _), hb⟩
set_option maxRecDepth 100000 in
set_option maxHeartbeats 1600000 in
theorem l08Diff_c (p : Pattern) (b : Nat) (pa : Option Addr) (pc : Nat) (sa : Option Addr) (sc : Nat) (s : Seam) (w : World) (hP : PatV w b pa pc sa sc p) (ok : Okp p) (hs : hasEdge p (endA s) = true ∧ hasEdge p (endB s) = true) :
    Calls Try.prog 53 #[.pointer (some ⟨b, 0, none⟩), .agg #[.int .i64 s.A, .int .i64 s.EdgeA, .int .i64 s.B, .int .i64 s.EdgeB]] w fun en w' => en = .returned (.int .i64 (diffOf p s)) ∧ Below w.heap.size w w' := by
  have rA := edgeLen_in ok hs.1
  have rB := edgeLen_in ok hs.2
  have l1 := ok.n10
  obtain ⟨i, j, hA, hi, hj⟩ := hasEdge_get hs.1
  obtain ⟨i', j', hB, hi', hj'⟩ := hasEdge_get hs.2
  have l3 := (ok.len _ (List.getElem_mem hi)).2
  have l4 := (ok.len _ (List.getElem_mem hi')).2
  have eA : s.A = i := congrArg Edge.piece hA
  have eB : s.B = i' := congrArg Edge.piece hB
  have fA : s.EdgeA = j := congrArg Edge.number hA
  have fB : s.EdgeB = j' := congrArg Edge.number hB
  have hd : diffOf p s = size ((p.pieces[i]).edges[j] - (p.pieces[i']).edges[j']) := by
    unfold diffOf; rw [hA, hB, edgeLen_get hi hj, edgeLen_get hi' hj']
  rw [hA, edgeLen_get hi hj] at rA
  rw [hB, edgeLen_get hi' hj'] at rB
  rw [hd, eA, eB, fA, fB]
  obtain ⟨x, hx⟩ : ∃ x, x = (p.pieces[i]).edges[j] := ⟨_, rfl⟩
  obtain ⟨y, hy⟩ : ∃ y, y = (p.pieces[i']).edges[j'] := ⟨_, rfl⟩
  rw [← hx] at rA ⊢
  rw [← hy] at rB ⊢
  obtain ⟨w2, hw2⟩ : ∃ w2, w2 = w.alloc (.cells #[.int .i64 (i : Int), .int .i64 (j : Int), .int .i64 (i' : Int), .int .i64 (j' : Int)] 36) := ⟨_, rfl⟩
  have V : Var w2 w.heap.size [.int .i64 (i : Int), .int .i64 (j : Int), .int .i64 (i' : Int), .int .i64 (j' : Int)] := by rw [hw2]; exact Var.new4 _ _ _ _ _ _
  have hb : Below w.heap.size w w2 := by rw [hw2]; exact new_below _ _
  replace hP := hP.below hb
  obtain ⟨c0, _, _, hL⟩ := hP
  obtain ⟨pb, off, eb, eo, ec, rfl, hbl, h1, h2⟩ := hL.edgeV hi hj
  obtain ⟨_, _, eb', eo', ec', he, _, h3, h4⟩ := hL.edgeV hi' hj'
  simp only [Option.some.injEq, Addr.mk.injEq, and_true] at he
  obtain ⟨rfl, rfl⟩ := he
  rw [← hx] at h2
  rw [← hy] at h4
  replace c0 := rg c0
  replace h1 := rg h1
  replace h2 := rg h2
  replace h3 := rg h3
  replace h4 := rg h4
  have v0 := rg (V.cell 0 _ rfl)
  have v1 := rg (V.cell 1 _ rfl)
  have v2 := rg (V.cell 2 _ rfl)
  have v3 := rg (V.cell 3 _ rfl)
  replace hw2 := Lib.hid hw2
  clear V hL hd eA eB fA fB hA hB hs ok hx hy
  go_enter Try.func53, Try.ntmps53
  go_wp2_with fail
  rw [← hw2.out]
  refine wp_region_quiet_below (by kernel_rfl) (by kernel_rfl) ?_
  repeat (go_big_quiet_step ((go_at_call 84; exact Calls.regrown_same (l02Size_c _ _ (by omega)))))
  refine wpQuiet_nil ?_
  intro w2 hw'
  replace hb := upw hb (grown_of hw')
  clear hw'
  go_wp2_with fail
  go_ret
  exact ⟨rfl, hb⟩
def sdOf (p : Pattern) : List Int := if okPattern p then diffs p else []
def sdCode (p : Pattern) : Int := if okPattern p then 0 else 1
theorem SeamDifferences_len (p : Pattern) : (sdOf p).length ≤ totPattern p := by
  unfold sdOf; split
  · rw [diffs_length]; unfold totPattern; omega
  · simp
set_option maxRecDepth 100000 in
set_option maxHeartbeats 1600000 in
theorem specSeamDifferences_c (p : Pattern) (pa : Option Addr) (pc : Nat) (sa : Option Addr) (sc : Nat) (w : World) (hp : LieP w pa sa p) (hl : totPattern p ≤ 1048576) :
    Calls Try.prog 19 #[.agg #[.slice pa p.pieces.length pc, .slice sa p.seams.length sc, .int .i64 p.openings]] w fun en w' => ∃ v, en = .returned (.tuple #[v, .int .i64 (sdCode p)]) ∧ Own w.heap.size w' 2 v (sdOf p) ∧ Below w.heap.size w w' := by
  have l2 := (tot_okp hl).2
  obtain ⟨w1, hw1, V, hs1, hb⟩ := patW_new p pa pc sa sc w
  replace hw1 := Lib.hid hw1
  cases h1 : okPattern p
  · have hr : sdCode p = 1 := by simp [sdCode, h1]
    have hr' : sdOf p = [] := by simp [sdOf, h1]
    rw [hr, hr']
    clear hr hr'
    go_enter Try.func19, Try.ntmps19
    go_wp2_with fail
    rw [hw1.out]
    refine (as_boolB h1 (l08Ok_c p _ _ _ _ _ _ (PatV.of V (hp.below hb)) hl)).mono ?_
    rintro e w2 ⟨rfl, hb2⟩
    replace hb := upw hb hb2
    go_wp2_with fail
    go_ret2
    exact ⟨_, rfl, World.ownsRow_nil _ _ _ _, hb⟩
  · have hr : sdCode p = 0 := by simp [sdCode, h1]
    have hr' : sdOf p = diffs p := by simp [sdOf, h1]
    rw [hr, hr']
    clear hr hr'
    have ok := Lib.hid (okp_of h1)
    go_enter Try.func19, Try.ntmps19
    go_wp2_with fail
    rw [hw1.out]
    refine (as_boolB h1 (l08Ok_c p _ _ _ _ _ _ (PatV.of V (hp.below hb)) hl)).mono ?_
    rintro e w2 ⟨rfl, hb2⟩
    have hb' := upw hb hb2
    have V2 := V.below hb2
    have hbs : w.heap.size + 1 ≤ w2.heap.size := by have := hb2.size; omega
    clear V hb hb2
    go_wp2_with fail
    go_loopw [4, 5] (fun v i wr => ∃ k : Nat, k ≤ p.seams.length ∧ i = .int .i64 k ∧ Own (w.heap.size + 1) wr 2 v ((diffs p).take k) ∧ Var wr w.heap.size [.slice pa p.pieces.length pc, .slice sa p.seams.length sc, .int .i64 p.openings] ∧ Below w.heap.size w wr) (fun _ i _ => p.seams.length - (intOf i).toNat)
    case atStart => exact ⟨0, Nat.zero_le _, rfl, (own_new _ _).base hbs, V2.below (new_below _ _), hb'.alloc hb'.size _⟩
    case round =>
      clear V2 hb' hbs
      obtain ⟨k, hk, rfl, hO, V, hb⟩ := hrel
      have hP := PatV.of V (hp.below hb)
      obtain ⟨d0, d1, d2, hL⟩ := id hP
      by_cases hlt : k < p.seams.length
      · have hx := hL.seams
        obtain ⟨b, off, rfl⟩ := hx.addr hlt
        have hbl := hx.lt hlt
        obtain ⟨c0, c1, c2, c3⟩ := hx.seam hlt
        have hs := Lib.hid (ok.out.seam _ (List.getElem_mem hlt))
        have E := Lib.hid (diffs_take p k hlt)
        have hlk := Lib.hid (show ((diffs p).take k).length ≤ k by rw [List.length_take]; omega)
        replace hO := Lib.hid hO
        replace hP := Lib.hid hP
        clear d0 d2 hL hx
        go_wp2_with fail
        refine (l08Diff_c p _ _ _ _ _ p.seams[k] _ hP.out ok.out hs.out).mono ?_
        rintro e w3 ⟨rfl, hb3⟩
        replace hb := upw hb hb3
        have V3 := V.below hb3
        have hO3 := Lib.hid (hO.out.later hb3)
        have hz := hb.size
        go_wp2_with (at_builtin; refine wpList_push rfl (.tmp 16) (.tmp 23) 49 rfl (w.heap.size + 1) 2 (.int .i64 0) 8 Try.underlying49 infoInt rfl _ _ (diffOf p p.seams[k]) rfl (hO3.out.later ((Below.refl _ _).alloc (Nat.le_refl _) _)) _ _ rfl 2 (heap_alloc_new _ _) (by have := hlk.out; omega) (by decide) (by simp; omega) ?_; intro v1 w7 hO1 hg1)
        go_roundw
        case rel => exact ⟨k + 1, by omega, by go_num, by rw [E.out]; exact hO1, (V3.below (new_below _ _)).grown hg1 (own_ne hO3.out (Nat.lt_succ_self _)), below_mark (hb.alloc hb.size _) (hO3.out.later ((Below.refl _ _).alloc (Nat.le_refl _) _)) (Nat.le_succ _) hg1⟩
        case measure => simp [intOf]; omega
      · obtain rfl : k = p.seams.length := by omega
        rw [List.take_of_length_le (by rw [diffs_length]; exact Nat.le_refl _)] at hO
        go_wp2_with fail
        go_ret2
        exact ⟨_, rfl, hO.base (Nat.le_succ _), hb⟩
end Go.Proofs.Ytlmhiocmldhkhaa
