/- Chapter 8, patterns: SamePattern, the program's and the reference's. -/
import Derived.Test.YtigaimehlcgobaaP08v
namespace Go.Proofs.Ytigaimehlcgobaa
open Go.RowKit

set_option maxHeartbeats 400000 in
theorem equalInts_any (a a' : Option Addr) (xs ys : List Int) (c c' : Nat) (w : World) (hx : At w a xs) (hy : At w a' ys)
   (hlx : xs.length ≤ 9223372036854775807) (hly : ys.length ≤ 9223372036854775807) :
    Calls Try.prog 56 #[.slice a xs.length c, .slice a' ys.length c'] w fun e w' => e = .returned (.bool (xs == ys)) ∧ Below w.heap.size w w' := by
  by_cases hl : xs.length = ys.length
  · have hne : ((xs.length : Int) != ys.length) = false := by simp [hl]
    have HL := Lib.hid hl
    clear hl hly
    go_enter Try.func56, Try.ntmps56
    go_wp2
    go_loopw [13, 5] (fun i _ wr => ∃ k : Nat, k ≤ xs.length ∧ i = .int .i64 k ∧ Upto xs ys k ∧ Below w.heap.size w wr) (fun i _ _ => xs.length - (intOf i).toNat)
    case atStart => exact ⟨0, Nat.zero_le _, rfl, upto_zero, Below.refl _ _⟩
    case round =>
      obtain ⟨k, hk, rfl, heq, hb⟩ := hrel
      have HE := Lib.hid heq
      clear heq
      have hx := hx.below hb
      have hy := hy.below hb
      by_cases hlt : k < xs.length
      · have hlt' : k < ys.length := by rw [← HL.out]; exact hlt
        obtain ⟨b, off, rfl⟩ := hx.addr hlt
        obtain ⟨b', off', rfl⟩ := hy.addr hlt'
        have c0 := rg (hx.int hlt)
        have d0 := rg (hy.int hlt')
        go_wp2
        refine wp_region_quiet_below (by kernel_rfl) (by kernel_rfl) ?_
        repeat (go_big_quiet_step ((fail)))
        refine wpQuiet_nil ?_
        intro w2 hw'
        replace hb := upw hb (grown_of hw')
        clear hw'
        go_wp2
        · have he : (xs[k] != ys[k]) = true := by assumption
          go_ret
          exact ⟨ret_bool (beq_of_ne hlt hlt' (by simpa using he)).symm, hb⟩
        · have he : (xs[k] != ys[k]) = false := by assumption
          go_roundw
          case rel => exact ⟨k + 1, by omega, by go_num, upto_succ HE.out (by simpa using he), hb⟩
          case measure => simp [intOf]; omega
      · go_wp2
        go_ret
        exact ⟨ret_bool (beq_of_upto HL.out (by omega) HE.out).symm, hb⟩
  · have hne : ((xs.length : Int) != ys.length) = true := by simp; omega
    go_enter Try.func56, Try.ntmps56
    go_wp2
    go_ret
    exact ⟨ret_bool (beq_of_len hl).symm, Below.refl _ _⟩
set_option maxHeartbeats 400000 in
theorem l00Same_c (a a' : Option Addr) (xs ys : List Int) (c c' : Nat) (w : World) (hx : At w a xs) (hy : At w a' ys)
   (hlx : xs.length ≤ 9223372036854775807) (hly : ys.length ≤ 9223372036854775807) :
    Calls Try.prog 50 #[.slice a xs.length c, .slice a' ys.length c'] w fun e w' => e = .returned (.bool (xs == ys)) ∧ Below w.heap.size w w' := by
  by_cases hl : xs.length = ys.length
  · have hne : ((xs.length : Int) != ys.length) = false := by simp [hl]
    have HL := Lib.hid hl
    clear hl hly
    go_enter Try.func50, Try.ntmps50
    go_wp2
    go_loopw [5] (fun i wr => ∃ k : Nat, k ≤ xs.length ∧ i = .int .i64 k ∧ Upto xs ys k ∧ Below w.heap.size w wr) (fun i _ => xs.length - (intOf i).toNat)
    case atStart => exact ⟨0, Nat.zero_le _, rfl, upto_zero, Below.refl _ _⟩
    case round =>
      obtain ⟨k, hk, rfl, heq, hb⟩ := hrel
      have HE := Lib.hid heq
      clear heq
      have hx := hx.below hb
      have hy := hy.below hb
      by_cases hlt : k < xs.length
      · have hlt' : k < ys.length := by rw [← HL.out]; exact hlt
        obtain ⟨b, off, rfl⟩ := hx.addr hlt
        obtain ⟨b', off', rfl⟩ := hy.addr hlt'
        have c0 := rg (hx.int hlt)
        have d0 := rg (hy.int hlt')
        go_wp2
        refine wp_region_quiet_below (by kernel_rfl) (by kernel_rfl) ?_
        repeat (go_big_quiet_step ((fail)))
        refine wpQuiet_nil ?_
        intro w2 hw'
        replace hb := upw hb (grown_of hw')
        clear hw'
        go_wp2
        · have he : (xs[k] != ys[k]) = true := by assumption
          go_ret
          exact ⟨ret_bool (beq_of_ne hlt hlt' (by simpa using he)).symm, hb⟩
        · have he : (xs[k] != ys[k]) = false := by assumption
          go_roundw
          case rel => exact ⟨k + 1, by omega, by go_num, upto_succ HE.out (by simpa using he), hb⟩
          case measure => simp [intOf]; omega
      · go_wp2
        go_ret
        exact ⟨ret_bool (beq_of_upto HL.out (by omega) HE.out).symm, hb⟩
  · have hne : ((xs.length : Int) != ys.length) = true := by simp; omega
    go_enter Try.func50, Try.ntmps50
    go_wp2
    go_ret
    exact ⟨ret_bool (beq_of_len hl).symm, Below.refl _ _⟩
theorem bytes_toList {a b : ByteArray} : a.toList = b.toList ↔ a = b := by
  rw [Lib.toList_data, Lib.toList_data]; exact ⟨Go.WideShapes.bytes_inj, fun h => by rw [h]⟩
theorem piece_eq (x y : Piece) : (x == y) = (x.name.toList == y.name.toList && x.edges == y.edges) := by
  rw [Bool.eq_iff_iff]; cases x; cases y; simp [bytes_toList]
theorem samePattern1_c (x y : Piece) (a a' : Option Addr) (c c' : Nat) (w : World) (hx : At w a x.edges) (hy : At w a' y.edges) (hlx : x.edges.length ≤ 9223372036854775807) (hly : y.edges.length ≤ 9223372036854775807) :
    Calls Try.prog 55 #[.agg #[.string x.name, .slice a x.edges.length c], .agg #[.string y.name, .slice a' y.edges.length c']] w fun e w' => e = .returned (.bool (x == y)) ∧ Below w.heap.size w w' := by
  obtain ⟨w1, hw1⟩ : ∃ w1, w1 = (w.alloc (.cells #[.string x.name, .slice a x.edges.length c] 64)).alloc (.cells #[.string y.name, .slice a' y.edges.length c'] 64) := ⟨_, rfl⟩
  have hb : Below w.heap.size w w1 := by rw [hw1]; exact upw (new_below _ _) (new_below _ _)
  replace hw1 := Lib.hid hw1
  rw [piece_eq]
  by_cases h1 : x.name.toList = y.name.toList
  · have h1' : (x.name.toList == y.name.toList) = true := by simpa using h1
    rw [h1']
    go_enter Try.func55, Try.ntmps55
    go_wp2_with fail
    rw [← hw1.out]
    refine (equalInts_any _ _ _ _ _ _ _ (hx.below hb) (hy.below hb) hlx hly).mono ?_
    rintro e w2 ⟨rfl, hb2⟩
    replace hb := upw hb hb2
    go_wp2_with fail
    go_ret
    exact ⟨by simp, hb⟩
  · have h1' : (x.name.toList == y.name.toList) = false := by simpa using h1
    rw [h1']
    go_enter Try.func55, Try.ntmps55
    go_wp2_with fail
    rw [← hw1.out]
    go_ret
    exact ⟨rfl, hb⟩
theorem samePattern1_enters : Enters Try.prog 55 := enters_of Try.func55 (by kernel_rfl) (by kernel_rfl)
set_option maxHeartbeats 800000 in
theorem equalPieces_any (a a' : Option Addr) (ps qs : List Piece) (c c' : Nat) (w : World) (hx : At w a ps) (hy : At w a' qs)
   (hlx : ps.length ≤ 9223372036854775807) (hly : qs.length ≤ 9223372036854775807) (hex : ∀ x ∈ ps, x.edges.length ≤ 9223372036854775807) (hey : ∀ x ∈ qs, x.edges.length ≤ 9223372036854775807) :
    Calls Try.prog 54 #[.slice a ps.length c, .slice a' qs.length c', .func (.func 55) #[] #[]] w fun e w' => e = .returned (.bool (ps == qs)) ∧ Below w.heap.size w w' := by
  have hK := samePattern1_enters
  unfold Enters at hK
  replace hex := Lib.hid hex
  replace hey := Lib.hid hey
  by_cases hl : ps.length = qs.length
  · have hne : ((ps.length : Int) != qs.length) = false := by simp [hl]
    have HL := Lib.hid hl
    clear hl hly
    go_enter Try.func54, Try.ntmps54
    go_wp2
    go_loopw [17, 7, 8, 9] (fun i _ _ _ wr => ∃ k : Nat, k ≤ ps.length ∧ i = .int .i64 k ∧ Upto ps qs k ∧ Below w.heap.size w wr) (fun i _ _ _ _ => ps.length - (intOf i).toNat)
    case atStart => exact ⟨0, Nat.zero_le _, rfl, upto_zero, Below.refl _ _⟩
    case round =>
      obtain ⟨k, hk, rfl, heq, hb⟩ := hrel
      have HE := Lib.hid heq
      clear heq
      have hx := hx.below hb
      have hy := hy.below hb
      by_cases hlt : k < ps.length
      · have hlt' : k < qs.length := by rw [← HL.out]; exact hlt
        obtain ⟨b, off, rfl⟩ := hx.addr hlt
        obtain ⟨b', off', rfl⟩ := hy.addr hlt'
        have hbl := hx.lt hlt
        have hbl' := hy.lt hlt'
        obtain ⟨ea, ec, c0, c1, hA⟩ := hx.piece hlt
        obtain ⟨ea', ec', d0, d1, hA'⟩ := hy.piece hlt'
        have e1 := hex.out _ (List.getElem_mem hlt)
        have e2 := hey.out _ (List.getElem_mem hlt')
        have hb3 : Below wr.heap.size wr ((wr.alloc (.cells #[.string ps[k].name, .slice ea ps[k].edges.length ec] 64)).alloc (.cells #[.string qs[k].name, .slice ea' qs[k].edges.length ec'] 64)) := upw (new_below _ _) (new_below _ _)
        have HB3 := Lib.hid hb3
        clear hb3
        cases he : ps[k] == qs[k]
        · go_wp2_with fail
          refine (as_boolB he (samePattern1_c _ _ _ _ _ _ _ (hA.below HB3.out) (hA'.below HB3.out) e1 e2)).mono ?_
          rintro e w2 ⟨rfl, hb2⟩
          replace hb := upw (upw hb HB3.out) hb2
          go_wp2_with fail
          go_ret
          exact ⟨ret_bool (beq_of_ne hlt hlt' (by simpa using he)).symm, hb⟩
        · go_wp2_with fail
          refine (as_boolB he (samePattern1_c _ _ _ _ _ _ _ (hA.below HB3.out) (hA'.below HB3.out) e1 e2)).mono ?_
          rintro e w2 ⟨rfl, hb2⟩
          replace hb := upw (upw hb HB3.out) hb2
          go_wp2_with fail
          go_roundw
          case rel => exact ⟨k + 1, by omega, by go_num, upto_succ HE.out (by simpa using he), hb⟩
          case measure => simp [intOf]; omega
      · go_wp2
        go_ret
        exact ⟨ret_bool (beq_of_upto HL.out (by omega) HE.out).symm, hb⟩
  · have hne : ((ps.length : Int) != qs.length) = true := by simp; omega
    go_enter Try.func54, Try.ntmps54
    go_wp2
    go_ret
    exact ⟨ret_bool (beq_of_len hl).symm, Below.refl _ _⟩
theorem pattern_eq (p q : Pattern) : (p == q) = (p.openings == q.openings && (p.seams == q.seams && p.pieces == q.pieces)) := by
  rw [Bool.eq_iff_iff]; cases p; cases q; simp; grind
theorem tot_bounds {p : Pattern} (hl : totPattern p ≤ 1048576) : p.pieces.length ≤ 1048576 ∧ p.seams.length ≤ 1048576 ∧ ∀ x ∈ p.pieces, x.name.size ≤ 1048576 ∧ x.edges.length ≤ 1048576 := by
  refine ⟨by unfold totPattern totPieces at hl; omega, by unfold totPattern at hl; omega, fun x hx => ?_⟩
  obtain ⟨i, hi, rfl⟩ := List.mem_iff_getElem.1 hx
  have := sumN_mem totPiece p.pieces i hi
  unfold totPattern totPieces at hl; unfold totPiece at *; omega
theorem patV_new2 (p q : Pattern) (pa : Option Addr) (pc : Nat) (sa : Option Addr) (sc : Nat) (qa : Option Addr) (qc : Nat) (ra : Option Addr) (rc : Nat) (w : World) (hp : LieP w pa sa p) (hq : LieP w qa ra q) :
    ∃ w1, (w.alloc (.cells #[.slice pa p.pieces.length pc, .slice sa p.seams.length sc, .int .i64 p.openings] 31)).alloc (.cells #[.slice qa q.pieces.length qc, .slice ra q.seams.length rc, .int .i64 q.openings] 31) = w1 ∧
      PatV w1 w.heap.size pa pc sa sc p ∧ PatV w1 (w.heap.size + 1) qa qc ra rc q ∧ Below w.heap.size w w1 := by
  obtain ⟨w1, hw1, hP, hs1, hb1⟩ := patV_new p pa pc sa sc w hp
  obtain ⟨w2, hw2, hQ, hs2, hb2⟩ := patV_new q qa qc ra rc w1 (hq.below hb1)
  refine ⟨w2, by rw [hw1, hw2], hP.below hb2, by rw [← hs1]; exact hQ, upw hb1 hb2⟩
set_option maxHeartbeats 800000 in
theorem implSamePattern_c (p : Pattern) (pa : Option Addr) (pc : Nat) (sa : Option Addr) (sc : Nat) (q : Pattern) (qa : Option Addr) (qc : Nat) (ra : Option Addr) (rc : Nat) (w : World) (hp : LieP w pa sa p) (hl : totPattern p ≤ 1048576) (hq : LieP w qa ra q) (hm : totPattern q ≤ 1048576) :
    Calls Try.prog 17 #[.agg #[.slice pa p.pieces.length pc, .slice sa p.seams.length sc, .int .i64 p.openings], .agg #[.slice qa q.pieces.length qc, .slice ra q.seams.length rc, .int .i64 q.openings]] w fun e w' => e = .returned (.bool (p == q)) ∧ Below w.heap.size w w' := by
  obtain ⟨l1, l2, l3⟩ := tot_bounds hl
  obtain ⟨m1, m2, m3⟩ := tot_bounds hm
  replace l3 := Lib.hid l3
  replace m3 := Lib.hid m3
  obtain ⟨w1, hw1, hP, hQ, hb⟩ := patV_new2 p q pa pc sa sc qa qc ra rc w hp hq
  have HW := Lib.hid hw1
  clear hw1
  rw [pattern_eq]
  have C2 : Hid (∀ w' b, b = (p.seams == q.seams) → LieP w' pa sa p → LieP w' qa ra q → Calls Try.prog 53 #[.slice sa p.seams.length sc, .slice ra q.seams.length rc] w' fun e w'' => e = .returned (.bool b) ∧ Below w'.heap.size w' w'') := Lib.hid fun w' b hb h1 h2 => as_boolB hb.symm (equalSeams_any _ _ _ _ _ _ _ h1.seams h2.seams (by omega) (by omega))
  have C3 : Hid (∀ w', LieP w' pa sa p → LieP w' qa ra q → Calls Try.prog 54 #[.slice pa p.pieces.length pc, .slice qa q.pieces.length qc, .func (.func 55) #[] #[]] w' fun e w'' => e = .returned (.bool (p.pieces == q.pieces)) ∧ Below w'.heap.size w' w'') := Lib.hid fun w' h1 h2 => equalPieces_any _ _ _ _ _ _ _ h1.pieces h2.pieces (by omega) (by omega) (fun x hx => by have := l3.out x hx; omega) (fun x hx => by have := m3.out x hx; omega)
  obtain ⟨c0, c1, c2, hL⟩ := id hP
  obtain ⟨d0, d1, d2, hM⟩ := id hQ
  by_cases h1 : p.openings = q.openings
  · have h1' : (p.openings == q.openings) = true := by simpa using h1
    rw [h1']
    replace h1 := Lib.hid h1
    cases h2 : p.seams == q.seams
    · go_enter Try.func17, Try.ntmps17
      go_wp2_with fail
      rw [HW.out]
      refine (C2.out _ _ h2.symm hL hM).mono ?_
      rintro e w2 ⟨rfl, hb2⟩
      replace hb := upw hb hb2
      go_wp2_with fail
      go_ret
      exact ⟨rfl, hb⟩
    · go_enter Try.func17, Try.ntmps17
      go_wp2_with fail
      rw [HW.out]
      refine (C2.out _ _ h2.symm hL hM).mono ?_
      rintro e w2 ⟨rfl, hb2⟩
      replace hb := upw hb hb2
      clear c0 c1 c2 d0 d1 d2
      obtain ⟨c0, c1, c2, hL⟩ := hP.below hb2
      obtain ⟨d0, d1, d2, hM⟩ := hQ.below hb2
      go_wp2_with fail
      refine (C3.out _ hL hM).mono ?_
      rintro e w3 ⟨rfl, hb3⟩
      replace hb := upw hb hb3
      go_wp2_with fail
      go_ret
      exact ⟨by simp, hb⟩
  · have h1' : (p.openings == q.openings) = false := by simpa using h1
    rw [h1']
    replace h1 := Lib.hid h1
    go_enter Try.func17, Try.ntmps17
    go_wp2_with fail
    rw [HW.out]
    go_ret
    exact ⟨rfl, hb⟩
section
attribute [local go_sem ↓] seam_neq
set_option maxRecDepth 100000 in
set_option maxHeartbeats 1600000 in
theorem specSamePattern_c (p : Pattern) (pa : Option Addr) (pc : Nat) (sa : Option Addr) (sc : Nat) (q : Pattern) (qa : Option Addr) (qc : Nat) (ra : Option Addr) (rc : Nat) (w : World) (hp : LieP w pa sa p) (hl : totPattern p ≤ 1048576) (hq : LieP w qa ra q) (hm : totPattern q ≤ 1048576) :
    Calls Try.prog 15 #[.agg #[.slice pa p.pieces.length pc, .slice sa p.seams.length sc, .int .i64 p.openings], .agg #[.slice qa q.pieces.length qc, .slice ra q.seams.length rc, .int .i64 q.openings]] w fun e w' => e = .returned (.bool (p == q)) ∧ Below w.heap.size w w' := by
  obtain ⟨l1, l2, l3⟩ := tot_bounds hl
  obtain ⟨m1, m2, m3⟩ := tot_bounds hm
  replace l3 := Lib.hid l3
  replace m3 := Lib.hid m3
  obtain ⟨w1, hw1, hP, hQ, hb⟩ := patV_new2 p q pa pc sa sc qa qc ra rc w hp hq
  have HW := Lib.hid hw1
  clear hw1
  have HE := Lib.hid (pattern_eq p q)
  obtain ⟨c0, c1, c2, hL⟩ := id hP
  obtain ⟨d0, d1, d2, hM⟩ := id hQ
  by_cases h1 : p.pieces.length = q.pieces.length
  · have n1 : ((p.pieces.length : Int) != q.pieces.length) = false := by simp [h1]
    by_cases h2 : p.seams.length = q.seams.length
    · have n2 : ((p.seams.length : Int) != q.seams.length) = false := by simp [h2]
      by_cases h3 : p.openings = q.openings
      · have n3 : (p.openings != q.openings) = false := by simp [h3]
        replace h1 := Lib.hid h1
        replace h2 := Lib.hid h2
        replace h3 := Lib.hid h3
        go_enter Try.func15, Try.ntmps15
        go_wp2_with fail
        rw [HW.out]
        clear c0 c1 c2 hL d0 d1 d2 hM
        go_loopw [5] (fun i wr => ∃ k : Nat, k ≤ p.pieces.length ∧ i = .int .i64 k ∧ Upto p.pieces q.pieces k ∧ PatV wr w.heap.size pa pc sa sc p ∧ PatV wr (w.heap.size + 1) qa qc ra rc q ∧ Below w.heap.size w wr) (fun i _ => p.pieces.length - (intOf i).toNat)
        case atStart => exact ⟨0, Nat.zero_le _, rfl, upto_zero, hP, hQ, hb⟩
        case round =>
          clear hP hQ hb
          obtain ⟨k, hk, rfl, heq, hP, hQ, hb⟩ := hrel
          replace heq := Lib.hid heq
          obtain ⟨c0, c1, c2, hL⟩ := id hP
          obtain ⟨d0, d1, d2, hM⟩ := id hQ
          by_cases hlt : k < p.pieces.length
          · have hlt' : k < q.pieces.length := by rw [← h1.out]; exact hlt
            obtain ⟨b, off, ea, ec, rfl, hbl, hV⟩ := hL.pieV hlt
            obtain ⟨b', off', ea', ec', rfl, hbl', hV'⟩ := hM.pieV hlt'
            have e1 := l3.out _ (List.getElem_mem hlt)
            have e2 := m3.out _ (List.getElem_mem hlt')
            have r0 := rg c0
            have s0 := rg d0
            have r3 := rg hV.c0
            have r4 := rg hV.c1
            have s3 := rg hV'.c0
            have s4 := rg hV'.c1
            have hpe := Lib.hid (piece_eq p.pieces[k] q.pieces[k])
            replace hV := Lib.hid hV
            replace hV' := Lib.hid hV'
            clear c1 c2 d1 d2
            by_cases hn : p.pieces[k].name.toList = q.pieces[k].name.toList
            · have hn1 : (p.pieces[k].name.toList == q.pieces[k].name.toList) = true := by simpa using hn
              have hn2 : (p.pieces[k].name.toList != q.pieces[k].name.toList) = false := by simpa using hn
              cases he : p.pieces[k].edges == q.pieces[k].edges
              · have hr : Hid ((p.pieces == q.pieces) = false) := Lib.hid (beq_of_ne hlt hlt' (by have := hpe.out; rw [he] at this; simpa using this))
                go_wp2_with fail
                refine wp_region_quiet_below (by kernel_rfl) (by kernel_rfl) ?_
                repeat (go_big_quiet_step ((go_at_call 50; exact Calls.regrown_of (as_boolB he (l00Same_c _ _ _ _ _ _ _ (hV.out.edges.below (grown_of ⟨⟨_, _⟩, rfl⟩)) (hV'.out.edges.below (grown_of ⟨⟨_, _⟩, rfl⟩)) (by omega) (by omega))))))
                refine wpQuiet_nil ?_
                intro w2 hw'
                replace hb := upw hb (grown_of hw')
                clear hw'
                go_wp2_with fail
                go_ret
                exact ⟨ret_bool (by rw [HE.out, hr.out]; simp), hb⟩
              · have hr : Hid (p.pieces[k] = q.pieces[k]) := Lib.hid (by have := hpe.out; rw [he, hn1] at this; simpa using this)
                go_wp2_with fail
                refine wp_region_quiet_below (by kernel_rfl) (by kernel_rfl) ?_
                repeat (go_big_quiet_step ((go_at_call 50; exact Calls.regrown_of (as_boolB he (l00Same_c _ _ _ _ _ _ _ (hV.out.edges.below (grown_of ⟨⟨_, _⟩, rfl⟩)) (hV'.out.edges.below (grown_of ⟨⟨_, _⟩, rfl⟩)) (by omega) (by omega))))))
                refine wpQuiet_nil ?_
                intro w2 hw'
                replace hb := upw hb (grown_of hw')
                have hw2 := grown_of hw'
                clear hw'
                go_wp2_with fail
                go_roundw
                case rel => exact ⟨k + 1, by omega, by go_num, upto_succ heq.out hr.out, hP.below hw2, hQ.below hw2, hb⟩
                case measure => simp [intOf]; omega
            · have hn1 : (p.pieces[k].name.toList == q.pieces[k].name.toList) = false := by simpa using hn
              have hn2 : (p.pieces[k].name.toList != q.pieces[k].name.toList) = true := by simpa using hn
              have hr : Hid ((p.pieces == q.pieces) = false) := Lib.hid (beq_of_ne hlt hlt' (by have := hpe.out; rw [hn1] at this; simpa using this))
              go_wp2_with fail
              refine wp_region_quiet_below (by kernel_rfl) (by kernel_rfl) ?_
              repeat (go_big_quiet_step ((fail)))
              refine wpQuiet_nil ?_
              intro w2 hw'
              replace hb := upw hb (grown_of hw')
              clear hw'
              go_wp2_with fail
              go_ret
              exact ⟨ret_bool (by rw [HE.out, hr.out]; simp), hb⟩
          · have hpp : Hid ((p.pieces == q.pieces) = true) := Lib.hid (beq_of_upto h1.out (by omega) heq.out)
            clear c2 d2
            go_wp2_with fail
            clear c0 c1 d0 d1
            go_loopw [6] (fun i wr => ∃ k : Nat, k ≤ p.seams.length ∧ i = .int .i64 k ∧ Upto p.seams q.seams k ∧ PatV wr w.heap.size pa pc sa sc p ∧ PatV wr (w.heap.size + 1) qa qc ra rc q ∧ Below w.heap.size w wr) (fun i _ => p.seams.length - (intOf i).toNat)
            case atStart => exact ⟨0, Nat.zero_le _, rfl, upto_zero, hP, hQ, hb⟩
            case round =>
              clear hP hQ hb hL hM heq
              obtain ⟨m, hk, rfl, heq, hP, hQ, hb⟩ := hrel
              replace heq := Lib.hid heq
              obtain ⟨c0, c1, c2, hL⟩ := id hP
              obtain ⟨d0, d1, d2, hM⟩ := id hQ
              by_cases hlt : m < p.seams.length
              · have hlt' : m < q.seams.length := by rw [← h2.out]; exact hlt
                have hx := hL.seams
                have hy := hM.seams
                obtain ⟨b, off, rfl⟩ := hx.addr hlt
                obtain ⟨b', off', rfl⟩ := hy.addr hlt'
                obtain ⟨x0, x1, x2, x3⟩ := hx.seam hlt
                obtain ⟨y0, y1, y2, y3⟩ := hy.seam hlt'
                replace x0 := rg x0
                replace x1 := rg x1
                replace x2 := rg x2
                replace x3 := rg x3
                replace y0 := rg y0
                replace y1 := rg y1
                replace y2 := rg y2
                replace y3 := rg y3
                have r1 := rg c1
                have s1 := rg d1
                clear c0 c2 d0 d2 hx hy hL hM
                go_wp2_with fail
                refine wp_region_quiet_below (by kernel_rfl) (by kernel_rfl) ?_
                repeat (go_big_quiet_step ((fail)))
                refine wpQuiet_nil ?_
                intro w2 hw'
                replace hb := upw hb (grown_of hw')
                have hw2 := grown_of hw'
                clear hw'
                go_wp2_with fail
                · have he : (!p.seams[m] == q.seams[m]) = true := by assumption
                  go_ret
                  exact ⟨ret_bool (by rw [HE.out, beq_of_ne hlt hlt' (by simpa using he)]; simp), hb⟩
                · have he : (!p.seams[m] == q.seams[m]) = false := by assumption
                  go_roundw
                  case rel => exact ⟨m + 1, by omega, by go_num, upto_succ heq.out (by simpa using he), hP.below hw2, hQ.below hw2, hb⟩
                  case measure => simp [intOf]; omega
              · go_wp2_with fail
                go_ret
                exact ⟨ret_bool (by rw [HE.out, hpp.out, beq_of_upto h2.out (by omega) heq.out]; simp [h3.out]), hb⟩
      · have n3 : (p.openings != q.openings) = true := by simpa using h3
        have hr : Hid ((p == q) = false) := Lib.hid (by rw [pattern_eq]; simp [h3])
        replace h1 := Lib.hid h1
        replace h2 := Lib.hid h2
        replace h3 := Lib.hid h3
        go_enter Try.func15, Try.ntmps15
        go_wp2_with fail
        rw [HW.out]
        go_ret
        exact ⟨ret_bool hr.out.symm, hb⟩
    · have n2 : ((p.seams.length : Int) != q.seams.length) = true := by simp; omega
      have hr : Hid ((p == q) = false) := Lib.hid (by rw [pattern_eq, beq_of_len h2]; simp)
      replace h1 := Lib.hid h1
      replace h2 := Lib.hid h2
      go_enter Try.func15, Try.ntmps15
      go_wp2_with fail
      rw [HW.out]
      go_ret
      exact ⟨ret_bool hr.out.symm, hb⟩
  · have n1 : ((p.pieces.length : Int) != q.pieces.length) = true := by simp; omega
    have hr : Hid ((p == q) = false) := Lib.hid (by rw [pattern_eq, beq_of_len h1]; simp)
    replace h1 := Lib.hid h1
    go_enter Try.func15, Try.ntmps15
    go_wp2_with fail
    rw [HW.out]
    go_ret
    exact ⟨ret_bool hr.out.symm, hb⟩
end
end Go.Proofs.Ytigaimehlcgobaa
