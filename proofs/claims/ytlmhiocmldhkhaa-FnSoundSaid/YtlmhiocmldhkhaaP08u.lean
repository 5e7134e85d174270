/- Chapter 8, patterns: the first fault, the program's and the reference's. -/
import Derived.Test.YtlmhiocmldhkhaaP08t
import Derived.Test.YtlmhiocmldhkhaaP08p
namespace Go.Proofs.Ytlmhiocmldhkhaa
open Go.RowKit

def dIdx (p : Pattern) (most : Int) : Int := firstIdx (fun x => decide (most < x)) (diffs p)
def pIdx (p : Pattern) : Int := firstIdx (fun x => decide (0 < x)) (partsL p)
def faultOf (p : Pattern) (most : Int) : Int × Int :=
  if 0 ≤ dIdx p most then (1, dIdx p most) else if 0 ≤ pIdx p then (2, pIdx p) else if ((openings p).length : Int) ≠ p.openings then (3, (openings p).length) else (0, 0)
def ff (p : Pattern) (most : Int) : Int × Int × Int :=
  if okPattern p then if inr most 0 10000 then if (faultOf p most).1 = 0 then (0, 0, 3) else ((faultOf p most).1, (faultOf p most).2, 0) else (0, 0, 2) else (0, 0, 1)
theorem firstIdx_lo {α : Type} (p : α → Bool) (xs : List α) : -1 ≤ firstIdx p xs := by
  unfold firstIdx; split <;> omega
theorem firstFault1_c (n most : Int) (q : Addr) (w : World) (h1 : w.cell? q = some (.int .i64 most)) :
    Calls Try.prog 49 #[.int .i64 n, .pointer (some q)] w fun e w' => e = .returned (.bool (decide (most < n))) ∧ Below w.heap.size w w' := by
  by_cases h : most < n
  · rw [decide_eq_true h]
    go_enter Try.func49, Try.ntmps49
    go_wp2_with fail
    go_ret
    exact ⟨rfl, Below.refl _ _⟩
  · rw [decide_eq_false h]
    go_enter Try.func49, Try.ntmps49
    go_wp2_with fail
    go_ret
    exact ⟨rfl, Below.refl _ _⟩
theorem firstFault1_enters : Enters Try.prog 49 := enters_of Try.func49 (by kernel_rfl) (by kernel_rfl)
theorem firstFault2_c (n : Int) (w : World) :
    Calls Try.prog 51 #[.int .i64 n] w fun e w' => e = .returned (.bool (decide (0 < n))) ∧ Below w.heap.size w w' := by
  by_cases h : 0 < n
  · rw [decide_eq_true h]
    go_enter Try.func51, Try.ntmps51
    go_wp2_with fail
    go_ret
    exact ⟨rfl, Below.refl _ _⟩
  · rw [decide_eq_false h]
    go_enter Try.func51, Try.ntmps51
    go_wp2_with fail
    go_ret
    exact ⟨rfl, Below.refl _ _⟩
theorem firstFault2_enters : Enters Try.prog 51 := enters_of Try.func51 (by kernel_rfl) (by kernel_rfl)
set_option maxRecDepth 100000 in
set_option maxHeartbeats 3200000 in
theorem implFirstFault_c (p : Pattern) (pa : Option Addr) (pc : Nat) (sa : Option Addr) (sc : Nat) (most : Int) (w : World) (hp : LieP w pa sa p) (hl : totPattern p ≤ 1048576) (hn : -9223372036854775808 ≤ most ∧ most ≤ 9223372036854775807) :
    Calls Try.prog 18 #[.agg #[.slice pa p.pieces.length pc, .slice sa p.seams.length sc, .int .i64 p.openings], .int .i64 most] w fun en w' => en = .returned (.tuple #[.int .i64 (ff p most).1, .int .i64 (ff p most).2.1, .int .i64 (ff p most).2.2]) ∧ Below w.heap.size w w' := by
  obtain ⟨w0, hw0, V0, hs0, hb0⟩ := patW_new p pa pc sa sc w
  obtain ⟨w1, hw1⟩ : ∃ w1, w1 = w0.alloc (.cells #[.int .i64 most] 2) := ⟨_, rfl⟩
  have hb1 : Below w0.heap.size w0 w1 := by rw [hw1]; exact new_below _ _
  have U : Var w1 (w.heap.size + 1) [.int .i64 most] := by rw [hw1, ← hs0]; exact Var.new1 _ _ _
  have V := V0.below hb1
  have hb := upw hb0 hb1
  have HW := Lib.hid (show (w.alloc (.cells #[.slice pa p.pieces.length pc, .slice sa p.seams.length sc, .int .i64 p.openings] 32)).alloc (.cells #[.int .i64 most] 2) = w1 by rw [hw1, hw0])
  clear hw0 V0 hs0 hb0 hw1 hb1
  have c0 := V.cell 0 _ rfl
  have c1 := V.cell 1 _ rfl
  have c2 := V.cell 2 _ rfl
  have u0 := U.cell 0 _ rfl
  cases h1 : okPattern p
  · have hr : ff p most = (0, 0, 1) := by simp [ff, h1]
    rw [hr]
    clear hr
    go_enter Try.func18, Try.ntmps18
    go_wp2_with fail
    rw [HW.out]
    refine (as_boolB h1 (implValidPattern_c p _ _ _ _ _ (hp.below hb) hl)).mono ?_
    rintro e w2 ⟨rfl, hb2⟩
    replace hb := upw hb hb2
    go_wp2_with fail
    go_ret3
    exact ⟨rfl, hb⟩
  · have ok := Lib.hid (okp_of h1)
    cases h2 : inr most 0 10000
    · have hr : ff p most = (0, 0, 2) := by simp [ff, h1, h2]
      rw [hr]
      clear hr
      go_enter Try.func18, Try.ntmps18
      go_wp2_with fail
      rw [HW.out]
      refine (as_boolB h1 (implValidPattern_c p _ _ _ _ _ (hp.below hb) hl)).mono ?_
      rintro e w2 ⟨rfl, hb2⟩
      replace hb := upw hb hb2
      clear u0
      have u0 := (U.below hb2).cell 0 _ rfl
      go_wp2_with fail
      refine (within_c _ _ _ _).mono ?_
      rintro e w' ⟨rfl, rfl⟩
      go_wp2_with fail
      go_ret3
      exact ⟨rfl, hb⟩
    · have hr : ff p most = if (faultOf p most).1 = 0 then (0, 0, 3) else ((faultOf p most).1, (faultOf p most).2, 0) := by simp [ff, h1, h2]
      have HFF := Lib.hid hr
      clear hr
      have hdl : Hid ((diffs p).length ≤ 1048576) := Lib.hid (by rw [diffs_length]; exact (tot_okp hl).2)
      have hpl : Hid ((partsL p).length ≤ 10) := Lib.hid (by rw [partsL_length]; exact ok.out.n10)
      obtain ⟨d, hd⟩ : ∃ d, d = dIdx p most := ⟨_, rfl⟩
      have hd0 : -1 ≤ d := by rw [hd]; exact firstIdx_lo _ _
      obtain ⟨q, hq⟩ : ∃ q, q = pIdx p := ⟨_, rfl⟩
      have hq0 : -1 ≤ q := by rw [hq]; exact firstIdx_lo _ _
      have HF : Hid (faultOf p most = if 0 ≤ d then (1, d) else if 0 ≤ q then (2, q) else if ((openings p).length : Int) ≠ p.openings then (3, (openings p).length) else (0, 0)) := Lib.hid (by rw [hd, hq]; rfl)
      replace hd := Lib.hid hd
      replace hq := Lib.hid hq
      have h2' := Lib.hid h2
      go_enter Try.func18, Try.ntmps18
      go_wp2_with fail
      rw [HW.out]
      refine (as_boolB h1 (implValidPattern_c p _ _ _ _ _ (hp.below hb) hl)).mono ?_
      rintro e w2 ⟨rfl, hb2⟩
      replace hb := upw hb hb2
      replace V := V.below hb2
      replace U := U.below hb2
      clear u0 c0 c1 c2
      have u0 := U.cell 0 _ rfl
      have c0 := V.cell 0 _ rfl
      have c1 := V.cell 1 _ rfl
      have c2 := V.cell 2 _ rfl
      go_wp2_with fail
      refine (within_c _ _ _ _).mono ?_
      rintro e w' ⟨rfl, rfl⟩
      go_wp2_with fail
      refine (differences_c p _ _ _ _ _ (hp.below hb) hl ok.out).mono ?_
      rintro e w3 ⟨v3, rfl, hO3, hb3⟩
      obtain ⟨a3, k3, rfl, hA3⟩ := hO3.at
      replace hb := upw hb hb3
      replace V := V.below hb3
      replace U := U.below hb3
      clear u0 c0 c1 c2
      have u0 := U.cell 0 _ rfl
      have hI := Lib.hid (indexInts_any a3 (diffs p) k3 49 #[.pointer (some ⟨w.heap.size + 1, 0, none⟩)] (fun x => decide (most < x)) w3 firstFault1_enters hA3 (by have := hdl.out; omega) (fun x _ w' hb' => firstFault1_c x most _ w' (kept_cell u0 hb')))
      rw [show firstIdx (fun x => decide (most < x)) (diffs p) = d from hd.out.symm] at hI
      clear hA3 hO3
      go_wp2_with fail
      refine hI.out.mono ?_
      rintro e w4 ⟨rfl, hb4⟩
      replace hb := upw hb hb4
      replace V := V.below hb4
      replace U := U.below hb4
      clear u0 hI
      have c0 := V.cell 0 _ rfl
      have c1 := V.cell 1 _ rfl
      have c2 := V.cell 2 _ rfl
      by_cases hdn : 0 ≤ d
      · have hr : Hid (faultOf p most = (1, d)) := Lib.hid (by rw [HF.out, if_pos (by omega)])
        go_wp2_with fail
        go_ret3
        exact ⟨by rw [HFF.out, hr.out]; rfl, hb⟩
      · go_wp2_with fail
        refine (parts_c p _ _ _ _ _ (hp.below hb) hl ok.out).mono ?_
        rintro e w5 ⟨v5, rfl, hO5, hb5⟩
        obtain ⟨a5, k5, rfl, hA5⟩ := hO5.at
        replace hb := upw hb hb5
        replace V := V.below hb5
        clear c0 c1 c2
        have hI := Lib.hid (indexInts_any a5 (partsL p) k5 51 #[] (fun x => decide (0 < x)) w5 firstFault2_enters hA5 (by have := hpl.out; omega) (fun x _ w' _ => by simpa using firstFault2_c x w'))
        rw [show firstIdx (fun x => decide (0 < x)) (partsL p) = q from hq.out.symm] at hI
        clear hA5 hO5
        go_wp2_with fail
        refine hI.out.mono ?_
        rintro e w6 ⟨rfl, hb6⟩
        replace hb := upw hb hb6
        replace V := V.below hb6
        clear hI
        have c0 := V.cell 0 _ rfl
        have c1 := V.cell 1 _ rfl
        have c2 := V.cell 2 _ rfl
        by_cases hqn : 0 ≤ q
        · have hr : Hid (faultOf p most = (2, q)) := Lib.hid (by rw [HF.out, if_neg (by omega), if_pos (by omega)])
          go_wp2_with fail
          go_ret3
          exact ⟨by rw [HFF.out, hr.out]; rfl, hb⟩
        · go_wp2_with fail
          refine (openings_c p _ _ _ _ _ (hp.below hb) hl ok.out).mono ?_
          rintro e w7 ⟨v7, rfl, hO7, hb7⟩
          obtain ⟨a7, k7, rfl, hA7⟩ := hO7.at
          replace hb := upw hb hb7
          replace V := V.below hb7
          clear c0 c1 c2 hA7 hO7
          have c2 := V.cell 2 _ rfl
          obtain ⟨n, hnn⟩ : ∃ n, n = (openings p).length := ⟨_, rfl⟩
          rw [← hnn] at HF
          rw [← hnn]
          replace hnn := Lib.hid hnn
          by_cases hne : (n : Int) = p.openings
          · have hne' : ((n : Int) != p.openings) = false := by simpa using hne
            have hr : Hid (faultOf p most = (0, 0)) := Lib.hid (by rw [HF.out, if_neg (by omega), if_neg (by omega), if_neg (by simpa using hne)])
            replace hne := Lib.hid hne
            go_wp2_with fail
            go_ret3
            exact ⟨by rw [HFF.out, hr.out]; rfl, hb⟩
          · have hne' : ((n : Int) != p.openings) = true := by simpa using hne
            have hr : Hid (faultOf p most = (3, (n : Int))) := Lib.hid (by rw [HF.out, if_neg (by omega), if_neg (by omega), if_pos hne])
            replace hne := Lib.hid hne
            go_wp2_with fail
            go_ret3
            exact ⟨by rw [HFF.out, hr.out]; rfl, hb⟩
def cdOf (p : Pattern) (most : Int) : Int := if okPattern p then if inr most 0 10000 then 0 else 2 else 1
theorem cdOf_cases (p : Pattern) (most : Int) : (cdOf p most = 0 ∧ okPattern p = true ∧ inr most 0 10000 = true) ∨ (cdOf p most = 2 ∧ okPattern p = true ∧ inr most 0 10000 = false) ∨ (cdOf p most = 1 ∧ okPattern p = false) := by
  unfold cdOf
  cases okPattern p <;> cases inr most 0 10000 <;> simp
theorem fault_kinds (p : Pattern) (most : Int) : (faultOf p most).1 = 0 ∨ (faultOf p most).1 = 1 ∨ (faultOf p most).1 = 2 ∨ (faultOf p most).1 = 3 := by
  unfold faultOf
  split
  · simp
  · split
    · simp
    · split <;> simp
def isSnd (p : Pattern) (most : Int) : Bool := decide (cdOf p most = 0) && decide ((faultOf p most).1 = 0)
theorem ff_code (p : Pattern) (most : Int) : ((ff p most).2.2 = 0 ∧ isSnd p most = false ∧ cdOf p most = 0) ∨ ((ff p most).2.2 = 3 ∧ isSnd p most = true ∧ cdOf p most = 0) ∨ ((ff p most).2.2 = cdOf p most ∧ isSnd p most = false ∧ (cdOf p most = 1 ∨ cdOf p most = 2)) := by
  rcases cdOf_cases p most with ⟨hc, h1, h2⟩ | ⟨hc, h1, h2⟩ | ⟨hc, h1⟩
  · by_cases h : (faultOf p most).1 = 0 <;> simp [ff, isSnd, hc, h1, h2, h]
  · simp [ff, isSnd, hc, h1, h2]
  · simp [ff, isSnd, hc, h1]
set_option maxHeartbeats 800000 in
theorem implIsSound_c (p : Pattern) (pa : Option Addr) (pc : Nat) (sa : Option Addr) (sc : Nat) (most : Int) (w : World) (hp : LieP w pa sa p) (hl : totPattern p ≤ 1048576) (hn : -9223372036854775808 ≤ most ∧ most ≤ 9223372036854775807) :
    Calls Try.prog 17 #[.agg #[.slice pa p.pieces.length pc, .slice sa p.seams.length sc, .int .i64 p.openings], .int .i64 most] w fun en w' => en = .returned (.tuple #[.bool (isSnd p most), .int .i64 (cdOf p most)]) ∧ Below w.heap.size w w' := by
  obtain ⟨w1, hw1, V, hs1, hb⟩ := patW_new p pa pc sa sc w
  have c0 := V.cell 0 _ rfl
  have c1 := V.cell 1 _ rfl
  have c2 := V.cell 2 _ rfl
  replace hw1 := Lib.hid hw1
  replace hs1 := Lib.hid hs1
  have HC := Lib.hid (implFirstFault_c p pa pc sa sc most w1 (hp.below hb) hl hn)
  obtain ⟨A, hA⟩ : ∃ A, A = (ff p most).1 := ⟨_, rfl⟩
  obtain ⟨B, hB⟩ : ∃ B, B = (ff p most).2.1 := ⟨_, rfl⟩
  rw [← hA, ← hB] at HC
  replace hA := Lib.hid hA
  replace hB := Lib.hid hB
  rcases ff_code p most with ⟨h1, h2, h3⟩ | ⟨h1, h2, h3⟩ | ⟨h1, h2, h3⟩
  · rw [h1] at HC
    rw [h2, h3]
    replace h1 := Lib.hid h1
    replace h2 := Lib.hid h2
    replace h3 := Lib.hid h3
    go_enter Try.func17, Try.ntmps17
    go_wp2_with fail
    rw [hw1.out]
    refine HC.out.mono ?_
    rintro e w2 ⟨rfl, hb2⟩
    replace hb := upw hb hb2
    go_wp2_with fail
    go_ret2
    exact ⟨rfl, hb⟩
  · rw [h1] at HC
    rw [h2, h3]
    replace h1 := Lib.hid h1
    replace h2 := Lib.hid h2
    replace h3 := Lib.hid h3
    go_enter Try.func17, Try.ntmps17
    go_wp2_with fail
    rw [hw1.out]
    refine HC.out.mono ?_
    rintro e w2 ⟨rfl, hb2⟩
    replace hb := upw hb hb2
    go_wp2_with fail
    go_ret2
    exact ⟨rfl, hb⟩
  · rw [h1] at HC
    rw [h2]
    obtain ⟨C, hC⟩ : ∃ C, C = cdOf p most := ⟨_, rfl⟩
    rw [← hC] at HC h3 ⊢
    replace h1 := Lib.hid h1
    replace h2 := Lib.hid h2
    replace hC := Lib.hid hC
    have e1 : (C == 0) = false := by simp; omega
    have e2 : (C == 3) = false := by simp; omega
    replace h3 := Lib.hid h3
    go_enter Try.func17, Try.ntmps17
    go_wp2_with fail
    rw [hw1.out]
    refine HC.out.mono ?_
    rintro e w2 ⟨rfl, hb2⟩
    replace hb := upw hb hb2
    go_wp2_with fail
    go_ret2
    exact ⟨rfl, hb⟩
end Go.Proofs.Ytlmhiocmldhkhaa
