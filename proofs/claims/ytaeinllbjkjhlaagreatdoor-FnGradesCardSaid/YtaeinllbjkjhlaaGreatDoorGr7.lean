/- Chapter 5, gradings: grades as texts, written. (Printed by wip/genGr7.py.) -/
import Derived.Test.YtaeinllbjkjhlaaGreatDoorGr6
import Derived.Test.YtaeinllbjkjhlaaGreatDoorReadU
namespace Go.Proofs.YtaeinllbjkjhlaaGreatDoor
open Go.RowKit

theorem join_snoc (sep : List UInt8) (xs : List (List UInt8)) (x : List UInt8) (h : xs ≠ []) : Lib.join (xs ++ [x]) sep = Lib.join xs sep ++ sep ++ x := by
  cases xs with
  | nil => exact absurd rfl h
  | cons y ys => simp [Lib.join_cons, Lib.joinTail]
def txtTo (g : Grade) (k : Nat) : ByteArray := numsT ⟨#[47]⟩ ((gNums g).take k)
def gTxt (g : Grade) : ByteArray := numsT ⟨#[47]⟩ (gNums g)
theorem txt_zero (g : Grade) : txtTo g 0 = ⟨#[]⟩ := rfl
theorem txt_five (g : Grade) : txtTo g 5 = gTxt g := rfl
theorem txt_one {g : Grade} (h : 0 < (gNums g).length) : txtTo g 1 = (⟨#[]⟩ : ByteArray) ++ decT (gNums g)[0] := by
  apply Go.WideShapes.bytes_inj
  have e : (txtTo g 1).data.toList = Lib.join [Lib.itoa g.Length] [47] := by unfold txtTo; rw [numsT_list]; rfl
  rw [e]
  have e2 : ((⟨#[]⟩ : ByteArray) ++ decT (gNums g)[0]).data.toList = (decT (gNums g)[0]).data.toList := by simp
  rw [e2, decT_list]
  simp [Lib.join_cons, Lib.joinTail, gNums]
theorem txt_succ {g : Grade} {k : Nat} (hk : k < (gNums g).length) (h0 : k ≠ 0) : txtTo g (k + 1) = txtTo g k ++ ⟨#[47]⟩ ++ decT (gNums g)[k] := by
  apply Go.WideShapes.bytes_inj
  have e : (txtTo g (k + 1)).data.toList = Lib.join (((gNums g).take k).map Lib.itoa ++ [Lib.itoa (gNums g)[k]]) [47] := by
    unfold txtTo
    rw [numsT_list, List.take_succ_eq_append_getElem hk, List.map_append]; rfl
  have e1 : (txtTo g k).data.toList = Lib.join (((gNums g).take k).map Lib.itoa) [47] := by unfold txtTo; rw [numsT_list]
  rw [e, join_snoc _ _ _ (by simp [gNums]; omega)]
  have e2 : (txtTo g k ++ ⟨#[47]⟩ ++ decT (gNums g)[k]).data.toList = (txtTo g k).data.toList ++ [47] ++ (decT (gNums g)[k]).data.toList := by simp
  rw [e2, e1, decT_list]
theorem dec_len {n : Int} (h : 0 ≤ n ∧ n ≤ 20000) : (decT n).size ≤ 21 := by
  have a4 : (Lib.itoa n).length ≤ 21 := Lib.itoa_length_le _ (by omega) (by omega)
  have : (decT n).size = (Lib.itoa n).length := by
    show (List.toArray _).size = _
    simp
  omega
theorem size_app (a b : ByteArray) : (a ++ b).size = a.size + b.size := ByteArray.size_append
theorem txt_len {g : Grade} (h : okGrade g = true) : ∀ k, k ≤ 5 → (txtTo g k).size ≤ 22 * k
  | 0, _ => by rw [txt_zero]; decide
  | 1, _ => by
    have h5 : 0 < (gNums g).length := Nat.succ_pos 4
    rw [txt_one h5, size_app]
    have := dec_len (gNums_in h _ (List.getElem_mem h5))
    have e : (⟨#[]⟩ : ByteArray).size = 0 := rfl
    omega
  | k + 2, hk => by
    have hl : k + 1 < (gNums g).length := by show k + 1 < 5; omega
    rw [txt_succ hl (by omega), size_app, size_app]
    have h1 := txt_len h (k + 1) (by omega)
    have h2 := dec_len (gNums_in h _ (List.getElem_mem hl))
    have e : (⟨#[47]⟩ : ByteArray).size = 1 := rfl
    omega
theorem gTxt_len {g : Grade} (h : okGrade g = true) : (gTxt g).size ≤ 110 := txt_len h 5 (Nat.le_refl _)
def gText (g : Grade) : ByteArray := if okGrade g then gTxt g else ⟨#[]⟩
theorem gText_ok {g : Grade} (h : okGrade g = true) : gText g = gTxt g := if_pos h
theorem gText_bad {g : Grade} (h : okGrade g = false) : gText g = ⟨#[]⟩ := if_neg (by rw [h]; decide)
set_option maxHeartbeats 1600000 in
theorem l05Text_c (g : Grade) (w : World) (hg : okGrade g = true) :
    Calls Tryz.prog 82 #[.agg #[.int .i64 g.Length, .int .i64 g.Ball, .int .i64 g.Instep, .int .i64 g.Heel, .int .i64 g.Pitch]] w fun e w' => e = .returned (.string (gTxt g)) ∧ Below w.heap.size w w' := by
  have hb0 : Below w.heap.size w (w.alloc (.cells #[.int .i64 g.Length, .int .i64 g.Ball, .int .i64 g.Instep, .int .i64 g.Heel, .int .i64 g.Pitch] 42)) := (Below.refl _ _).alloc (Nat.le_refl _) _
  have hin := Lib.hid (gNums_in hg)
  have hlen := Lib.hid (txt_len hg)
  obtain ⟨T, hT⟩ : ∃ T, T = gTxt g := ⟨_, rfl⟩
  rw [← hT]
  replace hT := Lib.hid hT
  clear hg
  go_enter Tryz.func82, Tryz.ntmps82
  go_wp2_with fail
  refine (l05Five_c g _).mono ?_
  rintro e w2 ⟨b, rfl, hO, hb2⟩
  have hb := upw hb0 hb2
  clear hb2 hb0
  have hA := Lib.hid hO.at'
  clear hO
  have hz := Lib.hid (txt_zero g)
  go_wp2_with fail
  go_loopw [4, 5] (fun u4 i wr => ∃ (k : Nat) (s : ByteArray), k ≤ 5 ∧ i = .int .i64 k ∧ u4 = .string s ∧ Hid (s = txtTo g k) ∧ Below w2.heap.size w2 wr) (fun _ i _ => 5 - (intOf i).toNat)
  case atStart => exact ⟨0, _, Nat.zero_le _, rfl, rfl, Lib.hid hz.out.symm, Below.refl _ _⟩
  case round =>
    clear hz
    obtain ⟨k, s, hk, rfl, rfl, hS, hbr⟩ := hrel
    by_cases hlt : k < 5
    · have hlt' : k < (gNums g).length := hlt
      have c0 := (hA.out.below hbr).int hlt'
      rw [Nat.zero_add] at c0
      have hltI : (k : Int) < 5 := by omega
      have hd := Lib.hid (fun w' => l01Dec_c (gNums g)[k] w' (by have := hin.out _ (List.getElem_mem hlt'); omega) (by have := hin.out _ (List.getElem_mem hlt'); omega))
      have hdl := dec_len (hin.out _ (List.getElem_mem hlt'))
      have hsl : s.size ≤ 110 := by rw [hS.out]; have := hlen.out k (by omega); omega
      by_cases hk0 : k = 0
      · subst hk0
        have hS2 := Lib.hid ((txt_one (g := g) hlt').trans (congrArg (· ++ decT (gNums g)[0]) (hS.out.trans (txt_zero g)).symm))
        generalize (gNums g)[0] = n at *
        generalize decT n = P at *
        have n2 : ¬ 9223372036854775807 < s.size + P.size := by omega
        go_wp2_with fail
        refine (hd.out _).mono ?_
        rintro e w3 ⟨rfl, hb3⟩
        replace hbr := upw hbr hb3
        go_wp2_with fail
        go_roundw
        case rel => exact ⟨1, _, by omega, by first | rfl | go_num, rfl, Lib.hid hS2.out.symm, hbr⟩
        case measure => first | (simp [intOf]; done) | (simp [intOf]; omega)
      · have hS2 := Lib.hid ((txt_succ hlt' hk0).trans (congrArg (· ++ ⟨#[47]⟩ ++ decT (gNums g)[k]) hS.out.symm))
        generalize (gNums g)[k] = n at *
        generalize decT n = P at *
        have hkI : (0 : Int) < (k : Int) := by omega
        have n1 : ¬ 9223372036854775807 < s.size + 1 := by omega
        have n2 : ¬ 9223372036854775807 < s.size + 1 + P.size := by omega
        replace hk0 := Lib.hid hk0
        go_wp2_with fail
        refine (hd.out _).mono ?_
        rintro e w3 ⟨rfl, hb3⟩
        replace hbr := upw hbr hb3
        go_wp2_with fail
        go_roundw
        case rel => exact ⟨k + 1, _, by omega, by first | rfl | go_num, rfl, Lib.hid hS2.out.symm, hbr⟩
        case measure => first | (simp [intOf]; done) | (simp [intOf]; omega)
    · obtain rfl : k = 5 := by omega
      obtain rfl : s = T := by rw [hS.out, hT.out, txt_five]
      go_wp2_with fail
      go_ret
      exact ⟨rfl, upw hb hbr⟩
theorem specGradeText_c (g : Grade) (w : World) :
    Calls Tryz.prog 34 #[.agg #[.int .i64 g.Length, .int .i64 g.Ball, .int .i64 g.Instep, .int .i64 g.Heel, .int .i64 g.Pitch]] w fun e w' => e = .returned (.string (gText g)) ∧ Below w.heap.size w w' := by
  obtain ⟨w3, hw3, D⟩ := box_g w g
  replace hw3 := Lib.hid hw3
  replace D := Lib.hid D
  have k1 := Lib.hid (fun w' => l05Ok_c g w')
  cases hg : okGrade g
  · rw [gText_bad hg]
    rw [hg] at k1
    clear hg
    obtain ⟨g0, g1, g2, g3, g4⟩ := gradeC_cells (D.out.get 0 rfl : Own _ _ _ _ (gradeC g))
    go_enter Tryz.func34, Tryz.ntmps34
    go_wp2_with (rw [← hw3.out])
    refine (k1.out _).mono ?_
    rintro e w2 ⟨rfl, hb⟩
    replace D := Lib.hid (D.out.later hb)
    clear hb
    go_wp2_with fail
    go_ret
    exact ⟨rfl, D.out.up⟩
  · rw [gText_ok hg]
    have k2 := Lib.hid (fun w' => l05Text_c g w' hg)
    rw [hg] at k1
    generalize gTxt g = T at *
    clear hg
    obtain ⟨g0, g1, g2, g3, g4⟩ := gradeC_cells (D.out.get 0 rfl : Own _ _ _ _ (gradeC g))
    go_enter Tryz.func34, Tryz.ntmps34
    go_wp2_with (rw [← hw3.out])
    refine (k1.out _).mono ?_
    rintro e w2 ⟨rfl, hb⟩
    replace D := Lib.hid (D.out.later hb)
    clear hb
    clear g0 g1 g2 g3 g4
    obtain ⟨g0, g1, g2, g3, g4⟩ := gradeC_cells (D.out.get 0 rfl : Own _ _ _ _ (gradeC g))
    go_wp2_with fail
    refine (k2.out _).mono ?_
    rintro e w2 ⟨rfl, hb⟩
    replace D := Lib.hid (D.out.later hb)
    clear hb
    go_wp2_with fail
    go_ret
    exact ⟨rfl, D.out.up⟩
theorem implGradeText_c (g : Grade) (w : World) (hT : Tab w) :
    Calls Tryz.prog 29 #[.agg #[.int .i64 g.Length, .int .i64 g.Ball, .int .i64 g.Instep, .int .i64 g.Heel, .int .i64 g.Pitch]] w fun e w' => e = .returned (.string (gText g)) ∧ Below w.heap.size w w' := by
  obtain ⟨w3, hw3, D⟩ := box_g w g
  replace hw3 := Lib.hid hw3
  replace D := Lib.hid D
  have hT0 := Lib.hid hT
  have k1 := Lib.hid (fun w' => implValidGrade_c g w')
  cases hg : okGrade g
  · rw [gText_bad hg]
    rw [hg] at k1
    clear hg hT
    obtain ⟨g0, g1, g2, g3, g4⟩ := gradeC_cells (D.out.get 0 rfl : Own _ _ _ _ (gradeC g))
    go_enter Tryz.func29, Tryz.ntmps29
    go_wp2_with (rw [← hw3.out])
    refine (k1.out _).mono ?_
    rintro e w2 ⟨rfl, hb⟩
    replace D := Lib.hid (D.out.later hb)
    clear hb
    go_wp2_with fail
    go_ret
    exact ⟨rfl, D.out.up⟩
  · rw [gText_ok hg]
    have k2 := Lib.hid (fun a w' h hT' => numbersText_c ⟨#[47]⟩ a (gNums g) 5 w' h (show 5 ≤ 1000 by omega) (show 0 < 5 by omega) (fun x hx => by have := gNums_in hg x hx; omega) (by decide) hT')
    rw [hg] at k1
    unfold gTxt
    generalize numsT ⟨#[47]⟩ (gNums g) = T at *
    clear hg hT
    obtain ⟨g0, g1, g2, g3, g4⟩ := gradeC_cells (D.out.get 0 rfl : Own _ _ _ _ (gradeC g))
    go_enter Tryz.func29, Tryz.ntmps29
    go_wp2_with (rw [← hw3.out])
    refine (k1.out _).mono ?_
    rintro e w2 ⟨rfl, hb⟩
    replace D := Lib.hid (D.out.later hb)
    clear hb
    clear g0 g1 g2 g3 g4
    obtain ⟨g0, g1, g2, g3, g4⟩ := gradeC_cells (D.out.get 0 rfl : Own _ _ _ _ (gradeC g))
    go_wp2_with fail
    refine (gNums_c g _).mono ?_
    rintro e w2 ⟨bn, rfl, hO, hb⟩
    replace D := Lib.hid (D.out.add hb hO)
    clear hb hO
    go_wp2_with fail
    refine (k2.out _ _ (D.out.get 0 rfl : Own _ _ _ _ (gNums g)).at' (hT0.out.below D.out.up)).mono ?_
    rintro e w2 ⟨rfl, hb⟩
    replace D := Lib.hid (D.out.later hb)
    clear hb
    go_wp2_with fail
    go_ret
    exact ⟨rfl, D.out.up⟩
end Go.Proofs.YtaeinllbjkjhlaaGreatDoor
