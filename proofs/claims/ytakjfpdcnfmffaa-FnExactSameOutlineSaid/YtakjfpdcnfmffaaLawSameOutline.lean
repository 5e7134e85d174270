/- FnExactSameOutline: for all lists of spots the law returns true, and its arguments read behind the call as before. -/
import Derived.Test.YtakjfpdcnfmffaaSpot
namespace Go.Proofs.Ytakjfpdcnfmffaa
open Go.ChangeShapes Go.WideShapes Go.ChangeAt Go.RowKit

set_option maxHeartbeats 1000000 in
theorem lawSameOutline (a a' : Option Addr) (xs ys : List Spot) (c c' : Nat) (w : World) (hx : At w a xs) (hy : At w a' ys) (hnx : xs.length ≤ 9223372036854775807) (hny : ys.length ≤ 9223372036854775807) :
    Calls Try.prog 3 #[.slice a xs.length c, .slice a' ys.length c'] w fun e w' => e = .returned (.bool true) ∧ Below w.heap.size w w' := by
  by_cases h1 : xs.length ≤ 1048576
  · by_cases h2 : xs.length + ys.length ≤ 1048576
    · have hlx : xs.length ≤ 1048576 := h1
      have hly : ys.length ≤ 1048576 := by omega
      go_enter Try.func3, Try.ntmps3
      go_wp2_with fail
      refine (szSpotS_ok _ _ _ _ _ (by omega) (by omega)).mono ?_
      rintro e w1 ⟨rfl, hb⟩
      go_wp2_with fail
      refine (szSpotS_ok _ _ _ _ _ (by omega) (by omega)).mono ?_
      rintro e w2 ⟨rfl, hb2⟩
      have hb := upw hb hb2
      go_wp2_with fail
      refine (toSpotS_any _ _ _ _ (hx.below hb) hlx).mono ?_
      rintro e w3 ⟨v3, rfl, hO3, hb3⟩
      obtain ⟨a3, c3, rfl, hA3⟩ := hO3.at
      have hb := upw hb hb3
      go_wp2_with fail
      refine (toSpotS_any _ _ _ _ (hy.below hb) hly).mono ?_
      rintro e w4 ⟨v4, rfl, hO4, hb4⟩
      obtain ⟨a4, c4, rfl, hA4⟩ := hO4.at
      have hb := upw hb hb4
      go_wp2_with fail
      refine (specSameOutline_any _ _ _ _ _ _ _ (hA3.below hb4) hA4 hlx hly).mono ?_
      rintro e w5 ⟨rfl, hb5⟩
      have hb := upw hb hb5
      go_wp2_with fail
      refine (toSpotS_any _ _ _ _ (hx.below hb) hlx).mono ?_
      rintro e w6 ⟨v6, rfl, hO6, hb6⟩
      obtain ⟨a6, c6, rfl, hA6⟩ := hO6.at
      have hb := upw hb hb6
      go_wp2_with fail
      refine (toSpotS_any _ _ _ _ (hy.below hb) hly).mono ?_
      rintro e w7 ⟨v7, rfl, hO7, hb7⟩
      obtain ⟨a7, c7, rfl, hA7⟩ := hO7.at
      have hb := upw hb hb7
      go_wp2_with fail
      refine (implSameOutline_any _ _ _ _ _ _ _ (hA6.below hb7) hA7 hlx hly).mono ?_
      rintro e w8 ⟨rfl, hb8⟩
      have hb := upw hb hb8
      go_wp2_with fail
      refine (toSpotS_any _ _ _ _ (hx.below hb) hlx).mono ?_
      rintro e w9 ⟨v9, rfl, hO9, hb9⟩
      obtain ⟨a9, c9, rfl, hA9⟩ := hO9.at
      have hb := upw hb hb9
      go_wp2_with fail
      refine (eqSpotS_any _ _ _ _ _ _ _ ((((hA6.below hb7).below hb8).below hb9)) hA9 hlx hlx).mono ?_
      rintro e w10 ⟨rfl, hb10⟩
      have hb := upw hb hb10
      have ex : (xs == xs) = true := by simp
      have ey : (ys == ys) = true := by simp
      go_wp2_with fail
      refine (toSpotS_any _ _ _ _ (hy.below hb) hly).mono ?_
      rintro e w11 ⟨v11, rfl, hO11, hb11⟩
      obtain ⟨a11, c11, rfl, hA11⟩ := hO11.at
      have hb := upw hb hb11
      go_wp2_with fail
      refine (eqSpotS_any _ _ _ _ _ _ _ (((((hA7.below hb8).below hb9).below hb10).below hb11)) hA11 hly hly).mono ?_
      rintro e w12 ⟨rfl, hb12⟩
      have hb := upw hb hb12
      go_wp2_with fail
      go_ret
      exact ⟨rfl, hb⟩
    · go_enter Try.func3, Try.ntmps3
      go_wp2_with fail
      refine (szSpotS_ok _ _ _ _ _ (by omega) (by omega)).mono ?_
      rintro e w1 ⟨rfl, hb⟩
      go_wp2_with fail
      refine (szSpotS_no _ _ _ _ _ (by omega) (by omega) (by omega)).mono ?_
      rintro e w2 ⟨rfl, hb2⟩
      go_wp2_with fail
      go_ret
      exact ⟨rfl, upw hb hb2⟩
  · go_enter Try.func3, Try.ntmps3
    go_wp2_with fail
    refine (szSpotS_no _ _ _ _ _ (by omega) (by omega) (by omega)).mono ?_
    rintro e w1 ⟨rfl, hb⟩
    go_wp2_with fail
    go_ret
    exact ⟨rfl, hb⟩

theorem SameOutline.own : ownKnob Try.prog.godebug = none := by kernel_rfl
theorem SameOutline.laidOut : laidOutB Try.prog = true := by kernel_rfl

set_option maxRecDepth 100000 in
theorem SameOutline.lifted (os : Os) (started : os.Started) (H : Type) (enc : TypeId × Value → H) :
    ReturnsInHanded {} Try.checked os 3 .any (Rows.fnExactSameOutlineSpec.pre6 enc Try.prog Try.f3 Rows.fnExactSameOutlineRow.domain false) (Rows.fnExactSameOutlineSpec.post enc Try.prog Try.f3 false true false false) := by
  refine returnsInHanded_of_change (C := Try.checked) SameOutline.own started (by kernel_rfl) Try.func3
    (ChangeSpec.witness6 (enc := enc) (C := Try.checked) false ⟨#[], #[.slice none 0 0, .slice none 0 0], []⟩ 8 (by kernel_rfl) (by kernel_rfl) (by kernel_rfl) (by kernel_rfl)) ?_
  intro W base args ds gs before hval0 hW _ _
  have hval : ∀ (j : Nat) t v, Try.f3.params[j]? = some t → args[j]? = some v → Value.okWide Try.prog W .any base t v := hval0
  have hW' := hW
  obtain ⟨p, q, hA0, hV, rfl, _, _⟩ := hW
  have hA : DataW.TrodAll enc Try.prog W 0 (fun _ => true) true Try.f3.params.toList args.toList ds p := hA0
  rw [Try.params3] at hA hval
  obtain ⟨v0, vs0, d0, ds0, p0, q0, hargs, rfl, rfl, h0, r0⟩ := trodAll_cons hA
  obtain ⟨v1, vs1, d1, ds1, p1, q1, rfl, rfl, rfl, h1, r1⟩ := trodAll_cons r0
  obtain ⟨rfl, rfl, rfl⟩ := trodAll_nil r1
  obtain rfl : args = #[v0, v1] := by cases args; simp_all
  obtain ⟨rfl, rfl⟩ := trodVars_none hV
  have hlt : ∀ x ∈ p0 ++ p1, x.block < W.heap.size := fun x hx => by simpa using hW'.lt x (by simpa using hx)
  clear hA0 hval0
  have k0 := h0
  have k1 := h1
  obtain ⟨a0, x0, c0, rfl, hx0, hn0, hk0⟩ := open_list Try.underlying22 opens_lspots (hval 0 22 v0 rfl rfl) h0
  obtain ⟨a1, x1, c1, rfl, hx1, hn1, hk1⟩ := open_list Try.underlying22 opens_lspots (hval 1 22 v1 rfl rfl) h1
  refine (lawSameOutline a0 a1 x0 x1 c0 c1 W hx0 hx1 hn0 hn1).mono fun e W' ⟨he, hb⟩ => ?_
  subst he
  refine ⟨_, rfl, _, _, _, [], p0 ++ (p1 ++ []), [], hW', ?_, ?_, rfl, hb.frame _, fun h => by cases h⟩
  · exact trodAll_mk1 (shut_bool Try.underlying4 _)
  · exact trodAll_cons_mk (Below.trod SameOutline.laidOut (by kernel_rfl) (of_decide_eq_true (by kernel_rfl)) k0 hb (fun x hx => hlt x (by simp [hx])))
      (trodAll_cons_mk (Below.trod SameOutline.laidOut (by kernel_rfl) (of_decide_eq_true (by kernel_rfl)) k1 hb (fun x hx => hlt x (by simp [hx]))) trodAll_mk0)

theorem SameOutline.holds : Rows.FnExactSameOutlineSaid :=
  OpenClaim.holds_of_wide 3 Try.f3 rfl rfl rfl rfl rfl rfl rfl ⟨rfl, rfl, rfl, rfl, rfl⟩ rfl rfl rfl rfl rfl (by kernel_rfl) Try.func3 (by kernel_rfl)
    (of_decide_eq_true (by kernel_rfl)) (by unfold Func.isWrapper; first | (rw [if_pos (by decide +kernel)]; kernel_rfl) | (rw [if_neg (by decide +kernel)]; exact ⟨rfl, rfl⟩))
    (fun os started H enc _ => SameOutline.lifted os started H enc)

end Go.Proofs.Ytakjfpdcnfmffaa
