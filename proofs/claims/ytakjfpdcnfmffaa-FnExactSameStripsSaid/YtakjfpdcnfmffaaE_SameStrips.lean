/- FnExactSameStrips: for all arguments the law returns true, and its arguments read behind the call as before. (Printed by wip/genlaw.py.) -/
import Derived.Test.YtakjfpdcnfmffaaStrip
import Derived.Test.YtakjfpdcnfmffaaStrip
namespace Go.Proofs.Ytakjfpdcnfmffaa
open Go.ChangeShapes Go.WideShapes Go.ChangeAt Go.RowKit

set_option maxHeartbeats 4000000 in
theorem lawSameStrips (a0 : Option Addr) (x0 : List Strip) (c0 : Nat) (a1 : Option Addr) (x1 : List Strip) (c1 : Nat) (w : World) (hx0 : At w a0 x0) (hn0 : x0.length ≤ 9223372036854775807) (hx1 : At w a1 x1) (hn1 : x1.length ≤ 9223372036854775807) :
    Calls Try.prog 4 #[.slice a0 x0.length c0, .slice a1 x1.length c1] w fun e w' => e = .returned (.bool true) ∧ Below w.heap.size w w' := by
  by_cases hh0 : x0.length ≤ 1048576
  · skip
    by_cases hh1 : x0.length + x1.length ≤ 1048576
    · skip
      have hl0 : x0.length ≤ 1048576 := by omega
      have hl1 : x1.length ≤ 1048576 := by omega
      go_enter Try.func4, Try.ntmps4
      go_wp2_with fail
      refine (szStripS_ok _ _ _ _ _ (by omega) (by omega)).mono ?_
      rintro e w1 ⟨rfl, hb1⟩
      have hb := hb1
      go_wp2_with fail
      refine (szStripS_ok _ _ _ _ _ (by omega) (by omega)).mono ?_
      rintro e w2 ⟨rfl, hb2⟩
      have hb := upw hb hb2
      go_wp2_with fail
      refine (toStripS_any _ _ _ _ (hx0.below hb) hl0).mono ?_
      rintro e w3 ⟨vt1, rfl, hOt1, hb3⟩
      have hb := upw hb hb3
      obtain ⟨at1, ct1, rfl, _⟩ := hOt1.at
      go_wp2_with fail
      refine (toStripS_any _ _ _ _ (hx1.below hb) hl1).mono ?_
      rintro e w4 ⟨vt2, rfl, hOt2, hb4⟩
      have hb := upw hb hb4
      obtain ⟨at2, ct2, rfl, _⟩ := hOt2.at
      go_wp2_with fail
      refine (specSameStrips_c _ _ _ _ _ _ _ ((hOt1.later hb4)).at' hn0 (hOt2).at' hn1).mono ?_
      rintro e w5 ⟨rfl, hb5⟩
      have hb := upw hb hb5
      go_wp2_with fail
      refine (toStripS_any _ _ _ _ (hx0.below hb) hl0).mono ?_
      rintro e w6 ⟨vx0, rfl, hOx0, hb6⟩
      have hb := upw hb hb6
      obtain ⟨ax0, cx0, rfl, _⟩ := hOx0.at
      go_wp2_with fail
      refine (toStripS_any _ _ _ _ (hx1.below hb) hl1).mono ?_
      rintro e w7 ⟨vx1, rfl, hOx1, hb7⟩
      have hb := upw hb hb7
      obtain ⟨ax1, cx1, rfl, _⟩ := hOx1.at
      go_wp2_with fail
      refine (implSameStrips_c _ _ _ _ _ _ _ ((hOx0.later hb7)).at' hn0 (hOx1).at' hn1).mono ?_
      rintro e w8 ⟨rfl, hb8⟩
      have hb := upw hb hb8
      go_wp2_with fail
      refine (toStripS_any _ _ _ _ (hx0.below hb) hl0).mono ?_
      rintro e w9 ⟨vt3, rfl, hOt3, hb9⟩
      have hb := upw hb hb9
      obtain ⟨at3, ct3, rfl, _⟩ := hOt3.at
      go_wp2_with fail
      refine (eqStripS_same _ _ _ _ _ _ ((((hOx0.later hb7).later hb8).later hb9)).at' (hOt3).at' (by first | omega | exact SameStrips_len _)).mono ?_
      rintro e w10 ⟨rfl, hb10⟩
      have hb := upw hb hb10
      go_wp2_with fail
      refine (toStripS_any _ _ _ _ (hx1.below hb) hl1).mono ?_
      rintro e w11 ⟨vt4, rfl, hOt4, hb11⟩
      have hb := upw hb hb11
      obtain ⟨at4, ct4, rfl, _⟩ := hOt4.at
      go_wp2_with fail
      refine (eqStripS_same _ _ _ _ _ _ (((((hOx1.later hb8).later hb9).later hb10).later hb11)).at' (hOt4).at' (by first | omega | exact SameStrips_len _)).mono ?_
      rintro e w12 ⟨rfl, hb12⟩
      have hb := upw hb hb12
      go_wp2_with fail
      go_ret
      exact ⟨rfl, hb⟩
    · go_enter Try.func4, Try.ntmps4
      go_wp2_with fail
      refine (szStripS_ok _ _ _ _ _ (by omega) (by omega)).mono ?_
      rintro e w1 ⟨rfl, hb1⟩
      have hb := hb1
      go_wp2_with fail
      refine (szStripS_no _ _ _ _ _ (by omega) (by omega) (by omega)).mono ?_
      rintro e w2 ⟨rfl, hb2⟩
      have hb := upw hb hb2
      go_wp2_with fail
      go_ret
      exact ⟨rfl, hb⟩
  · go_enter Try.func4, Try.ntmps4
    go_wp2_with fail
    refine (szStripS_no _ _ _ _ _ (by omega) (by omega) (by omega)).mono ?_
    rintro e w1 ⟨rfl, hb1⟩
    have hb := hb1
    go_wp2_with fail
    go_ret
    exact ⟨rfl, hb⟩

theorem ESameStrips.own : ownKnob Try.prog.godebug = none := by kernel_rfl
theorem ESameStrips.laidOut : laidOutB Try.prog = true := by kernel_rfl

set_option maxRecDepth 100000 in
theorem ESameStrips.lifted (os : Os) (started : os.Started) (H : Type) (enc : TypeId × Value → H) :
    ReturnsInHanded {} Try.checked os 4 .any (Rows.fnExactSameStripsSpec.pre6 enc Try.prog Try.f4 Rows.fnExactSameStripsRow.domain false) (Rows.fnExactSameStripsSpec.post enc Try.prog Try.f4 false true false false) := by
  refine returnsInHanded_of_change (C := Try.checked) ESameStrips.own started (by kernel_rfl) Try.func4
    (ChangeSpec.witness6 (enc := enc) (C := Try.checked) false ⟨#[], #[.slice none 0 0, .slice none 0 0], []⟩ 8 (by kernel_rfl) (by kernel_rfl) (by kernel_rfl) (by kernel_rfl)) ?_
  intro W base args ds gs before hval0 hW _ _
  have hval : ∀ (j : Nat) t v, Try.f4.params[j]? = some t → args[j]? = some v → Value.okWide Try.prog W .any base t v := hval0
  have hW' := hW
  obtain ⟨p, q, hA0, hV, rfl, _, _⟩ := hW
  have hA : DataW.TrodAll enc Try.prog W 0 (fun _ => true) true Try.f4.params.toList args.toList ds p := hA0
  rw [Try.params4] at hA hval
  obtain ⟨v0, vs0, d0, ds0, p0, q0, hargs, rfl, rfl, h0, r0⟩ := trodAll_cons hA
  obtain ⟨v1, vs1, d1, ds1, p1, q1, rfl, rfl, rfl, h1, r1⟩ := trodAll_cons r0
  obtain ⟨rfl, rfl, rfl⟩ := trodAll_nil r1
  obtain rfl : args = #[v0, v1] := by cases args; simp_all
  obtain ⟨rfl, rfl⟩ := trodVars_none hV
  have hlt : ∀ x ∈ p0 ++ (p1 ++ []), x.block < W.heap.size := fun x hx => by simpa using hW'.lt x (by simpa using hx)
  clear hA0 hval0
  have k0 := h0
  have k1 := h1
  obtain ⟨a0, x0, c0, rfl, hx0, hn0, hk0⟩ := open_list Try.underlying28 opens_lstrips (hval 0 28 v0 rfl rfl) h0
  obtain ⟨a1, x1, c1, rfl, hx1, hn1, hk1⟩ := open_list Try.underlying28 opens_lstrips (hval 1 28 v1 rfl rfl) h1
  refine (lawSameStrips a0 x0 c0 a1 x1 c1 W hx0 hn0 hx1 hn1).mono fun e W' ⟨he, hb⟩ => ?_
  subst he
  refine ⟨_, rfl, _, _, _, [], p0 ++ (p1 ++ []), [], hW', ?_, ?_, rfl, hb.frame _, fun h => by cases h⟩
  · exact trodAll_mk1 (shut_bool Try.underlying4 _)
  · exact trodAll_cons_mk (Below.trod ESameStrips.laidOut (by kernel_rfl) (of_decide_eq_true (by kernel_rfl)) k0 hb (fun x hx => hlt x (by simp [hx]))) (trodAll_cons_mk (Below.trod ESameStrips.laidOut (by kernel_rfl) (of_decide_eq_true (by kernel_rfl)) k1 hb (fun x hx => hlt x (by simp [hx]))) (trodAll_mk0))

theorem ESameStrips.holds : Rows.FnExactSameStripsSaid :=
  OpenClaim.holds_of_wide 4 Try.f4 rfl rfl rfl rfl rfl rfl rfl ⟨rfl, rfl, rfl, rfl, rfl⟩ rfl rfl rfl rfl rfl (by kernel_rfl) Try.func4 (by kernel_rfl)
    (of_decide_eq_true (by kernel_rfl)) (by unfold Func.isWrapper; first | (rw [if_pos (by decide +kernel)]; kernel_rfl) | (rw [if_neg (by decide +kernel)]; exact ⟨rfl, rfl⟩))
    (fun os started H enc _ => ESameStrips.lifted os started H enc)

end Go.Proofs.Ytakjfpdcnfmffaa
