/- FnExactIsHollow: for all arguments the law returns true, and its arguments read behind the call as before. (Printed by wip/genlaw.py.) -/
import Derived.Test.YtaopebekpogciaaSpot
import Derived.Test.YtaopebekpogciaaHullLaw
namespace Go.Proofs.Ytaopebekpogciaa
open Go.ChangeShapes Go.WideShapes Go.ChangeAt Go.RowKit

set_option maxHeartbeats 4000000 in
theorem lawIsHollow (a0 : Option Addr) (x0 : List Spot) (c0 : Nat) (w : World) (hx0 : At w a0 x0) (hn0 : x0.length ≤ 9223372036854775807) :
    Calls Try.prog 12 #[.slice a0 x0.length c0] w fun e w' => e = .returned (.bool true) ∧ Below w.heap.size w w' := by
  by_cases hh0 : x0.length ≤ 1048576
  · skip
    have hl0 : x0.length ≤ 1048576 := by omega
    go_enter Try.func12, Try.ntmps12
    go_wp2_with fail
    refine (szSpotS_ok _ _ _ _ _ (by omega) (by omega)).mono ?_
    rintro e w1 ⟨rfl, hb1⟩
    have hb := hb1
    go_wp2_with fail
    refine (toSpotS_any _ _ _ _ (hx0.below hb) hl0).mono ?_
    rintro e w2 ⟨vt1, rfl, hOt1, hb2⟩
    have hb := upw hb hb2
    obtain ⟨at1, ct1, rfl, _⟩ := hOt1.at
    go_wp2_with fail
    refine (specIsHollow_c _ _ _ _ (hOt1).at' hn0).mono ?_
    rintro e w3 ⟨rfl, hb3⟩
    have hb := upw hb hb3
    go_wp2_with fail
    refine (toSpotS_any _ _ _ _ (hx0.below hb) hl0).mono ?_
    rintro e w4 ⟨vx0, rfl, hOx0, hb4⟩
    have hb := upw hb hb4
    obtain ⟨ax0, cx0, rfl, _⟩ := hOx0.at
    go_wp2_with fail
    refine (implIsHollow_c _ _ _ _ (hOx0).at' hn0).mono ?_
    rintro e w5 ⟨rfl, hb5⟩
    have hb := upw hb hb5
    go_wp2_with fail
    refine (toSpotS_any _ _ _ _ (hx0.below hb) hl0).mono ?_
    rintro e w6 ⟨vt2, rfl, hOt2, hb6⟩
    have hb := upw hb hb6
    obtain ⟨at2, ct2, rfl, _⟩ := hOt2.at
    go_wp2_with fail
    refine (eqSpotS_same _ _ _ _ _ _ (((hOx0.later hb5).later hb6)).at' (hOt2).at' (by omega)).mono ?_
    rintro e w7 ⟨rfl, hb7⟩
    have hb := upw hb hb7
    go_wp2_with fail
    go_ret
    exact ⟨rfl, hb⟩
  · go_enter Try.func12, Try.ntmps12
    go_wp2_with fail
    refine (szSpotS_no _ _ _ _ _ (by omega) (by omega) (by omega)).mono ?_
    rintro e w1 ⟨rfl, hb1⟩
    have hb := hb1
    go_wp2_with fail
    go_ret
    exact ⟨rfl, hb⟩

theorem EIsHollow.own : ownKnob Try.prog.godebug = none := by kernel_rfl
theorem EIsHollow.laidOut : laidOutB Try.prog = true := by kernel_rfl

set_option maxRecDepth 100000 in
theorem EIsHollow.lifted (os : Os) (started : os.Started) (H : Type) (enc : TypeId × Value → H) :
    ReturnsInHanded {} Try.checked os 12 .any (Rows.fnExactIsHollowSpec.pre6 enc Try.prog Try.f12 Rows.fnExactIsHollowRow.domain false) (Rows.fnExactIsHollowSpec.post enc Try.prog Try.f12 false true false false) := by
  refine returnsInHanded_of_change (C := Try.checked) EIsHollow.own started (by kernel_rfl) Try.func12
    (ChangeSpec.witness6 (enc := enc) (C := Try.checked) false ⟨#[], #[.slice none 0 0], []⟩ 8 (by kernel_rfl) (by kernel_rfl) (by kernel_rfl) (by kernel_rfl)) ?_
  intro W base args ds gs before hval0 hW _ _
  have hval : ∀ (j : Nat) t v, Try.f12.params[j]? = some t → args[j]? = some v → Value.okWide Try.prog W .any base t v := hval0
  have hW' := hW
  obtain ⟨p, q, hA0, hV, rfl, _, _⟩ := hW
  have hA : DataW.TrodAll enc Try.prog W 0 (fun _ => true) true Try.f12.params.toList args.toList ds p := hA0
  rw [Try.params12] at hA hval
  obtain ⟨v0, vs0, d0, ds0, p0, q0, hargs, rfl, rfl, h0, r0⟩ := trodAll_cons hA
  obtain ⟨rfl, rfl, rfl⟩ := trodAll_nil r0
  obtain rfl : args = #[v0] := by cases args; simp_all
  obtain ⟨rfl, rfl⟩ := trodVars_none hV
  have hlt : ∀ x ∈ p0 ++ [], x.block < W.heap.size := fun x hx => by simpa using hW'.lt x (by simpa using hx)
  clear hA0 hval0
  have k0 := h0
  obtain ⟨a0, x0, c0, rfl, hx0, hn0, hk0⟩ := open_list Try.underlying22 opens_lspots (hval 0 22 v0 rfl rfl) h0
  refine (lawIsHollow a0 x0 c0 W hx0 hn0).mono fun e W' ⟨he, hb⟩ => ?_
  subst he
  refine ⟨_, rfl, _, _, _, [], p0 ++ [], [], hW', ?_, ?_, rfl, hb.frame _, fun h => by cases h⟩
  · exact trodAll_mk1 (shut_bool Try.underlying4 _)
  · exact trodAll_cons_mk (Below.trod EIsHollow.laidOut (by kernel_rfl) (of_decide_eq_true (by kernel_rfl)) k0 hb (fun x hx => hlt x (by simp [hx]))) (trodAll_mk0)

theorem EIsHollow.holds : Rows.FnExactIsHollowSaid :=
  OpenClaim.holds_of_wide 12 Try.f12 rfl rfl rfl rfl rfl rfl rfl ⟨rfl, rfl, rfl, rfl, rfl⟩ rfl rfl rfl rfl rfl (by kernel_rfl) Try.func12 (by kernel_rfl)
    (of_decide_eq_true (by kernel_rfl)) (by unfold Func.isWrapper; first | (rw [if_pos (by decide +kernel)]; kernel_rfl) | (rw [if_neg (by decide +kernel)]; exact ⟨rfl, rfl⟩))
    (fun os started H enc _ => EIsHollow.lifted os started H enc)

end Go.Proofs.Ytaopebekpogciaa
