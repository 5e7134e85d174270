/- FnExactHullOf: for all arguments the law returns true, and its arguments read behind the call as before. (Printed by wip/genlaw.py.) -/
import Derived.Test.YtaopebekpogciaaSpot
import Derived.Test.YtaopebekpogciaaHullLaw
namespace Go.Proofs.Ytaopebekpogciaa
open Go.ChangeShapes Go.WideShapes Go.ChangeAt Go.RowKit

set_option maxHeartbeats 4000000 in
theorem lawHullOf (a0 : Option Addr) (x0 : List Spot) (c0 : Nat) (w : World) (hx0 : At w a0 x0) (hn0 : x0.length ≤ 9223372036854775807) :
    Calls Try.prog 11 #[.slice a0 x0.length c0] w fun e w' => e = .returned (.bool true) ∧ Below w.heap.size w w' := by
  by_cases hh0 : x0.length ≤ 1048576
  · skip
    have hl0 : x0.length ≤ 1048576 := by omega
    have hlen := HullOf_len x0
    go_enter Try.func11, Try.ntmps11
    go_wp2_with fail
    refine (szSpotS_ok _ _ _ _ _ (by omega) (by omega)).mono ?_
    rintro e w1 ⟨rfl, hb1⟩
    have hb := hb1
    go_wp2_with fail
    refine (toSpotS_any _ _ _ _ (hx0.below hb) hl0).mono ?_
    rintro e w2 ⟨vt1, rfl, hOt1, hb2⟩
    have hb := upw hb hb2
    obtain ⟨at1, ct1, rfl, _⟩ := hOt1.at
    go_wp2_with fail
    refine (specHullOf_c _ _ _ _ (hOt1).at' hn0).mono ?_
    rintro e w3 ⟨vw0, rfl, hOw0, hb3⟩
    have hb := upw hb hb3
    obtain ⟨aw0, cw0, rfl, _⟩ := hOw0.at
    go_wp2_with fail
    refine (toSpotS_any _ _ _ _ (hx0.below hb) hl0).mono ?_
    rintro e w4 ⟨vx0, rfl, hOx0, hb4⟩
    have hb := upw hb hb4
    obtain ⟨ax0, cx0, rfl, _⟩ := hOx0.at
    go_wp2_with fail
    refine (implHullOf_c _ _ _ _ (hOx0).at' hn0).mono ?_
    rintro e w5 ⟨vg0, rfl, hOg0, hb5⟩
    have hb := upw hb hb5
    obtain ⟨ag0, cg0, rfl, _⟩ := hOg0.at
    go_wp2_with fail
    refine (eqSpotS_same _ _ _ _ _ _ (hOg0).at' (((hOw0.later hb4).later hb5)).at' (by omega)).mono ?_
    rintro e w6 ⟨rfl, hb6⟩
    have hb := upw hb hb6
    go_wp2_with fail
    refine (toSpotS_any _ _ _ _ (hx0.below hb) hl0).mono ?_
    rintro e w7 ⟨vt2, rfl, hOt2, hb7⟩
    have hb := upw hb hb7
    obtain ⟨at2, ct2, rfl, _⟩ := hOt2.at
    go_wp2_with fail
    refine (eqSpotS_same _ _ _ _ _ _ ((((hOx0.later hb5).later hb6).later hb7)).at' (hOt2).at' (by omega)).mono ?_
    rintro e w8 ⟨rfl, hb8⟩
    have hb := upw hb hb8
    go_wp2_with fail
    refine (markSpotS_any _ _ _ _ _ ((((hOx0.later hb5).later hb6).later hb7).later hb8) (by omega) (by omega) (by omega)).mono ?_
    rintro e w9 ⟨rfl, hM9, hg9⟩
    have hb := below_mark hb ((((hOx0.later hb5).later hb6).later hb7).later hb8) (by have := hb1.size; have := hb2.size; have := hb3.size; omega) hg9
    have hOt1_9 := ((((((hOt1.later hb3).later hb4).later hb5).later hb6).later hb7).later hb8).kept hg9 (own_apart' ((((hOx0.later hb5).later hb6).later hb7).later hb8) hOt1 (by have := hb3.size; omega))
    have hOw0_9 := (((((hOw0.later hb4).later hb5).later hb6).later hb7).later hb8).kept hg9 (own_apart' ((((hOx0.later hb5).later hb6).later hb7).later hb8) hOw0 (Nat.le_refl _))
    have hOg0_9 := (((hOg0.later hb6).later hb7).later hb8).kept hg9 (own_apart hOx0 (((hOg0.later hb6).later hb7).later hb8) (Nat.le_refl _))
    have hOt2_9 := (hOt2.later hb8).kept hg9 (own_apart hOx0 (hOt2.later hb8) (by have := hb5.size; have := hb6.size; omega))
    go_wp2_with fail
    refine (eqSpotS_same _ _ _ _ _ _ (hOg0_9).at' (hOw0_9).at' (by omega)).mono ?_
    rintro e w10 ⟨rfl, hb10⟩
    have hb := upw hb hb10
    go_wp2_with fail
    refine (markSpotS_any _ _ _ _ _ (hOg0_9.later hb10) (by omega) (by omega) (by omega)).mono ?_
    rintro e w11 ⟨rfl, hM11, hg11⟩
    have hb := below_mark hb (hOg0_9.later hb10) (by have := hb1.size; have := hb2.size; have := hb3.size; have := hb4.size; omega) hg11
    have hOt1_11 := (hOt1_9.later hb10).kept hg11 (own_apart' (hOg0_9.later hb10) hOt1 (by have := hb3.size; have := hb4.size; omega))
    have hOw0_11 := (hOw0_9.later hb10).kept hg11 (own_apart' (hOg0_9.later hb10) hOw0 (by have := hb4.size; omega))
    have hOx0_11 := (hM9.later hb10).kept hg11 (own_apart' (hOg0_9.later hb10) hOx0 (Nat.le_refl _))
    have hOt2_11 := (hOt2_9.later hb10).kept hg11 (own_apart hOg0 (hOt2_9.later hb10) (by have := hb6.size; omega))
    go_wp2_with fail
    refine (heldSpotS_any _ _ _ _ _ (hM11).at_n (by omega) (by omega) (by omega)).mono ?_
    rintro e w12 ⟨rfl, hb12⟩
    have hb := upw hb hb12
    go_wp2_with fail
    refine (toSpotS_any _ _ _ _ (hx0.below hb) hl0).mono ?_
    rintro e w13 ⟨vt3, rfl, hOt3, hb13⟩
    have hb := upw hb hb13
    obtain ⟨at3, ct3, rfl, _⟩ := hOt3.at
    go_wp2_with fail
    refine (implHullOf_c _ _ _ _ (hOt3).at' hn0).mono ?_
    rintro e w14 ⟨vh0, rfl, hOh0, hb14⟩
    have hb := upw hb hb14
    obtain ⟨ah0, ch0, rfl, _⟩ := hOh0.at
    go_wp2_with fail
    refine (eqSpotS_same _ _ _ _ _ _ (hOh0).at' ((((hOw0_11.later hb12).later hb13).later hb14)).at' (by omega)).mono ?_
    rintro e w15 ⟨rfl, hb15⟩
    have hb := upw hb hb15
    go_wp2_with fail
    refine (heldSpotS_any _ _ _ _ _ (((((hM11.later hb12).later hb13).later hb14).later hb15)).at_n (by omega) (by omega) (by omega)).mono ?_
    rintro e w16 ⟨rfl, hb16⟩
    have hb := upw hb hb16
    go_wp2_with fail
    go_ret
    exact ⟨rfl, hb⟩
  · go_enter Try.func11, Try.ntmps11
    go_wp2_with fail
    refine (szSpotS_no _ _ _ _ _ (by omega) (by omega) (by omega)).mono ?_
    rintro e w1 ⟨rfl, hb1⟩
    have hb := hb1
    go_wp2_with fail
    go_ret
    exact ⟨rfl, hb⟩

theorem EHullOf.own : ownKnob Try.prog.godebug = none := by kernel_rfl
theorem EHullOf.laidOut : laidOutB Try.prog = true := by kernel_rfl

set_option maxRecDepth 100000 in
theorem EHullOf.lifted (os : Os) (started : os.Started) (H : Type) (enc : TypeId × Value → H) :
    ReturnsInHanded {} Try.checked os 11 .any (Rows.fnExactHullOfSpec.pre6 enc Try.prog Try.f11 Rows.fnExactHullOfRow.domain false) (Rows.fnExactHullOfSpec.post enc Try.prog Try.f11 false true false false) := by
  refine returnsInHanded_of_change (C := Try.checked) EHullOf.own started (by kernel_rfl) Try.func11
    (ChangeSpec.witness6 (enc := enc) (C := Try.checked) false ⟨#[], #[.slice none 0 0], []⟩ 8 (by kernel_rfl) (by kernel_rfl) (by kernel_rfl) (by kernel_rfl)) ?_
  intro W base args ds gs before hval0 hW _ _
  have hval : ∀ (j : Nat) t v, Try.f11.params[j]? = some t → args[j]? = some v → Value.okWide Try.prog W .any base t v := hval0
  have hW' := hW
  obtain ⟨p, q, hA0, hV, rfl, _, _⟩ := hW
  have hA : DataW.TrodAll enc Try.prog W 0 (fun _ => true) true Try.f11.params.toList args.toList ds p := hA0
  rw [Try.params11] at hA hval
  obtain ⟨v0, vs0, d0, ds0, p0, q0, hargs, rfl, rfl, h0, r0⟩ := trodAll_cons hA
  obtain ⟨rfl, rfl, rfl⟩ := trodAll_nil r0
  obtain rfl : args = #[v0] := by cases args; simp_all
  obtain ⟨rfl, rfl⟩ := trodVars_none hV
  have hlt : ∀ x ∈ p0 ++ [], x.block < W.heap.size := fun x hx => by simpa using hW'.lt x (by simpa using hx)
  clear hA0 hval0
  have k0 := h0
  obtain ⟨a0, x0, c0, rfl, hx0, hn0, hk0⟩ := open_list Try.underlying22 opens_lspots (hval 0 22 v0 rfl rfl) h0
  refine (lawHullOf a0 x0 c0 W hx0 hn0).mono fun e W' ⟨he, hb⟩ => ?_
  subst he
  refine ⟨_, rfl, _, _, _, [], p0 ++ [], [], hW', ?_, ?_, rfl, hb.frame _, fun h => by cases h⟩
  · exact trodAll_mk1 (shut_bool Try.underlying4 _)
  · exact trodAll_cons_mk (Below.trod EHullOf.laidOut (by kernel_rfl) (of_decide_eq_true (by kernel_rfl)) k0 hb (fun x hx => hlt x (by simp [hx]))) (trodAll_mk0)

theorem EHullOf.holds : Rows.FnExactHullOfSaid :=
  OpenClaim.holds_of_wide 11 Try.f11 rfl rfl rfl rfl rfl rfl rfl ⟨rfl, rfl, rfl, rfl, rfl⟩ rfl rfl rfl rfl rfl (by kernel_rfl) Try.func11 (by kernel_rfl)
    (of_decide_eq_true (by kernel_rfl)) (by unfold Func.isWrapper; first | (rw [if_pos (by decide +kernel)]; kernel_rfl) | (rw [if_neg (by decide +kernel)]; exact ⟨rfl, rfl⟩))
    (fun os started H enc _ => EHullOf.lifted os started H enc)

end Go.Proofs.Ytaopebekpogciaa
