/- FnExactFewestWithin: for all arguments the law returns true, and its arguments read behind the call as before. (Printed by wip/genlaw.py.) -/
import Derived.Test.YtokoallbhbgkkaaInts
import Derived.Test.YtokoallbhbgkkaaL06o
namespace Go.Proofs.Ytokoallbhbgkkaa
open Go.ChangeShapes Go.WideShapes Go.ChangeAt Go.RowKit

set_option maxHeartbeats 4000000 in
theorem lawFewestWithin (a0 : Option Addr) (x0 : List Int) (c0 : Nat) (x1 : Int) (x2 : Int) (w : World) (hx0 : At w a0 x0) (hn0 : x0.length ≤ 9223372036854775807) (hn1 : -9223372036854775808 ≤ x1 ∧ x1 ≤ 9223372036854775807) (hn2 : -9223372036854775808 ≤ x2 ∧ x2 ≤ 9223372036854775807) :
    Calls Try.prog 3 #[.slice a0 x0.length c0, .int .i64 x1, .int .i64 x2] w fun e w' => e = .returned (.bool true) ∧ Below w.heap.size w w' := by
  by_cases hh0 : x0.length ≤ 1048576
  · skip
    have hl0 : x0.length ≤ 1048576 := by omega
    have hlen := FewestWithin_len x0 x1 x2
    go_enter Try.func3, Try.ntmps3
    go_wp2_with fail
    refine (toInt64S_any _ _ _ _ hx0 hl0).mono ?_
    rintro e w1 ⟨vt1, rfl, hOt1, hb1⟩
    have hb := hb1
    obtain ⟨at1, ct1, rfl, _⟩ := hOt1.at
    go_wp2_with fail
    refine (specFewestWithin_c _ _ _ _ _ _ (hOt1).at' hn0 hn1 hn2).mono ?_
    rintro e w2 ⟨vw0, rfl, hOw0, hb2⟩
    have hb := upw hb hb2
    obtain ⟨aw0, cw0, rfl, _⟩ := hOw0.at
    go_wp2_with fail
    refine (toInt64S_any _ _ _ _ (hx0.below hb) hl0).mono ?_
    rintro e w3 ⟨vx0, rfl, hOx0, hb3⟩
    have hb := upw hb hb3
    obtain ⟨ax0, cx0, rfl, _⟩ := hOx0.at
    go_wp2_with fail
    refine (implFewestWithin_c _ _ _ _ _ _ (hOx0).at' hn0 hn1 hn2).mono ?_
    rintro e w4 ⟨vg0, rfl, hOg0, hb4⟩
    have hb := upw hb hb4
    obtain ⟨ag0, cg0, rfl, _⟩ := hOg0.at
    go_wp2_with fail
    refine (eqInt64S_same _ _ _ _ _ _ (hOg0).at' (((hOw0.later hb3).later hb4)).at' (by omega)).mono ?_
    rintro e w5 ⟨rfl, hb5⟩
    have hb := upw hb hb5
    go_wp2_with fail
    refine (toInt64S_any _ _ _ _ (hx0.below hb) hl0).mono ?_
    rintro e w6 ⟨vt2, rfl, hOt2, hb6⟩
    have hb := upw hb hb6
    obtain ⟨at2, ct2, rfl, _⟩ := hOt2.at
    go_wp2_with fail
    refine (eqInt64S_same _ _ _ _ _ _ ((((hOx0.later hb4).later hb5).later hb6)).at' (hOt2).at' (by omega)).mono ?_
    rintro e w7 ⟨rfl, hb7⟩
    have hb := upw hb hb7
    go_wp2_with fail
    refine (markInt64S_any _ _ _ _ _ ((((hOx0.later hb4).later hb5).later hb6).later hb7) (by omega) (by omega) (by omega)).mono ?_
    rintro e w8 ⟨rfl, hM8, hg8⟩
    have hb := below_mark hb ((((hOx0.later hb4).later hb5).later hb6).later hb7) (by have := hb1.size; have := hb2.size; omega) hg8
    have hOt1_8 := ((((((hOt1.later hb2).later hb3).later hb4).later hb5).later hb6).later hb7).kept hg8 (own_apart' ((((hOx0.later hb4).later hb5).later hb6).later hb7) hOt1 (by have := hb2.size; omega))
    have hOw0_8 := (((((hOw0.later hb3).later hb4).later hb5).later hb6).later hb7).kept hg8 (own_apart' ((((hOx0.later hb4).later hb5).later hb6).later hb7) hOw0 (Nat.le_refl _))
    have hOg0_8 := (((hOg0.later hb5).later hb6).later hb7).kept hg8 (own_apart hOx0 (((hOg0.later hb5).later hb6).later hb7) (Nat.le_refl _))
    have hOt2_8 := (hOt2.later hb7).kept hg8 (own_apart hOx0 (hOt2.later hb7) (by have := hb4.size; have := hb5.size; omega))
    go_wp2_with fail
    refine (eqInt64S_same _ _ _ _ _ _ (hOg0_8).at' (hOw0_8).at' (by omega)).mono ?_
    rintro e w9 ⟨rfl, hb9⟩
    have hb := upw hb hb9
    go_wp2_with fail
    refine (markInt64S_any _ _ _ _ _ (hOg0_8.later hb9) (by omega) (by omega) (by omega)).mono ?_
    rintro e w10 ⟨rfl, hM10, hg10⟩
    have hb := below_mark hb (hOg0_8.later hb9) (by have := hb1.size; have := hb2.size; have := hb3.size; omega) hg10
    have hOt1_10 := (hOt1_8.later hb9).kept hg10 (own_apart' (hOg0_8.later hb9) hOt1 (by have := hb2.size; have := hb3.size; omega))
    have hOw0_10 := (hOw0_8.later hb9).kept hg10 (own_apart' (hOg0_8.later hb9) hOw0 (by have := hb3.size; omega))
    have hOx0_10 := (hM8.later hb9).kept hg10 (own_apart' (hOg0_8.later hb9) hOx0 (Nat.le_refl _))
    have hOt2_10 := (hOt2_8.later hb9).kept hg10 (own_apart hOg0 (hOt2_8.later hb9) (by have := hb5.size; omega))
    go_wp2_with fail
    refine (heldInt64S_any _ _ _ _ _ (hM10).at_n (by omega) (by omega) (by omega)).mono ?_
    rintro e w11 ⟨rfl, hb11⟩
    have hb := upw hb hb11
    go_wp2_with fail
    refine (toInt64S_any _ _ _ _ (hx0.below hb) hl0).mono ?_
    rintro e w12 ⟨vt3, rfl, hOt3, hb12⟩
    have hb := upw hb hb12
    obtain ⟨at3, ct3, rfl, _⟩ := hOt3.at
    go_wp2_with fail
    refine (implFewestWithin_c _ _ _ _ _ _ (hOt3).at' hn0 hn1 hn2).mono ?_
    rintro e w13 ⟨vh0, rfl, hOh0, hb13⟩
    have hb := upw hb hb13
    obtain ⟨ah0, ch0, rfl, _⟩ := hOh0.at
    go_wp2_with fail
    refine (eqInt64S_same _ _ _ _ _ _ (hOh0).at' ((((hOw0_10.later hb11).later hb12).later hb13)).at' (by omega)).mono ?_
    rintro e w14 ⟨rfl, hb14⟩
    have hb := upw hb hb14
    go_wp2_with fail
    refine (heldInt64S_any _ _ _ _ _ (((((hM10.later hb11).later hb12).later hb13).later hb14)).at_n (by omega) (by omega) (by omega)).mono ?_
    rintro e w15 ⟨rfl, hb15⟩
    have hb := upw hb hb15
    go_wp2_with fail
    go_ret
    exact ⟨rfl, hb⟩
  · go_enter Try.func3, Try.ntmps3
    have hb := Below.refl w.heap.size w
    go_wp2_with fail
    go_ret
    exact ⟨rfl, hb⟩

theorem EFewestWithin.own : ownKnob Try.prog.godebug = none := by kernel_rfl
theorem EFewestWithin.laidOut : laidOutB Try.prog = true := by kernel_rfl

set_option maxRecDepth 100000 in
theorem EFewestWithin.lifted (os : Os) (started : os.Started) (H : Type) (enc : TypeId × Value → H) :
    ReturnsInHanded {} Try.checked os 3 .any (Rows.fnExactFewestWithinSpec.pre6 enc Try.prog Try.f3 Rows.fnExactFewestWithinRow.domain false) (Rows.fnExactFewestWithinSpec.post enc Try.prog Try.f3 false true false false) := by
  refine returnsInHanded_of_change (C := Try.checked) EFewestWithin.own started (by kernel_rfl) Try.func3
    (ChangeSpec.witness6 (enc := enc) (C := Try.checked) false ⟨#[], #[.slice none 0 0, .int .i64 0, .int .i64 0], []⟩ 8 (by kernel_rfl) (by kernel_rfl) (by kernel_rfl) (by kernel_rfl)) ?_
  intro W base args ds gs before hval0 hW _ _
  have hval : ∀ (j : Nat) t v, Try.f3.params[j]? = some t → args[j]? = some v → Value.okWide Try.prog W .any base t v := hval0
  have hW' := hW
  obtain ⟨p, q, hA0, hV, rfl, _, _⟩ := hW
  have hA : DataW.TrodAll enc Try.prog W 0 (fun _ => true) true Try.f3.params.toList args.toList ds p := hA0
  rw [Try.params3] at hA hval
  obtain ⟨v0, vs0, d0, ds0, p0, q0, hargs, rfl, rfl, h0, r0⟩ := trodAll_cons hA
  obtain ⟨v1, vs1, d1, ds1, p1, q1, rfl, rfl, rfl, h1, r1⟩ := trodAll_cons r0
  obtain ⟨v2, vs2, d2, ds2, p2, q2, rfl, rfl, rfl, h2, r2⟩ := trodAll_cons r1
  obtain ⟨rfl, rfl, rfl⟩ := trodAll_nil r2
  obtain rfl : args = #[v0, v1, v2] := by cases args; simp_all
  obtain ⟨rfl, rfl⟩ := trodVars_none hV
  have hlt : ∀ x ∈ p0 ++ (p1 ++ (p2 ++ [])), x.block < W.heap.size := fun x hx => by simpa using hW'.lt x (by simpa using hx)
  clear hA0 hval0
  have k0 := h0
  have k1 := h1
  have k2 := h2
  obtain ⟨a0, x0, c0, rfl, hx0, hn0, hk0⟩ := open_list Try.underlying22 opens_int64s (hval 0 22 v0 rfl rfl) h0
  obtain ⟨x1, rfl, rfl, rfl, wf1⟩ := open_int Try.underlying2 (hval 1 2 v1 rfl rfl) h1
  obtain ⟨x2, rfl, rfl, rfl, wf2⟩ := open_int Try.underlying2 (hval 2 2 v2 rfl rfl) h2
  refine (lawFewestWithin a0 x0 c0 x1 x2 W hx0 hn0 (bounds_i64 wf1) (bounds_i64 wf2)).mono fun e W' ⟨he, hb⟩ => ?_
  subst he
  refine ⟨_, rfl, _, _, _, [], p0 ++ ([] ++ ([] ++ [])), [], hW', ?_, ?_, rfl, hb.frame _, fun h => by cases h⟩
  · exact trodAll_mk1 (shut_bool Try.underlying4 _)
  · exact trodAll_cons_mk (Below.trod EFewestWithin.laidOut (by kernel_rfl) (of_decide_eq_true (by kernel_rfl)) k0 hb (fun x hx => hlt x (by simp [hx]))) (trodAll_cons_mk (Below.trod EFewestWithin.laidOut (by kernel_rfl) (of_decide_eq_true (by kernel_rfl)) k1 hb (fun x hx => by cases hx)) (trodAll_cons_mk (Below.trod EFewestWithin.laidOut (by kernel_rfl) (of_decide_eq_true (by kernel_rfl)) k2 hb (fun x hx => by cases hx)) (trodAll_mk0)))

theorem EFewestWithin.holds : Rows.FnExactFewestWithinSaid :=
  OpenClaim.holds_of_wide 3 Try.f3 rfl rfl rfl rfl rfl rfl rfl ⟨rfl, rfl, rfl, rfl, rfl⟩ rfl rfl rfl rfl rfl (by kernel_rfl) Try.func3 (by kernel_rfl)
    (of_decide_eq_true (by kernel_rfl)) (by unfold Func.isWrapper; first | (rw [if_pos (by decide +kernel)]; kernel_rfl) | (rw [if_neg (by decide +kernel)]; exact ⟨rfl, rfl⟩))
    (fun os started H enc _ => EFewestWithin.lifted os started H enc)

end Go.Proofs.Ytokoallbhbgkkaa
