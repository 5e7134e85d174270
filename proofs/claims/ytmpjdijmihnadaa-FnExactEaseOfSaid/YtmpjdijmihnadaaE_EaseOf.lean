/- FnExactEaseOf: for all arguments the law returns true, and its arguments read behind the call as before. (Printed by wip/genlaw.py.) -/
import Derived.Test.YtmpjdijmihnadaaInts
import Derived.Test.YtmpjdijmihnadaaL09e
namespace Go.Proofs.Ytmpjdijmihnadaa
open Go.ChangeShapes Go.WideShapes Go.ChangeAt Go.RowKit

set_option maxHeartbeats 4000000 in
theorem lawEaseOf (x0 : Int) (x1 : Int) (a2 : Option Addr) (x2 : List Int) (c2 : Nat) (w : World) (hn0 : -9223372036854775808 ≤ x0 ∧ x0 ≤ 9223372036854775807) (hn1 : -9223372036854775808 ≤ x1 ∧ x1 ≤ 9223372036854775807) (hx2 : At w a2 x2) (hn2 : x2.length ≤ 9223372036854775807) :
    Calls Try.prog 5 #[.int .i64 x0, .int .i64 x1, .slice a2 x2.length c2] w fun e w' => e = .returned (.bool true) ∧ Below w.heap.size w w' := by
  by_cases hh0 : x2.length ≤ 1048576
  · skip
    have hl2 : x2.length ≤ 1048576 := by omega
    have hlen := EaseOf_len x0 x1 x2
    go_enter Try.func5, Try.ntmps5
    go_wp2_with fail
    refine (toInt64S_any _ _ _ _ hx2 hl2).mono ?_
    rintro e w1 ⟨vt1, rfl, hOt1, hb1⟩
    have hb := hb1
    obtain ⟨at1, ct1, rfl, _⟩ := hOt1.at
    go_wp2_with fail
    refine (specEaseOf_c _ _ _ _ _ _ hn0 hn1 (hOt1).at' hn2).mono ?_
    rintro e w2 ⟨vw0, rfl, hOw0, hb2⟩
    have hb := upw hb hb2
    obtain ⟨aw0, cw0, rfl, _⟩ := hOw0.at
    go_wp2_with fail
    refine (toInt64S_any _ _ _ _ (hx2.below hb) hl2).mono ?_
    rintro e w3 ⟨vx2, rfl, hOx2, hb3⟩
    have hb := upw hb hb3
    obtain ⟨ax2, cx2, rfl, _⟩ := hOx2.at
    go_wp2_with fail
    refine (implEaseOf_c _ _ _ _ _ _ hn0 hn1 (hOx2).at' hn2).mono ?_
    rintro e w4 ⟨vg0, rfl, hOg0, hb4⟩
    have hb := upw hb hb4
    obtain ⟨ag0, cg0, rfl, _⟩ := hOg0.at
    go_wp2_with fail
    refine (eqInt64S_same _ _ _ _ _ _ (hOg0).at' (((hOw0.later hb3).later hb4)).at' (by omega)).mono ?_
    rintro e w5 ⟨rfl, hb5⟩
    have hb := upw hb hb5
    go_wp2_with fail
    refine (toInt64S_any _ _ _ _ (hx2.below hb) hl2).mono ?_
    rintro e w6 ⟨vt2, rfl, hOt2, hb6⟩
    have hb := upw hb hb6
    obtain ⟨at2, ct2, rfl, _⟩ := hOt2.at
    go_wp2_with fail
    refine (eqInt64S_same _ _ _ _ _ _ ((((hOx2.later hb4).later hb5).later hb6)).at' (hOt2).at' (by omega)).mono ?_
    rintro e w7 ⟨rfl, hb7⟩
    have hb := upw hb hb7
    go_wp2_with fail
    refine (markInt64S_any _ _ _ _ _ ((((hOx2.later hb4).later hb5).later hb6).later hb7) (by omega) (by omega) (by omega)).mono ?_
    rintro e w8 ⟨rfl, hM8, hg8⟩
    have hb := below_mark hb ((((hOx2.later hb4).later hb5).later hb6).later hb7) (by have := hb1.size; have := hb2.size; omega) hg8
    have hOt1_8 := ((((((hOt1.later hb2).later hb3).later hb4).later hb5).later hb6).later hb7).kept hg8 (own_apart' ((((hOx2.later hb4).later hb5).later hb6).later hb7) hOt1 (by have := hb2.size; omega))
    have hOw0_8 := (((((hOw0.later hb3).later hb4).later hb5).later hb6).later hb7).kept hg8 (own_apart' ((((hOx2.later hb4).later hb5).later hb6).later hb7) hOw0 (Nat.le_refl _))
    have hOg0_8 := (((hOg0.later hb5).later hb6).later hb7).kept hg8 (own_apart hOx2 (((hOg0.later hb5).later hb6).later hb7) (Nat.le_refl _))
    have hOt2_8 := (hOt2.later hb7).kept hg8 (own_apart hOx2 (hOt2.later hb7) (by have := hb4.size; have := hb5.size; omega))
    go_wp2_with fail
    refine (eqInt64S_same _ _ _ _ _ _ (hOg0_8).at' (hOw0_8).at' (by omega)).mono ?_
    rintro e w9 ⟨rfl, hb9⟩
    have hb := upw hb hb9
    go_wp2_with fail
    refine (markInt64S_any _ _ _ _ _ (hOg0_8.later hb9) (by omega) (by omega) (by omega)).mono ?_
    rintro e w10 ⟨rfl, hM10, hg10⟩
    have hb := below_mark hb (hOg0_8.later hb9) (by have := hb1.size; have := hb2.size; have := hb3.size; omega) hg10
    have hOt1_10 := (hOt1_8.later hb9).kept hg10 (own_apart' (hOg0_8.later hb9) hOt1 (by have := hb2.size; have := hb3.size; omega))
    have hOw0_10 := (hOw0_8.later hb9).kept hg10 (own_apart' (hOg0_8.later hb9) hOw0 (by have := hb3.size; omega))
    have hOx2_10 := (hM8.later hb9).kept hg10 (own_apart' (hOg0_8.later hb9) hOx2 (Nat.le_refl _))
    have hOt2_10 := (hOt2_8.later hb9).kept hg10 (own_apart hOg0 (hOt2_8.later hb9) (by have := hb5.size; omega))
    go_wp2_with fail
    refine (heldInt64S_any _ _ _ _ _ (hM10).at_n (by omega) (by omega) (by omega)).mono ?_
    rintro e w11 ⟨rfl, hb11⟩
    have hb := upw hb hb11
    go_wp2_with fail
    refine (toInt64S_any _ _ _ _ (hx2.below hb) hl2).mono ?_
    rintro e w12 ⟨vt3, rfl, hOt3, hb12⟩
    have hb := upw hb hb12
    obtain ⟨at3, ct3, rfl, _⟩ := hOt3.at
    go_wp2_with fail
    refine (implEaseOf_c _ _ _ _ _ _ hn0 hn1 (hOt3).at' hn2).mono ?_
    rintro e w13 ⟨vh0, rfl, hOh0, hb13⟩
    have hb := upw hb hb13
    obtain ⟨ah0, ch0, rfl, _⟩ := hOh0.at
    go_wp2_with fail
    refine (eqInt64S_same _ _ _ _ _ _ (hOh0).at' ((((hOw0_10.later hb11).later hb12).later hb13)).at' (by omega)).mono ?_
    rintro e w14 ⟨rfl, hb14⟩
    have hb := upw hb hb14
    go_wp2_with fail
    refine (heldInt64S_any _ _ _ _ _ (((((hM10.later hb11).later hb12).later hb13).later hb14)).at_n (by omega) (by omega) (by omega)).mono ?_
    rintro e w15 ⟨rfl, hb15⟩
    have hb := upw hb hb15
    go_wp2_with fail
    go_ret
    exact ⟨rfl, hb⟩
  · go_enter Try.func5, Try.ntmps5
    have hb := Below.refl w.heap.size w
    go_wp2_with fail
    go_ret
    exact ⟨rfl, hb⟩

theorem EEaseOf.own : ownKnob Try.prog.godebug = none := by kernel_rfl
theorem EEaseOf.laidOut : laidOutB Try.prog = true := by kernel_rfl

set_option maxRecDepth 100000 in
theorem EEaseOf.lifted (os : Os) (started : os.Started) (H : Type) (enc : TypeId × Value → H) :
    ReturnsInHanded {} Try.checked os 5 .any (Rows.fnExactEaseOfSpec.pre6 enc Try.prog Try.f5 Rows.fnExactEaseOfRow.domain false) (Rows.fnExactEaseOfSpec.post enc Try.prog Try.f5 false true false false) := by
  refine returnsInHanded_of_change (C := Try.checked) EEaseOf.own started (by kernel_rfl) Try.func5
    (ChangeSpec.witness6 (enc := enc) (C := Try.checked) false ⟨#[], #[.int .i64 0, .int .i64 0, .slice none 0 0], []⟩ 8 (by kernel_rfl) (by kernel_rfl) (by kernel_rfl) (by kernel_rfl)) ?_
  intro W base args ds gs before hval0 hW _ _
  have hval : ∀ (j : Nat) t v, Try.f5.params[j]? = some t → args[j]? = some v → Value.okWide Try.prog W .any base t v := hval0
  have hW' := hW
  obtain ⟨p, q, hA0, hV, rfl, _, _⟩ := hW
  have hA : DataW.TrodAll enc Try.prog W 0 (fun _ => true) true Try.f5.params.toList args.toList ds p := hA0
  rw [Try.params5] at hA hval
  obtain ⟨v0, vs0, d0, ds0, p0, q0, hargs, rfl, rfl, h0, r0⟩ := trodAll_cons hA
  obtain ⟨v1, vs1, d1, ds1, p1, q1, rfl, rfl, rfl, h1, r1⟩ := trodAll_cons r0
  obtain ⟨v2, vs2, d2, ds2, p2, q2, rfl, rfl, rfl, h2, r2⟩ := trodAll_cons r1
  obtain ⟨rfl, rfl, rfl⟩ := trodAll_nil r2
  obtain rfl : args = #[v0, v1, v2] := by cases args; simp_all
  obtain ⟨rfl, rfl⟩ := trodVars_none hV
  have hlt : ∀ x ∈ p0 ++ (p1 ++ (p2 ++ [])), x.block < W.heap.size := fun x hx => by simpa using hW'.lt x (by simpa using hx)
  clear hA0 hval0
  have k0 := h0
  have k1 := h1
  have k2 := h2
  obtain ⟨x0, rfl, rfl, rfl, wf0⟩ := open_int Try.underlying2 (hval 0 2 v0 rfl rfl) h0
  obtain ⟨x1, rfl, rfl, rfl, wf1⟩ := open_int Try.underlying2 (hval 1 2 v1 rfl rfl) h1
  obtain ⟨a2, x2, c2, rfl, hx2, hn2, hk2⟩ := open_list Try.underlying32 opens_int64s (hval 2 32 v2 rfl rfl) h2
  refine (lawEaseOf x0 x1 a2 x2 c2 W (bounds_i64 wf0) (bounds_i64 wf1) hx2 hn2).mono fun e W' ⟨he, hb⟩ => ?_
  subst he
  refine ⟨_, rfl, _, _, _, [], [] ++ ([] ++ (p2 ++ [])), [], hW', ?_, ?_, rfl, hb.frame _, fun h => by cases h⟩
  · exact trodAll_mk1 (shut_bool Try.underlying4 _)
  · exact trodAll_cons_mk (Below.trod EEaseOf.laidOut (by kernel_rfl) (of_decide_eq_true (by kernel_rfl)) k0 hb (fun x hx => by cases hx)) (trodAll_cons_mk (Below.trod EEaseOf.laidOut (by kernel_rfl) (of_decide_eq_true (by kernel_rfl)) k1 hb (fun x hx => by cases hx)) (trodAll_cons_mk (Below.trod EEaseOf.laidOut (by kernel_rfl) (of_decide_eq_true (by kernel_rfl)) k2 hb (fun x hx => hlt x (by simp [hx]))) (trodAll_mk0)))

theorem EEaseOf.holds : Rows.FnExactEaseOfSaid :=
  OpenClaim.holds_of_wide 5 Try.f5 rfl rfl rfl rfl rfl rfl rfl ⟨rfl, rfl, rfl, rfl, rfl⟩ rfl rfl rfl rfl rfl (by kernel_rfl) Try.func5 (by kernel_rfl)
    (of_decide_eq_true (by kernel_rfl)) (by unfold Func.isWrapper; first | (rw [if_pos (by decide +kernel)]; kernel_rfl) | (rw [if_neg (by decide +kernel)]; exact ⟨rfl, rfl⟩))
    (fun os started H enc _ => EEaseOf.lifted os started H enc)

end Go.Proofs.Ytmpjdijmihnadaa
