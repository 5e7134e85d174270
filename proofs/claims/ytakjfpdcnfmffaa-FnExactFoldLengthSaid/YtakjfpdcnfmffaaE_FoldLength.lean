/- FnExactFoldLength: for all arguments the law returns true, and its arguments read behind the call as before. (Printed by wip/genlaw.py.) -/
import Derived.Test.YtakjfpdcnfmffaaInts
import Derived.Test.YtakjfpdcnfmffaaL09
namespace Go.Proofs.Ytakjfpdcnfmffaa
open Go.ChangeShapes Go.WideShapes Go.ChangeAt Go.RowKit

set_option maxHeartbeats 4000000 in
theorem lawFoldLength (x0 : Int) (a1 : Option Addr) (x1 : List Int) (c1 : Nat) (x2 : Int) (w : World) (hn0 : -9223372036854775808 ≤ x0 ∧ x0 ≤ 9223372036854775807) (hx1 : At w a1 x1) (hn1 : x1.length ≤ 9223372036854775807) (hn2 : -9223372036854775808 ≤ x2 ∧ x2 ≤ 9223372036854775807) :
    Calls Try.prog 5 #[.int .i64 x0, .slice a1 x1.length c1, .int .i64 x2] w fun e w' => e = .returned (.bool true) ∧ Below w.heap.size w w' := by
  by_cases hh0 : x1.length ≤ 1048576
  · skip
    have hl1 : x1.length ≤ 1048576 := by omega
    go_enter Try.func5, Try.ntmps5
    go_wp2_with fail
    refine (toInt64S_any _ _ _ _ hx1 hl1).mono ?_
    rintro e w1 ⟨vt1, rfl, hOt1, hb1⟩
    have hb := hb1
    obtain ⟨at1, ct1, rfl, _⟩ := hOt1.at
    go_wp2_with fail
    refine (specFoldLength_c _ _ _ _ _ _ hn0 (hOt1).at' hn1 hn2).mono ?_
    rintro e w2 ⟨rfl, hb2⟩
    have hb := upw hb hb2
    go_wp2_with fail
    refine (toInt64S_any _ _ _ _ (hx1.below hb) hl1).mono ?_
    rintro e w3 ⟨vx1, rfl, hOx1, hb3⟩
    have hb := upw hb hb3
    obtain ⟨ax1, cx1, rfl, _⟩ := hOx1.at
    go_wp2_with fail
    refine (implFoldLength_c _ _ _ _ _ _ hn0 (hOx1).at' hn1 hn2).mono ?_
    rintro e w4 ⟨rfl, hb4⟩
    have hb := upw hb hb4
    go_wp2_with fail
    refine (toInt64S_any _ _ _ _ (hx1.below hb) hl1).mono ?_
    rintro e w5 ⟨vt2, rfl, hOt2, hb5⟩
    have hb := upw hb hb5
    obtain ⟨at2, ct2, rfl, _⟩ := hOt2.at
    go_wp2_with fail
    refine (eqInt64S_same _ _ _ _ _ _ (((hOx1.later hb4).later hb5)).at' (hOt2).at' (by first | omega | exact FoldLength_len _)).mono ?_
    rintro e w6 ⟨rfl, hb6⟩
    have hb := upw hb hb6
    go_wp2_with fail
    go_ret
    exact ⟨rfl, hb⟩
  · go_enter Try.func5, Try.ntmps5
    have hb := Below.refl w.heap.size w
    go_wp2_with fail
    go_ret
    exact ⟨rfl, hb⟩

theorem EFoldLength.own : ownKnob Try.prog.godebug = none := by kernel_rfl
theorem EFoldLength.laidOut : laidOutB Try.prog = true := by kernel_rfl

set_option maxRecDepth 100000 in
theorem EFoldLength.lifted (os : Os) (started : os.Started) (H : Type) (enc : TypeId × Value → H) :
    ReturnsInHanded {} Try.checked os 5 .any (Rows.fnExactFoldLengthSpec.pre6 enc Try.prog Try.f5 Rows.fnExactFoldLengthRow.domain false) (Rows.fnExactFoldLengthSpec.post enc Try.prog Try.f5 false true false false) := by
  refine returnsInHanded_of_change (C := Try.checked) EFoldLength.own started (by kernel_rfl) Try.func5
    (ChangeSpec.witness6 (enc := enc) (C := Try.checked) false ⟨#[], #[.int .i64 0, .slice none 0 0, .int .i64 0], []⟩ 8 (by kernel_rfl) (by kernel_rfl) (by kernel_rfl) (by kernel_rfl)) ?_
  intro W base args ds gs before hval0 hW _ _
  have hval : ∀ (j : Nat) t v, Try.f5.params[j]? = some t → args[j]? = some v → Value.okWide Try.prog W .any base t v := hval0
  have hW' := hW
  obtain ⟨p, q, hA0, hV, rfl, _, _⟩ := hW
  have hA : DataW.TrodAll enc Try.prog W 0 (fun _ => true) true Try.f5.params.toList args.toList ds p := hA0
  rw [Try.params5] at hA hval
  obtain ⟨v0, vs0, d0, ds0, p0, q0, hargs, rfl, rfl, h0, r0⟩ := trodAll_cons hA
  obtain ⟨v1, vs1, d1, ds1, p1, q1, rfl, rfl, rfl, h1, r1⟩ := trodAll_cons r0
  obtain ⟨v2, vs2, d2, ds2, p2, q2, rfl, rfl, rfl, h2, r2⟩ := trodAll_cons r1
  obtain ⟨rfl, rfl, rfl⟩ := trodAll_nil r2
  obtain rfl : args = #[v0, v1, v2] := by cases args; simp_all
  obtain ⟨rfl, rfl⟩ := trodVars_none hV
  have hlt : ∀ x ∈ p0 ++ (p1 ++ (p2 ++ [])), x.block < W.heap.size := fun x hx => by simpa using hW'.lt x (by simpa using hx)
  clear hA0 hval0
  have k0 := h0
  have k1 := h1
  have k2 := h2
  obtain ⟨x0, rfl, rfl, rfl, wf0⟩ := open_int Try.underlying2 (hval 0 2 v0 rfl rfl) h0
  obtain ⟨a1, x1, c1, rfl, hx1, hn1, hk1⟩ := open_list Try.underlying34 opens_int64s (hval 1 34 v1 rfl rfl) h1
  obtain ⟨x2, rfl, rfl, rfl, wf2⟩ := open_int Try.underlying2 (hval 2 2 v2 rfl rfl) h2
  refine (lawFoldLength x0 a1 x1 c1 x2 W (bounds_i64 wf0) hx1 hn1 (bounds_i64 wf2)).mono fun e W' ⟨he, hb⟩ => ?_
  subst he
  refine ⟨_, rfl, _, _, _, [], [] ++ (p1 ++ ([] ++ [])), [], hW', ?_, ?_, rfl, hb.frame _, fun h => by cases h⟩
  · exact trodAll_mk1 (shut_bool Try.underlying4 _)
  · exact trodAll_cons_mk (Below.trod EFoldLength.laidOut (by kernel_rfl) (of_decide_eq_true (by kernel_rfl)) k0 hb (fun x hx => by cases hx)) (trodAll_cons_mk (Below.trod EFoldLength.laidOut (by kernel_rfl) (of_decide_eq_true (by kernel_rfl)) k1 hb (fun x hx => hlt x (by simp [hx]))) (trodAll_cons_mk (Below.trod EFoldLength.laidOut (by kernel_rfl) (of_decide_eq_true (by kernel_rfl)) k2 hb (fun x hx => by cases hx)) (trodAll_mk0)))

theorem EFoldLength.holds : Rows.FnExactFoldLengthSaid :=
  OpenClaim.holds_of_wide 5 Try.f5 rfl rfl rfl rfl rfl rfl rfl ⟨rfl, rfl, rfl, rfl, rfl⟩ rfl rfl rfl rfl rfl (by kernel_rfl) Try.func5 (by kernel_rfl)
    (of_decide_eq_true (by kernel_rfl)) (by unfold Func.isWrapper; first | (rw [if_pos (by decide +kernel)]; kernel_rfl) | (rw [if_neg (by decide +kernel)]; exact ⟨rfl, rfl⟩))
    (fun os started H enc _ => EFoldLength.lifted os started H enc)

end Go.Proofs.Ytakjfpdcnfmffaa
