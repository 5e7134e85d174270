/- FnExactNotchFault: for all arguments the law returns true, and its arguments read behind the call as before. (Printed by wip/genlaw.py.) -/
import Derived.Test.YtakjfpdcnfmffaaInts
import Derived.Test.YtakjfpdcnfmffaaL09n
namespace Go.Proofs.Ytakjfpdcnfmffaa
open Go.ChangeShapes Go.WideShapes Go.ChangeAt Go.RowKit

set_option maxHeartbeats 4000000 in
theorem lawNotchFault (x0 : Int) (x1 : Int) (a2 : Option Addr) (x2 : List Int) (c2 : Nat) (a3 : Option Addr) (x3 : List Int) (c3 : Nat) (x4 : Int) (w : World) (hn0 : -9223372036854775808 ≤ x0 ∧ x0 ≤ 9223372036854775807) (hn1 : -9223372036854775808 ≤ x1 ∧ x1 ≤ 9223372036854775807) (hx2 : At w a2 x2) (hn2 : x2.length ≤ 9223372036854775807) (hx3 : At w a3 x3) (hn3 : x3.length ≤ 9223372036854775807) (hn4 : -9223372036854775808 ≤ x4 ∧ x4 ≤ 9223372036854775807) :
    Calls Try.prog 7 #[.int .i64 x0, .int .i64 x1, .slice a2 x2.length c2, .slice a3 x3.length c3, .int .i64 x4] w fun e w' => e = .returned (.bool true) ∧ Below w.heap.size w w' := by
  by_cases hh0 : x2.length ≤ 1048576
  · skip
    by_cases hh1 : x3.length ≤ 1048576
    · skip
      have hl2 : x2.length ≤ 1048576 := by omega
      have hl3 : x3.length ≤ 1048576 := by omega
      go_enter Try.func7, Try.ntmps7
      go_wp2_with fail
      refine (toInt64S_any _ _ _ _ hx2 hl2).mono ?_
      rintro e w1 ⟨vt1, rfl, hOt1, hb1⟩
      have hb := hb1
      obtain ⟨at1, ct1, rfl, _⟩ := hOt1.at
      go_wp2_with fail
      refine (toInt64S_any _ _ _ _ (hx3.below hb) hl3).mono ?_
      rintro e w2 ⟨vt2, rfl, hOt2, hb2⟩
      have hb := upw hb hb2
      obtain ⟨at2, ct2, rfl, _⟩ := hOt2.at
      go_wp2_with fail
      refine (specNotchFault_c _ _ _ _ _ _ _ _ _ _ hn0 hn1 ((hOt1.later hb2)).at' hn2 (hOt2).at' hn3 hn4).mono ?_
      rintro e w3 ⟨rfl, hb3⟩
      have hb := upw hb hb3
      go_wp2_with fail
      refine (toInt64S_any _ _ _ _ (hx2.below hb) hl2).mono ?_
      rintro e w4 ⟨vx2, rfl, hOx2, hb4⟩
      have hb := upw hb hb4
      obtain ⟨ax2, cx2, rfl, _⟩ := hOx2.at
      go_wp2_with fail
      refine (toInt64S_any _ _ _ _ (hx3.below hb) hl3).mono ?_
      rintro e w5 ⟨vx3, rfl, hOx3, hb5⟩
      have hb := upw hb hb5
      obtain ⟨ax3, cx3, rfl, _⟩ := hOx3.at
      go_wp2_with fail
      refine (implNotchFault_c _ _ _ _ _ _ _ _ _ _ hn0 hn1 ((hOx2.later hb5)).at' hn2 (hOx3).at' hn3 hn4).mono ?_
      rintro e w6 ⟨rfl, hb6⟩
      have hb := upw hb hb6
      go_wp2_with fail
      refine (toInt64S_any _ _ _ _ (hx2.below hb) hl2).mono ?_
      rintro e w7 ⟨vt3, rfl, hOt3, hb7⟩
      have hb := upw hb hb7
      obtain ⟨at3, ct3, rfl, _⟩ := hOt3.at
      go_wp2_with fail
      refine (eqInt64S_same _ _ _ _ _ _ ((((hOx2.later hb5).later hb6).later hb7)).at' (hOt3).at' (by omega)).mono ?_
      rintro e w8 ⟨rfl, hb8⟩
      have hb := upw hb hb8
      go_wp2_with fail
      refine (toInt64S_any _ _ _ _ (hx3.below hb) hl3).mono ?_
      rintro e w9 ⟨vt4, rfl, hOt4, hb9⟩
      have hb := upw hb hb9
      obtain ⟨at4, ct4, rfl, _⟩ := hOt4.at
      go_wp2_with fail
      refine (eqInt64S_same _ _ _ _ _ _ (((((hOx3.later hb6).later hb7).later hb8).later hb9)).at' (hOt4).at' (by omega)).mono ?_
      rintro e w10 ⟨rfl, hb10⟩
      have hb := upw hb hb10
      go_wp2_with fail
      go_ret
      exact ⟨rfl, hb⟩
    · go_enter Try.func7, Try.ntmps7
      have hb := Below.refl w.heap.size w
      go_wp2_with fail
      go_ret
      exact ⟨rfl, hb⟩
  · go_enter Try.func7, Try.ntmps7
    have hb := Below.refl w.heap.size w
    go_wp2_with fail
    go_ret
    exact ⟨rfl, hb⟩

theorem ENotchFault.own : ownKnob Try.prog.godebug = none := by kernel_rfl
theorem ENotchFault.laidOut : laidOutB Try.prog = true := by kernel_rfl

set_option maxRecDepth 100000 in
theorem ENotchFault.lifted (os : Os) (started : os.Started) (H : Type) (enc : TypeId × Value → H) :
    ReturnsInHanded {} Try.checked os 7 .any (Rows.fnExactNotchFaultSpec.pre6 enc Try.prog Try.f7 Rows.fnExactNotchFaultRow.domain false) (Rows.fnExactNotchFaultSpec.post enc Try.prog Try.f7 false true false false) := by
  refine returnsInHanded_of_change (C := Try.checked) ENotchFault.own started (by kernel_rfl) Try.func7
    (ChangeSpec.witness6 (enc := enc) (C := Try.checked) false ⟨#[], #[.int .i64 0, .int .i64 0, .slice none 0 0, .slice none 0 0, .int .i64 0], []⟩ 8 (by kernel_rfl) (by kernel_rfl) (by kernel_rfl) (by kernel_rfl)) ?_
  intro W base args ds gs before hval0 hW _ _
  have hval : ∀ (j : Nat) t v, Try.f7.params[j]? = some t → args[j]? = some v → Value.okWide Try.prog W .any base t v := hval0
  have hW' := hW
  obtain ⟨p, q, hA0, hV, rfl, _, _⟩ := hW
  have hA : DataW.TrodAll enc Try.prog W 0 (fun _ => true) true Try.f7.params.toList args.toList ds p := hA0
  rw [Try.params7] at hA hval
  obtain ⟨v0, vs0, d0, ds0, p0, q0, hargs, rfl, rfl, h0, r0⟩ := trodAll_cons hA
  obtain ⟨v1, vs1, d1, ds1, p1, q1, rfl, rfl, rfl, h1, r1⟩ := trodAll_cons r0
  obtain ⟨v2, vs2, d2, ds2, p2, q2, rfl, rfl, rfl, h2, r2⟩ := trodAll_cons r1
  obtain ⟨v3, vs3, d3, ds3, p3, q3, rfl, rfl, rfl, h3, r3⟩ := trodAll_cons r2
  obtain ⟨v4, vs4, d4, ds4, p4, q4, rfl, rfl, rfl, h4, r4⟩ := trodAll_cons r3
  obtain ⟨rfl, rfl, rfl⟩ := trodAll_nil r4
  obtain rfl : args = #[v0, v1, v2, v3, v4] := by cases args; simp_all
  obtain ⟨rfl, rfl⟩ := trodVars_none hV
  have hlt : ∀ x ∈ p0 ++ (p1 ++ (p2 ++ (p3 ++ (p4 ++ [])))), x.block < W.heap.size := fun x hx => by simpa using hW'.lt x (by simpa using hx)
  clear hA0 hval0
  have k0 := h0
  have k1 := h1
  have k2 := h2
  have k3 := h3
  have k4 := h4
  obtain ⟨x0, rfl, rfl, rfl, wf0⟩ := open_int Try.underlying2 (hval 0 2 v0 rfl rfl) h0
  obtain ⟨x1, rfl, rfl, rfl, wf1⟩ := open_int Try.underlying2 (hval 1 2 v1 rfl rfl) h1
  obtain ⟨a2, x2, c2, rfl, hx2, hn2, hk2⟩ := open_list Try.underlying34 opens_int64s (hval 2 34 v2 rfl rfl) h2
  obtain ⟨a3, x3, c3, rfl, hx3, hn3, hk3⟩ := open_list Try.underlying34 opens_int64s (hval 3 34 v3 rfl rfl) h3
  obtain ⟨x4, rfl, rfl, rfl, wf4⟩ := open_int Try.underlying2 (hval 4 2 v4 rfl rfl) h4
  refine (lawNotchFault x0 x1 a2 x2 c2 a3 x3 c3 x4 W (bounds_i64 wf0) (bounds_i64 wf1) hx2 hn2 hx3 hn3 (bounds_i64 wf4)).mono fun e W' ⟨he, hb⟩ => ?_
  subst he
  refine ⟨_, rfl, _, _, _, [], [] ++ ([] ++ (p2 ++ (p3 ++ ([] ++ [])))), [], hW', ?_, ?_, rfl, hb.frame _, fun h => by cases h⟩
  · exact trodAll_mk1 (shut_bool Try.underlying4 _)
  · exact trodAll_cons_mk (Below.trod ENotchFault.laidOut (by kernel_rfl) (of_decide_eq_true (by kernel_rfl)) k0 hb (fun x hx => by cases hx)) (trodAll_cons_mk (Below.trod ENotchFault.laidOut (by kernel_rfl) (of_decide_eq_true (by kernel_rfl)) k1 hb (fun x hx => by cases hx)) (trodAll_cons_mk (Below.trod ENotchFault.laidOut (by kernel_rfl) (of_decide_eq_true (by kernel_rfl)) k2 hb (fun x hx => hlt x (by simp [hx]))) (trodAll_cons_mk (Below.trod ENotchFault.laidOut (by kernel_rfl) (of_decide_eq_true (by kernel_rfl)) k3 hb (fun x hx => hlt x (by simp [hx]))) (trodAll_cons_mk (Below.trod ENotchFault.laidOut (by kernel_rfl) (of_decide_eq_true (by kernel_rfl)) k4 hb (fun x hx => by cases hx)) (trodAll_mk0)))))

theorem ENotchFault.holds : Rows.FnExactNotchFaultSaid :=
  OpenClaim.holds_of_wide 7 Try.f7 rfl rfl rfl rfl rfl rfl rfl ⟨rfl, rfl, rfl, rfl, rfl⟩ rfl rfl rfl rfl rfl (by kernel_rfl) Try.func7 (by kernel_rfl)
    (of_decide_eq_true (by kernel_rfl)) (by unfold Func.isWrapper; first | (rw [if_pos (by decide +kernel)]; kernel_rfl) | (rw [if_neg (by decide +kernel)]; exact ⟨rfl, rfl⟩))
    (fun os started H enc _ => ENotchFault.lifted os started H enc)

end Go.Proofs.Ytakjfpdcnfmffaa
