/- FnExactQualityAt: for all arguments the law returns true, and its arguments read behind the call as before. -/
import Derived.Test.YtgjgfmbaajoahaaDoorLaidH
namespace Go.Proofs.YtgjgfmbaajoahaaDoor
open Go.ChangeShapes Go.WideShapes Go.ChangeAt Go.RowKit

set_option maxHeartbeats 4000000 in
theorem lawQualityAt (a : Option Addr) (x : List ByteArray) (c : Nat) (x1 : Int) (x2 : Int) (w : World) (hx : At w a x) (hn : x.length ≤ 9223372036854775807) (hs : ∀ y ∈ x, y.size ≤ 9223372036854775807) :
    Calls Tryd.prog 4 #[.slice a x.length c, .int .i64 x1, .int .i64 x2] w fun e w' => e = .returned (.bool true) ∧ Below w.heap.size w w' := by
  by_cases hh : totStrs x ≤ 1048576
  · have hl : x.length ≤ 1048576 := by unfold totStrs at hh; omega
    replace hs := Lib.hid hs
    obtain ⟨q, hq⟩ : ∃ q, q = qualRes x x1 x2 := ⟨_, rfl⟩
    go_enter Tryd.func4, Tryd.ntmps4
    go_wp2_with fail
    refine (szStringS_ok _ _ _ _ _ hx (by omega) (by omega)).mono ?_
    rintro e w1 ⟨rfl, hb1⟩
    have hb := hb1
    go_wp2_with fail
    refine (toStringS_any _ _ _ _ (hx.below hb) hh).mono ?_
    rintro e w2 ⟨vu, rfl, hOu, hb2⟩
    have hb := upw hb hb2
    obtain ⟨au, cu, rfl, _⟩ := hOu.at
    go_wp2_with fail
    refine (specQualityAt_c _ _ _ x1 x2 _ (hOu).at' hn hs.out).mono ?_
    rintro e w3 ⟨rfl, hb3⟩
    have hb := upw hb hb3
    rw [← hq]
    go_wp2_with fail
    refine (toStringS_any _ _ _ _ (hx.below hb) hh).mono ?_
    rintro e w4 ⟨vp, rfl, hOp, hb4⟩
    have hb := upw hb hb4
    obtain ⟨ap, cp, rfl, _⟩ := hOp.at
    go_wp2_with fail
    refine (implQualityAt_c _ _ _ x1 x2 _ (hOp).at' hn hs.out).mono ?_
    rintro e w5 ⟨rfl, hb5⟩
    have hb := upw hb hb5
    rw [← hq]
    go_wp2_with fail
    refine (toStringS_any _ _ _ _ (hx.below hb) hh).mono ?_
    rintro e w6 ⟨vz, rfl, hOz, hb6⟩
    have hb := upw hb hb6
    obtain ⟨az, cz, rfl, _⟩ := hOz.at
    go_wp2_with fail
    refine (eqStringS_same _ _ _ _ _ _ (((hOp.later hb5).later hb6)).at' (hOz).at' hn).mono ?_
    rintro e w7 ⟨rfl, hb7⟩
    have hb := upw hb hb7
    go_wp2_with fail
    go_ret
    exact ⟨rfl, hb⟩
  · go_enter Tryd.func4, Tryd.ntmps4
    go_wp2_with fail
    refine (szStringS_no _ _ _ _ _ hx hs hn (by omega) (by omega) (by omega)).mono ?_
    rintro e w1 ⟨rfl, hb1⟩
    go_wp2_with fail
    go_ret
    exact ⟨rfl, hb1⟩

theorem EQualityAt.own : ownKnob Tryd.prog.godebug = none := by kernel_rfl
theorem EQualityAt.laidOut : laidOutB Tryd.prog = true := by kernel_rfl

set_option maxRecDepth 100000 in
theorem EQualityAt.lifted (os : Os) (started : os.Started) (H : Type) (enc : TypeId × Value → H) :
    ReturnsInHanded {} Tryd.checked os 4 .any (fun w args => (Rows.fnExactQualityAtSpec.pre enc Tryd.prog Tryd.f4 [] false w args ∧ laidMet Tryd.prog laidLH w) ∧ sizedMet enc Tryd.prog Tryd.f4 (OpenSpec.ofChange Rows.fnExactQualityAtSpec) false w args) (Rows.fnExactQualityAtSpec.post enc Tryd.prog Tryd.f4 false true false false) := by
  refine returnsInHanded_of_change_and (C := Tryd.checked) (X := fun w _ => laidMet Tryd.prog laidLH w) (fun _ _ _ hh h => h.of_heap hh) EQualityAt.own started (by kernel_rfl) Tryd.func4
    (ChangeSpec.witness_at (enc := enc) (C := Tryd.checked) (os := os) (X := fun w _ => laidMet Tryd.prog laidLH w) false (laidWorldH os) #[.slice none 0 0, .int .i64 0, .int .i64 0] 8 rfl (by kernel_rfl) (by kernel_rfl) (by kernel_rfl) (by kernel_rfl) (by kernel_rfl) (laid_metH os _)) ?_
  intro W base args ds gs before hval0 hW _ _ hL _
  have hval : ∀ (j : Nat) t v, Tryd.f4.params[j]? = some t → args[j]? = some v → Value.okWide Tryd.prog W .any base t v := hval0
  have hW' := hW
  obtain ⟨p, q, hA0, hV, rfl, _, _⟩ := hW
  have hA : DataW.TrodAll enc Tryd.prog W 0 (fun _ => true) true Tryd.f4.params.toList args.toList ds p := hA0
  rw [Tryd.params4] at hA hval
  obtain ⟨v0, vs0, d0, ds0, p0, q0, hargs, rfl, rfl, h0, r0⟩ := trodAll_cons hA
  obtain ⟨v1, vs1, d1, ds1, p1, q1, rfl, rfl, rfl, h1, r1⟩ := trodAll_cons r0
  obtain ⟨v2, vs2, d2, ds2, p2, q2, rfl, rfl, rfl, h2, r2⟩ := trodAll_cons r1
  obtain ⟨rfl, rfl, rfl⟩ := trodAll_nil r2
  obtain rfl : args = #[v0, v1, v2] := by cases args; simp_all
  obtain ⟨rfl, rfl⟩ := trodVars_none hV
  have hlt : ∀ x ∈ p0 ++ (p1 ++ (p2 ++ [])), x.block < W.heap.size := fun x hx => by simpa using hW'.lt x (by simpa using hx)
  clear hA0 hval0
  have k0 := h0
  have k1 := h1
  have k2 := h2
  obtain ⟨a0, x0, c0, rfl, hx0, hn0, hk0⟩ := open_list Tryd.underlying22 opens_strings (hval 0 22 v0 rfl rfl) h0
  obtain ⟨x1, rfl, rfl, rfl, wf1⟩ := open_int Tryd.underlying2 (hval 1 2 v1 rfl rfl) h1
  obtain ⟨x2, rfl, rfl, rfl, wf2⟩ := open_int Tryd.underlying2 (hval 2 2 v2 rfl rfl) h2
  refine (lawQualityAt a0 x0 c0 x1 x2 W hx0 hn0 hk0).mono fun e W' ⟨he, hb⟩ => ?_
  subst he
  refine ⟨_, rfl, _, _, _, [], p0 ++ ([] ++ ([] ++ [])), [], hW', ?_, ?_, rfl, hb.frame _, fun h => by cases h⟩
  · exact trodAll_mk1 (shut_bool Tryd.underlying4 _)
  · exact trodAll_cons_mk (Below.trod EQualityAt.laidOut (by kernel_rfl) (of_decide_eq_true (by kernel_rfl)) k0 hb (fun x hx => hlt x (by simp [hx]))) (trodAll_cons_mk (Below.trod EQualityAt.laidOut (by kernel_rfl) (of_decide_eq_true (by kernel_rfl)) k1 hb (fun x hx => by cases hx)) (trodAll_cons_mk (Below.trod EQualityAt.laidOut (by kernel_rfl) (of_decide_eq_true (by kernel_rfl)) k2 hb (fun x hx => by cases hx)) (trodAll_mk0)))

theorem EQualityAt.holds : Rows.FnExactQualityAtSaid :=
  OpenClaim.holds_of_wide 4 Tryd.f4 rfl rfl rfl rfl rfl rfl rfl ⟨rfl, rfl, rfl, rfl, rfl⟩ rfl rfl rfl rfl rfl (by kernel_rfl) Tryd.func4 (by kernel_rfl)
    (of_decide_eq_true (by kernel_rfl)) (by unfold Func.isWrapper; first | (rw [if_pos (by decide +kernel)]; kernel_rfl) | (rw [if_neg (by decide +kernel)]; exact ⟨rfl, rfl⟩))
    (fun os started H enc _ => EQualityAt.lifted os started H enc)

theorem EQualityAt.card_holds : Rows.FnExactQualityAtCardSaid :=
  Claim7.holds_tied_plain_at .later [] [.data, .pinned] true Rows.fnExactQualityAtCard.stood.harness Rows.fnExactQualityAtCard.stood.looks
    EQualityAt.holds (fun _ h => by cases h) (by kernel_rfl) (fun _ h => by cases h) fnExactQualityAt_row_tie rfl ⟨rfl, rfl⟩ (by kernel_rfl) rfl
    (fun f fn hf hfn => by
      obtain rfl : f = 4 := Option.some.inj ((show Tryd.prog.funcNamed "loop.example/g01043/laws.FnExactQualityAt" = some 4 by kernel_rfl).symm.trans hf) |>.symm
      obtain rfl : fn = Tryd.f4 := (Option.some.inj (Tryd.func4.symm.trans hfn)).symm
      exact ⟨by kernel_rfl, fun j t ht => by
        rw [Tryd.params4] at ht
        have h3 : t = 22 ∨ t = 2 := by
          rcases j with _ | _ | _ | j
          · left; simpa using ht.symm
          · right; simpa using ht.symm
          · right; simpa using ht.symm
          · simp at ht
        rcases h3 with rfl | rfl
        · exact (show Tryd.prog.wantsStandIn 22 = false by kernel_rfl)
        · exact (show Tryd.prog.wantsStandIn 2 = false by kernel_rfl)⟩)
    (by kernel_rfl)

end Go.Proofs.YtgjgfmbaajoahaaDoor
