/- FnExactOutlineText: for all arguments the law returns true, and its arguments read behind the call as before. (Printed by wip/genlaw2.py.) -/
import Derived.Test.YthapcljhokfkmaaDoorSpot
import Derived.Test.YthapcljhokfkmaaDoorOutT
import Derived.Deep.RegionHeld3
import Derived.Test.YthapcljhokfkmaaDoorLaid
import Derived.Test.YthapcljhokfkmaaDoorCards
import Derived.Test.YthapcljhokfkmaaDoorTie
import Derived.SevenTiedAt
namespace Go.Proofs.YthapcljhokfkmaaDoor
open Go.ChangeShapes Go.WideShapes Go.ChangeAt Go.RowKit

set_option maxRecDepth 100000 in
set_option maxHeartbeats 4000000 in
theorem lawOutlineText (a0 : Option Addr) (x0 : List Spot) (c0 : Nat) (w : World) (hx0 : At w a0 x0) (hn0 : x0.length ≤ 9223372036854775807) (hT : Tab w) :
    Calls Tryd.prog 4 #[.slice a0 x0.length c0] w fun e w' => e = .returned (.bool true) ∧ Below w.heap.size w w' := by
  by_cases hh0 : x0.length ≤ 1048576
  · skip
    have hl0 : x0.length ≤ 1048576 := by omega
    replace hT := Lib.hid hT
    go_enter Tryd.func4, Tryd.ntmps4
    go_wp2_with fail
    refine (szSpotS_ok _ _ _ _ _ (by omega) (by omega)).mono ?_
    rintro e w1 ⟨rfl, hb1⟩
    have hb := hb1
    go_wp2_with fail
    refine (toSpotS_any _ _ _ _ (hx0.below hb) hl0).mono ?_
    rintro e w2 ⟨vt1, rfl, hOt1, hb2⟩
    have hb := upw hb hb2
    obtain ⟨at1, ct1, rfl, _⟩ := hOt1.at
    go_wp2_with fail
    refine (specOutlineText_c _ _ _ _ (hOt1).at' hn0).mono ?_
    rintro e w3 ⟨rfl, hb3⟩
    have hb := upw hb hb3
    go_wp2_with fail
    refine (toSpotS_any _ _ _ _ (hx0.below hb) hl0).mono ?_
    rintro e w4 ⟨vx0, rfl, hOx0, hb4⟩
    have hb := upw hb hb4
    obtain ⟨ax0, cx0, rfl, _⟩ := hOx0.at
    go_wp2_with fail
    refine (implOutlineText_c _ _ _ _ (hOx0).at' hn0 (hT.out.below hb)).mono ?_
    rintro e w5 ⟨rfl, hb5⟩
    have hb := upw hb hb5
    go_wp2_with fail
    refine (toSpotS_any _ _ _ _ (hx0.below hb) hl0).mono ?_
    rintro e w6 ⟨vt2, rfl, hOt2, hb6⟩
    have hb := upw hb hb6
    obtain ⟨at2, ct2, rfl, _⟩ := hOt2.at
    go_wp2_with fail
    refine (eqSpotS_same _ _ _ _ _ _ (((hOx0.later hb5).later hb6)).at' (hOt2).at' (by omega)).mono ?_
    rintro e w7 ⟨rfl, hb7⟩
    have hb := upw hb hb7
    go_wp2_with fail
    go_ret
    exact ⟨rfl, hb⟩
  · go_enter Tryd.func4, Tryd.ntmps4
    go_wp2_with fail
    refine (szSpotS_no _ _ _ _ _ (by omega) (by omega) (by omega)).mono ?_
    rintro e w1 ⟨rfl, hb1⟩
    have hb := hb1
    go_wp2_with fail
    go_ret
    exact ⟨rfl, hb⟩

theorem EOutlineText.own : ownKnob Tryd.prog.godebug = none := by kernel_rfl
theorem EOutlineText.laidOut : laidOutB Tryd.prog = true := by kernel_rfl

set_option maxRecDepth 100000 in
theorem EOutlineText.lifted (os : Os) (started : os.Started) (H : Type) (enc : TypeId × Value → H) :
    ReturnsInHanded {} Tryd.checked os 4 .any (fun w args => (Rows.fnExactOutlineTextSpec.pre enc Tryd.prog Tryd.f4 [] false w args ∧ laidMet Tryd.prog laidL w) ∧ sizedMet enc Tryd.prog Tryd.f4 (OpenSpec.ofChange Rows.fnExactOutlineTextSpec) false w args) (Rows.fnExactOutlineTextSpec.post enc Tryd.prog Tryd.f4 false true false false) := by
  refine returnsInHanded_of_change_and (C := Tryd.checked) (X := fun w _ => laidMet Tryd.prog laidL w) (fun _ _ _ hh h => h.of_heap hh) EOutlineText.own started (by kernel_rfl) Tryd.func4
    (ChangeSpec.witness_at (enc := enc) (C := Tryd.checked) (os := os) (X := fun w _ => laidMet Tryd.prog laidL w) false (laidWorld os) #[.slice none 0 0] 8 rfl (by kernel_rfl) (by kernel_rfl) (by kernel_rfl) (by kernel_rfl) (by kernel_rfl) (laid_met os _)) ?_
  intro W base args ds gs before hval0 hW _ _ hL _
  have hval : ∀ (j : Nat) t v, Tryd.f4.params[j]? = some t → args[j]? = some v → Value.okWide Tryd.prog W .any base t v := hval0
  have hW' := hW
  obtain ⟨p, q, hA0, hV, rfl, _, _⟩ := hW
  have hA : DataW.TrodAll enc Tryd.prog W 0 (fun _ => true) true Tryd.f4.params.toList args.toList ds p := hA0
  rw [Tryd.params4] at hA hval
  obtain ⟨v0, vs0, d0, ds0, p0, q0, hargs, rfl, rfl, h0, r0⟩ := trodAll_cons hA
  obtain ⟨rfl, rfl, rfl⟩ := trodAll_nil r0
  obtain rfl : args = #[v0] := by cases args; simp_all
  obtain ⟨rfl, rfl⟩ := trodVars_none hV
  have hlt : ∀ x ∈ p0 ++ [], x.block < W.heap.size := fun x hx => by simpa using hW'.lt x (by simpa using hx)
  clear hA0 hval0
  have k0 := h0
  obtain ⟨a0, x0, c0, rfl, hx0, hn0, hk0⟩ := open_list Tryd.underlying28 opens_lspots (hval 0 28 v0 rfl rfl) h0
  refine (lawOutlineText a0 x0 c0 W hx0 hn0 (tab_of_laid hL)).mono fun e W' ⟨he, hb⟩ => ?_
  subst he
  refine ⟨_, rfl, _, _, _, [], p0 ++ [], [], hW', ?_, ?_, rfl, hb.frame _, fun h => by cases h⟩
  · exact trodAll_mk1 (shut_bool Tryd.underlying4 _)
  · exact trodAll_cons_mk (Below.trod EOutlineText.laidOut (by kernel_rfl) (of_decide_eq_true (by kernel_rfl)) k0 hb (fun x hx => hlt x (by simp [hx]))) (trodAll_mk0)

theorem EOutlineText.holds : Rows.FnExactOutlineTextSaid :=
  OpenClaim.holds_of_wide 4 Tryd.f4 rfl rfl rfl rfl rfl rfl rfl ⟨rfl, rfl, rfl, rfl, rfl⟩ rfl rfl rfl rfl rfl (by kernel_rfl) Tryd.func4 (by kernel_rfl)
    (of_decide_eq_true (by kernel_rfl)) (by unfold Func.isWrapper; first | (rw [if_pos (by decide +kernel)]; kernel_rfl) | (rw [if_neg (by decide +kernel)]; exact ⟨rfl, rfl⟩))
    (fun os started H enc _ => EOutlineText.lifted os started H enc)

theorem EOutlineText.card_holds : Rows.FnExactOutlineTextCardSaid :=
  Claim7.holds_tied_plain_at .later [] [.data, .data, .data] true Rows.fnExactOutlineTextCard.stood.harness Rows.fnExactOutlineTextCard.stood.looks
    EOutlineText.holds (fun _ h => by cases h) (by kernel_rfl) (fun _ h => by cases h) fnExactOutlineText_row_tie rfl ⟨rfl, rfl⟩ (by kernel_rfl) rfl
    (fun f fn hf hfn => by
      obtain rfl : f = 4 := Option.some.inj ((show Tryd.prog.funcNamed "loop.example/g01043/laws.FnExactOutlineText" = some 4 by kernel_rfl).symm.trans hf) |>.symm
      obtain rfl : fn = Tryd.f4 := (Option.some.inj (Tryd.func4.symm.trans hfn)).symm
      exact ⟨by kernel_rfl, fun j t ht => by
        rw [Tryd.params4] at ht
        have h3 : t = 28 := by
          rcases j with _ | j
          · simpa using ht.symm
          · simp at ht
        subst h3
        exact (show Tryd.prog.wantsStandIn 28 = false by kernel_rfl)⟩)
    (by kernel_rfl)

end Go.Proofs.YthapcljhokfkmaaDoor
