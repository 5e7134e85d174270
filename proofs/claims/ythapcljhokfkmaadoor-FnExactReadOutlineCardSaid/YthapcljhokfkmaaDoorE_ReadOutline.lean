/- FnExactReadOutline: for all arguments the law returns true, and its arguments read behind the call as before. (Printed by wip/genlaw.py.) -/
import Derived.Test.YthapcljhokfkmaaDoorSpot
import Derived.Test.YthapcljhokfkmaaDoorRdOut
import Derived.Test.YthapcljhokfkmaaDoorLaidR
import Derived.Test.YthapcljhokfkmaaDoorCards
import Derived.Test.YthapcljhokfkmaaDoorTie
import Derived.SevenTiedAt
import Derived.ChangeMaps5
namespace Go.Proofs.YthapcljhokfkmaaDoor
open Go.ChangeShapes Go.WideShapes Go.ChangeAt Go.RowKit

set_option maxRecDepth 100000 in
set_option maxHeartbeats 4000000 in
theorem lawReadOutline (x0 : ByteArray) (w : World) (hn0 : x0.size ≤ 9223372036854775807) (hT : TabR w) :
    Calls Tryd.prog 7 #[.string x0] w fun e w' => e = .returned (.bool true) ∧ Below w.heap.size w w' := by
  by_cases hh0 : x0.size ≤ 1048576
  · have hz0 : ¬ 1048576 < (x0.size : Int) := by omega
    replace hT := Lib.hid hT
    have hlen := ReadOutline_len x0
    go_enter Tryd.func7, Tryd.ntmps7
    go_wp2_with fail
    refine (specReadOutline_c _ _ hh0).mono ?_
    rintro e w1 ⟨vw0, rfl, hOw0, hb1⟩
    have hb := hb1
    obtain ⟨aw0, cw0, rfl, _⟩ := hOw0.at
    go_wp2_with fail
    refine (implReadOutline_c _ _ (hT.out.below hb) hh0).mono ?_
    rintro e w2 ⟨vg0, rfl, hOg0, hb2⟩
    have hb := upw hb hb2
    obtain ⟨ag0, cg0, rfl, _⟩ := hOg0.at
    go_wp2_with fail
    refine (eqSpotS_same _ _ _ _ _ _ (hOg0).at' ((hOw0.later hb2)).at' (by omega)).mono ?_
    rintro e w3 ⟨rfl, hb3⟩
    have hb := upw hb hb3
    go_wp2_with fail
    refine (markSpotS_any _ _ _ _ _ (hOg0.later hb3) (by omega) (by omega) (by omega)).mono ?_
    rintro e w4 ⟨rfl, hM4, hg4⟩
    have hb := below_mark hb (hOg0.later hb3) (by have := hb1.size; omega) hg4
    have hOw0_4 := ((hOw0.later hb2).later hb3).kept hg4 (own_apart' (hOg0.later hb3) hOw0 (Nat.le_refl _))
    go_wp2_with fail
    refine (heldSpotS_any _ _ _ _ _ (hM4).at_n (by omega) (by omega) (by omega)).mono ?_
    rintro e w5 ⟨rfl, hb5⟩
    have hb := upw hb hb5
    go_wp2_with fail
    refine (implReadOutline_c _ _ (hT.out.below hb) hh0).mono ?_
    rintro e w6 ⟨vh0, rfl, hOh0, hb6⟩
    have hb := upw hb hb6
    obtain ⟨ah0, ch0, rfl, _⟩ := hOh0.at
    go_wp2_with fail
    refine (eqSpotS_same _ _ _ _ _ _ (hOh0).at' (((hOw0_4.later hb5).later hb6)).at' (by omega)).mono ?_
    rintro e w7 ⟨rfl, hb7⟩
    have hb := upw hb hb7
    go_wp2_with fail
    refine (heldSpotS_any _ _ _ _ _ ((((hM4.later hb5).later hb6).later hb7)).at_n (by omega) (by omega) (by omega)).mono ?_
    rintro e w8 ⟨rfl, hb8⟩
    have hb := upw hb hb8
    go_wp2_with fail
    go_ret
    exact ⟨rfl, hb⟩
  · have hz0 : 1048576 < (x0.size : Int) := by omega
    go_enter Tryd.func7, Tryd.ntmps7
    have hb := Below.refl w.heap.size w
    go_wp2_with fail
    go_ret
    exact ⟨rfl, hb⟩

theorem EReadOutline.own : ownKnob Tryd.prog.godebug = none := by kernel_rfl
theorem EReadOutline.laidOut : laidOutB Tryd.prog = true := by kernel_rfl

set_option maxRecDepth 100000 in
theorem EReadOutline.lifted (os : Os) (started : os.Started) (H : Type) (enc : TypeId × Value → H) :
    ReturnsInHanded {} Tryd.checked os 7 .any (fun w args => (Rows.fnExactReadOutlineSpec.pre enc Tryd.prog Tryd.f7 [] false w args ∧ laidMet Tryd.prog laidLR w) ∧ sizedMet enc Tryd.prog Tryd.f7 (OpenSpec.ofChange Rows.fnExactReadOutlineSpec) false w args) (Rows.fnExactReadOutlineSpec.post enc Tryd.prog Tryd.f7 false true false false) := by
  refine returns_laid_shaped (C := Tryd.checked) (X := fun w _ => laidMet Tryd.prog laidLR w) (fun _ _ _ hh h => h.of_heap hh) EReadOutline.own started (by kernel_rfl) Tryd.func7
    (ChangeSpec.witness_at (enc := enc) (C := Tryd.checked) (os := os) (X := fun w _ => laidMet Tryd.prog laidLR w) false (laidWorldR os) #[.string ByteArray.empty] 8 rfl (by kernel_rfl) (by kernel_rfl) (by kernel_rfl) (by kernel_rfl) (by kernel_rfl) (laid_metR os _)) ?_
  intro W base args ds gs before hval0 hW _ _ hL hsh
  have hval : ∀ (j : Nat) t v, Tryd.f7.params[j]? = some t → args[j]? = some v → Value.okWide Tryd.prog W .any base t v := hval0
  have hW' := hW
  obtain ⟨p, q, hA0, hV, rfl, _, _⟩ := hW
  have hA : DataW.TrodAll enc Tryd.prog W 0 (fun _ => true) true Tryd.f7.params.toList args.toList ds p := hA0
  rw [Tryd.params7] at hA hval
  obtain ⟨v0, vs0, d0, ds0, p0, q0, hargs, rfl, rfl, h0, r0⟩ := trodAll_cons hA
  obtain ⟨rfl, rfl, rfl⟩ := trodAll_nil r0
  obtain rfl : args = #[v0] := by cases args; simp_all
  obtain ⟨rfl, rfl⟩ := trodVars_none hV
  have hlt : ∀ x ∈ p0 ++ [], x.block < W.heap.size := fun x hx => by simpa using hW'.lt x (by simpa using hx)
  clear hA0 hval0
  have k0 := h0
  obtain ⟨x0, rfl, _, _, wf0⟩ := Go.ChangeMaps.open_string Tryd.underlying9 (hval 0 9 v0 rfl rfl) h0
  refine (lawReadOutline x0 W (by unfold maxLen at wf0; exact wf0) (tabR_of_laid hL hsh)).mono fun e W' ⟨he, hb⟩ => ?_
  subst he
  refine ⟨_, rfl, _, _, _, [], p0 ++ [], [], hW', ?_, ?_, rfl, hb.frame _, fun h => by cases h⟩
  · exact trodAll_mk1 (shut_bool Tryd.underlying4 _)
  · exact trodAll_cons_mk (Below.trod EReadOutline.laidOut (by kernel_rfl) (of_decide_eq_true (by kernel_rfl)) k0 hb (fun x hx => hlt x (by simp [hx]))) (trodAll_mk0)

theorem EReadOutline.holds : Rows.FnExactReadOutlineSaid :=
  OpenClaim.holds_of_wide 7 Tryd.f7 rfl rfl rfl rfl rfl rfl rfl ⟨rfl, rfl, rfl, rfl, rfl⟩ rfl rfl rfl rfl rfl (by kernel_rfl) Tryd.func7 (by kernel_rfl)
    (of_decide_eq_true (by kernel_rfl)) (by unfold Func.isWrapper; first | (rw [if_pos (by decide +kernel)]; kernel_rfl) | (rw [if_neg (by decide +kernel)]; exact ⟨rfl, rfl⟩))
    (fun os started H enc _ => EReadOutline.lifted os started H enc)

theorem EReadOutline.card_holds : Rows.FnExactReadOutlineCardSaid :=
  Claim7.holds_tied_plain_at .later [] [.data, .data, .data, .data, .sentinel, .sentinel, .pinned] true Rows.fnExactReadOutlineCard.stood.harness Rows.fnExactReadOutlineCard.stood.looks
    EReadOutline.holds (fun _ h => by cases h) (by kernel_rfl) (fun _ h => by cases h) fnExactReadOutline_row_tie rfl ⟨rfl, rfl⟩ (by kernel_rfl) rfl
    (fun f fn hf hfn => by
      obtain rfl : f = 7 := Option.some.inj ((show Tryd.prog.funcNamed "loop.example/g01043/laws.FnExactReadOutline" = some 7 by kernel_rfl).symm.trans hf) |>.symm
      obtain rfl : fn = Tryd.f7 := (Option.some.inj (Tryd.func7.symm.trans hfn)).symm
      exact ⟨by kernel_rfl, fun j t ht => by
        rw [Tryd.params7] at ht
        have h3 : t = 9 := by
          rcases j with _ | j
          · simpa using ht.symm
          · simp at ht
        subst h3
        exact (show Tryd.prog.wantsStandIn 9 = false by kernel_rfl)⟩)
    (by kernel_rfl)

end Go.Proofs.YthapcljhokfkmaaDoor
