/- FnExactStripText: for all arguments the law returns true, and its arguments read behind the call as before. (Printed by wip/genlaw2.py.) -/
import Derived.Test.YthapcljhokfkmaaDoorStrip
import Derived.Test.YthapcljhokfkmaaDoorStripT
import Derived.Deep.RegionHeld3
import Derived.Test.YthapcljhokfkmaaDoorLaid
import Derived.Test.YthapcljhokfkmaaDoorCards
import Derived.Test.YthapcljhokfkmaaDoorTie
import Derived.SevenTiedAt
namespace Go.Proofs.YthapcljhokfkmaaDoor
open Go.ChangeShapes Go.WideShapes Go.ChangeAt Go.RowKit

set_option maxRecDepth 100000 in
set_option maxHeartbeats 4000000 in
theorem lawStripText (x0 : Strip) (w : World) (hn0 : Rep.ok x0) (hT : Tab w) :
    Calls Tryd.prog 3 #[.agg #[.int .i64 x0.Length, .int .i64 x0.Allow, .int .i64 x0.Left, .int .i64 x0.Right]] w fun e w' => e = .returned (.bool true) ∧ Below w.heap.size w w' := by
  replace hT := Lib.hid hT
  go_enter Tryd.func3, Tryd.ntmps3
  obtain ⟨w1, hw1⟩ : ∃ w1, w1 = (w.alloc (.cells #[.int .i64 x0.Length, .int .i64 x0.Allow, .int .i64 x0.Left, .int .i64 x0.Right] 23)) := ⟨_, rfl⟩
  have hb1 : Below w.heap.size w w1 := by rw [hw1]; exact ((Below.refl _ _).alloc (by simp) _)
  have k0_0 : w1.cell? ⟨w.heap.size, 0, none⟩ = some (.int .i64 x0.Length) := by rw [hw1]; go_simp
  have k0_1 : w1.cell? ⟨w.heap.size, 1, none⟩ = some (.int .i64 x0.Allow) := by rw [hw1]; go_simp
  have k0_2 : w1.cell? ⟨w.heap.size, 2, none⟩ = some (.int .i64 x0.Left) := by rw [hw1]; go_simp
  have k0_3 : w1.cell? ⟨w.heap.size, 3, none⟩ = some (.int .i64 x0.Right) := by rw [hw1]; go_simp
  have hsz1 := Lib.hid (show w1.heap.size = w.heap.size + 1 by rw [hw1]; simp)
  go_wp2_with fail
  rw [← hw1]
  clear hw1
  have hb := hb1
  go_wp2_with fail
  refine (toStrip_any _ _ _ _ _).mono ?_
  rintro e w2 ⟨rfl, hb2⟩
  have hb := upw hb hb2
  replace k0_0 := kept_cell k0_0 hb2
  replace k0_1 := kept_cell k0_1 hb2
  replace k0_2 := kept_cell k0_2 hb2
  replace k0_3 := kept_cell k0_3 hb2
  go_wp2_with fail
  refine (specStripText_c x0 _ hn0).mono ?_
  rintro e w3 ⟨rfl, hb3⟩
  have hb := upw hb hb3
  replace k0_0 := kept_cell k0_0 hb3
  replace k0_1 := kept_cell k0_1 hb3
  replace k0_2 := kept_cell k0_2 hb3
  replace k0_3 := kept_cell k0_3 hb3
  go_wp2_with fail
  refine (toStrip_any _ _ _ _ _).mono ?_
  rintro e w4 ⟨rfl, hb4⟩
  have hb := upw hb hb4
  replace k0_0 := kept_cell k0_0 hb4
  replace k0_1 := kept_cell k0_1 hb4
  replace k0_2 := kept_cell k0_2 hb4
  replace k0_3 := kept_cell k0_3 hb4
  go_wp2_with fail
  refine (implStripText_c x0 _ hn0 (hT.out.below hb)).mono ?_
  rintro e w5 ⟨rfl, hb5⟩
  have hb := upw hb hb5
  replace k0_0 := kept_cell k0_0 hb5
  replace k0_1 := kept_cell k0_1 hb5
  replace k0_2 := kept_cell k0_2 hb5
  replace k0_3 := kept_cell k0_3 hb5
  go_wp2_with fail
  go_ret
  exact ⟨rfl, hb⟩

theorem EStripText.own : ownKnob Tryd.prog.godebug = none := by kernel_rfl
theorem EStripText.laidOut : laidOutB Tryd.prog = true := by kernel_rfl

set_option maxRecDepth 100000 in
theorem EStripText.lifted (os : Os) (started : os.Started) (H : Type) (enc : TypeId × Value → H) :
    ReturnsInHanded {} Tryd.checked os 3 .any (fun w args => (Rows.fnExactStripTextSpec.pre enc Tryd.prog Tryd.f3 [] false w args ∧ laidMet Tryd.prog laidL w) ∧ sizedMet enc Tryd.prog Tryd.f3 (OpenSpec.ofChange Rows.fnExactStripTextSpec) false w args) (Rows.fnExactStripTextSpec.post enc Tryd.prog Tryd.f3 false true false false) := by
  refine returnsInHanded_of_change_and (C := Tryd.checked) (X := fun w _ => laidMet Tryd.prog laidL w) (fun _ _ _ hh h => h.of_heap hh) EStripText.own started (by kernel_rfl) Tryd.func3
    (ChangeSpec.witness_at (enc := enc) (C := Tryd.checked) (os := os) (X := fun w _ => laidMet Tryd.prog laidL w) false (laidWorld os) #[.agg #[.int .i64 0, .int .i64 0, .int .i64 0, .int .i64 0]] 8 rfl (by kernel_rfl) (by kernel_rfl) (by kernel_rfl) (by kernel_rfl) (by kernel_rfl) (laid_met os _)) ?_
  intro W base args ds gs before hval0 hW _ _ hL _
  have hval : ∀ (j : Nat) t v, Tryd.f3.params[j]? = some t → args[j]? = some v → Value.okWide Tryd.prog W .any base t v := hval0
  have hW' := hW
  obtain ⟨p, q, hA0, hV, rfl, _, _⟩ := hW
  have hA : DataW.TrodAll enc Tryd.prog W 0 (fun _ => true) true Tryd.f3.params.toList args.toList ds p := hA0
  rw [Tryd.params3] at hA hval
  obtain ⟨v0, vs0, d0, ds0, p0, q0, hargs, rfl, rfl, h0, r0⟩ := trodAll_cons hA
  obtain ⟨rfl, rfl, rfl⟩ := trodAll_nil r0
  obtain rfl : args = #[v0] := by cases args; simp_all
  obtain ⟨rfl, rfl⟩ := trodVars_none hV
  have hlt : ∀ x ∈ p0 ++ [], x.block < W.heap.size := fun x hx => by simpa using hW'.lt x (by simpa using hx)
  clear hA0 hval0
  have k0 := h0
  obtain ⟨x0, rfl, hn0⟩ := open_lstrip (hval 0 23 v0 rfl rfl) h0
  refine (lawStripText x0 W hn0 (tab_of_laid hL)).mono fun e W' ⟨he, hb⟩ => ?_
  subst he
  refine ⟨_, rfl, _, _, _, [], p0 ++ [], [], hW', ?_, ?_, rfl, hb.frame _, fun h => by cases h⟩
  · exact trodAll_mk1 (shut_bool Tryd.underlying4 _)
  · exact trodAll_cons_mk (Below.trod EStripText.laidOut (by kernel_rfl) (of_decide_eq_true (by kernel_rfl)) k0 hb (fun x hx => hlt x (by simp [hx]))) (trodAll_mk0)

theorem EStripText.holds : Rows.FnExactStripTextSaid :=
  OpenClaim.holds_of_wide 3 Tryd.f3 rfl rfl rfl rfl rfl rfl rfl ⟨rfl, rfl, rfl, rfl, rfl⟩ rfl rfl rfl rfl rfl (by kernel_rfl) Tryd.func3 (by kernel_rfl)
    (of_decide_eq_true (by kernel_rfl)) (by unfold Func.isWrapper; first | (rw [if_pos (by decide +kernel)]; kernel_rfl) | (rw [if_neg (by decide +kernel)]; exact ⟨rfl, rfl⟩))
    (fun os started H enc _ => EStripText.lifted os started H enc)

theorem EStripText.card_holds : Rows.FnExactStripTextCardSaid :=
  Claim7.holds_tied_plain_at .later [] [.data, .data, .data] true Rows.fnExactStripTextCard.stood.harness Rows.fnExactStripTextCard.stood.looks
    EStripText.holds (fun _ h => by cases h) (by kernel_rfl) (fun _ h => by cases h) fnExactStripText_row_tie rfl ⟨rfl, rfl⟩ (by kernel_rfl) rfl
    (fun f fn hf hfn => by
      obtain rfl : f = 3 := Option.some.inj ((show Tryd.prog.funcNamed "loop.example/g01043/laws.FnExactStripText" = some 3 by kernel_rfl).symm.trans hf) |>.symm
      obtain rfl : fn = Tryd.f3 := (Option.some.inj (Tryd.func3.symm.trans hfn)).symm
      exact ⟨by kernel_rfl, fun j t ht => by
        rw [Tryd.params3] at ht
        have h3 : t = 23 := by
          rcases j with _ | j
          · simpa using ht.symm
          · simp at ht
        subst h3
        exact (show Tryd.prog.wantsStandIn 23 = false by kernel_rfl)⟩)
    (by kernel_rfl)

end Go.Proofs.YthapcljhokfkmaaDoor
