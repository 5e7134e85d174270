/- FnExactReadStrip: for all texts the law returns true, and the text reads behind the call as before. -/
import Derived.Test.YthapcljhokfkmaaDoorRdStrip
import Derived.Test.YthapcljhokfkmaaDoorLaidR
import Derived.Test.YthapcljhokfkmaaDoorCards
import Derived.Test.YthapcljhokfkmaaDoorTie
import Derived.SevenTiedAt
import Derived.ChangeMaps5
namespace Go.Proofs.YthapcljhokfkmaaDoor
open Go.ChangeShapes Go.WideShapes Go.ChangeAt Go.RowKit

set_option maxRecDepth 100000 in
set_option maxHeartbeats 4000000 in
theorem lawReadStrip (s : ByteArray) (w : World) (hn : s.size ≤ 9223372036854775807) (hT : TabR w) :
    Calls Tryd.prog 5 #[.string s] w fun e w' => e = .returned (.bool true) ∧ Below w.heap.size w w' := by
  by_cases hs : s.size ≤ 1048576
  · have S1 := Lib.hid (fun w' => specReadStrip_c s w' hs)
    have S2 := Lib.hid (fun w' hb => implReadStrip_c s w' (hT.below (w' := w') hb) hs)
    unfold stripRes at S1 S2
    generalize readStrip s = o at *
    obtain ⟨x, hx⟩ : ∃ x, x = o.getD ⟨0, 0, 0, 0⟩ := ⟨_, rfl⟩
    rw [← hx] at S1 S2
    replace hx := Lib.hid hx
    have hs' : ¬ 1048576 < (s.size : Int) := by omega
    go_enter Tryd.func5, Tryd.ntmps5
    go_wp2_with fail
    refine (S1.out w).mono ?_
    rintro e w1 ⟨rfl, hb1⟩
    go_wp2_with fail
    have hb2' : Below w1.heap.size w1 (w1.alloc (.cells #[.int .i64 x.Length, .int .i64 x.Allow, .int .i64 x.Left, .int .i64 x.Right] 25)) := new_below _ _
    have hx2 := Lib.hid (own_strip w1 25 x)
    have hb2 := upw hb1 hb2'
    refine (S2.out _ hb2).mono ?_
    rintro e w3 ⟨rfl, hb3⟩
    replace hx2 := Lib.hid (hx2.out.later hb3)
    replace hb3 := upw hb2 hb3
    obtain ⟨q0, q1, q2, q3⟩ := strip_cells hx2.out
    have hb4' : Below w3.heap.size w3 (w3.alloc (.cells #[.int .i64 x.Length, .int .i64 x.Allow, .int .i64 x.Left, .int .i64 x.Right] 25)) := new_below _ _
    have hx4 := Lib.hid (own_strip w3 25 x)
    replace q0 := kept_cell q0 hb4'
    replace q1 := kept_cell q1 hb4'
    replace q2 := kept_cell q2 hb4'
    replace q3 := kept_cell q3 hb4'
    obtain ⟨r0, r1, r2, r3⟩ := strip_cells hx4.out
    have hb4 := upw hb3 hb4'
    go_wp2_with fail
    refine (eqStrip_same x _).mono ?_
    rintro e w5 ⟨rfl, hb5⟩
    go_wp2_with fail
    go_ret
    exact ⟨rfl, upw hb4 hb5⟩
  · have hs' : 1048576 < (s.size : Int) := by omega
    go_enter Tryd.func5, Tryd.ntmps5
    go_wp2_with fail
    go_ret
    exact ⟨rfl, Below.refl _ _⟩

theorem EReadStrip.own : ownKnob Tryd.prog.godebug = none := by kernel_rfl
theorem EReadStrip.laidOut : laidOutB Tryd.prog = true := by kernel_rfl

set_option maxRecDepth 100000 in
theorem EReadStrip.lifted (os : Os) (started : os.Started) (H : Type) (enc : TypeId × Value → H) :
    ReturnsInHanded {} Tryd.checked os 5 .any (fun w args => (Rows.fnExactReadStripSpec.pre enc Tryd.prog Tryd.f5 [] false w args ∧ laidMet Tryd.prog laidLR w) ∧ sizedMet enc Tryd.prog Tryd.f5 (OpenSpec.ofChange Rows.fnExactReadStripSpec) false w args) (Rows.fnExactReadStripSpec.post enc Tryd.prog Tryd.f5 false true false false) := by
  refine returns_laid_shaped (C := Tryd.checked) (X := fun w _ => laidMet Tryd.prog laidLR w) (fun _ _ _ hh h => h.of_heap hh) EReadStrip.own started (by kernel_rfl) Tryd.func5
    (ChangeSpec.witness_at (enc := enc) (C := Tryd.checked) (os := os) (X := fun w _ => laidMet Tryd.prog laidLR w) false (laidWorldR os) #[.string ByteArray.empty] 8 rfl (by kernel_rfl) (by kernel_rfl) (by kernel_rfl) (by kernel_rfl) (by kernel_rfl) (laid_metR os _)) ?_
  intro W base args ds gs before hval0 hW _ _ hL hsh
  have hval : ∀ (j : Nat) t v, Tryd.f5.params[j]? = some t → args[j]? = some v → Value.okWide Tryd.prog W .any base t v := hval0
  have hW' := hW
  obtain ⟨p, q, hA0, hV, rfl, _, _⟩ := hW
  have hA : DataW.TrodAll enc Tryd.prog W 0 (fun _ => true) true Tryd.f5.params.toList args.toList ds p := hA0
  rw [Tryd.params5] at hA hval
  obtain ⟨v0, vs0, d0, ds0, p0, q0, hargs, rfl, rfl, h0, r0⟩ := trodAll_cons hA
  obtain ⟨rfl, rfl, rfl⟩ := trodAll_nil r0
  obtain rfl : args = #[v0] := by cases args; simp_all
  obtain ⟨rfl, rfl⟩ := trodVars_none hV
  have hlt : ∀ x ∈ p0 ++ [], x.block < W.heap.size := fun x hx => by simpa using hW'.lt x (by simpa using hx)
  clear hA0 hval0
  have k0 := h0
  obtain ⟨x0, rfl, _, _, wf0⟩ := Go.ChangeMaps.open_string Tryd.underlying9 (hval 0 9 v0 rfl rfl) h0
  refine (lawReadStrip x0 W (by unfold maxLen at wf0; exact wf0) (tabR_of_laid hL hsh)).mono fun e W' ⟨he, hb⟩ => ?_
  subst he
  refine ⟨_, rfl, _, _, _, [], p0 ++ [], [], hW', ?_, ?_, rfl, hb.frame _, fun h => by cases h⟩
  · exact trodAll_mk1 (shut_bool Tryd.underlying4 _)
  · exact trodAll_cons_mk (Below.trod EReadStrip.laidOut (by kernel_rfl) (of_decide_eq_true (by kernel_rfl)) k0 hb (fun x hx => hlt x (by simp [hx]))) (trodAll_mk0)

theorem EReadStrip.holds : Rows.FnExactReadStripSaid :=
  OpenClaim.holds_of_wide 5 Tryd.f5 rfl rfl rfl rfl rfl rfl rfl ⟨rfl, rfl, rfl, rfl, rfl⟩ rfl rfl rfl rfl rfl (by kernel_rfl) Tryd.func5 (by kernel_rfl)
    (of_decide_eq_true (by kernel_rfl)) (by unfold Func.isWrapper; first | (rw [if_pos (by decide +kernel)]; kernel_rfl) | (rw [if_neg (by decide +kernel)]; exact ⟨rfl, rfl⟩))
    (fun os started H enc _ => EReadStrip.lifted os started H enc)

theorem EReadStrip.card_holds : Rows.FnExactReadStripCardSaid :=
  Claim7.holds_tied_plain_at .later [] [.data, .data, .data, .data, .sentinel, .sentinel, .pinned] true Rows.fnExactReadStripCard.stood.harness Rows.fnExactReadStripCard.stood.looks
    EReadStrip.holds (fun _ h => by cases h) (by kernel_rfl) (fun _ h => by cases h) fnExactReadStrip_row_tie rfl ⟨rfl, rfl⟩ (by kernel_rfl) rfl
    (fun f fn hf hfn => by
      obtain rfl : f = 5 := Option.some.inj ((show Tryd.prog.funcNamed "loop.example/g01043/laws.FnExactReadStrip" = some 5 by kernel_rfl).symm.trans hf) |>.symm
      obtain rfl : fn = Tryd.f5 := (Option.some.inj (Tryd.func5.symm.trans hfn)).symm
      exact ⟨by kernel_rfl, fun j t ht => by
        rw [Tryd.params5] at ht
        have h3 : t = 9 := by
          rcases j with _ | j
          · simpa using ht.symm
          · simp at ht
        subst h3
        exact (show Tryd.prog.wantsStandIn 9 = false by kernel_rfl)⟩)
    (by kernel_rfl)

end Go.Proofs.YthapcljhokfkmaaDoor
