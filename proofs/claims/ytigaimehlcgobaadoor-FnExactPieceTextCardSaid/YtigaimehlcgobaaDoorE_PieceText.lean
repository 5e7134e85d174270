/- FnExactPieceText: for all arguments the law returns true, and its arguments read behind the call as before. (Printed by wip/genlaw2.py.) -/
import Derived.Test.YtigaimehlcgobaaDoorP08o
import Derived.Test.YtigaimehlcgobaaDoorPieceT
import Derived.Deep.RegionHeld3
import Derived.Test.YtigaimehlcgobaaDoorLaid
import Derived.Test.YtigaimehlcgobaaDoorCards
import Derived.Test.YtigaimehlcgobaaDoorTie
import Derived.SevenTiedAt
namespace Go.Proofs.YtigaimehlcgobaaDoor
open Go.ChangeShapes Go.WideShapes Go.ChangeAt Go.RowKit

set_option maxRecDepth 100000 in
set_option maxHeartbeats 4000000 in
theorem lawPieceText (x0 : Piece) (pa0 : Option Addr) (pc0 : Nat) (w : World) (hx0 : At w pa0 x0.edges) (hk0 : Rep.ok x0) (hT : Tab w) :
    Calls Tryd.prog 3 #[.agg #[.string x0.name, .slice pa0 x0.edges.length pc0]] w fun e w' => e = .returned (.bool true) ∧ Below w.heap.size w w' := by
  by_cases hh0 : totPiece x0 ≤ 1048576
  · skip
    have hl0 : totPiece x0 ≤ 1048576 := by omega
    replace hT := Lib.hid hT
    go_enter Tryd.func3, Tryd.ntmps3
    obtain ⟨w1, hw1⟩ : ∃ w1, w1 = (w.alloc (.cells #[.string x0.name, .slice pa0 x0.edges.length pc0] 24)) := ⟨_, rfl⟩
    have hb1 : Below w.heap.size w w1 := by rw [hw1]; exact ((Below.refl _ _).alloc (by simp) _)
    have k0_0 : w1.cell? ⟨w.heap.size, 0, none⟩ = some (.string x0.name) := by rw [hw1]; go_simp
    have k0_1 : w1.cell? ⟨w.heap.size, 1, none⟩ = some (.slice pa0 x0.edges.length pc0) := by rw [hw1]; go_simp
    have hsz1 := Lib.hid (show w1.heap.size = w.heap.size + 1 by rw [hw1]; simp)
    go_wp2_with fail
    rw [← hw1]
    clear hw1
    have hb := hb1
    go_wp2_with fail
    refine (szPiece_ok x0 _ _ _ _ hk0 (by omega) (by omega)).mono ?_
    rintro e w2 ⟨rfl, hb2⟩
    have hb := upw hb hb2
    replace k0_0 := kept_cell k0_0 hb2
    replace k0_1 := kept_cell k0_1 hb2
    go_wp2_with fail
    refine (toPieceV_c _ _ _ _ (hx0.below hb) hl0).mono ?_
    rintro e w3 ⟨pa_t1, pc_t1, rfl, hOt1, hb3⟩
    have hb := upw hb hb3
    replace k0_0 := kept_cell k0_0 hb3
    replace k0_1 := kept_cell k0_1 hb3
    go_wp2_with fail
    refine (specPieceText_c _ _ _ _ (hOt1).at_n hl0).mono ?_
    rintro e w4 ⟨rfl, hb4⟩
    have hb := upw hb hb4
    replace k0_0 := kept_cell k0_0 hb4
    replace k0_1 := kept_cell k0_1 hb4
    go_wp2_with fail
    refine (toPieceV_c _ _ _ _ (hx0.below hb) hl0).mono ?_
    rintro e w5 ⟨pa_x0, pc_x0, rfl, hOx0, hb5⟩
    have hb := upw hb hb5
    replace k0_0 := kept_cell k0_0 hb5
    replace k0_1 := kept_cell k0_1 hb5
    obtain ⟨w6, hw6⟩ : ∃ w6, w6 = w5.alloc (.cells #[.string x0.name, .slice pa_x0 x0.edges.length pc_x0] 27) := ⟨_, rfl⟩
    have hb6 : Below w5.heap.size w5 w6 := by rw [hw6]; exact new_below _ _
    have k_x0_0 : w6.cell? ⟨w5.heap.size, 0, none⟩ = some (.string x0.name) := by rw [hw6]; go_simp
    have k_x0_1 : w6.cell? ⟨w5.heap.size, 1, none⟩ = some (.slice pa_x0 x0.edges.length pc_x0) := by rw [hw6]; go_simp
    have zk0_0 : w.heap.size < w5.heap.size := block_lt_of_cell k0_0
    have hsz6 := Lib.hid (show w6.heap.size = w5.heap.size + 1 by rw [hw6]; simp)
    replace hw6 := Lib.hid hw6
    go_wp2_with fail
    rw [← hw6.out]
    clear zk0_0
    replace k0_0 := kept_cell k0_0 hb6
    replace k0_1 := kept_cell k0_1 hb6
    have hb := upw hb hb6
    go_wp2_with fail
    refine (implPieceText_c _ _ _ _ ((hOx0.later hb6)).at_n hl0 (hT.out.below hb)).mono ?_
    rintro e w7 ⟨rfl, hb7⟩
    have hb := upw hb hb7
    replace k0_0 := kept_cell k0_0 hb7
    replace k0_1 := kept_cell k0_1 hb7
    replace k_x0_0 := kept_cell k_x0_0 hb7
    replace k_x0_1 := kept_cell k_x0_1 hb7
    go_wp2_with fail
    refine wp_region_held_drew (S := (fun w' => w'.cell? ⟨w.heap.size, 0, none⟩ = some (.string x0.name) ∧ w'.cell? ⟨w.heap.size, 1, none⟩ = some (.slice pa0 x0.edges.length pc0) ∧ w'.cell? ⟨w5.heap.size, 0, none⟩ = some (.string x0.name) ∧ w'.cell? ⟨w5.heap.size, 1, none⟩ = some (.slice pa_x0 x0.edges.length pc_x0))) (by kernel_rfl) ⟨k0_0, k0_1, k_x0_0, k_x0_1⟩ (fun hHeld => ?_)
    refine wpAnyH_take (i := 0) (v := _) rfl (by kernel_rfl) (by kernel_rfl) (by kernel_rfl) (fun _ _ _ h => h) (Or.inl ⟨by rfl, (by intro w hSw; (try dsimp only at hSw); go_simp; try with_reducible rfl)⟩) (by assumption) ?_
    go_simp
    refine wpAnyH_take (i := 1) (v := _) rfl (by kernel_rfl) (by kernel_rfl) (by kernel_rfl) (fun _ _ _ h => h) (Or.inl ⟨by rfl, (by intro w hSw; (try dsimp only at hSw); go_simp; try with_reducible rfl)⟩) (by assumption) ?_
    go_simp
    refine wpAnyH_ready (rs := [2]) (by kernel_rfl) (by simp) ?_
    refine AllReadyH.cons rfl (fun K hK => ?_) AllReadyH.nil
    go_simp
    (refine (toPieceV_c _ _ _ _ (hx0.below hb.drew) hl0).mono ?_; rintro e w8 ⟨pa_t2, pc_t2, rfl, hOt2, hb8⟩; replace hb8 := upw (Below.refl w7.heap.size w7).drew hb8; have hb := upw hb hb8; replace k0_0 := kept_cell (w := w7) k0_0 hb8; replace k0_1 := kept_cell (w := w7) k0_1 hb8; replace k_x0_0 := kept_cell (w := w7) k_x0_0 hb8; replace k_x0_1 := kept_cell (w := w7) k_x0_1 hb8; go_simp)
    refine hK.out _ _ ⟨k0_0, k0_1, k_x0_0, k_x0_1⟩ (fun hHeld => ?_)
    clear hK K
    go_simp
    refine wpAnyH_ready (rs := [3]) (by kernel_rfl) (by simp) ?_
    refine AllReadyH.cons rfl (fun K hK => ?_) AllReadyH.nil
    go_simp
    (refine (eqPiece_same _ _ _ _ _ _ ((((hOx0.later hb6).later hb7).later hb8)).at_n (hOt2).at_n (by have := hl0; unfold totPiece at this; omega)).mono ?_; rintro e w9 ⟨rfl, hb9⟩; have hb := upw hb hb9; replace k0_0 := kept_cell k0_0 hb9; replace k0_1 := kept_cell k0_1 hb9; replace k_x0_0 := kept_cell k_x0_0 hb9; replace k_x0_1 := kept_cell k_x0_1 hb9; go_simp)
    refine hK.out _ _ ⟨k0_0, k0_1, k_x0_0, k_x0_1⟩ (fun hHeld => ?_)
    clear hK K
    go_simp
    refine wpAnyH_take (i := 4) (v := _) rfl (by kernel_rfl) (by kernel_rfl) (by kernel_rfl) (fun _ _ _ h => h) (Or.inl ⟨by rfl, (by intro w hSw; (try dsimp only at hSw); go_simp; try with_reducible rfl)⟩) (by assumption) ?_
    go_simp
    refine wpAnyH_done (by kernel_rfl) ?_ _
    go_wp2_with fail
    go_ret
    exact ⟨rfl, hb⟩
  · go_enter Tryd.func3, Tryd.ntmps3
    obtain ⟨w1, hw1⟩ : ∃ w1, w1 = (w.alloc (.cells #[.string x0.name, .slice pa0 x0.edges.length pc0] 24)) := ⟨_, rfl⟩
    have hb1 : Below w.heap.size w w1 := by rw [hw1]; exact ((Below.refl _ _).alloc (by simp) _)
    have k0_0 : w1.cell? ⟨w.heap.size, 0, none⟩ = some (.string x0.name) := by rw [hw1]; go_simp
    have k0_1 : w1.cell? ⟨w.heap.size, 1, none⟩ = some (.slice pa0 x0.edges.length pc0) := by rw [hw1]; go_simp
    have hsz1 := Lib.hid (show w1.heap.size = w.heap.size + 1 by rw [hw1]; simp)
    go_wp2_with fail
    rw [← hw1]
    clear hw1
    have hb := hb1
    go_wp2_with fail
    refine (szPiece_no x0 _ _ _ _ hk0 (by omega) (by omega) (by omega)).mono ?_
    rintro e w2 ⟨rfl, hb2⟩
    have hb := upw hb hb2
    replace k0_0 := kept_cell k0_0 hb2
    replace k0_1 := kept_cell k0_1 hb2
    go_wp2_with fail
    go_ret
    exact ⟨rfl, hb⟩

theorem EPieceText.own : ownKnob Tryd.prog.godebug = none := by kernel_rfl
theorem EPieceText.laidOut : laidOutB Tryd.prog = true := by kernel_rfl

set_option maxRecDepth 100000 in
theorem EPieceText.lifted (os : Os) (started : os.Started) (H : Type) (enc : TypeId × Value → H) :
    ReturnsInHanded {} Tryd.checked os 3 .any (fun w args => (Rows.fnExactPieceTextSpec.pre enc Tryd.prog Tryd.f3 [] false w args ∧ laidMet Tryd.prog laidL w) ∧ sizedMet enc Tryd.prog Tryd.f3 (OpenSpec.ofChange Rows.fnExactPieceTextSpec) false w args) (Rows.fnExactPieceTextSpec.post enc Tryd.prog Tryd.f3 false true false false) := by
  refine returnsInHanded_of_change_and (C := Tryd.checked) (X := fun w _ => laidMet Tryd.prog laidL w) (fun _ _ _ hh h => h.of_heap hh) EPieceText.own started (by kernel_rfl) Tryd.func3
    (ChangeSpec.witness_at (enc := enc) (C := Tryd.checked) (os := os) (X := fun w _ => laidMet Tryd.prog laidL w) false (laidWorld os) #[.agg #[.string ByteArray.empty, .slice none 0 0]] 8 rfl (by kernel_rfl) (by kernel_rfl) (by kernel_rfl) (by kernel_rfl) (by kernel_rfl) (laid_met os _)) ?_
  intro W base args ds gs before hval0 hW _ _ hL _
  have hval : ∀ (j : Nat) t v, Tryd.f3.params[j]? = some t → args[j]? = some v → Value.okWide Tryd.prog W .any base t v := hval0
  have hW' := hW
  obtain ⟨p, q, hA0, hV, rfl, _, _⟩ := hW
  have hA : DataW.TrodAll enc Tryd.prog W 0 (fun _ => true) true Tryd.f3.params.toList args.toList ds p := hA0
  rw [Tryd.params3] at hA hval
  obtain ⟨v0, vs0, d0, ds0, p0, q0, hargs, rfl, rfl, h0, r0⟩ := trodAll_cons hA
  obtain ⟨rfl, rfl, rfl⟩ := trodAll_nil r0
  obtain rfl : args = #[v0] := by cases args; simp_all
  obtain ⟨rfl, rfl⟩ := trodVars_none hV
  have hlt : ∀ x ∈ p0 ++ [], x.block < W.heap.size := fun x hx => by simpa using hW'.lt x (by simpa using hx)
  clear hA0 hval0
  have k0 := h0
  obtain ⟨x0, pa0, pc0, rfl, hx0, hk0⟩ := open_lpiece (hval 0 24 v0 rfl rfl) h0
  refine (lawPieceText x0 pa0 pc0 W hx0 hk0 (tab_of_laid hL)).mono fun e W' ⟨he, hb⟩ => ?_
  subst he
  refine ⟨_, rfl, _, _, _, [], p0 ++ [], [], hW', ?_, ?_, rfl, hb.frame _, fun h => by cases h⟩
  · exact trodAll_mk1 (shut_bool Tryd.underlying4 _)
  · exact trodAll_cons_mk (Below.trod EPieceText.laidOut (by kernel_rfl) (of_decide_eq_true (by kernel_rfl)) k0 hb (fun x hx => hlt x (by simp [hx]))) (trodAll_mk0)

theorem EPieceText.holds : Rows.FnExactPieceTextSaid :=
  OpenClaim.holds_of_wide 3 Tryd.f3 rfl rfl rfl rfl rfl rfl rfl ⟨rfl, rfl, rfl, rfl, rfl⟩ rfl rfl rfl rfl rfl (by kernel_rfl) Tryd.func3 (by kernel_rfl)
    (of_decide_eq_true (by kernel_rfl)) (by unfold Func.isWrapper; first | (rw [if_pos (by decide +kernel)]; kernel_rfl) | (rw [if_neg (by decide +kernel)]; exact ⟨rfl, rfl⟩))
    (fun os started H enc _ => EPieceText.lifted os started H enc)

theorem EPieceText.card_holds : Rows.FnExactPieceTextCardSaid :=
  Claim7.holds_tied_plain_at .later [] [.data, .data, .data] true Rows.fnExactPieceTextCard.stood.harness false
    EPieceText.holds (fun _ h => by cases h) (by kernel_rfl) (fun _ h => by cases h) fnExactPieceText_row_tie rfl ⟨rfl, rfl⟩ (by kernel_rfl) rfl
    (fun f fn hf hfn => by
      obtain rfl : f = 3 := Option.some.inj ((show Tryd.prog.funcNamed "loop.example/g01043/laws.FnExactPieceText" = some 3 by kernel_rfl).symm.trans hf) |>.symm
      obtain rfl : fn = Tryd.f3 := (Option.some.inj (Tryd.func3.symm.trans hfn)).symm
      exact ⟨by kernel_rfl, fun j t ht => by
        rw [Tryd.params3] at ht
        have h3 : t = 24 := by
          rcases j with _ | j
          · simpa using ht.symm
          · simp at ht
        subst h3
        exact (show Tryd.prog.wantsStandIn 24 = false by kernel_rfl)⟩)
    (by kernel_rfl)

end Go.Proofs.YtigaimehlcgobaaDoor
