/- FnExactEulerOf: for all arguments the law returns true, and its arguments read behind the call as before. (Printed by wip/genlaw2.py.) -/
import Derived.Test.YtigaimehlcgobaaP08o
import Derived.Test.YtigaimehlcgobaaP08c4
import Derived.Deep.RegionHeld3
namespace Go.Proofs.Ytigaimehlcgobaa
open Go.ChangeShapes Go.WideShapes Go.ChangeAt Go.RowKit

set_option maxRecDepth 100000 in
set_option maxHeartbeats 4000000 in
theorem lawEulerOf (x0 : Pattern) (pa0 : Option Addr) (pc0 : Nat) (sa0 : Option Addr) (sc0 : Nat) (w : World) (hx0 : LieP w pa0 sa0 x0) (hk0 : okP x0) :
    Calls Try.prog 8 #[.agg #[.slice pa0 x0.pieces.length pc0, .slice sa0 x0.seams.length sc0, .int .i64 x0.openings]] w fun e w' => e = .returned (.bool true) ∧ Below w.heap.size w w' := by
  by_cases hh0 : totPattern x0 ≤ 1048576
  · skip
    have hl0 : totPattern x0 ≤ 1048576 := by omega
    go_enter Try.func8, Try.ntmps8
    obtain ⟨w1, hw1⟩ : ∃ w1, w1 = (w.alloc (.cells #[.slice pa0 x0.pieces.length pc0, .slice sa0 x0.seams.length sc0, .int .i64 x0.openings] 25)) := ⟨_, rfl⟩
    have hb1 : Below w.heap.size w w1 := by rw [hw1]; exact ((Below.refl _ _).alloc (by simp) _)
    have k0_0 : w1.cell? ⟨w.heap.size, 0, none⟩ = some (.slice pa0 x0.pieces.length pc0) := by rw [hw1]; go_simp
    have k0_1 : w1.cell? ⟨w.heap.size, 1, none⟩ = some (.slice sa0 x0.seams.length sc0) := by rw [hw1]; go_simp
    have k0_2 : w1.cell? ⟨w.heap.size, 2, none⟩ = some (.int .i64 x0.openings) := by rw [hw1]; go_simp
    have hsz1 := Lib.hid (show w1.heap.size = w.heap.size + 1 by rw [hw1]; simp)
    go_wp2_with fail
    rw [← hw1]
    clear hw1
    have hb := hb1
    go_wp2_with fail
    refine (szPattern_ok x0 _ _ _ _ _ _ (hx0.below hb) hk0 (by omega) (by omega)).mono ?_
    rintro e w2 ⟨rfl, hb2⟩
    have hb := upw hb hb2
    replace k0_0 := kept_cell k0_0 hb2
    replace k0_1 := kept_cell k0_1 hb2
    replace k0_2 := kept_cell k0_2 hb2
    go_wp2_with fail
    refine (toPattern_c _ _ _ _ _ _ (hx0.below hb) hl0).mono ?_
    rintro e w3 ⟨pa_t1, pc_t1, sa_t1, sc_t1, rs_t1, rfl, hOt1, hb3⟩
    have hb := upw hb hb3
    replace k0_0 := kept_cell k0_0 hb3
    replace k0_1 := kept_cell k0_1 hb3
    replace k0_2 := kept_cell k0_2 hb3
    go_wp2_with fail
    refine (specEulerOf_c _ _ _ _ _ _ (hOt1).lie hl0).mono ?_
    rintro e w4 ⟨rfl, hb4⟩
    have hb := upw hb hb4
    replace k0_0 := kept_cell k0_0 hb4
    replace k0_1 := kept_cell k0_1 hb4
    replace k0_2 := kept_cell k0_2 hb4
    go_wp2_with fail
    refine (toPattern_c _ _ _ _ _ _ (hx0.below hb) hl0).mono ?_
    rintro e w5 ⟨pa_x0, pc_x0, sa_x0, sc_x0, rs_x0, rfl, hOx0, hb5⟩
    have hb := upw hb hb5
    replace k0_0 := kept_cell k0_0 hb5
    replace k0_1 := kept_cell k0_1 hb5
    replace k0_2 := kept_cell k0_2 hb5
    obtain ⟨w6, hw6⟩ : ∃ w6, w6 = w5.alloc (.cells #[.slice pa_x0 x0.pieces.length pc_x0, .slice sa_x0 x0.seams.length sc_x0, .int .i64 x0.openings] 31) := ⟨_, rfl⟩
    have hb6 : Below w5.heap.size w5 w6 := by rw [hw6]; exact new_below _ _
    have k_x0_0 : w6.cell? ⟨w5.heap.size, 0, none⟩ = some (.slice pa_x0 x0.pieces.length pc_x0) := by rw [hw6]; go_simp
    have k_x0_1 : w6.cell? ⟨w5.heap.size, 1, none⟩ = some (.slice sa_x0 x0.seams.length sc_x0) := by rw [hw6]; go_simp
    have k_x0_2 : w6.cell? ⟨w5.heap.size, 2, none⟩ = some (.int .i64 x0.openings) := by rw [hw6]; go_simp
    have zk0_0 : w.heap.size < w5.heap.size := block_lt_of_cell k0_0
    have hsz6 := Lib.hid (show w6.heap.size = w5.heap.size + 1 by rw [hw6]; simp)
    replace hw6 := Lib.hid hw6
    go_wp2_with fail
    rw [← hw6.out]
    clear zk0_0
    replace k0_0 := kept_cell k0_0 hb6
    replace k0_1 := kept_cell k0_1 hb6
    replace k0_2 := kept_cell k0_2 hb6
    have hb := upw hb hb6
    go_wp2_with fail
    refine (implEulerOf_c _ _ _ _ _ _ ((hOx0.later hb6)).lie hl0).mono ?_
    rintro e w7 ⟨rfl, hb7⟩
    have hb := upw hb hb7
    replace k0_0 := kept_cell k0_0 hb7
    replace k0_1 := kept_cell k0_1 hb7
    replace k0_2 := kept_cell k0_2 hb7
    replace k_x0_0 := kept_cell k_x0_0 hb7
    replace k_x0_1 := kept_cell k_x0_1 hb7
    replace k_x0_2 := kept_cell k_x0_2 hb7
    go_wp2_with fail
    refine wp_region_held_drew (S := (fun w' => w'.cell? ⟨w.heap.size, 0, none⟩ = some (.slice pa0 x0.pieces.length pc0) ∧ w'.cell? ⟨w.heap.size, 1, none⟩ = some (.slice sa0 x0.seams.length sc0) ∧ w'.cell? ⟨w.heap.size, 2, none⟩ = some (.int .i64 x0.openings) ∧ w'.cell? ⟨w5.heap.size, 0, none⟩ = some (.slice pa_x0 x0.pieces.length pc_x0) ∧ w'.cell? ⟨w5.heap.size, 1, none⟩ = some (.slice sa_x0 x0.seams.length sc_x0) ∧ w'.cell? ⟨w5.heap.size, 2, none⟩ = some (.int .i64 x0.openings))) (by kernel_rfl) ⟨k0_0, k0_1, k0_2, k_x0_0, k_x0_1, k_x0_2⟩ (fun hHeld => ?_)
    refine wpAnyH_take (i := 0) (v := _) rfl (by kernel_rfl) (by kernel_rfl) (by kernel_rfl) (fun _ _ _ h => h) (Or.inl ⟨by rfl, (by intro w hSw; (try dsimp only at hSw); go_simp; try with_reducible rfl)⟩) (by assumption) ?_
    go_simp
    refine wpAnyH_take (i := 1) (v := _) rfl (by kernel_rfl) (by kernel_rfl) (by kernel_rfl) (fun _ _ _ h => h) (Or.inl ⟨by rfl, (by intro w hSw; (try dsimp only at hSw); go_simp; try with_reducible rfl)⟩) (by assumption) ?_
    go_simp
    refine wpAnyH_ready (rs := [2]) (by kernel_rfl) (by simp) ?_
    refine AllReadyH.cons rfl (fun K hK => ?_) AllReadyH.nil
    go_simp
    (refine (toPattern_c _ _ _ _ _ _ (hx0.below hb.drew) hl0).mono ?_; rintro e w8 ⟨pa_t2, pc_t2, sa_t2, sc_t2, rs_t2, rfl, hOt2, hb8⟩; replace hb8 := upw (Below.refl w7.heap.size w7).drew hb8; have hb := upw hb hb8; replace k0_0 := kept_cell (w := w7) k0_0 hb8; replace k0_1 := kept_cell (w := w7) k0_1 hb8; replace k0_2 := kept_cell (w := w7) k0_2 hb8; replace k_x0_0 := kept_cell (w := w7) k_x0_0 hb8; replace k_x0_1 := kept_cell (w := w7) k_x0_1 hb8; replace k_x0_2 := kept_cell (w := w7) k_x0_2 hb8; go_simp)
    refine hK.out _ _ ⟨k0_0, k0_1, k0_2, k_x0_0, k_x0_1, k_x0_2⟩ (fun hHeld => ?_)
    clear hK K
    go_simp
    refine wpAnyH_ready (rs := [3]) (by kernel_rfl) (by simp) ?_
    refine AllReadyH.cons rfl (fun K hK => ?_) AllReadyH.nil
    go_simp
    (refine (eqPattern_same _ _ _ _ _ _ _ _ _ _ ((((hOx0.later hb6).later hb7).later hb8)).lie (hOt2).lie hl0).mono ?_; rintro e w9 ⟨rfl, hb9⟩; have hb := upw hb hb9; replace k0_0 := kept_cell k0_0 hb9; replace k0_1 := kept_cell k0_1 hb9; replace k0_2 := kept_cell k0_2 hb9; replace k_x0_0 := kept_cell k_x0_0 hb9; replace k_x0_1 := kept_cell k_x0_1 hb9; replace k_x0_2 := kept_cell k_x0_2 hb9; go_simp)
    refine hK.out _ _ ⟨k0_0, k0_1, k0_2, k_x0_0, k_x0_1, k_x0_2⟩ (fun hHeld => ?_)
    clear hK K
    go_simp
    refine wpAnyH_take (i := 4) (v := _) rfl (by kernel_rfl) (by kernel_rfl) (by kernel_rfl) (fun _ _ _ h => h) (Or.inl ⟨by rfl, (by intro w hSw; (try dsimp only at hSw); go_simp; try with_reducible rfl)⟩) (by assumption) ?_
    go_simp
    refine wpAnyH_done (by kernel_rfl) ?_ _
    go_wp2_with fail
    go_ret
    exact ⟨rfl, hb⟩
  · go_enter Try.func8, Try.ntmps8
    obtain ⟨w1, hw1⟩ : ∃ w1, w1 = (w.alloc (.cells #[.slice pa0 x0.pieces.length pc0, .slice sa0 x0.seams.length sc0, .int .i64 x0.openings] 25)) := ⟨_, rfl⟩
    have hb1 : Below w.heap.size w w1 := by rw [hw1]; exact ((Below.refl _ _).alloc (by simp) _)
    have k0_0 : w1.cell? ⟨w.heap.size, 0, none⟩ = some (.slice pa0 x0.pieces.length pc0) := by rw [hw1]; go_simp
    have k0_1 : w1.cell? ⟨w.heap.size, 1, none⟩ = some (.slice sa0 x0.seams.length sc0) := by rw [hw1]; go_simp
    have k0_2 : w1.cell? ⟨w.heap.size, 2, none⟩ = some (.int .i64 x0.openings) := by rw [hw1]; go_simp
    have hsz1 := Lib.hid (show w1.heap.size = w.heap.size + 1 by rw [hw1]; simp)
    go_wp2_with fail
    rw [← hw1]
    clear hw1
    have hb := hb1
    go_wp2_with fail
    refine (szPattern_no x0 _ _ _ _ _ _ (hx0.below hb) hk0 (by omega) (by omega) (by omega)).mono ?_
    rintro e w2 ⟨rfl, hb2⟩
    have hb := upw hb hb2
    replace k0_0 := kept_cell k0_0 hb2
    replace k0_1 := kept_cell k0_1 hb2
    replace k0_2 := kept_cell k0_2 hb2
    go_wp2_with fail
    go_ret
    exact ⟨rfl, hb⟩

theorem EEulerOf.own : ownKnob Try.prog.godebug = none := by kernel_rfl
theorem EEulerOf.laidOut : laidOutB Try.prog = true := by kernel_rfl

set_option maxRecDepth 100000 in
theorem EEulerOf.lifted (os : Os) (started : os.Started) (H : Type) (enc : TypeId × Value → H) :
    ReturnsInHanded {} Try.checked os 8 .any (Rows.fnExactEulerOfSpec.pre6 enc Try.prog Try.f8 Rows.fnExactEulerOfRow.domain false) (Rows.fnExactEulerOfSpec.post enc Try.prog Try.f8 false true false false) := by
  refine returnsInHanded_of_change (C := Try.checked) EEulerOf.own started (by kernel_rfl) Try.func8
    (ChangeSpec.witness6 (enc := enc) (C := Try.checked) false ⟨#[], #[.agg #[.slice none 0 0, .slice none 0 0, .int .i64 0]], []⟩ 8 (by kernel_rfl) (by kernel_rfl) (by kernel_rfl) (by kernel_rfl)) ?_
  intro W base args ds gs before hval0 hW _ _
  have hval : ∀ (j : Nat) t v, Try.f8.params[j]? = some t → args[j]? = some v → Value.okWide Try.prog W .any base t v := hval0
  have hW' := hW
  obtain ⟨p, q, hA0, hV, rfl, _, _⟩ := hW
  have hA : DataW.TrodAll enc Try.prog W 0 (fun _ => true) true Try.f8.params.toList args.toList ds p := hA0
  rw [Try.params8] at hA hval
  obtain ⟨v0, vs0, d0, ds0, p0, q0, hargs, rfl, rfl, h0, r0⟩ := trodAll_cons hA
  obtain ⟨rfl, rfl, rfl⟩ := trodAll_nil r0
  obtain rfl : args = #[v0] := by cases args; simp_all
  obtain ⟨rfl, rfl⟩ := trodVars_none hV
  have hlt : ∀ x ∈ p0 ++ [], x.block < W.heap.size := fun x hx => by simpa using hW'.lt x (by simpa using hx)
  clear hA0 hval0
  have k0 := h0
  obtain ⟨x0, pa0, pc0, sa0, sc0, rfl, hx0, hk0⟩ := open_lpattern (hval 0 25 v0 rfl rfl) h0
  refine (lawEulerOf x0 pa0 pc0 sa0 sc0 W hx0 hk0).mono fun e W' ⟨he, hb⟩ => ?_
  subst he
  refine ⟨_, rfl, _, _, _, [], p0 ++ [], [], hW', ?_, ?_, rfl, hb.frame _, fun h => by cases h⟩
  · exact trodAll_mk1 (shut_bool Try.underlying4 _)
  · exact trodAll_cons_mk (Below.trod EEulerOf.laidOut (by kernel_rfl) (of_decide_eq_true (by kernel_rfl)) k0 hb (fun x hx => hlt x (by simp [hx]))) (trodAll_mk0)

theorem EEulerOf.holds : Rows.FnExactEulerOfSaid :=
  OpenClaim.holds_of_wide 8 Try.f8 rfl rfl rfl rfl rfl rfl rfl ⟨rfl, rfl, rfl, rfl, rfl⟩ rfl rfl rfl rfl rfl (by kernel_rfl) Try.func8 (by kernel_rfl)
    (of_decide_eq_true (by kernel_rfl)) (by unfold Func.isWrapper; first | (rw [if_pos (by decide +kernel)]; kernel_rfl) | (rw [if_neg (by decide +kernel)]; exact ⟨rfl, rfl⟩))
    (fun os started H enc _ => EEulerOf.lifted os started H enc)

end Go.Proofs.Ytigaimehlcgobaa
