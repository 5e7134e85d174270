/- FnExactPlaceOfSpot: for all arguments the law returns true, and its arguments read behind the call as before. (Printed by wip/genlaw2.py.) -/
import Derived.Test.YtaopebekpogciaaSpot
import Derived.Test.YtaopebekpogciaaL07p
import Derived.Test.YtaopebekpogciaaBox
import Derived.Deep.RegionHeld3
namespace Go.Proofs.Ytaopebekpogciaa
open Go.ChangeShapes Go.WideShapes Go.ChangeAt Go.RowKit

set_option maxRecDepth 100000 in
set_option maxHeartbeats 4000000 in
theorem lawPlaceOfSpot (a0 : Option Addr) (x0 : List Spot) (c0 : Nat) (x1 : Spot) (w : World) (hx0 : At w a0 x0) (hn0 : x0.length ≤ 9223372036854775807) (hn1 : Rep.ok x1) :
    Calls Try.prog 7 #[.slice a0 x0.length c0, .agg #[.int .i64 x1.X, .int .i64 x1.Y]] w fun e w' => e = .returned (.bool true) ∧ Below w.heap.size w w' := by
  by_cases hh0 : x0.length ≤ 1048576
  · skip
    have hl0 : x0.length ≤ 1048576 := by omega
    go_enter Try.func7, Try.ntmps7
    obtain ⟨w1, hw1⟩ : ∃ w1, w1 = (w.alloc (.cells #[.int .i64 x1.X, .int .i64 x1.Y] 38)) := ⟨_, rfl⟩
    have hb1 : Below w.heap.size w w1 := by rw [hw1]; exact ((Below.refl _ _).alloc (by simp) _)
    have k1_0 : w1.cell? ⟨w.heap.size, 0, none⟩ = some (.int .i64 x1.X) := by rw [hw1]; go_simp
    have k1_1 : w1.cell? ⟨w.heap.size, 1, none⟩ = some (.int .i64 x1.Y) := by rw [hw1]; go_simp
    go_wp2_with fail
    rw [← hw1]
    clear hw1
    have hb := hb1
    go_wp2_with fail
    refine (szSpotS_ok _ _ _ _ _ (by omega) (by omega)).mono ?_
    rintro e w2 ⟨rfl, hb2⟩
    have hb := upw hb hb2
    replace k1_0 := kept_cell k1_0 hb2
    replace k1_1 := kept_cell k1_1 hb2
    go_wp2_with fail
    go_region_held3 (fun w' => w'.cell? ⟨w.heap.size, 0, none⟩ = some (.int .i64 x1.X) ∧ w'.cell? ⟨w.heap.size, 1, none⟩ = some (.int .i64 x1.Y)) (first | exact ⟨k1_0, k1_1⟩ | go_keep) (first | (go_at_call 15; refine (toSpotS_any _ _ _ _ (hx0.below hb.drew) hl0).mono ?_; rintro e w3 ⟨vt1, rfl, hOt1, hb3⟩; replace hb3 := upw (Below.refl w2.heap.size w2).drew hb3; have hb := upw hb hb3; replace k1_0 := kept_cell (w := w2) k1_0 hb3; replace k1_1 := kept_cell (w := w2) k1_1 hb3; obtain ⟨at1, ct1, rfl, _⟩ := hOt1.at) | (go_at_call 26; refine (toSpot_any _ _ _).mono ?_; rintro e w4 ⟨rfl, hb4⟩; have hb := upw hb hb4; replace k1_0 := kept_cell k1_0 hb4; replace k1_1 := kept_cell k1_1 hb4) | (go_at_call 25; refine (specPlaceOfSpot_c _ _ _ x1 _ ((hOt1.later hb4)).at' hn0 hn1).mono ?_; rintro e w5 ⟨rfl, hb5⟩; have hb := upw hb hb5; replace k1_0 := kept_cell k1_0 hb5; replace k1_1 := kept_cell k1_1 hb5))
    go_wp2_with fail
    refine (toSpotS_any _ _ _ _ (hx0.below hb) hl0).mono ?_
    rintro e w6 ⟨vx0, rfl, hOx0, hb6⟩
    have hb := upw hb hb6
    replace k1_0 := kept_cell k1_0 hb6
    replace k1_1 := kept_cell k1_1 hb6
    obtain ⟨ax0, cx0, rfl, _⟩ := hOx0.at
    go_wp2_with fail
    refine (toSpot_any _ _ _).mono ?_
    rintro e w7 ⟨rfl, hb7⟩
    have hb := upw hb hb7
    replace k1_0 := kept_cell k1_0 hb7
    replace k1_1 := kept_cell k1_1 hb7
    go_wp2_with fail
    refine (implPlaceOfSpot_c _ _ _ x1 _ ((hOx0.later hb7)).at' hn0 hn1).mono ?_
    rintro e w8 ⟨rfl, hb8⟩
    have hb := upw hb hb8
    replace k1_0 := kept_cell k1_0 hb8
    replace k1_1 := kept_cell k1_1 hb8
    go_wp2_with fail
    refine (toSpotS_any _ _ _ _ (hx0.below hb) hl0).mono ?_
    rintro e w9 ⟨vt4, rfl, hOt4, hb9⟩
    have hb := upw hb hb9
    replace k1_0 := kept_cell k1_0 hb9
    replace k1_1 := kept_cell k1_1 hb9
    obtain ⟨at4, ct4, rfl, _⟩ := hOt4.at
    go_wp2_with fail
    refine (eqSpotS_same _ _ _ _ _ _ ((((hOx0.later hb7).later hb8).later hb9)).at' (hOt4).at' (by omega)).mono ?_
    rintro e w10 ⟨rfl, hb10⟩
    have hb := upw hb hb10
    replace k1_0 := kept_cell k1_0 hb10
    replace k1_1 := kept_cell k1_1 hb10
    go_wp2_with fail
    go_ret
    exact ⟨rfl, hb⟩
  · go_enter Try.func7, Try.ntmps7
    obtain ⟨w1, hw1⟩ : ∃ w1, w1 = (w.alloc (.cells #[.int .i64 x1.X, .int .i64 x1.Y] 38)) := ⟨_, rfl⟩
    have hb1 : Below w.heap.size w w1 := by rw [hw1]; exact ((Below.refl _ _).alloc (by simp) _)
    have k1_0 : w1.cell? ⟨w.heap.size, 0, none⟩ = some (.int .i64 x1.X) := by rw [hw1]; go_simp
    have k1_1 : w1.cell? ⟨w.heap.size, 1, none⟩ = some (.int .i64 x1.Y) := by rw [hw1]; go_simp
    go_wp2_with fail
    rw [← hw1]
    clear hw1
    have hb := hb1
    go_wp2_with fail
    refine (szSpotS_no _ _ _ _ _ (by omega) (by omega) (by omega)).mono ?_
    rintro e w2 ⟨rfl, hb2⟩
    have hb := upw hb hb2
    replace k1_0 := kept_cell k1_0 hb2
    replace k1_1 := kept_cell k1_1 hb2
    go_wp2_with fail
    go_ret
    exact ⟨rfl, hb⟩

theorem EPlaceOfSpot.own : ownKnob Try.prog.godebug = none := by kernel_rfl
theorem EPlaceOfSpot.laidOut : laidOutB Try.prog = true := by kernel_rfl

set_option maxRecDepth 100000 in
theorem EPlaceOfSpot.lifted (os : Os) (started : os.Started) (H : Type) (enc : TypeId × Value → H) :
    ReturnsInHanded {} Try.checked os 7 .any (Rows.fnExactPlaceOfSpotSpec.pre6 enc Try.prog Try.f7 Rows.fnExactPlaceOfSpotRow.domain false) (Rows.fnExactPlaceOfSpotSpec.post enc Try.prog Try.f7 false true false false) := by
  refine returnsInHanded_of_change (C := Try.checked) EPlaceOfSpot.own started (by kernel_rfl) Try.func7
    (ChangeSpec.witness6 (enc := enc) (C := Try.checked) false ⟨#[], #[.slice none 0 0, .agg #[.int .i64 0, .int .i64 0]], []⟩ 8 (by kernel_rfl) (by kernel_rfl) (by kernel_rfl) (by kernel_rfl)) ?_
  intro W base args ds gs before hval0 hW _ _
  have hval : ∀ (j : Nat) t v, Try.f7.params[j]? = some t → args[j]? = some v → Value.okWide Try.prog W .any base t v := hval0
  have hW' := hW
  obtain ⟨p, q, hA0, hV, rfl, _, _⟩ := hW
  have hA : DataW.TrodAll enc Try.prog W 0 (fun _ => true) true Try.f7.params.toList args.toList ds p := hA0
  rw [Try.params7] at hA hval
  obtain ⟨v0, vs0, d0, ds0, p0, q0, hargs, rfl, rfl, h0, r0⟩ := trodAll_cons hA
  obtain ⟨v1, vs1, d1, ds1, p1, q1, rfl, rfl, rfl, h1, r1⟩ := trodAll_cons r0
  obtain ⟨rfl, rfl, rfl⟩ := trodAll_nil r1
  obtain rfl : args = #[v0, v1] := by cases args; simp_all
  obtain ⟨rfl, rfl⟩ := trodVars_none hV
  have hlt : ∀ x ∈ p0 ++ (p1 ++ []), x.block < W.heap.size := fun x hx => by simpa using hW'.lt x (by simpa using hx)
  clear hA0 hval0
  have k0 := h0
  have k1 := h1
  obtain ⟨a0, x0, c0, rfl, hx0, hn0, hk0⟩ := open_list Try.underlying22 opens_lspots (hval 0 22 v0 rfl rfl) h0
  obtain ⟨x1, rfl, hn1⟩ := open_lspot (hval 1 38 v1 rfl rfl) h1
  refine (lawPlaceOfSpot a0 x0 c0 x1 W hx0 hn0 hn1).mono fun e W' ⟨he, hb⟩ => ?_
  subst he
  refine ⟨_, rfl, _, _, _, [], p0 ++ (p1 ++ []), [], hW', ?_, ?_, rfl, hb.frame _, fun h => by cases h⟩
  · exact trodAll_mk1 (shut_bool Try.underlying4 _)
  · exact trodAll_cons_mk (Below.trod EPlaceOfSpot.laidOut (by kernel_rfl) (of_decide_eq_true (by kernel_rfl)) k0 hb (fun x hx => hlt x (by simp [hx]))) (trodAll_cons_mk (Below.trod EPlaceOfSpot.laidOut (by kernel_rfl) (of_decide_eq_true (by kernel_rfl)) k1 hb (fun x hx => hlt x (by simp [hx]))) (trodAll_mk0))

theorem EPlaceOfSpot.holds : Rows.FnExactPlaceOfSpotSaid :=
  OpenClaim.holds_of_wide 7 Try.f7 rfl rfl rfl rfl rfl rfl rfl ⟨rfl, rfl, rfl, rfl, rfl⟩ rfl rfl rfl rfl rfl (by kernel_rfl) Try.func7 (by kernel_rfl)
    (of_decide_eq_true (by kernel_rfl)) (by unfold Func.isWrapper; first | (rw [if_pos (by decide +kernel)]; kernel_rfl) | (rw [if_neg (by decide +kernel)]; exact ⟨rfl, rfl⟩))
    (fun os started H enc _ => EPlaceOfSpot.lifted os started H enc)

end Go.Proofs.Ytaopebekpogciaa
