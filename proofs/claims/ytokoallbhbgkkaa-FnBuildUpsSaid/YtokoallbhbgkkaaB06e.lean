/- Chapter 6: NeedOf and BuildLast, where all is valid. -/
import Derived.Test.YtokoallbhbgkkaaB06d
import Derived.Test.YtokoallbhbgkkaaF04
namespace Go.Proofs.Ytokoallbhbgkkaa
open Go.RowKit

set_option maxRecDepth 100000 in
set_option maxHeartbeats 4000000 in
theorem needOf_ok (x : Last) (f : Foot) (w : World) (hn : x.Name.size ≤ 9223372036854775807) (h1 : okLast x = true) (h2 : okFoot f = true) :
    Calls Try.prog 36 #[.agg #[.string x.Name, .int .i64 x.Length, .int .i64 x.Ball, .int .i64 x.Instep, .int .i64 x.Heel, .int .i64 x.Pitch], .agg #[.int .i64 f.Length, .int .i64 f.Ball, .int .i64 f.Instep, .int .i64 f.Heel]] w fun e w' => ∃ g, e = .returned (.tuple #[.slice (some ⟨g, 0, none⟩) 3 3, .int .i64 0]) ∧ Own w.heap.size w' 2 (.slice (some ⟨g, 0, none⟩) 3 3) (needL x f) ∧ Below w.heap.size w w' := by
  obtain ⟨w1, hw1⟩ : ∃ w1, w1 = (w.alloc (.cells #[.string x.Name, .int .i64 x.Length, .int .i64 x.Ball, .int .i64 x.Instep, .int .i64 x.Heel, .int .i64 x.Pitch] 37)).alloc (.cells #[.int .i64 f.Length, .int .i64 f.Ball, .int .i64 f.Instep, .int .i64 f.Heel] 39) := ⟨_, rfl⟩
  obtain ⟨hb, ⟨x0, x1, x2, x3, x4, x5⟩, ⟨f0, f1, f2, f3⟩⟩ := last_cells2 w x f hw1
  replace hw1 := Lib.hid hw1
  have hneed := Lib.hid (fun w' => needOf_c x f w' h1 h2)
  go_enter Try.func36, Try.ntmps36
  go_wp2_with (first | rw [← hw1.out] | (go_at_call 68; refine (validLast_c x _ hn).mono ?_; rintro e w2 ⟨rfl, hb2⟩; rw [h1]; replace x0 := kept_cell x0 hb2; replace x1 := kept_cell x1 hb2; replace x2 := kept_cell x2 hb2; replace x3 := kept_cell x3 hb2; replace x4 := kept_cell x4 hb2; replace x5 := kept_cell x5 hb2; replace f0 := kept_cell f0 hb2; replace f1 := kept_cell f1 hb2; replace f2 := kept_cell f2 hb2; replace f3 := kept_cell f3 hb2; replace hb := upw hb hb2; clear hb2) | (go_at_call 69; refine (validFoot_c f _).mono ?_; rintro e w3 ⟨rfl, hb3⟩; rw [h2]; replace x0 := kept_cell x0 hb3; replace x1 := kept_cell x1 hb3; replace x2 := kept_cell x2 hb3; replace x3 := kept_cell x3 hb3; replace x4 := kept_cell x4 hb3; replace x5 := kept_cell x5 hb3; replace f0 := kept_cell f0 hb3; replace f1 := kept_cell f1 hb3; replace f2 := kept_cell f2 hb3; replace f3 := kept_cell f3 hb3; replace hb := upw hb hb3; clear hb3) | (go_at_call 70; refine (hneed.out _).mono ?_; rintro e w4 ⟨g, rfl, hO, hb4⟩))
  go_ret2
  exact ⟨g, rfl, hO.base hb.size, upw hb hb4⟩
/-- The last with a girth built up. -/
def builtL (x : Last) (k : Nat) (s : Int) : Last := if k = 1 then { x with Ball := x.Ball + s } else if k = 2 then { x with Instep := x.Instep + s } else { x with Heel := x.Heel + s }
set_option maxRecDepth 100000 in
set_option maxHeartbeats 4000000 in
theorem buildLast_ok (x : Last) (k : Nat) (a : Option Addr) (ls : List Int) (c : Nat) (w : World) (hn : x.Name.size ≤ 9223372036854775807) (h1 : okLast x = true) (hk1 : 1 ≤ k) (hk3 : k ≤ 3) (hls : At w a ls) (hll : ls.length ≤ 100) (hr : ∀ n ∈ ls, 1 ≤ n ∧ n ≤ 200) (h2 : okLast (builtL x k (sumI ls)) = true) :
    Calls Try.prog 37 #[.agg #[.string x.Name, .int .i64 x.Length, .int .i64 x.Ball, .int .i64 x.Instep, .int .i64 x.Heel, .int .i64 x.Pitch], .int .i64 k, .slice a ls.length c] w fun e w' => e = .returned (.tuple #[.agg #[.string (builtL x k (sumI ls)).Name, .int .i64 (builtL x k (sumI ls)).Length, .int .i64 (builtL x k (sumI ls)).Ball, .int .i64 (builtL x k (sumI ls)).Instep, .int .i64 (builtL x k (sumI ls)).Heel, .int .i64 (builtL x k (sumI ls)).Pitch], .int .i64 0]) ∧ Below w.heap.size w w' := by
  obtain ⟨wa, hwa⟩ : ∃ wa, wa = w.alloc (.cells #[.string x.Name, .int .i64 x.Length, .int .i64 x.Ball, .int .i64 x.Instep, .int .i64 x.Heel, .int .i64 x.Pitch] 37) := ⟨_, rfl⟩
  have ha : Below w.heap.size w wa := by rw [hwa]; exact newB _ _
  have hV := own_lastC w 37 x
  rw [← hwa] at hV
  have es : wa.heap.size = w.heap.size + 1 := by rw [hwa]; simp
  obtain ⟨w1, hw1⟩ : ∃ w1, w1 = wa.alloc (.cells #[.string { data := #[] }, .int .i64 0, .int .i64 0, .int .i64 0, .int .i64 0, .int .i64 0] 37) := ⟨_, rfl⟩
  have hb1 : Below wa.heap.size wa w1 := by rw [hw1]; exact newB _ _
  have hR : Own (w.heap.size + 1) w1 37 (.slice (some ⟨w.heap.size + 1, 0, none⟩) 1 1) ([⟨ByteArray.empty, 0, 0, 0, 0, 0⟩] : List Last) := by
    have := own_last1 wa 37 ⟨ByteArray.empty, 0, 0, 0, 0, 0⟩
    rw [es] at this
    rw [hw1]; exact this
  replace hV := hV.later hb1
  have hb := upw ha hb1
  obtain ⟨k0, k1, k2, k3, k4, k5⟩ := lastC_cells hV
  rw [hwa] at hw1
  clear hwa ha hb1 es wa
  replace hw1 := Lib.hid hw1
  replace hV := Lib.hid hV
  replace hR := Lib.hid hR
  have hsum := sumI_bound 200 (by omega) ls (fun n hn => by have := hr n hn; omega)
  have hsm : ∀ j, j ≤ ls.length → -9223372036854775808 ≤ sumI (ls.take j) ∧ sumI (ls.take j) ≤ 9223372036854775807 := fun j hj => by
    have h3 := sumI_bound 200 (by omega) (ls.take j) (fun n hn => by have := hr n (List.mem_of_mem_take hn); omega)
    have h4 : (ls.take j).length ≤ 100 := by rw [List.length_take]; omega
    omega
  have hso := Lib.hid (fun w' hb' => sumOf_c a ls c w' (hls.below (w' := w') hb') (by omega) hsm)
  have hout : outs ls 1 200 = false := outs_false.2 hr
  have hoc := fun w' hb' => outside_c a ls c 1 200 w' (hls.below (w' := w') hb') (by omega)
  rw [hout] at hoc
  replace hoc := Lib.hid hoc
  clear hsm hout hr
  have hS0 : -20000 ≤ sumI ls := by omega
  have hS1 : sumI ls ≤ 20000 := by omega
  clear hsum
  generalize sumI ls = s at *
  have hx := (okLast_iff.1 h1).2.1
  have hin : inr (k : Int) 1 3 = true := inr_true.2 (by omega)
  have hv2 := fun w' => validLast_c (builtL x k s) w' (by unfold builtL; split <;> (try split) <;> exact hn)
  rw [h2] at hv2
  have hv1 := fun w' => validLast_c x w' hn
  rw [h1] at hv1
  replace hv1 := Lib.hid hv1
  clear h1 h2
  rcases (by omega : k = 1 ∨ k = 2 ∨ k = 3) with rfl | rfl | rfl
  · have hB : builtL x 1 s = ⟨x.Name, x.Length, x.Ball + s, x.Instep, x.Heel, x.Pitch⟩ := rfl
    rw [hB] at hv2 ⊢
    replace hv2 := Lib.hid hv2
    clear hB hin
    rw [show ((1 : Nat) : Int) = 1 from rfl]
    have hin : inr (1 : Int) 1 3 = true := rfl
    go_enter Try.func37, Try.ntmps37
    go_wp2_with (first | rw [← hw1.out] | (go_at_call 68; first | (refine (hv1.out _).mono ?_; rintro e w2 ⟨rfl, hb2⟩; replace k0 := kept_cell k0 hb2; replace k1 := kept_cell k1 hb2; replace k2 := kept_cell k2 hb2; replace k3 := kept_cell k3 hb2; replace k4 := kept_cell k4 hb2; replace k5 := kept_cell k5 hb2; replace hV := Lib.hid (hV.out.later hb2); replace hR := Lib.hid (hR.out.later hb2); replace hb := upw hb hb2; clear hb2 hv1) | (refine (hv2.out _).mono ?_; rintro e w2 ⟨rfl, hb2⟩; replace k0 := kept_cell k0 hb2; replace k1 := kept_cell k1 hb2; replace k2 := kept_cell k2 hb2; replace k3 := kept_cell k3 hb2; replace k4 := kept_cell k4 hb2; replace k5 := kept_cell k5 hb2; replace hR := Lib.hid (hR.out.later hb2); replace hb := upw hb hb2; clear hb2 hv2)) | (go_at_call 62; refine (within_c _ _ _ _).mono ?_; rintro e w' ⟨rfl, rfl⟩; rw [hin]) | (go_at_call 76; refine (hoc.out _ hb).mono ?_; rintro e w2 ⟨rfl, hb2⟩; replace k0 := kept_cell k0 hb2; replace k1 := kept_cell k1 hb2; replace k2 := kept_cell k2 hb2; replace k3 := kept_cell k3 hb2; replace k4 := kept_cell k4 hb2; replace k5 := kept_cell k5 hb2; replace hV := Lib.hid (hV.out.later hb2); replace hR := Lib.hid (hR.out.later hb2); replace hb := upw hb hb2; clear hb2) | (go_at_call 81; refine (hso.out _ hb).mono ?_; rintro e w' ⟨rfl, rfl⟩) | (refine wpList_store_own rfl 2 (.tmp 37) (.tmp 36) rfl w.heap.size 37 _ 6 6 _ 2 _ ⟨.int .i64 (x.Ball + s), rfl⟩ rfl rfl rfl (by kernel_rfl) rfl hV.out (by show 2 < 6; omega) ?_; intro w3 hV3 hg3; replace hV3 : Own w.heap.size w3 37 (.slice (some ⟨w.heap.size, 0, none⟩) 6 6) (lastC ⟨x.Name, x.Length, x.Ball + s, x.Instep, x.Heel, x.Pitch⟩) := hV3; replace hR := Lib.hid (hR.out.kept hg3 (Or.inr (ne_blk (by omega)))); replace hb := below_mark hb hV.out (Nat.le_refl _) hg3; clear k0 k1 k2 k3 k4 k5 hV; obtain ⟨k0, k1, k2, k3, k4, k5⟩ := lastC_cells hV3; clear hV3 hg3) | (refine wpList_store_own rfl 37 (.tmp 6) (.tmp 56) rfl (w.heap.size + 1) 37 _ 1 1 ([⟨ByteArray.empty, 0, 0, 0, 0, 0⟩] : List Last) 0 _ (⟨x.Name, x.Length, x.Ball + s, x.Instep, x.Heel, x.Pitch⟩ : Last) rfl rfl rfl (by kernel_rfl) rfl hR.out (by simp) ?_; intro w4 hR4 hg4; replace hb := below_mark hb hR.out (by omega) hg4; clear k0 k1 k2 k3 k4 k5; obtain ⟨k0, k1, k2, k3, k4, k5⟩ := last1_cells hR4; clear hR4 hg4))
    refine bodyPost_ret (v := .tuple #[.agg #[.string x.Name, .int .i64 x.Length, .int .i64 (x.Ball + s), .int .i64 (x.Instep), .int .i64 (x.Heel), .int .i64 x.Pitch], .int .i64 0]) (by simp [results, Try.results37, go_sem, k0, k1, k2, k3, k4, k5]) rfl ?_
    exact ⟨rfl, hb⟩
  · have hB : builtL x 2 s = ⟨x.Name, x.Length, x.Ball, x.Instep + s, x.Heel, x.Pitch⟩ := rfl
    rw [hB] at hv2 ⊢
    replace hv2 := Lib.hid hv2
    clear hB hin
    rw [show ((2 : Nat) : Int) = 2 from rfl]
    have hin : inr (2 : Int) 1 3 = true := rfl
    go_enter Try.func37, Try.ntmps37
    go_wp2_with (first | rw [← hw1.out] | (go_at_call 68; first | (refine (hv1.out _).mono ?_; rintro e w2 ⟨rfl, hb2⟩; replace k0 := kept_cell k0 hb2; replace k1 := kept_cell k1 hb2; replace k2 := kept_cell k2 hb2; replace k3 := kept_cell k3 hb2; replace k4 := kept_cell k4 hb2; replace k5 := kept_cell k5 hb2; replace hV := Lib.hid (hV.out.later hb2); replace hR := Lib.hid (hR.out.later hb2); replace hb := upw hb hb2; clear hb2 hv1) | (refine (hv2.out _).mono ?_; rintro e w2 ⟨rfl, hb2⟩; replace k0 := kept_cell k0 hb2; replace k1 := kept_cell k1 hb2; replace k2 := kept_cell k2 hb2; replace k3 := kept_cell k3 hb2; replace k4 := kept_cell k4 hb2; replace k5 := kept_cell k5 hb2; replace hR := Lib.hid (hR.out.later hb2); replace hb := upw hb hb2; clear hb2 hv2)) | (go_at_call 62; refine (within_c _ _ _ _).mono ?_; rintro e w' ⟨rfl, rfl⟩; rw [hin]) | (go_at_call 76; refine (hoc.out _ hb).mono ?_; rintro e w2 ⟨rfl, hb2⟩; replace k0 := kept_cell k0 hb2; replace k1 := kept_cell k1 hb2; replace k2 := kept_cell k2 hb2; replace k3 := kept_cell k3 hb2; replace k4 := kept_cell k4 hb2; replace k5 := kept_cell k5 hb2; replace hV := Lib.hid (hV.out.later hb2); replace hR := Lib.hid (hR.out.later hb2); replace hb := upw hb hb2; clear hb2) | (go_at_call 81; refine (hso.out _ hb).mono ?_; rintro e w' ⟨rfl, rfl⟩) | (refine wpList_store_own rfl 2 (.tmp 44) (.tmp 43) rfl w.heap.size 37 _ 6 6 _ 3 _ ⟨.int .i64 (x.Instep + s), rfl⟩ rfl rfl rfl (by kernel_rfl) rfl hV.out (by show 3 < 6; omega) ?_; intro w3 hV3 hg3; replace hV3 : Own w.heap.size w3 37 (.slice (some ⟨w.heap.size, 0, none⟩) 6 6) (lastC ⟨x.Name, x.Length, x.Ball, x.Instep + s, x.Heel, x.Pitch⟩) := hV3; replace hR := Lib.hid (hR.out.kept hg3 (Or.inr (ne_blk (by omega)))); replace hb := below_mark hb hV.out (Nat.le_refl _) hg3; clear k0 k1 k2 k3 k4 k5 hV; obtain ⟨k0, k1, k2, k3, k4, k5⟩ := lastC_cells hV3; clear hV3 hg3) | (refine wpList_store_own rfl 37 (.tmp 6) (.tmp 56) rfl (w.heap.size + 1) 37 _ 1 1 ([⟨ByteArray.empty, 0, 0, 0, 0, 0⟩] : List Last) 0 _ (⟨x.Name, x.Length, x.Ball, x.Instep + s, x.Heel, x.Pitch⟩ : Last) rfl rfl rfl (by kernel_rfl) rfl hR.out (by simp) ?_; intro w4 hR4 hg4; replace hb := below_mark hb hR.out (by omega) hg4; clear k0 k1 k2 k3 k4 k5; obtain ⟨k0, k1, k2, k3, k4, k5⟩ := last1_cells hR4; clear hR4 hg4))
    refine bodyPost_ret (v := .tuple #[.agg #[.string x.Name, .int .i64 x.Length, .int .i64 (x.Ball), .int .i64 (x.Instep + s), .int .i64 (x.Heel), .int .i64 x.Pitch], .int .i64 0]) (by simp [results, Try.results37, go_sem, k0, k1, k2, k3, k4, k5]) rfl ?_
    exact ⟨rfl, hb⟩
  · have hB : builtL x 3 s = ⟨x.Name, x.Length, x.Ball, x.Instep, x.Heel + s, x.Pitch⟩ := rfl
    rw [hB] at hv2 ⊢
    replace hv2 := Lib.hid hv2
    clear hB hin
    rw [show ((3 : Nat) : Int) = 3 from rfl]
    have hin : inr (3 : Int) 1 3 = true := rfl
    go_enter Try.func37, Try.ntmps37
    go_wp2_with (first | rw [← hw1.out] | (go_at_call 68; first | (refine (hv1.out _).mono ?_; rintro e w2 ⟨rfl, hb2⟩; replace k0 := kept_cell k0 hb2; replace k1 := kept_cell k1 hb2; replace k2 := kept_cell k2 hb2; replace k3 := kept_cell k3 hb2; replace k4 := kept_cell k4 hb2; replace k5 := kept_cell k5 hb2; replace hV := Lib.hid (hV.out.later hb2); replace hR := Lib.hid (hR.out.later hb2); replace hb := upw hb hb2; clear hb2 hv1) | (refine (hv2.out _).mono ?_; rintro e w2 ⟨rfl, hb2⟩; replace k0 := kept_cell k0 hb2; replace k1 := kept_cell k1 hb2; replace k2 := kept_cell k2 hb2; replace k3 := kept_cell k3 hb2; replace k4 := kept_cell k4 hb2; replace k5 := kept_cell k5 hb2; replace hR := Lib.hid (hR.out.later hb2); replace hb := upw hb hb2; clear hb2 hv2)) | (go_at_call 62; refine (within_c _ _ _ _).mono ?_; rintro e w' ⟨rfl, rfl⟩; rw [hin]) | (go_at_call 76; refine (hoc.out _ hb).mono ?_; rintro e w2 ⟨rfl, hb2⟩; replace k0 := kept_cell k0 hb2; replace k1 := kept_cell k1 hb2; replace k2 := kept_cell k2 hb2; replace k3 := kept_cell k3 hb2; replace k4 := kept_cell k4 hb2; replace k5 := kept_cell k5 hb2; replace hV := Lib.hid (hV.out.later hb2); replace hR := Lib.hid (hR.out.later hb2); replace hb := upw hb hb2; clear hb2) | (go_at_call 81; refine (hso.out _ hb).mono ?_; rintro e w' ⟨rfl, rfl⟩) | (refine wpList_store_own rfl 2 (.tmp 51) (.tmp 50) rfl w.heap.size 37 _ 6 6 _ 4 _ ⟨.int .i64 (x.Heel + s), rfl⟩ rfl rfl rfl (by kernel_rfl) rfl hV.out (by show 4 < 6; omega) ?_; intro w3 hV3 hg3; replace hV3 : Own w.heap.size w3 37 (.slice (some ⟨w.heap.size, 0, none⟩) 6 6) (lastC ⟨x.Name, x.Length, x.Ball, x.Instep, x.Heel + s, x.Pitch⟩) := hV3; replace hR := Lib.hid (hR.out.kept hg3 (Or.inr (ne_blk (by omega)))); replace hb := below_mark hb hV.out (Nat.le_refl _) hg3; clear k0 k1 k2 k3 k4 k5 hV; obtain ⟨k0, k1, k2, k3, k4, k5⟩ := lastC_cells hV3; clear hV3 hg3) | (refine wpList_store_own rfl 37 (.tmp 6) (.tmp 56) rfl (w.heap.size + 1) 37 _ 1 1 ([⟨ByteArray.empty, 0, 0, 0, 0, 0⟩] : List Last) 0 _ (⟨x.Name, x.Length, x.Ball, x.Instep, x.Heel + s, x.Pitch⟩ : Last) rfl rfl rfl (by kernel_rfl) rfl hR.out (by simp) ?_; intro w4 hR4 hg4; replace hb := below_mark hb hR.out (by omega) hg4; clear k0 k1 k2 k3 k4 k5; obtain ⟨k0, k1, k2, k3, k4, k5⟩ := last1_cells hR4; clear hR4 hg4))
    refine bodyPost_ret (v := .tuple #[.agg #[.string x.Name, .int .i64 x.Length, .int .i64 (x.Ball), .int .i64 (x.Instep), .int .i64 (x.Heel + s), .int .i64 x.Pitch], .int .i64 0]) (by simp [results, Try.results37, go_sem, k0, k1, k2, k3, k4, k5]) rfl ?_
    exact ⟨rfl, hb⟩
end Go.Proofs.Ytokoallbhbgkkaa
