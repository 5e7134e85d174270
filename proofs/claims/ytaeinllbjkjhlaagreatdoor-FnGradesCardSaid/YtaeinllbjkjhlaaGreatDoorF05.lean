/- The foot and the last of some bytes. -/
import Derived.Test.YtaeinllbjkjhlaaGreatDoorF04
namespace Go.Proofs.YtaeinllbjkjhlaaGreatDoor
open Go.RowKit

set_option maxHeartbeats 1000000 in
theorem A2Foot_d (a : Option Addr) (L : List UInt8) (c : Nat) (w : World) (hx : At w a L) (hl : L.length ≤ 9223372036854775807) :
    Calls Tryz.prog 6 #[.slice a L.length c] w fun e w' => e = .returned (.agg #[.int .i64 (footD L 0 0).Length, .int .i64 (footD L 0 0).Ball, .int .i64 (footD L 0 0).Instep, .int .i64 (footD L 0 0).Heel]) ∧ Below w.heap.size w w' := by
  obtain ⟨w1, hw1⟩ : ∃ w1, w1 = w.alloc (.cells #[.int .i64 0, .int .i64 0, .int .i64 0, .int .i64 0] 25) := ⟨_, rfl⟩
  have hb : Below w.heap.size w w1 := by rw [hw1]; exact newB _ _
  have hR := own_foot1 w 25 ⟨0, 0, 0, 0⟩
  rw [← hw1] at hR
  replace hw1 := Lib.hid hw1
  replace hR := Lib.hid hR
  have hd := Lib.hid (fun g w' (h : SrcIs w' g (0 + 4) L 0 0) => l02Draw_d g 0 L 0 0 w' h)
  generalize footD L 0 0 = f at hd
  go_enter Tryz.func6, Tryz.ntmps6
  go_wp2_with (rw [← hw1.out])
  refine (l00From_d a L c w1 (hx.below hb) hl).mono ?_
  rintro e w2 ⟨rfl, hS, hb2⟩
  replace hR := Lib.hid (hR.out.later hb2)
  go_wp2_with fail
  refine (hd.out _ _ (hS.less (by omega))).mono ?_
  rintro e w3 ⟨rfl, _, hg⟩
  have hb3 := drew_up hb2 hg (Nat.le_refl _)
  replace hR := Lib.hid (hR.out.kept hg (Or.inr (ne_blk (by have := hb.size; have := hR.out.lt _ rfl; have := hw1.out; subst this; simp))))
  replace hb := upw hb hb3
  clear hb2 hb3 hg hS hd
  go_wp2_with (refine wpList_store_own rfl 25 (.tmp 2) (.tmp 5) rfl w.heap.size 25 _ 1 1 ([⟨0, 0, 0, 0⟩] : List Foot) 0 _ f rfl rfl rfl (by kernel_rfl) rfl hR.out (by simp) ?_; intro w4 hR4 hg4)
  obtain ⟨q0, q1, q2, q3⟩ := foot1_cells hR4
  have hb4 := below_mark hb hR.out (Nat.le_refl _) hg4
  refine bodyPost_ret (v := .agg #[.int .i64 f.Length, .int .i64 f.Ball, .int .i64 f.Instep, .int .i64 f.Heel]) (by simp [results, Tryz.results6, go_sem, q0, q1, q2, q3]) rfl ?_
  exact ⟨rfl, hb4⟩
def derby : ByteArray := { data := #[100, 101, 114, 98, 121] }
theorem derby_name : isName derby = true := by decide +kernel
set_option maxHeartbeats 1000000 in
theorem A2Last_c (a : Option Addr) (L : List UInt8) (c : Nat) (w : World) (hx : At w a L) (hl : L.length ≤ 9223372036854775807) :
    Calls Tryz.prog 8 #[.slice a L.length c] w fun e w' => ∃ x : Last, e = .returned (.agg #[.string x.Name, .int .i64 x.Length, .int .i64 x.Ball, .int .i64 x.Instep, .int .i64 x.Heel, .int .i64 x.Pitch]) ∧ NearL derby (footD L 0 0) x ∧ Below w.heap.size w w' := by
  obtain ⟨w1, hw1⟩ : ∃ w1, w1 = w.alloc (.cells #[.string { data := #[] }, .int .i64 0, .int .i64 0, .int .i64 0, .int .i64 0, .int .i64 0] 30) := ⟨_, rfl⟩
  have hb : Below w.heap.size w w1 := by rw [hw1]; exact newB _ _
  have hR : Own w.heap.size w1 30 (.slice (some ⟨w.heap.size, 0, none⟩) 1 1) ([⟨ByteArray.empty, 0, 0, 0, 0, 0⟩] : List Last) := by rw [hw1]; exact own_last1 w 30 ⟨ByteArray.empty, 0, 0, 0, 0, 0⟩
  replace hw1 := Lib.hid hw1
  replace hR := Lib.hid hR
  have hd := Lib.hid (fun g w' (h : SrcIs w' g (20 + 4) L 0 0) => l02Draw_d g 20 L 0 0 w' h)
  have hF := footD_is L 0 0
  generalize footD L 0 0 = f at hd hF
  go_enter Tryz.func8, Tryz.ntmps8
  go_wp2_with (rw [← hw1.out])
  refine (l00From_d a L c w1 (hx.below hb) hl).mono ?_
  rintro e w2 ⟨rfl, hS, hb2⟩
  replace hR := Lib.hid (hR.out.later hb2)
  go_wp2_with fail
  refine (hd.out _ _ (hS.less (by omega))).mono ?_
  rintro e w3 ⟨rfl, hS3, hg⟩
  go_wp2_with fail
  refine (l04New_c w1.heap.size 10 derby f w3 (hS3.src.less (by omega)) hF).mono ?_
  rintro e w4 ⟨x, rfl, hN, _, hg4⟩
  replace hg := grownBy_trans hg hg4
  have hb3 := drew_up hb2 hg (Nat.le_refl _)
  replace hR := Lib.hid (hR.out.kept hg (Or.inr (ne_blk (by have := hb.size; have := hR.out.lt _ rfl; have := hw1.out; subst this; simp))))
  replace hb := upw hb hb3
  clear hb2 hb3 hg hS hd hg4 hS3
  go_wp2_with (refine wpList_store_own rfl 30 (.tmp 2) (.tmp 9) rfl w.heap.size 30 _ 1 1 ([⟨ByteArray.empty, 0, 0, 0, 0, 0⟩] : List Last) 0 _ x rfl rfl rfl (by kernel_rfl) rfl hR.out (by simp) ?_; intro w5 hR5 hg5)
  obtain ⟨q0, q1, q2, q3, q4, q5⟩ := last1_cells hR5
  have hb5 := below_mark hb hR.out (Nat.le_refl _) hg5
  refine bodyPost_ret (v := .agg #[.string x.Name, .int .i64 x.Length, .int .i64 x.Ball, .int .i64 x.Instep, .int .i64 x.Heel, .int .i64 x.Pitch]) (by simp [results, Tryz.results8, go_sem, q0, q1, q2, q3, q4, q5]) rfl ?_
  exact ⟨x, rfl, hN, hb5⟩
end Go.Proofs.YtaeinllbjkjhlaaGreatDoor
