/- Feet and lasts that are drawn. -/
import Derived.Test.YtaeinllbjkjhlaaGreatDoorF02
import Derived.Test.YtaeinllbjkjhlaaGreatDoorSrcD
namespace Go.Proofs.YtaeinllbjkjhlaaGreatDoor
open Go.RowKit

theorem ne_blk {a b n c : Nat} (h : a ≠ b) : (Value.slice (some ⟨a, 0, none⟩) n c).ownBlock ≠ some b := fun e => h (Option.some.inj (show some a = some b from e))
/-- A variable that holds a foot, cell by cell. -/
def footC (f : Foot) : List OneCell := [⟨.int .i64 f.Length, rfl⟩, ⟨.int .i64 f.Ball, rfl⟩, ⟨.int .i64 f.Instep, rfl⟩, ⟨.int .i64 f.Heel, rfl⟩]
theorem own_footC (w : World) (t : TypeId) (f : Foot) : Own w.heap.size (w.alloc (.cells #[.int .i64 f.Length, .int .i64 f.Ball, .int .i64 f.Instep, .int .i64 f.Heel] t)) t (.slice (some ⟨w.heap.size, 0, none⟩) 4 4) (footC f) :=
  ⟨rfl, .inr ⟨w.heap.size, 4, #[.int .i64 f.Length, .int .i64 f.Ball, .int .i64 f.Instep, .int .i64 f.Heel], rfl, Nat.le_refl _, heap_alloc_new _ _, Nat.le_refl _, by unfold maxLen; omega, rfl, rfl⟩⟩
theorem footC_cells {B : Nat} {w : World} {e : TypeId} {g n c : Nat} {f : Foot} (h : Own B w e (.slice (some ⟨g, 0, none⟩) n c) (footC f)) :
    w.cell? ⟨g, 0, none⟩ = some (.int .i64 f.Length) ∧ w.cell? ⟨g, 1, none⟩ = some (.int .i64 f.Ball) ∧ w.cell? ⟨g, 2, none⟩ = some (.int .i64 f.Instep) ∧ w.cell? ⟨g, 3, none⟩ = some (.int .i64 f.Heel) :=
  ⟨own_one h (i := 0) (by show 0 < 4; omega), own_one h (i := 1) (by show 1 < 4; omega), own_one h (i := 2) (by show 2 < 4; omega), own_one h (i := 3) (by show 3 < 4; omega)⟩
theorem own_foot1 (w : World) (t : TypeId) (x : Foot) : Own w.heap.size (w.alloc (.cells #[.int .i64 x.Length, .int .i64 x.Ball, .int .i64 x.Instep, .int .i64 x.Heel] t)) t (.slice (some ⟨w.heap.size, 0, none⟩) 1 1) [x] :=
  ⟨rfl, .inr ⟨w.heap.size, 1, #[.int .i64 x.Length, .int .i64 x.Ball, .int .i64 x.Instep, .int .i64 x.Heel], rfl, Nat.le_refl _, heap_alloc_new _ _, Nat.le_refl _, by unfold maxLen; omega, rfl, rfl⟩⟩
theorem foot1_cells {B : Nat} {w : World} {e : TypeId} {g n c : Nat} {x : Foot} (h : Own B w e (.slice (some ⟨g, 0, none⟩) n c) [x]) :
    w.cell? ⟨g, 0, none⟩ = some (.int .i64 x.Length) ∧ w.cell? ⟨g, 1, none⟩ = some (.int .i64 x.Ball) ∧ w.cell? ⟨g, 2, none⟩ = some (.int .i64 x.Instep) ∧ w.cell? ⟨g, 3, none⟩ = some (.int .i64 x.Heel) := by
  have := h.at'.foot (i := 0) (by simp)
  simpa using this
/-- The seed behind n draws. -/
def seedN (L : List UInt8) (k : Nat) (sd : Int) : Nat → Int
  | 0 => sd
  | n + 1 => nextS L (k + n) (seedN L k sd n)
/-- The n-th draw. -/
def drawN (L : List UInt8) (k : Nat) (sd : Int) (n : Nat) : Int := nextV L (k + n) (seedN L k sd n)
def footD (L : List UInt8) (k : Nat) (sd : Int) : Foot := ⟨2200 + 5 * (drawN L k sd 0 % 130), 2100 + 5 * (drawN L k sd 1 % 100), 2200 + 5 * (drawN L k sd 2 % 100), 3000 + 5 * (drawN L k sd 3 % 100)⟩
structure DrawnF (f : Foot) : Prop where
  length : 2200 ≤ f.Length ∧ f.Length ≤ 2845
  ball : 2100 ≤ f.Ball ∧ f.Ball ≤ 2595
  instep : 2200 ≤ f.Instep ∧ f.Instep ≤ 2695
  heel : 3000 ≤ f.Heel ∧ f.Heel ≤ 3495
theorem footD_is (L : List UInt8) (k : Nat) (sd : Int) : DrawnF (footD L k sd) := by
  constructor <;> (unfold footD; dsimp only; omega)
theorem DrawnF.ok {f : Foot} (h : DrawnF f) : okFoot f = true := by
  rw [okFoot_iff]
  have h1 := h.length; have h2 := h.ball; have h3 := h.instep; have h4 := h.heel
  omega
set_option maxRecDepth 100000 in
set_option maxHeartbeats 4000000 in
theorem l02Draw_d (g M : Nat) (L : List UInt8) (k : Nat) (sd : Int) (w : World) (hS : SrcIs w g (M + 4) L k sd) :
    Calls Tryz.prog 37 #[.pointer (some ⟨g, 0, none⟩)] w fun e w' => e = .returned (.agg #[.int .i64 (footD L k sd).Length, .int .i64 (footD L k sd).Ball, .int .i64 (footD L k sd).Instep, .int .i64 (footD L k sd).Heel]) ∧ SrcIs w' g M L (k + 4) (seedN L k sd 4) ∧ w.grownBy w' (some g) := by
  have hgl := hS.lt
  have D0 := fun w' (h : SrcIs w' g (M + 3 + 1) L k sd) => pick_d g (M + 3) 130 L k sd w' h (by omega) (by omega)
  have D1 := fun w' (h : SrcIs w' g (M + 2 + 1) L (k + 1) (seedN L k sd 1)) => pick_d g (M + 2) 100 L (k + 1) (seedN L k sd 1) w' h (by omega) (by omega)
  have D2 := fun w' (h : SrcIs w' g (M + 1 + 1) L (k + 2) (seedN L k sd 2)) => pick_d g (M + 1) 100 L (k + 2) (seedN L k sd 2) w' h (by omega) (by omega)
  have D3 := fun w' (h : SrcIs w' g (M + 1) L (k + 3) (seedN L k sd 3)) => pick_d g M 100 L (k + 3) (seedN L k sd 3) w' h (by omega) (by omega)
  have hF : footD L k sd = ⟨2200 + 5 * (nextV L k sd % 130), 2100 + 5 * (nextV L (k + 1) (seedN L k sd 1) % 100), 2200 + 5 * (nextV L (k + 2) (seedN L k sd 2) % 100), 3000 + 5 * (nextV L (k + 3) (seedN L k sd 3) % 100)⟩ := rfl
  rw [hF]
  clear hF
  generalize nextV L k sd % 130 = p0 at *
  generalize nextV L (k + 1) (seedN L k sd 1) % 100 = p1 at *
  generalize nextV L (k + 2) (seedN L k sd 2) % 100 = p2 at *
  generalize nextV L (k + 3) (seedN L k sd 3) % 100 = p3 at *
  replace D0 := Lib.hid D0
  replace D1 := Lib.hid D1
  replace D2 := Lib.hid D2
  replace D3 := Lib.hid D3
  have hb0 : Below w.heap.size w (w.alloc (.cells #[.int .i64 0, .int .i64 0, .int .i64 0, .int .i64 0] 25)) := (Below.refl _ _).alloc (Nat.le_refl _) _
  have hR := Lib.hid (own_foot1 w 25 ⟨0, 0, 0, 0⟩)
  replace hS := hS.later hb0
  have hG := drew_below g hb0
  replace hS := Lib.hid hS
  go_enter Tryz.func37, Tryz.ntmps37
  go_wp2_with fail
  refine (D0.out _ hS.out).mono ?_
  rintro e w1 ⟨rfl, hp0, hS1, hg1⟩
  replace hR := Lib.hid (hR.out.drew hgl hg1)
  replace hG := grownBy_trans hG hg1
  have hgl1 : g < w1.heap.size := Nat.lt_of_lt_of_le hgl hG.size
  have hlt1 : w.heap.size ≠ w1.heap.size := by have := hg1.size; simp at this; omega
  have hsz1 := hG.size
  have hbA : Below w1.heap.size w1 (w1.alloc (.cells #[.int .i64 (2200 + 5 * p0), .int .i64 0, .int .i64 0, .int .i64 0] 25)) := (Below.refl _ _).alloc (Nat.le_refl _) _
  have hV := Lib.hid (own_footC w1 25 ⟨2200 + 5 * p0, 0, 0, 0⟩)
  replace hR := Lib.hid (hR.out.later hbA)
  replace hG := grownBy_trans hG (drew_below g hbA)
  replace hS1 := Lib.hid (hS1.later hbA)
  clear hg1 hbA hS
  go_wp2_with fail
  refine (D1.out _ hS1.out).mono ?_
  rintro e w2 ⟨rfl, hp1, hS2, hg2⟩
  replace hR := Lib.hid (hR.out.drew hgl hg2)
  replace hV := Lib.hid (hV.out.drew hgl1 hg2)
  replace hG := grownBy_trans hG hg2
  clear hg2 hS1
  have hS := Lib.hid hS2
  clear hS2
  go_wp2_with (refine wpList_store_own rfl 2 (.tmp 13) (.tmp 12) rfl w1.heap.size 25 _ 4 4 _ 1 _ ⟨.int .i64 (2100 + 5 * p1), rfl⟩ rfl rfl rfl (by kernel_rfl) rfl hV.out (by show 1 < 4; omega) ?_; intro w3 hV3 hg3; replace hV3 : Own w1.heap.size w3 25 (.slice (some ⟨w1.heap.size, 0, none⟩) 4 4) (footC ⟨2200 + 5 * p0, 2100 + 5 * p1, 0, 0⟩) := hV3; replace hS := Lib.hid (hS.out.mark hV.out hgl1 hg3); replace hR := Lib.hid (hR.out.kept hg3 (Or.inr (ne_blk hlt1))); replace hG := marked_up hG hV.out hsz1 hg3; clear hV; have hV := Lib.hid hV3; clear hV3 hg3)
  refine (D2.out _ hS.out).mono ?_
  rintro e w4 ⟨rfl, hp2, hS4, hg2⟩
  replace hR := Lib.hid (hR.out.drew hgl hg2)
  replace hV := Lib.hid (hV.out.drew hgl1 hg2)
  replace hG := grownBy_trans hG hg2
  clear hg2 hS
  have hS := Lib.hid hS4
  clear hS4
  go_wp2_with (refine wpList_store_own rfl 2 (.tmp 18) (.tmp 17) rfl w1.heap.size 25 _ 4 4 _ 2 _ ⟨.int .i64 (2200 + 5 * p2), rfl⟩ rfl rfl rfl (by kernel_rfl) rfl hV.out (by show 2 < 4; omega) ?_; intro w5 hV3 hg3; replace hV3 : Own w1.heap.size w5 25 (.slice (some ⟨w1.heap.size, 0, none⟩) 4 4) (footC ⟨2200 + 5 * p0, 2100 + 5 * p1, 2200 + 5 * p2, 0⟩) := hV3; replace hS := Lib.hid (hS.out.mark hV.out hgl1 hg3); replace hR := Lib.hid (hR.out.kept hg3 (Or.inr (ne_blk hlt1))); replace hG := marked_up hG hV.out hsz1 hg3; clear hV; have hV := Lib.hid hV3; clear hV3 hg3)
  refine (D3.out _ hS.out).mono ?_
  rintro e w6 ⟨rfl, hp3, hS4, hg2⟩
  replace hR := Lib.hid (hR.out.drew hgl hg2)
  replace hV := Lib.hid (hV.out.drew hgl1 hg2)
  replace hG := grownBy_trans hG hg2
  clear hg2 hS
  have hS := Lib.hid hS4
  clear hS4
  go_wp2_with (first | (refine wpList_store_own rfl 2 (.tmp 23) (.tmp 22) rfl w1.heap.size 25 _ 4 4 _ 3 _ ⟨.int .i64 (3000 + 5 * p3), rfl⟩ rfl rfl rfl (by kernel_rfl) rfl hV.out (by show 3 < 4; omega) ?_; intro w7 hV3 hg3; replace hV3 : Own w1.heap.size w7 25 (.slice (some ⟨w1.heap.size, 0, none⟩) 4 4) (footC ⟨2200 + 5 * p0, 2100 + 5 * p1, 2200 + 5 * p2, 3000 + 5 * p3⟩) := hV3; replace hS := Lib.hid (hS.out.mark hV.out hgl1 hg3); replace hR := Lib.hid (hR.out.kept hg3 (Or.inr (ne_blk hlt1))); replace hG := marked_up hG hV.out hsz1 hg3; clear hV; have hV := Lib.hid hV3; obtain ⟨c0, c1, c2, c3⟩ := footC_cells hV3; clear hV3 hg3) | (refine wpList_store_own rfl 25 (.tmp 2) (.tmp 24) rfl w.heap.size 25 _ 1 1 ([⟨0, 0, 0, 0⟩] : List Foot) 0 _ (⟨2200 + 5 * p0, 2100 + 5 * p1, 2200 + 5 * p2, 3000 + 5 * p3⟩ : Foot) rfl rfl rfl (by kernel_rfl) rfl hR.out (by simp) ?_; intro wz hRz hgz))
  obtain ⟨q0, q1, q2, q3⟩ := foot1_cells hRz
  have hSz := hS.out.mark hR.out (Nat.lt_of_lt_of_le hgl (Nat.le_refl _)) hgz
  have hGz := marked_up hG hR.out (Nat.le_refl _) hgz
  refine bodyPost_ret (v := .agg #[.int .i64 (2200 + 5 * p0), .int .i64 (2100 + 5 * p1), .int .i64 (2200 + 5 * p2), .int .i64 (3000 + 5 * p3)]) (by simp [results, Tryz.results37, go_sem, q0, q1, q2, q3]) rfl ?_
  exact ⟨rfl, hSz, hGz⟩
end Go.Proofs.YtaeinllbjkjhlaaGreatDoor
