/- Chapter 9, edges that are drawn. -/
import Derived.Test.YtledlkggggpdpaaGreatDoorSrcN
import Derived.Test.YtledlkggggpdpaaGreatDoorSep
import Derived.Test.YtledlkggggpdpaaGreatDoorL09s
import Derived.Test.YtledlkggggpdpaaGreatDoorLists
namespace Go.Proofs.YtledlkggggpdpaaGreatDoor
open Go.RowKit

def stripC (x : Strip) : List OneCell := [⟨.int .i64 x.Length, rfl⟩, ⟨.int .i64 x.Allow, rfl⟩, ⟨.int .i64 x.Left, rfl⟩, ⟨.int .i64 x.Right, rfl⟩]
theorem stripC_cells {B : Nat} {w : World} {e : TypeId} {g n c : Nat} {x : Strip} (h : Own B w e (.slice (some ⟨g, 0, none⟩) n c) (stripC x)) :
    w.cell? ⟨g, 0, none⟩ = some (.int .i64 x.Length) ∧ w.cell? ⟨g, 1, none⟩ = some (.int .i64 x.Allow) ∧ w.cell? ⟨g, 2, none⟩ = some (.int .i64 x.Left) ∧ w.cell? ⟨g, 3, none⟩ = some (.int .i64 x.Right) :=
  ⟨own_one h (i := 0) (by show 0 < 4; omega), own_one h (i := 1) (by show 1 < 4; omega), own_one h (i := 2) (by show 2 < 4; omega), own_one h (i := 3) (by show 3 < 4; omega)⟩
theorem strip_cell4 {B : Nat} {w : World} {e : TypeId} {g n c : Nat} {x : Strip} (h : Own B w e (.slice (some ⟨g, 0, none⟩) n c) [x]) :
    w.cell? ⟨g, 0, none⟩ = some (.int .i64 x.Length) ∧ w.cell? ⟨g, 1, none⟩ = some (.int .i64 x.Allow) ∧ w.cell? ⟨g, 2, none⟩ = some (.int .i64 x.Left) ∧ w.cell? ⟨g, 3, none⟩ = some (.int .i64 x.Right) := by
  have := h.at'.strip (i := 0) (by simp)
  simpa using this
/-- An edge as it is drawn. -/
structure DrawnS (x : Strip) : Prop where
  length : 20 ≤ x.Length ∧ x.Length ≤ 465
  allow : 0 ≤ x.Allow ∧ x.Allow ≤ 35
  left : 0 ≤ x.Left ∧ x.Left ≤ 29
  right : 0 ≤ x.Right ∧ x.Right ≤ 29
theorem DrawnS.ok {x : Strip} (h : DrawnS x) : okStrip x = true := by
  have h1 := h.length; have h2 := h.allow; have h3 := h.left; have h4 := h.right
  exact okStrip_iff.2 ⟨by omega, by omega, by omega, by omega⟩
theorem DrawnS.rep {x : Strip} (h : DrawnS x) : Rep.ok x := by
  have h1 := h.length; have h2 := h.allow; have h3 := h.left; have h4 := h.right
  exact ⟨by omega, by omega, by omega, by omega⟩
set_option maxRecDepth 100000 in
set_option maxHeartbeats 2000000 in
theorem l09New_c (g M : Nat) (w : World) (hS : SrcAt w g (M + 8)) :
    Calls Tryz.prog 120 #[.pointer (some ⟨g, 0, none⟩)] w fun e w' => ∃ x : Strip, e = .returned (.agg #[.int .i64 x.Length, .int .i64 x.Allow, .int .i64 x.Left, .int .i64 x.Right]) ∧ DrawnS x ∧ SrcAt w' g M ∧ w.grownBy w' (some g) := by
  have hgl := hS.lt
  obtain ⟨w1, hw1⟩ : ∃ w1, w1 = w.alloc (.cells #[.int .i64 0, .int .i64 0, .int .i64 0, .int .i64 0] 54) := ⟨_, rfl⟩
  have D := (Dr.start hS).alloc 54 #[.int .i64 0, .int .i64 0, .int .i64 0, .int .i64 0] [(⟨0, 0, 0, 0⟩ : Strip)] rfl (by simp)
  rw [← hw1] at D
  simp only [List.length_singleton] at D
  replace D := Lib.hid D
  replace hw1 := Lib.hid hw1
  clear hS
  go_enter Tryz.func120, Tryz.ntmps120
  go_wp2_with (rw [← hw1.out])
  refine (pick_c g (M + 6) 90 w1 (D.out.src.less (by omega)) (by omega) (by omega)).mono ?_
  rintro e wp ⟨p0, rfl, p00, p01, hS2, hg2⟩
  replace D := Lib.hid (D.out.drew hS2 hg2)
  clear hS2 hg2 hw1
  have hp0 : p0 < 90 := by omega
  clear p01
  obtain ⟨n0, hn0⟩ : ∃ m : Int, m = 20 + 5 * p0 := ⟨_, rfl⟩
  have hr0 : 20 ≤ n0 ∧ n0 ≤ 465 := by omega
  have hz0 : IntKind.i64.wrap (5 * p0) = 5 * p0 := IntWalk.i64_in _ (by omega)
  have hz1 : IntKind.i64.wrap (20 + 5 * p0) = n0 := by rw [hn0]; exact IntWalk.i64_in _ (by omega)
  replace hn0 := Lib.hid hn0
  obtain ⟨w3, hw3⟩ : ∃ w3, w3 = wp.alloc (.cells #[.int .i64 n0, .int .i64 0, .int .i64 0, .int .i64 0] 54) := ⟨_, rfl⟩
  have D3 := D.out.alloc 54 #[.int .i64 n0, .int .i64 0, .int .i64 0, .int .i64 0] (stripC ⟨n0, 0, 0, 0⟩) rfl (by show 4 ≤ 1048576; omega)
  rw [← hw3] at D3
  replace D3 : Dr w w3 g (M + 6) [ite' 54 (.slice (some ⟨wp.heap.size, 0, none⟩) 4 4) (stripC ⟨n0, 0, 0, 0⟩), ite' 54 (.slice (some ⟨w.heap.size, 0, none⟩) 1 1) [(⟨0, 0, 0, 0⟩ : Strip)]] := D3
  replace hw3 := Lib.hid hw3
  replace D := Lib.hid D3
  clear D3
  go_wp2_with (rw [← hw3.out])
  obtain ⟨b, hb⟩ : ∃ b, b = wp.heap.size := ⟨_, rfl⟩
  rw [← hb] at D ⊢
  clear hb hw3 hz0 hz1
  refine (pick_c g (M + 4) 8 w3 (D.out.src.less (by omega)) (by omega) (by omega)).mono ?_
  rintro e w4 ⟨p1, rfl, p10, p11, hS2, hg2⟩
  replace D := Lib.hid (D.out.drew hS2 hg2)
  clear hS2 hg2
  have hp1 : p1 < 8 := by omega
  clear p11
  obtain ⟨n1, hn1⟩ : ∃ m : Int, m = 5 * p1 := ⟨_, rfl⟩
  have hr1 : 0 ≤ n1 ∧ n1 ≤ 35 := by omega
  have hz0 : IntKind.i64.wrap (5 * p1) = n1 := by rw [hn1]; exact IntWalk.i64_in _ (by omega)
  replace hn1 := Lib.hid hn1
  have V := Lib.hid (D.out.get 0 rfl : Own _ _ _ _ (stripC ⟨n0, 0, 0, 0⟩))
  go_wp2_with ((with_reducible refine at_st 2 (.tmp 12) (.tmp 11) ?_); refine wpList_store_own rfl 2 (.tmp 12) (.tmp 11) rfl w.heap.size 54 b 4 4 (stripC ⟨n0, 0, 0, 0⟩) 1 1 ⟨.int .i64 n1, rfl⟩ rfl rfl rfl (by kernel_rfl) rfl V.out (by show 1 < 4; omega) ?_; intro wv hV hgv; replace hV : Own w.heap.size wv 54 (.slice (some ⟨b, 0, none⟩) 4 4) (stripC ⟨n0, n1, 0, 0⟩) := hV; replace D := Lib.hid (D.out.set 0 rfl hV hgv (Or.inl rfl)); clear hV hgv)
  clear V hz0
  refine (pick_c g (M + 2) 30 wv (D.out.src.less (by omega)) (by omega) (by omega)).mono ?_
  rintro e w5 ⟨n2, rfl, p20, p21, hS2, hg2⟩
  replace D := Lib.hid (D.out.drew hS2 hg2)
  clear hS2 hg2
  have hr2 : 0 ≤ n2 ∧ n2 ≤ 29 := by omega
  clear p20 p21
  have V := Lib.hid (D.out.get 0 rfl : Own _ _ _ _ (stripC ⟨n0, n1, 0, 0⟩))
  go_wp2_with ((with_reducible refine at_st 2 (.tmp 15) (.tmp 14) ?_); refine wpList_store_own rfl 2 (.tmp 15) (.tmp 14) rfl w.heap.size 54 b 4 4 (stripC ⟨n0, n1, 0, 0⟩) 2 2 ⟨.int .i64 n2, rfl⟩ rfl rfl rfl (by kernel_rfl) rfl V.out (by show 2 < 4; omega) ?_; intro wv2 hV hgv; replace hV : Own w.heap.size wv2 54 (.slice (some ⟨b, 0, none⟩) 4 4) (stripC ⟨n0, n1, n2, 0⟩) := hV; replace D := Lib.hid (D.out.set 0 rfl hV hgv (Or.inl rfl)); clear hV hgv)
  clear V
  refine (pick_c g M 30 wv2 (D.out.src.less (by omega)) (by omega) (by omega)).mono ?_
  rintro e w6 ⟨n3, rfl, p20, p21, hS2, hg2⟩
  replace D := Lib.hid (D.out.drew hS2 hg2)
  clear hS2 hg2
  have hr3 : 0 ≤ n3 ∧ n3 ≤ 29 := by omega
  clear p20 p21
  have V := Lib.hid (D.out.get 0 rfl : Own _ _ _ _ (stripC ⟨n0, n1, n2, 0⟩))
  go_wp2_with (first | ((with_reducible refine at_st 2 (.tmp 18) (.tmp 17) ?_); refine wpList_store_own rfl 2 (.tmp 18) (.tmp 17) rfl w.heap.size 54 b 4 4 (stripC ⟨n0, n1, n2, 0⟩) 3 3 ⟨.int .i64 n3, rfl⟩ rfl rfl rfl (by kernel_rfl) rfl V.out (by show 3 < 4; omega) ?_; intro wv3 hV hgv; replace hV : Own w.heap.size wv3 54 (.slice (some ⟨b, 0, none⟩) 4 4) (stripC ⟨n0, n1, n2, n3⟩) := hV; replace D := Lib.hid (D.out.set 0 rfl hV hgv (Or.inl rfl)); clear hV hgv; obtain ⟨x0, x1, x2, x3⟩ := stripC_cells (D.out.get 0 rfl); have R := Lib.hid (D.out.get 1 rfl : Own _ _ _ _ [(⟨0, 0, 0, 0⟩ : Strip)])) | ((with_reducible refine at_st 54 (.tmp 2) (.tmp 19) ?_); refine wpList_store_own rfl 54 (.tmp 2) (.tmp 19) rfl w.heap.size 54 _ 1 1 [(⟨0, 0, 0, 0⟩ : Strip)] 0 _ (⟨n0, n1, n2, n3⟩ : Strip) rfl rfl rfl (by kernel_rfl) rfl R.out (by simp) ?_; intro wz hRz hgz))
  have Dz := D.out.set 1 rfl hRz hgz (Or.inl rfl)
  obtain ⟨q0, q1, q2, q3⟩ := strip_cell4 hRz
  refine bodyPost_ret (v := .agg #[.int .i64 n0, .int .i64 n1, .int .i64 n2, .int .i64 n3]) (by simp [results, Tryz.results120, go_sem, q0, q1, q2, q3]) rfl ?_
  exact ⟨⟨n0, n1, n2, n3⟩, rfl, ⟨hr0, hr1, hr2, hr3⟩, Dz.src, Dz.up⟩
set_option maxRecDepth 100000 in
set_option maxHeartbeats 2000000 in
theorem l09Draw_c (g M : Nat) (w : World) (hS : SrcAt w g (M + 50)) :
    Calls Tryz.prog 132 #[.pointer (some ⟨g, 0, none⟩)] w fun e w' => ∃ (v : Value) (xs : List Strip), e = .returned v ∧ (3 ≤ xs.length ∧ xs.length ≤ 6) ∧ (∀ x ∈ xs, DrawnS x) ∧ Own w.heap.size w' 54 v xs ∧ SrcAt w' g M ∧ w.grownBy w' (some g) := by
  have hgl := hS.lt
  obtain ⟨w1, hw1⟩ : ∃ w1, w1 = w.alloc (.cells #[] 54) := ⟨_, rfl⟩
  have D := (Dr.start hS).alloc 54 #[] ([] : List Strip) rfl (by simp)
  rw [← hw1] at D
  simp only [List.length_nil] at D
  replace D := Lib.hid D
  replace hw1 := Lib.hid hw1
  clear hS
  go_enter Tryz.func132, Tryz.ntmps132
  go_wp2_with (rw [← hw1.out])
  refine (pick_c g (M + 48) 4 w1 (D.out.src.less (by omega)) (by omega) (by omega)).mono ?_
  rintro e w2 ⟨v, rfl, v0, v1, hS2, hg2⟩
  replace D := Lib.hid (D.out.drew hS2 hg2)
  clear hS2 hg2 hw1
  obtain ⟨T, hT⟩ : ∃ T : Nat, 3 + v = T := ⟨(3 + v).toNat, by omega⟩
  have hT3 : 3 ≤ T ∧ T ≤ 6 := by omega
  have h3w : IntKind.i64.wrap (3 + v) = (T : Int) := by rw [hT]; exact IntWalk.i64_in _ (by omega)
  go_wp2_with fail
  try rw [h3w]
  clear h3w
  go_loopw [3, 4] (fun ov i wr => ∃ (q : Nat) (xs : List Strip) (xa : Option Addr) (xc : Nat), i = .int .i64 q ∧ ov = .slice xa xs.length xc ∧ q + xs.length = T ∧ Hid (∀ x ∈ xs, DrawnS x) ∧ Hid (Dr w wr g (M + 8 * q) [ite' 54 (.slice xa xs.length xc) xs])) (fun _ i _ => (intOf i).toNat)
  case atStart => exact ⟨T, [], _, 0, by first | rfl | (rw [← hT]), rfl, by simp, Lib.hid (fun x hx => by simp at hx), Lib.hid (D.out.less (by omega))⟩
  case round =>
    clear D hT v0 v1
    obtain ⟨q, xs, xa, xc, rfl, rfl, hq, hxs, D⟩ := hrel
    obtain ⟨wo, hwo⟩ : ∃ wo : World, wo = wr := ⟨_, rfl⟩
    subst hwo
    cases q with
    | zero =>
      go_wp2_with fail
      go_ret
      exact ⟨_, xs, rfl, by omega, hxs.out, D.out.get 0 rfl, D.out.src.less (by omega), D.out.up⟩
    | succ q =>
      have hq6 : q ≤ 6 := by omega
      have hq1 : ((q + 1 : Nat) : Int) - 1 = q := by omega
      have hel : xs.length + 1 ≤ 4294967296 := by omega
      replace hq := Lib.hid hq
      go_wp2_with fail
      refine (l09New_c g (M + 8 * q) wo (D.out.src.less (by omega))).mono ?_
      rintro e wp ⟨x, rfl, hx, hS6, hg6⟩
      replace D := Lib.hid (D.out.drew hS6 hg6)
      clear hS6 hg6
      obtain ⟨wt, hwt⟩ : ∃ wt, wt = wp.alloc (.cells #[.int .i64 x.Length, .int .i64 x.Allow, .int .i64 x.Left, .int .i64 x.Right] 54) := ⟨_, rfl⟩
      have htmp : wt.heap[wp.heap.size]? = some (.cells (Flat.el x).toArray 54 (0, 0)) := by rw [hwt]; exact heap_alloc_new _ _
      replace D := Lib.hid (D.out.later (w' := wt) (by rw [hwt]; exact newB _ _))
      have hBw : w.heap.size ≤ wt.heap.size := D.out.up.size
      have hrw := (D.out.get 0 rfl : Own _ _ _ _ xs)
      replace hwt := Lib.hid hwt
      go_wp2_with (first | rw [← hwt.out] | (at_builtin; refine wpList_pushTo rfl (.tmp 13) (.tmp 16) 41 rfl w.heap.size 54 _ 32 Tryz.underlying41 infoStrip rfl _ xs x rfl hrw wp.heap.size 1 rfl 54 htmp hel (by decide) hBw ?_; intro g' cap w7 hO7 hg7 hl7))
      have D7 := Lib.hid (D.out.push 0 rfl hO7 hg7 hl7)
      have hxs2 : Hid (∀ y ∈ xs ++ [x], DrawnS y) := Lib.hid fun y hy => by
        rcases List.mem_append.1 hy with hy | hy
        · exact hxs.out y hy
        · obtain rfl := List.mem_singleton.1 hy; exact hx
      have hq2 : q + (xs ++ [x]).length = T := by have := hq.out; simp; omega
      clear hO7 hg7 hl7 hx
      go_roundw
      case rel => exact ⟨q, xs ++ [x], some ⟨g', 0, none⟩, cap, by first | rfl | (rw [← hq1]; rfl) | go_num, by simp, hq2, hxs2, Lib.hid (by have h := D7.out; simpa using h)⟩
      case measure => simp [intOf]
end Go.Proofs.YtledlkggggpdpaaGreatDoor
