/- The middle of the feet that are not far: the program. -/
import Derived.Test.YtlaclknhenccdaaMid5
namespace Go.Proofs.Ytlaclknhenccdaa
open Go.RowKit

/-- The other rows, behind a change of the first. -/
theorem Sp.other {w0 w w' : World} {i : Item} {is : List Item} (h : Sp w0 w (i :: is)) (hg : w.grownBy w' i.v.ownBlock) : Sp w0 w' is := by
  have ha := List.pairwise_cons.1 h.sep.apart
  refine ⟨⟨fun j hj => (h.sep.own j (List.mem_cons_of_mem _ hj)).kept hg (ha.1 j hj).symm, ha.2⟩, ?_⟩
  exact h.up.grown hg h.up.size (fun j hj => ((h.sep.own i (by simp)).lt j hj).1)
def nearL (fs : List Foot) (g : Foot) (m : Int) : List Foot := fs.filter fun f => !farB f g m
def joinF' (fs : List Foot) (m : Int) : Foot := if (nearL fs (midFoot fs) m).length = 0 then ⟨0, 0, 0, 0⟩ else midFoot (nearL fs (midFoot fs) m)
def joinC (fs : List Foot) (m : Int) : Int := if (nearL fs (midFoot fs) m).length = 0 then 9 else 0
set_option maxHeartbeats 1600000 in
theorem joinFeet_ok (a : Option Addr) (fs : List Foot) (c : Nat) (m : Int) (w : World) (hx : At w a fs) (hl : fs.length ≤ 30) (hn : 0 < fs.length) (hv : ∀ f ∈ fs, okFoot f = true) (hm : 0 ≤ m ∧ m ≤ 5000) :
    Calls Try.prog 42 #[.slice a fs.length c, .int .i64 m] w fun e w' => e = .returned (.tuple #[.agg #[.int .i64 (joinF' fs m).Length, .int .i64 (joinF' fs m).Ball, .int .i64 (joinF' fs m).Instep, .int .i64 (joinF' fs m).Heel], .int .i64 (joinC fs m)]) ∧ Below w.heap.size w w' := by
  have hC1 := Lib.hid (fun w' h => feetCode_ok a fs c m w' h hl hn hv hm)
  have hC := Lib.hid (fun w' h => middleFoot_c a fs c w' h (by omega) hn)
  have hgo := mid_ok hv hn
  have hnl := Lib.hid (show ∀ g, (nearL fs g m).length ≤ fs.length from fun g => List.length_filter_le _ _)
  have hnv := Lib.hid (show ∀ g, ∀ f ∈ nearL fs g m, okFoot f = true from fun g f hf => hv f (List.mem_filter.1 hf).1)
  unfold joinF' joinC
  obtain ⟨g, hg⟩ : ∃ g, g = midFoot fs := ⟨_, rfl⟩
  rw [← hg] at hC hgo ⊢
  clear hg
  obtain ⟨N, hN⟩ : ∃ N, N = nearL fs g m := ⟨_, rfl⟩
  have hNl := hnl.out g
  have hNv := Lib.hid (hnv.out g)
  rw [← hN] at hNl hNv ⊢
  have hNe := Lib.hid (show fs.filter (fun x => !(fun f => farB f g m) x) = N from hN.symm)
  clear hnl hnv hN
  replace hv := Lib.hid hv
  replace hgo := Lib.hid hgo
  obtain ⟨w1, hw1⟩ : ∃ w1, w1 = w.alloc (.cells #[.int .i64 m] 2) := ⟨_, rfl⟩
  have D := (Sp.refl w).alloc 2 #[.int .i64 m] [m] rfl (by simp)
  rw [← hw1] at D
  obtain ⟨w2, hw2⟩ : ∃ w2, w2 = w1.alloc (.cells #[.int .i64 0, .int .i64 0, .int .i64 0, .int .i64 0] 62) := ⟨_, rfl⟩
  have D2 := D.alloc 62 #[.int .i64 0, .int .i64 0, .int .i64 0, .int .i64 0] [(⟨0, 0, 0, 0⟩ : Foot)] rfl (by simp)
  rw [← hw2] at D2
  clear D
  simp only [List.length_singleton] at D2
  have hb := D2.up
  have z0 := (D2.get 1 rfl).at'.int (i := 0) (by simp)
  simp only [List.getElem_cons_zero, Nat.add_zero] at z0
  replace D := Lib.hid D2
  replace hw1 := Lib.hid hw1
  replace hw2 := Lib.hid hw2
  clear D2
  obtain ⟨n1, hn1⟩ : ∃ n1, n1 = w1.heap.size := ⟨_, rfl⟩
  rw [← hn1] at D
  go_enter Try.func42, Try.ntmps42
  go_wp2_with (first | rw [← hw1.out] | rw [← hw2.out])
  rw [← hn1]
  refine (hC1.out _ (hx.below hb)).mono ?_
  rintro e w3 ⟨rfl, hb3⟩
  replace D := Lib.hid (D.out.later hb3)
  replace hb := upw hb hb3
  clear hn1 hw1 hw2 z0 hb3
  go_wp2_with fail
  refine (hC.out _ (hx.below hb)).mono ?_
  rintro e w4 ⟨rfl, hb4⟩
  obtain ⟨w5, hw5⟩ : ∃ w5, w5 = w4.alloc (.cells #[.int .i64 g.Length, .int .i64 g.Ball, .int .i64 g.Instep, .int .i64 g.Heel] 62) := ⟨_, rfl⟩
  have hb5 : Below w4.heap.size w4 w5 := by rw [hw5]; exact newB _ _
  have V : Own w4.heap.size w5 62 (.slice (some ⟨w4.heap.size, 0, none⟩) 4 4) (footC g) := by rw [hw5]; exact own_footC w4 _ g
  replace D := Lib.hid ((D.out.later hb4).add hb5 V)
  replace hb := upw hb (upw hb4 hb5)
  replace hw5 := Lib.hid hw5
  obtain ⟨n4, hn4⟩ : ∃ n4, n4 = w4.heap.size := ⟨_, rfl⟩
  rw [← hn4] at D
  clear hb4 hb5 V
  go_wp2_with (rw [← hw5.out])
  rw [← hn4]
  clear hn4 hw5
  refine (cloneFoots_any a fs c w5 (hx.below hb) (by omega) (fun e => by obtain ⟨b, o, h⟩ := hx.addr hn; rw [h] at e; cases e)).mono ?_
  rintro e w6 ⟨v6, rfl, hO6, hb6⟩
  obtain ⟨gc, cap, rfl⟩ := hO6.row hn
  replace D := Lib.hid (D.out.add hb6 hO6)
  replace hb := upw hb hb6
  clear hO6 hb6
  have hDel := Lib.hid (deleteFeet_any w.heap.size gc fs.length cap fs 108 #[.pointer (some ⟨n4, 0, none⟩), .pointer (some ⟨w.heap.size, 0, none⟩)] (fun f => farB f g m) w6 join1_enters (D.out.get 0 rfl) rfl (by omega) (fun x hxm w' hgw => by
    have E := D.out.other hgw
    obtain ⟨y0, y1, y2, y3⟩ := footC_cells (E.get 0 rfl)
    have y4 := (E.get 2 rfl).at'.int (i := 0) (by simp)
    simp only [List.getElem_cons_zero, Nat.add_zero] at y4
    exact join1_c x g m _ _ w' (hv.out x hxm) hgo.out y0 y1 y2 y3 y4))
  rw [hNe.out] at hDel
  go_wp2_with fail
  refine hDel.out.mono ?_
  rintro e w7 ⟨m7, rfl, hm7, hA7, hg7⟩
  replace D := Lib.hid (D.out.other hg7)
  clear hDel hg7 hNe
  subst hm7
  by_cases h0 : N.length = 0
  · have h0' : ((N.length : Int) == 0) = true := by simp [h0]
    replace h0 := Lib.hid h0
    go_wp2_with ((with_reducible refine at_st 62 (.tmp 4) (.tmp 25) ?_); refine wpList_store_own rfl 62 (.tmp 4) (.tmp 25) rfl w.heap.size 62 _ 1 1 [(⟨0, 0, 0, 0⟩ : Foot)] 0 _ (⟨0, 0, 0, 0⟩ : Foot) rfl rfl rfl (by kernel_rfl) rfl (D.out.get 1 rfl) (by simp) ?_; intro wz hRz hgz)
    have Dz := Lib.hid (D.out.set 1 rfl hRz hgz (Or.inl rfl))
    obtain ⟨q0, q1, q2, q3⟩ := foot1_cells (Dz.out.get 1 rfl)
    refine bodyPost_ret (v := .tuple #[.agg #[.int .i64 0, .int .i64 0, .int .i64 0, .int .i64 0], .int .i64 9]) (by simp [results, Try.results42, go_sem, q0, q1, q2, q3]) rfl ?_
    exact ⟨rfl, Dz.out.up⟩
  · have h0' : ((N.length : Int) == 0) = false := beq_eq_false_iff_ne.2 (by omega)
    have hM := Lib.hid (middleFoot_c (some ⟨gc, 0, none⟩) N cap w7 hA7 (by omega) (by omega))
    replace h0 := Lib.hid h0
    obtain ⟨F, hF⟩ : ∃ F, F = midFoot N := ⟨_, rfl⟩
    rw [← hF] at hM
    replace hF := Lib.hid hF
    go_wp2_with fail
    refine hM.out.mono ?_
    rintro e w8 ⟨rfl, hb8⟩
    replace D := Lib.hid (D.out.later hb8)
    go_wp2_with ((with_reducible refine at_st 62 (.tmp 4) (.tmp 27) ?_); refine wpList_store_own rfl 62 (.tmp 4) (.tmp 27) rfl w.heap.size 62 _ 1 1 [(⟨0, 0, 0, 0⟩ : Foot)] 0 _ F rfl rfl rfl (by kernel_rfl) rfl (D.out.get 1 rfl) (by simp) ?_; intro wz hRz hgz)
    have Dz := Lib.hid (D.out.set 1 rfl hRz hgz (Or.inl rfl))
    obtain ⟨q0, q1, q2, q3⟩ := foot1_cells (Dz.out.get 1 rfl)
    refine bodyPost_ret (v := .tuple #[.agg #[.int .i64 F.Length, .int .i64 F.Ball, .int .i64 F.Instep, .int .i64 F.Heel], .int .i64 0]) (by simp [results, Try.results42, go_sem, q0, q1, q2, q3]) rfl ?_
    exact ⟨by rw [hF.out], Dz.out.up⟩
end Go.Proofs.Ytlaclknhenccdaa
