/- Chapter 8, patterns: the program joins two classes. -/
import Derived.Test.YtlmhiocmldhkhaaP08c
import Derived.Deep.RegionHeld3
namespace Go.Proofs.Ytlmhiocmldhkhaa
open Go.RowKit

variable {wr w' : World} {bm be r g n c B : Nat} {l : List Edge}
theorem look_rg {w : World} {r : Nat} {l : List Edge} {g : Edge → Edge} (h : MapAt ev w r (clsL l g)) {e : Edge} (he : e ∈ l) :
    ∀ q : Regrown, (Instr.lookup 95 (.map (some r)) (.agg #[.int .i64 e.piece, .int .i64 e.number]) false).run Try.prog (Go.Sort.grow (redrawn w q.d) q.os) = .ok (.agg #[.int .i64 (g e).piece, .int .i64 (g e).number]) (Go.Sort.grow (redrawn w q.d) q.os) :=
  fun q => look_cls (h.below (grown_of ⟨q, rfl⟩)) he
section
attribute [local go_sem ↓] edge_eql
set_option maxRecDepth 100000 in
set_option maxHeartbeats 6400000 in
theorem corners1_c (p : Pattern) (ok : Okp p) (f : Nat → Nat) (bm be r g n c B : Nat) (a b : Edge) (w : World) (hC : Cl w bm be r g n c B (clsL (edgesOf p) (clsOf f)) (edgesOf p)) (ha : hasEdge p a = true) (hb : hasEdge p b = true) :
    Calls Try.prog 88 #[.agg #[.int .i64 a.piece, .int .i64 a.number], .agg #[.int .i64 b.piece, .int .i64 b.number], .pointer (some ⟨bm, 0, none⟩), .pointer (some ⟨be, 0, none⟩)] w fun en w' => en = .returned (.tuple #[]) ∧ Cl w' bm be r g n c B (clsL (edgesOf p) (clsOf (relab f (code a) (code b)))) (edgesOf p) ∧ w.grownBy w' (some r) := by
  have hae := mem_edges.2 ha
  have hbe := mem_edges.2 hb
  have hel := Lib.hid (edges_length ok)
  replace ok := Lib.hid ok
  obtain ⟨w1, hw1⟩ : ∃ w1, w1 = (w.alloc (.cells #[.int .i64 a.piece, .int .i64 a.number] 98)).alloc (.cells #[.int .i64 b.piece, .int .i64 b.number] 98) := ⟨_, rfl⟩
  have hb1 : Below w.heap.size w w1 := by rw [hw1]; exact upw (new_below _ _) (new_below _ _)
  have VA : Var w1 w.heap.size [.int .i64 a.piece, .int .i64 a.number] := by rw [hw1]; exact (Var.new2 _ _ _ _).below (new_below _ _)
  have VB : Var w1 (w.heap.size + 1) [.int .i64 b.piece, .int .i64 b.number] := by
    rw [hw1, show w.heap.size + 1 = (w.alloc (.cells #[.int .i64 a.piece, .int .i64 a.number] 98)).heap.size by simp]; exact Var.new2 _ _ _ _
  have hg1 := Lib.hid (grown_by hb1 (some r))
  have C1 := hC.below hb1
  have m0 := C1.mp.cell 0 _ rfl
  have a0 := VA.cell 0 _ rfl
  have a1 := VA.cell 1 _ rfl
  have b0 := VB.cell 0 _ rfl
  have b1 := VB.cell 1 _ rfl
  have la := look_cls (C1.don.below (Below.refl _ _).drew) hae
  have lb := look_cls (C1.don.below (Below.refl _ _).drew) hbe
  have LA := Lib.hid (fun w' (h : Below w1.heap.size w1 w') => look_cls (C1.don.below h) hae)
  have LB := Lib.hid (fun w' (h : Below w1.heap.size w1 w') => look_cls (C1.don.below h) hbe)
  obtain ⟨x, hx⟩ : ∃ x, x = clsOf f a := ⟨_, rfl⟩
  obtain ⟨y, hy⟩ : ∃ y, y = clsOf f b := ⟨_, rfl⟩
  rw [← hx] at la LA
  rw [← hy] at lb LB
  have HW1 := Lib.hid hw1
  replace hx := Lib.hid hx
  replace hy := Lib.hid hy
  replace C1 := Lib.hid C1
  replace hC := Lib.hid hC
  replace hae := Lib.hid hae
  replace hbe := Lib.hid hbe
  clear hw1 VA VB hb1 ha hb
  go_enter Try.func88, Try.ntmps88
  go_wp2_with fail
  rw [← HW1.out]
  refine wp_region_held_drew (S := (fun w' => w'.cell? ⟨bm, 0, none⟩ = some (.map (some r)) ∧ w'.cell? ⟨w.heap.size, 0, none⟩ = some (.int .i64 a.piece) ∧ w'.cell? ⟨w.heap.size, 1, none⟩ = some (.int .i64 a.number) ∧ w'.cell? ⟨w.heap.size + 1, 0, none⟩ = some (.int .i64 b.piece) ∧ w'.cell? ⟨w.heap.size + 1, 1, none⟩ = some (.int .i64 b.number) ∧ (Instr.lookup 95 (.map (some r)) (.agg #[.int .i64 a.piece, .int .i64 a.number]) false).run Try.prog w' = .ok (.agg #[.int .i64 x.piece, .int .i64 x.number]) w' ∧ (Instr.lookup 95 (.map (some r)) (.agg #[.int .i64 b.piece, .int .i64 b.number]) false).run Try.prog w' = .ok (.agg #[.int .i64 y.piece, .int .i64 y.number]) w')) (by kernel_rfl) ⟨m0, a0, a1, b0, b1, la, lb⟩ (fun hHeld => ?_)
  refine wpAnyH_take (i := 0) (v := _) rfl (by kernel_rfl) (by kernel_rfl) (by kernel_rfl) (fun _ _ _ h => h) (Or.inl ⟨by rfl, (by intro w hSw; (try dsimp only at hSw); go_simp; try with_reducible rfl)⟩) (by assumption) ?_
  go_simp
  refine wpAnyH_take (i := 1) (v := _) rfl (by kernel_rfl) (by kernel_rfl) (by kernel_rfl) (fun _ _ _ h => h) (Or.inl ⟨by rfl, (by intro w hSw; (try dsimp only at hSw); go_simp; try with_reducible rfl)⟩) (by assumption) ?_
  go_simp
  refine wpAnyH_take (i := 2) (v := _) rfl (by kernel_rfl) (by kernel_rfl) (by kernel_rfl) (fun _ _ _ h => h) (Or.inl ⟨by rfl, (by intro w hSw; (try dsimp only at hSw); go_simp; try with_reducible rfl)⟩) (by assumption) ?_
  go_simp
  refine wpAnyH_take (i := 3) (v := _) rfl (by kernel_rfl) (by kernel_rfl) (by kernel_rfl) (fun _ _ _ h => h) (Or.inl ⟨by rfl, (by intro w hSw; (try dsimp only at hSw); go_simp; try with_reducible rfl)⟩) (by assumption) ?_
  go_simp
  refine wpAnyH_take (i := 4) (v := _) rfl (by kernel_rfl) (by kernel_rfl) (by kernel_rfl) (fun _ _ _ h => h) (Or.inl ⟨by rfl, (by intro w hSw; (try dsimp only at hSw); go_simp; try with_reducible rfl)⟩) (by assumption) ?_
  go_simp
  refine wpAnyH_take (i := 5) (v := _) rfl (by kernel_rfl) (by kernel_rfl) (by kernel_rfl) (fun _ _ _ h => h) (Or.inl ⟨by rfl, (by intro w hSw; (try dsimp only at hSw); go_simp; try with_reducible rfl)⟩) (by assumption) ?_
  go_simp
  refine wpAnyH_ready (rs := [6, 7]) (by kernel_rfl) (by simp) ?_
  refine AllReadyH.cons rfl (fun K hK => ?_) (AllReadyH.cons rfl (fun K hK => ?_) AllReadyH.nil)
  · go_simp
    refine hK.out _ _ (by exact ⟨kept_cell m0 (show Below w1.heap.size w1 _ from (new_below _ _).drew), kept_cell a0 (show Below w1.heap.size w1 _ from (new_below _ _).drew), kept_cell a1 (show Below w1.heap.size w1 _ from (new_below _ _).drew), kept_cell b0 (show Below w1.heap.size w1 _ from (new_below _ _).drew), kept_cell b1 (show Below w1.heap.size w1 _ from (new_below _ _).drew), LA.out _ (show Below w1.heap.size w1 _ from (new_below _ _).drew), LB.out _ (show Below w1.heap.size w1 _ from (new_below _ _).drew)⟩) (fun hHeld => ?_)
    clear hK K
    go_simp
    refine wpAnyH_ready (rs := [7]) (by kernel_rfl) (by simp) ?_
    refine AllReadyH.cons rfl (fun K hK => ?_) AllReadyH.nil
    go_simp
    refine hK.out _ _ (by exact ⟨kept_cell m0 (show Below w1.heap.size w1 _ from (upw (new_below _ _) (new_below _ _)).drew), kept_cell a0 (show Below w1.heap.size w1 _ from (upw (new_below _ _) (new_below _ _)).drew), kept_cell a1 (show Below w1.heap.size w1 _ from (upw (new_below _ _) (new_below _ _)).drew), kept_cell b0 (show Below w1.heap.size w1 _ from (upw (new_below _ _) (new_below _ _)).drew), kept_cell b1 (show Below w1.heap.size w1 _ from (upw (new_below _ _) (new_below _ _)).drew), LA.out _ (show Below w1.heap.size w1 _ from (upw (new_below _ _) (new_below _ _)).drew), LB.out _ (show Below w1.heap.size w1 _ from (upw (new_below _ _) (new_below _ _)).drew)⟩) (fun hHeld => ?_)
    clear hK K
    go_simp
    refine wpAnyH_ready (rs := [8]) (by kernel_rfl) (by simp) ?_
    refine AllReadyH.cons rfl (fun K hK => ?_) AllReadyH.nil
    go_simp
    refine hK.out _ _ (by exact ⟨kept_cell m0 (show Below w1.heap.size w1 _ from (upw (new_below _ _) (new_below _ _)).drew), kept_cell a0 (show Below w1.heap.size w1 _ from (upw (new_below _ _) (new_below _ _)).drew), kept_cell a1 (show Below w1.heap.size w1 _ from (upw (new_below _ _) (new_below _ _)).drew), kept_cell b0 (show Below w1.heap.size w1 _ from (upw (new_below _ _) (new_below _ _)).drew), kept_cell b1 (show Below w1.heap.size w1 _ from (upw (new_below _ _) (new_below _ _)).drew), LA.out _ (show Below w1.heap.size w1 _ from (upw (new_below _ _) (new_below _ _)).drew), LB.out _ (show Below w1.heap.size w1 _ from (upw (new_below _ _) (new_below _ _)).drew)⟩) (fun hHeld => ?_)
    clear hK K
    go_simp
    refine wpAnyH_ready (rs := [9]) (by kernel_rfl) (by simp) ?_
    refine AllReadyH.cons rfl (fun K hK => ?_) AllReadyH.nil
    go_simp
    refine hK.out _ _ (by exact ⟨kept_cell m0 (show Below w1.heap.size w1 _ from (upw (new_below _ _) (new_below _ _)).drew), kept_cell a0 (show Below w1.heap.size w1 _ from (upw (new_below _ _) (new_below _ _)).drew), kept_cell a1 (show Below w1.heap.size w1 _ from (upw (new_below _ _) (new_below _ _)).drew), kept_cell b0 (show Below w1.heap.size w1 _ from (upw (new_below _ _) (new_below _ _)).drew), kept_cell b1 (show Below w1.heap.size w1 _ from (upw (new_below _ _) (new_below _ _)).drew), LA.out _ (show Below w1.heap.size w1 _ from (upw (new_below _ _) (new_below _ _)).drew), LB.out _ (show Below w1.heap.size w1 _ from (upw (new_below _ _) (new_below _ _)).drew)⟩) (fun hHeld => ?_)
    clear hK K
    go_simp
    refine wpAnyH_done (by kernel_rfl) ?_ _
    obtain ⟨w2, hw2⟩ : ∃ w2, w2 = ((w1.alloc (.cells #[.int .i64 x.piece, .int .i64 x.number] 98)).alloc (.cells #[.int .i64 y.piece, .int .i64 y.number] 98)).drew := ⟨_, rfl⟩
    have hb2 : Below w1.heap.size w1 w2 := by rw [hw2]; exact (upw (new_below _ _) (new_below _ _)).drew
    have Vx : Var w2 w1.heap.size [.int .i64 x.piece, .int .i64 x.number] := by rw [hw2]; exact (Var.below (Var.new2 _ _ _ _) (new_below _ _)).below (Below.refl _ _).drew
    have Vy : Var w2 (w1.heap.size + 1) [.int .i64 y.piece, .int .i64 y.number] := by
      have e1 : (w1.alloc (.cells #[.int .i64 x.piece, .int .i64 x.number] 98)).heap.size = w1.heap.size + 1 := by simp
      rw [hw2, ← e1]; exact (Var.new2 _ _ _ _).below (Below.refl _ _).drew
    rw [← hw2]
    have C2 := Lib.hid (C1.out.below hb2)
    have hG2 := Lib.hid (grownBy_trans hg1.out (grown_by hb2 (some r)))
    have hrl := C1.out.don.lt
    have n6 : some w1.heap.size ≠ some r := some_ne (by omega)
    have n7 : some (w1.heap.size + 1) ≠ some r := some_ne (by omega)
    have e0 := C2.out.ed.cell 0 _ rfl
    have HN := Lib.hid C2.out.len
    have hnl : n ≤ 80 := by rw [HN.out]; exact hel.out
    replace Vx := Lib.hid Vx
    replace Vy := Lib.hid Vy
    obtain ⟨q6, hq6⟩ : ∃ q, q = w1.heap.size := ⟨_, rfl⟩
    obtain ⟨q7, hq7⟩ : ∃ q, q = (w1.heap.size + 1) := ⟨_, rfl⟩
    rw [← hq7] at n7 Vy ⊢
    rw [← hq6] at n6 Vx ⊢
    have s0 : Hid ((edgesOf p).Nodup) := Lib.hid (edges_nodup p)
    have Z : Hid (Cl w2 bm be r g n c B (clsL (edgesOf p) (part (edgesOf p) 0 (clsOf (relab f (code a) (code b))) (clsOf f))) (edgesOf p)) := Lib.hid (by rw [part_zero]; exact C2.out)
    clear hw2 hb2 hHeld m0 a0 a1 b0 b1 la lb hrl hq6 hq7
    go_wp2_with fail
    clear e0
    go_loopw [9, 18] (fun _ i wr => ∃ k : Nat, k ≤ n ∧ i = .int .i64 k ∧ Hid (Cl wr bm be r g n c B (clsL (edgesOf p) (part (edgesOf p) k (clsOf (relab f (code a) (code b))) (clsOf f))) (edgesOf p)) ∧ Hid (Var wr q6 [.int .i64 x.piece, .int .i64 x.number]) ∧ Hid (Var wr q7 [.int .i64 y.piece, .int .i64 y.number]) ∧ Hid (w.grownBy wr (some r))) (fun _ i _ => n - (intOf i).toNat)
    case atStart => exact ⟨0, Nat.zero_le _, rfl, Z, Vx, Vy, hG2⟩
    case round =>
      clear Z Vx Vy hG2 C2
      obtain ⟨k, hk, rfl, hC, Vx, Vy, hG⟩ := hrel
      by_cases hlt : k < n
      · have hke : k < (edgesOf p).length := by rw [← HN.out]; exact hlt
        obtain ⟨c0, c1⟩ := hC.out.own.edge hke
        simp only [Nat.zero_add] at c0 c1
        obtain ⟨e, he⟩ : ∃ e, e = (edgesOf p)[k] := ⟨_, rfl⟩
        have hem : Hid (e ∈ edgesOf p) := Lib.hid (by rw [he]; exact List.getElem_mem _)
        have hat : Hid (part (edgesOf p) k (clsOf (relab f (code a) (code b))) (clsOf f) e = clsOf f e) := Lib.hid (by rw [he]; exact part_at s0.out hke _ _)
        rw [← he] at c0 c1
        replace he := Lib.hid he
        have hb3 := new_below wr (.cells #[.int .i64 e.piece, .int .i64 e.number] 98)
        have VE := Var.new2 wr (.int .i64 e.piece) (.int .i64 e.number) 98
        have C3 := Lib.hid (hC.out.below hb3)
        have Vx3 := Lib.hid (Vx.out.below hb3)
        have Vy3 := Lib.hid (Vy.out.below hb3)
        have hG3 := grownBy_trans hG.out (grown_by hb3 (some r))
        have m0 := rg (C3.out.mp.cell 0 _ rfl)
        have d0 := rg (VE.cell 0 _ rfl)
        have d1 := rg (VE.cell 1 _ rfl)
        have x0 := rg (Vx3.out.cell 0 _ rfl)
        have x1 := rg (Vx3.out.cell 1 _ rfl)
        have lk := look_rg C3.out.don hem.out
        rw [hat.out] at lk
        obtain ⟨z, hz⟩ : ∃ z, z = clsOf f e := ⟨_, rfl⟩
        rw [← hz] at lk
        obtain ⟨w3, hw3⟩ : ∃ w3, w3 = wr.alloc (.cells #[.int .i64 e.piece, .int .i64 e.number] 98) := ⟨_, rfl⟩
        have hwz : wr.heap.size < w3.heap.size := by rw [hw3]; simp
        rw [← hw3] at C3 Vx3 Vy3 VE m0 d0 d1 x0 x1 lk hG3
        have HW3 := Lib.hid hw3
        replace VE := Lib.hid VE
        have hb : Below w3.heap.size w3 w3 := Below.refl _ _
        clear hw3 hb3
        have hrw : r < wr.heap.size := hC.out.don.lt
        go_wp2_with fail
        rw [← HW3.out]
        clear c0 c1
        by_cases hc : f (code e) = f (code a)
        · have hzx : z = x := by rw [hz, hx.out]; show dec (f (code e)) = dec (f (code a)); rw [hc]
          have hdec : (z == x) = true := by simpa using hzx
          have hng : Hid (y = clsOf (relab f (code a) (code b)) e) := Lib.hid (by rw [hy.out]; show dec (f (code b)) = dec (relab f (code a) (code b) (code e)); rw [relab_hit hc])
          have hput : Hid (putE (clsL (edgesOf p) (part (edgesOf p) k (clsOf (relab f (code a) (code b))) (clsOf f))) e y = clsL (edgesOf p) (part (edgesOf p) (k + 1) (clsOf (relab f (code a) (code b))) (clsOf f))) := Lib.hid (by
            rw [hng.out, he.out]; exact part_put s0.out hke _ _)
          replace hz := Lib.hid hz
          replace hzx := Lib.hid hzx
          replace hc := Lib.hid hc
          refine wp_region_quiet_below (by kernel_rfl) (by kernel_rfl) ?_
          repeat (go_big_quiet_step ((fail)))
          refine wpQuiet_nil ?_
          intro w2 hw'
          replace hb := upw hb (grown_of hw')
          have hw2 := grown_of hw'
          clear hw'
          have C4 := Lib.hid (C3.out.below hw2)
          have Vx4 := Lib.hid (Vx3.out.below hw2)
          have Vy4 := Lib.hid (Vy3.out.below hw2)
          have VE4 := Lib.hid (VE.out.below hw2)
          have hG4 := Lib.hid (grownBy_trans hG3 (grown_by hw2 (some r)))
          clear m0 d0 d1 x0 x1 lk hb hw2
          obtain ⟨wM, hrM, hMM, hgM⟩ := C4.out.don.update Try.underlying95 e y
          simp only [ek, ev] at hrM
          rw [hput.out] at hMM
          have C5 := Lib.hid (C4.out.mark hgM hMM)
          have Vx5 := Lib.hid (Vx4.out.grown hgM n6)
          have Vy5 := Lib.hid (Vy4.out.grown hgM n7)
          have hG5 := Lib.hid (grownBy_trans hG4.out hgM)
          have m0 := C4.out.mp.cell 0 _ rfl
          have d0 := VE4.out.cell 0 _ rfl
          have d1 := VE4.out.cell 1 _ rfl
          have y0 := Vy4.out.cell 0 _ rfl
          have y1 := Vy4.out.cell 1 _ rfl
          clear hgM hMM
          go_wp2_with fail
          go_roundw
          case rel => exact ⟨k + 1, by omega, by go_num, C5, Vx5, Vy5, hG5⟩
          case measure => simp [intOf]; omega
        · have hzx : ¬ z = x := fun h => hc (by
            rw [hz, hx.out] at h
            exact dec_inj h)
          have hdec : (z == x) = false := by simpa using hzx
          have hsame : Hid (clsL (edgesOf p) (part (edgesOf p) k (clsOf (relab f (code a) (code b))) (clsOf f)) = clsL (edgesOf p) (part (edgesOf p) (k + 1) (clsOf (relab f (code a) (code b))) (clsOf f))) := Lib.hid (part_same s0.out hke _ _ (by
            rw [← he.out]
            show dec (relab f (code a) (code b) (code e)) = dec (f (code e))
            rw [relab_miss hc]))
          rw [hsame.out] at C3
          replace hz := Lib.hid hz
          replace hzx := Lib.hid hzx
          replace hc := Lib.hid hc
          refine wp_region_quiet_below (by kernel_rfl) (by kernel_rfl) ?_
          repeat (go_big_quiet_step ((fail)))
          refine wpQuiet_nil ?_
          intro w2 hw'
          replace hb := upw hb (grown_of hw')
          have hw2 := grown_of hw'
          clear hw'
          have C4 := Lib.hid (C3.out.below hw2)
          have Vx4 := Lib.hid (Vx3.out.below hw2)
          have Vy4 := Lib.hid (Vy3.out.below hw2)
          have hG4 := Lib.hid (grownBy_trans hG3 (grown_by hw2 (some r)))
          clear m0 d0 d1 x0 x1 lk hb hw2
          go_wp2_with fail
          go_roundw
          case rel => exact ⟨k + 1, by omega, by go_num, C4, Vx4, Vy4, hG4⟩
          case measure => simp [intOf]; omega
      · obtain rfl : k = n := by omega
        have hfin : Hid (clsL (edgesOf p) (part (edgesOf p) k (clsOf (relab f (code a) (code b))) (clsOf f)) = clsL (edgesOf p) (clsOf (relab f (code a) (code b)))) := Lib.hid (part_all _ _ (by rw [HN.out]; exact Nat.le_refl _) _ _)
        rw [hfin.out] at hC
        go_wp2_with fail
        go_end0
        exact ⟨rfl, hC.out, hG.out⟩
  · go_simp
    refine hK.out _ _ (by exact ⟨kept_cell m0 (show Below w1.heap.size w1 _ from (new_below _ _).drew), kept_cell a0 (show Below w1.heap.size w1 _ from (new_below _ _).drew), kept_cell a1 (show Below w1.heap.size w1 _ from (new_below _ _).drew), kept_cell b0 (show Below w1.heap.size w1 _ from (new_below _ _).drew), kept_cell b1 (show Below w1.heap.size w1 _ from (new_below _ _).drew), LA.out _ (show Below w1.heap.size w1 _ from (new_below _ _).drew), LB.out _ (show Below w1.heap.size w1 _ from (new_below _ _).drew)⟩) (fun hHeld => ?_)
    clear hK K
    go_simp
    refine wpAnyH_ready (rs := [6]) (by kernel_rfl) (by simp) ?_
    refine AllReadyH.cons rfl (fun K hK => ?_) AllReadyH.nil
    go_simp
    refine hK.out _ _ (by exact ⟨kept_cell m0 (show Below w1.heap.size w1 _ from (upw (new_below _ _) (new_below _ _)).drew), kept_cell a0 (show Below w1.heap.size w1 _ from (upw (new_below _ _) (new_below _ _)).drew), kept_cell a1 (show Below w1.heap.size w1 _ from (upw (new_below _ _) (new_below _ _)).drew), kept_cell b0 (show Below w1.heap.size w1 _ from (upw (new_below _ _) (new_below _ _)).drew), kept_cell b1 (show Below w1.heap.size w1 _ from (upw (new_below _ _) (new_below _ _)).drew), LA.out _ (show Below w1.heap.size w1 _ from (upw (new_below _ _) (new_below _ _)).drew), LB.out _ (show Below w1.heap.size w1 _ from (upw (new_below _ _) (new_below _ _)).drew)⟩) (fun hHeld => ?_)
    clear hK K
    go_simp
    refine wpAnyH_ready (rs := [8]) (by kernel_rfl) (by simp) ?_
    refine AllReadyH.cons rfl (fun K hK => ?_) AllReadyH.nil
    go_simp
    refine hK.out _ _ (by exact ⟨kept_cell m0 (show Below w1.heap.size w1 _ from (upw (new_below _ _) (new_below _ _)).drew), kept_cell a0 (show Below w1.heap.size w1 _ from (upw (new_below _ _) (new_below _ _)).drew), kept_cell a1 (show Below w1.heap.size w1 _ from (upw (new_below _ _) (new_below _ _)).drew), kept_cell b0 (show Below w1.heap.size w1 _ from (upw (new_below _ _) (new_below _ _)).drew), kept_cell b1 (show Below w1.heap.size w1 _ from (upw (new_below _ _) (new_below _ _)).drew), LA.out _ (show Below w1.heap.size w1 _ from (upw (new_below _ _) (new_below _ _)).drew), LB.out _ (show Below w1.heap.size w1 _ from (upw (new_below _ _) (new_below _ _)).drew)⟩) (fun hHeld => ?_)
    clear hK K
    go_simp
    refine wpAnyH_ready (rs := [9]) (by kernel_rfl) (by simp) ?_
    refine AllReadyH.cons rfl (fun K hK => ?_) AllReadyH.nil
    go_simp
    refine hK.out _ _ (by exact ⟨kept_cell m0 (show Below w1.heap.size w1 _ from (upw (new_below _ _) (new_below _ _)).drew), kept_cell a0 (show Below w1.heap.size w1 _ from (upw (new_below _ _) (new_below _ _)).drew), kept_cell a1 (show Below w1.heap.size w1 _ from (upw (new_below _ _) (new_below _ _)).drew), kept_cell b0 (show Below w1.heap.size w1 _ from (upw (new_below _ _) (new_below _ _)).drew), kept_cell b1 (show Below w1.heap.size w1 _ from (upw (new_below _ _) (new_below _ _)).drew), LA.out _ (show Below w1.heap.size w1 _ from (upw (new_below _ _) (new_below _ _)).drew), LB.out _ (show Below w1.heap.size w1 _ from (upw (new_below _ _) (new_below _ _)).drew)⟩) (fun hHeld => ?_)
    clear hK K
    go_simp
    refine wpAnyH_done (by kernel_rfl) ?_ _
    obtain ⟨w2, hw2⟩ : ∃ w2, w2 = ((w1.alloc (.cells #[.int .i64 y.piece, .int .i64 y.number] 98)).alloc (.cells #[.int .i64 x.piece, .int .i64 x.number] 98)).drew := ⟨_, rfl⟩
    have hb2 : Below w1.heap.size w1 w2 := by rw [hw2]; exact (upw (new_below _ _) (new_below _ _)).drew
    have Vy : Var w2 w1.heap.size [.int .i64 y.piece, .int .i64 y.number] := by rw [hw2]; exact (Var.below (Var.new2 _ _ _ _) (new_below _ _)).below (Below.refl _ _).drew
    have Vx : Var w2 (w1.heap.size + 1) [.int .i64 x.piece, .int .i64 x.number] := by
      have e1 : (w1.alloc (.cells #[.int .i64 y.piece, .int .i64 y.number] 98)).heap.size = w1.heap.size + 1 := by simp
      rw [hw2, ← e1]; exact (Var.new2 _ _ _ _).below (Below.refl _ _).drew
    rw [← hw2]
    have C2 := Lib.hid (C1.out.below hb2)
    have hG2 := Lib.hid (grownBy_trans hg1.out (grown_by hb2 (some r)))
    have hrl := C1.out.don.lt
    have n6 : some (w1.heap.size + 1) ≠ some r := some_ne (by omega)
    have n7 : some w1.heap.size ≠ some r := some_ne (by omega)
    have e0 := C2.out.ed.cell 0 _ rfl
    have HN := Lib.hid C2.out.len
    have hnl : n ≤ 80 := by rw [HN.out]; exact hel.out
    replace Vx := Lib.hid Vx
    replace Vy := Lib.hid Vy
    obtain ⟨q6, hq6⟩ : ∃ q, q = (w1.heap.size + 1) := ⟨_, rfl⟩
    obtain ⟨q7, hq7⟩ : ∃ q, q = w1.heap.size := ⟨_, rfl⟩
    rw [← hq6] at n6 Vx ⊢
    rw [← hq7] at n7 Vy ⊢
    have s0 : Hid ((edgesOf p).Nodup) := Lib.hid (edges_nodup p)
    have Z : Hid (Cl w2 bm be r g n c B (clsL (edgesOf p) (part (edgesOf p) 0 (clsOf (relab f (code a) (code b))) (clsOf f))) (edgesOf p)) := Lib.hid (by rw [part_zero]; exact C2.out)
    clear hw2 hb2 hHeld m0 a0 a1 b0 b1 la lb hrl hq6 hq7
    go_wp2_with fail
    clear e0
    go_loopw [9, 18] (fun _ i wr => ∃ k : Nat, k ≤ n ∧ i = .int .i64 k ∧ Hid (Cl wr bm be r g n c B (clsL (edgesOf p) (part (edgesOf p) k (clsOf (relab f (code a) (code b))) (clsOf f))) (edgesOf p)) ∧ Hid (Var wr q6 [.int .i64 x.piece, .int .i64 x.number]) ∧ Hid (Var wr q7 [.int .i64 y.piece, .int .i64 y.number]) ∧ Hid (w.grownBy wr (some r))) (fun _ i _ => n - (intOf i).toNat)
    case atStart => exact ⟨0, Nat.zero_le _, rfl, Z, Vx, Vy, hG2⟩
    case round =>
      clear Z Vx Vy hG2 C2
      obtain ⟨k, hk, rfl, hC, Vx, Vy, hG⟩ := hrel
      by_cases hlt : k < n
      · have hke : k < (edgesOf p).length := by rw [← HN.out]; exact hlt
        obtain ⟨c0, c1⟩ := hC.out.own.edge hke
        simp only [Nat.zero_add] at c0 c1
        obtain ⟨e, he⟩ : ∃ e, e = (edgesOf p)[k] := ⟨_, rfl⟩
        have hem : Hid (e ∈ edgesOf p) := Lib.hid (by rw [he]; exact List.getElem_mem _)
        have hat : Hid (part (edgesOf p) k (clsOf (relab f (code a) (code b))) (clsOf f) e = clsOf f e) := Lib.hid (by rw [he]; exact part_at s0.out hke _ _)
        rw [← he] at c0 c1
        replace he := Lib.hid he
        have hb3 := new_below wr (.cells #[.int .i64 e.piece, .int .i64 e.number] 98)
        have VE := Var.new2 wr (.int .i64 e.piece) (.int .i64 e.number) 98
        have C3 := Lib.hid (hC.out.below hb3)
        have Vx3 := Lib.hid (Vx.out.below hb3)
        have Vy3 := Lib.hid (Vy.out.below hb3)
        have hG3 := grownBy_trans hG.out (grown_by hb3 (some r))
        have m0 := rg (C3.out.mp.cell 0 _ rfl)
        have d0 := rg (VE.cell 0 _ rfl)
        have d1 := rg (VE.cell 1 _ rfl)
        have x0 := rg (Vx3.out.cell 0 _ rfl)
        have x1 := rg (Vx3.out.cell 1 _ rfl)
        have lk := look_rg C3.out.don hem.out
        rw [hat.out] at lk
        obtain ⟨z, hz⟩ : ∃ z, z = clsOf f e := ⟨_, rfl⟩
        rw [← hz] at lk
        obtain ⟨w3, hw3⟩ : ∃ w3, w3 = wr.alloc (.cells #[.int .i64 e.piece, .int .i64 e.number] 98) := ⟨_, rfl⟩
        have hwz : wr.heap.size < w3.heap.size := by rw [hw3]; simp
        rw [← hw3] at C3 Vx3 Vy3 VE m0 d0 d1 x0 x1 lk hG3
        have HW3 := Lib.hid hw3
        replace VE := Lib.hid VE
        have hb : Below w3.heap.size w3 w3 := Below.refl _ _
        clear hw3 hb3
        have hrw : r < wr.heap.size := hC.out.don.lt
        go_wp2_with fail
        rw [← HW3.out]
        clear c0 c1
        by_cases hc : f (code e) = f (code a)
        · have hzx : z = x := by rw [hz, hx.out]; show dec (f (code e)) = dec (f (code a)); rw [hc]
          have hdec : (z == x) = true := by simpa using hzx
          have hng : Hid (y = clsOf (relab f (code a) (code b)) e) := Lib.hid (by rw [hy.out]; show dec (f (code b)) = dec (relab f (code a) (code b) (code e)); rw [relab_hit hc])
          have hput : Hid (putE (clsL (edgesOf p) (part (edgesOf p) k (clsOf (relab f (code a) (code b))) (clsOf f))) e y = clsL (edgesOf p) (part (edgesOf p) (k + 1) (clsOf (relab f (code a) (code b))) (clsOf f))) := Lib.hid (by
            rw [hng.out, he.out]; exact part_put s0.out hke _ _)
          replace hz := Lib.hid hz
          replace hzx := Lib.hid hzx
          replace hc := Lib.hid hc
          refine wp_region_quiet_below (by kernel_rfl) (by kernel_rfl) ?_
          repeat (go_big_quiet_step ((fail)))
          refine wpQuiet_nil ?_
          intro w2 hw'
          replace hb := upw hb (grown_of hw')
          have hw2 := grown_of hw'
          clear hw'
          have C4 := Lib.hid (C3.out.below hw2)
          have Vx4 := Lib.hid (Vx3.out.below hw2)
          have Vy4 := Lib.hid (Vy3.out.below hw2)
          have VE4 := Lib.hid (VE.out.below hw2)
          have hG4 := Lib.hid (grownBy_trans hG3 (grown_by hw2 (some r)))
          clear m0 d0 d1 x0 x1 lk hb hw2
          obtain ⟨wM, hrM, hMM, hgM⟩ := C4.out.don.update Try.underlying95 e y
          simp only [ek, ev] at hrM
          rw [hput.out] at hMM
          have C5 := Lib.hid (C4.out.mark hgM hMM)
          have Vx5 := Lib.hid (Vx4.out.grown hgM n6)
          have Vy5 := Lib.hid (Vy4.out.grown hgM n7)
          have hG5 := Lib.hid (grownBy_trans hG4.out hgM)
          have m0 := C4.out.mp.cell 0 _ rfl
          have d0 := VE4.out.cell 0 _ rfl
          have d1 := VE4.out.cell 1 _ rfl
          have y0 := Vy4.out.cell 0 _ rfl
          have y1 := Vy4.out.cell 1 _ rfl
          clear hgM hMM
          go_wp2_with fail
          go_roundw
          case rel => exact ⟨k + 1, by omega, by go_num, C5, Vx5, Vy5, hG5⟩
          case measure => simp [intOf]; omega
        · have hzx : ¬ z = x := fun h => hc (by
            rw [hz, hx.out] at h
            exact dec_inj h)
          have hdec : (z == x) = false := by simpa using hzx
          have hsame : Hid (clsL (edgesOf p) (part (edgesOf p) k (clsOf (relab f (code a) (code b))) (clsOf f)) = clsL (edgesOf p) (part (edgesOf p) (k + 1) (clsOf (relab f (code a) (code b))) (clsOf f))) := Lib.hid (part_same s0.out hke _ _ (by
            rw [← he.out]
            show dec (relab f (code a) (code b) (code e)) = dec (f (code e))
            rw [relab_miss hc]))
          rw [hsame.out] at C3
          replace hz := Lib.hid hz
          replace hzx := Lib.hid hzx
          replace hc := Lib.hid hc
          refine wp_region_quiet_below (by kernel_rfl) (by kernel_rfl) ?_
          repeat (go_big_quiet_step ((fail)))
          refine wpQuiet_nil ?_
          intro w2 hw'
          replace hb := upw hb (grown_of hw')
          have hw2 := grown_of hw'
          clear hw'
          have C4 := Lib.hid (C3.out.below hw2)
          have Vx4 := Lib.hid (Vx3.out.below hw2)
          have Vy4 := Lib.hid (Vy3.out.below hw2)
          have hG4 := Lib.hid (grownBy_trans hG3 (grown_by hw2 (some r)))
          clear m0 d0 d1 x0 x1 lk hb hw2
          go_wp2_with fail
          go_roundw
          case rel => exact ⟨k + 1, by omega, by go_num, C4, Vx4, Vy4, hG4⟩
          case measure => simp [intOf]; omega
      · obtain rfl : k = n := by omega
        have hfin : Hid (clsL (edgesOf p) (part (edgesOf p) k (clsOf (relab f (code a) (code b))) (clsOf f)) = clsL (edgesOf p) (clsOf (relab f (code a) (code b)))) := Lib.hid (part_all _ _ (by rw [HN.out]; exact Nat.le_refl _) _ _)
        rw [hfin.out] at hC
        go_wp2_with fail
        go_end0
        exact ⟨rfl, hC.out, hG.out⟩
end
end Go.Proofs.Ytlmhiocmldhkhaa
