/- Chapter 4, fits and lasts that are drawn. -/
import Derived.Test.YtlaclknhenccdaaR08
import Derived.Test.YtlaclknhenccdaaF05
namespace Go.Proofs.Ytlaclknhenccdaa
open Go.RowKit

/-- A fit as it lies in memory. -/
structure RawFit where
  mn : Int
  mx : Int
  gi : Int
  a : Option Addr
  n : Nat
  c : Nat
instance : Flat RawFit := ⟨4, by decide, fun x => [.int .i64 x.mn, .int .i64 x.mx, .int .i64 x.gi, .slice x.a x.n x.c], fun _ => rfl, fun x u h => by simp at h; rcases h with h | h | h | h <;> subst h <;> rfl, fun _ => True⟩
def fitR (r : RawFit) : List OneCell := [⟨.int .i64 r.mn, rfl⟩, ⟨.int .i64 r.mx, rfl⟩, ⟨.int .i64 r.gi, rfl⟩, ⟨.slice r.a r.n r.c, rfl⟩]
theorem fitR_cells {B : Nat} {w : World} {e : TypeId} {g n c' : Nat} {r : RawFit} (h : Own B w e (.slice (some ⟨g, 0, none⟩) n c') (fitR r)) :
    w.cell? ⟨g, 0, none⟩ = some (.int .i64 r.mn) ∧ w.cell? ⟨g, 1, none⟩ = some (.int .i64 r.mx) ∧ w.cell? ⟨g, 2, none⟩ = some (.int .i64 r.gi) ∧ w.cell? ⟨g, 3, none⟩ = some (.slice r.a r.n r.c) :=
  ⟨own_one h (i := 0) (by show 0 < 4; omega), own_one h (i := 1) (by show 1 < 4; omega), own_one h (i := 2) (by show 2 < 4; omega), own_one h (i := 3) (by show 3 < 4; omega)⟩
theorem fitR_one {B : Nat} {w : World} {e : TypeId} {g : Nat} {r : RawFit} (h : Own B w e (.slice (some ⟨g, 0, none⟩) 1 1) [r]) : Own B w e (.slice (some ⟨g, 0, none⟩) 4 4) (fitR r) := by
  obtain ⟨h1, h2⟩ := h
  refine ⟨rfl, .inr ?_⟩
  rcases h2 with ⟨h2, _⟩ | ⟨g', cap, cur, h3, hb, hg, hn, hm, hs, ht⟩
  · simp at h2
  · simp only [Value.slice.injEq, Option.some.injEq, Addr.mk.injEq, and_true] at h3
    obtain ⟨rfl, -, rfl⟩ := h3
    exact ⟨g, 4, cur, rfl, hb, hg, Nat.le_refl _, by unfold maxLen; omega, hs, ht⟩
theorem Dr.nilrow {w0 w : World} {g M : Nat} {is : List Item} (h : Dr w0 w g M is) (e : TypeId) : Dr w0 w g M (ite' e (.slice none 0 0) ([] : List Int) :: is) :=
  h.add (Below.refl _ _) (World.ownsRow_nil _ _ _ _)
set_option maxRecDepth 100000 in
set_option maxHeartbeats 4000000 in
theorem l04DrawFit_c (g M : Nat) (w : World) (hS : SrcAt w g (M + 14)) :
    Calls Try.prog 112 #[.pointer (some ⟨g, 0, none⟩)] w fun e w' => ∃ (q : FitV) (a : Option Addr) (c : Nat), e = .returned (.agg #[.int .i64 q.mn, .int .i64 q.mx, .int .i64 q.gi, .slice a 4 c]) ∧ OkFit q ∧ Own w.heap.size w' 2 (.slice a 4 c) q.ws ∧ SrcAt w' g M ∧ w.grownBy w' (some g) := by
  have hgl := hS.lt
  obtain ⟨w1, hw1⟩ : ∃ w1, w1 = w.alloc (.cells #[.int .i64 0, .int .i64 0, .int .i64 0, .slice none 0 0] 72) := ⟨_, rfl⟩
  have D := (Dr.start hS).alloc 72 #[.int .i64 0, .int .i64 0, .int .i64 0, .slice none 0 0] [(⟨0, 0, 0, none, 0, 0⟩ : RawFit)] rfl (by simp)
  rw [← hw1] at D
  simp only [List.length_singleton] at D
  replace D := Lib.hid D
  replace hw1 := Lib.hid hw1
  clear hS
  go_enter Try.func112, Try.ntmps112
  go_wp2_with (rw [← hw1.out])
  refine (pick_c g (M + 12) 20 w1 (D.out.src.less (by omega)) (by omega) (by omega)).mono ?_
  rintro e w2 ⟨p0, rfl, p00, p01, hS2, hg2⟩
  replace D := Lib.hid (D.out.drew hS2 hg2)
  clear hS2 hg2 hw1
  have hp0 : p0 < 20 := by omega
  clear p01
  obtain ⟨mn, hmn⟩ : ∃ m : Int, m = 5 * p0 := ⟨_, rfl⟩
  have hmnr : 0 ≤ mn ∧ mn ≤ 95 := by omega
  have hz0 : IntKind.i64.wrap (5 * p0) = mn := by rw [hmn]; exact IntWalk.i64_in _ (by omega)
  replace hmn := Lib.hid hmn
  obtain ⟨w3, hw3⟩ : ∃ w3, w3 = w2.alloc (.cells #[.int .i64 mn, .int .i64 0, .int .i64 0, .slice none 0 0] 72) := ⟨_, rfl⟩
  have D3 := D.out.alloc 72 #[.int .i64 mn, .int .i64 0, .int .i64 0, .slice none 0 0] (fitR ⟨mn, 0, 0, none, 0, 0⟩) rfl (by show 4 ≤ 1048576; omega)
  rw [← hw3] at D3
  replace D3 : Dr w w3 g (M + 12) [ite' 72 (.slice (some ⟨w2.heap.size, 0, none⟩) 4 4) (fitR ⟨mn, 0, 0, none, 0, 0⟩), ite' 72 (.slice (some ⟨w.heap.size, 0, none⟩) 1 1) [(⟨0, 0, 0, none, 0, 0⟩ : RawFit)]] := D3
  replace hw3 := Lib.hid hw3
  replace D := Lib.hid D3
  clear D3
  have m0 := (fitR_cells (D.out.get 0 rfl)).1
  obtain ⟨b, hb⟩ : ∃ b, b = w2.heap.size := ⟨_, rfl⟩
  rw [← hb] at D m0
  go_wp2_with (rw [← hw3.out])
  rw [← hb]
  clear hb hw3
  refine wp_region_held_drew (S := (fun w' => w'.cell? ⟨b, 0, none⟩ = some (.int .i64 mn))) (by kernel_rfl) m0 (fun hHeld => ?_)
  obtain ⟨wo, hwo⟩ : ∃ wo, wo = w3.drew := ⟨_, rfl⟩
  rw [← hwo] at hHeld ⊢
  have hbo : Below w3.heap.size w3 wo := by rw [hwo]; exact (Below.refl _ _).drew
  replace D := Lib.hid (D.out.later hbo)
  clear hwo m0 hbo hz0
  refine wpAnyH_take (i := 0) (v := _) rfl (by kernel_rfl) (by kernel_rfl) (by kernel_rfl) (fun _ _ _ h => h) (Or.inl ⟨by rfl, (by intro w hSw; (try dsimp only at hSw); go_simp; try with_reducible rfl)⟩) (by assumption) ?_
  go_simp
  refine wpAnyH_take (i := 1) (v := _) rfl (by kernel_rfl) (by kernel_rfl) (by kernel_rfl) (fun _ _ _ h => h) (Or.inl ⟨by rfl, (by intro w hSw; (try dsimp only at hSw); go_simp; try with_reducible rfl)⟩) (by assumption) ?_
  go_simp
  refine wpAnyH_take (i := 2) (v := _) rfl (by kernel_rfl) (by kernel_rfl) (by kernel_rfl) (fun _ _ _ h => h) (Or.inl ⟨by rfl, (by intro w hSw; (try dsimp only at hSw); go_simp; try with_reducible rfl)⟩) (by assumption) ?_
  go_simp
  refine wpAnyH_ready (rs := [3]) (by kernel_rfl) (by simp) ?_
  refine AllReadyH.cons rfl (fun K hK => ?_) AllReadyH.nil
  go_simp
  (refine (pick_c g (M + 10) 40 wo (D.out.src.less (by omega)) (by omega) (by omega)).mono ?_; rintro e wp ⟨p1, rfl, p10, p11, hS7, hg7⟩; replace D := Lib.hid (D.out.drew hS7 hg7); clear hS7 hg7; have hp1 : p1 < 40 := (by omega); clear p11; have hz1 : IntKind.i64.wrap (5 * p1) = 5 * p1 := IntWalk.i64_in _ (by omega); have hz2 : IntKind.i64.wrap (mn + 5 * p1) = mn + 5 * p1 := IntWalk.i64_in _ (by omega))
  refine hK.out _ _ ((fitR_cells (D.out.get 0 rfl)).1) (fun hHeld => ?_)
  clear hK K
  go_simp
  refine wpAnyH_take (i := 4) (v := _) rfl (by kernel_rfl) (by kernel_rfl) (by kernel_rfl) (fun _ _ _ h => h) (Or.inl ⟨by rfl, (by intro w hSw; (try dsimp only at hSw); go_simp; try with_reducible rfl)⟩) (by assumption) ?_
  go_simp
  refine wpAnyH_take (i := 5) (v := _) rfl (by kernel_rfl) (by kernel_rfl) (by kernel_rfl) (fun _ _ _ h => h) (Or.inl ⟨by rfl, (by intro w hSw; (try dsimp only at hSw); go_simp; try with_reducible rfl)⟩) (by assumption) ?_
  go_simp
  refine wpAnyH_take (i := 6) (v := _) rfl (by kernel_rfl) (by kernel_rfl) (by kernel_rfl) (fun _ _ _ h => h) (Or.inl ⟨by rfl, (by intro w hSw; (try dsimp only at hSw); go_simp; try with_reducible rfl)⟩) (by assumption) ?_
  go_simp
  have V := (D.out.get 0 rfl : Own _ _ _ _ (fitR ⟨mn, 0, 0, none, 0, 0⟩))
  refine wpAnyH_ready (rs := [7]) (by kernel_rfl) (by simp) ?_
  refine AllReadyH.cons rfl (fun K hK => ?_) AllReadyH.nil
  refine cast (if_pos (by rfl)).symm ?_
  refine wp_store_own 2 (.tmp 15) (.tmp 14) rfl w.heap.size 72 b 4 4 (fitR ⟨mn, 0, 0, none, 0, 0⟩) 1 1 ⟨.int .i64 (mn + 5 * p1), rfl⟩ rfl rfl rfl (by kernel_rfl) rfl V (by show 1 < 4; omega) ?_
  intro wq hV hgq
  replace hV : Own w.heap.size wq 72 (.slice (some ⟨b, 0, none⟩) 4 4) (fitR ⟨mn, mn + 5 * p1, 0, none, 0, 0⟩) := hV
  replace D := Lib.hid (D.out.set 0 rfl hV hgq (Or.inl rfl))
  refine hK.out _ _ (fitR_cells hV).1 (fun hHeld => ?_)
  clear hK K hV hgq V
  go_simp
  refine wpAnyH_done (by kernel_rfl) ?_ _
  clear hz1 hz2 hHeld
  obtain ⟨mx, hmx⟩ : ∃ m : Int, m = mn + 5 * p1 := ⟨_, rfl⟩
  have hmxr : mn ≤ mx ∧ mx ≤ mn + 195 := by omega
  rw [← hmx] at D ⊢
  clear hmx p10 hp1
  go_wp2_with fail
  refine (pick_c g (M + 8) 30 wq (D.out.src.less (by omega)) (by omega) (by omega)).mono ?_
  rintro e w5 ⟨p2, rfl, p20, p21, hS5, hg5⟩
  replace D := Lib.hid (D.out.drew hS5 hg5)
  clear hS5 hg5
  have hp2 : p2 < 30 := by omega
  clear p21
  obtain ⟨gi, hgi⟩ : ∃ m : Int, m = 5 * p2 := ⟨_, rfl⟩
  have hgir : 0 ≤ gi ∧ gi ≤ 145 := by omega
  have hz3 : IntKind.i64.wrap (5 * p2) = gi := by rw [hgi]; exact IntWalk.i64_in _ (by omega)
  replace hgi := Lib.hid hgi
  have V := Lib.hid (D.out.get 0 rfl : Own _ _ _ _ (fitR ⟨mn, mx, 0, none, 0, 0⟩))
  go_wp2_with ((with_reducible refine at_st 2 (.tmp 19) (.tmp 18) ?_); refine wpList_store_own rfl 2 (.tmp 19) (.tmp 18) rfl w.heap.size 72 b 4 4 (fitR ⟨mn, mx, 0, none, 0, 0⟩) 2 2 ⟨.int .i64 gi, rfl⟩ rfl rfl rfl (by kernel_rfl) rfl V.out (by show 2 < 4; omega) ?_; intro wq2 hV hgq; replace hV : Own w.heap.size wq2 72 (.slice (some ⟨b, 0, none⟩) 4 4) (fitR ⟨mn, mx, gi, none, 0, 0⟩) := hV; replace D := Lib.hid ((D.out.set 0 rfl hV hgq (Or.inl rfl)).nilrow 2); clear hV hgq)
  clear V hz3 p20 hp2
  replace D : Hid (Dr w wq2 g (M + 8) [ite' 2 (.slice none 0 0) ([] : List Int), ite' 72 (.slice (some ⟨b, 0, none⟩) 4 4) (fitR ⟨mn, mx, gi, none, 0, 0⟩), ite' 72 (.slice (some ⟨w.heap.size, 0, none⟩) 1 1) [(⟨0, 0, 0, none, 0, 0⟩ : RawFit)]]) := D
  go_loopw [4] (fun i wr => ∃ (k : Nat) (ws : List Int) (wa : Option Addr) (wc : Nat), k ≤ 4 ∧ i = .int .i64 k ∧ ws.length = k ∧ Hid (∀ v ∈ ws, 0 ≤ v ∧ v ≤ 100) ∧ Hid (Dr w wr g (M + 2 * (4 - k)) [ite' 2 (.slice wa ws.length wc) ws, ite' 72 (.slice (some ⟨b, 0, none⟩) 4 4) (fitR ⟨mn, mx, gi, wa, ws.length, wc⟩), ite' 72 (.slice (some ⟨w.heap.size, 0, none⟩) 1 1) [(⟨0, 0, 0, none, 0, 0⟩ : RawFit)]])) (fun i _ => 4 - (intOf i).toNat)
  case atStart => exact ⟨0, [], none, 0, by omega, rfl, rfl, Lib.hid (fun n hn => by simp at hn), Lib.hid (D.out.less (by omega))⟩
  case round =>
    clear D
    obtain ⟨k, ws, wa, wc, hk, rfl, hwl, hws, D⟩ := hrel
    obtain ⟨wo', hwo'⟩ : ∃ wo : World, wo = wr := ⟨_, rfl⟩
    subst hwo'
    by_cases hlt : k < 4
    · have hel : ws.length + 1 ≤ 4294967296 := by omega
      replace hwl := Lib.hid hwl
      have x3 := (fitR_cells (D.out.get 1 rfl)).2.2.2
      go_wp2_with fail
      refine wp_region_heldS (S := (fun w' => w'.cell? ⟨b, 3, none⟩ = some (.slice wa ws.length wc))) 7 (by kernel_rfl) x3 (fun hHeld => ?_)
      obtain ⟨wo, hwo⟩ : ∃ wo, wo = wo'.drew := ⟨_, rfl⟩
      rw [← hwo] at hHeld ⊢
      have hbo : Below wo'.heap.size wo' wo := by rw [hwo]; exact (Below.refl _ _).drew
      replace D := Lib.hid (D.out.later hbo)
      clear hwo x3 hbo
      refine wpAnyS_take (i := 0) (v := _) rfl (by kernel_rfl) (by kernel_rfl) (by kernel_rfl) (by kernel_rfl) (by kernel_rfl) (fun _ _ _ h => h) (Or.inl ⟨by rfl, (by intro w hSw; (try dsimp only at hSw); go_simp; try with_reducible rfl)⟩) (by assumption) ?_
      go_simp
      refine wpAnyS_take (i := 1) (v := _) rfl (by kernel_rfl) (by kernel_rfl) (by kernel_rfl) (by kernel_rfl) (by kernel_rfl) (fun _ _ _ h => h) (Or.inl ⟨by rfl, (by intro w hSw; (try dsimp only at hSw); go_simp; try with_reducible rfl)⟩) (by assumption) ?_
      go_simp
      refine wpAnyS_take (i := 2) (v := _) rfl (by kernel_rfl) (by kernel_rfl) (by kernel_rfl) (by kernel_rfl) (by kernel_rfl) (fun _ _ _ h => h) (Or.inl ⟨by rfl, (by intro w hSw; (try dsimp only at hSw); go_simp; try with_reducible rfl)⟩) (by assumption) ?_
      go_simp
      refine wpAnyS_step (i := 3) (by kernel_rfl) rfl (fun K hK => ?_)
      go_simp
      (refine (pick_c g (M + 2 * (4 - (k + 1))) 6 wo (D.out.src.less (by omega)) (by omega) (by omega)).mono ?_; rintro e wp ⟨z, rfl, z0, z1, hS7, hg7⟩; replace D := Lib.hid (D.out.drew hS7 hg7); clear hS7 hg7)
      refine hK.out _ _ ((fitR_cells (D.out.get 1 rfl)).2.2.2) (fun hHeld => ?_)
      clear hK K
      go_simp
      refine wpAnyS_step (i := 4) (by kernel_rfl) rfl (fun K hK => ?_)
      go_simp
      (obtain ⟨wt, hwt⟩ : ∃ wt, wt = wp.alloc (.cells #[.int .i64 z] 2) := ⟨_, rfl⟩; rw [← hwt]; have hct : Below wp.heap.size wp wt := (by rw [hwt]; exact newB _ _); have htmp : wt.heap[wp.heap.size]? = some (.cells (Flat.el z).toArray 2 (0, 0)) := (by rw [hwt]; exact heap_alloc_new _ _); clear hwt; replace D := Lib.hid (D.out.later hct))
      refine hK.out _ _ ((fitR_cells (D.out.get 1 rfl)).2.2.2) (fun hHeld => ?_)
      clear hK K
      go_simp
      have hrw := (D.out.get 0 rfl : Own _ _ _ _ ws)
      have hBw : w.heap.size ≤ wt.heap.size := D.out.up.size
      refine wpAnyS_step (i := 5) (by kernel_rfl) rfl (fun K hK => ?_)
      (refine cast (if_pos (by rfl)).symm ?_; refine wp_pushTo (.tmp 25) (.tmp 28) 24 rfl w.heap.size 2 (.int .i64 0) 8 Try.underlying24 infoInt rfl _ ws z rfl hrw wp.heap.size 1 rfl 2 htmp hel (by decide) hBw ?_; intro g' cap wq hO' hg' hl'; replace D := Lib.hid (D.out.push 0 rfl hO' hg' hl'))
      refine hK.out _ _ ((fitR_cells (D.out.get 1 rfl)).2.2.2) (fun hHeld => ?_)
      clear hK K
      go_simp
      refine wpAnyS_take (i := 6) (v := _) rfl (by kernel_rfl) (by kernel_rfl) (by kernel_rfl) (by kernel_rfl) (by kernel_rfl) (fun _ _ _ h => h) (Or.inl ⟨by rfl, (by intro w hSw; (try dsimp only at hSw); go_simp; try with_reducible rfl)⟩) (by assumption) ?_
      go_simp
      have V := (D.out.get 1 rfl : Own _ _ _ _ (fitR ⟨mn, mx, gi, wa, ws.length, wc⟩))
      refine wpAnyS_last (i := 7) (by kernel_rfl) rfl (by kernel_rfl) (fun K hK => ?_)
      (refine cast (if_pos (by rfl)).symm ?_; refine wp_store_own 24 (.tmp 30) (.tmp 29) rfl w.heap.size 72 b 4 4 (fitR ⟨mn, mx, gi, wa, ws.length, wc⟩) 3 3 (⟨.slice (some ⟨g', 0, none⟩) (ws.length + 1) cap, rfl⟩ : OneCell) rfl rfl rfl (by kernel_rfl) rfl V (by show 3 < 4; omega) ?_; intro wz hVq hgq)
      refine hK.out _ _ ?_
      clear hK K
      go_simp
      refine wpAnyS_done (by kernel_rfl) ?_ _
      replace hVq : Own w.heap.size wz 72 (.slice (some ⟨b, 0, none⟩) 4 4) (fitR ⟨mn, mx, gi, some ⟨g', 0, none⟩, ws.length + 1, cap⟩) := hVq
      have D2 := Lib.hid (D.out.set 1 rfl hVq hgq (Or.inl rfl))
      have hws2 : Hid (∀ y ∈ ws ++ [z], 0 ≤ y ∧ y ≤ 100) := Lib.hid fun y hy => by
        rcases List.mem_append.1 hy with hy | hy
        · exact hws.out y hy
        · simp only [List.mem_singleton] at hy; omega
      have hwl2 : (ws ++ [z]).length = k + 1 := by have := hwl.out; simp; omega
      clear hVq hgq hO' hg' hl' V hrw htmp hct D hHeld
      go_wp2_with fail
      go_roundw
      case rel => exact ⟨k + 1, ws ++ [z], some ⟨g', 0, none⟩, cap, by omega, by first | rfl | go_num, hwl2, hws2, Lib.hid (by have h := D2.out; simpa using h)⟩
      case measure => first | (simp [intOf]; done) | (simp [intOf]; omega)
    · obtain rfl : k = 4 := by omega
      obtain ⟨x0, x1, x2, x3⟩ := fitR_cells (D.out.get 1 rfl)
      obtain ⟨v0, v1, v2, v3, rfl⟩ : ∃ v0 v1 v2 v3 : Int, ws = [v0, v1, v2, v3] := by
        match ws, hwl with
        | [v0, v1, v2, v3], _ => exact ⟨_, _, _, _, rfl⟩
      dsimp only [List.length_cons, List.length_nil] at x3 D
      simp only [Nat.reduceAdd, Nat.zero_add] at x3 D
      have hq : OkFit ⟨mn, mx, gi, v0, v1, v2, v3⟩ := ⟨by dsimp only; omega, by dsimp only; omega, by dsimp only; omega, hws.out v0 (by simp), hws.out v1 (by simp), hws.out v2 (by simp), hws.out v3 (by simp)⟩
      replace hq := Lib.hid hq
      have hR := Lib.hid (D.out.get 2 rfl : Own _ _ _ _ [(⟨0, 0, 0, none, 0, 0⟩ : RawFit)])
      go_wp2_with ((with_reducible refine at_st 72 (.tmp 2) (.tmp 31) ?_); refine wpList_store_own rfl 72 (.tmp 2) (.tmp 31) rfl w.heap.size 72 _ 1 1 [(⟨0, 0, 0, none, 0, 0⟩ : RawFit)] 0 _ (⟨mn, mx, gi, wa, 4, wc⟩ : RawFit) rfl rfl rfl (by kernel_rfl) rfl hR.out (by simp) ?_; intro wz hRz hgz)
      have Dz := D.out.set 2 rfl hRz hgz (Or.inl rfl)
      obtain ⟨q0, q1, q2, q3⟩ := fitR_cells (fitR_one hRz)
      refine bodyPost_ret (v := .agg #[.int .i64 mn, .int .i64 mx, .int .i64 gi, .slice wa 4 wc]) (by simp [results, Try.results112, go_sem, q0, q1, q2, q3]) rfl ?_
      exact ⟨_, wa, wc, rfl, hq.out, Dz.get 0 rfl, Dz.src.less (by omega), Dz.up⟩
end Go.Proofs.Ytlaclknhenccdaa
