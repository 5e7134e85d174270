/- A last that is drawn near to a foot. -/
import Derived.Test.YtaeinllbjkjhlaaGreatDoorF03
import Derived.Test.YtaeinllbjkjhlaaGreatDoorSmall
import Derived.Deep.RegionHeld3
namespace Go.Proofs.YtaeinllbjkjhlaaGreatDoor
open Go.RowKit

theorem SrcAt.markL {α : Type} [Flat α] {B' g M : Nat} {wn w' : World} {e : TypeId} {v : Value} {xs : List α} (hS : SrcAt wn g M) (hO : Own B' wn e v xs) (hB : g < B') (hg : wn.grownBy w' v.ownBlock) : SrcAt w' g M :=
  hS.kept hg fun k hk => by have := (hO.lt k hk).1; omega
/-- A last near to a foot. -/
structure NearL (nm : ByteArray) (f : Foot) (x : Last) : Prop where
  name : x.Name = nm
  length : f.Length ≤ x.Length ∧ x.Length ≤ f.Length + 195
  ball : f.Ball - 100 ≤ x.Ball ∧ x.Ball ≤ f.Ball + 95
  instep : f.Instep - 100 ≤ x.Instep ∧ x.Instep ≤ f.Instep + 95
  heel : f.Heel - 100 ≤ x.Heel ∧ x.Heel ≤ f.Heel + 95
  pitch : 0 ≤ x.Pitch ∧ x.Pitch ≤ 590
/-- A variable that holds a last, cell by cell. -/
def lastC (x : Last) : List OneCell := [⟨.string x.Name, rfl⟩, ⟨.int .i64 x.Length, rfl⟩, ⟨.int .i64 x.Ball, rfl⟩, ⟨.int .i64 x.Instep, rfl⟩, ⟨.int .i64 x.Heel, rfl⟩, ⟨.int .i64 x.Pitch, rfl⟩]
theorem own_lastC (w : World) (t : TypeId) (x : Last) : Own w.heap.size (w.alloc (.cells #[.string x.Name, .int .i64 x.Length, .int .i64 x.Ball, .int .i64 x.Instep, .int .i64 x.Heel, .int .i64 x.Pitch] t)) t (.slice (some ⟨w.heap.size, 0, none⟩) 6 6) (lastC x) :=
  ⟨rfl, .inr ⟨w.heap.size, 6, #[.string x.Name, .int .i64 x.Length, .int .i64 x.Ball, .int .i64 x.Instep, .int .i64 x.Heel, .int .i64 x.Pitch], rfl, Nat.le_refl _, heap_alloc_new _ _, Nat.le_refl _, by unfold maxLen; omega, rfl, rfl⟩⟩
theorem lastC_cells {B : Nat} {w : World} {e : TypeId} {g n c : Nat} {x : Last} (h : Own B w e (.slice (some ⟨g, 0, none⟩) n c) (lastC x)) :
    w.cell? ⟨g, 0, none⟩ = some (.string x.Name) ∧ w.cell? ⟨g, 1, none⟩ = some (.int .i64 x.Length) ∧ w.cell? ⟨g, 2, none⟩ = some (.int .i64 x.Ball) ∧ w.cell? ⟨g, 3, none⟩ = some (.int .i64 x.Instep) ∧ w.cell? ⟨g, 4, none⟩ = some (.int .i64 x.Heel) ∧ w.cell? ⟨g, 5, none⟩ = some (.int .i64 x.Pitch) :=
  ⟨own_one h (i := 0) (by show 0 < 6; omega), own_one h (i := 1) (by show 1 < 6; omega), own_one h (i := 2) (by show 2 < 6; omega), own_one h (i := 3) (by show 3 < 6; omega), own_one h (i := 4) (by show 4 < 6; omega), own_one h (i := 5) (by show 5 < 6; omega)⟩
theorem own_last1 (w : World) (t : TypeId) (x : Last) : Own w.heap.size (w.alloc (.cells #[.string x.Name, .int .i64 x.Length, .int .i64 x.Ball, .int .i64 x.Instep, .int .i64 x.Heel, .int .i64 x.Pitch] t)) t (.slice (some ⟨w.heap.size, 0, none⟩) 1 1) [x] :=
  ⟨rfl, .inr ⟨w.heap.size, 1, #[.string x.Name, .int .i64 x.Length, .int .i64 x.Ball, .int .i64 x.Instep, .int .i64 x.Heel, .int .i64 x.Pitch], rfl, Nat.le_refl _, heap_alloc_new _ _, Nat.le_refl _, by unfold maxLen; omega, rfl, rfl⟩⟩
theorem last1_cells {B : Nat} {w : World} {e : TypeId} {g n c : Nat} {x : Last} (h : Own B w e (.slice (some ⟨g, 0, none⟩) n c) [x]) :
    w.cell? ⟨g, 0, none⟩ = some (.string x.Name) ∧ w.cell? ⟨g, 1, none⟩ = some (.int .i64 x.Length) ∧ w.cell? ⟨g, 2, none⟩ = some (.int .i64 x.Ball) ∧ w.cell? ⟨g, 3, none⟩ = some (.int .i64 x.Instep) ∧ w.cell? ⟨g, 4, none⟩ = some (.int .i64 x.Heel) ∧ w.cell? ⟨g, 5, none⟩ = some (.int .i64 x.Pitch) := by
  have := h.at'.last (i := 0) (by simp)
  simpa using this
/-- What the walk carries: the foot's variable, the last's, the result's, the source. -/
structure DrawsL (w wn : World) (g M bx : Nat) (f : Foot) (x : Last) : Prop where
  src : SrcAt wn g M
  foot : Own w.heap.size wn 25 (.slice (some ⟨w.heap.size, 0, none⟩) 4 4) (footC f)
  res : Own (w.heap.size + 1) wn 30 (.slice (some ⟨w.heap.size + 1, 0, none⟩) 1 1) ([⟨ByteArray.empty, 0, 0, 0, 0, 0⟩] : List Last)
  var : Own bx wn 30 (.slice (some ⟨bx, 0, none⟩) 6 6) (lastC x)
  far : w.heap.size + 2 ≤ bx
  up : w.grownBy wn (some g)
theorem foot_blocks {w : World} {f : Foot} : Own w.heap.size (w.alloc (.cells #[.int .i64 f.Length, .int .i64 f.Ball, .int .i64 f.Instep, .int .i64 f.Heel] 25)) 25 (.slice (some ⟨w.heap.size, 0, none⟩) 4 4) (footC f) := own_footC w _ f
/-- One last in a row is the same six cells. -/
theorem own_cells6 {B : Nat} {w : World} {e : TypeId} {g : Nat} {x : Last} (h : Own B w e (.slice (some ⟨g, 0, none⟩) 1 1) [x]) : Own B w e (.slice (some ⟨g, 0, none⟩) 6 6) (lastC x) := by
  obtain ⟨h1, h2⟩ := h
  refine ⟨rfl, .inr ?_⟩
  rcases h2 with ⟨h2, _⟩ | ⟨g', cap, cur, h3, hb, hg, hn, hm, hs, ht⟩
  · simp at h2
  · simp only [Value.slice.injEq, Option.some.injEq, Addr.mk.injEq, and_true] at h3
    obtain ⟨rfl, -, rfl⟩ := h3
    exact ⟨g, 6, cur, rfl, hb, hg, Nat.le_refl _, by unfold maxLen; omega, hs, ht⟩
theorem DrawsL.less {w wn : World} {g M M' bx : Nat} {f : Foot} {x : Last} (h : DrawsL w wn g M bx f x) (hm : M' ≤ M) : DrawsL w wn g M' bx f x := ⟨h.src.less hm, h.foot, h.res, h.var, h.far, h.up⟩
theorem DrawsL.later {w wn w' : World} {g M bx : Nat} {f : Foot} {x : Last} (h : DrawsL w wn g M bx f x) (hb : Below wn.heap.size wn w') : DrawsL w w' g M bx f x :=
  ⟨h.src.later hb, h.foot.later hb, h.res.later hb, h.var.later hb, h.far, grownBy_trans h.up (drew_below g hb)⟩
theorem DrawsL.drew {w wn w' : World} {g M M' bx : Nat} {f : Foot} {x : Last} (h : DrawsL w wn g M bx f x) (hgl : g < w.heap.size) (hS : SrcAt w' g M') (hg : wn.grownBy w' (some g)) : DrawsL w w' g M' bx f x :=
  ⟨hS, h.foot.drew hgl hg, h.res.drew (by omega) hg, h.var.drew (by have := h.far; omega) hg, h.far, grownBy_trans h.up hg⟩
theorem DrawsL.put {w wn w' : World} {g M bx : Nat} {f : Foot} {x x' : Last} (h : DrawsL w wn g M bx f x) (hgl : g < w.heap.size) (hO : Own bx w' 30 (.slice (some ⟨bx, 0, none⟩) 6 6) (lastC x')) (hg : wn.grownBy w' (some bx)) : DrawsL w w' g M bx f x' :=
  have hfar := h.far
  ⟨h.src.markL h.var (by omega) hg, h.foot.kept hg (Or.inr (ne_blk (by omega))), h.res.kept hg (Or.inr (ne_blk (by omega))), hO, hfar, marked_up h.up h.var (by omega) hg⟩
theorem DrawsL.ball {w wn : World} {g M bx : Nat} {f : Foot} {x : Last} (h : DrawsL w wn g M bx f x) : wn.cell? ⟨w.heap.size, 1, none⟩ = some (.int .i64 f.Ball) := (footC_cells h.foot).2.1
theorem DrawsL.instep {w wn : World} {g M bx : Nat} {f : Foot} {x : Last} (h : DrawsL w wn g M bx f x) : wn.cell? ⟨w.heap.size, 2, none⟩ = some (.int .i64 f.Instep) := (footC_cells h.foot).2.2.1
theorem DrawsL.heel {w wn : World} {g M bx : Nat} {f : Foot} {x : Last} (h : DrawsL w wn g M bx f x) : wn.cell? ⟨w.heap.size, 3, none⟩ = some (.int .i64 f.Heel) := (footC_cells h.foot).2.2.2
/-- What is carried ahead of the variable. -/
structure DrawsF (w wn : World) (g M : Nat) (f : Foot) : Prop where
  src : SrcAt wn g M
  foot : Own w.heap.size wn 25 (.slice (some ⟨w.heap.size, 0, none⟩) 4 4) (footC f)
  res : Own (w.heap.size + 1) wn 30 (.slice (some ⟨w.heap.size + 1, 0, none⟩) 1 1) ([⟨ByteArray.empty, 0, 0, 0, 0, 0⟩] : List Last)
  up : w.grownBy wn (some g)
  far : w.heap.size + 2 ≤ wn.heap.size
theorem DrawsF.later {w wn w' : World} {g M : Nat} {f : Foot} (h : DrawsF w wn g M f) (hb : Below wn.heap.size wn w') : DrawsF w w' g M f :=
  ⟨h.src.later hb, h.foot.later hb, h.res.later hb, grownBy_trans h.up (drew_below g hb), Nat.le_trans h.far hb.size⟩
theorem DrawsF.drew {w wn w' : World} {g M M' : Nat} {f : Foot} (h : DrawsF w wn g M f) (hgl : g < w.heap.size) (hS : SrcAt w' g M') (hg : wn.grownBy w' (some g)) : DrawsF w w' g M' f :=
  ⟨hS, h.foot.drew hgl hg, h.res.drew (by omega) hg, grownBy_trans h.up hg, Nat.le_trans h.far hg.size⟩
theorem DrawsF.length {w wn : World} {g M : Nat} {f : Foot} (h : DrawsF w wn g M f) : wn.cell? ⟨w.heap.size, 0, none⟩ = some (.int .i64 f.Length) := (footC_cells h.foot).1
theorem DrawsF.put {w wn w' : World} {g M bx : Nat} {f : Foot} {x y : Last} (h : DrawsF w wn g M f) (hgl : g < w.heap.size) (hv : Own bx wn 30 (.slice (some ⟨bx, 0, none⟩) 1 1) [y]) (hfar : w.heap.size + 2 ≤ bx) (hO : Own bx w' 30 (.slice (some ⟨bx, 0, none⟩) 1 1) [x]) (hg : wn.grownBy w' (some bx)) : DrawsL w w' g M bx f x :=
  ⟨h.src.markL hv (by omega) hg, h.foot.kept hg (Or.inr (ne_blk (by omega))), h.res.kept hg (Or.inr (ne_blk (by omega))), own_cells6 hO, hfar, marked_up h.up hv (by omega) hg⟩
set_option maxRecDepth 100000 in
set_option maxHeartbeats 4000000 in
theorem l04New_c (g M : Nat) (nm : ByteArray) (f : Foot) (w : World) (hS : SrcAt w g (M + 10)) (hf : DrawnF f) :
    Calls Tryz.prog 40 #[.pointer (some ⟨g, 0, none⟩), .string nm, .agg #[.int .i64 f.Length, .int .i64 f.Ball, .int .i64 f.Instep, .int .i64 f.Heel]] w fun e w' => ∃ x : Last, e = .returned (.agg #[.string x.Name, .int .i64 x.Length, .int .i64 x.Ball, .int .i64 x.Instep, .int .i64 x.Heel, .int .i64 x.Pitch]) ∧ NearL nm f x ∧ SrcAt w' g M ∧ w.grownBy w' (some g) := by
  have hgl := hS.lt
  obtain ⟨hF0, hF1, hF2, hF3⟩ := hf
  obtain ⟨w1, hw1⟩ : ∃ w1, w1 = (w.alloc (.cells #[.int .i64 f.Length, .int .i64 f.Ball, .int .i64 f.Instep, .int .i64 f.Heel] 25)).alloc (.cells #[.string { data := #[] }, .int .i64 0, .int .i64 0, .int .i64 0, .int .i64 0, .int .i64 0] 30) := ⟨_, rfl⟩
  have hb1 : Below w.heap.size w (w.alloc (.cells #[.int .i64 f.Length, .int .i64 f.Ball, .int .i64 f.Instep, .int .i64 f.Heel] 25)) := newB _ _
  have hb2 : Below (w.alloc (.cells #[.int .i64 f.Length, .int .i64 f.Ball, .int .i64 f.Instep, .int .i64 f.Heel] 25)).heap.size (w.alloc (.cells #[.int .i64 f.Length, .int .i64 f.Ball, .int .i64 f.Instep, .int .i64 f.Heel] 25)) w1 := by rw [hw1]; exact newB _ _
  have e1 : (w.alloc (.cells #[.int .i64 f.Length, .int .i64 f.Ball, .int .i64 f.Instep, .int .i64 f.Heel] 25)).heap.size = w.heap.size + 1 := by simp
  have D : DrawsF w w1 g (M + 10) f := by
    refine ⟨(hS.later hb1).later hb2, (own_footC w _ f).later hb2, ?_, drew_below g (upw hb1 hb2), ?_⟩
    · have := own_last1 (w.alloc (.cells #[.int .i64 f.Length, .int .i64 f.Ball, .int .i64 f.Instep, .int .i64 f.Heel] 25)) 30 ⟨ByteArray.empty, 0, 0, 0, 0, 0⟩
      rw [e1] at this
      rw [hw1]; exact this
    · rw [hw1]; simp
  clear hb1 hb2 e1 hS
  have HW := Lib.hid hw1
  clear hw1
  replace D := Lib.hid D
  have hz : ∀ wx : World, Below wx.heap.size wx (wx.alloc (.cells #[.string { data := #[] }, .int .i64 0, .int .i64 0, .int .i64 0, .int .i64 0, .int .i64 0] 30)) := fun wx => newB _ _
  go_enter Tryz.func40, Tryz.ntmps40
  go_wp2_with fail
  rw [← HW.out]
  clear HW
  refine wp_region_held_drew (S := (fun w' => w'.cell? ⟨w.heap.size, 0, none⟩ = some (.int .i64 f.Length))) (by kernel_rfl) D.out.length (fun hHeld => ?_)
  replace D := Lib.hid (D.out.later (Below.refl _ _).drew)
  refine wpAnyH_take (i := 0) (v := _) rfl (by kernel_rfl) (by kernel_rfl) (by kernel_rfl) (fun _ _ _ h => h) (Or.inl ⟨by rfl, (by intro w hSw; (try dsimp only at hSw); go_simp; try with_reducible rfl)⟩) (by assumption) ?_
  go_simp
  refine wpAnyH_take (i := 1) (v := _) rfl (by kernel_rfl) (by kernel_rfl) (by kernel_rfl) (fun _ _ _ h => h) (Or.inl ⟨by rfl, (by intro w hSw; (try dsimp only at hSw); go_simp; try with_reducible rfl)⟩) (by assumption) ?_
  go_simp
  refine wpAnyH_take (i := 2) (v := _) rfl (by kernel_rfl) (by kernel_rfl) (by kernel_rfl) (fun _ _ _ h => h) (Or.inl ⟨by rfl, (by intro w hSw; (try dsimp only at hSw); go_simp; try with_reducible rfl)⟩) (by assumption) ?_
  go_simp
  refine wpAnyH_take (i := 3) (v := _) rfl (by kernel_rfl) (by kernel_rfl) (by kernel_rfl) (fun _ _ _ h => h) (Or.inl ⟨by rfl, (by intro w hSw; (try dsimp only at hSw); go_simp; try with_reducible rfl)⟩) (by assumption) ?_
  go_simp
  refine wpAnyH_ready (rs := [4, 9]) (by kernel_rfl) (by simp) ?_
  refine AllReadyH.cons rfl (fun K hK => ?_) (AllReadyH.cons rfl (fun K hK => ?_) AllReadyH.nil)
  · go_simp
    refine (pick_c g (M + 8) 40 _ D.out.src (by omega) (by omega)).mono ?_
    rintro e wp ⟨p0, rfl, p00, p01, hSp, hgp⟩
    have hq1 : IntKind.i64.wrap (5 * p0) = 5 * p0 := IntWalk.i64_in _ (by omega)
    have hq2 : IntKind.i64.wrap (f.Length + 5 * p0) = f.Length + 5 * p0 := IntWalk.i64_in _ (by omega)
    replace D := Lib.hid (D.out.drew hgl hSp hgp)
    clear hSp hgp
    go_simp
    refine hK.out _ _ D.out.length (fun hHeld => ?_)
    clear hK K
    go_simp
    refine wpAnyH_take (i := 5) (v := _) rfl (by kernel_rfl) (by kernel_rfl) (by kernel_rfl) (fun _ _ _ h => h) (Or.inl ⟨by rfl, (by intro w hSw; (try dsimp only at hSw); go_simp; try with_reducible rfl)⟩) (by assumption) ?_
    go_simp
    refine wpAnyH_take (i := 6) (v := _) rfl (by kernel_rfl) (by kernel_rfl) (by kernel_rfl) (fun _ _ _ h => h) (Or.inl ⟨by rfl, (by intro w hSw; (try dsimp only at hSw); go_simp; try with_reducible rfl)⟩) (by assumption) ?_
    go_simp
    refine wpAnyH_ready (rs := [7, 9]) (by kernel_rfl) (by simp) ?_
    refine AllReadyH.cons rfl (fun K hK => ?_) (AllReadyH.cons rfl (fun K hK => ?_) AllReadyH.nil)
    · have hq0 : min 5000 (f.Length + 5 * p0) = f.Length + 5 * p0 := by omega
      go_simp
      refine (l00Min_c _ _ _).mono ?_
      rintro e w' ⟨rfl, rfl⟩
      rw [hq0]
      go_simp
      refine hK.out _ _ D.out.length (fun hHeld => ?_)
      clear hK K
      go_simp
      refine wpAnyH_take (i := 8) (v := _) rfl (by kernel_rfl) (by kernel_rfl) (by kernel_rfl) (fun _ _ _ h => h) (Or.inl ⟨by rfl, (by intro w hSw; (try dsimp only at hSw); go_simp; try with_reducible rfl)⟩) (by assumption) ?_
      go_simp
      refine wpAnyH_ready (rs := [9]) (by kernel_rfl) (by simp) ?_
      refine AllReadyH.cons rfl (fun K hK => ?_) AllReadyH.nil
      obtain ⟨wx, hwx⟩ : ∃ wx : World, wx = wp := ⟨_, rfl⟩
      subst hwx
      go_simp
      obtain ⟨bx, hbx⟩ : ∃ bx, bx = wx.heap.size := ⟨_, rfl⟩
      have hfar := D.out.far
      have V := Lib.hid (own_last1 wx 30 ⟨ByteArray.empty, 0, 0, 0, 0, 0⟩)
      rw [← hbx] at V hfar
      replace D := Lib.hid (D.out.later (hz wx))
      go_simp
      refine hK.out _ _ D.out.length (fun hHeld => ?_)
      clear hK K
      go_simp
      refine wpAnyH_ready (rs := [10]) (by kernel_rfl) (by simp) ?_
      refine AllReadyH.cons rfl (fun K hK => ?_) AllReadyH.nil
      refine cast (if_pos (by rfl)).symm ?_
      refine wp_store_own 30 (.tmp 7) (.tmp 16) rfl bx 30 bx 1 1 ([⟨ByteArray.empty, 0, 0, 0, 0, 0⟩] : List Last) 0 _ (⟨nm, f.Length + 5 * p0, 0, 0, 0, 0⟩ : Last) (by rw [hbx]; rfl) rfl rfl (by kernel_rfl) rfl V.out (by simp) ?_
      intro wq hV hgq
      replace hV : Own bx wq 30 (.slice (some ⟨bx, 0, none⟩) 1 1) ([⟨nm, f.Length + 5 * p0, 0, 0, 0, 0⟩] : List Last) := hV
      have E := Lib.hid (D.out.put hgl V.out hfar hV hgq)
      refine hK.out _ _ (by exact (footC_cells E.out.foot).1) (fun hHeld => ?_)
      clear hK K V hV hgq D
      go_simp
      refine wpAnyH_done (by kernel_rfl) ?_ _
      rw [show wx.heap.size = bx from hbx.symm]
      clear hbx
      clear hq0 hq1 hq2 hHeld
      have hp02 : p0 < 40 := by omega
      clear p01
      go_wp2_with fail
      refine wp_region_held_drew (S := (fun w' => w'.cell? ⟨w.heap.size, 1, none⟩ = some (.int .i64 f.Ball))) (by kernel_rfl) E.out.ball (fun hHeld => ?_)
      replace E := Lib.hid (E.out.later (Below.refl _ _).drew)
      refine wpAnyH_take (i := 0) (v := _) rfl (by kernel_rfl) (by kernel_rfl) (by kernel_rfl) (fun _ _ _ h => h) (Or.inl ⟨by rfl, (by intro w hSw; (try dsimp only at hSw); go_simp; try with_reducible rfl)⟩) (by assumption) ?_
      go_simp
      refine wpAnyH_take (i := 1) (v := _) rfl (by kernel_rfl) (by kernel_rfl) (by kernel_rfl) (fun _ _ _ h => h) (Or.inl ⟨by rfl, (by intro w hSw; (try dsimp only at hSw); go_simp; try with_reducible rfl)⟩) (by assumption) ?_
      go_simp
      refine wpAnyH_take (i := 2) (v := _) rfl (by kernel_rfl) (by kernel_rfl) (by kernel_rfl) (fun _ _ _ h => h) (Or.inl ⟨by rfl, (by intro w hSw; (try dsimp only at hSw); go_simp; try with_reducible rfl)⟩) (by assumption) ?_
      go_simp
      refine wpAnyH_ready (rs := [3]) (by kernel_rfl) (by simp) ?_
      refine AllReadyH.cons rfl (fun K hK => ?_) AllReadyH.nil
      go_simp
      refine (pick_c g (M + 6) 40 _ E.out.src (by omega) (by omega)).mono ?_
      rintro e wa ⟨p1, rfl, hp0, hp1, hSp, hgp⟩
      replace E := Lib.hid (E.out.drew hgl hSp hgp)
      clear hSp hgp
      have hp2 : p1 < 40 := by omega
      clear hp1
      have hq1 : IntKind.i64.wrap (5 * p1) = 5 * p1 := IntWalk.i64_in _ (by omega)
      have hq2 : IntKind.i64.wrap (f.Ball + 5 * p1) = f.Ball + 5 * p1 := IntWalk.i64_in _ (by omega)
      have hq3 : IntKind.i64.wrap (f.Ball + 5 * p1 - 100) = f.Ball + 5 * p1 - 100 := IntWalk.i64_in _ (by omega)
      have hq4 : max 500 (f.Ball + 5 * p1 - 100) = f.Ball + 5 * p1 - 100 := by omega
      have hq5 : min 5000 (f.Ball + 5 * p1 - 100) = f.Ball + 5 * p1 - 100 := by omega
      go_simp
      refine hK.out _ _ E.out.ball (fun hHeld => ?_)
      clear hK K
      go_simp
      refine wpAnyH_take (i := 4) (v := _) rfl (by kernel_rfl) (by kernel_rfl) (by kernel_rfl) (fun _ _ _ h => h) (Or.inl ⟨by rfl, (by intro w hSw; (try dsimp only at hSw); go_simp; try with_reducible rfl)⟩) (by assumption) ?_
      go_simp
      refine wpAnyH_take (i := 5) (v := _) rfl (by kernel_rfl) (by kernel_rfl) (by kernel_rfl) (fun _ _ _ h => h) (Or.inl ⟨by rfl, (by intro w hSw; (try dsimp only at hSw); go_simp; try with_reducible rfl)⟩) (by assumption) ?_
      go_simp
      refine wpAnyH_take (i := 6) (v := _) rfl (by kernel_rfl) (by kernel_rfl) (by kernel_rfl) (fun _ _ _ h => h) (Or.inl ⟨by rfl, (by intro w hSw; (try dsimp only at hSw); go_simp; try with_reducible rfl)⟩) (by assumption) ?_
      go_simp
      refine wpAnyH_ready (rs := [7]) (by kernel_rfl) (by simp) ?_
      refine AllReadyH.cons rfl (fun K hK => ?_) AllReadyH.nil
      go_simp
      refine (l00Max_c _ _ _).mono ?_
      rintro e w' ⟨rfl, rfl⟩
      rw [hq4]
      go_simp
      refine hK.out _ _ E.out.ball (fun hHeld => ?_)
      clear hK K
      go_simp
      refine wpAnyH_ready (rs := [8]) (by kernel_rfl) (by simp) ?_
      refine AllReadyH.cons rfl (fun K hK => ?_) AllReadyH.nil
      go_simp
      refine (l00Min_c _ _ _).mono ?_
      rintro e w' ⟨rfl, rfl⟩
      rw [hq5]
      go_simp
      refine hK.out _ _ E.out.ball (fun hHeld => ?_)
      clear hK K
      go_simp
      refine wpAnyH_take (i := 9) (v := _) rfl (by kernel_rfl) (by kernel_rfl) (by kernel_rfl) (fun _ _ _ h => h) (Or.inl ⟨by rfl, (by intro w hSw; (try dsimp only at hSw); go_simp; try with_reducible rfl)⟩) (by assumption) ?_
      go_simp
      refine wpAnyH_ready (rs := [10]) (by kernel_rfl) (by simp) ?_
      refine AllReadyH.cons rfl (fun K hK => ?_) AllReadyH.nil
      refine cast (if_pos (by rfl)).symm ?_
      refine wp_store_own 2 (.tmp 26) (.tmp 25) rfl bx 30 bx 6 6 (lastC (⟨nm, f.Length + 5 * p0, 0, 0, 0, 0⟩ : Last)) 2 2 ⟨.int .i64 (f.Ball + 5 * p1 - 100), rfl⟩ rfl rfl rfl (by kernel_rfl) rfl E.out.var (by show 2 < 6; omega) ?_
      intro wq hV hgq
      replace hV : Own bx wq 30 (.slice (some ⟨bx, 0, none⟩) 6 6) (lastC (⟨nm, f.Length + 5 * p0, f.Ball + 5 * p1 - 100, 0, 0, 0⟩ : Last)) := hV
      replace E := Lib.hid (E.out.put hgl hV hgq)
      clear hV hgq
      refine hK.out _ _ E.out.ball (fun hHeld => ?_)
      clear hK K
      go_simp
      refine wpAnyH_done (by kernel_rfl) ?_ _
      clear hq1 hq2 hq3 hq4 hq5
      go_wp2_with fail
      refine wp_region_held_drew (S := (fun w' => w'.cell? ⟨w.heap.size, 2, none⟩ = some (.int .i64 f.Instep))) (by kernel_rfl) E.out.instep (fun hHeld => ?_)
      replace E := Lib.hid (E.out.later (Below.refl _ _).drew)
      refine wpAnyH_take (i := 0) (v := _) rfl (by kernel_rfl) (by kernel_rfl) (by kernel_rfl) (fun _ _ _ h => h) (Or.inl ⟨by rfl, (by intro w hSw; (try dsimp only at hSw); go_simp; try with_reducible rfl)⟩) (by assumption) ?_
      go_simp
      refine wpAnyH_take (i := 1) (v := _) rfl (by kernel_rfl) (by kernel_rfl) (by kernel_rfl) (fun _ _ _ h => h) (Or.inl ⟨by rfl, (by intro w hSw; (try dsimp only at hSw); go_simp; try with_reducible rfl)⟩) (by assumption) ?_
      go_simp
      refine wpAnyH_take (i := 2) (v := _) rfl (by kernel_rfl) (by kernel_rfl) (by kernel_rfl) (fun _ _ _ h => h) (Or.inl ⟨by rfl, (by intro w hSw; (try dsimp only at hSw); go_simp; try with_reducible rfl)⟩) (by assumption) ?_
      go_simp
      refine wpAnyH_ready (rs := [3]) (by kernel_rfl) (by simp) ?_
      refine AllReadyH.cons rfl (fun K hK => ?_) AllReadyH.nil
      go_simp
      refine (pick_c g (M + 4) 40 _ E.out.src (by omega) (by omega)).mono ?_
      rintro e wa ⟨p2, rfl, hp0, hp1, hSp, hgp⟩
      replace E := Lib.hid (E.out.drew hgl hSp hgp)
      clear hSp hgp
      have hp2 : p2 < 40 := by omega
      clear hp1
      have hq1 : IntKind.i64.wrap (5 * p2) = 5 * p2 := IntWalk.i64_in _ (by omega)
      have hq2 : IntKind.i64.wrap (f.Instep + 5 * p2) = f.Instep + 5 * p2 := IntWalk.i64_in _ (by omega)
      have hq3 : IntKind.i64.wrap (f.Instep + 5 * p2 - 100) = f.Instep + 5 * p2 - 100 := IntWalk.i64_in _ (by omega)
      have hq4 : max 500 (f.Instep + 5 * p2 - 100) = f.Instep + 5 * p2 - 100 := by omega
      have hq5 : min 5000 (f.Instep + 5 * p2 - 100) = f.Instep + 5 * p2 - 100 := by omega
      go_simp
      refine hK.out _ _ E.out.instep (fun hHeld => ?_)
      clear hK K
      go_simp
      refine wpAnyH_take (i := 4) (v := _) rfl (by kernel_rfl) (by kernel_rfl) (by kernel_rfl) (fun _ _ _ h => h) (Or.inl ⟨by rfl, (by intro w hSw; (try dsimp only at hSw); go_simp; try with_reducible rfl)⟩) (by assumption) ?_
      go_simp
      refine wpAnyH_take (i := 5) (v := _) rfl (by kernel_rfl) (by kernel_rfl) (by kernel_rfl) (fun _ _ _ h => h) (Or.inl ⟨by rfl, (by intro w hSw; (try dsimp only at hSw); go_simp; try with_reducible rfl)⟩) (by assumption) ?_
      go_simp
      refine wpAnyH_take (i := 6) (v := _) rfl (by kernel_rfl) (by kernel_rfl) (by kernel_rfl) (fun _ _ _ h => h) (Or.inl ⟨by rfl, (by intro w hSw; (try dsimp only at hSw); go_simp; try with_reducible rfl)⟩) (by assumption) ?_
      go_simp
      refine wpAnyH_ready (rs := [7]) (by kernel_rfl) (by simp) ?_
      refine AllReadyH.cons rfl (fun K hK => ?_) AllReadyH.nil
      go_simp
      refine (l00Max_c _ _ _).mono ?_
      rintro e w' ⟨rfl, rfl⟩
      rw [hq4]
      go_simp
      refine hK.out _ _ E.out.instep (fun hHeld => ?_)
      clear hK K
      go_simp
      refine wpAnyH_ready (rs := [8]) (by kernel_rfl) (by simp) ?_
      refine AllReadyH.cons rfl (fun K hK => ?_) AllReadyH.nil
      go_simp
      refine (l00Min_c _ _ _).mono ?_
      rintro e w' ⟨rfl, rfl⟩
      rw [hq5]
      go_simp
      refine hK.out _ _ E.out.instep (fun hHeld => ?_)
      clear hK K
      go_simp
      refine wpAnyH_take (i := 9) (v := _) rfl (by kernel_rfl) (by kernel_rfl) (by kernel_rfl) (fun _ _ _ h => h) (Or.inl ⟨by rfl, (by intro w hSw; (try dsimp only at hSw); go_simp; try with_reducible rfl)⟩) (by assumption) ?_
      go_simp
      refine wpAnyH_ready (rs := [10]) (by kernel_rfl) (by simp) ?_
      refine AllReadyH.cons rfl (fun K hK => ?_) AllReadyH.nil
      refine cast (if_pos (by rfl)).symm ?_
      refine wp_store_own 2 (.tmp 36) (.tmp 35) rfl bx 30 bx 6 6 (lastC (⟨nm, f.Length + 5 * p0, f.Ball + 5 * p1 - 100, 0, 0, 0⟩ : Last)) 3 3 ⟨.int .i64 (f.Instep + 5 * p2 - 100), rfl⟩ rfl rfl rfl (by kernel_rfl) rfl E.out.var (by show 3 < 6; omega) ?_
      intro wq hV hgq
      replace hV : Own bx wq 30 (.slice (some ⟨bx, 0, none⟩) 6 6) (lastC (⟨nm, f.Length + 5 * p0, f.Ball + 5 * p1 - 100, f.Instep + 5 * p2 - 100, 0, 0⟩ : Last)) := hV
      replace E := Lib.hid (E.out.put hgl hV hgq)
      clear hV hgq
      refine hK.out _ _ E.out.instep (fun hHeld => ?_)
      clear hK K
      go_simp
      refine wpAnyH_done (by kernel_rfl) ?_ _
      clear hq1 hq2 hq3 hq4 hq5
      go_wp2_with fail
      refine wp_region_held_drew (S := (fun w' => w'.cell? ⟨w.heap.size, 3, none⟩ = some (.int .i64 f.Heel))) (by kernel_rfl) E.out.heel (fun hHeld => ?_)
      replace E := Lib.hid (E.out.later (Below.refl _ _).drew)
      refine wpAnyH_take (i := 0) (v := _) rfl (by kernel_rfl) (by kernel_rfl) (by kernel_rfl) (fun _ _ _ h => h) (Or.inl ⟨by rfl, (by intro w hSw; (try dsimp only at hSw); go_simp; try with_reducible rfl)⟩) (by assumption) ?_
      go_simp
      refine wpAnyH_take (i := 1) (v := _) rfl (by kernel_rfl) (by kernel_rfl) (by kernel_rfl) (fun _ _ _ h => h) (Or.inl ⟨by rfl, (by intro w hSw; (try dsimp only at hSw); go_simp; try with_reducible rfl)⟩) (by assumption) ?_
      go_simp
      refine wpAnyH_take (i := 2) (v := _) rfl (by kernel_rfl) (by kernel_rfl) (by kernel_rfl) (fun _ _ _ h => h) (Or.inl ⟨by rfl, (by intro w hSw; (try dsimp only at hSw); go_simp; try with_reducible rfl)⟩) (by assumption) ?_
      go_simp
      refine wpAnyH_ready (rs := [3]) (by kernel_rfl) (by simp) ?_
      refine AllReadyH.cons rfl (fun K hK => ?_) AllReadyH.nil
      go_simp
      refine (pick_c g (M + 2) 40 _ E.out.src (by omega) (by omega)).mono ?_
      rintro e wa ⟨p3, rfl, hp0, hp1, hSp, hgp⟩
      replace E := Lib.hid (E.out.drew hgl hSp hgp)
      clear hSp hgp
      have hp2 : p3 < 40 := by omega
      clear hp1
      have hq1 : IntKind.i64.wrap (5 * p3) = 5 * p3 := IntWalk.i64_in _ (by omega)
      have hq2 : IntKind.i64.wrap (f.Heel + 5 * p3) = f.Heel + 5 * p3 := IntWalk.i64_in _ (by omega)
      have hq3 : IntKind.i64.wrap (f.Heel + 5 * p3 - 100) = f.Heel + 5 * p3 - 100 := IntWalk.i64_in _ (by omega)
      have hq4 : max 500 (f.Heel + 5 * p3 - 100) = f.Heel + 5 * p3 - 100 := by omega
      have hq5 : min 5000 (f.Heel + 5 * p3 - 100) = f.Heel + 5 * p3 - 100 := by omega
      go_simp
      refine hK.out _ _ E.out.heel (fun hHeld => ?_)
      clear hK K
      go_simp
      refine wpAnyH_take (i := 4) (v := _) rfl (by kernel_rfl) (by kernel_rfl) (by kernel_rfl) (fun _ _ _ h => h) (Or.inl ⟨by rfl, (by intro w hSw; (try dsimp only at hSw); go_simp; try with_reducible rfl)⟩) (by assumption) ?_
      go_simp
      refine wpAnyH_take (i := 5) (v := _) rfl (by kernel_rfl) (by kernel_rfl) (by kernel_rfl) (fun _ _ _ h => h) (Or.inl ⟨by rfl, (by intro w hSw; (try dsimp only at hSw); go_simp; try with_reducible rfl)⟩) (by assumption) ?_
      go_simp
      refine wpAnyH_take (i := 6) (v := _) rfl (by kernel_rfl) (by kernel_rfl) (by kernel_rfl) (fun _ _ _ h => h) (Or.inl ⟨by rfl, (by intro w hSw; (try dsimp only at hSw); go_simp; try with_reducible rfl)⟩) (by assumption) ?_
      go_simp
      refine wpAnyH_ready (rs := [7]) (by kernel_rfl) (by simp) ?_
      refine AllReadyH.cons rfl (fun K hK => ?_) AllReadyH.nil
      go_simp
      refine (l00Max_c _ _ _).mono ?_
      rintro e w' ⟨rfl, rfl⟩
      rw [hq4]
      go_simp
      refine hK.out _ _ E.out.heel (fun hHeld => ?_)
      clear hK K
      go_simp
      refine wpAnyH_ready (rs := [8]) (by kernel_rfl) (by simp) ?_
      refine AllReadyH.cons rfl (fun K hK => ?_) AllReadyH.nil
      go_simp
      refine (l00Min_c _ _ _).mono ?_
      rintro e w' ⟨rfl, rfl⟩
      rw [hq5]
      go_simp
      refine hK.out _ _ E.out.heel (fun hHeld => ?_)
      clear hK K
      go_simp
      refine wpAnyH_take (i := 9) (v := _) rfl (by kernel_rfl) (by kernel_rfl) (by kernel_rfl) (fun _ _ _ h => h) (Or.inl ⟨by rfl, (by intro w hSw; (try dsimp only at hSw); go_simp; try with_reducible rfl)⟩) (by assumption) ?_
      go_simp
      refine wpAnyH_ready (rs := [10]) (by kernel_rfl) (by simp) ?_
      refine AllReadyH.cons rfl (fun K hK => ?_) AllReadyH.nil
      refine cast (if_pos (by rfl)).symm ?_
      refine wp_store_own 2 (.tmp 46) (.tmp 45) rfl bx 30 bx 6 6 (lastC (⟨nm, f.Length + 5 * p0, f.Ball + 5 * p1 - 100, f.Instep + 5 * p2 - 100, 0, 0⟩ : Last)) 4 4 ⟨.int .i64 (f.Heel + 5 * p3 - 100), rfl⟩ rfl rfl rfl (by kernel_rfl) rfl E.out.var (by show 4 < 6; omega) ?_
      intro wq hV hgq
      replace hV : Own bx wq 30 (.slice (some ⟨bx, 0, none⟩) 6 6) (lastC (⟨nm, f.Length + 5 * p0, f.Ball + 5 * p1 - 100, f.Instep + 5 * p2 - 100, f.Heel + 5 * p3 - 100, 0⟩ : Last)) := hV
      replace E := Lib.hid (E.out.put hgl hV hgq)
      clear hV hgq
      refine hK.out _ _ E.out.heel (fun hHeld => ?_)
      clear hK K
      go_simp
      refine wpAnyH_done (by kernel_rfl) ?_ _
      clear hq1 hq2 hq3 hq4 hq5
      go_wp2_with fail
      refine (pick_c g M 60 _ E.out.src (by omega) (by omega)).mono ?_
      rintro e wa ⟨p4, rfl, hp40, hp41, hSp, hgp⟩
      replace E := Lib.hid (E.out.drew hgl hSp hgp)
      clear hSp hgp
      have hp42 : p4 < 60 := by omega
      clear hp41
      go_wp2_with (first | (refine wpList_store_own rfl 2 (.tmp 50) (.tmp 49) rfl bx 30 _ 6 6 _ 5 _ ⟨.int .i64 (10 * p4), rfl⟩ rfl rfl rfl (by kernel_rfl) rfl E.out.var (by show 5 < 6; omega) ?_; intro wy hV hgq; replace hV : Own bx wy 30 (.slice (some ⟨bx, 0, none⟩) 6 6) (lastC (⟨nm, f.Length + 5 * p0, f.Ball + 5 * p1 - 100, f.Instep + 5 * p2 - 100, f.Heel + 5 * p3 - 100, 10 * p4⟩ : Last)) := hV; replace E := Lib.hid (E.out.put hgl hV hgq); clear hV hgq; obtain ⟨c0, c1, c2, c3, c4, c5⟩ := lastC_cells E.out.var) | (refine wpList_store_own rfl 30 (.tmp 6) (.tmp 51) rfl (w.heap.size + 1) 30 _ 1 1 ([⟨ByteArray.empty, 0, 0, 0, 0, 0⟩] : List Last) 0 _ (⟨nm, f.Length + 5 * p0, f.Ball + 5 * p1 - 100, f.Instep + 5 * p2 - 100, f.Heel + 5 * p3 - 100, 10 * p4⟩ : Last) rfl rfl rfl (by kernel_rfl) rfl E.out.res (by simp) ?_; intro wz hR hgz))
      obtain ⟨q0, q1, q2, q3, q4, q5⟩ := last1_cells hR
      have hSz := E.out.src.markL E.out.res (by omega) hgz
      have hGz := marked_up E.out.up E.out.res (by omega) hgz
      refine bodyPost_ret (v := .agg #[.string nm, .int .i64 (f.Length + 5 * p0), .int .i64 (f.Ball + 5 * p1 - 100), .int .i64 (f.Instep + 5 * p2 - 100), .int .i64 (f.Heel + 5 * p3 - 100), .int .i64 (10 * p4)]) (by simp [results, Tryz.results40, go_sem, q0, q1, q2, q3, q4, q5]) rfl ?_
      refine ⟨(⟨nm, f.Length + 5 * p0, f.Ball + 5 * p1 - 100, f.Instep + 5 * p2 - 100, f.Heel + 5 * p3 - 100, 10 * p4⟩ : Last), rfl, ⟨rfl, ?_, ?_, ?_, ?_, ?_⟩, hSz, hGz⟩
      · show f.Length ≤ f.Length + 5 * p0 ∧ f.Length + 5 * p0 ≤ f.Length + 195; omega
      · show f.Ball - 100 ≤ f.Ball + 5 * p1 - 100 ∧ f.Ball + 5 * p1 - 100 ≤ f.Ball + 95; omega
      · show f.Instep - 100 ≤ f.Instep + 5 * p2 - 100 ∧ f.Instep + 5 * p2 - 100 ≤ f.Instep + 95; omega
      · show f.Heel - 100 ≤ f.Heel + 5 * p3 - 100 ∧ f.Heel + 5 * p3 - 100 ≤ f.Heel + 95; omega
      · show 0 ≤ 10 * p4 ∧ 10 * p4 ≤ 590; omega
    · go_simp
      obtain ⟨bx, hbx⟩ : ∃ bx, bx = wp.heap.size := ⟨_, rfl⟩
      have hfar := D.out.far
      have V := Lib.hid (own_last1 wp 30 ⟨ByteArray.empty, 0, 0, 0, 0, 0⟩)
      rw [← hbx] at V hfar
      replace D := Lib.hid (D.out.later (hz wp))
      go_simp
      refine hK.out _ _ D.out.length (fun hHeld => ?_)
      clear hK K
      go_simp
      refine wpAnyH_ready (rs := [7]) (by kernel_rfl) (by simp) ?_
      refine AllReadyH.cons rfl (fun K hK => ?_) AllReadyH.nil
      have hq0 : min 5000 (f.Length + 5 * p0) = f.Length + 5 * p0 := by omega
      go_simp
      refine (l00Min_c _ _ _).mono ?_
      rintro e w' ⟨rfl, rfl⟩
      rw [hq0]
      go_simp
      refine hK.out _ _ D.out.length (fun hHeld => ?_)
      clear hK K
      go_simp
      refine wpAnyH_take (i := 8) (v := _) rfl (by kernel_rfl) (by kernel_rfl) (by kernel_rfl) (fun _ _ _ h => h) (Or.inl ⟨by rfl, (by intro w hSw; (try dsimp only at hSw); go_simp; try with_reducible rfl)⟩) (by assumption) ?_
      go_simp
      refine wpAnyH_ready (rs := [10]) (by kernel_rfl) (by simp) ?_
      refine AllReadyH.cons rfl (fun K hK => ?_) AllReadyH.nil
      refine cast (if_pos (by rfl)).symm ?_
      refine wp_store_own 30 (.tmp 7) (.tmp 16) rfl bx 30 bx 1 1 ([⟨ByteArray.empty, 0, 0, 0, 0, 0⟩] : List Last) 0 _ (⟨nm, f.Length + 5 * p0, 0, 0, 0, 0⟩ : Last) (by rw [hbx]; rfl) rfl rfl (by kernel_rfl) rfl V.out (by simp) ?_
      intro wq hV hgq
      replace hV : Own bx wq 30 (.slice (some ⟨bx, 0, none⟩) 1 1) ([⟨nm, f.Length + 5 * p0, 0, 0, 0, 0⟩] : List Last) := hV
      have E := Lib.hid (D.out.put hgl V.out hfar hV hgq)
      refine hK.out _ _ (by exact (footC_cells E.out.foot).1) (fun hHeld => ?_)
      clear hK K V hV hgq D
      go_simp
      refine wpAnyH_done (by kernel_rfl) ?_ _
      rw [show wp.heap.size = bx from hbx.symm]
      clear hbx
      clear hq0 hq1 hq2 hHeld
      have hp02 : p0 < 40 := by omega
      clear p01
      go_wp2_with fail
      refine wp_region_held_drew (S := (fun w' => w'.cell? ⟨w.heap.size, 1, none⟩ = some (.int .i64 f.Ball))) (by kernel_rfl) E.out.ball (fun hHeld => ?_)
      replace E := Lib.hid (E.out.later (Below.refl _ _).drew)
      refine wpAnyH_take (i := 0) (v := _) rfl (by kernel_rfl) (by kernel_rfl) (by kernel_rfl) (fun _ _ _ h => h) (Or.inl ⟨by rfl, (by intro w hSw; (try dsimp only at hSw); go_simp; try with_reducible rfl)⟩) (by assumption) ?_
      go_simp
      refine wpAnyH_take (i := 1) (v := _) rfl (by kernel_rfl) (by kernel_rfl) (by kernel_rfl) (fun _ _ _ h => h) (Or.inl ⟨by rfl, (by intro w hSw; (try dsimp only at hSw); go_simp; try with_reducible rfl)⟩) (by assumption) ?_
      go_simp
      refine wpAnyH_take (i := 2) (v := _) rfl (by kernel_rfl) (by kernel_rfl) (by kernel_rfl) (fun _ _ _ h => h) (Or.inl ⟨by rfl, (by intro w hSw; (try dsimp only at hSw); go_simp; try with_reducible rfl)⟩) (by assumption) ?_
      go_simp
      refine wpAnyH_ready (rs := [3]) (by kernel_rfl) (by simp) ?_
      refine AllReadyH.cons rfl (fun K hK => ?_) AllReadyH.nil
      go_simp
      refine (pick_c g (M + 6) 40 _ E.out.src (by omega) (by omega)).mono ?_
      rintro e wa ⟨p1, rfl, hp0, hp1, hSp, hgp⟩
      replace E := Lib.hid (E.out.drew hgl hSp hgp)
      clear hSp hgp
      have hp2 : p1 < 40 := by omega
      clear hp1
      have hq1 : IntKind.i64.wrap (5 * p1) = 5 * p1 := IntWalk.i64_in _ (by omega)
      have hq2 : IntKind.i64.wrap (f.Ball + 5 * p1) = f.Ball + 5 * p1 := IntWalk.i64_in _ (by omega)
      have hq3 : IntKind.i64.wrap (f.Ball + 5 * p1 - 100) = f.Ball + 5 * p1 - 100 := IntWalk.i64_in _ (by omega)
      have hq4 : max 500 (f.Ball + 5 * p1 - 100) = f.Ball + 5 * p1 - 100 := by omega
      have hq5 : min 5000 (f.Ball + 5 * p1 - 100) = f.Ball + 5 * p1 - 100 := by omega
      go_simp
      refine hK.out _ _ E.out.ball (fun hHeld => ?_)
      clear hK K
      go_simp
      refine wpAnyH_take (i := 4) (v := _) rfl (by kernel_rfl) (by kernel_rfl) (by kernel_rfl) (fun _ _ _ h => h) (Or.inl ⟨by rfl, (by intro w hSw; (try dsimp only at hSw); go_simp; try with_reducible rfl)⟩) (by assumption) ?_
      go_simp
      refine wpAnyH_take (i := 5) (v := _) rfl (by kernel_rfl) (by kernel_rfl) (by kernel_rfl) (fun _ _ _ h => h) (Or.inl ⟨by rfl, (by intro w hSw; (try dsimp only at hSw); go_simp; try with_reducible rfl)⟩) (by assumption) ?_
      go_simp
      refine wpAnyH_take (i := 6) (v := _) rfl (by kernel_rfl) (by kernel_rfl) (by kernel_rfl) (fun _ _ _ h => h) (Or.inl ⟨by rfl, (by intro w hSw; (try dsimp only at hSw); go_simp; try with_reducible rfl)⟩) (by assumption) ?_
      go_simp
      refine wpAnyH_ready (rs := [7]) (by kernel_rfl) (by simp) ?_
      refine AllReadyH.cons rfl (fun K hK => ?_) AllReadyH.nil
      go_simp
      refine (l00Max_c _ _ _).mono ?_
      rintro e w' ⟨rfl, rfl⟩
      rw [hq4]
      go_simp
      refine hK.out _ _ E.out.ball (fun hHeld => ?_)
      clear hK K
      go_simp
      refine wpAnyH_ready (rs := [8]) (by kernel_rfl) (by simp) ?_
      refine AllReadyH.cons rfl (fun K hK => ?_) AllReadyH.nil
      go_simp
      refine (l00Min_c _ _ _).mono ?_
      rintro e w' ⟨rfl, rfl⟩
      rw [hq5]
      go_simp
      refine hK.out _ _ E.out.ball (fun hHeld => ?_)
      clear hK K
      go_simp
      refine wpAnyH_take (i := 9) (v := _) rfl (by kernel_rfl) (by kernel_rfl) (by kernel_rfl) (fun _ _ _ h => h) (Or.inl ⟨by rfl, (by intro w hSw; (try dsimp only at hSw); go_simp; try with_reducible rfl)⟩) (by assumption) ?_
      go_simp
      refine wpAnyH_ready (rs := [10]) (by kernel_rfl) (by simp) ?_
      refine AllReadyH.cons rfl (fun K hK => ?_) AllReadyH.nil
      refine cast (if_pos (by rfl)).symm ?_
      refine wp_store_own 2 (.tmp 26) (.tmp 25) rfl bx 30 bx 6 6 (lastC (⟨nm, f.Length + 5 * p0, 0, 0, 0, 0⟩ : Last)) 2 2 ⟨.int .i64 (f.Ball + 5 * p1 - 100), rfl⟩ rfl rfl rfl (by kernel_rfl) rfl E.out.var (by show 2 < 6; omega) ?_
      intro wq hV hgq
      replace hV : Own bx wq 30 (.slice (some ⟨bx, 0, none⟩) 6 6) (lastC (⟨nm, f.Length + 5 * p0, f.Ball + 5 * p1 - 100, 0, 0, 0⟩ : Last)) := hV
      replace E := Lib.hid (E.out.put hgl hV hgq)
      clear hV hgq
      refine hK.out _ _ E.out.ball (fun hHeld => ?_)
      clear hK K
      go_simp
      refine wpAnyH_done (by kernel_rfl) ?_ _
      clear hq1 hq2 hq3 hq4 hq5
      go_wp2_with fail
      refine wp_region_held_drew (S := (fun w' => w'.cell? ⟨w.heap.size, 2, none⟩ = some (.int .i64 f.Instep))) (by kernel_rfl) E.out.instep (fun hHeld => ?_)
      replace E := Lib.hid (E.out.later (Below.refl _ _).drew)
      refine wpAnyH_take (i := 0) (v := _) rfl (by kernel_rfl) (by kernel_rfl) (by kernel_rfl) (fun _ _ _ h => h) (Or.inl ⟨by rfl, (by intro w hSw; (try dsimp only at hSw); go_simp; try with_reducible rfl)⟩) (by assumption) ?_
      go_simp
      refine wpAnyH_take (i := 1) (v := _) rfl (by kernel_rfl) (by kernel_rfl) (by kernel_rfl) (fun _ _ _ h => h) (Or.inl ⟨by rfl, (by intro w hSw; (try dsimp only at hSw); go_simp; try with_reducible rfl)⟩) (by assumption) ?_
      go_simp
      refine wpAnyH_take (i := 2) (v := _) rfl (by kernel_rfl) (by kernel_rfl) (by kernel_rfl) (fun _ _ _ h => h) (Or.inl ⟨by rfl, (by intro w hSw; (try dsimp only at hSw); go_simp; try with_reducible rfl)⟩) (by assumption) ?_
      go_simp
      refine wpAnyH_ready (rs := [3]) (by kernel_rfl) (by simp) ?_
      refine AllReadyH.cons rfl (fun K hK => ?_) AllReadyH.nil
      go_simp
      refine (pick_c g (M + 4) 40 _ E.out.src (by omega) (by omega)).mono ?_
      rintro e wa ⟨p2, rfl, hp0, hp1, hSp, hgp⟩
      replace E := Lib.hid (E.out.drew hgl hSp hgp)
      clear hSp hgp
      have hp2 : p2 < 40 := by omega
      clear hp1
      have hq1 : IntKind.i64.wrap (5 * p2) = 5 * p2 := IntWalk.i64_in _ (by omega)
      have hq2 : IntKind.i64.wrap (f.Instep + 5 * p2) = f.Instep + 5 * p2 := IntWalk.i64_in _ (by omega)
      have hq3 : IntKind.i64.wrap (f.Instep + 5 * p2 - 100) = f.Instep + 5 * p2 - 100 := IntWalk.i64_in _ (by omega)
      have hq4 : max 500 (f.Instep + 5 * p2 - 100) = f.Instep + 5 * p2 - 100 := by omega
      have hq5 : min 5000 (f.Instep + 5 * p2 - 100) = f.Instep + 5 * p2 - 100 := by omega
      go_simp
      refine hK.out _ _ E.out.instep (fun hHeld => ?_)
      clear hK K
      go_simp
      refine wpAnyH_take (i := 4) (v := _) rfl (by kernel_rfl) (by kernel_rfl) (by kernel_rfl) (fun _ _ _ h => h) (Or.inl ⟨by rfl, (by intro w hSw; (try dsimp only at hSw); go_simp; try with_reducible rfl)⟩) (by assumption) ?_
      go_simp
      refine wpAnyH_take (i := 5) (v := _) rfl (by kernel_rfl) (by kernel_rfl) (by kernel_rfl) (fun _ _ _ h => h) (Or.inl ⟨by rfl, (by intro w hSw; (try dsimp only at hSw); go_simp; try with_reducible rfl)⟩) (by assumption) ?_
      go_simp
      refine wpAnyH_take (i := 6) (v := _) rfl (by kernel_rfl) (by kernel_rfl) (by kernel_rfl) (fun _ _ _ h => h) (Or.inl ⟨by rfl, (by intro w hSw; (try dsimp only at hSw); go_simp; try with_reducible rfl)⟩) (by assumption) ?_
      go_simp
      refine wpAnyH_ready (rs := [7]) (by kernel_rfl) (by simp) ?_
      refine AllReadyH.cons rfl (fun K hK => ?_) AllReadyH.nil
      go_simp
      refine (l00Max_c _ _ _).mono ?_
      rintro e w' ⟨rfl, rfl⟩
      rw [hq4]
      go_simp
      refine hK.out _ _ E.out.instep (fun hHeld => ?_)
      clear hK K
      go_simp
      refine wpAnyH_ready (rs := [8]) (by kernel_rfl) (by simp) ?_
      refine AllReadyH.cons rfl (fun K hK => ?_) AllReadyH.nil
      go_simp
      refine (l00Min_c _ _ _).mono ?_
      rintro e w' ⟨rfl, rfl⟩
      rw [hq5]
      go_simp
      refine hK.out _ _ E.out.instep (fun hHeld => ?_)
      clear hK K
      go_simp
      refine wpAnyH_take (i := 9) (v := _) rfl (by kernel_rfl) (by kernel_rfl) (by kernel_rfl) (fun _ _ _ h => h) (Or.inl ⟨by rfl, (by intro w hSw; (try dsimp only at hSw); go_simp; try with_reducible rfl)⟩) (by assumption) ?_
      go_simp
      refine wpAnyH_ready (rs := [10]) (by kernel_rfl) (by simp) ?_
      refine AllReadyH.cons rfl (fun K hK => ?_) AllReadyH.nil
      refine cast (if_pos (by rfl)).symm ?_
      refine wp_store_own 2 (.tmp 36) (.tmp 35) rfl bx 30 bx 6 6 (lastC (⟨nm, f.Length + 5 * p0, f.Ball + 5 * p1 - 100, 0, 0, 0⟩ : Last)) 3 3 ⟨.int .i64 (f.Instep + 5 * p2 - 100), rfl⟩ rfl rfl rfl (by kernel_rfl) rfl E.out.var (by show 3 < 6; omega) ?_
      intro wq hV hgq
      replace hV : Own bx wq 30 (.slice (some ⟨bx, 0, none⟩) 6 6) (lastC (⟨nm, f.Length + 5 * p0, f.Ball + 5 * p1 - 100, f.Instep + 5 * p2 - 100, 0, 0⟩ : Last)) := hV
      replace E := Lib.hid (E.out.put hgl hV hgq)
      clear hV hgq
      refine hK.out _ _ E.out.instep (fun hHeld => ?_)
      clear hK K
      go_simp
      refine wpAnyH_done (by kernel_rfl) ?_ _
      clear hq1 hq2 hq3 hq4 hq5
      go_wp2_with fail
      refine wp_region_held_drew (S := (fun w' => w'.cell? ⟨w.heap.size, 3, none⟩ = some (.int .i64 f.Heel))) (by kernel_rfl) E.out.heel (fun hHeld => ?_)
      replace E := Lib.hid (E.out.later (Below.refl _ _).drew)
      refine wpAnyH_take (i := 0) (v := _) rfl (by kernel_rfl) (by kernel_rfl) (by kernel_rfl) (fun _ _ _ h => h) (Or.inl ⟨by rfl, (by intro w hSw; (try dsimp only at hSw); go_simp; try with_reducible rfl)⟩) (by assumption) ?_
      go_simp
      refine wpAnyH_take (i := 1) (v := _) rfl (by kernel_rfl) (by kernel_rfl) (by kernel_rfl) (fun _ _ _ h => h) (Or.inl ⟨by rfl, (by intro w hSw; (try dsimp only at hSw); go_simp; try with_reducible rfl)⟩) (by assumption) ?_
      go_simp
      refine wpAnyH_take (i := 2) (v := _) rfl (by kernel_rfl) (by kernel_rfl) (by kernel_rfl) (fun _ _ _ h => h) (Or.inl ⟨by rfl, (by intro w hSw; (try dsimp only at hSw); go_simp; try with_reducible rfl)⟩) (by assumption) ?_
      go_simp
      refine wpAnyH_ready (rs := [3]) (by kernel_rfl) (by simp) ?_
      refine AllReadyH.cons rfl (fun K hK => ?_) AllReadyH.nil
      go_simp
      refine (pick_c g (M + 2) 40 _ E.out.src (by omega) (by omega)).mono ?_
      rintro e wa ⟨p3, rfl, hp0, hp1, hSp, hgp⟩
      replace E := Lib.hid (E.out.drew hgl hSp hgp)
      clear hSp hgp
      have hp2 : p3 < 40 := by omega
      clear hp1
      have hq1 : IntKind.i64.wrap (5 * p3) = 5 * p3 := IntWalk.i64_in _ (by omega)
      have hq2 : IntKind.i64.wrap (f.Heel + 5 * p3) = f.Heel + 5 * p3 := IntWalk.i64_in _ (by omega)
      have hq3 : IntKind.i64.wrap (f.Heel + 5 * p3 - 100) = f.Heel + 5 * p3 - 100 := IntWalk.i64_in _ (by omega)
      have hq4 : max 500 (f.Heel + 5 * p3 - 100) = f.Heel + 5 * p3 - 100 := by omega
      have hq5 : min 5000 (f.Heel + 5 * p3 - 100) = f.Heel + 5 * p3 - 100 := by omega
      go_simp
      refine hK.out _ _ E.out.heel (fun hHeld => ?_)
      clear hK K
      go_simp
      refine wpAnyH_take (i := 4) (v := _) rfl (by kernel_rfl) (by kernel_rfl) (by kernel_rfl) (fun _ _ _ h => h) (Or.inl ⟨by rfl, (by intro w hSw; (try dsimp only at hSw); go_simp; try with_reducible rfl)⟩) (by assumption) ?_
      go_simp
      refine wpAnyH_take (i := 5) (v := _) rfl (by kernel_rfl) (by kernel_rfl) (by kernel_rfl) (fun _ _ _ h => h) (Or.inl ⟨by rfl, (by intro w hSw; (try dsimp only at hSw); go_simp; try with_reducible rfl)⟩) (by assumption) ?_
      go_simp
      refine wpAnyH_take (i := 6) (v := _) rfl (by kernel_rfl) (by kernel_rfl) (by kernel_rfl) (fun _ _ _ h => h) (Or.inl ⟨by rfl, (by intro w hSw; (try dsimp only at hSw); go_simp; try with_reducible rfl)⟩) (by assumption) ?_
      go_simp
      refine wpAnyH_ready (rs := [7]) (by kernel_rfl) (by simp) ?_
      refine AllReadyH.cons rfl (fun K hK => ?_) AllReadyH.nil
      go_simp
      refine (l00Max_c _ _ _).mono ?_
      rintro e w' ⟨rfl, rfl⟩
      rw [hq4]
      go_simp
      refine hK.out _ _ E.out.heel (fun hHeld => ?_)
      clear hK K
      go_simp
      refine wpAnyH_ready (rs := [8]) (by kernel_rfl) (by simp) ?_
      refine AllReadyH.cons rfl (fun K hK => ?_) AllReadyH.nil
      go_simp
      refine (l00Min_c _ _ _).mono ?_
      rintro e w' ⟨rfl, rfl⟩
      rw [hq5]
      go_simp
      refine hK.out _ _ E.out.heel (fun hHeld => ?_)
      clear hK K
      go_simp
      refine wpAnyH_take (i := 9) (v := _) rfl (by kernel_rfl) (by kernel_rfl) (by kernel_rfl) (fun _ _ _ h => h) (Or.inl ⟨by rfl, (by intro w hSw; (try dsimp only at hSw); go_simp; try with_reducible rfl)⟩) (by assumption) ?_
      go_simp
      refine wpAnyH_ready (rs := [10]) (by kernel_rfl) (by simp) ?_
      refine AllReadyH.cons rfl (fun K hK => ?_) AllReadyH.nil
      refine cast (if_pos (by rfl)).symm ?_
      refine wp_store_own 2 (.tmp 46) (.tmp 45) rfl bx 30 bx 6 6 (lastC (⟨nm, f.Length + 5 * p0, f.Ball + 5 * p1 - 100, f.Instep + 5 * p2 - 100, 0, 0⟩ : Last)) 4 4 ⟨.int .i64 (f.Heel + 5 * p3 - 100), rfl⟩ rfl rfl rfl (by kernel_rfl) rfl E.out.var (by show 4 < 6; omega) ?_
      intro wq hV hgq
      replace hV : Own bx wq 30 (.slice (some ⟨bx, 0, none⟩) 6 6) (lastC (⟨nm, f.Length + 5 * p0, f.Ball + 5 * p1 - 100, f.Instep + 5 * p2 - 100, f.Heel + 5 * p3 - 100, 0⟩ : Last)) := hV
      replace E := Lib.hid (E.out.put hgl hV hgq)
      clear hV hgq
      refine hK.out _ _ E.out.heel (fun hHeld => ?_)
      clear hK K
      go_simp
      refine wpAnyH_done (by kernel_rfl) ?_ _
      clear hq1 hq2 hq3 hq4 hq5
      go_wp2_with fail
      refine (pick_c g M 60 _ E.out.src (by omega) (by omega)).mono ?_
      rintro e wa ⟨p4, rfl, hp40, hp41, hSp, hgp⟩
      replace E := Lib.hid (E.out.drew hgl hSp hgp)
      clear hSp hgp
      have hp42 : p4 < 60 := by omega
      clear hp41
      go_wp2_with (first | (refine wpList_store_own rfl 2 (.tmp 50) (.tmp 49) rfl bx 30 _ 6 6 _ 5 _ ⟨.int .i64 (10 * p4), rfl⟩ rfl rfl rfl (by kernel_rfl) rfl E.out.var (by show 5 < 6; omega) ?_; intro wy hV hgq; replace hV : Own bx wy 30 (.slice (some ⟨bx, 0, none⟩) 6 6) (lastC (⟨nm, f.Length + 5 * p0, f.Ball + 5 * p1 - 100, f.Instep + 5 * p2 - 100, f.Heel + 5 * p3 - 100, 10 * p4⟩ : Last)) := hV; replace E := Lib.hid (E.out.put hgl hV hgq); clear hV hgq; obtain ⟨c0, c1, c2, c3, c4, c5⟩ := lastC_cells E.out.var) | (refine wpList_store_own rfl 30 (.tmp 6) (.tmp 51) rfl (w.heap.size + 1) 30 _ 1 1 ([⟨ByteArray.empty, 0, 0, 0, 0, 0⟩] : List Last) 0 _ (⟨nm, f.Length + 5 * p0, f.Ball + 5 * p1 - 100, f.Instep + 5 * p2 - 100, f.Heel + 5 * p3 - 100, 10 * p4⟩ : Last) rfl rfl rfl (by kernel_rfl) rfl E.out.res (by simp) ?_; intro wz hR hgz))
      obtain ⟨q0, q1, q2, q3, q4, q5⟩ := last1_cells hR
      have hSz := E.out.src.markL E.out.res (by omega) hgz
      have hGz := marked_up E.out.up E.out.res (by omega) hgz
      refine bodyPost_ret (v := .agg #[.string nm, .int .i64 (f.Length + 5 * p0), .int .i64 (f.Ball + 5 * p1 - 100), .int .i64 (f.Instep + 5 * p2 - 100), .int .i64 (f.Heel + 5 * p3 - 100), .int .i64 (10 * p4)]) (by simp [results, Tryz.results40, go_sem, q0, q1, q2, q3, q4, q5]) rfl ?_
      refine ⟨(⟨nm, f.Length + 5 * p0, f.Ball + 5 * p1 - 100, f.Instep + 5 * p2 - 100, f.Heel + 5 * p3 - 100, 10 * p4⟩ : Last), rfl, ⟨rfl, ?_, ?_, ?_, ?_, ?_⟩, hSz, hGz⟩
      · show f.Length ≤ f.Length + 5 * p0 ∧ f.Length + 5 * p0 ≤ f.Length + 195; omega
      · show f.Ball - 100 ≤ f.Ball + 5 * p1 - 100 ∧ f.Ball + 5 * p1 - 100 ≤ f.Ball + 95; omega
      · show f.Instep - 100 ≤ f.Instep + 5 * p2 - 100 ∧ f.Instep + 5 * p2 - 100 ≤ f.Instep + 95; omega
      · show f.Heel - 100 ≤ f.Heel + 5 * p3 - 100 ∧ f.Heel + 5 * p3 - 100 ≤ f.Heel + 95; omega
      · show 0 ≤ 10 * p4 ∧ 10 * p4 ≤ 590; omega
  · go_simp
    obtain ⟨bx, hbx⟩ : ∃ bx, bx = w1.drew.heap.size := ⟨_, rfl⟩
    have hfar := D.out.far
    have V := Lib.hid (own_last1 w1.drew 30 ⟨ByteArray.empty, 0, 0, 0, 0, 0⟩)
    rw [← hbx] at V hfar
    replace D := Lib.hid (D.out.later (hz w1.drew))
    go_simp
    refine hK.out _ _ D.out.length (fun hHeld => ?_)
    clear hK K
    go_simp
    refine wpAnyH_ready (rs := [4]) (by kernel_rfl) (by simp) ?_
    refine AllReadyH.cons rfl (fun K hK => ?_) AllReadyH.nil
    go_simp
    refine (pick_c g (M + 8) 40 _ D.out.src (by omega) (by omega)).mono ?_
    rintro e wp ⟨p0, rfl, p00, p01, hSp, hgp⟩
    have hq1 : IntKind.i64.wrap (5 * p0) = 5 * p0 := IntWalk.i64_in _ (by omega)
    have hq2 : IntKind.i64.wrap (f.Length + 5 * p0) = f.Length + 5 * p0 := IntWalk.i64_in _ (by omega)
    replace V := Lib.hid (V.out.drew (by omega) hgp)
    replace D := Lib.hid (D.out.drew hgl hSp hgp)
    clear hSp hgp
    go_simp
    refine hK.out _ _ D.out.length (fun hHeld => ?_)
    clear hK K
    go_simp
    refine wpAnyH_take (i := 5) (v := _) rfl (by kernel_rfl) (by kernel_rfl) (by kernel_rfl) (fun _ _ _ h => h) (Or.inl ⟨by rfl, (by intro w hSw; (try dsimp only at hSw); go_simp; try with_reducible rfl)⟩) (by assumption) ?_
    go_simp
    refine wpAnyH_take (i := 6) (v := _) rfl (by kernel_rfl) (by kernel_rfl) (by kernel_rfl) (fun _ _ _ h => h) (Or.inl ⟨by rfl, (by intro w hSw; (try dsimp only at hSw); go_simp; try with_reducible rfl)⟩) (by assumption) ?_
    go_simp
    refine wpAnyH_ready (rs := [7]) (by kernel_rfl) (by simp) ?_
    refine AllReadyH.cons rfl (fun K hK => ?_) AllReadyH.nil
    have hq0 : min 5000 (f.Length + 5 * p0) = f.Length + 5 * p0 := by omega
    go_simp
    refine (l00Min_c _ _ _).mono ?_
    rintro e w' ⟨rfl, rfl⟩
    rw [hq0]
    go_simp
    refine hK.out _ _ D.out.length (fun hHeld => ?_)
    clear hK K
    go_simp
    refine wpAnyH_take (i := 8) (v := _) rfl (by kernel_rfl) (by kernel_rfl) (by kernel_rfl) (fun _ _ _ h => h) (Or.inl ⟨by rfl, (by intro w hSw; (try dsimp only at hSw); go_simp; try with_reducible rfl)⟩) (by assumption) ?_
    go_simp
    refine wpAnyH_ready (rs := [10]) (by kernel_rfl) (by simp) ?_
    refine AllReadyH.cons rfl (fun K hK => ?_) AllReadyH.nil
    refine cast (if_pos (by rfl)).symm ?_
    refine wp_store_own 30 (.tmp 7) (.tmp 16) rfl bx 30 bx 1 1 ([⟨ByteArray.empty, 0, 0, 0, 0, 0⟩] : List Last) 0 _ (⟨nm, f.Length + 5 * p0, 0, 0, 0, 0⟩ : Last) (by rw [hbx]; rfl) rfl rfl (by kernel_rfl) rfl V.out (by simp) ?_
    intro wq hV hgq
    replace hV : Own bx wq 30 (.slice (some ⟨bx, 0, none⟩) 1 1) ([⟨nm, f.Length + 5 * p0, 0, 0, 0, 0⟩] : List Last) := hV
    have E := Lib.hid (D.out.put hgl V.out hfar hV hgq)
    refine hK.out _ _ (by exact (footC_cells E.out.foot).1) (fun hHeld => ?_)
    clear hK K V hV hgq D
    go_simp
    refine wpAnyH_done (by kernel_rfl) ?_ _
    rw [show w1.heap.size = bx from hbx.symm]
    clear hbx
    clear hq0 hq1 hq2 hHeld
    have hp02 : p0 < 40 := by omega
    clear p01
    go_wp2_with fail
    refine wp_region_held_drew (S := (fun w' => w'.cell? ⟨w.heap.size, 1, none⟩ = some (.int .i64 f.Ball))) (by kernel_rfl) E.out.ball (fun hHeld => ?_)
    replace E := Lib.hid (E.out.later (Below.refl _ _).drew)
    refine wpAnyH_take (i := 0) (v := _) rfl (by kernel_rfl) (by kernel_rfl) (by kernel_rfl) (fun _ _ _ h => h) (Or.inl ⟨by rfl, (by intro w hSw; (try dsimp only at hSw); go_simp; try with_reducible rfl)⟩) (by assumption) ?_
    go_simp
    refine wpAnyH_take (i := 1) (v := _) rfl (by kernel_rfl) (by kernel_rfl) (by kernel_rfl) (fun _ _ _ h => h) (Or.inl ⟨by rfl, (by intro w hSw; (try dsimp only at hSw); go_simp; try with_reducible rfl)⟩) (by assumption) ?_
    go_simp
    refine wpAnyH_take (i := 2) (v := _) rfl (by kernel_rfl) (by kernel_rfl) (by kernel_rfl) (fun _ _ _ h => h) (Or.inl ⟨by rfl, (by intro w hSw; (try dsimp only at hSw); go_simp; try with_reducible rfl)⟩) (by assumption) ?_
    go_simp
    refine wpAnyH_ready (rs := [3]) (by kernel_rfl) (by simp) ?_
    refine AllReadyH.cons rfl (fun K hK => ?_) AllReadyH.nil
    go_simp
    refine (pick_c g (M + 6) 40 _ E.out.src (by omega) (by omega)).mono ?_
    rintro e wa ⟨p1, rfl, hp0, hp1, hSp, hgp⟩
    replace E := Lib.hid (E.out.drew hgl hSp hgp)
    clear hSp hgp
    have hp2 : p1 < 40 := by omega
    clear hp1
    have hq1 : IntKind.i64.wrap (5 * p1) = 5 * p1 := IntWalk.i64_in _ (by omega)
    have hq2 : IntKind.i64.wrap (f.Ball + 5 * p1) = f.Ball + 5 * p1 := IntWalk.i64_in _ (by omega)
    have hq3 : IntKind.i64.wrap (f.Ball + 5 * p1 - 100) = f.Ball + 5 * p1 - 100 := IntWalk.i64_in _ (by omega)
    have hq4 : max 500 (f.Ball + 5 * p1 - 100) = f.Ball + 5 * p1 - 100 := by omega
    have hq5 : min 5000 (f.Ball + 5 * p1 - 100) = f.Ball + 5 * p1 - 100 := by omega
    go_simp
    refine hK.out _ _ E.out.ball (fun hHeld => ?_)
    clear hK K
    go_simp
    refine wpAnyH_take (i := 4) (v := _) rfl (by kernel_rfl) (by kernel_rfl) (by kernel_rfl) (fun _ _ _ h => h) (Or.inl ⟨by rfl, (by intro w hSw; (try dsimp only at hSw); go_simp; try with_reducible rfl)⟩) (by assumption) ?_
    go_simp
    refine wpAnyH_take (i := 5) (v := _) rfl (by kernel_rfl) (by kernel_rfl) (by kernel_rfl) (fun _ _ _ h => h) (Or.inl ⟨by rfl, (by intro w hSw; (try dsimp only at hSw); go_simp; try with_reducible rfl)⟩) (by assumption) ?_
    go_simp
    refine wpAnyH_take (i := 6) (v := _) rfl (by kernel_rfl) (by kernel_rfl) (by kernel_rfl) (fun _ _ _ h => h) (Or.inl ⟨by rfl, (by intro w hSw; (try dsimp only at hSw); go_simp; try with_reducible rfl)⟩) (by assumption) ?_
    go_simp
    refine wpAnyH_ready (rs := [7]) (by kernel_rfl) (by simp) ?_
    refine AllReadyH.cons rfl (fun K hK => ?_) AllReadyH.nil
    go_simp
    refine (l00Max_c _ _ _).mono ?_
    rintro e w' ⟨rfl, rfl⟩
    rw [hq4]
    go_simp
    refine hK.out _ _ E.out.ball (fun hHeld => ?_)
    clear hK K
    go_simp
    refine wpAnyH_ready (rs := [8]) (by kernel_rfl) (by simp) ?_
    refine AllReadyH.cons rfl (fun K hK => ?_) AllReadyH.nil
    go_simp
    refine (l00Min_c _ _ _).mono ?_
    rintro e w' ⟨rfl, rfl⟩
    rw [hq5]
    go_simp
    refine hK.out _ _ E.out.ball (fun hHeld => ?_)
    clear hK K
    go_simp
    refine wpAnyH_take (i := 9) (v := _) rfl (by kernel_rfl) (by kernel_rfl) (by kernel_rfl) (fun _ _ _ h => h) (Or.inl ⟨by rfl, (by intro w hSw; (try dsimp only at hSw); go_simp; try with_reducible rfl)⟩) (by assumption) ?_
    go_simp
    refine wpAnyH_ready (rs := [10]) (by kernel_rfl) (by simp) ?_
    refine AllReadyH.cons rfl (fun K hK => ?_) AllReadyH.nil
    refine cast (if_pos (by rfl)).symm ?_
    refine wp_store_own 2 (.tmp 26) (.tmp 25) rfl bx 30 bx 6 6 (lastC (⟨nm, f.Length + 5 * p0, 0, 0, 0, 0⟩ : Last)) 2 2 ⟨.int .i64 (f.Ball + 5 * p1 - 100), rfl⟩ rfl rfl rfl (by kernel_rfl) rfl E.out.var (by show 2 < 6; omega) ?_
    intro wq hV hgq
    replace hV : Own bx wq 30 (.slice (some ⟨bx, 0, none⟩) 6 6) (lastC (⟨nm, f.Length + 5 * p0, f.Ball + 5 * p1 - 100, 0, 0, 0⟩ : Last)) := hV
    replace E := Lib.hid (E.out.put hgl hV hgq)
    clear hV hgq
    refine hK.out _ _ E.out.ball (fun hHeld => ?_)
    clear hK K
    go_simp
    refine wpAnyH_done (by kernel_rfl) ?_ _
    clear hq1 hq2 hq3 hq4 hq5
    go_wp2_with fail
    refine wp_region_held_drew (S := (fun w' => w'.cell? ⟨w.heap.size, 2, none⟩ = some (.int .i64 f.Instep))) (by kernel_rfl) E.out.instep (fun hHeld => ?_)
    replace E := Lib.hid (E.out.later (Below.refl _ _).drew)
    refine wpAnyH_take (i := 0) (v := _) rfl (by kernel_rfl) (by kernel_rfl) (by kernel_rfl) (fun _ _ _ h => h) (Or.inl ⟨by rfl, (by intro w hSw; (try dsimp only at hSw); go_simp; try with_reducible rfl)⟩) (by assumption) ?_
    go_simp
    refine wpAnyH_take (i := 1) (v := _) rfl (by kernel_rfl) (by kernel_rfl) (by kernel_rfl) (fun _ _ _ h => h) (Or.inl ⟨by rfl, (by intro w hSw; (try dsimp only at hSw); go_simp; try with_reducible rfl)⟩) (by assumption) ?_
    go_simp
    refine wpAnyH_take (i := 2) (v := _) rfl (by kernel_rfl) (by kernel_rfl) (by kernel_rfl) (fun _ _ _ h => h) (Or.inl ⟨by rfl, (by intro w hSw; (try dsimp only at hSw); go_simp; try with_reducible rfl)⟩) (by assumption) ?_
    go_simp
    refine wpAnyH_ready (rs := [3]) (by kernel_rfl) (by simp) ?_
    refine AllReadyH.cons rfl (fun K hK => ?_) AllReadyH.nil
    go_simp
    refine (pick_c g (M + 4) 40 _ E.out.src (by omega) (by omega)).mono ?_
    rintro e wa ⟨p2, rfl, hp0, hp1, hSp, hgp⟩
    replace E := Lib.hid (E.out.drew hgl hSp hgp)
    clear hSp hgp
    have hp2 : p2 < 40 := by omega
    clear hp1
    have hq1 : IntKind.i64.wrap (5 * p2) = 5 * p2 := IntWalk.i64_in _ (by omega)
    have hq2 : IntKind.i64.wrap (f.Instep + 5 * p2) = f.Instep + 5 * p2 := IntWalk.i64_in _ (by omega)
    have hq3 : IntKind.i64.wrap (f.Instep + 5 * p2 - 100) = f.Instep + 5 * p2 - 100 := IntWalk.i64_in _ (by omega)
    have hq4 : max 500 (f.Instep + 5 * p2 - 100) = f.Instep + 5 * p2 - 100 := by omega
    have hq5 : min 5000 (f.Instep + 5 * p2 - 100) = f.Instep + 5 * p2 - 100 := by omega
    go_simp
    refine hK.out _ _ E.out.instep (fun hHeld => ?_)
    clear hK K
    go_simp
    refine wpAnyH_take (i := 4) (v := _) rfl (by kernel_rfl) (by kernel_rfl) (by kernel_rfl) (fun _ _ _ h => h) (Or.inl ⟨by rfl, (by intro w hSw; (try dsimp only at hSw); go_simp; try with_reducible rfl)⟩) (by assumption) ?_
    go_simp
    refine wpAnyH_take (i := 5) (v := _) rfl (by kernel_rfl) (by kernel_rfl) (by kernel_rfl) (fun _ _ _ h => h) (Or.inl ⟨by rfl, (by intro w hSw; (try dsimp only at hSw); go_simp; try with_reducible rfl)⟩) (by assumption) ?_
    go_simp
    refine wpAnyH_take (i := 6) (v := _) rfl (by kernel_rfl) (by kernel_rfl) (by kernel_rfl) (fun _ _ _ h => h) (Or.inl ⟨by rfl, (by intro w hSw; (try dsimp only at hSw); go_simp; try with_reducible rfl)⟩) (by assumption) ?_
    go_simp
    refine wpAnyH_ready (rs := [7]) (by kernel_rfl) (by simp) ?_
    refine AllReadyH.cons rfl (fun K hK => ?_) AllReadyH.nil
    go_simp
    refine (l00Max_c _ _ _).mono ?_
    rintro e w' ⟨rfl, rfl⟩
    rw [hq4]
    go_simp
    refine hK.out _ _ E.out.instep (fun hHeld => ?_)
    clear hK K
    go_simp
    refine wpAnyH_ready (rs := [8]) (by kernel_rfl) (by simp) ?_
    refine AllReadyH.cons rfl (fun K hK => ?_) AllReadyH.nil
    go_simp
    refine (l00Min_c _ _ _).mono ?_
    rintro e w' ⟨rfl, rfl⟩
    rw [hq5]
    go_simp
    refine hK.out _ _ E.out.instep (fun hHeld => ?_)
    clear hK K
    go_simp
    refine wpAnyH_take (i := 9) (v := _) rfl (by kernel_rfl) (by kernel_rfl) (by kernel_rfl) (fun _ _ _ h => h) (Or.inl ⟨by rfl, (by intro w hSw; (try dsimp only at hSw); go_simp; try with_reducible rfl)⟩) (by assumption) ?_
    go_simp
    refine wpAnyH_ready (rs := [10]) (by kernel_rfl) (by simp) ?_
    refine AllReadyH.cons rfl (fun K hK => ?_) AllReadyH.nil
    refine cast (if_pos (by rfl)).symm ?_
    refine wp_store_own 2 (.tmp 36) (.tmp 35) rfl bx 30 bx 6 6 (lastC (⟨nm, f.Length + 5 * p0, f.Ball + 5 * p1 - 100, 0, 0, 0⟩ : Last)) 3 3 ⟨.int .i64 (f.Instep + 5 * p2 - 100), rfl⟩ rfl rfl rfl (by kernel_rfl) rfl E.out.var (by show 3 < 6; omega) ?_
    intro wq hV hgq
    replace hV : Own bx wq 30 (.slice (some ⟨bx, 0, none⟩) 6 6) (lastC (⟨nm, f.Length + 5 * p0, f.Ball + 5 * p1 - 100, f.Instep + 5 * p2 - 100, 0, 0⟩ : Last)) := hV
    replace E := Lib.hid (E.out.put hgl hV hgq)
    clear hV hgq
    refine hK.out _ _ E.out.instep (fun hHeld => ?_)
    clear hK K
    go_simp
    refine wpAnyH_done (by kernel_rfl) ?_ _
    clear hq1 hq2 hq3 hq4 hq5
    go_wp2_with fail
    refine wp_region_held_drew (S := (fun w' => w'.cell? ⟨w.heap.size, 3, none⟩ = some (.int .i64 f.Heel))) (by kernel_rfl) E.out.heel (fun hHeld => ?_)
    replace E := Lib.hid (E.out.later (Below.refl _ _).drew)
    refine wpAnyH_take (i := 0) (v := _) rfl (by kernel_rfl) (by kernel_rfl) (by kernel_rfl) (fun _ _ _ h => h) (Or.inl ⟨by rfl, (by intro w hSw; (try dsimp only at hSw); go_simp; try with_reducible rfl)⟩) (by assumption) ?_
    go_simp
    refine wpAnyH_take (i := 1) (v := _) rfl (by kernel_rfl) (by kernel_rfl) (by kernel_rfl) (fun _ _ _ h => h) (Or.inl ⟨by rfl, (by intro w hSw; (try dsimp only at hSw); go_simp; try with_reducible rfl)⟩) (by assumption) ?_
    go_simp
    refine wpAnyH_take (i := 2) (v := _) rfl (by kernel_rfl) (by kernel_rfl) (by kernel_rfl) (fun _ _ _ h => h) (Or.inl ⟨by rfl, (by intro w hSw; (try dsimp only at hSw); go_simp; try with_reducible rfl)⟩) (by assumption) ?_
    go_simp
    refine wpAnyH_ready (rs := [3]) (by kernel_rfl) (by simp) ?_
    refine AllReadyH.cons rfl (fun K hK => ?_) AllReadyH.nil
    go_simp
    refine (pick_c g (M + 2) 40 _ E.out.src (by omega) (by omega)).mono ?_
    rintro e wa ⟨p3, rfl, hp0, hp1, hSp, hgp⟩
    replace E := Lib.hid (E.out.drew hgl hSp hgp)
    clear hSp hgp
    have hp2 : p3 < 40 := by omega
    clear hp1
    have hq1 : IntKind.i64.wrap (5 * p3) = 5 * p3 := IntWalk.i64_in _ (by omega)
    have hq2 : IntKind.i64.wrap (f.Heel + 5 * p3) = f.Heel + 5 * p3 := IntWalk.i64_in _ (by omega)
    have hq3 : IntKind.i64.wrap (f.Heel + 5 * p3 - 100) = f.Heel + 5 * p3 - 100 := IntWalk.i64_in _ (by omega)
    have hq4 : max 500 (f.Heel + 5 * p3 - 100) = f.Heel + 5 * p3 - 100 := by omega
    have hq5 : min 5000 (f.Heel + 5 * p3 - 100) = f.Heel + 5 * p3 - 100 := by omega
    go_simp
    refine hK.out _ _ E.out.heel (fun hHeld => ?_)
    clear hK K
    go_simp
    refine wpAnyH_take (i := 4) (v := _) rfl (by kernel_rfl) (by kernel_rfl) (by kernel_rfl) (fun _ _ _ h => h) (Or.inl ⟨by rfl, (by intro w hSw; (try dsimp only at hSw); go_simp; try with_reducible rfl)⟩) (by assumption) ?_
    go_simp
    refine wpAnyH_take (i := 5) (v := _) rfl (by kernel_rfl) (by kernel_rfl) (by kernel_rfl) (fun _ _ _ h => h) (Or.inl ⟨by rfl, (by intro w hSw; (try dsimp only at hSw); go_simp; try with_reducible rfl)⟩) (by assumption) ?_
    go_simp
    refine wpAnyH_take (i := 6) (v := _) rfl (by kernel_rfl) (by kernel_rfl) (by kernel_rfl) (fun _ _ _ h => h) (Or.inl ⟨by rfl, (by intro w hSw; (try dsimp only at hSw); go_simp; try with_reducible rfl)⟩) (by assumption) ?_
    go_simp
    refine wpAnyH_ready (rs := [7]) (by kernel_rfl) (by simp) ?_
    refine AllReadyH.cons rfl (fun K hK => ?_) AllReadyH.nil
    go_simp
    refine (l00Max_c _ _ _).mono ?_
    rintro e w' ⟨rfl, rfl⟩
    rw [hq4]
    go_simp
    refine hK.out _ _ E.out.heel (fun hHeld => ?_)
    clear hK K
    go_simp
    refine wpAnyH_ready (rs := [8]) (by kernel_rfl) (by simp) ?_
    refine AllReadyH.cons rfl (fun K hK => ?_) AllReadyH.nil
    go_simp
    refine (l00Min_c _ _ _).mono ?_
    rintro e w' ⟨rfl, rfl⟩
    rw [hq5]
    go_simp
    refine hK.out _ _ E.out.heel (fun hHeld => ?_)
    clear hK K
    go_simp
    refine wpAnyH_take (i := 9) (v := _) rfl (by kernel_rfl) (by kernel_rfl) (by kernel_rfl) (fun _ _ _ h => h) (Or.inl ⟨by rfl, (by intro w hSw; (try dsimp only at hSw); go_simp; try with_reducible rfl)⟩) (by assumption) ?_
    go_simp
    refine wpAnyH_ready (rs := [10]) (by kernel_rfl) (by simp) ?_
    refine AllReadyH.cons rfl (fun K hK => ?_) AllReadyH.nil
    refine cast (if_pos (by rfl)).symm ?_
    refine wp_store_own 2 (.tmp 46) (.tmp 45) rfl bx 30 bx 6 6 (lastC (⟨nm, f.Length + 5 * p0, f.Ball + 5 * p1 - 100, f.Instep + 5 * p2 - 100, 0, 0⟩ : Last)) 4 4 ⟨.int .i64 (f.Heel + 5 * p3 - 100), rfl⟩ rfl rfl rfl (by kernel_rfl) rfl E.out.var (by show 4 < 6; omega) ?_
    intro wq hV hgq
    replace hV : Own bx wq 30 (.slice (some ⟨bx, 0, none⟩) 6 6) (lastC (⟨nm, f.Length + 5 * p0, f.Ball + 5 * p1 - 100, f.Instep + 5 * p2 - 100, f.Heel + 5 * p3 - 100, 0⟩ : Last)) := hV
    replace E := Lib.hid (E.out.put hgl hV hgq)
    clear hV hgq
    refine hK.out _ _ E.out.heel (fun hHeld => ?_)
    clear hK K
    go_simp
    refine wpAnyH_done (by kernel_rfl) ?_ _
    clear hq1 hq2 hq3 hq4 hq5
    go_wp2_with fail
    refine (pick_c g M 60 _ E.out.src (by omega) (by omega)).mono ?_
    rintro e wa ⟨p4, rfl, hp40, hp41, hSp, hgp⟩
    replace E := Lib.hid (E.out.drew hgl hSp hgp)
    clear hSp hgp
    have hp42 : p4 < 60 := by omega
    clear hp41
    go_wp2_with (first | (refine wpList_store_own rfl 2 (.tmp 50) (.tmp 49) rfl bx 30 _ 6 6 _ 5 _ ⟨.int .i64 (10 * p4), rfl⟩ rfl rfl rfl (by kernel_rfl) rfl E.out.var (by show 5 < 6; omega) ?_; intro wy hV hgq; replace hV : Own bx wy 30 (.slice (some ⟨bx, 0, none⟩) 6 6) (lastC (⟨nm, f.Length + 5 * p0, f.Ball + 5 * p1 - 100, f.Instep + 5 * p2 - 100, f.Heel + 5 * p3 - 100, 10 * p4⟩ : Last)) := hV; replace E := Lib.hid (E.out.put hgl hV hgq); clear hV hgq; obtain ⟨c0, c1, c2, c3, c4, c5⟩ := lastC_cells E.out.var) | (refine wpList_store_own rfl 30 (.tmp 6) (.tmp 51) rfl (w.heap.size + 1) 30 _ 1 1 ([⟨ByteArray.empty, 0, 0, 0, 0, 0⟩] : List Last) 0 _ (⟨nm, f.Length + 5 * p0, f.Ball + 5 * p1 - 100, f.Instep + 5 * p2 - 100, f.Heel + 5 * p3 - 100, 10 * p4⟩ : Last) rfl rfl rfl (by kernel_rfl) rfl E.out.res (by simp) ?_; intro wz hR hgz))
    obtain ⟨q0, q1, q2, q3, q4, q5⟩ := last1_cells hR
    have hSz := E.out.src.markL E.out.res (by omega) hgz
    have hGz := marked_up E.out.up E.out.res (by omega) hgz
    refine bodyPost_ret (v := .agg #[.string nm, .int .i64 (f.Length + 5 * p0), .int .i64 (f.Ball + 5 * p1 - 100), .int .i64 (f.Instep + 5 * p2 - 100), .int .i64 (f.Heel + 5 * p3 - 100), .int .i64 (10 * p4)]) (by simp [results, Tryz.results40, go_sem, q0, q1, q2, q3, q4, q5]) rfl ?_
    refine ⟨(⟨nm, f.Length + 5 * p0, f.Ball + 5 * p1 - 100, f.Instep + 5 * p2 - 100, f.Heel + 5 * p3 - 100, 10 * p4⟩ : Last), rfl, ⟨rfl, ?_, ?_, ?_, ?_, ?_⟩, hSz, hGz⟩
    · show f.Length ≤ f.Length + 5 * p0 ∧ f.Length + 5 * p0 ≤ f.Length + 195; omega
    · show f.Ball - 100 ≤ f.Ball + 5 * p1 - 100 ∧ f.Ball + 5 * p1 - 100 ≤ f.Ball + 95; omega
    · show f.Instep - 100 ≤ f.Instep + 5 * p2 - 100 ∧ f.Instep + 5 * p2 - 100 ≤ f.Instep + 95; omega
    · show f.Heel - 100 ≤ f.Heel + 5 * p3 - 100 ∧ f.Heel + 5 * p3 - 100 ≤ f.Heel + 95; omega
    · show 0 ≤ 10 * p4 ∧ 10 * p4 ≤ 590; omega
end Go.Proofs.YtaeinllbjkjhlaaGreatDoor
