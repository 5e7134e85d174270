/- Feet and days that are drawn. -/
import Derived.Test.YtlaclknhenccdaaG02
import Derived.Test.YtlaclknhenccdaaF05
import Derived.Test.YtlaclknhenccdaaLists
namespace Go.Proofs.Ytlaclknhenccdaa
open Go.RowKit

/-- A foot near to a drawn one. -/
structure NearF (f : Foot) : Prop where
  length : 2180 ≤ f.Length ∧ f.Length ≤ 2865
  ball : 2080 ≤ f.Ball ∧ f.Ball ≤ 2615
  instep : 2200 ≤ f.Instep ∧ f.Instep ≤ 2695
  heel : 2980 ≤ f.Heel ∧ f.Heel ≤ 3515
theorem DrawnF.near {f : Foot} (h : DrawnF f) : NearF f := by
  have h1 := h.length; have h2 := h.ball; have h3 := h.instep; have h4 := h.heel
  constructor <;> omega
/-- Two rows lie in two blocks. -/
def ApartG (a b : Option Nat) : Prop := a = none ∨ a ≠ b
theorem apartG_grown {a : Option Nat} {b g n : Nat} (h : ApartG a (some b)) (hl : a = some g ∨ g = n) (hb : b < n) : ApartG (some g) (some b) := by
  rcases hl with hl | hl
  · rw [← hl]; exact h
  · right; intro e
    have := Option.some.inj e
    omega
theorem SrcAt.markG {α : Type} [Flat α] {B' g M : Nat} {wn w' : World} {e : TypeId} {v : Value} {xs : List α} (hS : SrcAt wn g M) (hO : Own B' wn e v xs) (hB : g < B') (hg : wn.grownBy w' v.ownBlock) : SrcAt w' g M :=
  hS.kept hg fun k hk => by have := (hO.lt k hk).1; omega
theorem foot_one {B : Nat} {w : World} {e : TypeId} {g : Nat} {x : Foot} (h : Own B w e (.slice (some ⟨g, 0, none⟩) 4 4) (footC x)) : Own B w e (.slice (some ⟨g, 0, none⟩) 1 1) [x] := by
  obtain ⟨h1, h2⟩ := h
  refine ⟨rfl, .inr ?_⟩
  rcases h2 with ⟨h2, _⟩ | ⟨g', cap, cur, h3, hb, hg, hn, hm, hs, ht⟩
  · simp at h2
  · simp only [Value.slice.injEq, Option.some.injEq, Addr.mk.injEq, and_true] at h3
    obtain ⟨rfl, -, rfl⟩ := h3
    exact ⟨g, 1, cur, rfl, hb, hg, Nat.le_refl _, by unfold maxLen; omega, hs, ht⟩
theorem foot_four {B : Nat} {w : World} {e : TypeId} {g : Nat} {x : Foot} (h : Own B w e (.slice (some ⟨g, 0, none⟩) 1 1) [x]) : Own B w e (.slice (some ⟨g, 0, none⟩) 4 4) (footC x) := by
  obtain ⟨h1, h2⟩ := h
  refine ⟨rfl, .inr ?_⟩
  rcases h2 with ⟨h2, _⟩ | ⟨g', cap, cur, h3, hb, hg, hn, hm, hs, ht⟩
  · simp at h2
  · simp only [Value.slice.injEq, Option.some.injEq, Addr.mk.injEq, and_true] at h3
    obtain ⟨rfl, -, rfl⟩ := h3
    exact ⟨g, 4, cur, rfl, hb, hg, Nat.le_refl _, by unfold maxLen; omega, hs, ht⟩
theorem l02Draw_c (g M : Nat) (w : World) (hS : SrcAt w g (M + 4)) :
    Calls Try.prog 102 #[.pointer (some ⟨g, 0, none⟩)] w fun e w' => ∃ f : Foot, e = .returned (.agg #[.int .i64 f.Length, .int .i64 f.Ball, .int .i64 f.Instep, .int .i64 f.Heel]) ∧ DrawnF f ∧ SrcAt w' g M ∧ w.grownBy w' (some g) := by
  obtain ⟨L, q, sd, hI⟩ := hS.is
  refine (l02Draw_d g M L q sd w hI).mono ?_
  rintro e w' ⟨rfl, hS', hg⟩
  exact ⟨_, rfl, footD_is _ _ _, hS'.src, hg⟩
/-- What the walk of l02Near carries. -/
structure NearV (w wn : World) (g M bf : Nat) (f : Foot) (v : Value) (fs : List Foot) : Prop where
  src : SrcAt wn g M
  lst : Own w.heap.size wn 62 v fs
  fv : Own w.heap.size wn 62 (.slice (some ⟨bf, 0, none⟩) 4 4) (footC f)
  ap : ApartG v.ownBlock (some bf)
  up : w.grownBy wn (some g)
theorem NearV.later {w wn w' : World} {g M bf : Nat} {f : Foot} {v : Value} {fs : List Foot} (h : NearV w wn g M bf f v fs) (hb : Below wn.heap.size wn w') : NearV w w' g M bf f v fs :=
  ⟨h.src.later hb, h.lst.later hb, h.fv.later hb, h.ap, grownBy_trans h.up (drew_below g hb)⟩
theorem NearV.drew {w wn w' : World} {g M M' bf : Nat} {f : Foot} {v : Value} {fs : List Foot} (h : NearV w wn g M bf f v fs) (hgl : g < w.heap.size) (hS : SrcAt w' g M') (hg : wn.grownBy w' (some g)) : NearV w w' g M' bf f v fs :=
  ⟨hS, h.lst.drew hgl hg, h.fv.drew hgl hg, h.ap, grownBy_trans h.up hg⟩
/-- A variable that was made behind all of it has changed. -/
theorem NearV.mark {w wn w' w0 : World} {g M M0 bf bx : Nat} {f : Foot} {v : Value} {fs : List Foot} (h : NearV w wn g M bf f v fs) (h0 : NearV w w0 g M0 bf f v fs) (hx : w0.heap.size ≤ bx) (hgl : g < w.heap.size) (hg : wn.grownBy w' (some bx)) : NearV w w' g M bf f v fs := by
  have hlt := h0.fv.lt bf rfl
  have hup := h0.up.size
  refine ⟨h.src.kept hg (fun k hk => by simp at hk; omega), h.lst.kept hg ?_, h.fv.kept hg (Or.inr (ne_blkG (by omega))), h.ap, ?_⟩
  · cases hv : v.ownBlock with
    | none => exact Or.inl rfl
    | some k =>
      right; intro e
      have := h0.lst.lt k hv
      have := Option.some.inj e
      omega
  refine ⟨hg.os.trans h.up.os, hg.tape.trans h.up.tape, hg.output.trans h.up.output, Nat.le_trans h.up.size hg.size, fun k hk hne => (hg.block k (Nat.lt_of_lt_of_le hk h.up.size) fun e => ?_).trans (h.up.block k hk hne)⟩
  have := Option.some.inj e
  omega
/-- One foot more. -/
theorem NearV.pushed {w wn w' : World} {g M M' bf g' cap : Nat} {f x : Foot} {v : Value} {fs : List Foot} (D : NearV w wn g M bf f v fs) (hgl : g < w.heap.size) (hO : Own w.heap.size w' 62 (.slice (some ⟨g', 0, none⟩) (fs.length + 1) cap) (fs ++ [x])) (hg : wn.grownBy w' v.ownBlock) (hl : v.ownBlock = some g' ∨ g' = wn.heap.size) (hM : M' ≤ M) :
    NearV w w' g M' bf f (.slice (some ⟨g', 0, none⟩) (fs.length + 1) cap) (fs ++ [x]) := by
  have hbf := (D.fv.lt bf rfl).2
  refine ⟨(D.src.markG D.lst hgl hg).less hM, hO, D.fv.kept hg ?_, apartG_grown D.ap hl hbf, ?_⟩
  · rcases D.ap with h | h
    · exact Or.inr (fun e => by rw [h] at e; cases e)
    · exact Or.inr (fun e => h e.symm)
  exact ⟨hg.os.trans D.up.os, hg.tape.trans D.up.tape, hg.output.trans D.up.output, Nat.le_trans D.up.size hg.size, fun k hk hne => (hg.block k (Nat.lt_of_lt_of_le hk D.up.size) fun e => by have := (D.lst.lt k e.symm).1; omega).trans (D.up.block k hk hne)⟩
set_option maxRecDepth 100000 in
set_option maxHeartbeats 8000000 in
theorem l02Near_c (g M : Nat) (w : World) (hS : SrcAt w g (M + 120)) :
    Calls Try.prog 101 #[.pointer (some ⟨g, 0, none⟩)] w fun e w' => ∃ v fs, e = .returned v ∧ Own w.heap.size w' 62 v fs ∧ (∀ f ∈ fs, NearF f) ∧ fs.length ≤ 7 ∧ SrcAt w' g M ∧ w.grownBy w' (some g) := by
  have hgl := hS.lt
  obtain ⟨w1, hw1⟩ : ∃ w1, w1 = w.alloc (.cells #[] 62) := ⟨_, rfl⟩
  have hb1 : Below w.heap.size w w1 := by rw [hw1]; exact newB _ _
  have hN : Own w.heap.size w1 62 (.slice (some ⟨w.heap.size, 0, none⟩) 0 0) ([] : List Foot) := by rw [hw1]; exact own_new w _
  have hs1 : w1.heap.size = w.heap.size + 1 := by rw [hw1]; simp
  replace hw1 := Lib.hid hw1
  replace hs1 := Lib.hid hs1
  go_enter Try.func101, Try.ntmps101
  go_wp2_with (rw [← hw1.out])
  refine (l02Draw_c g (M + 116) w1 (hS.later hb1)).mono ?_
  rintro e w2 ⟨f, rfl, hf, hS2, hg2⟩
  obtain ⟨w3, hw3⟩ : ∃ w3, w3 = w2.alloc (.cells #[.int .i64 f.Length, .int .i64 f.Ball, .int .i64 f.Instep, .int .i64 f.Heel] 62) := ⟨_, rfl⟩
  have hb3 : Below w2.heap.size w2 w3 := by rw [hw3]; exact newB _ _
  have hsz2 : w.heap.size + 1 ≤ w2.heap.size := by have := hs1.out; have := hg2.size; omega
  have D : NearV w w3 g (M + 116) w2.heap.size f (.slice (some ⟨w.heap.size, 0, none⟩) 0 0) [] := by
    refine ⟨hS2.later hb3, (hN.drew hgl hg2).later hb3, ?_, Or.inr (ne_blkG (by omega)), grownBy_trans (grownBy_trans (drew_below g hb1) hg2) (drew_below g hb3)⟩
    rw [hw3]; exact (own_footC w2 _ f).base (by omega)
  replace hw3 := Lib.hid hw3
  replace D := Lib.hid D
  clear hS hb1 hN hw1 hs1 hS2 hg2 hb3
  go_wp2_with (rw [← hw3.out])
  refine (pick_c g (M + 114) 8 w3 (D.out.src.less (by omega)) (by omega) (by omega)).mono ?_
  rintro e w4 ⟨T, rfl, t0, t1, hS4, hg4⟩
  replace D := Lib.hid (D.out.drew hgl hS4 hg4)
  clear hS4 hg4 hw3
  obtain ⟨T, rfl⟩ : ∃ q : Nat, T = q := ⟨T.toNat, by omega⟩
  have hT : T ≤ 7 := by omega
  clear t0 t1
  obtain ⟨bf, hbf⟩ : ∃ bf, bf = w2.heap.size := ⟨_, rfl⟩
  rw [← hbf] at D
  go_wp2_with fail
  rw [← hbf]
  clear hbf
  go_loopw [3, 5] (fun v i wr => ∃ (q : Nat) (fs : List Foot), i = .int .i64 q ∧ q + fs.length = T ∧ Hid (∀ x ∈ fs, NearF x) ∧ Hid (NearV w wr g (M + 14 * q) bf f v fs)) (fun _ i _ => (intOf i).toNat)
  case atStart => exact ⟨T, [], rfl, by simp, Lib.hid (fun x hx => by simp at hx), Lib.hid ⟨D.out.src.less (by omega), D.out.lst, D.out.fv, D.out.ap, D.out.up⟩⟩
  case round =>
    clear D
    obtain ⟨q, fs, rfl, hq, hfs, D⟩ := hrel
    obtain ⟨wa, hwa⟩ : ∃ wo : World, wo = wr := ⟨_, rfl⟩
    subst hwa
    cases q with
    | zero =>
      go_wp2_with fail
      go_ret
      exact ⟨_, fs, rfl, D.out.lst, hfs.out, by omega, D.out.src.less (by omega), D.out.up⟩
    | succ q =>
      have hq1 : ((q + 1 : Nat) : Int) - 1 = q := by omega
      have hfl : fs.length + 1 ≤ 4294967296 := by omega
      have hqT : q ≤ 7 := by omega
      replace hq := Lib.hid hq
      have D0 := D
      obtain ⟨c0, c1, c2, c3⟩ := footC_cells D.out.fv
      obtain ⟨w5, hw5⟩ : ∃ w5, w5 = wa.alloc (.cells #[.int .i64 f.Length, .int .i64 f.Ball, .int .i64 f.Instep, .int .i64 f.Heel] 62) := ⟨_, rfl⟩
      have hb5 : Below wa.heap.size wa w5 := by rw [hw5]; exact newB _ _
      have hws : w.heap.size ≤ wa.heap.size := D.out.up.size
      have V : Hid (Own w.heap.size w5 62 (.slice (some ⟨wa.heap.size, 0, none⟩) 4 4) (footC f)) := Lib.hid (by rw [hw5]; exact (own_footC wa _ f).base hws)
      replace D := Lib.hid (D.out.later hb5)
      replace hw5 := Lib.hid hw5
      have hF1 := hf.length; have hF2 := hf.ball; have hF3 := hf.instep; have hF4 := hf.heel
      clear hb5
      go_wp2_with (rw [← hw5.out])
      clear hw5 c0 c1 c2 c3
      have y := (footC_cells V.out).1
      try dsimp only at y
      refine wp_region_heldS (S := (fun w' => w'.cell? ⟨wa.heap.size, 0, none⟩ = some (.int .i64 f.Length))) 7 (by kernel_rfl) y (fun hHeld => ?_)
      obtain ⟨wo, hwo⟩ : ∃ wo, wo = w5.drew := ⟨_, rfl⟩
      rw [← hwo] at hHeld ⊢
      have hbo : Below w5.heap.size w5 wo := by rw [hwo]; exact (Below.refl _ _).drew
      replace D := Lib.hid (D.out.later hbo)
      replace V := Lib.hid (V.out.later hbo)
      clear hwo hbo y
      refine wpAnyS_take (i := 0) (v := _) rfl (by kernel_rfl) (by kernel_rfl) (by kernel_rfl) (by kernel_rfl) (by kernel_rfl) (fun _ _ _ h => h) (Or.inl ⟨by rfl, (by intro w hSw; (try dsimp only at hSw); go_simp; try with_reducible rfl)⟩) (by assumption) ?_
      go_simp
      refine wpAnyS_take (i := 1) (v := _) rfl (by kernel_rfl) (by kernel_rfl) (by kernel_rfl) (by kernel_rfl) (by kernel_rfl) (fun _ _ _ h => h) (Or.inl ⟨by rfl, (by intro w hSw; (try dsimp only at hSw); go_simp; try with_reducible rfl)⟩) (by assumption) ?_
      go_simp
      refine wpAnyS_take (i := 2) (v := _) rfl (by kernel_rfl) (by kernel_rfl) (by kernel_rfl) (by kernel_rfl) (by kernel_rfl) (fun _ _ _ h => h) (Or.inl ⟨by rfl, (by intro w hSw; (try dsimp only at hSw); go_simp; try with_reducible rfl)⟩) (by assumption) ?_
      go_simp
      refine wpAnyS_step (i := 3) (by kernel_rfl) rfl (fun K hK => ?_)
      go_simp
      (refine (pick_c g (M + 14 * q + 12) 41 wo (D.out.src.less (by omega)) (by omega) (by omega)).mono ?_; rintro e wp ⟨p0, rfl, h0, h1, hSp, hgp⟩; have hp0 : 0 ≤ p0 ∧ p0 ≤ 40 := (by omega); replace D := Lib.hid (D.out.drew hgl hSp hgp); replace V := Lib.hid (V.out.drew hgl hgp); clear hSp hgp h0 h1; have hq2 : IntKind.i64.wrap (p0 - 20) = p0 - 20 := IntWalk.i64_in _ (by omega); have hq3 : IntKind.i64.wrap (f.Length + (p0 - 20)) = f.Length + (p0 - 20) := IntWalk.i64_in _ (by omega))
      refine hK.out _ _ ((footC_cells V.out).1) (fun hHeld => ?_)
      clear hK K
      go_simp
      refine wpAnyS_take (i := 4) (v := _) rfl (by kernel_rfl) (by kernel_rfl) (by kernel_rfl) (by kernel_rfl) (by kernel_rfl) (fun _ _ _ h => h) (Or.inl ⟨by rfl, (by intro w hSw; (try dsimp only at hSw); go_simp; try with_reducible rfl)⟩) (by assumption) ?_
      go_simp
      refine wpAnyS_take (i := 5) (v := _) rfl (by kernel_rfl) (by kernel_rfl) (by kernel_rfl) (by kernel_rfl) (by kernel_rfl) (fun _ _ _ h => h) (Or.inl ⟨by rfl, (by intro w hSw; (try dsimp only at hSw); go_simp; try with_reducible rfl)⟩) (by assumption) ?_
      go_simp
      refine wpAnyS_take (i := 6) (v := _) rfl (by kernel_rfl) (by kernel_rfl) (by kernel_rfl) (by kernel_rfl) (by kernel_rfl) (fun _ _ _ h => h) (Or.inl ⟨by rfl, (by intro w hSw; (try dsimp only at hSw); go_simp; try with_reducible rfl)⟩) (by assumption) ?_
      go_simp
      refine wpAnyS_last (i := 7) (by kernel_rfl) rfl (by kernel_rfl) (fun K hK => ?_)
      (refine cast (if_pos (by rfl)).symm ?_; refine wp_store_own 2 (.tmp 23) (.tmp 22) rfl w.heap.size 62 wa.heap.size 4 4 (footC f) 0 0 (⟨.int .i64 (f.Length + (p0 - 20)), rfl⟩ : OneCell) rfl rfl rfl (by kernel_rfl) rfl V.out (by show 0 < 4; omega) ?_; intro w6 hV hgv)
      refine hK.out _ _ ?_
      clear hK K
      go_simp
      refine wpAnyS_done (by kernel_rfl) ?_ _
      replace hV : Own w.heap.size w6 62 (.slice (some ⟨wa.heap.size, 0, none⟩) 4 4) (footC ⟨f.Length + (p0 - 20), f.Ball, f.Instep, f.Heel⟩) := hV
      replace D := Lib.hid (D.out.mark D0.out (Nat.le_refl _) hgl hgv)
      replace V := Lib.hid hV
      clear hV hgv hHeld hq2 hq3
      go_wp2_with fail
      have y := (footC_cells V.out).2.1
      try dsimp only at y
      refine wp_region_heldS (S := (fun w' => w'.cell? ⟨wa.heap.size, 1, none⟩ = some (.int .i64 f.Ball))) 7 (by kernel_rfl) y (fun hHeld => ?_)
      obtain ⟨wo, hwo⟩ : ∃ wo, wo = w6.drew := ⟨_, rfl⟩
      rw [← hwo] at hHeld ⊢
      have hbo : Below w6.heap.size w6 wo := by rw [hwo]; exact (Below.refl _ _).drew
      replace D := Lib.hid (D.out.later hbo)
      replace V := Lib.hid (V.out.later hbo)
      clear hwo hbo y
      refine wpAnyS_take (i := 0) (v := _) rfl (by kernel_rfl) (by kernel_rfl) (by kernel_rfl) (by kernel_rfl) (by kernel_rfl) (fun _ _ _ h => h) (Or.inl ⟨by rfl, (by intro w hSw; (try dsimp only at hSw); go_simp; try with_reducible rfl)⟩) (by assumption) ?_
      go_simp
      refine wpAnyS_take (i := 1) (v := _) rfl (by kernel_rfl) (by kernel_rfl) (by kernel_rfl) (by kernel_rfl) (by kernel_rfl) (fun _ _ _ h => h) (Or.inl ⟨by rfl, (by intro w hSw; (try dsimp only at hSw); go_simp; try with_reducible rfl)⟩) (by assumption) ?_
      go_simp
      refine wpAnyS_take (i := 2) (v := _) rfl (by kernel_rfl) (by kernel_rfl) (by kernel_rfl) (by kernel_rfl) (by kernel_rfl) (fun _ _ _ h => h) (Or.inl ⟨by rfl, (by intro w hSw; (try dsimp only at hSw); go_simp; try with_reducible rfl)⟩) (by assumption) ?_
      go_simp
      refine wpAnyS_step (i := 3) (by kernel_rfl) rfl (fun K hK => ?_)
      go_simp
      (refine (pick_c g (M + 14 * q + 10) 41 wo (D.out.src.less (by omega)) (by omega) (by omega)).mono ?_; rintro e wp ⟨p1, rfl, h0, h1, hSp, hgp⟩; have hp1 : 0 ≤ p1 ∧ p1 ≤ 40 := (by omega); replace D := Lib.hid (D.out.drew hgl hSp hgp); replace V := Lib.hid (V.out.drew hgl hgp); clear hSp hgp h0 h1; have hq2 : IntKind.i64.wrap (p1 - 20) = p1 - 20 := IntWalk.i64_in _ (by omega); have hq3 : IntKind.i64.wrap (f.Ball + (p1 - 20)) = f.Ball + (p1 - 20) := IntWalk.i64_in _ (by omega))
      refine hK.out _ _ ((footC_cells V.out).2.1) (fun hHeld => ?_)
      clear hK K
      go_simp
      refine wpAnyS_take (i := 4) (v := _) rfl (by kernel_rfl) (by kernel_rfl) (by kernel_rfl) (by kernel_rfl) (by kernel_rfl) (fun _ _ _ h => h) (Or.inl ⟨by rfl, (by intro w hSw; (try dsimp only at hSw); go_simp; try with_reducible rfl)⟩) (by assumption) ?_
      go_simp
      refine wpAnyS_take (i := 5) (v := _) rfl (by kernel_rfl) (by kernel_rfl) (by kernel_rfl) (by kernel_rfl) (by kernel_rfl) (fun _ _ _ h => h) (Or.inl ⟨by rfl, (by intro w hSw; (try dsimp only at hSw); go_simp; try with_reducible rfl)⟩) (by assumption) ?_
      go_simp
      refine wpAnyS_take (i := 6) (v := _) rfl (by kernel_rfl) (by kernel_rfl) (by kernel_rfl) (by kernel_rfl) (by kernel_rfl) (fun _ _ _ h => h) (Or.inl ⟨by rfl, (by intro w hSw; (try dsimp only at hSw); go_simp; try with_reducible rfl)⟩) (by assumption) ?_
      go_simp
      refine wpAnyS_last (i := 7) (by kernel_rfl) rfl (by kernel_rfl) (fun K hK => ?_)
      (refine cast (if_pos (by rfl)).symm ?_; refine wp_store_own 2 (.tmp 30) (.tmp 29) rfl w.heap.size 62 wa.heap.size 4 4 (footC ⟨f.Length + (p0 - 20), f.Ball, f.Instep, f.Heel⟩) 1 1 (⟨.int .i64 (f.Ball + (p1 - 20)), rfl⟩ : OneCell) rfl rfl rfl (by kernel_rfl) rfl V.out (by show 1 < 4; omega) ?_; intro w7 hV hgv)
      refine hK.out _ _ ?_
      clear hK K
      go_simp
      refine wpAnyS_done (by kernel_rfl) ?_ _
      replace hV : Own w.heap.size w7 62 (.slice (some ⟨wa.heap.size, 0, none⟩) 4 4) (footC ⟨f.Length + (p0 - 20), f.Ball + (p1 - 20), f.Instep, f.Heel⟩) := hV
      replace D := Lib.hid (D.out.mark D0.out (Nat.le_refl _) hgl hgv)
      replace V := Lib.hid hV
      clear hV hgv hHeld hq2 hq3
      go_wp2_with fail
      have y := (footC_cells V.out).2.2.2
      try dsimp only at y
      refine wp_region_heldS (S := (fun w' => w'.cell? ⟨wa.heap.size, 3, none⟩ = some (.int .i64 f.Heel))) 7 (by kernel_rfl) y (fun hHeld => ?_)
      obtain ⟨wo, hwo⟩ : ∃ wo, wo = w7.drew := ⟨_, rfl⟩
      rw [← hwo] at hHeld ⊢
      have hbo : Below w7.heap.size w7 wo := by rw [hwo]; exact (Below.refl _ _).drew
      replace D := Lib.hid (D.out.later hbo)
      replace V := Lib.hid (V.out.later hbo)
      clear hwo hbo y
      refine wpAnyS_take (i := 0) (v := _) rfl (by kernel_rfl) (by kernel_rfl) (by kernel_rfl) (by kernel_rfl) (by kernel_rfl) (fun _ _ _ h => h) (Or.inl ⟨by rfl, (by intro w hSw; (try dsimp only at hSw); go_simp; try with_reducible rfl)⟩) (by assumption) ?_
      go_simp
      refine wpAnyS_take (i := 1) (v := _) rfl (by kernel_rfl) (by kernel_rfl) (by kernel_rfl) (by kernel_rfl) (by kernel_rfl) (fun _ _ _ h => h) (Or.inl ⟨by rfl, (by intro w hSw; (try dsimp only at hSw); go_simp; try with_reducible rfl)⟩) (by assumption) ?_
      go_simp
      refine wpAnyS_take (i := 2) (v := _) rfl (by kernel_rfl) (by kernel_rfl) (by kernel_rfl) (by kernel_rfl) (by kernel_rfl) (fun _ _ _ h => h) (Or.inl ⟨by rfl, (by intro w hSw; (try dsimp only at hSw); go_simp; try with_reducible rfl)⟩) (by assumption) ?_
      go_simp
      refine wpAnyS_step (i := 3) (by kernel_rfl) rfl (fun K hK => ?_)
      go_simp
      (refine (pick_c g (M + 14 * q + 8) 41 wo (D.out.src.less (by omega)) (by omega) (by omega)).mono ?_; rintro e wp ⟨p3, rfl, h0, h1, hSp, hgp⟩; have hp3 : 0 ≤ p3 ∧ p3 ≤ 40 := (by omega); replace D := Lib.hid (D.out.drew hgl hSp hgp); replace V := Lib.hid (V.out.drew hgl hgp); clear hSp hgp h0 h1; have hq2 : IntKind.i64.wrap (p3 - 20) = p3 - 20 := IntWalk.i64_in _ (by omega); have hq3 : IntKind.i64.wrap (f.Heel + (p3 - 20)) = f.Heel + (p3 - 20) := IntWalk.i64_in _ (by omega))
      refine hK.out _ _ ((footC_cells V.out).2.2.2) (fun hHeld => ?_)
      clear hK K
      go_simp
      refine wpAnyS_take (i := 4) (v := _) rfl (by kernel_rfl) (by kernel_rfl) (by kernel_rfl) (by kernel_rfl) (by kernel_rfl) (fun _ _ _ h => h) (Or.inl ⟨by rfl, (by intro w hSw; (try dsimp only at hSw); go_simp; try with_reducible rfl)⟩) (by assumption) ?_
      go_simp
      refine wpAnyS_take (i := 5) (v := _) rfl (by kernel_rfl) (by kernel_rfl) (by kernel_rfl) (by kernel_rfl) (by kernel_rfl) (fun _ _ _ h => h) (Or.inl ⟨by rfl, (by intro w hSw; (try dsimp only at hSw); go_simp; try with_reducible rfl)⟩) (by assumption) ?_
      go_simp
      refine wpAnyS_take (i := 6) (v := _) rfl (by kernel_rfl) (by kernel_rfl) (by kernel_rfl) (by kernel_rfl) (by kernel_rfl) (fun _ _ _ h => h) (Or.inl ⟨by rfl, (by intro w hSw; (try dsimp only at hSw); go_simp; try with_reducible rfl)⟩) (by assumption) ?_
      go_simp
      refine wpAnyS_last (i := 7) (by kernel_rfl) rfl (by kernel_rfl) (fun K hK => ?_)
      (refine cast (if_pos (by rfl)).symm ?_; refine wp_store_own 2 (.tmp 37) (.tmp 36) rfl w.heap.size 62 wa.heap.size 4 4 (footC ⟨f.Length + (p0 - 20), f.Ball + (p1 - 20), f.Instep, f.Heel⟩) 3 3 (⟨.int .i64 (f.Heel + (p3 - 20)), rfl⟩ : OneCell) rfl rfl rfl (by kernel_rfl) rfl V.out (by show 3 < 4; omega) ?_; intro w8 hV hgv)
      refine hK.out _ _ ?_
      clear hK K
      go_simp
      refine wpAnyS_done (by kernel_rfl) ?_ _
      replace hV : Own w.heap.size w8 62 (.slice (some ⟨wa.heap.size, 0, none⟩) 4 4) (footC ⟨f.Length + (p0 - 20), f.Ball + (p1 - 20), f.Instep, f.Heel + (p3 - 20)⟩) := hV
      replace D := Lib.hid (D.out.mark D0.out (Nat.le_refl _) hgl hgv)
      replace V := Lib.hid hV
      clear hV hgv hHeld hq2 hq3
      obtain ⟨x, hx⟩ : ∃ x : Foot, x = ⟨f.Length + (p0 - 20), f.Ball + (p1 - 20), f.Instep, f.Heel + (p3 - 20)⟩ := ⟨_, rfl⟩
      have hxn : NearF x := by rw [hx]; constructor <;> (dsimp only; omega)
      rw [← hx] at V
      clear hx
      go_wp2_with fail
      refine (one_c g (M + 14 * q + 6) 5 w8 (D.out.src.less (by omega)) (by omega) (by omega)).mono ?_
      rintro e w9 ⟨bo, rfl, hS9, hg9⟩
      replace D := Lib.hid (D.out.drew hgl hS9 hg9)
      replace V := Lib.hid (V.out.drew hgl hg9)
      clear hS9 hg9 hF1 hF2 hF3 hF4 hp0 hp1 hp3
      cases bo with
      | false =>
        obtain ⟨y0, y1, y2, y3⟩ := footC_cells V.out
        obtain ⟨wt, hwt⟩ : ∃ wt, wt = w9.alloc (.cells #[.int .i64 x.Length, .int .i64 x.Ball, .int .i64 x.Instep, .int .i64 x.Heel] 62) := ⟨_, rfl⟩
        have hct : Below w9.heap.size w9 wt := by rw [hwt]; exact newB _ _
        have htmp : wt.heap[w9.heap.size]? = some (.cells (Flat.el x).toArray 62 (0, 0)) := by rw [hwt]; exact heap_alloc_new _ _
        replace hwt := Lib.hid hwt
        have Dt := D.out.later hct
        have hrw := Dt.lst
        have hBw : w.heap.size ≤ wt.heap.size := Dt.up.size
        go_wp2_with (first | rw [← hwt.out] | (at_builtin; refine wpList_pushTo rfl (.tmp 42) (.tmp 44) 58 rfl w.heap.size 62 (.agg #[.int .i64 0, .int .i64 0, .int .i64 0, .int .i64 0]) 32 Try.underlying58 infoFoot rfl _ fs x rfl hrw w9.heap.size 1 rfl 62 htmp hfl (by decide) hBw ?_; intro g' cap wq hO' hg' hl'))
        have hrl : (fs ++ [x]).length = fs.length + 1 := by simp
        have D2 := Dt.pushed hgl hO' hg' hl' (by omega : M + 14 * q ≤ _)
        have hfs2 : Hid (∀ y ∈ fs ++ [x], NearF y) := Lib.hid fun y hy => by
          rcases List.mem_append.1 hy with hy | hy
          · exact hfs.out y hy
          · simp only [List.mem_singleton] at hy; rw [hy]; exact hxn
        have hq2 : q + (fs ++ [x]).length = T := by have := hq.out; omega
        clear y0 y1 y2 y3 hct htmp Dt hrw hO' hg' hl' D V D0 hwt
        go_roundw
        case rel => exact ⟨q, _, by first | rfl | (rw [← hq1]; rfl) | go_num, hq2, hfs2, Lib.hid D2⟩
        case measure => simp [intOf]
      | true =>
        go_wp2_with fail
        refine (l02Draw_c g (M + 14 * q + 2) w9 (D.out.src.less (by omega))).mono ?_
        rintro e w10 ⟨z, rfl, hz, hS10, hg10⟩
        replace D := Lib.hid (D.out.drew hgl hS10 hg10)
        replace V := Lib.hid (V.out.drew hgl hg10)
        clear hS10 hg10
        have hzn := hz.near
        clear hz
        go_wp2_with (first | ((with_reducible refine at_st 62 (.tmp 6) (.tmp 41) ?_); refine wpList_store_own rfl 62 (.tmp 6) (.tmp 41) rfl w.heap.size 62 wa.heap.size 1 1 [x] 0 _ z rfl rfl rfl (by kernel_rfl) rfl (foot_one V.out) (by simp) ?_; intro w11 hV hgv; replace hV : Own w.heap.size w11 62 (.slice (some ⟨wa.heap.size, 0, none⟩) 1 1) [z] := hV; replace D := Lib.hid (D.out.mark D0.out (Nat.le_refl _) hgl hgv); replace V := Lib.hid (foot_four hV); clear hV hgv; obtain ⟨y0, y1, y2, y3⟩ := footC_cells V.out; obtain ⟨wt, hwt⟩ : ∃ wt, wt = w11.alloc (.cells #[.int .i64 z.Length, .int .i64 z.Ball, .int .i64 z.Instep, .int .i64 z.Heel] 62) := ⟨_, rfl⟩; have hct : Below w11.heap.size w11 wt := (by rw [hwt]; exact newB _ _); have htmp : wt.heap[w11.heap.size]? = some (.cells (Flat.el z).toArray 62 (0, 0)) := (by rw [hwt]; exact heap_alloc_new _ _); replace hwt := Lib.hid hwt; have Dt := D.out.later hct; have hrw := Dt.lst; have hBw : w.heap.size ≤ wt.heap.size := Dt.up.size) | rw [← hwt.out] | (at_builtin; refine wpList_pushTo rfl (.tmp 42) (.tmp 44) 58 rfl w.heap.size 62 (.agg #[.int .i64 0, .int .i64 0, .int .i64 0, .int .i64 0]) 32 Try.underlying58 infoFoot rfl _ fs z rfl hrw w11.heap.size 1 rfl 62 htmp hfl (by decide) hBw ?_; intro g' cap wq hO' hg' hl'))
        have hrl : (fs ++ [z]).length = fs.length + 1 := by simp
        have D2 := Dt.pushed hgl hO' hg' hl' (by omega : M + 14 * q ≤ _)
        have hfs2 : Hid (∀ y ∈ fs ++ [z], NearF y) := Lib.hid fun y hy => by
          rcases List.mem_append.1 hy with hy | hy
          · exact hfs.out y hy
          · simp only [List.mem_singleton] at hy; rw [hy]; exact hzn
        have hq2 : q + (fs ++ [z]).length = T := by have := hq.out; omega
        clear y0 y1 y2 y3 hct htmp Dt hrw hO' hg' hl' D V D0 hwt
        go_roundw
        case rel => exact ⟨q, _, by first | rfl | (rw [← hq1]; rfl) | go_num, hq2, hfs2, Lib.hid D2⟩
        case measure => simp [intOf]
end Go.Proofs.Ytlaclknhenccdaa
