/- Chapter 6, the program: CheapestBuild. -/
import Derived.Test.YtokoallbhbgkkaaL06s
import Derived.Test.YtokoallbhbgkkaaL09
namespace Go.Proofs.Ytokoallbhbgkkaa
open Go.RowKit

theorem cloneOwnI_c (B : Nat) (v : Value) (xs : List Int) (w : World) (hO : Own B w 2 v xs) (hl : xs.length ≤ 1000000) :
    Calls Try.prog 78 #[v] w fun e w' => ∃ v', e = .returned v' ∧ Own w.heap.size w' 2 v' xs ∧ Below w.heap.size w w' := by
  have hq := fun w a n c => Lib.run_eql_slice_nil (P := Try.prog) w 22 2 a n c 0 0 Try.underlying22
  have hO2 := hO
  rcases hO.cases with ⟨rfl, rfl⟩ | ⟨g, cap, rfl⟩
  · go_enter Try.func78, Try.ntmps78
    go_wp2
    go_ret
    exact ⟨_, rfl, World.ownsRow_nil _ _ _ _, Below.refl _ _⟩
  · have hx := hO2.at'
    go_enter Try.func78, Try.ntmps78
    go_wp2_with (at_builtin; refine wpList_pushall rfl (.tmp 5) (.tmp 6) 22 rfl w.heap.size 2 (.int .i64 0) 8 Try.underlying22 infoInt rfl _ [] xs rfl (own_new _ _) _ _ rfl (fun h => by cases h) (hx.below ((Below.refl _ _).alloc (Nat.le_refl _) _)) (by simp; omega) (by decide) (by simp) ?_; intro v1 w1 hO1 hg1)
    go_ret
    exact ⟨_, rfl, by simpa using hO1, ((Below.refl _ _).alloc (Nat.le_refl _) _).grown hg1 (by simp) (fun k hk => by have : w.heap.size = k := Option.some.inj hk; omega)⟩
set_option maxRecDepth 100000 in
set_option maxHeartbeats 4000000 in
theorem cheapestBuild_c (a a' : Option Addr) (ls ps : List Int) (c c' s : Nat) (w : World) (hx : At w a ls) (hy : At w a' ps) (hl : layOk ls = true) (hp : PriceOk ls ps) (hs : s ≤ 1000) (b : Bld) (hb : bld (ls.zip ps) s = some b) :
    Calls Try.prog 30 #[.slice a ls.length c, .slice a' ps.length c', .int .i64 s] w fun e w' => ∃ v, e = .returned (.tuple #[v, .int .i64 b.price, .int .i64 0]) ∧ Own w.heap.size w' 2 v b.layers ∧ Below w.heap.size w w' := by
  have hLO := layOk_is hl
  have hlen := hLO.len
  have hpl := hp.len
  have hpn : ((ps.length : Int) != ls.length) = false := by simp [hpl]
  have hps : ps.length ≤ 8 := by omega
  replace hpl := Lib.hid hpl
  have hvl := validLayers_c a ls c w hx (by omega)
  have hib := isBuild_c s w
  have hou := outside_c a' ps c' 0 1000 w hy (by omega)
  rw [hl] at hvl
  rw [inr_true.2 (by omega)] at hib
  rw [outs_false.2 (fun x hx => by obtain ⟨i, hi, rfl⟩ := List.mem_iff_getElem.1 hx; exact hp.each i hi)] at hou
  have hbb := bld_bounds hp hs (bld_is _ _ _ hb)
  go_enter Try.func30, Try.ntmps30
  go_wp2_with (first | (go_at_call 60; refine hvl.mono ?_; rintro e w1 ⟨rfl, rfl⟩) | (go_at_call 61; refine hib.mono ?_; rintro e w1 ⟨rfl, rfl⟩) | (go_at_call 76; refine hou.mono ?_; rintro e w1 ⟨rfl, hb1⟩))
  refine (builds_c a a' ls ps c c' s w1 (hx.below hb1) (hy.below hb1) hLO hp hs).mono ?_
  rintro e w2 ⟨g, cap, rs, rfl, hT, hb2⟩
  have hbw := upw hb1 hb2
  have hsz1 := hb1.size
  have hm : s < rs.length := by rw [hT.len]; omega
  have hR := hT.each _ hm (by omega)
  obtain ⟨e0, e1, e2⟩ := hT.row.at'.rawB hm
  rw [Nat.zero_add] at e0 e1 e2
  obtain ⟨rm, hrm⟩ : ∃ rm, rm = rs[s] := ⟨_, rfl⟩
  rw [← hrm] at e0 e1 e2 hR
  rw [hb] at hR
  obtain ⟨m1, m2, m3, m4, m5⟩ := hR
  obtain ⟨bp, x⟩ := b
  obtain ⟨rp, ra, rn, rc, rk⟩ := rm
  simp only at m1 m2 m3 m4 m5 e0 e1 e2 hbb
  subst m1 m2 m3
  clear m5 hrm hT hou hvl hib hb
  obtain ⟨wi, hwi⟩ : ∃ wi, wi = w2.alloc (.cells #[.int .i64 rp, .slice ra x.length rc, .bool true] 96) := ⟨_, rfl⟩
  have hbi : Below w2.heap.size w2 wi := by rw [hwi]; exact (Below.refl _ _).alloc (Nat.le_refl _) _
  obtain ⟨f0, f1, f2⟩ : wi.cell? ⟨w2.heap.size, 0, none⟩ = some (.int .i64 rp) ∧ wi.cell? ⟨w2.heap.size, 1, none⟩ = some (.slice ra x.length rc) ∧ wi.cell? ⟨w2.heap.size, 2, none⟩ = some (.bool true) := by rw [hwi]; refine ⟨?_, ?_, ?_⟩ <;> go_simp
  replace hwi := Lib.hid hwi
  replace m4 := m4.later hbi
  have hbw2 := upw hbw hbi
  go_wp2_with (rw [← hwi.out])
  have hsI : (s : Int) < ((s + 1 : Nat) : Int) := by omega
  have hcc := cloneOwnI_c _ _ x wi.drew (m4.later (Below.refl _ _).drew) (by omega)
  refine wp_region_held_drew (S := (fun w' => w'.cell? ⟨w2.heap.size, 1, none⟩ = some (.slice ra x.length rc) ∧ w'.cell? ⟨w2.heap.size, 0, none⟩ = some (.int .i64 rp))) (by kernel_rfl) ⟨(by go_simp), (by go_simp)⟩ (fun hHeld => ?_)
  refine wpAnyH_take (i := 0) (v := _) rfl (by kernel_rfl) (by kernel_rfl) (by kernel_rfl) (fun _ _ _ h => h) (Or.inl ⟨by rfl, (by intro w hSw; (try dsimp only at hSw); go_simp; try with_reducible rfl)⟩) (by assumption) ?_
  go_simp
  refine wpAnyH_take (i := 1) (v := _) rfl (by kernel_rfl) (by kernel_rfl) (by kernel_rfl) (fun _ _ _ h => h) (Or.inl ⟨by rfl, (by intro w hSw; (try dsimp only at hSw); go_simp; try with_reducible rfl)⟩) (by assumption) ?_
  go_simp
  refine wpAnyH_take (i := 3) (v := _) rfl (by kernel_rfl) (by kernel_rfl) (by kernel_rfl) (fun _ _ _ h => h) (Or.inl ⟨by rfl, (by intro w hSw; (try dsimp only at hSw); go_simp; try with_reducible rfl)⟩) (by assumption) ?_
  go_simp
  refine wpAnyH_take (i := 4) (v := _) rfl (by kernel_rfl) (by kernel_rfl) (by kernel_rfl) (fun _ _ _ h => h) (Or.inl ⟨by rfl, (by intro w hSw; (try dsimp only at hSw); go_simp; try with_reducible rfl)⟩) (by assumption) ?_
  go_simp
  refine wpAnyH_ready (rs := [2]) (by kernel_rfl) (by simp) ?_
  refine AllReadyH.cons rfl (fun K hK => ?_) AllReadyH.nil
  go_simp
  refine hcc.mono ?_
  rintro e w3 ⟨v3, rfl, hV, hb3⟩
  obtain ⟨av, cv, rfl, _⟩ := hV.at
  go_simp
  refine hK.out _ _ ⟨kept_cell f1 ((Below.refl _ _).drew.trans hb3), kept_cell f0 ((Below.refl _ _).drew.trans hb3)⟩ (fun hHeld => ?_)
  clear hK K
  go_simp
  refine wpAnyH_take (i := 5) (v := _) rfl (by kernel_rfl) (by kernel_rfl) (by kernel_rfl) (fun _ _ _ h => h) (Or.inl ⟨by rfl, (by intro w hSw; (try dsimp only at hSw); go_simp; try with_reducible rfl)⟩) (by assumption) ?_
  go_simp
  refine wpAnyH_take (i := 6) (v := _) rfl (by kernel_rfl) (by kernel_rfl) (by kernel_rfl) (fun _ _ _ h => h) (Or.inl ⟨by rfl, (by intro w hSw; (try dsimp only at hSw); go_simp; try with_reducible rfl)⟩) (by assumption) ?_
  go_simp
  refine wpAnyH_take (i := 7) (v := _) rfl (by kernel_rfl) (by kernel_rfl) (by kernel_rfl) (fun _ _ _ h => h) (Or.inl ⟨by rfl, (by intro w hSw; (try dsimp only at hSw); go_simp; try with_reducible rfl)⟩) (by assumption) ?_
  go_simp
  refine wpAnyH_done (by kernel_rfl) ?_ _
  go_wp2_with fail
  go_ret3
  exact ⟨_, rfl, (hV.base (by have := hbw2.size; have := (Below.refl wi.heap.size wi).drew.size; omega)), upw hbw2 ((Below.refl _ _).drew.trans hb3)⟩
end Go.Proofs.Ytokoallbhbgkkaa
