/- Chapter 4, lasts added and found by their names: the program and the reference. -/
import Derived.Test.YtaeinllbjkjhlaaGreatDoorLas2
namespace Go.Proofs.YtaeinllbjkjhlaaGreatDoor
open Go.RowKit

theorem own_ne_new {B g : Nat} {w : World} {e : TypeId} {v : Value} {xs : List Last} (h : Own B w e v xs) (hg : g < B ∨ w.heap.size ≤ g) : v.ownBlock ≠ some g := fun e => by
  have := h.lt g e
  omega
theorem cloneLasts_c (a : Option Addr) (xs : List Last) (c : Nat) (w : World) (hx : At w a xs) (hl : xs.length ≤ 4294967296) (hc : a = none → c = 0) :
    Calls Tryz.prog 45 #[.slice a xs.length c] w fun e w' => ∃ v, e = .returned v ∧ Own w.heap.size w' 30 v xs ∧ Below w.heap.size w w' := by
  have hq := fun w a n c => Lib.run_eql_slice_nil (P := Tryz.prog) w 27 30 a n c 0 0 Tryz.underlying27
  cases a with
  | none =>
    have hy : xs = [] := by
      rcases hx with h | ⟨b, off, h, _⟩
      · exact h
      · cases h
    subst hy
    go_enter Tryz.func45, Tryz.ntmps45
    go_wp2
    go_ret
    exact ⟨_, rfl, World.ownsRow_nil _ _ _ _, Below.refl _ _⟩
  | some ad =>
    go_enter Tryz.func45, Tryz.ntmps45
    go_wp2_with (at_builtin; refine wpList_pushall rfl (.tmp 5) (.tmp 6) 27 rfl w.heap.size 30 (.agg #[.string ByteArray.empty, .int .i64 0, .int .i64 0, .int .i64 0, .int .i64 0, .int .i64 0]) 56 Tryz.underlying27 infoLast rfl _ [] xs rfl (own_new _ _) _ _ rfl (fun h => by cases h) (hx.below ((Below.refl _ _).alloc (Nat.le_refl _) _)) (by simp; omega) (by decide) (by simp) ?_; intro v1 w1 hO1 hg1)
    go_ret
    exact ⟨_, rfl, by simpa using hO1, ((Below.refl _ _).alloc (Nat.le_refl _) _).grown hg1 (by simp) (fun k hk => by have : w.heap.size = k := Option.some.inj hk; omega)⟩
set_option maxHeartbeats 1600000 in
theorem addLast_known (a : Option Addr) (xs : List Last) (c : Nat) (x : Last) (w : World) (hx : At w a xs) (ok : OkLasts xs) (hk : okLast x = true) (hs : x.Name.size ≤ 9223372036854775807) (hh : hasNm xs x.Name = true) :
    Calls Tryz.prog 9 #[.slice a xs.length c, .agg #[.string x.Name, .int .i64 x.Length, .int .i64 x.Ball, .int .i64 x.Instep, .int .i64 x.Heel, .int .i64 x.Pitch]] w fun e w' => e = .returned (.tuple #[.slice none 0 0, .int .i64 4]) ∧ Below w.heap.size w w' := by
  obtain ⟨w1, hw1⟩ : ∃ w1, w1 = w.alloc (.cells #[.string x.Name, .int .i64 x.Length, .int .i64 x.Ball, .int .i64 x.Instep, .int .i64 x.Heel, .int .i64 x.Pitch] 30) := ⟨_, rfl⟩
  have D : Sp w w1 [ite' 30 (.slice (some ⟨w.heap.size, 0, none⟩) 6 6) (lastC x)] := by rw [hw1]; exact (Sp.refl w).add (newB w _) (own_lastC w _ x)
  replace hx := hx.below D.up
  have k1 := Lib.hid (fun w' h => validLasts_ok a xs c w' h ok)
  have k2 := Lib.hid (fun w' => validLast_c x w' hs)
  rw [hk] at k2
  have k3 := Lib.hid (fun w' h => lastPlace_c a xs c x.Name w' h ok)
  rw [hh] at k3
  replace hw1 := Lib.hid hw1
  replace D := Lib.hid D
  clear ok hk hs hh
  go_enter Tryz.func9, Tryz.ntmps9
  go_wp2_with (rw [← hw1.out])
  refine (k1.out _ hx).mono ?_
  rintro e w2 ⟨rfl, hb⟩
  replace D := Lib.hid (D.out.later hb)
  replace hx := hx.below hb
  clear hb hw1 k1
  obtain ⟨x0, x1, x2, x3, x4, x5⟩ := lastC_cells (D.out.get 0 rfl)
  go_wp2_with fail
  refine (k2.out _).mono ?_
  rintro e w3 ⟨rfl, hb⟩
  replace D := Lib.hid (D.out.later hb)
  replace hx := hx.below hb
  clear hb k2 x0 x1 x2 x3 x4 x5
  obtain ⟨x0, x1, x2, x3, x4, x5⟩ := lastC_cells (D.out.get 0 rfl)
  go_wp2_with fail
  refine (k3.out _ hx).mono ?_
  rintro e w4 ⟨i, rfl, _, hb⟩
  have hb4 := (D.out.later hb).up
  clear hb k3 x0 x1 x2 x3 x4 x5
  go_wp2_with fail
  go_ret2
  exact ⟨rfl, hb4⟩
set_option maxRecDepth 100000 in
set_option maxHeartbeats 4000000 in
theorem addLast_new (a : Option Addr) (xs : List Last) (c : Nat) (x : Last) (w : World) (hx : At w a xs) (hc : a = none → c = 0) (ok : OkLasts xs) (hk : okLast x = true) (hs : x.Name.size ≤ 9223372036854775807) (hh : hasNm xs x.Name = false) (hl : xs.length < 30) :
    Calls Tryz.prog 9 #[.slice a xs.length c, .agg #[.string x.Name, .int .i64 x.Length, .int .i64 x.Ball, .int .i64 x.Instep, .int .i64 x.Heel, .int .i64 x.Pitch]] w fun e w' => ∃ (v : Value) (i : Nat), e = .returned (.tuple #[v, .int .i64 0]) ∧ PlaceOf xs x.Name i ∧ Own w.heap.size w' 30 v (insL xs i x) ∧ Below w.heap.size w w' := by
  obtain ⟨w1, hw1⟩ : ∃ w1, w1 = w.alloc (.cells #[.string x.Name, .int .i64 x.Length, .int .i64 x.Ball, .int .i64 x.Instep, .int .i64 x.Heel, .int .i64 x.Pitch] 30) := ⟨_, rfl⟩
  have D : Sp w w1 [ite' 30 (.slice (some ⟨w.heap.size, 0, none⟩) 6 6) (lastC x)] := by rw [hw1]; exact (Sp.refl w).add (newB w _) (own_lastC w _ x)
  replace hx := hx.below D.up
  have k1 := Lib.hid (fun w' h => validLasts_ok a xs c w' h ok)
  have k2 := Lib.hid (fun w' => validLast_c x w' hs)
  rw [hk] at k2
  have k3 := Lib.hid (fun w' h => lastPlace_c a xs c x.Name w' h ok)
  rw [hh] at k3
  have hl30 : ((xs.length : Int) == 30) = false := beq_eq_false_iff_ne.2 (by omega)
  replace hw1 := Lib.hid hw1
  replace D := Lib.hid D
  clear ok hk hs hh
  go_enter Tryz.func9, Tryz.ntmps9
  go_wp2_with (rw [← hw1.out])
  refine (k1.out _ hx).mono ?_
  rintro e w2 ⟨rfl, hb⟩
  replace D := Lib.hid (D.out.later hb)
  replace hx := hx.below hb
  clear hb hw1 k1
  obtain ⟨x0, x1, x2, x3, x4, x5⟩ := lastC_cells (D.out.get 0 rfl)
  go_wp2_with fail
  refine (k2.out _).mono ?_
  rintro e w3 ⟨rfl, hb⟩
  replace D := Lib.hid (D.out.later hb)
  replace hx := hx.below hb
  clear hb k2 x0 x1 x2 x3 x4 x5
  obtain ⟨x0, x1, x2, x3, x4, x5⟩ := lastC_cells (D.out.get 0 rfl)
  go_wp2_with fail
  refine (k3.out _ hx).mono ?_
  rintro e w4 ⟨i, rfl, hP, hb⟩
  replace D := Lib.hid (D.out.later hb)
  replace hx := hx.below hb
  clear hb k3 x0 x1 x2 x3 x4 x5
  replace hP := Lib.hid hP
  obtain ⟨x0, x1, x2, x3, x4, x5⟩ := lastC_cells (D.out.get 0 rfl)
  go_wp2_with fail
  clear x0 x1 x2 x3 x4 x5
  refine wp_region_held_drew (S := (fun w' => w'.cell? ⟨w.heap.size, 0, none⟩ = some (.string x.Name) ∧ w'.cell? ⟨w.heap.size, 1, none⟩ = some (.int .i64 x.Length) ∧ w'.cell? ⟨w.heap.size, 2, none⟩ = some (.int .i64 x.Ball) ∧ w'.cell? ⟨w.heap.size, 3, none⟩ = some (.int .i64 x.Instep) ∧ w'.cell? ⟨w.heap.size, 4, none⟩ = some (.int .i64 x.Heel) ∧ w'.cell? ⟨w.heap.size, 5, none⟩ = some (.int .i64 x.Pitch))) (by kernel_rfl) (lastC_cells (D.out.get 0 rfl)) (fun hHeld => ?_)
  obtain ⟨wo, hwo⟩ : ∃ wo, wo = w4.drew := ⟨_, rfl⟩
  rw [← hwo] at hHeld ⊢
  have hbo : Below w4.heap.size w4 wo := by rw [hwo]; exact (Below.refl _ _).drew
  replace D := Lib.hid (D.out.later hbo)
  replace hx := hx.below hbo
  clear hwo hbo
  have hBo := D.out.up.size
  have hBo2 : w.heap.size < wo.heap.size := ((D.out.get 0 rfl : Own _ _ _ _ (lastC x)).lt _ rfl).2
  refine wpAnyH_take (i := 0) (v := _) rfl (by kernel_rfl) (by kernel_rfl) (by kernel_rfl) (fun _ _ _ h => h) (Or.inl ⟨by rfl, (by intro w hSw; (try dsimp only at hSw); go_simp; try with_reducible rfl)⟩) (by assumption) ?_
  go_simp
  refine wpAnyH_take (i := 2) (v := _) rfl (by kernel_rfl) (by kernel_rfl) (by kernel_rfl) (fun _ _ _ h => h) (Or.inl ⟨by rfl, (by intro w hSw; (try dsimp only at hSw); go_simp; try with_reducible rfl)⟩) (by assumption) ?_
  go_simp
  refine wpAnyH_take (i := 3) (v := _) rfl (by kernel_rfl) (by kernel_rfl) (by kernel_rfl) (fun _ _ _ h => h) (Or.inl ⟨by rfl, (by intro w hSw; (try dsimp only at hSw); go_simp; try with_reducible rfl)⟩) (by assumption) ?_
  go_simp
  refine wpAnyH_ready (rs := [1, 4]) (by kernel_rfl) (by simp) ?_
  refine AllReadyH.cons rfl (fun K hK => ?_) (AllReadyH.cons rfl (fun K hK => ?_) AllReadyH.nil)
  · go_simp
    refine (cloneLasts_c a xs c wo hx (by omega) hc).mono ?_
    rintro e wc ⟨v1, rfl, O1, hb⟩
    replace D := Lib.hid (D.out.later hb)
    refine hK.out _ _ (lastC_cells (D.out.get 0 rfl)) (fun hHeld => ?_)
    clear hK K
    go_simp
    refine wpAnyH_ready (rs := [4]) (by kernel_rfl) (by simp) ?_
    refine AllReadyH.cons rfl (fun K hK => ?_) AllReadyH.nil
    go_simp
    obtain ⟨wt, hwt⟩ : ∃ wt, wt = wc.alloc (.cells #[.string x.Name, .int .i64 x.Length, .int .i64 x.Ball, .int .i64 x.Instep, .int .i64 x.Heel, .int .i64 x.Pitch] 30) := ⟨_, rfl⟩
    rw [← hwt]
    have hst : Below wc.heap.size wc wt := by rw [hwt]; exact newB _ _
    have htmp : wt.heap[wc.heap.size]? = some (.cells (Flat.el x).toArray 30 (0, 0)) := by rw [hwt]; exact heap_alloc_new _ _
    clear hwt
    have hne : v1.ownBlock ≠ some wc.heap.size := own_ne_new O1 (Or.inr (Nat.le_refl _))
    have hne2 : v1.ownBlock ≠ some w.heap.size := own_ne_new O1 (Or.inl (by omega))
    replace D := Lib.hid (D.out.later hst)
    replace O1 := (O1.later hst).base hBo
    refine hK.out _ _ (lastC_cells (D.out.get 0 rfl)) (fun hHeld => ?_)
    clear hK K hst
    go_simp
    refine wpAnyH_ready (rs := [5]) (by kernel_rfl) (by simp) ?_
    refine AllReadyH.cons rfl (fun K hK => ?_) AllReadyH.nil
    go_simp
    refine (insertLast_c w.heap.size v1 xs i x wc.heap.size wt O1 D.out.up.size hP.out.le (by omega) htmp hne).mono ?_
    rintro e w' ⟨v', rfl, O2, hg⟩
    have V1 := lastC_cells ((D.out.get 0 rfl : Own _ _ _ _ (lastC x)).kept hg (Or.inr (fun e => hne2 e.symm)))
    have hbz := below_mark D.out.up O1 (Nat.le_refl _) hg
    refine hK.out _ _ V1 (fun hHeld => ?_)
    clear hK K
    go_simp
    refine wpAnyH_take (i := 6) (v := _) rfl (by kernel_rfl) (by kernel_rfl) (by kernel_rfl) (fun _ _ _ h => h) (Or.inl ⟨by rfl, (by intro w hSw; (try dsimp only at hSw); go_simp; try with_reducible rfl)⟩) (by assumption) ?_
    go_simp
    refine wpAnyH_take (i := 7) (v := _) rfl (by kernel_rfl) (by kernel_rfl) (by kernel_rfl) (fun _ _ _ h => h) (Or.inl ⟨by rfl, (by intro w hSw; (try dsimp only at hSw); go_simp; try with_reducible rfl)⟩) (by assumption) ?_
    go_simp
    refine wpAnyH_done (by kernel_rfl) ?_ _
    go_wp2_with fail
    go_ret2
    exact ⟨v', i, rfl, hP.out, O2, hbz⟩
  · go_simp
    obtain ⟨wt, hwt⟩ : ∃ wt, wt = wo.alloc (.cells #[.string x.Name, .int .i64 x.Length, .int .i64 x.Ball, .int .i64 x.Instep, .int .i64 x.Heel, .int .i64 x.Pitch] 30) := ⟨_, rfl⟩
    rw [← hwt]
    have hst : Below wo.heap.size wo wt := by rw [hwt]; exact newB _ _
    have htmp : wt.heap[wo.heap.size]? = some (.cells (Flat.el x).toArray 30 (0, 0)) := by rw [hwt]; exact heap_alloc_new _ _
    have hsz : wt.heap.size = wo.heap.size + 1 := by rw [hwt]; exact World.size_alloc _ _
    clear hwt
    replace D := Lib.hid (D.out.later hst)
    replace hx := hx.below hst
    refine hK.out _ _ (lastC_cells (D.out.get 0 rfl)) (fun hHeld => ?_)
    clear hK K hst
    go_simp
    refine wpAnyH_ready (rs := [1]) (by kernel_rfl) (by simp) ?_
    refine AllReadyH.cons rfl (fun K hK => ?_) AllReadyH.nil
    go_simp
    refine (cloneLasts_c a xs c wt hx (by omega) hc).mono ?_
    rintro e wc ⟨v1, rfl, O1, hb⟩
    have hne : v1.ownBlock ≠ some wo.heap.size := own_ne_new O1 (Or.inl (by omega))
    have hne2 : v1.ownBlock ≠ some w.heap.size := own_ne_new O1 (Or.inl (by omega))
    replace O1 := O1.base (show w.heap.size ≤ wt.heap.size by omega)
    have htmp2 := (hb.block wo.heap.size (by omega)).trans htmp
    replace D := Lib.hid (D.out.later hb)
    refine hK.out _ _ (lastC_cells (D.out.get 0 rfl)) (fun hHeld => ?_)
    clear hK K hb htmp hsz
    go_simp
    refine wpAnyH_ready (rs := [5]) (by kernel_rfl) (by simp) ?_
    refine AllReadyH.cons rfl (fun K hK => ?_) AllReadyH.nil
    go_simp
    refine (insertLast_c w.heap.size v1 xs i x wo.heap.size wc O1 D.out.up.size hP.out.le (by omega) htmp2 hne).mono ?_
    rintro e w' ⟨v', rfl, O2, hg⟩
    have V1 := lastC_cells ((D.out.get 0 rfl : Own _ _ _ _ (lastC x)).kept hg (Or.inr (fun e => hne2 e.symm)))
    have hbz := below_mark D.out.up O1 (Nat.le_refl _) hg
    refine hK.out _ _ V1 (fun hHeld => ?_)
    clear hK K
    go_simp
    refine wpAnyH_take (i := 6) (v := _) rfl (by kernel_rfl) (by kernel_rfl) (by kernel_rfl) (fun _ _ _ h => h) (Or.inl ⟨by rfl, (by intro w hSw; (try dsimp only at hSw); go_simp; try with_reducible rfl)⟩) (by assumption) ?_
    go_simp
    refine wpAnyH_take (i := 7) (v := _) rfl (by kernel_rfl) (by kernel_rfl) (by kernel_rfl) (fun _ _ _ h => h) (Or.inl ⟨by rfl, (by intro w hSw; (try dsimp only at hSw); go_simp; try with_reducible rfl)⟩) (by assumption) ?_
    go_simp
    refine wpAnyH_done (by kernel_rfl) ?_ _
    go_wp2_with fail
    go_ret2
    exact ⟨v', i, rfl, hP.out, O2, hbz⟩
end Go.Proofs.YtaeinllbjkjhlaaGreatDoor
