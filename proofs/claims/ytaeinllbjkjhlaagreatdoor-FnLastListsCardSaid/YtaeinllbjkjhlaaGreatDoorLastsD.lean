/- Chapter 4, the lasts of some bytes near to a foot. (R10 without fits.) -/
import Derived.Test.YtaeinllbjkjhlaaGreatDoorLastsV
import Derived.Test.YtaeinllbjkjhlaaGreatDoorF05
import Derived.Test.YtaeinllbjkjhlaaGreatDoorLastMath
namespace Go.Proofs.YtaeinllbjkjhlaaGreatDoor
open Go.RowKit

def lastNames : List ByteArray := [⟨#[97]⟩, ⟨#[98, 45, 50]⟩, ⟨#[100, 101, 114, 98, 121]⟩, ⟨#[111, 120, 102, 111, 114, 100]⟩, ⟨#[112, 117, 109, 112]⟩, ⟨#[119]⟩, ⟨#[122]⟩]
theorem lastNames_ok : ∀ x ∈ lastNames, isName x = true := by decide +kernel
theorem lastNames_size : ∀ x ∈ lastNames, x.size ≤ 6 := by decide +kernel
theorem lastNames_up : lastNames.Pairwise (fun a b => nameLt a b = true) := by decide +kernel
theorem l04Names_c (w : World) : Calls Tryz.prog 87 #[] w fun e w' => e = .returned (.slice (some ⟨w.heap.size, 0, none⟩) 7 7) ∧ Own w.heap.size w' 9 (.slice (some ⟨w.heap.size, 0, none⟩) 7 7) lastNames ∧ Below w.heap.size w w' := by
  have hO := Lib.hid (own_alloc w 9 #[.string ⟨#[97]⟩, .string ⟨#[98, 45, 50]⟩, .string ⟨#[100, 101, 114, 98, 121]⟩, .string ⟨#[111, 120, 102, 111, 114, 100]⟩, .string ⟨#[112, 117, 109, 112]⟩, .string ⟨#[119]⟩, .string ⟨#[122]⟩] lastNames rfl (by decide))
  have hb := Lib.hid (newB w (.cells #[.string ⟨#[97]⟩, .string ⟨#[98, 45, 50]⟩, .string ⟨#[100, 101, 114, 98, 121]⟩, .string ⟨#[111, 120, 102, 111, 114, 100]⟩, .string ⟨#[112, 117, 109, 112]⟩, .string ⟨#[119]⟩, .string ⟨#[122]⟩] 9))
  go_enter Tryz.func87, Tryz.ntmps87
  go_wp2_with fail
  go_ret
  exact ⟨rfl, hO.out, hb.out⟩
/-- Lasts near to a foot, their names some of the names, in their order. -/
structure NearS (f : Foot) (k : Nat) (xs : List Last) : Prop where
  near : ∀ x ∈ xs, ∃ nm ∈ lastNames, NearL nm f x
  sub : (xs.map Last.Name).Sublist (lastNames.take k)
theorem NearS.skip {f : Foot} {k : Nat} {xs : List Last} (h : NearS f k xs) : NearS f (k + 1) xs :=
  ⟨h.near, h.sub.trans (List.take_sublist_take_left (Nat.le_succ k))⟩
theorem NearS.push {f : Foot} {k : Nat} {xs : List Last} {x : Last} (h : NearS f k xs) (hk : k < lastNames.length) (hx : NearL lastNames[k] f x) : NearS f (k + 1) (xs ++ [x]) := by
  refine ⟨fun y hy => ?_, ?_⟩
  · rcases List.mem_append.1 hy with hy | hy
    · exact h.near y hy
    · obtain rfl := List.mem_singleton.1 hy
      exact ⟨_, List.getElem_mem hk, hx⟩
  · rw [List.map_append, List.take_succ_eq_append_getElem hk]
    refine List.Sublist.append h.sub ?_
    rw [List.map_singleton, hx.name]
    exact List.Sublist.refl _
theorem NearS.len {f : Foot} {k : Nat} {xs : List Last} (h : NearS f k xs) : xs.length ≤ k := by
  have := h.sub.length_le
  rw [List.length_map, List.length_take] at this
  omega
theorem nearN_ok {f : Foot} {x : Last} {nm : ByteArray} (hf : DrawnF f) (hn : nm ∈ lastNames) (hx : NearL nm f x) : okLast x = true := by
  have h1 := hf.length; have h2 := hf.ball; have h3 := hf.instep; have h4 := hf.heel
  have g1 := hx.length; have g2 := hx.ball; have g3 := hx.instep; have g4 := hx.heel; have g5 := hx.pitch
  refine okLast_iff2.2 ⟨by rw [hx.name]; exact lastNames_ok nm hn, ⟨?_, ?_, ?_, ?_⟩, ?_⟩ <;> omega
theorem NearS.ok {f : Foot} {k : Nat} {xs : List Last} (h : NearS f k xs) (hf : DrawnF f) (hk : k ≤ 7) : OkLasts xs := by
  refine ⟨fun x hx => ?_, fun x hx => ?_, fun i hi => ?_, by have := h.len; omega⟩
  · obtain ⟨nm, hn, hN⟩ := h.near x hx
    exact nearN_ok hf hn hN
  · obtain ⟨nm, hn, hN⟩ := h.near x hx
    rw [hN.name]
    have := lastNames_size nm hn
    omega
  · have hp := lastNames_up.sublist (h.sub.trans (List.take_sublist _ _))
    have := List.pairwise_iff_getElem.1 hp i (i + 1) (by simp; omega) (by simp; omega) (by omega)
    simpa using this
set_option maxRecDepth 100000 in
set_option maxHeartbeats 4000000 in
theorem l04Draw_c (g M : Nat) (f : Foot) (w : World) (hS : SrcAt w g (M + 84)) (hf : DrawnF f) :
    Calls Tryz.prog 39 #[.pointer (some ⟨g, 0, none⟩), .agg #[.int .i64 f.Length, .int .i64 f.Ball, .int .i64 f.Instep, .int .i64 f.Heel]] w fun e w' => ∃ (v : Value) (xs : List Last), e = .returned v ∧ NearS f 7 xs ∧ Own w.heap.size w' 30 v xs ∧ SrcAt w' g M ∧ w.grownBy w' (some g) := by
  have hgl := hS.lt
  obtain ⟨w1, hw1⟩ : ∃ w1, w1 = w.alloc (.cells #[.int .i64 f.Length, .int .i64 f.Ball, .int .i64 f.Instep, .int .i64 f.Heel] 25) := ⟨_, rfl⟩
  have D := (Dr.start hS).alloc 25 #[.int .i64 f.Length, .int .i64 f.Ball, .int .i64 f.Instep, .int .i64 f.Heel] (footC f) rfl (by show 4 ≤ 1048576; omega)
  rw [← hw1] at D
  replace D : Dr w w1 g (M + 84) [ite' 25 (.slice (some ⟨w.heap.size, 0, none⟩) 4 4) (footC f)] := D
  replace D := Lib.hid D
  replace hw1 := Lib.hid hw1
  replace hf := Lib.hid hf
  clear hS
  go_enter Tryz.func39, Tryz.ntmps39
  go_wp2_with (rw [← hw1.out])
  refine (l04Names_c w1).mono ?_
  rintro e w2 ⟨rfl, hO2, hb2⟩
  replace D := Lib.hid (D.out.add hb2 hO2)
  obtain ⟨nb, hnb⟩ : ∃ nb, nb = w1.heap.size := ⟨_, rfl⟩
  rw [← hnb] at D ⊢
  obtain ⟨w3, hw3⟩ : ∃ w3, w3 = w2.alloc (.cells #[] 30) := ⟨_, rfl⟩
  have D3 := D.out.alloc 30 #[] ([] : List Last) rfl (by simp)
  rw [← hw3] at D3
  simp only [List.length_nil] at D3
  replace D := Lib.hid D3
  replace hw3 := Lib.hid hw3
  clear hb2 hO2 hnb hw1 D3
  have hst := (⟨0, [], _, _, by omega, rfl, rfl, Lib.hid ⟨fun x hx => by simp at hx, by simp⟩, Lib.hid (D.out.less (by omega))⟩ : ∃ (k : Nat) (xs : List Last) (xa : Option Addr) (xc : Nat), k ≤ 7 ∧ Value.int .i64 0 = .int .i64 k ∧ Value.slice (some ⟨w2.heap.size, 0, none⟩) 0 0 = .slice xa xs.length xc ∧ Hid (NearS f k xs) ∧ Hid (Dr w w3 g (M + 12 * (7 - k)) [ite' 30 (.slice xa xs.length xc) xs, ite' 9 (.slice (some ⟨nb, 0, none⟩) 7 7) lastNames, ite' 25 (.slice (some ⟨w.heap.size, 0, none⟩) 4 4) (footC f)]))
  clear D
  go_wp2_with (rw [← hw3.out])
  clear hw3
  go_loopw [6, 7] (fun ov i wr => ∃ (k : Nat) (xs : List Last) (xa : Option Addr) (xc : Nat), k ≤ 7 ∧ i = .int .i64 k ∧ ov = .slice xa xs.length xc ∧ Hid (NearS f k xs) ∧ Hid (Dr w wr g (M + 12 * (7 - k)) [ite' 30 (.slice xa xs.length xc) xs, ite' 9 (.slice (some ⟨nb, 0, none⟩) 7 7) lastNames, ite' 25 (.slice (some ⟨w.heap.size, 0, none⟩) 4 4) (footC f)])) (fun _ i _ => 7 - (intOf i).toNat)
  case atStart => exact hst
  case round =>
    clear hst
    obtain ⟨k, xs, xa, xc, hk, rfl, rfl, hN, D⟩ := hrel
    obtain ⟨wo', hwo'⟩ : ∃ wo : World, wo = wr := ⟨_, rfl⟩
    subst hwo'
    by_cases hlt : k < 7
    · have hlt7 : k < lastNames.length := hlt
      have hltI : (k : Int) < 7 := by omega
      have hxl := hN.out.len
      have hel : xs.length + 1 ≤ 4294967296 := by omega
      have hNs := Lib.hid hN.out.skip
      have hNp := Lib.hid (fun (x : Last) => hN.out.push (x := x) hlt7)
      have hnmem : lastNames[k] ∈ lastNames := List.getElem_mem hlt7
      have hcell := Lib.hid (fun w' (h : Own w.heap.size w' 9 (.slice (some ⟨nb, 0, none⟩) 7 7) lastNames) => h.at'.str hlt7)
      generalize lastNames[k] = nm at *
      simp only [Nat.zero_add] at hcell
      clear hxl hnmem
      go_wp2_with fail
      refine (one_c g (M + 12 * (7 - (k + 1)) + 10) 3 _ (D.out.src.less (by omega)) (by omega) (by omega)).mono ?_
      rintro e w4 ⟨v, rfl, hS4, hg4⟩
      replace D := Lib.hid (D.out.drew hS4 hg4)
      clear hS4 hg4
      cases v
      · have hHd := (⟨hcell.out _ (D.out.get 1 rfl), footC_cells (D.out.get 2 rfl)⟩ : w4.cell? ⟨nb, k, none⟩ = some (.string nm) ∧ w4.cell? ⟨w.heap.size, 0, none⟩ = some (.int .i64 f.Length) ∧ w4.cell? ⟨w.heap.size, 1, none⟩ = some (.int .i64 f.Ball) ∧ w4.cell? ⟨w.heap.size, 2, none⟩ = some (.int .i64 f.Instep) ∧ w4.cell? ⟨w.heap.size, 3, none⟩ = some (.int .i64 f.Heel))
        go_wp2_with fail
        refine wp_region_held_drew (S := (fun w' => w'.cell? ⟨nb, k, none⟩ = some (.string nm) ∧ w'.cell? ⟨w.heap.size, 0, none⟩ = some (.int .i64 f.Length) ∧ w'.cell? ⟨w.heap.size, 1, none⟩ = some (.int .i64 f.Ball) ∧ w'.cell? ⟨w.heap.size, 2, none⟩ = some (.int .i64 f.Instep) ∧ w'.cell? ⟨w.heap.size, 3, none⟩ = some (.int .i64 f.Heel))) (by kernel_rfl) hHd (fun hHeld => ?_)
        obtain ⟨wo, hwo⟩ : ∃ wo, wo = w4.drew := ⟨_, rfl⟩
        rw [← hwo] at hHeld ⊢
        have hbo : Below w4.heap.size w4 wo := by rw [hwo]; exact (Below.refl _ _).drew
        replace D := Lib.hid (D.out.later hbo)
        clear hwo hbo hHd
        refine wpAnyH_take (i := 0) (v := _) rfl (by kernel_rfl) (by kernel_rfl) (by kernel_rfl) (fun _ _ _ h => h) (Or.inl ⟨by rfl, (by intro w hSw; (try dsimp only at hSw); go_simp; try with_reducible rfl)⟩) (by assumption) ?_
        go_simp
        refine wpAnyH_take (i := 1) (v := _) rfl (by kernel_rfl) (by kernel_rfl) (by kernel_rfl) (fun _ _ _ h => h) (Or.inl ⟨by rfl, (by intro w hSw; (try dsimp only at hSw); go_simp; try with_reducible rfl)⟩) (by assumption) ?_
        go_simp
        refine wpAnyH_take (i := 2) (v := _) rfl (by kernel_rfl) (by kernel_rfl) (by kernel_rfl) (fun _ _ _ h => h) (Or.inl ⟨by rfl, (by intro w hSw; (try dsimp only at hSw); go_simp; try with_reducible rfl)⟩) (by assumption) ?_
        go_simp
        refine wpAnyH_take (i := 3) (v := _) rfl (by kernel_rfl) (by kernel_rfl) (by kernel_rfl) (fun _ _ _ h => h) (Or.inl ⟨by rfl, (by intro w hSw; (try dsimp only at hSw); go_simp; try with_reducible rfl)⟩) (by assumption) ?_
        go_simp
        refine wpAnyH_take (i := 4) (v := _) rfl (by kernel_rfl) (by kernel_rfl) (by kernel_rfl) (fun _ _ _ h => h) (Or.inl ⟨by rfl, (by intro w hSw; (try dsimp only at hSw); go_simp; try with_reducible rfl)⟩) (by assumption) ?_
        go_simp
        refine wpAnyH_take (i := 5) (v := _) rfl (by kernel_rfl) (by kernel_rfl) (by kernel_rfl) (fun _ _ _ h => h) (Or.inl ⟨by rfl, (by intro w hSw; (try dsimp only at hSw); go_simp; try with_reducible rfl)⟩) (by assumption) ?_
        go_simp
        refine wpAnyH_take (i := 6) (v := _) rfl (by kernel_rfl) (by kernel_rfl) (by kernel_rfl) (fun _ _ _ h => h) (Or.inl ⟨by rfl, (by intro w hSw; (try dsimp only at hSw); go_simp; try with_reducible rfl)⟩) (by assumption) ?_
        go_simp
        refine wpAnyH_ready (rs := [7]) (by kernel_rfl) (by simp) ?_
        refine AllReadyH.cons rfl (fun K hK => ?_) AllReadyH.nil
        go_simp
        (refine (l04New_c g (M + 12 * (7 - (k + 1))) nm f wo (D.out.src.less (by omega)) hf.out).mono ?_; rintro e wp ⟨x, rfl, hx, hS7, hg7⟩; replace D := Lib.hid (D.out.drew hS7 hg7); clear hS7 hg7)
        refine hK.out _ _ ⟨hcell.out _ (D.out.get 1 rfl), footC_cells (D.out.get 2 rfl)⟩ (fun hHeld => ?_)
        clear hK K
        go_simp
        refine wpAnyH_ready (rs := [8]) (by kernel_rfl) (by simp) ?_
        refine AllReadyH.cons rfl (fun K hK => ?_) AllReadyH.nil
        go_simp
        (obtain ⟨wt, hwt⟩ : ∃ wt, wt = wp.alloc (.cells #[.string x.Name, .int .i64 x.Length, .int .i64 x.Ball, .int .i64 x.Instep, .int .i64 x.Heel, .int .i64 x.Pitch] 30) := ⟨_, rfl⟩; rw [← hwt]; have hct : Below wp.heap.size wp wt := (by rw [hwt]; exact newB _ _); have htmp : wt.heap[wp.heap.size]? = some (.cells (Flat.el x).toArray 30 (0, 0)) := (by rw [hwt]; exact heap_alloc_new _ _); clear hwt; replace D := Lib.hid (D.out.later hct))
        refine hK.out _ _ ⟨hcell.out _ (D.out.get 1 rfl), footC_cells (D.out.get 2 rfl)⟩ (fun hHeld => ?_)
        clear hK K
        go_simp
        have hrw := (D.out.get 0 rfl : Own _ _ _ _ xs)
        have hBw : w.heap.size ≤ wt.heap.size := D.out.up.size
        refine wpAnyH_ready (rs := [9]) (by kernel_rfl) (by simp) ?_
        refine AllReadyH.cons rfl (fun K hK => ?_) AllReadyH.nil
        refine cast (if_pos (by rfl)).symm ?_
        refine wp_pushTo (.tmp 19) (.tmp 27) 27 rfl w.heap.size 30 _ 56 Tryz.underlying27 infoLast rfl _ xs x rfl hrw wp.heap.size 1 rfl 30 htmp hel (by decide) hBw ?_
        intro g' cap wq hO' hg' hl'
        replace D := Lib.hid (D.out.push 0 rfl hO' hg' hl')
        refine hK.out _ _ ⟨hcell.out _ (D.out.get 1 rfl), footC_cells (D.out.get 2 rfl)⟩ (fun hHeld => ?_)
        clear hK K hO' hg' hl' hrw htmp hct
        go_simp
        refine wpAnyH_take (i := 10) (v := _) rfl (by kernel_rfl) (by kernel_rfl) (by kernel_rfl) (fun _ _ _ h => h) (Or.inl ⟨by rfl, (by intro w hSw; (try dsimp only at hSw); go_simp; try with_reducible rfl)⟩) (by assumption) ?_
        go_simp
        refine wpAnyH_done (by kernel_rfl) ?_ _
        have hN2 := Lib.hid (hNp.out x hx)
        clear hHeld hx hNp hNs
        go_wp2_with fail
        go_roundw
        case rel => exact ⟨k + 1, xs ++ [x], some ⟨g', 0, none⟩, cap, by omega, by first | rfl | go_num, by simp, hN2, Lib.hid (by have h := D.out; simpa using h)⟩
        case measure => first | (simp [intOf]; done) | (simp [intOf]; omega)
      · go_wp2_with fail
        go_roundw
        case rel => exact ⟨k + 1, xs, xa, xc, by omega, by first | rfl | go_num, rfl, hNs, Lib.hid (D.out.less (by omega))⟩
        case measure => first | (simp [intOf]; done) | (simp [intOf]; omega)
    · obtain rfl : k = 7 := by omega
      go_wp2_with fail
      go_ret
      exact ⟨_, xs, rfl, hN.out, D.out.get 0 rfl, D.out.src.less (by omega), D.out.up⟩
set_option maxHeartbeats 2000000 in
theorem A2Lasts_c (a : Option Addr) (L : List UInt8) (c : Nat) (f : Foot) (w : World) (hx : At w a L) (hl : L.length ≤ 9223372036854775807) (hf : DrawnF f) :
    Calls Tryz.prog 7 #[.slice a L.length c, .agg #[.int .i64 f.Length, .int .i64 f.Ball, .int .i64 f.Instep, .int .i64 f.Heel]] w fun e w' => ∃ (v : Value) (xs : List Last), e = .returned v ∧ NearS f 7 xs ∧ Own w.heap.size w' 30 v xs ∧ Below w.heap.size w w' := by
  obtain ⟨w1, hw1⟩ : ∃ w1, w1 = w.alloc (.cells #[.int .i64 f.Length, .int .i64 f.Ball, .int .i64 f.Instep, .int .i64 f.Heel] 25) := ⟨_, rfl⟩
  have D : Sp w w1 [ite' 25 (.slice (some ⟨w.heap.size, 0, none⟩) 4 4) (footC f)] := by rw [hw1]; exact (Sp.refl w).add (newB w _) (own_footC w _ f)
  have hs1 : Hid (w1.heap.size = w.heap.size + 1) := Lib.hid (by rw [hw1]; exact World.size_alloc _ _)
  replace hw1 := Lib.hid hw1
  replace hx := hx.below D.up
  have hF0 := footC_cells (D.get 0 rfl)
  replace D := Lib.hid D
  replace hf := Lib.hid hf
  go_enter Tryz.func7, Tryz.ntmps7
  go_wp2_with (rw [← hw1.out])
  refine wp_region_held_drew (S := (fun w' => w'.cell? ⟨w.heap.size, 0, none⟩ = some (.int .i64 f.Length) ∧ w'.cell? ⟨w.heap.size, 1, none⟩ = some (.int .i64 f.Ball) ∧ w'.cell? ⟨w.heap.size, 2, none⟩ = some (.int .i64 f.Instep) ∧ w'.cell? ⟨w.heap.size, 3, none⟩ = some (.int .i64 f.Heel))) (by kernel_rfl) hF0 (fun hHeld => ?_)
  obtain ⟨wo, hwo⟩ : ∃ wo, wo = w1.drew := ⟨_, rfl⟩
  rw [← hwo] at hHeld ⊢
  have hbo : Below w1.heap.size w1 wo := by rw [hwo]; exact (Below.refl _ _).drew
  replace D := Lib.hid (D.out.later hbo)
  replace hx := hx.below hbo
  clear hwo hbo hF0 hw1
  refine wpAnyH_take (i := 0) (v := _) rfl (by kernel_rfl) (by kernel_rfl) (by kernel_rfl) (fun _ _ _ h => h) (Or.inl ⟨by rfl, (by intro w hSw; (try dsimp only at hSw); go_simp; try with_reducible rfl)⟩) (by assumption) ?_
  go_simp
  refine wpAnyH_take (i := 2) (v := _) rfl (by kernel_rfl) (by kernel_rfl) (by kernel_rfl) (fun _ _ _ h => h) (Or.inl ⟨by rfl, (by intro w hSw; (try dsimp only at hSw); go_simp; try with_reducible rfl)⟩) (by assumption) ?_
  go_simp
  have D0 := D
  refine wpAnyH_ready (rs := [1]) (by kernel_rfl) (by simp) ?_
  refine AllReadyH.cons rfl (fun K hK => ?_) AllReadyH.nil
  go_simp
  (refine (l00From_c a L c wo hx hl).mono ?_; rintro e w2 ⟨rfl, hS, hb2⟩; replace D := Lib.hid (D.out.later hb2))
  refine hK.out _ _ (footC_cells (D.out.get 0 rfl)) (fun hHeld => ?_)
  clear hK K
  go_simp
  refine wpAnyH_ready (rs := [3]) (by kernel_rfl) (by simp) ?_
  refine AllReadyH.cons rfl (fun K hK => ?_) AllReadyH.nil
  go_simp
  (refine (l04Draw_c wo.heap.size 0 f w2 (hS.less (by omega)) hf.out).mono ?_; rintro e w3 ⟨v, xs, rfl, hN, hO, -, hg⟩; have hF2 := (D.out.get 0 rfl : Own _ _ _ _ (footC f)).kept hg (Or.inr (ne_blk (by have := hs1.out; have := D0.out.up.size; have := (D0.out.get 0 rfl : Own _ _ _ _ (footC f)).lt w.heap.size rfl; omega))))
  refine hK.out _ _ (footC_cells hF2) (fun hHeld => ?_)
  clear hK K
  go_simp
  refine wpAnyH_take (i := 4) (v := _) rfl (by kernel_rfl) (by kernel_rfl) (by kernel_rfl) (fun _ _ _ h => h) (Or.inl ⟨by rfl, (by intro w hSw; (try dsimp only at hSw); go_simp; try with_reducible rfl)⟩) (by assumption) ?_
  go_simp
  refine wpAnyH_done (by kernel_rfl) ?_ _
  have hup := upw D0.out.up (drew_up hb2 hg (Nat.le_refl _))
  have hO2 := hO.base (B' := w.heap.size) (by have := D.out.up.size; omega)
  replace hN := Lib.hid hN
  replace hO2 := Lib.hid hO2
  clear hHeld hO hg hF2 hS hb2 D D0
  go_wp2_with fail
  go_ret
  exact ⟨v, xs, rfl, hN.out, hO2.out, hup⟩
end Go.Proofs.YtaeinllbjkjhlaaGreatDoor
