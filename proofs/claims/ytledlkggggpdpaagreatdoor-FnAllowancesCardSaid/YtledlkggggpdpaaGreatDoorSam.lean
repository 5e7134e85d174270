/- Two lists of edges that are drawn, and the widest allowance. -/
import Derived.Test.YtledlkggggpdpaaGreatDoorSpo
import Derived.Test.YtledlkggggpdpaaGreatDoorTakeS2
namespace Go.Proofs.YtledlkggggpdpaaGreatDoor
open Go.RowKit

set_option maxRecDepth 100000 in
set_option maxHeartbeats 4000000 in
theorem drawSameStrips_c (ca : Option Addr) (L : List UInt8) (cc : Nat) (w : World) (hx : At w ca L) (hl : L.length ≤ 9223372036854775807) :
    Calls Tryz.prog 34 #[.slice ca L.length cc] w fun e w' => ∃ (v1 v2 : Value) (xs ys : List Strip), e = .returned (.tuple #[v1, v2]) ∧ xs.length ≤ 13 ∧ ys.length ≤ 13 ∧ Own w.heap.size w' 54 v1 xs ∧ Own w.heap.size w' 54 v2 ys ∧ Below w.heap.size w w' := by
  go_enter Tryz.func34, Tryz.ntmps34
  go_wp2_with fail
  refine (l00From_c ca L cc w hx hl).mono ?_
  rintro e w1 ⟨rfl, hS1, hb1⟩
  have D := Lib.hid (Dr.start (hS1.less (M' := 100) (by omega)))
  have hlt := hS1.lt
  clear hS1 hx
  go_wp2_with fail
  refine (l09Draw_c w.heap.size 20 w1 (D.out.src.less (by omega))).mono ?_
  rintro e w2 ⟨v1, xs, rfl, hxl, hxs, hO, hS2, hg2⟩
  obtain ⟨xg, xc, rfl⟩ := hO.row (by omega)
  replace D := Lib.hid (D.out.made hS2 hg2 hO)
  have hrep : Hid (∀ x ∈ xs, DrawnS x) := Lib.hid hxs
  clear hS2 hg2 hO hxs
  obtain ⟨wz, hwz⟩ : ∃ wz, wz = w2.alloc (.cells #[] 54) := ⟨_, rfl⟩
  have hbz : Below w2.heap.size w2 wz := by rw [hwz]; exact newB _ _
  have hEm : Own w2.heap.size wz 54 (.slice (some ⟨w2.heap.size, 0, none⟩) 0 0) ([] : List Strip) := by rw [hwz]; exact own_new _ _
  have hxA := ((D.out.get 0 rfl : Own _ _ _ _ xs).later hbz).at'
  replace hwz := Lib.hid hwz
  have hsz2 := hbz.size
  go_wp2_with (first | rw [← hwz.out] | (at_builtin; refine wpList_pushall rfl (.tmp 11) (.tmp 12) 41 rfl w2.heap.size 54 _ 32 Tryz.underlying41 infoStrip rfl _ [] xs rfl hEm _ _ rfl (fun h => by cases h) hxA (by simp; omega) (by decide) hsz2 ?_; intro v3 w3 hO3 hg3; simp only [List.nil_append] at hO3; have hb3 : Below w2.heap.size w2 w3 := hbz.grown hg3 hbz.size (fun k hk => by have : w2.heap.size = k := Option.some.inj hk; omega); replace D := Lib.hid (D.out.add hb3 hO3); obtain ⟨yg, yc, rfl⟩ := hO3.row (by omega); clear hO3 hg3 hb3 hbz hEm hxA))
  refine (one_c w.heap.size 8 2 _ (D.out.src.less (by omega)) (by omega) (by omega)).mono ?_
  rintro e w4 ⟨v, rfl, hS4, hg4⟩
  replace D := Lib.hid (D.out.drew hS4 hg4)
  clear hS4 hg4 hwz hsz2
  replace D : Hid (Dr w1 w4 w.heap.size 8 [ite' 54 (.slice (some ⟨yg, 0, none⟩) xs.length yc) xs, ite' 54 (.slice (some ⟨xg, 0, none⟩) xs.length xc) xs]) := Lib.hid (D.out.less (by omega))
  cases v
  · go_wp2_with fail
    refine (one_c w.heap.size 4 5 _ (D.out.src.less (by omega)) (by omega) (by omega)).mono ?_
    rintro e w6 ⟨v, rfl, hS6, hg6⟩
    replace D := Lib.hid (D.out.drew hS6 hg6)
    clear hS6 hg6
    cases v
    · have hbE := drew_up hb1 D.out.up (Nat.le_refl _)
      have o1 := Lib.hid ((D.out.get 1 rfl : Own _ _ _ _ xs).base hb1.size)
      have o2 := Lib.hid ((D.out.get 0 rfl : Own _ _ _ _ (xs)).base hb1.size)
      go_wp2_with fail
      go_ret2
      exact ⟨_, _, xs, _, rfl, by omega, by first | omega | (simp; omega), o1.out, o2.out, hbE⟩
    · obtain ⟨wt, hwt⟩ : ∃ wt, wt = w6.alloc (.cells #[.int .i64 0, .int .i64 0, .int .i64 0, .int .i64 0] 54) := ⟨_, rfl⟩
      have htmp : wt.heap[w6.heap.size]? = some (.cells (Flat.el (⟨0, 0, 0, 0⟩ : Strip)).toArray 54 (0, 0)) := by rw [hwt]; exact heap_alloc_new _ _
      replace D := Lib.hid (D.out.later (w' := wt) (by rw [hwt]; exact newB _ _))
      have hBw : w1.heap.size ≤ wt.heap.size := D.out.up.size
      have hrw := (D.out.get 0 rfl : Own _ _ _ _ (xs))
      have hel : (xs).length + 1 ≤ 4294967296 := by first | omega | (simp; omega)
      replace hwt := Lib.hid hwt
      go_wp2_with (first | rw [← hwt.out] | (at_builtin; refine wpList_pushTo rfl (.tmp 27) (.tmp 29) 41 rfl w1.heap.size 54 _ 32 Tryz.underlying41 infoStrip rfl _ (xs) (⟨0, 0, 0, 0⟩ : Strip) rfl (by first | exact hrw | (have h := hrw; simpa using h)) w6.heap.size 1 rfl 54 htmp hel (by decide) hBw ?_; intro g' cap w7 hO7 hg7 hl7))
      have D7 := Lib.hid (D.out.push 0 rfl hO7 hg7 hl7)
      have hbE := drew_up hb1 D7.out.up (Nat.le_refl _)
      have o1 := Lib.hid ((D7.out.get 1 rfl : Own _ _ _ _ xs).base hb1.size)
      have o2 := Lib.hid ((D7.out.get 0 rfl : Own _ _ _ _ ((xs) ++ [(⟨0, 0, 0, 0⟩ : Strip)])).base hb1.size)
      clear hO7 hg7 hl7
      go_ret2
      exact ⟨_, _, xs, (xs) ++ [⟨0, 0, 0, 0⟩], rfl, by omega, by simp; omega, o1.out, by first | exact o2.out | (have h := o2.out; simpa using h), hbE⟩

  · have h0 : 0 < xs.length := by omega
    have h0I : (0 : Int) < xs.length := by omega
    have hd := hrep.out _ (List.getElem_mem h0)
    have hr3 := hd.right
    have c3 : w4.cell? ⟨yg, 3, none⟩ = some (.int .i64 xs[0].Right) := by
      have h := ((D.out.get 0 rfl : Own _ _ _ _ xs).at'.strip h0).2.2.2
      simpa using h
    have hcell := Lib.hid (fun w' (h : Own w1.heap.size w' 54 (.slice (some ⟨yg, 0, none⟩) xs.length yc) xs) => show w'.cell? ⟨yg, 3, none⟩ = some (.int .i64 xs[0].Right) by
      have h := (h.at'.strip h0).2.2.2
      simpa using h)
    obtain ⟨x, hxe⟩ : ∃ x, x = xs[0] := ⟨_, rfl⟩
    rw [← hxe] at c3 hcell hr3
    replace hxe := Lib.hid hxe
    clear hd
    go_wp2_with fail
    refine wp_region_heldS (S := (fun w' => w'.cell? ⟨yg, 3, none⟩ = some (.int .i64 x.Right))) 9 (by kernel_rfl) c3 (fun hHeld => ?_)
    obtain ⟨wo, hwo⟩ : ∃ wo, wo = w4.drew := ⟨_, rfl⟩
    rw [← hwo] at hHeld ⊢
    replace D := Lib.hid (D.out.later (w' := wo) (by rw [hwo]; exact (Below.refl _ _).drew))
    clear hwo c3
    refine wpAnyS_take (i := 0) (v := _) rfl (by kernel_rfl) (by kernel_rfl) (by kernel_rfl) (by kernel_rfl) (by kernel_rfl) (fun _ _ _ h => h) (Or.inl ⟨by rfl, (by intro w hSw; (try dsimp only at hSw); go_simp; try with_reducible rfl)⟩) (by assumption) ?_
    go_simp
    refine wpAnyS_take (i := 1) (v := _) rfl (by kernel_rfl) (by kernel_rfl) (by kernel_rfl) (by kernel_rfl) (by kernel_rfl) (fun _ _ _ h => h) (Or.inl ⟨by rfl, (by intro w hSw; (try dsimp only at hSw); go_simp; try with_reducible rfl)⟩) (by assumption) ?_
    go_simp
    refine wpAnyS_take (i := 2) (v := _) rfl (by kernel_rfl) (by kernel_rfl) (by kernel_rfl) (by kernel_rfl) (by kernel_rfl) (fun _ _ _ h => h) (Or.inl ⟨by rfl, (by intro w hSw; (try dsimp only at hSw); go_simp; try with_reducible rfl)⟩) (by assumption) ?_
    go_simp
    refine wpAnyS_take (i := 3) (v := _) rfl (by kernel_rfl) (by kernel_rfl) (by kernel_rfl) (by kernel_rfl) (by kernel_rfl) (fun _ _ _ h => h) (Or.inl ⟨by rfl, (by intro w hSw; (try dsimp only at hSw); go_simp; try with_reducible rfl)⟩) (by assumption) ?_
    go_simp
    refine wpAnyS_take (i := 4) (v := _) rfl (by kernel_rfl) (by kernel_rfl) (by kernel_rfl) (by kernel_rfl) (by kernel_rfl) (fun _ _ _ h => h) (Or.inl ⟨by rfl, (by intro w hSw; (try dsimp only at hSw); go_simp; try with_reducible rfl)⟩) (by assumption) ?_
    go_simp
    refine wpAnyS_step (i := 5) (by kernel_rfl) rfl (fun K hK => ?_)
    go_simp
    (refine (pick_c w.heap.size 6 2 wo (D.out.src.less (by omega)) (by omega) (by omega)).mono ?_; rintro e wp ⟨p, rfl, p0, p1, hS7, hg7⟩; replace D := Lib.hid (D.out.drew hS7 hg7); clear hS7 hg7; have hpw : IntKind.i64.wrap (x.Right + p) = x.Right + p := IntWalk.i64_in _ (by omega))
    refine hK.out _ _ (hcell.out _ (D.out.get 0 rfl)) (fun hHeld => ?_)
    clear hK K
    go_simp
    refine wpAnyS_take (i := 6) (v := _) rfl (by kernel_rfl) (by kernel_rfl) (by kernel_rfl) (by kernel_rfl) (by kernel_rfl) (fun _ _ _ h => h) (Or.inl ⟨by rfl, (by intro w hSw; (try dsimp only at hSw); go_simp; try with_reducible rfl)⟩) (by assumption) ?_
    go_simp
    refine wpAnyS_take2 (i := 7) 8 (v := _) rfl (by kernel_rfl) (by kernel_rfl) (by kernel_rfl) (by kernel_rfl) (by kernel_rfl) (by kernel_rfl) (by kernel_rfl) (fun _ _ _ h => h) (Or.inl ⟨by rfl, (by intro w hSw; (try dsimp only at hSw); go_simp; try with_reducible rfl)⟩) (by assumption) ?_
    go_simp
    refine wpAnyS_take (i := 8) (v := _) rfl (by kernel_rfl) (by kernel_rfl) (by kernel_rfl) (by kernel_rfl) (by kernel_rfl) (fun _ _ _ h => h) (Or.inl ⟨by rfl, (by intro w hSw; (try dsimp only at hSw); go_simp; try with_reducible rfl)⟩) (by assumption) ?_
    go_simp
    have V := (D.out.get 0 rfl : Own _ _ _ _ xs)
    refine wpAnyS_last (i := 9) (by kernel_rfl) rfl (by kernel_rfl) (fun K hK => ?_)
    (refine cast (if_pos (by rfl)).symm ?_; refine wp_store_fld 2 (.tmp 24) (.tmp 22) rfl w1.heap.size 54 yg yc xs.length xs 0 3 3 (⟨x.Length, x.Allow, x.Left, x.Right + p⟩ : Strip) (.int .i64 (x.Right + p)) rfl (by simp) (by decide) rfl rfl (by kernel_rfl) rfl V h0 (by rw [← hxe.out]; rfl) ?_; intro wz hVq hgq)
    refine hK.out _ _ ?_
    clear hK K
    go_simp
    refine wpAnyS_done (by kernel_rfl) ?_ _
    obtain ⟨zs, hzs⟩ : ∃ zs, zs = xs.set 0 (⟨x.Length, x.Allow, x.Left, x.Right + p⟩ : Strip) := ⟨_, rfl⟩
    have hzl : zs.length = xs.length := by rw [hzs]; exact List.length_set
    rw [← hzs] at hVq
    have D2 := D.out.set 0 rfl hVq hgq (Or.inl rfl)
    replace D := Lib.hid D2
    have hzl6 : zs.length ≤ 6 := by omega
    replace hzl := Lib.hid hzl
    clear hVq hgq V hHeld hpw hcell hr3 hxe hzs D2
    go_wp2_with fail
    refine (one_c w.heap.size 4 5 _ (D.out.src.less (by omega)) (by omega) (by omega)).mono ?_
    rintro e w6 ⟨v, rfl, hS6, hg6⟩
    replace D := Lib.hid (D.out.drew hS6 hg6)
    clear hS6 hg6
    cases v
    · have hbE := drew_up hb1 D.out.up (Nat.le_refl _)
      have o1 := Lib.hid ((D.out.get 1 rfl : Own _ _ _ _ xs).base hb1.size)
      have o2 := Lib.hid ((D.out.get 0 rfl : Own _ _ _ _ (zs)).base hb1.size)
      go_wp2_with fail
      go_ret2
      exact ⟨_, _, xs, _, rfl, by omega, by first | omega | (simp; omega), o1.out, o2.out, hbE⟩
    · obtain ⟨wt, hwt⟩ : ∃ wt, wt = w6.alloc (.cells #[.int .i64 0, .int .i64 0, .int .i64 0, .int .i64 0] 54) := ⟨_, rfl⟩
      have htmp : wt.heap[w6.heap.size]? = some (.cells (Flat.el (⟨0, 0, 0, 0⟩ : Strip)).toArray 54 (0, 0)) := by rw [hwt]; exact heap_alloc_new _ _
      replace D := Lib.hid (D.out.later (w' := wt) (by rw [hwt]; exact newB _ _))
      have hBw : w1.heap.size ≤ wt.heap.size := D.out.up.size
      have hrw := (D.out.get 0 rfl : Own _ _ _ _ (zs))
      have hel : (zs).length + 1 ≤ 4294967296 := by first | omega | (simp; omega)
      replace hwt := Lib.hid hwt
      go_wp2_with (first | rw [← hwt.out] | (at_builtin; refine wpList_pushTo rfl (.tmp 27) (.tmp 29) 41 rfl w1.heap.size 54 _ 32 Tryz.underlying41 infoStrip rfl _ (zs) (⟨0, 0, 0, 0⟩ : Strip) rfl (by first | exact hrw | (have h := hrw; simpa using h)) w6.heap.size 1 rfl 54 htmp hel (by decide) hBw ?_; intro g' cap w7 hO7 hg7 hl7))
      have D7 := Lib.hid (D.out.push 0 rfl hO7 hg7 hl7)
      have hbE := drew_up hb1 D7.out.up (Nat.le_refl _)
      have o1 := Lib.hid ((D7.out.get 1 rfl : Own _ _ _ _ xs).base hb1.size)
      have o2 := Lib.hid ((D7.out.get 0 rfl : Own _ _ _ _ ((zs) ++ [(⟨0, 0, 0, 0⟩ : Strip)])).base hb1.size)
      clear hO7 hg7 hl7
      go_ret2
      exact ⟨_, _, xs, (zs) ++ [⟨0, 0, 0, 0⟩], rfl, by omega, by simp; omega, o1.out, by first | exact o2.out | (have h := o2.out; simpa using h), hbE⟩
theorem f6widest_c (a : Option Addr) (xs : List Strip) (c : Nat) (w : World) (hx : At w a xs) (hl : xs.length ≤ 1000) (hr : ∀ x ∈ xs, 0 ≤ x.Allow ∧ x.Allow ≤ 200) :
    Calls Tryz.prog 42 #[.slice a xs.length c] w fun e w' => ∃ m : Int, e = .returned (.int .i64 m) ∧ 0 ≤ m ∧ (∀ x ∈ xs, x.Allow ≤ m) ∧ (m = 0 ∨ ∃ x ∈ xs, x.Allow = m) ∧ w' = w := by
  replace hr := Lib.hid hr
  go_enter Tryz.func42, Tryz.ntmps42
  go_wp2_with fail
  go_loopw [3, 4] (fun mv i wr => ∃ (k : Nat) (m : Int), k ≤ xs.length ∧ i = .int .i64 k ∧ mv = .int .i64 m ∧ Hid ((0 ≤ m ∧ m ≤ 200) ∧ (∀ x ∈ xs.take k, x.Allow ≤ m) ∧ (m = 0 ∨ ∃ x ∈ xs.take k, x.Allow = m)) ∧ wr = w) (fun _ i _ => xs.length - (intOf i).toNat)
  case atStart => exact ⟨0, 0, Nat.zero_le _, rfl, rfl, Lib.hid ⟨by omega, by simp, Or.inl rfl⟩, rfl⟩
  case round =>
    obtain ⟨k, m, hk, rfl, rfl, hm, rfl⟩ := hrel
    by_cases hlt : k < xs.length
    · obtain ⟨b, off, rfl⟩ := hx.addr hlt
      obtain ⟨c0, c1, c2, c3⟩ := hx.strip hlt
      have hkx := hr.out _ (List.getElem_mem hlt)
      have hE := Lib.hid (List.take_succ_eq_append_getElem hlt)
      obtain ⟨x, hxe⟩ : ∃ x, x = xs[k] := ⟨_, rfl⟩
      rw [← hxe] at c0 c1 c2 c3 hkx hE
      clear hxe
      have hm1 := hm.out.1
      by_cases hX : m < x.Allow
      · have hm2 : Hid ((0 ≤ x.Allow ∧ x.Allow ≤ 200) ∧ (∀ y ∈ xs.take (k + 1), y.Allow ≤ x.Allow) ∧ (x.Allow = 0 ∨ ∃ y ∈ xs.take (k + 1), y.Allow = x.Allow)) := Lib.hid ⟨hkx, fun y hy => by
          rw [hE.out] at hy
          rcases List.mem_append.1 hy with hy | hy
          · have := hm.out.2.1 y hy; omega
          · obtain rfl := List.mem_singleton.1 hy; exact Int.le_refl _, Or.inr ⟨x, by rw [hE.out]; simp, rfl⟩⟩
        go_wp2_with fail
        go_roundw
        case rel => exact ⟨k + 1, x.Allow, by omega, by first | rfl | go_num, by first | rfl | (simp; omega), hm2, trivial⟩
        case measure => first | (simp [intOf]; done) | (simp [intOf]; omega)
      · have hm2 : Hid ((0 ≤ m ∧ m ≤ 200) ∧ (∀ y ∈ xs.take (k + 1), y.Allow ≤ m) ∧ (m = 0 ∨ ∃ y ∈ xs.take (k + 1), y.Allow = m)) := Lib.hid ⟨hm1, fun y hy => by
          rw [hE.out] at hy
          rcases List.mem_append.1 hy with hy | hy
          · exact hm.out.2.1 y hy
          · obtain rfl := List.mem_singleton.1 hy; omega, by
          rcases hm.out.2.2 with h | ⟨y, h1, h2⟩
          · exact Or.inl h
          · exact Or.inr ⟨y, by rw [hE.out]; simp [h1], h2⟩⟩
        go_wp2_with fail
        go_roundw
        case rel => exact ⟨k + 1, m, by omega, by first | rfl | go_num, by first | rfl | (simp; omega), hm2, trivial⟩
        case measure => first | (simp [intOf]; done) | (simp [intOf]; omega)
    · obtain rfl : k = xs.length := by omega
      have hm2 := hm.out
      rw [List.take_length] at hm2
      replace hm2 := Lib.hid hm2
      go_wp2_with fail
      go_ret
      exact ⟨m, rfl, hm2.out.1.1, hm2.out.2.1, hm2.out.2.2, rfl⟩
end Go.Proofs.YtledlkggggpdpaaGreatDoor
