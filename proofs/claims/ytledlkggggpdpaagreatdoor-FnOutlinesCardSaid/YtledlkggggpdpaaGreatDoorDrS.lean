/- Chapter 7, what draws outlines for the laws. (Printed by wip/genDrS.py.) -/
import Derived.Test.YtledlkggggpdpaaGreatDoorDrO
import Derived.Test.YtledlkggggpdpaaGreatDoorSpo
import Derived.Test.YtledlkggggpdpaaGreatDoorTakeS2
import Derived.Test.YtledlkggggpdpaaGreatDoorOutT
namespace Go.Proofs.YtledlkggggpdpaaGreatDoor
open Go.RowKit

set_option maxRecDepth 100000 in
set_option maxHeartbeats 4000000 in
theorem drawSameOutline_c (ca : Option Addr) (L : List UInt8) (cc : Nat) (w : World) (hx : At w ca L) (hl : L.length ≤ 9223372036854775807) :
    Calls Tryz.prog 86 #[.slice ca L.length cc] w fun e w' => ∃ (v1 v2 : Value) (xs ys : List Spot), e = .returned (.tuple #[v1, v2]) ∧ xs.length ≤ 13 ∧ ys.length ≤ 13 ∧ Own w.heap.size w' 106 v1 xs ∧ Own w.heap.size w' 106 v2 ys ∧ Below w.heap.size w w' := by
  go_enter Tryz.func86, Tryz.ntmps86
  go_wp2_with fail
  refine (l00From_c ca L cc w hx hl).mono ?_
  rintro e w1 ⟨rfl, hS1, hb1⟩
  have D := Lib.hid (Dr.start (hS1.less (M' := 200) (by omega)))
  have hlt := hS1.lt
  clear hS1 hx
  go_wp2_with fail
  refine (l07Draw_c w.heap.size 20 w1 (D.out.src.less (by omega))).mono ?_
  rintro e w2 ⟨v1, xs, rfl, hO, hxl, hxs, hS2, hg2⟩
  obtain ⟨xg, xc, rfl⟩ := hO.row (by omega)
  replace D := Lib.hid (D.out.made hS2 hg2 hO)
  have hrep : Hid (∀ x ∈ xs, Drawn7 x) := Lib.hid hxs
  clear hS2 hg2 hO hxs
  obtain ⟨wz, hwz⟩ : ∃ wz, wz = w2.alloc (.cells #[] 106) := ⟨_, rfl⟩
  have hbz : Below w2.heap.size w2 wz := by rw [hwz]; exact newB _ _
  have hEm : Own w2.heap.size wz 106 (.slice (some ⟨w2.heap.size, 0, none⟩) 0 0) ([] : List Spot) := by rw [hwz]; exact own_new _ _
  have hxA := ((D.out.get 0 rfl : Own _ _ _ _ xs).later hbz).at'
  replace hwz := Lib.hid hwz
  have hsz2 := hbz.size
  go_wp2_with (first | rw [← hwz.out] | (at_builtin; refine wpList_pushall rfl (.tmp 11) (.tmp 12) 96 rfl w2.heap.size 106 _ 16 Tryz.underlying96 infoSpot rfl _ [] xs rfl hEm _ _ rfl (fun h => by cases h) hxA (by simp; omega) (by decide) hsz2 ?_; intro v3 w3 hO3 hg3; simp only [List.nil_append] at hO3; have hb3 : Below w2.heap.size w2 w3 := hbz.grown hg3 hbz.size (fun k hk => by have : w2.heap.size = k := Option.some.inj hk; omega); replace D := Lib.hid (D.out.add hb3 hO3); obtain ⟨yg, yc, rfl⟩ := hO3.row (by omega); clear hO3 hg3 hb3 hbz hEm hxA))
  refine (one_c w.heap.size 8 2 _ (D.out.src.less (by omega)) (by omega) (by omega)).mono ?_
  rintro e w4 ⟨v, rfl, hS4, hg4⟩
  replace D := Lib.hid (D.out.drew hS4 hg4)
  clear hS4 hg4 hwz hsz2
  replace D : Hid (Dr w1 w4 w.heap.size 8 [ite' 106 (.slice (some ⟨yg, 0, none⟩) xs.length yc) xs, ite' 106 (.slice (some ⟨xg, 0, none⟩) xs.length xc) xs]) := Lib.hid (D.out.less (by omega))
  cases v
  · go_wp2_with fail
    refine (one_c w.heap.size 4 5 _ (D.out.src.less (by omega)) (by omega) (by omega)).mono ?_
    rintro e w6 ⟨v, rfl, hS6, hg6⟩
    replace D := Lib.hid (D.out.drew hS6 hg6)
    clear hS6 hg6
    cases v
    · have hbE := drew_up hb1 D.out.up (Nat.le_refl _)
      have o1 := Lib.hid ((D.out.get 1 rfl : Own _ _ _ _ xs).base hb1.size)
      have o2 := Lib.hid ((D.out.get 0 rfl : Own _ _ _ _ (xs)).base hb1.size)
      go_wp2_with fail
      go_ret2
      exact ⟨_, _, xs, _, rfl, by omega, by first | omega | (simp; omega), o1.out, o2.out, hbE⟩
    · obtain ⟨wt, hwt⟩ : ∃ wt, wt = w6.alloc (.cells #[.int .i64 0, .int .i64 0] 106) := ⟨_, rfl⟩
      have htmp : wt.heap[w6.heap.size]? = some (.cells (Flat.el (⟨0, 0⟩ : Spot)).toArray 106 (0, 0)) := by rw [hwt]; exact heap_alloc_new _ _
      replace D := Lib.hid (D.out.later (w' := wt) (by rw [hwt]; exact newB _ _))
      have hBw : w1.heap.size ≤ wt.heap.size := D.out.up.size
      have hrw := (D.out.get 0 rfl : Own _ _ _ _ (xs))
      have hel : (xs).length + 1 ≤ 4294967296 := by first | omega | (simp; omega)
      replace hwt := Lib.hid hwt
      go_wp2_with (first | rw [← hwt.out] | (at_builtin; refine wpList_pushTo rfl (.tmp 27) (.tmp 29) 96 rfl w1.heap.size 106 _ 16 Tryz.underlying96 infoSpot rfl _ (xs) (⟨0, 0⟩ : Spot) rfl (by first | exact hrw | (have h := hrw; simpa using h)) w6.heap.size 1 rfl 106 htmp hel (by decide) hBw ?_; intro g' cap w7 hO7 hg7 hl7))
      have D7 := Lib.hid (D.out.push 0 rfl hO7 hg7 hl7)
      have hbE := drew_up hb1 D7.out.up (Nat.le_refl _)
      have o1 := Lib.hid ((D7.out.get 1 rfl : Own _ _ _ _ xs).base hb1.size)
      have o2 := Lib.hid ((D7.out.get 0 rfl : Own _ _ _ _ ((xs) ++ [(⟨0, 0⟩ : Spot)])).base hb1.size)
      clear hO7 hg7 hl7
      go_ret2
      exact ⟨_, _, xs, (xs) ++ [⟨0, 0⟩], rfl, by omega, by simp; omega, o1.out, by first | exact o2.out | (have h := o2.out; simpa using h), hbE⟩

  · have h0 : 0 < xs.length := by omega
    have h0I : (0 : Int) < xs.length := by omega
    have hd := hrep.out _ (List.getElem_mem h0)
    have hr3 := hd.1
    have c3 : w4.cell? ⟨yg, 0, none⟩ = some (.int .i64 xs[0].X) := by
      have h := ((D.out.get 0 rfl : Own _ _ _ _ xs).at'.spot h0).1
      simpa using h
    have hcell := Lib.hid (fun w' (h : Own w1.heap.size w' 106 (.slice (some ⟨yg, 0, none⟩) xs.length yc) xs) => show w'.cell? ⟨yg, 0, none⟩ = some (.int .i64 xs[0].X) by
      have h := (h.at'.spot h0).1
      simpa using h)
    obtain ⟨x, hxe⟩ : ∃ x, x = xs[0] := ⟨_, rfl⟩
    rw [← hxe] at c3 hcell hr3
    replace hxe := Lib.hid hxe
    clear hd
    go_wp2_with fail
    refine wp_region_heldS (S := (fun w' => w'.cell? ⟨yg, 0, none⟩ = some (.int .i64 x.X))) 9 (by kernel_rfl) c3 (fun hHeld => ?_)
    obtain ⟨wo, hwo⟩ : ∃ wo, wo = w4.drew := ⟨_, rfl⟩
    rw [← hwo] at hHeld ⊢
    replace D := Lib.hid (D.out.later (w' := wo) (by rw [hwo]; exact (Below.refl _ _).drew))
    clear hwo c3
    refine wpAnyS_take (i := 0) (v := _) rfl (by kernel_rfl) (by kernel_rfl) (by kernel_rfl) (by kernel_rfl) (by kernel_rfl) (fun _ _ _ h => h) (Or.inl ⟨by rfl, (by intro w hSw; (try dsimp only at hSw); go_simp; try with_reducible rfl)⟩) (by assumption) ?_
    go_simp
    refine wpAnyS_take (i := 1) (v := _) rfl (by kernel_rfl) (by kernel_rfl) (by kernel_rfl) (by kernel_rfl) (by kernel_rfl) (fun _ _ _ h => h) (Or.inl ⟨by rfl, (by intro w hSw; (try dsimp only at hSw); go_simp; try with_reducible rfl)⟩) (by assumption) ?_
    go_simp
    refine wpAnyS_take (i := 2) (v := _) rfl (by kernel_rfl) (by kernel_rfl) (by kernel_rfl) (by kernel_rfl) (by kernel_rfl) (fun _ _ _ h => h) (Or.inl ⟨by rfl, (by intro w hSw; (try dsimp only at hSw); go_simp; try with_reducible rfl)⟩) (by assumption) ?_
    go_simp
    refine wpAnyS_take (i := 3) (v := _) rfl (by kernel_rfl) (by kernel_rfl) (by kernel_rfl) (by kernel_rfl) (by kernel_rfl) (fun _ _ _ h => h) (Or.inl ⟨by rfl, (by intro w hSw; (try dsimp only at hSw); go_simp; try with_reducible rfl)⟩) (by assumption) ?_
    go_simp
    refine wpAnyS_take (i := 4) (v := _) rfl (by kernel_rfl) (by kernel_rfl) (by kernel_rfl) (by kernel_rfl) (by kernel_rfl) (fun _ _ _ h => h) (Or.inl ⟨by rfl, (by intro w hSw; (try dsimp only at hSw); go_simp; try with_reducible rfl)⟩) (by assumption) ?_
    go_simp
    refine wpAnyS_step (i := 5) (by kernel_rfl) rfl (fun K hK => ?_)
    go_simp
    (refine (pick_c w.heap.size 6 2 wo (D.out.src.less (by omega)) (by omega) (by omega)).mono ?_; rintro e wp ⟨p, rfl, p0, p1, hS7, hg7⟩; replace D := Lib.hid (D.out.drew hS7 hg7); clear hS7 hg7; have hpw : IntKind.i64.wrap (x.X + p) = x.X + p := IntWalk.i64_in _ (by omega))
    refine hK.out _ _ (hcell.out _ (D.out.get 0 rfl)) (fun hHeld => ?_)
    clear hK K
    go_simp
    refine wpAnyS_take (i := 6) (v := _) rfl (by kernel_rfl) (by kernel_rfl) (by kernel_rfl) (by kernel_rfl) (by kernel_rfl) (fun _ _ _ h => h) (Or.inl ⟨by rfl, (by intro w hSw; (try dsimp only at hSw); go_simp; try with_reducible rfl)⟩) (by assumption) ?_
    go_simp
    refine wpAnyS_take2 (i := 7) 8 (v := _) rfl (by kernel_rfl) (by kernel_rfl) (by kernel_rfl) (by kernel_rfl) (by kernel_rfl) (by kernel_rfl) (by kernel_rfl) (fun _ _ _ h => h) (Or.inl ⟨by rfl, (by intro w hSw; (try dsimp only at hSw); go_simp; try with_reducible rfl)⟩) (by assumption) ?_
    go_simp
    refine wpAnyS_take (i := 8) (v := _) rfl (by kernel_rfl) (by kernel_rfl) (by kernel_rfl) (by kernel_rfl) (by kernel_rfl) (fun _ _ _ h => h) (Or.inl ⟨by rfl, (by intro w hSw; (try dsimp only at hSw); go_simp; try with_reducible rfl)⟩) (by assumption) ?_
    go_simp
    have V := (D.out.get 0 rfl : Own _ _ _ _ xs)
    refine wpAnyS_last (i := 9) (by kernel_rfl) rfl (by kernel_rfl) (fun K hK => ?_)
    (refine cast (if_pos (by rfl)).symm ?_; refine wp_store_fld 2 (.tmp 24) (.tmp 22) rfl w1.heap.size 106 yg yc xs.length xs 0 0 0 (⟨x.X + p, x.Y⟩ : Spot) (.int .i64 (x.X + p)) rfl (by simp) (by decide) rfl rfl (by kernel_rfl) rfl V h0 (by rw [← hxe.out]; rfl) ?_; intro wz hVq hgq)
    refine hK.out _ _ ?_
    clear hK K
    go_simp
    refine wpAnyS_done (by kernel_rfl) ?_ _
    obtain ⟨zs, hzs⟩ : ∃ zs, zs = xs.set 0 (⟨x.X + p, x.Y⟩ : Spot) := ⟨_, rfl⟩
    have hzl : zs.length = xs.length := by rw [hzs]; exact List.length_set
    rw [← hzs] at hVq
    have D2 := D.out.set 0 rfl hVq hgq (Or.inl rfl)
    replace D := Lib.hid D2
    have hzl6 : zs.length ≤ 11 := by omega
    replace hzl := Lib.hid hzl
    clear hVq hgq V hHeld hpw hcell hr3 hxe hzs D2
    go_wp2_with fail
    refine (one_c w.heap.size 4 5 _ (D.out.src.less (by omega)) (by omega) (by omega)).mono ?_
    rintro e w6 ⟨v, rfl, hS6, hg6⟩
    replace D := Lib.hid (D.out.drew hS6 hg6)
    clear hS6 hg6
    cases v
    · have hbE := drew_up hb1 D.out.up (Nat.le_refl _)
      have o1 := Lib.hid ((D.out.get 1 rfl : Own _ _ _ _ xs).base hb1.size)
      have o2 := Lib.hid ((D.out.get 0 rfl : Own _ _ _ _ (zs)).base hb1.size)
      go_wp2_with fail
      go_ret2
      exact ⟨_, _, xs, _, rfl, by omega, by first | omega | (simp; omega), o1.out, o2.out, hbE⟩
    · obtain ⟨wt, hwt⟩ : ∃ wt, wt = w6.alloc (.cells #[.int .i64 0, .int .i64 0] 106) := ⟨_, rfl⟩
      have htmp : wt.heap[w6.heap.size]? = some (.cells (Flat.el (⟨0, 0⟩ : Spot)).toArray 106 (0, 0)) := by rw [hwt]; exact heap_alloc_new _ _
      replace D := Lib.hid (D.out.later (w' := wt) (by rw [hwt]; exact newB _ _))
      have hBw : w1.heap.size ≤ wt.heap.size := D.out.up.size
      have hrw := (D.out.get 0 rfl : Own _ _ _ _ (zs))
      have hel : (zs).length + 1 ≤ 4294967296 := by first | omega | (simp; omega)
      replace hwt := Lib.hid hwt
      go_wp2_with (first | rw [← hwt.out] | (at_builtin; refine wpList_pushTo rfl (.tmp 27) (.tmp 29) 96 rfl w1.heap.size 106 _ 16 Tryz.underlying96 infoSpot rfl _ (zs) (⟨0, 0⟩ : Spot) rfl (by first | exact hrw | (have h := hrw; simpa using h)) w6.heap.size 1 rfl 106 htmp hel (by decide) hBw ?_; intro g' cap w7 hO7 hg7 hl7))
      have D7 := Lib.hid (D.out.push 0 rfl hO7 hg7 hl7)
      have hbE := drew_up hb1 D7.out.up (Nat.le_refl _)
      have o1 := Lib.hid ((D7.out.get 1 rfl : Own _ _ _ _ xs).base hb1.size)
      have o2 := Lib.hid ((D7.out.get 0 rfl : Own _ _ _ _ ((zs) ++ [(⟨0, 0⟩ : Spot)])).base hb1.size)
      clear hO7 hg7 hl7
      go_ret2
      exact ⟨_, _, xs, (zs) ++ [⟨0, 0⟩], rfl, by omega, by simp; omega, o1.out, by first | exact o2.out | (have h := o2.out; simpa using h), hbE⟩
theorem drawMirrorOutline_c (ca : Option Addr) (L : List UInt8) (cc : Nat) (w : World) (hx : At w ca L) (hl : L.length ≤ 9223372036854775807) :
    Calls Tryz.prog 73 #[.slice ca L.length cc] w fun e w' => ∃ (v : Value) (xs : List Spot), e = .returned v ∧ (2 ≤ xs.length ∧ xs.length ≤ 26) ∧ Wide7 xs ∧ Own w.heap.size w' 106 v xs ∧ Below w.heap.size w w' := by
  go_enter Tryz.func73, Tryz.ntmps73
  go_wp2_with fail
  refine (l00From_c ca L cc w hx hl).mono ?_
  rintro e w1 ⟨rfl, hS1, hb1⟩
  have hgl := hS1.lt
  go_wp2_with fail
  refine (l07Bent_c w.heap.size 20 w1 (hS1.less (by omega))).mono ?_
  rintro e w2 ⟨v, xs, rfl, hO, hln, hW, hS2, hg2⟩
  have hbE := drew_up hb1 hg2 (Nat.le_refl _)
  replace hO := Lib.hid (hO.base hb1.size)
  go_wp2_with fail
  go_ret
  exact ⟨v, xs, rfl, hln, hW, hO.out, hbE⟩
theorem drawTurnOutline_c (ca : Option Addr) (L : List UInt8) (cc : Nat) (w : World) (hx : At w ca L) (hl : L.length ≤ 9223372036854775807) :
    Calls Tryz.prog 70 #[.slice ca L.length cc] w fun e w' => ∃ (v : Value) (xs : List Spot) (q : Int), e = .returned (.tuple #[v, .int .i64 q]) ∧ (2 ≤ xs.length ∧ xs.length ≤ 26) ∧ Wide7 xs ∧ (-1 ≤ q ∧ q ≤ 4) ∧ Own w.heap.size w' 106 v xs ∧ Below w.heap.size w w' := by
  go_enter Tryz.func70, Tryz.ntmps70
  go_wp2_with fail
  refine (l00From_c ca L cc w hx hl).mono ?_
  rintro e w1 ⟨rfl, hS1, hb1⟩
  have D := Lib.hid (Dr.start (hS1.less (M' := 200) (by omega)))
  clear hS1 hx
  go_wp2_with fail
  refine (l07Bent_c w.heap.size 20 w1 (D.out.src.less (by omega))).mono ?_
  rintro e w2 ⟨v, xs, rfl, hO, hln, hW, hS2, hg2⟩
  replace D := Lib.hid (D.out.made hS2 hg2 hO)
  replace hW := Lib.hid hW
  clear hS2 hg2 hO
  go_wp2_with fail
  refine (pick_c w.heap.size 8 6 w2 (D.out.src.less (by omega)) (by omega) (by omega)).mono ?_
  rintro e w3 ⟨q, rfl, q0, q1, hS3, hg3⟩
  replace D := Lib.hid (D.out.drew hS3 hg3)
  clear hS3 hg3
  have hbE := drew_up hb1 D.out.up (Nat.le_refl _)
  have o1 := Lib.hid ((D.out.get 0 rfl : Own _ _ _ _ xs).base hb1.size)
  go_wp2_with fail
  go_ret2
  exact ⟨_, xs, q - 1, rfl, hln, hW.out, by omega, o1.out, hbE⟩
theorem drawReadOutline_c (ca : Option Addr) (L : List UInt8) (cc : Nat) (w : World) (hx : At w ca L) (hl : L.length ≤ 9223372036854775807) :
    Calls Tryz.prog 84 #[.slice ca L.length cc] w fun e w' => ∃ s : ByteArray, e = .returned (.string s) ∧ s.size ≤ 1048576 ∧ Below w.heap.size w w' := by
  go_enter Tryz.func84, Tryz.ntmps84
  go_wp2_with fail
  refine (l00From_c ca L cc w hx hl).mono ?_
  rintro e w1 ⟨rfl, hS1, hb1⟩
  have D := Lib.hid (Dr.start (hS1.less (M' := 200) (by omega)))
  clear hS1 hx
  go_wp2_with fail
  refine (l07Draw_c w.heap.size 20 w1 (D.out.src.less (by omega))).mono ?_
  rintro e w2 ⟨v, xs, rfl, hO, hln, hA, hS2, hg2⟩
  obtain ⟨xg, xc, rfl⟩ := hO.row (by omega)
  replace D := Lib.hid (D.out.made hS2 hg2 hO)
  have hsz := outT_size xs (fun x hx => (hA x hx).ok) xs.length (Nat.le_refl _)
  rw [List.take_length] at hsz
  have HT := Lib.hid (l07Text_c _ xs xc w2 hO.at' (by omega) (fun x hx => (hA x hx).ok))
  clear hS2 hg2 hO hA
  go_wp2_with fail
  refine HT.out.mono ?_
  rintro e w4 ⟨rfl, hb4⟩
  replace D := Lib.hid (D.out.later hb4)
  clear hb4 HT
  generalize outT xs = t at *
  have ht : t.size ≤ 100000 := by omega
  clear hsz
  go_wp2_with fail
  refine (one_c w.heap.size 18 3 w4 (D.out.src.less (by omega)) (by omega) (by omega)).mono ?_
  rintro e w5 ⟨v, rfl, hS2, hg2⟩
  replace D := Lib.hid (D.out.drew hS2 hg2)
  clear hS2 hg2
  cases v
  · have hbE := drew_up hb1 D.out.up (Nat.le_refl _)
    go_wp2_with fail
    go_ret
    exact ⟨t, rfl, by omega, hbE⟩
  · go_wp2_with fail
    refine (l01Spoil_c w.heap.size 10 t w5 (D.out.src.less (by omega)) (by omega)).mono ?_
    rintro e w6 ⟨s, rfl, hs, hS2, hg2⟩
    replace D := Lib.hid (D.out.drew hS2 hg2)
    have hbE := drew_up hb1 D.out.up (Nat.le_refl _)
    go_wp2_with fail
    go_ret
    exact ⟨s, rfl, by omega, hbE⟩
end Go.Proofs.YtledlkggggpdpaaGreatDoor
