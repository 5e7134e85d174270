/- Chapter 9, edges that are spoilt, and what the law draws. -/
import Derived.Test.YtledlkggggpdpaaGreatDoorSt1
import Derived.Test.YtledlkggggpdpaaGreatDoorFld
import Derived.Test.YtledlkggggpdpaaGreatDoorRdStrip
namespace Go.Proofs.YtledlkggggpdpaaGreatDoor
open Go.RowKit

theorem ne_blk9 {a b n c : Nat} (h : a ≠ b) : (Value.slice (some ⟨a, 0, none⟩) n c).ownBlock ≠ some b := fun e => h (Option.some.inj (show some a = some b from e))
theorem off_gt {g k : Nat} (h : g < k) : Off (some ⟨k, 0, none⟩) g := fun b o e => by
  simp only [Option.some.injEq, Addr.mk.injEq] at e
  omega
set_option maxRecDepth 100000 in
set_option maxHeartbeats 2000000 in
theorem l09Spoil_c (B g M b n c i : Nat) (xs : List Strip) (w : World) (hS : SrcAt w g (M + 4)) (hO : Own B w 54 (.slice (some ⟨b, 0, none⟩) n c) xs) (hn : n = xs.length) (hi : i < xs.length) (hgB : g < B) (hr : ∀ x ∈ xs, Rep.ok x) :
    Calls Tryz.prog 121 #[.pointer (some ⟨g, 0, none⟩), .pointer (some ⟨b, i * 4, none⟩)] w fun e w' => e = .returned (.tuple #[]) ∧ ∃ (x' : Strip) (wm : World), Rep.ok x' ∧ SrcAt wm g M ∧ w.grownBy wm (some g) ∧ wm.grownBy w' (some b) ∧ Own B w' 54 (.slice (some ⟨b, 0, none⟩) n c) (xs.set i x') := by
  go_enter Tryz.func121, Tryz.ntmps121
  go_wp2_with fail
  refine (pick_c g (M + 2) 4 w hS (by omega) (by omega)).mono ?_
  rintro e w2 ⟨v, rfl, v0, v1, hS2, hg2⟩
  have hv : v = 0 ∨ v = 1 ∨ v = 2 ∨ v = 3 := by omega
  clear v0 v1 hS
  rcases hv with rfl | rfl | rfl | rfl
  · obtain ⟨wl, hwl⟩ : ∃ wl, wl = w2.alloc (.cells #[.int .i64 (-1), .int .i64 0, .int .i64 1, .int .i64 5000, .int .i64 5001, .int .i64 (-9223372036854775808)] 2) := ⟨_, rfl⟩
    have hbl : Below w2.heap.size w2 wl := by rw [hwl]; exact newB _ _
    have hA : At wl (some ⟨w2.heap.size, 0, none⟩) ([-1, 0, 1, 5000, 5001, -9223372036854775808] : List Int) := by rw [hwl]; exact at_lits w2 2 [-1, 0, 1, 5000, 5001, -9223372036854775808]
    have hgl : g < w2.heap.size := hS2.lt
    replace hwl := Lib.hid hwl
    go_wp2_with (rw [← hwl.out])
    refine (among_c g M _ [-1, 0, 1, 5000, 5001, -9223372036854775808] 6 wl (hS2.later hbl) hA (off_gt hgl) (by decide) (by decide)).mono ?_
    rintro e wm ⟨u, rfl, hu, hS3, hg3⟩
    have hu : -9223372036854775808 ≤ u ∧ u ≤ 9223372036854775807 := by
      simp only [List.mem_cons, List.not_mem_nil, or_false] at hu
      omega
    have hG := grownBy_trans (grownBy_trans hg2 (drew_below g hbl)) hg3
    have hOm := Lib.hid (hO.drew hgB hG)
    have hk := hr _ (List.getElem_mem hi)
    clear hwl hbl hA hS2 hg2 hg3
    replace hG := Lib.hid hG
    replace hS3 := Lib.hid hS3
    have hRep := Lib.hid (⟨hu, hk.2.1, hk.2.2.1, hk.2.2.2⟩ : Rep.ok (⟨u, xs[i].Allow, xs[i].Left, xs[i].Right⟩ : Strip))
    clear hk hu
    go_wp2_with ((with_reducible refine at_st 2 (.tmp 13) (.tmp 11) ?_); refine wpList_store_fld rfl 2 (.tmp 13) (.tmp 11) rfl B 54 b c n xs i 0 _ (⟨u, xs[i].Allow, xs[i].Left, xs[i].Right⟩ : Strip) (.int .i64 u) rfl (by first | rfl | (simp [Flat.k]; done) | (simp [Flat.k]; omega)) (by decide) rfl rfl (by kernel_rfl) hn hOm.out hi rfl ?_; intro wv hV hgv; replace hV := Lib.hid hV; replace hgv := Lib.hid hgv)
    go_end0
    exact ⟨rfl, _, wm, hRep.out, hS3.out, hG.out, hgv.out, hV.out⟩
  · obtain ⟨wl, hwl⟩ : ∃ wl, wl = w2.alloc (.cells #[.int .i64 (-1), .int .i64 0, .int .i64 200, .int .i64 201] 2) := ⟨_, rfl⟩
    have hbl : Below w2.heap.size w2 wl := by rw [hwl]; exact newB _ _
    have hA : At wl (some ⟨w2.heap.size, 0, none⟩) ([-1, 0, 200, 201] : List Int) := by rw [hwl]; exact at_lits w2 2 [-1, 0, 200, 201]
    have hgl : g < w2.heap.size := hS2.lt
    replace hwl := Lib.hid hwl
    go_wp2_with (rw [← hwl.out])
    refine (among_c g M _ [-1, 0, 200, 201] 4 wl (hS2.later hbl) hA (off_gt hgl) (by decide) (by decide)).mono ?_
    rintro e wm ⟨u, rfl, hu, hS3, hg3⟩
    have hu : -9223372036854775808 ≤ u ∧ u ≤ 9223372036854775807 := by
      simp only [List.mem_cons, List.not_mem_nil, or_false] at hu
      omega
    have hG := grownBy_trans (grownBy_trans hg2 (drew_below g hbl)) hg3
    have hOm := Lib.hid (hO.drew hgB hG)
    have hk := hr _ (List.getElem_mem hi)
    clear hwl hbl hA hS2 hg2 hg3
    replace hG := Lib.hid hG
    replace hS3 := Lib.hid hS3
    have hRep := Lib.hid (⟨hk.1, hu, hk.2.2.1, hk.2.2.2⟩ : Rep.ok (⟨xs[i].Length, u, xs[i].Left, xs[i].Right⟩ : Strip))
    clear hk hu
    go_wp2_with ((with_reducible refine at_st 2 (.tmp 21) (.tmp 19) ?_); refine wpList_store_fld rfl 2 (.tmp 21) (.tmp 19) rfl B 54 b c n xs i 1 _ (⟨xs[i].Length, u, xs[i].Left, xs[i].Right⟩ : Strip) (.int .i64 u) rfl (by first | rfl | (simp [Flat.k]; done) | (simp [Flat.k]; omega)) (by decide) rfl rfl (by kernel_rfl) hn hOm.out hi rfl ?_; intro wv hV hgv; replace hV := Lib.hid hV; replace hgv := Lib.hid hgv)
    go_end0
    exact ⟨rfl, _, wm, hRep.out, hS3.out, hG.out, hgv.out, hV.out⟩
  · obtain ⟨wl, hwl⟩ : ∃ wl, wl = w2.alloc (.cells #[.int .i64 (-1), .int .i64 0, .int .i64 200, .int .i64 201] 2) := ⟨_, rfl⟩
    have hbl : Below w2.heap.size w2 wl := by rw [hwl]; exact newB _ _
    have hA : At wl (some ⟨w2.heap.size, 0, none⟩) ([-1, 0, 200, 201] : List Int) := by rw [hwl]; exact at_lits w2 2 [-1, 0, 200, 201]
    have hgl : g < w2.heap.size := hS2.lt
    replace hwl := Lib.hid hwl
    go_wp2_with (rw [← hwl.out])
    refine (among_c g M _ [-1, 0, 200, 201] 4 wl (hS2.later hbl) hA (off_gt hgl) (by decide) (by decide)).mono ?_
    rintro e wm ⟨u, rfl, hu, hS3, hg3⟩
    have hu : -9223372036854775808 ≤ u ∧ u ≤ 9223372036854775807 := by
      simp only [List.mem_cons, List.not_mem_nil, or_false] at hu
      omega
    have hG := grownBy_trans (grownBy_trans hg2 (drew_below g hbl)) hg3
    have hOm := Lib.hid (hO.drew hgB hG)
    have hk := hr _ (List.getElem_mem hi)
    clear hwl hbl hA hS2 hg2 hg3
    replace hG := Lib.hid hG
    replace hS3 := Lib.hid hS3
    have hRep := Lib.hid (⟨hk.1, hk.2.1, hu, hk.2.2.2⟩ : Rep.ok (⟨xs[i].Length, xs[i].Allow, u, xs[i].Right⟩ : Strip))
    clear hk hu
    go_wp2_with ((with_reducible refine at_st 2 (.tmp 29) (.tmp 27) ?_); refine wpList_store_fld rfl 2 (.tmp 29) (.tmp 27) rfl B 54 b c n xs i 2 _ (⟨xs[i].Length, xs[i].Allow, u, xs[i].Right⟩ : Strip) (.int .i64 u) rfl (by first | rfl | (simp [Flat.k]; done) | (simp [Flat.k]; omega)) (by decide) rfl rfl (by kernel_rfl) hn hOm.out hi rfl ?_; intro wv hV hgv; replace hV := Lib.hid hV; replace hgv := Lib.hid hgv)
    go_end0
    exact ⟨rfl, _, wm, hRep.out, hS3.out, hG.out, hgv.out, hV.out⟩
  · obtain ⟨wl, hwl⟩ : ∃ wl, wl = w2.alloc (.cells #[.int .i64 (-1), .int .i64 0, .int .i64 200, .int .i64 201] 2) := ⟨_, rfl⟩
    have hbl : Below w2.heap.size w2 wl := by rw [hwl]; exact newB _ _
    have hA : At wl (some ⟨w2.heap.size, 0, none⟩) ([-1, 0, 200, 201] : List Int) := by rw [hwl]; exact at_lits w2 2 [-1, 0, 200, 201]
    have hgl : g < w2.heap.size := hS2.lt
    replace hwl := Lib.hid hwl
    go_wp2_with (rw [← hwl.out])
    refine (among_c g M _ [-1, 0, 200, 201] 4 wl (hS2.later hbl) hA (off_gt hgl) (by decide) (by decide)).mono ?_
    rintro e wm ⟨u, rfl, hu, hS3, hg3⟩
    have hu : -9223372036854775808 ≤ u ∧ u ≤ 9223372036854775807 := by
      simp only [List.mem_cons, List.not_mem_nil, or_false] at hu
      omega
    have hG := grownBy_trans (grownBy_trans hg2 (drew_below g hbl)) hg3
    have hOm := Lib.hid (hO.drew hgB hG)
    have hk := hr _ (List.getElem_mem hi)
    clear hwl hbl hA hS2 hg2 hg3
    replace hG := Lib.hid hG
    replace hS3 := Lib.hid hS3
    have hRep := Lib.hid (⟨hk.1, hk.2.1, hk.2.2.1, hu⟩ : Rep.ok (⟨xs[i].Length, xs[i].Allow, xs[i].Left, u⟩ : Strip))
    clear hk hu
    go_wp2_with ((with_reducible refine at_st 2 (.tmp 37) (.tmp 35) ?_); refine wpList_store_fld rfl 2 (.tmp 37) (.tmp 35) rfl B 54 b c n xs i 3 _ (⟨xs[i].Length, xs[i].Allow, xs[i].Left, u⟩ : Strip) (.int .i64 u) rfl (by first | rfl | (simp [Flat.k]; done) | (simp [Flat.k]; omega)) (by decide) rfl rfl (by kernel_rfl) hn hOm.out hi rfl ?_; intro wv hV hgv; replace hV := Lib.hid hV; replace hgv := Lib.hid hgv)
    go_end0
    exact ⟨rfl, _, wm, hRep.out, hS3.out, hG.out, hgv.out, hV.out⟩
theorem rep_set {xs : List Strip} {i : Nat} {x : Strip} (h : ∀ y ∈ xs, Rep.ok y) (hx : Rep.ok x) : ∀ y ∈ xs.set i x, Rep.ok y := fun y hy => by
  rcases List.mem_or_eq_of_mem_set hy with hy | rfl
  · exact h y hy
  · exact hx
set_option maxRecDepth 100000 in
set_option maxHeartbeats 4000000 in
theorem l09Bent_c (g M : Nat) (w : World) (hS : SrcAt w g (M + 170)) :
    Calls Tryz.prog 109 #[.pointer (some ⟨g, 0, none⟩)] w fun e w' => ∃ (v : Value) (xs : List Strip), e = .returned v ∧ (2 ≤ xs.length ∧ xs.length ≤ 13) ∧ (∀ x ∈ xs, Rep.ok x) ∧ Own w.heap.size w' 54 v xs ∧ SrcAt w' g M ∧ w.grownBy w' (some g) := by
  have hgl := hS.lt
  have D := Lib.hid (Dr.start hS)
  clear hS
  go_enter Tryz.func109, Tryz.ntmps109
  go_wp2_with fail
  refine (l09Draw_c g (M + 120) w (D.out.src.less (by omega))).mono ?_
  rintro e w1 ⟨v1, xs, rfl, hxl, hxs, hO, hS1, hg1⟩
  obtain ⟨xa, xc, rfl, -⟩ := hO.at
  have hrep : Hid (∀ x ∈ xs, Rep.ok x) := Lib.hid (fun x hx => (hxs x hx).rep)
  replace D := Lib.hid (D.out.made hS1 hg1 hO)
  clear hS1 hg1 hO hxs
  go_wp2_with fail
  refine (pick_c g (M + 118) 16 w1 (D.out.src.less (by omega)) (by omega) (by omega)).mono ?_
  rintro e w2 ⟨v, rfl, v0, v1, hS2, hg2⟩
  replace D := Lib.hid (D.out.drew hS2 hg2)
  clear hS2 hg2
  by_cases h0 : v = 0
  · subst h0
    go_wp2_with fail
    refine (pick_c g (M + 116) xs.length w2 (D.out.src.less (by omega)) (by omega) (by omega)).mono ?_
    rintro e w3 ⟨u, rfl, u0, u1, hS3, hg3⟩
    replace D := Lib.hid (D.out.drew hS3 hg3)
    clear hS3 hg3
    obtain ⟨i, rfl⟩ : ∃ i : Nat, u = i := ⟨u.toNat, by omega⟩
    have hi : i < xs.length := by omega
    have hiI : (i : Int) < xs.length := by omega
    obtain ⟨bb, cc, he⟩ := (D.out.get 0 rfl : Own _ _ _ _ xs).row (by omega)
    simp only [Value.slice.injEq] at he
    obtain ⟨rfl, -, rfl⟩ := he
    go_wp2_with fail
    refine (l09Spoil_c w.heap.size g (M + 112) bb xs.length xc i xs w3 (D.out.src.less (by omega)) (D.out.get 0 rfl) rfl hi hgl hrep.out).mono ?_
    rintro e w4 ⟨rfl, x', wm, hx', hSm, hgm, hgw, hO4⟩
    replace D := Lib.hid ((D.out.drew hSm hgm).set 0 rfl hO4 hgw (Or.inl rfl))
    have hrep2 := Lib.hid (rep_set (i := i) hrep.out hx')
    have hlen : Hid ((xs.set i x').length = xs.length) := Lib.hid List.length_set
    clear hSm hgm hgw hO4
    go_wp2_with fail
    go_ret
    exact ⟨_, xs.set i x', rfl, by have := hlen.out; omega, hrep2.out, D.out.get 0 rfl, D.out.src.less (by omega), D.out.up⟩
  · have h0B : (v == 0) = false := beq_eq_false_iff_ne.2 h0
    by_cases h1 : v = 1
    · subst h1
      obtain ⟨wz, hwz⟩ : ∃ wz, wz = w2.alloc (.cells #[] 54) := ⟨_, rfl⟩
      have Dz := (D.out.sub (js := []) (by simp)).alloc 54 #[] ([] : List Strip) rfl (by simp)
      rw [← hwz] at Dz
      simp only [List.length_nil] at Dz
      have hsz : wz.heap.size = w2.heap.size + 1 := by rw [hwz]; exact World.size_alloc _ _
      obtain ⟨wl, hwl⟩ : ∃ wl, wl = wz.alloc (.cells #[.int .i64 2, .int .i64 12, .int .i64 13] 2) := ⟨_, rfl⟩
      have hA : At wl (some ⟨wz.heap.size, 0, none⟩) ([2, 12, 13] : List Int) := by rw [hwl]; exact at_lits wz 2 [2, 12, 13]
      replace D := Lib.hid (Dz.later (w' := wl) (by rw [hwl]; exact newB _ _))
      have hgl1 : g < wz.heap.size := Dz.src.lt
      replace hwl := Lib.hid (hwl.trans (by rw [hwz]))
      rw [hsz] at hA hgl1
      clear hwz Dz hsz
      go_wp2_with (rw [← hwl.out])
      refine (among_c g (M + 104) _ [2, 12, 13] 3 wl (D.out.src.less (by omega)) hA (off_gt hgl1) (by decide) (by decide)).mono ?_
      rintro e w4 ⟨u, rfl, hu, hS3, hg3⟩
      replace D := Lib.hid (D.out.drew hS3 hg3)
      have hu : 2 ≤ u ∧ u ≤ 13 := by
        simp only [List.mem_cons, List.not_mem_nil, or_false] at hu
        omega
      obtain ⟨T, rfl⟩ : ∃ T : Nat, u = T := ⟨u.toNat, by omega⟩
      have hT3 : 2 ≤ T ∧ T ≤ 13 := by omega
      clear hwl hA hgl1 hS3 hg3 hu hxl hrep
      go_wp2_with fail
      go_loopw [3, 4] (fun ov i wr => ∃ (q : Nat) (xs : List Strip) (xa : Option Addr) (xc : Nat), i = .int .i64 q ∧ ov = .slice xa xs.length xc ∧ q + xs.length = T ∧ Hid (∀ x ∈ xs, DrawnS x) ∧ Hid (Dr w wr g (M + 8 * q) [ite' 54 (.slice xa xs.length xc) xs])) (fun _ i _ => (intOf i).toNat)
      case atStart => exact ⟨T, [], _, 0, rfl, rfl, by simp, Lib.hid (fun x hx => by simp at hx), Lib.hid (D.out.less (by omega))⟩
      case round =>
        clear D
        obtain ⟨q, ys, ya, yc, rfl, rfl, hq, hys, D⟩ := hrel
        obtain ⟨wo, hwo⟩ : ∃ wo : World, wo = wr := ⟨_, rfl⟩
        subst hwo
        cases q with
        | zero =>
          go_wp2_with fail
          go_ret
          exact ⟨_, ys, rfl, by omega, fun x hx => (hys.out x hx).rep, D.out.get 0 rfl, D.out.src.less (by omega), D.out.up⟩
        | succ q =>
          have hq6 : q ≤ 13 := by omega
          have hq1 : ((q + 1 : Nat) : Int) - 1 = q := by omega
          have hel : ys.length + 1 ≤ 4294967296 := by omega
          replace hq := Lib.hid hq
          go_wp2_with fail
          refine (l09New_c g (M + 8 * q) wo (D.out.src.less (by omega))).mono ?_
          rintro e wp ⟨x, rfl, hx, hS6, hg6⟩
          replace D := Lib.hid (D.out.drew hS6 hg6)
          clear hS6 hg6
          obtain ⟨wt, hwt⟩ : ∃ wt, wt = wp.alloc (.cells #[.int .i64 x.Length, .int .i64 x.Allow, .int .i64 x.Left, .int .i64 x.Right] 54) := ⟨_, rfl⟩
          have htmp : wt.heap[wp.heap.size]? = some (.cells (Flat.el x).toArray 54 (0, 0)) := by rw [hwt]; exact heap_alloc_new _ _
          replace D := Lib.hid (D.out.later (w' := wt) (by rw [hwt]; exact newB _ _))
          have hBw : w.heap.size ≤ wt.heap.size := D.out.up.size
          have hrw := (D.out.get 0 rfl : Own _ _ _ _ ys)
          replace hwt := Lib.hid hwt
          go_wp2_with (first | rw [← hwt.out] | (at_builtin; refine wpList_pushTo rfl (.tmp 29) (.tmp 32) 41 rfl w.heap.size 54 _ 32 Tryz.underlying41 infoStrip rfl _ ys x rfl hrw wp.heap.size 1 rfl 54 htmp hel (by decide) hBw ?_; intro g' cap w7 hO7 hg7 hl7))
          have D7 := Lib.hid (D.out.push 0 rfl hO7 hg7 hl7)
          have hxs2 : Hid (∀ y ∈ ys ++ [x], DrawnS y) := Lib.hid fun y hy => by
            rcases List.mem_append.1 hy with hy | hy
            · exact hys.out y hy
            · obtain rfl := List.mem_singleton.1 hy; exact hx
          have hq2 : q + (ys ++ [x]).length = T := by have := hq.out; simp; omega
          clear hO7 hg7 hl7 hx
          go_roundw
          case rel => exact ⟨q, ys ++ [x], some ⟨g', 0, none⟩, cap, by first | rfl | (rw [← hq1]; rfl) | go_num, by simp, hq2, hxs2, Lib.hid (by have h := D7.out; simpa using h)⟩
          case measure => simp [intOf]
    · have h1B : (v == 1) = false := beq_eq_false_iff_ne.2 h1
      clear h0 h1
      go_wp2_with fail
      go_ret
      exact ⟨_, xs, rfl, by omega, hrep.out, D.out.get 0 rfl, D.out.src.less (by omega), D.out.up⟩
set_option maxHeartbeats 2000000 in
theorem drawAddAllow_c (ca : Option Addr) (L : List UInt8) (cc : Nat) (w : World) (hx : At w ca L) (hl : L.length ≤ 9223372036854775807) :
    Calls Tryz.prog 19 #[.slice ca L.length cc] w fun e w' => ∃ (v : Value) (xs : List Strip) (k m : Int), e = .returned (.tuple #[v, .int .i64 k, .int .i64 m]) ∧ xs.length ≤ 13 ∧ (∀ x ∈ xs, Rep.ok x) ∧ (-9223372036854775808 ≤ k ∧ k ≤ 9223372036854775807) ∧ (-9223372036854775808 ≤ m ∧ m ≤ 9223372036854775807) ∧ Own w.heap.size w' 54 v xs ∧ Below w.heap.size w w' := by
  go_enter Tryz.func19, Tryz.ntmps19
  go_wp2_with fail
  refine (l00From_c ca L cc w hx hl).mono ?_
  rintro e w1 ⟨rfl, hS1, hb1⟩
  have D := Lib.hid (Dr.start (hS1.less (M' := 190) (by omega)))
  have hlt := hS1.lt
  clear hS1
  go_wp2_with fail
  refine (l09Bent_c w.heap.size 20 w1 (D.out.src.less (by omega))).mono ?_
  rintro e w2 ⟨v, xs, rfl, hxl, hxs, hO, hS2, hg2⟩
  obtain ⟨xa, xc, rfl, -⟩ := hO.at
  replace D := Lib.hid (D.out.made hS2 hg2 hO)
  replace hxs := Lib.hid hxs
  clear hS2 hg2 hO
  have hlW : IntKind.i64.wrap ((xs.length : Int) + 1) = (xs.length : Int) + 1 := IntWalk.i64_in _ (by omega)
  go_wp2_with fail
  try rw [hlW]
  refine (pick_c w.heap.size 18 ((xs.length : Int) + 1) w2 (D.out.src.less (by omega)) (by omega) (by omega)).mono ?_
  rintro e w3 ⟨p, rfl, p0, p1, hS2, hg2⟩
  replace D := Lib.hid (D.out.drew hS2 hg2)
  have hp : p ≤ 14 := by omega
  clear hS2 hg2 p1 hlW
  go_wp2_with fail
  refine (pick_c w.heap.size 16 16 w3 (D.out.src.less (by omega)) (by omega) (by omega)).mono ?_
  rintro e w4 ⟨q, rfl, q0, q1, hS2, hg2⟩
  replace D := Lib.hid (D.out.drew hS2 hg2)
  have hq : q ≤ 15 := by omega
  clear hS2 hg2 q1
  obtain ⟨k, hk⟩ : ∃ k : Int, k = p - Int.tdiv q 15 := ⟨_, rfl⟩
  have hkr : -16 ≤ k ∧ k ≤ 14 := by
    have h1 : 0 ≤ Int.tdiv q 15 ∧ Int.tdiv q 15 ≤ 15 := ⟨Int.tdiv_nonneg q0 (by omega), by
      rw [Int.tdiv_eq_ediv_of_nonneg q0]; omega⟩
    omega
  have hqW : IntKind.i64.wrap (Int.tdiv q 15) = Int.tdiv q 15 := IntWalk.i64_in _ (by omega)
  have hkW : IntKind.i64.wrap (p - Int.tdiv q 15) = k := by rw [hk]; exact IntWalk.i64_in _ (by omega)
  replace hk := Lib.hid hk
  go_wp2_with fail
  refine (one_c w.heap.size 14 8 w4 (D.out.src.less (by omega)) (by omega) (by omega)).mono ?_
  rintro e w5 ⟨v, rfl, hS2, hg2⟩
  replace D := Lib.hid (D.out.drew hS2 hg2)
  clear hS2 hg2 hqW hkW
  cases v
  · go_wp2_with fail
    refine (pick_c w.heap.size 12 40 w5 (D.out.src.less (by omega)) (by omega) (by omega)).mono ?_
    rintro e w6 ⟨m, rfl, m0, m1, hS2, hg2⟩
    replace D := Lib.hid (D.out.drew hS2 hg2)
    clear hS2 hg2
    have hbE := drew_up hb1 D.out.up (Nat.le_refl _)
    go_wp2_with fail
    go_ret3
    exact ⟨_, xs, k, m, rfl, by omega, hxs.out, by omega, by omega, (D.out.get 0 rfl : Own _ _ _ _ xs).base hb1.size, hbE⟩
  · obtain ⟨wl, hwl⟩ : ∃ wl, wl = w5.alloc (.cells #[.int .i64 (-1), .int .i64 0, .int .i64 200, .int .i64 201] 2) := ⟨_, rfl⟩
    have hA : At wl (some ⟨w5.heap.size, 0, none⟩) ([-1, 0, 200, 201] : List Int) := by rw [hwl]; exact at_lits w5 2 [-1, 0, 200, 201]
    have hgl1 : w.heap.size < w5.heap.size := D.out.src.lt
    replace D := Lib.hid (D.out.later (w' := wl) (by rw [hwl]; exact newB _ _))
    replace hwl := Lib.hid hwl
    go_wp2_with (rw [← hwl.out])
    refine (among_c w.heap.size 10 _ [-1, 0, 200, 201] 4 wl (D.out.src.less (by omega)) hA (off_gt hgl1) (by decide) (by decide)).mono ?_
    rintro e w6 ⟨m, rfl, hu, hS2, hg2⟩
    have hm : -9223372036854775808 ≤ m ∧ m ≤ 9223372036854775807 := by
      simp only [List.mem_cons, List.not_mem_nil, or_false] at hu
      omega
    replace D := Lib.hid (D.out.drew hS2 hg2)
    clear hS2 hg2 hA hwl hu
    have hbE := drew_up hb1 D.out.up (Nat.le_refl _)
    go_wp2_with fail
    go_ret3
    exact ⟨_, xs, k, m, rfl, by omega, hxs.out, by omega, hm, (D.out.get 0 rfl : Own _ _ _ _ xs).base hb1.size, hbE⟩
theorem drawCutLengths_c (ca : Option Addr) (L : List UInt8) (cc : Nat) (w : World) (hx : At w ca L) (hl : L.length ≤ 9223372036854775807) :
    Calls Tryz.prog 22 #[.slice ca L.length cc] w fun e w' => ∃ (v : Value) (xs : List Strip), e = .returned v ∧ xs.length ≤ 13 ∧ (∀ x ∈ xs, Rep.ok x) ∧ Own w.heap.size w' 54 v xs ∧ Below w.heap.size w w' := by
  go_enter Tryz.func22, Tryz.ntmps22
  go_wp2_with fail
  refine (l00From_c ca L cc w hx hl).mono ?_
  rintro e w1 ⟨rfl, hS1, hb1⟩
  go_wp2_with fail
  refine (l09Bent_c w.heap.size 0 w1 (hS1.less (by omega))).mono ?_
  rintro e w2 ⟨v, xs, rfl, hxl, hxs, hO, hS2, hg2⟩
  have hb := drew_up hb1 hg2 (Nat.le_refl _)
  replace hxs := Lib.hid hxs
  replace hO := Lib.hid (hO.base hb1.size)
  go_wp2_with fail
  go_ret
  exact ⟨_, xs, rfl, by omega, hxs.out, hO.out, hb⟩
theorem strip_cells1 {B : Nat} {w : World} {e : TypeId} {g : Nat} {x : Strip} (h : Own B w e (.slice (some ⟨g, 0, none⟩) 1 1) [x]) : w.cell? ⟨g, 0, none⟩ = some (.int .i64 x.Length) ∧ w.cell? ⟨g, 1, none⟩ = some (.int .i64 x.Allow) ∧ w.cell? ⟨g, 2, none⟩ = some (.int .i64 x.Left) ∧ w.cell? ⟨g, 3, none⟩ = some (.int .i64 x.Right) := strip_cell4 h
set_option maxRecDepth 100000 in
set_option maxHeartbeats 2000000 in
theorem drawStripText_c (ca : Option Addr) (L : List UInt8) (cc : Nat) (w : World) (hx : At w ca L) (hl : L.length ≤ 9223372036854775807) :
    Calls Tryz.prog 29 #[.slice ca L.length cc] w fun e w' => ∃ x : Strip, e = .returned (.agg #[.int .i64 x.Length, .int .i64 x.Allow, .int .i64 x.Left, .int .i64 x.Right]) ∧ Rep.ok x ∧ Below w.heap.size w w' := by
  obtain ⟨w0, hw0⟩ : ∃ w0, w0 = w.alloc (.cells #[.int .i64 0, .int .i64 0, .int .i64 0, .int .i64 0] 54) := ⟨_, rfl⟩
  have hb0 : Below w.heap.size w w0 := by rw [hw0]; exact newB _ _
  have hR : Own w.heap.size w0 54 (.slice (some ⟨w.heap.size, 0, none⟩) 1 1) [(⟨0, 0, 0, 0⟩ : Strip)] := by rw [hw0]; exact own_strip w _ ⟨0, 0, 0, 0⟩
  have hs0 : Hid (w0.heap.size = w.heap.size + 1) := Lib.hid (by rw [hw0]; exact World.size_alloc _ _)
  replace hx := hx.below hb0
  replace hw0 := Lib.hid hw0
  replace hR := Lib.hid hR
  go_enter Tryz.func29, Tryz.ntmps29
  go_wp2_with (rw [← hw0.out])
  refine (l00From_c ca L cc w0 hx hl).mono ?_
  rintro e w1 ⟨rfl, hS1, hb1⟩
  replace hR := Lib.hid (hR.out.later hb1)
  have D := Lib.hid (Dr.start (hS1.less (M' := 100) (by omega)))
  replace hb0 := upw hb0 hb1
  have hlo : w0.heap.size < w1.heap.size := hS1.lt
  clear hS1 hx hw0
  go_wp2_with fail
  refine (l09New_c w0.heap.size 20 w1 (D.out.src.less (by omega))).mono ?_
  rintro e w2 ⟨x, rfl, hX, hS2, hg2⟩
  replace D := Lib.hid (D.out.drew hS2 hg2)
  clear hS2 hg2
  obtain ⟨w3, hw3⟩ : ∃ w3, w3 = w2.alloc (.cells #[.int .i64 x.Length, .int .i64 x.Allow, .int .i64 x.Left, .int .i64 x.Right] 54) := ⟨_, rfl⟩
  have D3 := D.out.alloc 54 #[.int .i64 x.Length, .int .i64 x.Allow, .int .i64 x.Left, .int .i64 x.Right] [x] rfl (by simp)
  rw [← hw3] at D3
  simp only [List.length_singleton] at D3
  replace D := Lib.hid D3
  replace hw3 := Lib.hid hw3
  clear D3
  obtain ⟨b, hbe⟩ : ∃ b, b = w2.heap.size := ⟨_, rfl⟩
  rw [← hbe] at D
  have hrx := hX.rep
  go_wp2_with (rw [← hw3.out])
  rw [← hbe]
  clear hbe hw3
  refine (one_c w0.heap.size 18 4 w3 (D.out.src.less (by omega)) (by omega) (by omega)).mono ?_
  rintro e w4 ⟨v, rfl, hS2, hg2⟩
  replace D := Lib.hid (D.out.drew hS2 hg2)
  clear hS2 hg2
  have hE : ∀ (wn : World) (z : Strip), Dr w1 wn w0.heap.size 0 [ite' 54 (.slice (some ⟨b, 0, none⟩) 1 1) [z]] → Own w.heap.size wn 54 (.slice (some ⟨w.heap.size, 0, none⟩) 1 1) [(⟨0, 0, 0, 0⟩ : Strip)] ∧ Below w.heap.size w wn := fun wn z h => ⟨hR.out.kept h.up (Or.inr (ne_blk9 (by have := hs0.out; omega))), drew_up hb0 h.up (by have := hs0.out; omega)⟩
  replace hE := Lib.hid hE
  cases v
  · obtain ⟨x0, x1, x2, x3⟩ := strip_cells1 (D.out.get 0 rfl)
    obtain ⟨R, hbE⟩ := hE.out _ _ (D.out.less (by omega))
    replace R := Lib.hid R
    go_wp2_with ((with_reducible refine at_st 54 (.tmp 2) (.tmp 13) ?_); refine wpList_store_own rfl 54 (.tmp 2) (.tmp 13) rfl w.heap.size 54 _ 1 1 [(⟨0, 0, 0, 0⟩ : Strip)] 0 _ x rfl rfl rfl (by kernel_rfl) rfl R.out (by simp) ?_; intro wz hRz hgz)
    obtain ⟨q0, q1, q2, q3⟩ := strip_cell4 hRz
    refine bodyPost_ret (v := .agg #[.int .i64 x.Length, .int .i64 x.Allow, .int .i64 x.Left, .int .i64 x.Right]) (by simp [results, Tryz.results29, go_sem, q0, q1, q2, q3]) rfl ?_
    exact ⟨x, rfl, hrx, below_mark hbE R.out (Nat.le_refl _) hgz⟩
  · go_wp2_with fail
    refine (l09Spoil_c w1.heap.size w0.heap.size 10 b 1 1 0 [x] w4 (D.out.src.less (by omega)) (D.out.get 0 rfl) rfl (by simp) hlo (by intro y hy; rw [List.mem_singleton] at hy; rw [hy]; exact hrx)).mono ?_
    rintro e w5 ⟨rfl, z, wm, hz, hSm, hgm, hgw, hO5⟩
    have D5 := Lib.hid ((D.out.drew hSm hgm).set 0 rfl hO5 hgw (Or.inl rfl))
    replace D5 : Hid (Dr w1 w5 w0.heap.size 10 [ite' 54 (.slice (some ⟨b, 0, none⟩) 1 1) [z]]) := D5
    clear hSm hgm hgw hO5
    obtain ⟨x0, x1, x2, x3⟩ := strip_cells1 (D5.out.get 0 rfl)
    obtain ⟨R, hbE⟩ := hE.out _ _ (D5.out.less (by omega))
    replace R := Lib.hid R
    replace hz := Lib.hid hz
    go_wp2_with ((with_reducible refine at_st 54 (.tmp 2) (.tmp 13) ?_); refine wpList_store_own rfl 54 (.tmp 2) (.tmp 13) rfl w.heap.size 54 _ 1 1 [(⟨0, 0, 0, 0⟩ : Strip)] 0 _ z rfl rfl rfl (by kernel_rfl) rfl R.out (by simp) ?_; intro wz hRz hgz)
    obtain ⟨q0, q1, q2, q3⟩ := strip_cell4 hRz
    refine bodyPost_ret (v := .agg #[.int .i64 z.Length, .int .i64 z.Allow, .int .i64 z.Left, .int .i64 z.Right]) (by simp [results, Tryz.results29, go_sem, q0, q1, q2, q3]) rfl ?_
    exact ⟨z, rfl, hz.out, below_mark hbE R.out (Nat.le_refl _) hgz⟩
end Go.Proofs.YtledlkggggpdpaaGreatDoor
