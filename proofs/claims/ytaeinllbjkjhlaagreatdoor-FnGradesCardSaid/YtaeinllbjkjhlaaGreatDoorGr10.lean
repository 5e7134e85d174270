/- Chapter 5, gradings: lasts that are spoilt and drawn, and what the laws draw first. (Printed by wip/genGr10.py.) -/
import Derived.Test.YtaeinllbjkjhlaaGreatDoorGr9
namespace Go.Proofs.YtaeinllbjkjhlaaGreatDoor
open Go.RowKit

set_option maxRecDepth 100000 in
set_option maxHeartbeats 2000000 in
theorem l04Spoil_c (B g M b : Nat) (x : Last) (w : World) (hS : SrcAt w g (M + 4)) (hO : Own B w 30 (.slice (some ⟨b, 0, none⟩) 6 6) (lastC x)) (hgB : g < B) (hxn : x.Name.size ≤ 100) :
    Calls Tryz.prog 102 #[.pointer (some ⟨g, 0, none⟩), .pointer (some ⟨b, 0, none⟩)] w fun e w' => e = .returned (.tuple #[]) ∧ ∃ (x' : Last) (wm : World), x'.Name.size ≤ 100 ∧ SrcAt wm g M ∧ w.grownBy wm (some g) ∧ wm.grownBy w' (some b) ∧ Own B w' 30 (.slice (some ⟨b, 0, none⟩) 6 6) (lastC x') := by
  go_enter Tryz.func102, Tryz.ntmps102
  go_wp2_with fail
  refine (pick_c g (M + 2) 3 w hS (by omega) (by omega)).mono ?_
  rintro e w2 ⟨v, rfl, v0, v1, hS2, hg2⟩
  have hv : v = 0 ∨ v = 1 ∨ v = 2 := by omega
  clear v0 v1 hS
  have hgl : g < w2.heap.size := hS2.lt
  rcases hv with rfl | rfl | rfl
  · obtain ⟨wl, hwl⟩ : ∃ wl, wl = w2.alloc (.cells #[.string ⟨#[]⟩, .string ⟨#[79, 120, 102, 111, 114, 100]⟩, .string ⟨#[122, 122]⟩] 9) := ⟨_, rfl⟩
    have hbl : Below w2.heap.size w2 wl := by rw [hwl]; exact newB _ _
    have hA : At wl (some ⟨w2.heap.size, 0, none⟩) ([⟨#[]⟩, ⟨#[79, 120, 102, 111, 114, 100]⟩, ⟨#[122, 122]⟩] : List ByteArray) := by rw [hwl]; exact (own_alloc w2 _ _ ([⟨#[]⟩, ⟨#[79, 120, 102, 111, 114, 100]⟩, ⟨#[122, 122]⟩] : List ByteArray) rfl (by show 3 ≤ 1048576; omega)).at'
    replace hwl := Lib.hid hwl
    go_wp2_with (rw [← hwl.out])
    refine (textS_c g M _ [⟨#[]⟩, ⟨#[79, 120, 102, 111, 114, 100]⟩, ⟨#[122, 122]⟩] 3 wl (hS2.later hbl) hA (off_gtS hgl) (by decide) (by decide)).mono ?_
    rintro e wm ⟨u, rfl, hu, hS3, hg3⟩
    have hk : (⟨u, x.Length, x.Ball, x.Instep, x.Heel, x.Pitch⟩ : Last).Name.size ≤ 100 := by
      show u.size ≤ 100
      simp only [List.mem_cons, List.not_mem_nil, or_false] at hu
      rcases hu with rfl | rfl | rfl <;> decide
    clear hu
    have hG := grownBy_trans (grownBy_trans hg2 (drew_below g hbl)) hg3
    have hOm := Lib.hid (hO.drew hgB hG)
    clear hwl hbl hA hS2 hg2 hg3
    replace hG := Lib.hid hG
    replace hS3 := Lib.hid hS3
    go_wp2_with ((with_reducible refine at_st 9 (.tmp 13) (.tmp 11) ?_); refine wpList_store_own rfl 9 (.tmp 13) (.tmp 11) rfl B 30 b 6 6 (lastC x) 0 0 (⟨.string u, rfl⟩ : OneCell) rfl rfl rfl (by kernel_rfl) rfl hOm.out (by show 0 < 6; omega) ?_; intro wv hV hgv; replace hV := Lib.hid hV)
    go_end0
    exact ⟨rfl, ⟨u, x.Length, x.Ball, x.Instep, x.Heel, x.Pitch⟩, wm, hk, hS3.out, hG.out, hgv, hV.out⟩
  · obtain ⟨wl, hwl⟩ : ∃ wl, wl = w2.alloc (.cells #[.int .i64 499, .int .i64 500, .int .i64 5000, .int .i64 5001] 2) := ⟨_, rfl⟩
    have hbl : Below w2.heap.size w2 wl := by rw [hwl]; exact newB _ _
    have hA : At wl (some ⟨w2.heap.size, 0, none⟩) ([499, 500, 5000, 5001] : List Int) := by rw [hwl]; exact at_lits w2 2 [499, 500, 5000, 5001]
    replace hwl := Lib.hid hwl
    go_wp2_with (rw [← hwl.out])
    refine (among_c g M _ [499, 500, 5000, 5001] 4 wl (hS2.later hbl) hA (off_gtS hgl) (by decide) (by decide)).mono ?_
    rintro e wm ⟨u, rfl, hu, hS3, hg3⟩
    have hk : (⟨x.Name, x.Length, x.Ball, x.Instep, u, x.Pitch⟩ : Last).Name.size ≤ 100 := hxn
    clear hu
    have hG := grownBy_trans (grownBy_trans hg2 (drew_below g hbl)) hg3
    have hOm := Lib.hid (hO.drew hgB hG)
    clear hwl hbl hA hS2 hg2 hg3
    replace hG := Lib.hid hG
    replace hS3 := Lib.hid hS3
    go_wp2_with ((with_reducible refine at_st 2 (.tmp 21) (.tmp 19) ?_); refine wpList_store_own rfl 2 (.tmp 21) (.tmp 19) rfl B 30 b 6 6 (lastC x) 4 4 (⟨.int .i64 u, rfl⟩ : OneCell) rfl rfl rfl (by kernel_rfl) rfl hOm.out (by show 4 < 6; omega) ?_; intro wv hV hgv; replace hV := Lib.hid hV)
    go_end0
    exact ⟨rfl, ⟨x.Name, x.Length, x.Ball, x.Instep, u, x.Pitch⟩, wm, hk, hS3.out, hG.out, hgv, hV.out⟩
  · obtain ⟨wl, hwl⟩ : ∃ wl, wl = w2.alloc (.cells #[.int .i64 (-1), .int .i64 0, .int .i64 1000, .int .i64 1001, .int .i64 (-9223372036854775808)] 2) := ⟨_, rfl⟩
    have hbl : Below w2.heap.size w2 wl := by rw [hwl]; exact newB _ _
    have hA : At wl (some ⟨w2.heap.size, 0, none⟩) ([-1, 0, 1000, 1001, -9223372036854775808] : List Int) := by rw [hwl]; exact at_lits w2 2 [-1, 0, 1000, 1001, -9223372036854775808]
    replace hwl := Lib.hid hwl
    go_wp2_with (rw [← hwl.out])
    refine (among_c g M _ [-1, 0, 1000, 1001, -9223372036854775808] 5 wl (hS2.later hbl) hA (off_gtS hgl) (by decide) (by decide)).mono ?_
    rintro e wm ⟨u, rfl, hu, hS3, hg3⟩
    have hk : (⟨x.Name, x.Length, x.Ball, x.Instep, x.Heel, u⟩ : Last).Name.size ≤ 100 := hxn
    clear hu
    have hG := grownBy_trans (grownBy_trans hg2 (drew_below g hbl)) hg3
    have hOm := Lib.hid (hO.drew hgB hG)
    clear hwl hbl hA hS2 hg2 hg3
    replace hG := Lib.hid hG
    replace hS3 := Lib.hid hS3
    go_wp2_with ((with_reducible refine at_st 2 (.tmp 29) (.tmp 27) ?_); refine wpList_store_own rfl 2 (.tmp 29) (.tmp 27) rfl B 30 b 6 6 (lastC x) 5 5 (⟨.int .i64 u, rfl⟩ : OneCell) rfl rfl rfl (by kernel_rfl) rfl hOm.out (by show 5 < 6; omega) ?_; intro wv hV hgv; replace hV := Lib.hid hV)
    go_end0
    exact ⟨rfl, ⟨x.Name, x.Length, x.Ball, x.Instep, x.Heel, u⟩, wm, hk, hS3.out, hG.out, hgv, hV.out⟩
set_option maxRecDepth 100000 in
set_option maxHeartbeats 3200000 in
theorem l05Any_c (g M : Nat) (w : World) (hS : SrcAt w g (M + 26)) :
    Calls Tryz.prog 56 #[.pointer (some ⟨g, 0, none⟩)] w fun e w' => ∃ x : Last, e = .returned (.agg #[.string x.Name, .int .i64 x.Length, .int .i64 x.Ball, .int .i64 x.Instep, .int .i64 x.Heel, .int .i64 x.Pitch]) ∧ x.Name.size ≤ 100 ∧ SrcAt w' g M ∧ w.grownBy w' (some g) := by
  have hgl := hS.lt
  obtain ⟨w1, hw1⟩ : ∃ w1, w1 = w.alloc (.cells #[.string { data := #[] }, .int .i64 0, .int .i64 0, .int .i64 0, .int .i64 0, .int .i64 0] 30) := ⟨_, rfl⟩
  have D := Lib.hid ((Dr.start hS).add (w' := w1) (by rw [hw1]; exact newB w _) (by rw [hw1]; exact own_last1 w 30 lastZ))
  replace hw1 := Lib.hid hw1
  clear hS
  go_enter Tryz.func56, Tryz.ntmps56
  go_wp2_with (rw [← hw1.out])
  refine (l02DrawN_c g (M + 22) _ (D.out.src.less (by omega))).mono ?_
  rintro e w2 ⟨f, rfl, hf, hS2, hg2⟩
  replace D := Lib.hid (D.out.drew hS2 hg2)
  clear hS2 hg2 hw1
  obtain ⟨wn, hwn⟩ : ∃ wn, wn = w2.alloc (.cells #[.int .i64 f.Length, .int .i64 f.Ball, .int .i64 f.Instep, .int .i64 f.Heel] 25) := ⟨_, rfl⟩
  replace D := Lib.hid (D.out.add (w' := wn) (by rw [hwn]; exact newB w2 _) (by rw [hwn]; exact own_footC w2 25 f))
  replace hwn := Lib.hid hwn
  obtain ⟨f0, f1, f2, f3⟩ := footC_cells (D.out.get 0 rfl : Own _ _ _ _ (footC f))
  go_wp2_with (rw [← hwn.out])
  refine (l04New_c g (M + 12) ⟨#[100, 101, 114, 98, 121]⟩ f _ (D.out.src.less (by omega)) hf).mono ?_
  rintro e w3 ⟨x, rfl, hN, hS2, hg2⟩
  replace D := Lib.hid (D.out.drew hS2 hg2)
  clear hS2 hg2 hwn f0 f1 f2 f3 hf
  have hxn : x.Name.size ≤ 100 := by rw [hN.name]; decide
  clear hN
  obtain ⟨wn2, hwn2⟩ : ∃ wn2, wn2 = w3.alloc (.cells #[.string x.Name, .int .i64 x.Length, .int .i64 x.Ball, .int .i64 x.Instep, .int .i64 x.Heel, .int .i64 x.Pitch] 30) := ⟨_, rfl⟩
  replace D := Lib.hid (D.out.add (w' := wn2) (by rw [hwn2]; exact newB w3 _) (by rw [hwn2]; exact own_lastC w3 30 x))
  replace hwn2 := Lib.hid hwn2
  obtain ⟨nx, hnx⟩ : ∃ b, b = w3.heap.size := ⟨_, rfl⟩
  go_wp2_with (rw [← hwn2.out])
  rw [← hnx] at D ⊢
  clear hnx hwn2 w3
  refine (one_c g (M + 8) 16 _ (D.out.src.less (by omega)) (by omega) (by omega)).mono ?_
  rintro e w3 ⟨b, rfl, hS2, hg2⟩
  replace D := Lib.hid (D.out.drew hS2 hg2)
  clear hS2 hg2
  cases b
  · obtain ⟨y0, y1, y2, y3, y4, y5⟩ := lastC_cells (D.out.get 0 rfl : Own _ _ _ _ (lastC x))
    go_wp2_with ((with_reducible refine at_st 30 (.tmp 2) (.tmp 14) ?_); refine Hid.out ?_)
    refine Lib.hid ?_
    refine wpList_store_own rfl 30 (.tmp 2) (.tmp 14) rfl w.heap.size 30 _ 1 1 [lastZ] 0 _ (x : Last) rfl rfl rfl (by kernel_rfl) rfl (D.out.get 2 rfl) (by simp) ?_
    intro wz hRz hgz
    replace D := Lib.hid (D.out.set 2 rfl hRz hgz (Or.inl rfl))
    obtain ⟨q0, q1, q2, q3, q4, q5⟩ := last1_cells hRz
    go_wp2_with fail
    refine bodyPost_ret (v := .agg #[.string x.Name, .int .i64 x.Length, .int .i64 x.Ball, .int .i64 x.Instep, .int .i64 x.Heel, .int .i64 x.Pitch]) (by simp [results, Tryz.results56, go_sem, q0, q1, q2, q3, q4, q5]) rfl ?_
    exact ⟨x, rfl, hxn, D.out.src.less (by omega), D.out.up⟩
  · go_wp2_with fail
    refine (l04Spoil_c w.heap.size g (M + 4) nx x _ (D.out.src.less (by omega)) (D.out.get 0 rfl) hgl hxn).mono ?_
    rintro e w4 ⟨rfl, x', wm, hxn', hSm, hgm, hg4, hO4⟩
    replace D := Lib.hid (((D.out.drew hSm hgm).set 0 rfl hO4 hg4 (Or.inl rfl)))
    clear hSm hgm hg4 hO4 hxn
    obtain ⟨y0, y1, y2, y3, y4, y5⟩ := lastC_cells (D.out.get 0 rfl : Own _ _ _ _ (lastC x'))
    go_wp2_with ((with_reducible refine at_st 30 (.tmp 2) (.tmp 14) ?_); refine Hid.out ?_)
    refine Lib.hid ?_
    refine wpList_store_own rfl 30 (.tmp 2) (.tmp 14) rfl w.heap.size 30 _ 1 1 [lastZ] 0 _ (x' : Last) rfl rfl rfl (by kernel_rfl) rfl (D.out.get 2 rfl) (by simp) ?_
    intro wz hRz hgz
    replace D := Lib.hid (D.out.set 2 rfl hRz hgz (Or.inl rfl))
    obtain ⟨q0, q1, q2, q3, q4, q5⟩ := last1_cells hRz
    go_wp2_with fail
    refine bodyPost_ret (v := .agg #[.string x'.Name, .int .i64 x'.Length, .int .i64 x'.Ball, .int .i64 x'.Instep, .int .i64 x'.Heel, .int .i64 x'.Pitch]) (by simp [results, Tryz.results56, go_sem, q0, q1, q2, q3, q4, q5]) rfl ?_
    exact ⟨x', rfl, hxn', D.out.src.less (by omega), D.out.up⟩
set_option maxHeartbeats 1000000 in
theorem drawGradeText_c (ca : Option Addr) (L : List UInt8) (cc : Nat) (w : World) (hx : At w ca L) (hl : L.length ≤ 9223372036854775807) :
    Calls Tryz.prog 28 #[.slice ca L.length cc] w fun e w' => ∃ x : Grade, e = .returned (.agg #[.int .i64 x.Length, .int .i64 x.Ball, .int .i64 x.Instep, .int .i64 x.Heel, .int .i64 x.Pitch]) ∧ Below w.heap.size w w' := by
  obtain ⟨w1, hw1⟩ : ∃ w1, w1 = w.alloc (.cells #[.int .i64 0, .int .i64 0, .int .i64 0, .int .i64 0, .int .i64 0] 42) := ⟨_, rfl⟩
  have hb : Below w.heap.size w w1 := by rw [hw1]; exact newB _ _
  have hR : Own w.heap.size w1 42 (.slice (some ⟨w.heap.size, 0, none⟩) 1 1) [gradeZ] := by rw [hw1]; exact own_grade1 w 42 gradeZ
  have hs1 : Hid (w1.heap.size = w.heap.size + 1) := Lib.hid (by rw [hw1]; exact World.size_alloc _ _)
  replace hw1 := Lib.hid hw1
  replace hR := Lib.hid hR
  go_enter Tryz.func28, Tryz.ntmps28
  go_wp2_with (rw [← hw1.out])
  refine (l00From_c ca L cc w1 (hx.below hb) hl).mono ?_
  rintro e w2 ⟨rfl, hS, hb2⟩
  replace hR := Lib.hid (hR.out.later hb2)
  go_wp2_with fail
  refine (l05Bent_c w1.heap.size 0 w2 (hS.less (by omega))).mono ?_
  rintro e w3 ⟨x, rfl, -, hg⟩
  have hb3 := drew_up hb2 hg (Nat.le_refl _)
  replace hR := Lib.hid (hR.out.kept hg (Or.inr (ne_blk (by have := hs1.out; omega))))
  replace hb := upw hb hb3
  clear hb2 hb3 hg hS
  go_wp2_with (refine wpList_store_own rfl 42 (.tmp 2) (.tmp 5) rfl w.heap.size 42 _ 1 1 [gradeZ] 0 _ (x : Grade) rfl rfl rfl (by kernel_rfl) rfl hR.out (by simp) ?_; intro w4 hR4 hg4)
  obtain ⟨q0, q1, q2, q3, q4⟩ := grade1_cells hR4
  have hb4 := below_mark hb hR.out (Nat.le_refl _) hg4
  refine bodyPost_ret (v := .agg #[.int .i64 x.Length, .int .i64 x.Ball, .int .i64 x.Instep, .int .i64 x.Heel, .int .i64 x.Pitch]) (by simp [results, Tryz.results28, go_sem, q0, q1, q2, q3, q4]) rfl ?_
  first | exact ⟨⟨x, rfl⟩, hb4⟩ | exact ⟨x, rfl, hb4⟩
set_option maxHeartbeats 1000000 in
theorem drawReadGrade_c (ca : Option Addr) (L : List UInt8) (cc : Nat) (w : World) (hx : At w ca L) (hl : L.length ≤ 9223372036854775807) :
    Calls Tryz.prog 31 #[.slice ca L.length cc] w fun e w' => ∃ s : ByteArray, e = .returned (.string s) ∧ s.size ≤ 1000 ∧ Below w.heap.size w w' := by
  go_enter Tryz.func31, Tryz.ntmps31
  go_wp2_with fail
  refine (l00From_c ca L cc w hx hl).mono ?_
  rintro e w1 ⟨rfl, hS, hb1⟩
  go_wp2_with fail
  refine (l05Draw_c w.heap.size 20 w1 (hS.less (by omega))).mono ?_
  rintro e w2 ⟨x, rfl, hx2, hS2, hg2⟩
  have hb2 := drew_up hb1 hg2 (Nat.le_refl _)
  go_wp2_with fail
  refine (l05Text_c x w2 hx2).mono ?_
  rintro e w3 ⟨rfl, hb3⟩
  have hT := gTxt_len hx2
  generalize gTxt x = T at *
  go_wp2_with fail
  refine (one_c w.heap.size 18 3 w3 ((hS2.less (by omega)).later hb3) (by omega) (by omega)).mono ?_
  rintro e w4 ⟨b, rfl, hS4, hg4⟩
  have hb4 := drew_up (upw hb2 hb3) hg4 (Nat.le_refl _)
  cases b
  · go_wp2_with fail
    go_ret
    exact ⟨_, rfl, by omega, hb4⟩
  · go_wp2_with fail
    refine (l01Spoil_c w.heap.size 0 T w4 (hS4.less (by omega)) (by omega)).mono ?_
    rintro e w5 ⟨s, rfl, hs, _, hg5⟩
    go_wp2_with fail
    go_ret
    exact ⟨s, rfl, by omega, drew_up hb4 hg5 (Nat.le_refl _)⟩
theorem last_sameG (n : ByteArray) (a b c d e : Int) (w : World) : (binOp .neq 30 (.agg #[.string n, .int .i64 a, .int .i64 b, .int .i64 c, .int .i64 d, .int .i64 e]) (.agg #[.string n, .int .i64 a, .int .i64 b, .int .i64 c, .int .i64 d, .int .i64 e])).run Tryz.prog w = .ok (.bool false) w := by
  simp [go_sem]
attribute [local go_sem ↓] last_sameG
set_option maxHeartbeats 1000000 in
theorem sameLasts_c (a a' : Option Addr) (xs : List Last) (c c' : Nat) (w : World) (hx : At w a xs) (hy : At w a' xs) (hl : xs.length ≤ 1000) :
    Calls Tryz.prog 33 #[.slice a xs.length c, .slice a' xs.length c'] w fun e w' => e = .returned (.bool true) ∧ Below w.heap.size w w' := by
  go_enter Tryz.func33, Tryz.ntmps33
  go_wp2_with fail
  go_loopw [5] (fun i wr => ∃ k : Nat, k ≤ xs.length ∧ i = .int .i64 k ∧ Below w.heap.size w wr) (fun i _ => xs.length - (intOf i).toNat)
  case atStart => exact ⟨0, Nat.zero_le _, rfl, Below.refl _ _⟩
  case round =>
    obtain ⟨k, hk, rfl, hb⟩ := hrel
    obtain ⟨wa, hwa⟩ : ∃ wo : World, wo = wr := ⟨_, rfl⟩
    subst hwa
    by_cases hlt : k < xs.length
    · have hltI : (k : Int) < xs.length := by omega
      obtain ⟨b, off, rfl⟩ := hx.addr hlt
      obtain ⟨b', off', rfl⟩ := hy.addr hlt
      obtain ⟨x0, x1, x2, x3, x4, x5⟩ := (hx.below hb).last hlt
      obtain ⟨y0, y1, y2, y3, y4, y5⟩ := (hy.below hb).last hlt
      generalize xs[k] = z at *
      go_wp2_with fail
      replace x0 := rg x0
      replace x1 := rg x1
      replace x2 := rg x2
      replace x3 := rg x3
      replace x4 := rg x4
      replace x5 := rg x5
      replace y0 := rg y0
      replace y1 := rg y1
      replace y2 := rg y2
      replace y3 := rg y3
      replace y4 := rg y4
      replace y5 := rg y5
      refine wp_region_quiet_below (by kernel_rfl) (by kernel_rfl) ?_
      repeat (go_big_quiet_step (fail))
      refine wpQuiet_nil ?_
      intro wq hw'
      replace hb := upw hb (grown_of hw')
      clear hw'
      go_wp2_with fail
      go_roundw
      case rel => exact ⟨k + 1, by omega, by first | rfl | go_num, hb⟩
      case measure => first | (simp [intOf]; done) | (simp [intOf]; omega)
    · obtain rfl : k = xs.length := by omega
      go_wp2_with fail
      go_ret
      exact ⟨rfl, hb⟩
end Go.Proofs.YtaeinllbjkjhlaaGreatDoor
