/- Chapter 3, widths and scales that are drawn. -/
import Derived.Test.YtaeinllbjkjhlaaDoorW10
namespace Go.Proofs.YtaeinllbjkjhlaaDoor
open Go.RowKit

theorem own_one_c {B : Nat} {w : World} {e : TypeId} {g : Nat} {x : Scl} (h : Own B w e (.slice (some ⟨g, 0, none⟩) 4 4) (sclC x)) : Own B w e (.slice (some ⟨g, 0, none⟩) 1 1) [x] := by
  obtain ⟨h1, h2⟩ := h
  refine ⟨rfl, .inr ?_⟩
  rcases h2 with ⟨h2, _⟩ | ⟨g', cap, cur, h3, hb, hg, hn, hm, hs, ht⟩
  · simp at h2
  · simp only [Value.slice.injEq, Option.some.injEq, Addr.mk.injEq, and_true] at h3
    obtain ⟨rfl, -, rfl⟩ := h3
    exact ⟨g, 1, cur, rfl, hb, hg, Nat.le_refl _, by unfold maxLen; omega, hs, ht⟩
theorem own_four_c {B : Nat} {w : World} {e : TypeId} {g : Nat} {x : Scl} (h : Own B w e (.slice (some ⟨g, 0, none⟩) 1 1) [x]) : Own B w e (.slice (some ⟨g, 0, none⟩) 4 4) (sclC x) := by
  obtain ⟨h1, h2⟩ := h
  refine ⟨rfl, .inr ?_⟩
  rcases h2 with ⟨h2, _⟩ | ⟨g', cap, cur, h3, hb, hg, hn, hm, hs, ht⟩
  · simp at h2
  · simp only [Value.slice.injEq, Option.some.injEq, Addr.mk.injEq, and_true] at h3
    obtain ⟨rfl, -, rfl⟩ := h3
    exact ⟨g, 4, cur, rfl, hb, hg, Nat.le_refl _, by unfold maxLen; omega, hs, ht⟩
set_option maxHeartbeats 4000000 in
theorem l03Draw_c (g M : Nat) (w : World) (hS : SrcAt w g (M + 14)) :
    Calls Tryd.prog 30 #[.pointer (some ⟨g, 0, none⟩)] w fun e w' => ∃ x : Scl, e = .returned (.agg #[.string x.name, .int .i64 x.base, .int .i64 x.num, .int .i64 x.den]) ∧ x.name.size ≤ 10 ∧ SrcAt w' g M ∧ w.grownBy w' (some g) := by
  obtain ⟨wk, hwk⟩ : ∃ wk, wk = w.alloc (.cells #[.string ⟨#[]⟩, .int .i64 0, .int .i64 0, .int .i64 0] 25) := ⟨_, rfl⟩
  have D : Dr w wk g (M + 14) [ite' 25 (.slice (some ⟨w.heap.size, 0, none⟩) 1 1) ([⟨⟨#[]⟩, 0, 0, 0⟩] : List Scl)] := by rw [hwk]; exact (Dr.start hS).alloc _ _ ([⟨⟨#[]⟩, 0, 0, 0⟩] : List Scl) rfl (by show 1 ≤ 1048576; omega)
  replace D := Lib.hid D
  obtain ⟨wl, hwl⟩ : ∃ wl, wl = wk.alloc (.cells #[.string ⟨#[112, 97, 114, 105, 115]⟩, .string ⟨#[101, 110, 103, 108, 105, 115, 104]⟩, .string ⟨#[97, 109, 101, 114, 105, 99, 97, 110]⟩, .string ⟨#[109, 111, 110, 100, 111]⟩] 9) := ⟨_, rfl⟩
  have hb : Below wk.heap.size wk wl := by rw [hwl]; exact newB _ _
  have hA : At wl (some ⟨wk.heap.size, 0, none⟩) ([⟨#[112, 97, 114, 105, 115]⟩, ⟨#[101, 110, 103, 108, 105, 115, 104]⟩, ⟨#[97, 109, 101, 114, 105, 99, 97, 110]⟩, ⟨#[109, 111, 110, 100, 111]⟩] : List ByteArray) := by rw [hwl]; exact (own_alloc wk _ _ ([⟨#[112, 97, 114, 105, 115]⟩, ⟨#[101, 110, 103, 108, 105, 115, 104]⟩, ⟨#[97, 109, 101, 114, 105, 99, 97, 110]⟩, ⟨#[109, 111, 110, 100, 111]⟩] : List ByteArray) rfl (by show 4 ≤ 1048576; omega)).at'
  have hoff := off_new (w := wk) D.out.src.lt
  replace D := Lib.hid (D.out.later hb)
  replace hwl := Lib.hid hwl
  replace hwk := Lib.hid hwk
  clear hb
  go_enter Tryd.func30, Tryd.ntmps30
  go_wp2_with (first | rw [← hwk.out] | rw [← hwl.out])
  refine (text3_c g (M + 12) _ ([⟨#[112, 97, 114, 105, 115]⟩, ⟨#[101, 110, 103, 108, 105, 115, 104]⟩, ⟨#[97, 109, 101, 114, 105, 99, 97, 110]⟩, ⟨#[109, 111, 110, 100, 111]⟩] : List ByteArray) _ _ (D.out.src.less (by omega)) hA hoff (by simp) (by simp)).mono ?_
  rintro e wm ⟨v, rfl, hv, hS, hg⟩
  replace D := Lib.hid (D.out.drew hS hg)
  clear hS hg hA hoff hwl hv hwk
  go_wp2_with fail
  refine (scaleNamed_c v _).mono ?_
  rintro e w2 ⟨x, code, rfl, hns, hb⟩
  replace D := Lib.hid (D.out.later hb)
  clear hb
  obtain ⟨w3, hw3⟩ : ∃ w3, w3 = w2.alloc (.cells #[.string x.name, .int .i64 x.base, .int .i64 x.num, .int .i64 x.den] 25) := ⟨_, rfl⟩
  have D3 : Dr w w3 g (M + 12) [ite' 25 (.slice (some ⟨w2.heap.size, 0, none⟩) 4 4) (sclC ⟨x.name, x.base, x.num, x.den⟩), ite' 25 (.slice (some ⟨w.heap.size, 0, none⟩) 1 1) ([⟨⟨#[]⟩, 0, 0, 0⟩] : List Scl)] := by rw [hw3]; exact D.out.alloc _ _ (sclC ⟨x.name, x.base, x.num, x.den⟩) rfl (by show 4 ≤ 1048576; omega)
  replace D := Lib.hid D3
  replace hw3 := Lib.hid hw3
  clear D3
  go_wp2_with (rw [← hw3.out])
  refine (one_c g (M + 10) 4 _ (D.out.src.less (by omega)) (by omega) (by omega)).mono ?_
  rintro e w4 ⟨b, rfl, hS, hg⟩
  replace D := Lib.hid (D.out.drew hS hg)
  clear hS hg
  cases b
  · go_wp2_with fail
    refine (pick_c g (M + 2) 24 _ (D.out.src.less (by omega)) (by omega) (by omega)).mono ?_
    rintro e wv ⟨p4, rfl, p4a, p4b, hS, hg⟩
    replace D := Lib.hid (D.out.drew hS hg)
    clear hS hg
    by_cases h0 : p4 = 0
    · subst h0
      obtain ⟨wk, hwk⟩ : ∃ wk, wk = wv := ⟨_, rfl⟩
      subst hwk
      obtain ⟨wl, hwl⟩ : ∃ wl, wl = wk.alloc (.cells #[.string ⟨#[]⟩, .string ⟨#[80, 97, 114, 105, 115]⟩] 9) := ⟨_, rfl⟩
      have hb : Below wk.heap.size wk wl := by rw [hwl]; exact newB _ _
      have hA : At wl (some ⟨wk.heap.size, 0, none⟩) ([⟨#[]⟩, ⟨#[80, 97, 114, 105, 115]⟩] : List ByteArray) := by rw [hwl]; exact (own_alloc wk _ _ ([⟨#[]⟩, ⟨#[80, 97, 114, 105, 115]⟩] : List ByteArray) rfl (by show 2 ≤ 1048576; omega)).at'
      have hoff := off_new (w := wk) D.out.src.lt
      replace D := Lib.hid (D.out.later hb)
      replace hwl := Lib.hid hwl
      clear hb
      go_wp2_with (rw [← hwl.out])
      refine (text3_c g (M) _ ([⟨#[]⟩, ⟨#[80, 97, 114, 105, 115]⟩] : List ByteArray) _ _ (D.out.src.less (by omega)) hA hoff (by simp) (by simp)).mono ?_
      rintro e wm ⟨v, rfl, hv, hS, hg⟩
      replace D := Lib.hid (D.out.drew hS hg)
      have hvs : v.size ≤ 10 := (by decide : ∀ v ∈ ([⟨#[]⟩, ⟨#[80, 97, 114, 105, 115]⟩] : List ByteArray), v.size ≤ 10) v hv
      clear hS hg hA hoff hwl hv
      go_wp2_with (first | (refine wpList_store_own rfl 9 (.tmp 32) (.tmp 31) rfl w.heap.size 25 _ 4 4 (sclC ⟨x.name, x.base, x.num, x.den⟩) 0 _ (⟨.string v, rfl⟩ : OneCell) rfl rfl rfl (by kernel_rfl) rfl (D.out.get 0 rfl) (by show 0 < 4; omega) ?_; intro wz hV hg; have Dz : Dr w wz g (M) [ite' 25 (.slice (some ⟨w2.heap.size, 0, none⟩) 4 4) (sclC ⟨v, x.base, x.num, x.den⟩), ite' 25 (.slice (some ⟨w.heap.size, 0, none⟩) 1 1) ([⟨⟨#[]⟩, 0, 0, 0⟩] : List Scl)] := D.out.set 0 rfl (show Own _ _ _ _ (sclC ⟨v, x.base, x.num, x.den⟩) from hV) hg (Or.inl rfl); replace D := Lib.hid Dz; clear Dz hV hg; obtain ⟨c0, c1, c2, c3⟩ := sclC_cells (D.out.get 0 rfl)) | (refine wpList_store_own rfl 25 (.tmp 2) (.tmp 51) rfl w.heap.size 25 _ 1 1 ([⟨⟨#[]⟩, 0, 0, 0⟩] : List Scl) 0 _ (⟨v, x.base, x.num, x.den⟩ : Scl) rfl rfl rfl (by kernel_rfl) rfl (D.out.get 1 rfl) (by simp) ?_; intro wr hR hg))
      obtain ⟨q0, q1, q2, q3⟩ := scl1_cells hR
      have Dz := D.out.set 1 rfl hR hg (Or.inl rfl)
      refine bodyPost_ret (v := .agg #[.string v, .int .i64 x.base, .int .i64 x.num, .int .i64 x.den]) (by simp [results, Tryd.results30, go_sem, q0, q1, q2, q3]) rfl ?_
      first | exact ⟨⟨⟨v, x.base, x.num, x.den⟩, rfl, hvs⟩, Dz.src.less (by omega), Dz.up⟩ | exact ⟨⟨v, x.base, x.num, x.den⟩, rfl, hvs, Dz.src.less (by omega), Dz.up⟩
    by_cases h1 : p4 = 1
    · subst h1
      obtain ⟨wk, hwk⟩ : ∃ wk, wk = wv := ⟨_, rfl⟩
      subst hwk
      obtain ⟨wl, hwl⟩ : ∃ wl, wl = wk.alloc (.cells #[.int .i64 (-1), .int .i64 0, .int .i64 100, .int .i64 101] 2) := ⟨_, rfl⟩
      have hb : Below wk.heap.size wk wl := by rw [hwl]; exact newB _ _
      have hA : At wl (some ⟨wk.heap.size, 0, none⟩) ([-1, 0, 100, 101] : List Int) := by rw [hwl]; exact at_lits wk 2 [-1, 0, 100, 101]
      have hoff := off_new (w := wk) D.out.src.lt
      replace D := Lib.hid (D.out.later hb)
      replace hwl := Lib.hid hwl
      clear hb
      go_wp2_with (rw [← hwl.out])
      refine (among_c g (M) _ ([-1, 0, 100, 101] : List Int) _ _ (D.out.src.less (by omega)) hA hoff (by simp) (by simp)).mono ?_
      rintro e wm ⟨v, rfl, hv, hS, hg⟩
      replace D := Lib.hid (D.out.drew hS hg)
      clear hS hg hA hoff hwl hv
      go_wp2_with (first | (refine wpList_store_own rfl 2 (.tmp 38) (.tmp 37) rfl w.heap.size 25 _ 4 4 (sclC ⟨x.name, x.base, x.num, x.den⟩) 1 _ (⟨.int .i64 v, rfl⟩ : OneCell) rfl rfl rfl (by kernel_rfl) rfl (D.out.get 0 rfl) (by show 1 < 4; omega) ?_; intro wz hV hg; have Dz : Dr w wz g (M) [ite' 25 (.slice (some ⟨w2.heap.size, 0, none⟩) 4 4) (sclC ⟨x.name, v, x.num, x.den⟩), ite' 25 (.slice (some ⟨w.heap.size, 0, none⟩) 1 1) ([⟨⟨#[]⟩, 0, 0, 0⟩] : List Scl)] := D.out.set 0 rfl (show Own _ _ _ _ (sclC ⟨x.name, v, x.num, x.den⟩) from hV) hg (Or.inl rfl); replace D := Lib.hid Dz; clear Dz hV hg; obtain ⟨c0, c1, c2, c3⟩ := sclC_cells (D.out.get 0 rfl)) | (refine wpList_store_own rfl 25 (.tmp 2) (.tmp 51) rfl w.heap.size 25 _ 1 1 ([⟨⟨#[]⟩, 0, 0, 0⟩] : List Scl) 0 _ (⟨x.name, v, x.num, x.den⟩ : Scl) rfl rfl rfl (by kernel_rfl) rfl (D.out.get 1 rfl) (by simp) ?_; intro wr hR hg))
      obtain ⟨q0, q1, q2, q3⟩ := scl1_cells hR
      have Dz := D.out.set 1 rfl hR hg (Or.inl rfl)
      refine bodyPost_ret (v := .agg #[.string x.name, .int .i64 v, .int .i64 x.num, .int .i64 x.den]) (by simp [results, Tryd.results30, go_sem, q0, q1, q2, q3]) rfl ?_
      first | exact ⟨⟨⟨x.name, v, x.num, x.den⟩, rfl, hns⟩, Dz.src.less (by omega), Dz.up⟩ | exact ⟨⟨x.name, v, x.num, x.den⟩, rfl, hns, Dz.src.less (by omega), Dz.up⟩
    by_cases h2 : p4 = 2
    · subst h2
      obtain ⟨wk, hwk⟩ : ∃ wk, wk = wv := ⟨_, rfl⟩
      subst hwk
      obtain ⟨wl, hwl⟩ : ∃ wl, wl = wk.alloc (.cells #[.int .i64 0, .int .i64 1, .int .i64 1000, .int .i64 1001, .int .i64 (-9223372036854775808)] 2) := ⟨_, rfl⟩
      have hb : Below wk.heap.size wk wl := by rw [hwl]; exact newB _ _
      have hA : At wl (some ⟨wk.heap.size, 0, none⟩) ([0, 1, 1000, 1001, -9223372036854775808] : List Int) := by rw [hwl]; exact at_lits wk 2 [0, 1, 1000, 1001, -9223372036854775808]
      have hoff := off_new (w := wk) D.out.src.lt
      replace D := Lib.hid (D.out.later hb)
      replace hwl := Lib.hid hwl
      clear hb
      go_wp2_with (rw [← hwl.out])
      refine (among_c g (M) _ ([0, 1, 1000, 1001, -9223372036854775808] : List Int) _ _ (D.out.src.less (by omega)) hA hoff (by simp) (by simp)).mono ?_
      rintro e wm ⟨v, rfl, hv, hS, hg⟩
      replace D := Lib.hid (D.out.drew hS hg)
      clear hS hg hA hoff hwl hv
      go_wp2_with (first | (refine wpList_store_own rfl 2 (.tmp 44) (.tmp 43) rfl w.heap.size 25 _ 4 4 (sclC ⟨x.name, x.base, x.num, x.den⟩) 2 _ (⟨.int .i64 v, rfl⟩ : OneCell) rfl rfl rfl (by kernel_rfl) rfl (D.out.get 0 rfl) (by show 2 < 4; omega) ?_; intro wz hV hg; have Dz : Dr w wz g (M) [ite' 25 (.slice (some ⟨w2.heap.size, 0, none⟩) 4 4) (sclC ⟨x.name, x.base, v, x.den⟩), ite' 25 (.slice (some ⟨w.heap.size, 0, none⟩) 1 1) ([⟨⟨#[]⟩, 0, 0, 0⟩] : List Scl)] := D.out.set 0 rfl (show Own _ _ _ _ (sclC ⟨x.name, x.base, v, x.den⟩) from hV) hg (Or.inl rfl); replace D := Lib.hid Dz; clear Dz hV hg; obtain ⟨c0, c1, c2, c3⟩ := sclC_cells (D.out.get 0 rfl)) | (refine wpList_store_own rfl 25 (.tmp 2) (.tmp 51) rfl w.heap.size 25 _ 1 1 ([⟨⟨#[]⟩, 0, 0, 0⟩] : List Scl) 0 _ (⟨x.name, x.base, v, x.den⟩ : Scl) rfl rfl rfl (by kernel_rfl) rfl (D.out.get 1 rfl) (by simp) ?_; intro wr hR hg))
      obtain ⟨q0, q1, q2, q3⟩ := scl1_cells hR
      have Dz := D.out.set 1 rfl hR hg (Or.inl rfl)
      refine bodyPost_ret (v := .agg #[.string x.name, .int .i64 x.base, .int .i64 v, .int .i64 x.den]) (by simp [results, Tryd.results30, go_sem, q0, q1, q2, q3]) rfl ?_
      first | exact ⟨⟨⟨x.name, x.base, v, x.den⟩, rfl, hns⟩, Dz.src.less (by omega), Dz.up⟩ | exact ⟨⟨x.name, x.base, v, x.den⟩, rfl, hns, Dz.src.less (by omega), Dz.up⟩
    by_cases h3 : p4 = 3
    · subst h3
      obtain ⟨wk, hwk⟩ : ∃ wk, wk = wv := ⟨_, rfl⟩
      subst hwk
      obtain ⟨wl, hwl⟩ : ∃ wl, wl = wk.alloc (.cells #[.int .i64 (-1), .int .i64 0, .int .i64 1, .int .i64 100, .int .i64 101] 2) := ⟨_, rfl⟩
      have hb : Below wk.heap.size wk wl := by rw [hwl]; exact newB _ _
      have hA : At wl (some ⟨wk.heap.size, 0, none⟩) ([-1, 0, 1, 100, 101] : List Int) := by rw [hwl]; exact at_lits wk 2 [-1, 0, 1, 100, 101]
      have hoff := off_new (w := wk) D.out.src.lt
      replace D := Lib.hid (D.out.later hb)
      replace hwl := Lib.hid hwl
      clear hb
      go_wp2_with (rw [← hwl.out])
      refine (among_c g (M) _ ([-1, 0, 1, 100, 101] : List Int) _ _ (D.out.src.less (by omega)) hA hoff (by simp) (by simp)).mono ?_
      rintro e wm ⟨v, rfl, hv, hS, hg⟩
      replace D := Lib.hid (D.out.drew hS hg)
      clear hS hg hA hoff hwl hv
      go_wp2_with (first | (refine wpList_store_own rfl 2 (.tmp 50) (.tmp 49) rfl w.heap.size 25 _ 4 4 (sclC ⟨x.name, x.base, x.num, x.den⟩) 3 _ (⟨.int .i64 v, rfl⟩ : OneCell) rfl rfl rfl (by kernel_rfl) rfl (D.out.get 0 rfl) (by show 3 < 4; omega) ?_; intro wz hV hg; have Dz : Dr w wz g (M) [ite' 25 (.slice (some ⟨w2.heap.size, 0, none⟩) 4 4) (sclC ⟨x.name, x.base, x.num, v⟩), ite' 25 (.slice (some ⟨w.heap.size, 0, none⟩) 1 1) ([⟨⟨#[]⟩, 0, 0, 0⟩] : List Scl)] := D.out.set 0 rfl (show Own _ _ _ _ (sclC ⟨x.name, x.base, x.num, v⟩) from hV) hg (Or.inl rfl); replace D := Lib.hid Dz; clear Dz hV hg; obtain ⟨c0, c1, c2, c3⟩ := sclC_cells (D.out.get 0 rfl)) | (refine wpList_store_own rfl 25 (.tmp 2) (.tmp 51) rfl w.heap.size 25 _ 1 1 ([⟨⟨#[]⟩, 0, 0, 0⟩] : List Scl) 0 _ (⟨x.name, x.base, x.num, v⟩ : Scl) rfl rfl rfl (by kernel_rfl) rfl (D.out.get 1 rfl) (by simp) ?_; intro wr hR hg))
      obtain ⟨q0, q1, q2, q3⟩ := scl1_cells hR
      have Dz := D.out.set 1 rfl hR hg (Or.inl rfl)
      refine bodyPost_ret (v := .agg #[.string x.name, .int .i64 x.base, .int .i64 x.num, .int .i64 v]) (by simp [results, Tryd.results30, go_sem, q0, q1, q2, q3]) rfl ?_
      first | exact ⟨⟨⟨x.name, x.base, x.num, v⟩, rfl, hns⟩, Dz.src.less (by omega), Dz.up⟩ | exact ⟨⟨x.name, x.base, x.num, v⟩, rfl, hns, Dz.src.less (by omega), Dz.up⟩
    obtain ⟨c0, c1, c2, c3⟩ := sclC_cells (D.out.get 0 rfl)
    go_wp2_with (refine wpList_store_own rfl 25 (.tmp 2) (.tmp 51) rfl w.heap.size 25 _ 1 1 ([⟨⟨#[]⟩, 0, 0, 0⟩] : List Scl) 0 _ (⟨x.name, x.base, x.num, x.den⟩ : Scl) rfl rfl rfl (by kernel_rfl) rfl (D.out.get 1 rfl) (by simp) ?_; intro wr hR hg)
    obtain ⟨q0, q1, q2, q3⟩ := scl1_cells hR
    have Dz := D.out.set 1 rfl hR hg (Or.inl rfl)
    refine bodyPost_ret (v := .agg #[.string x.name, .int .i64 x.base, .int .i64 x.num, .int .i64 x.den]) (by simp [results, Tryd.results30, go_sem, q0, q1, q2, q3]) rfl ?_
    exact ⟨⟨x.name, x.base, x.num, x.den⟩, rfl, hns, Dz.src.less (by omega), Dz.up⟩
  · go_wp2_with fail
    refine (pick_c g (M + 8) 60 _ (D.out.src.less (by omega)) (by omega) (by omega)).mono ?_
    rintro e w5 ⟨p1, rfl, p1a, p1b, hS, hg⟩
    replace D := Lib.hid (D.out.drew hS hg)
    clear hS hg
    go_wp2_with (refine wpList_store_own rfl 25 (.tmp 3) (.tmp 16) rfl w.heap.size 25 _ 1 1 ([⟨x.name, x.base, x.num, x.den⟩] : List Scl) 0 _ (⟨⟨#[111, 119, 110, 45, 49]⟩, p1, 0, 0⟩ : Scl) rfl rfl rfl (by kernel_rfl) rfl (own_one_c (D.out.get 0 rfl)) (by simp) ?_; intro wz hV hg; have Dz : Dr w wz g (M + 8) [ite' 25 (.slice (some ⟨w2.heap.size, 0, none⟩) 4 4) (sclC ⟨⟨#[111, 119, 110, 45, 49]⟩, p1, 0, 0⟩), ite' 25 (.slice (some ⟨w.heap.size, 0, none⟩) 1 1) ([⟨⟨#[]⟩, 0, 0, 0⟩] : List Scl)] := D.out.set 0 rfl (own_four_c (x := ⟨⟨#[111, 119, 110, 45, 49]⟩, p1, 0, 0⟩) hV) hg (Or.inl rfl); replace D := Lib.hid Dz; clear Dz hV hg)
    clear hns
    have hns : (⟨#[111, 119, 110, 45, 49]⟩ : ByteArray).size ≤ 10 := by decide
    refine (pick_c g (M + 6) 200 _ (D.out.src.less (by omega)) (by omega) (by omega)).mono ?_
    rintro e w6 ⟨p2, rfl, p2a, p2b, hS, hg⟩
    replace D := Lib.hid (D.out.drew hS hg)
    clear hS hg
    go_wp2_with (refine wpList_store_own rfl 2 (.tmp 20) (.tmp 19) rfl w.heap.size 25 _ 4 4 (sclC ⟨⟨#[111, 119, 110, 45, 49]⟩, p1, 0, 0⟩) 2 _ (⟨.int .i64 (1 + p2), rfl⟩ : OneCell) rfl rfl rfl (by kernel_rfl) rfl (D.out.get 0 rfl) (by show 2 < 4; omega) ?_; intro wz hV hg; have Dz : Dr w wz g (M + 6) [ite' 25 (.slice (some ⟨w2.heap.size, 0, none⟩) 4 4) (sclC ⟨⟨#[111, 119, 110, 45, 49]⟩, p1, 1 + p2, 0⟩), ite' 25 (.slice (some ⟨w.heap.size, 0, none⟩) 1 1) ([⟨⟨#[]⟩, 0, 0, 0⟩] : List Scl)] := D.out.set 0 rfl (show Own _ _ _ _ (sclC ⟨⟨#[111, 119, 110, 45, 49]⟩, p1, 1 + p2, 0⟩) from hV) hg (Or.inl rfl); replace D := Lib.hid Dz; clear Dz hV hg)
    refine (pick_c g (M + 4) 6 _ (D.out.src.less (by omega)) (by omega) (by omega)).mono ?_
    rintro e w7 ⟨p3, rfl, p3a, p3b, hS, hg⟩
    replace D := Lib.hid (D.out.drew hS hg)
    clear hS hg
    go_wp2_with (refine wpList_store_own rfl 2 (.tmp 24) (.tmp 23) rfl w.heap.size 25 _ 4 4 (sclC ⟨⟨#[111, 119, 110, 45, 49]⟩, p1, 1 + p2, 0⟩) 3 _ (⟨.int .i64 (1 + p3), rfl⟩ : OneCell) rfl rfl rfl (by kernel_rfl) rfl (D.out.get 0 rfl) (by show 3 < 4; omega) ?_; intro wz hV hg; have Dz : Dr w wz g (M + 4) [ite' 25 (.slice (some ⟨w2.heap.size, 0, none⟩) 4 4) (sclC ⟨⟨#[111, 119, 110, 45, 49]⟩, p1, 1 + p2, 1 + p3⟩), ite' 25 (.slice (some ⟨w.heap.size, 0, none⟩) 1 1) ([⟨⟨#[]⟩, 0, 0, 0⟩] : List Scl)] := D.out.set 0 rfl (show Own _ _ _ _ (sclC ⟨⟨#[111, 119, 110, 45, 49]⟩, p1, 1 + p2, 1 + p3⟩) from hV) hg (Or.inl rfl); replace D := Lib.hid Dz; clear Dz hV hg)
    refine (pick_c g (M + 2) 24 _ (D.out.src.less (by omega)) (by omega) (by omega)).mono ?_
    rintro e wv ⟨p4, rfl, p4a, p4b, hS, hg⟩
    replace D := Lib.hid (D.out.drew hS hg)
    clear hS hg
    by_cases h0 : p4 = 0
    · subst h0
      obtain ⟨wk, hwk⟩ : ∃ wk, wk = wv := ⟨_, rfl⟩
      subst hwk
      obtain ⟨wl, hwl⟩ : ∃ wl, wl = wk.alloc (.cells #[.string ⟨#[]⟩, .string ⟨#[80, 97, 114, 105, 115]⟩] 9) := ⟨_, rfl⟩
      have hb : Below wk.heap.size wk wl := by rw [hwl]; exact newB _ _
      have hA : At wl (some ⟨wk.heap.size, 0, none⟩) ([⟨#[]⟩, ⟨#[80, 97, 114, 105, 115]⟩] : List ByteArray) := by rw [hwl]; exact (own_alloc wk _ _ ([⟨#[]⟩, ⟨#[80, 97, 114, 105, 115]⟩] : List ByteArray) rfl (by show 2 ≤ 1048576; omega)).at'
      have hoff := off_new (w := wk) D.out.src.lt
      replace D := Lib.hid (D.out.later hb)
      replace hwl := Lib.hid hwl
      clear hb
      go_wp2_with (rw [← hwl.out])
      refine (text3_c g (M) _ ([⟨#[]⟩, ⟨#[80, 97, 114, 105, 115]⟩] : List ByteArray) _ _ (D.out.src.less (by omega)) hA hoff (by simp) (by simp)).mono ?_
      rintro e wm ⟨v, rfl, hv, hS, hg⟩
      replace D := Lib.hid (D.out.drew hS hg)
      have hvs : v.size ≤ 10 := (by decide : ∀ v ∈ ([⟨#[]⟩, ⟨#[80, 97, 114, 105, 115]⟩] : List ByteArray), v.size ≤ 10) v hv
      clear hS hg hA hoff hwl hv
      go_wp2_with (first | (refine wpList_store_own rfl 9 (.tmp 32) (.tmp 31) rfl w.heap.size 25 _ 4 4 (sclC ⟨⟨#[111, 119, 110, 45, 49]⟩, p1, 1 + p2, 1 + p3⟩) 0 _ (⟨.string v, rfl⟩ : OneCell) rfl rfl rfl (by kernel_rfl) rfl (D.out.get 0 rfl) (by show 0 < 4; omega) ?_; intro wz hV hg; have Dz : Dr w wz g (M) [ite' 25 (.slice (some ⟨w2.heap.size, 0, none⟩) 4 4) (sclC ⟨v, p1, 1 + p2, 1 + p3⟩), ite' 25 (.slice (some ⟨w.heap.size, 0, none⟩) 1 1) ([⟨⟨#[]⟩, 0, 0, 0⟩] : List Scl)] := D.out.set 0 rfl (show Own _ _ _ _ (sclC ⟨v, p1, 1 + p2, 1 + p3⟩) from hV) hg (Or.inl rfl); replace D := Lib.hid Dz; clear Dz hV hg; obtain ⟨c0, c1, c2, c3⟩ := sclC_cells (D.out.get 0 rfl)) | (refine wpList_store_own rfl 25 (.tmp 2) (.tmp 51) rfl w.heap.size 25 _ 1 1 ([⟨⟨#[]⟩, 0, 0, 0⟩] : List Scl) 0 _ (⟨v, p1, 1 + p2, 1 + p3⟩ : Scl) rfl rfl rfl (by kernel_rfl) rfl (D.out.get 1 rfl) (by simp) ?_; intro wr hR hg))
      obtain ⟨q0, q1, q2, q3⟩ := scl1_cells hR
      have Dz := D.out.set 1 rfl hR hg (Or.inl rfl)
      refine bodyPost_ret (v := .agg #[.string v, .int .i64 p1, .int .i64 (1 + p2), .int .i64 (1 + p3)]) (by simp [results, Tryd.results30, go_sem, q0, q1, q2, q3]) rfl ?_
      first | exact ⟨⟨⟨v, p1, 1 + p2, 1 + p3⟩, rfl, hvs⟩, Dz.src.less (by omega), Dz.up⟩ | exact ⟨⟨v, p1, 1 + p2, 1 + p3⟩, rfl, hvs, Dz.src.less (by omega), Dz.up⟩
    by_cases h1 : p4 = 1
    · subst h1
      obtain ⟨wk, hwk⟩ : ∃ wk, wk = wv := ⟨_, rfl⟩
      subst hwk
      obtain ⟨wl, hwl⟩ : ∃ wl, wl = wk.alloc (.cells #[.int .i64 (-1), .int .i64 0, .int .i64 100, .int .i64 101] 2) := ⟨_, rfl⟩
      have hb : Below wk.heap.size wk wl := by rw [hwl]; exact newB _ _
      have hA : At wl (some ⟨wk.heap.size, 0, none⟩) ([-1, 0, 100, 101] : List Int) := by rw [hwl]; exact at_lits wk 2 [-1, 0, 100, 101]
      have hoff := off_new (w := wk) D.out.src.lt
      replace D := Lib.hid (D.out.later hb)
      replace hwl := Lib.hid hwl
      clear hb
      go_wp2_with (rw [← hwl.out])
      refine (among_c g (M) _ ([-1, 0, 100, 101] : List Int) _ _ (D.out.src.less (by omega)) hA hoff (by simp) (by simp)).mono ?_
      rintro e wm ⟨v, rfl, hv, hS, hg⟩
      replace D := Lib.hid (D.out.drew hS hg)
      clear hS hg hA hoff hwl hv
      go_wp2_with (first | (refine wpList_store_own rfl 2 (.tmp 38) (.tmp 37) rfl w.heap.size 25 _ 4 4 (sclC ⟨⟨#[111, 119, 110, 45, 49]⟩, p1, 1 + p2, 1 + p3⟩) 1 _ (⟨.int .i64 v, rfl⟩ : OneCell) rfl rfl rfl (by kernel_rfl) rfl (D.out.get 0 rfl) (by show 1 < 4; omega) ?_; intro wz hV hg; have Dz : Dr w wz g (M) [ite' 25 (.slice (some ⟨w2.heap.size, 0, none⟩) 4 4) (sclC ⟨⟨#[111, 119, 110, 45, 49]⟩, v, 1 + p2, 1 + p3⟩), ite' 25 (.slice (some ⟨w.heap.size, 0, none⟩) 1 1) ([⟨⟨#[]⟩, 0, 0, 0⟩] : List Scl)] := D.out.set 0 rfl (show Own _ _ _ _ (sclC ⟨⟨#[111, 119, 110, 45, 49]⟩, v, 1 + p2, 1 + p3⟩) from hV) hg (Or.inl rfl); replace D := Lib.hid Dz; clear Dz hV hg; obtain ⟨c0, c1, c2, c3⟩ := sclC_cells (D.out.get 0 rfl)) | (refine wpList_store_own rfl 25 (.tmp 2) (.tmp 51) rfl w.heap.size 25 _ 1 1 ([⟨⟨#[]⟩, 0, 0, 0⟩] : List Scl) 0 _ (⟨⟨#[111, 119, 110, 45, 49]⟩, v, 1 + p2, 1 + p3⟩ : Scl) rfl rfl rfl (by kernel_rfl) rfl (D.out.get 1 rfl) (by simp) ?_; intro wr hR hg))
      obtain ⟨q0, q1, q2, q3⟩ := scl1_cells hR
      have Dz := D.out.set 1 rfl hR hg (Or.inl rfl)
      refine bodyPost_ret (v := .agg #[.string ⟨#[111, 119, 110, 45, 49]⟩, .int .i64 v, .int .i64 (1 + p2), .int .i64 (1 + p3)]) (by simp [results, Tryd.results30, go_sem, q0, q1, q2, q3]) rfl ?_
      first | exact ⟨⟨⟨⟨#[111, 119, 110, 45, 49]⟩, v, 1 + p2, 1 + p3⟩, rfl, hns⟩, Dz.src.less (by omega), Dz.up⟩ | exact ⟨⟨⟨#[111, 119, 110, 45, 49]⟩, v, 1 + p2, 1 + p3⟩, rfl, hns, Dz.src.less (by omega), Dz.up⟩
    by_cases h2 : p4 = 2
    · subst h2
      obtain ⟨wk, hwk⟩ : ∃ wk, wk = wv := ⟨_, rfl⟩
      subst hwk
      obtain ⟨wl, hwl⟩ : ∃ wl, wl = wk.alloc (.cells #[.int .i64 0, .int .i64 1, .int .i64 1000, .int .i64 1001, .int .i64 (-9223372036854775808)] 2) := ⟨_, rfl⟩
      have hb : Below wk.heap.size wk wl := by rw [hwl]; exact newB _ _
      have hA : At wl (some ⟨wk.heap.size, 0, none⟩) ([0, 1, 1000, 1001, -9223372036854775808] : List Int) := by rw [hwl]; exact at_lits wk 2 [0, 1, 1000, 1001, -9223372036854775808]
      have hoff := off_new (w := wk) D.out.src.lt
      replace D := Lib.hid (D.out.later hb)
      replace hwl := Lib.hid hwl
      clear hb
      go_wp2_with (rw [← hwl.out])
      refine (among_c g (M) _ ([0, 1, 1000, 1001, -9223372036854775808] : List Int) _ _ (D.out.src.less (by omega)) hA hoff (by simp) (by simp)).mono ?_
      rintro e wm ⟨v, rfl, hv, hS, hg⟩
      replace D := Lib.hid (D.out.drew hS hg)
      clear hS hg hA hoff hwl hv
      go_wp2_with (first | (refine wpList_store_own rfl 2 (.tmp 44) (.tmp 43) rfl w.heap.size 25 _ 4 4 (sclC ⟨⟨#[111, 119, 110, 45, 49]⟩, p1, 1 + p2, 1 + p3⟩) 2 _ (⟨.int .i64 v, rfl⟩ : OneCell) rfl rfl rfl (by kernel_rfl) rfl (D.out.get 0 rfl) (by show 2 < 4; omega) ?_; intro wz hV hg; have Dz : Dr w wz g (M) [ite' 25 (.slice (some ⟨w2.heap.size, 0, none⟩) 4 4) (sclC ⟨⟨#[111, 119, 110, 45, 49]⟩, p1, v, 1 + p3⟩), ite' 25 (.slice (some ⟨w.heap.size, 0, none⟩) 1 1) ([⟨⟨#[]⟩, 0, 0, 0⟩] : List Scl)] := D.out.set 0 rfl (show Own _ _ _ _ (sclC ⟨⟨#[111, 119, 110, 45, 49]⟩, p1, v, 1 + p3⟩) from hV) hg (Or.inl rfl); replace D := Lib.hid Dz; clear Dz hV hg; obtain ⟨c0, c1, c2, c3⟩ := sclC_cells (D.out.get 0 rfl)) | (refine wpList_store_own rfl 25 (.tmp 2) (.tmp 51) rfl w.heap.size 25 _ 1 1 ([⟨⟨#[]⟩, 0, 0, 0⟩] : List Scl) 0 _ (⟨⟨#[111, 119, 110, 45, 49]⟩, p1, v, 1 + p3⟩ : Scl) rfl rfl rfl (by kernel_rfl) rfl (D.out.get 1 rfl) (by simp) ?_; intro wr hR hg))
      obtain ⟨q0, q1, q2, q3⟩ := scl1_cells hR
      have Dz := D.out.set 1 rfl hR hg (Or.inl rfl)
      refine bodyPost_ret (v := .agg #[.string ⟨#[111, 119, 110, 45, 49]⟩, .int .i64 p1, .int .i64 v, .int .i64 (1 + p3)]) (by simp [results, Tryd.results30, go_sem, q0, q1, q2, q3]) rfl ?_
      first | exact ⟨⟨⟨⟨#[111, 119, 110, 45, 49]⟩, p1, v, 1 + p3⟩, rfl, hns⟩, Dz.src.less (by omega), Dz.up⟩ | exact ⟨⟨⟨#[111, 119, 110, 45, 49]⟩, p1, v, 1 + p3⟩, rfl, hns, Dz.src.less (by omega), Dz.up⟩
    by_cases h3 : p4 = 3
    · subst h3
      obtain ⟨wk, hwk⟩ : ∃ wk, wk = wv := ⟨_, rfl⟩
      subst hwk
      obtain ⟨wl, hwl⟩ : ∃ wl, wl = wk.alloc (.cells #[.int .i64 (-1), .int .i64 0, .int .i64 1, .int .i64 100, .int .i64 101] 2) := ⟨_, rfl⟩
      have hb : Below wk.heap.size wk wl := by rw [hwl]; exact newB _ _
      have hA : At wl (some ⟨wk.heap.size, 0, none⟩) ([-1, 0, 1, 100, 101] : List Int) := by rw [hwl]; exact at_lits wk 2 [-1, 0, 1, 100, 101]
      have hoff := off_new (w := wk) D.out.src.lt
      replace D := Lib.hid (D.out.later hb)
      replace hwl := Lib.hid hwl
      clear hb
      go_wp2_with (rw [← hwl.out])
      refine (among_c g (M) _ ([-1, 0, 1, 100, 101] : List Int) _ _ (D.out.src.less (by omega)) hA hoff (by simp) (by simp)).mono ?_
      rintro e wm ⟨v, rfl, hv, hS, hg⟩
      replace D := Lib.hid (D.out.drew hS hg)
      clear hS hg hA hoff hwl hv
      go_wp2_with (first | (refine wpList_store_own rfl 2 (.tmp 50) (.tmp 49) rfl w.heap.size 25 _ 4 4 (sclC ⟨⟨#[111, 119, 110, 45, 49]⟩, p1, 1 + p2, 1 + p3⟩) 3 _ (⟨.int .i64 v, rfl⟩ : OneCell) rfl rfl rfl (by kernel_rfl) rfl (D.out.get 0 rfl) (by show 3 < 4; omega) ?_; intro wz hV hg; have Dz : Dr w wz g (M) [ite' 25 (.slice (some ⟨w2.heap.size, 0, none⟩) 4 4) (sclC ⟨⟨#[111, 119, 110, 45, 49]⟩, p1, 1 + p2, v⟩), ite' 25 (.slice (some ⟨w.heap.size, 0, none⟩) 1 1) ([⟨⟨#[]⟩, 0, 0, 0⟩] : List Scl)] := D.out.set 0 rfl (show Own _ _ _ _ (sclC ⟨⟨#[111, 119, 110, 45, 49]⟩, p1, 1 + p2, v⟩) from hV) hg (Or.inl rfl); replace D := Lib.hid Dz; clear Dz hV hg; obtain ⟨c0, c1, c2, c3⟩ := sclC_cells (D.out.get 0 rfl)) | (refine wpList_store_own rfl 25 (.tmp 2) (.tmp 51) rfl w.heap.size 25 _ 1 1 ([⟨⟨#[]⟩, 0, 0, 0⟩] : List Scl) 0 _ (⟨⟨#[111, 119, 110, 45, 49]⟩, p1, 1 + p2, v⟩ : Scl) rfl rfl rfl (by kernel_rfl) rfl (D.out.get 1 rfl) (by simp) ?_; intro wr hR hg))
      obtain ⟨q0, q1, q2, q3⟩ := scl1_cells hR
      have Dz := D.out.set 1 rfl hR hg (Or.inl rfl)
      refine bodyPost_ret (v := .agg #[.string ⟨#[111, 119, 110, 45, 49]⟩, .int .i64 p1, .int .i64 (1 + p2), .int .i64 v]) (by simp [results, Tryd.results30, go_sem, q0, q1, q2, q3]) rfl ?_
      first | exact ⟨⟨⟨⟨#[111, 119, 110, 45, 49]⟩, p1, 1 + p2, v⟩, rfl, hns⟩, Dz.src.less (by omega), Dz.up⟩ | exact ⟨⟨⟨#[111, 119, 110, 45, 49]⟩, p1, 1 + p2, v⟩, rfl, hns, Dz.src.less (by omega), Dz.up⟩
    obtain ⟨c0, c1, c2, c3⟩ := sclC_cells (D.out.get 0 rfl)
    go_wp2_with (refine wpList_store_own rfl 25 (.tmp 2) (.tmp 51) rfl w.heap.size 25 _ 1 1 ([⟨⟨#[]⟩, 0, 0, 0⟩] : List Scl) 0 _ (⟨⟨#[111, 119, 110, 45, 49]⟩, p1, 1 + p2, 1 + p3⟩ : Scl) rfl rfl rfl (by kernel_rfl) rfl (D.out.get 1 rfl) (by simp) ?_; intro wr hR hg)
    obtain ⟨q0, q1, q2, q3⟩ := scl1_cells hR
    have Dz := D.out.set 1 rfl hR hg (Or.inl rfl)
    refine bodyPost_ret (v := .agg #[.string ⟨#[111, 119, 110, 45, 49]⟩, .int .i64 p1, .int .i64 (1 + p2), .int .i64 (1 + p3)]) (by simp [results, Tryd.results30, go_sem, q0, q1, q2, q3]) rfl ?_
    exact ⟨⟨⟨#[111, 119, 110, 45, 49]⟩, p1, 1 + p2, 1 + p3⟩, rfl, hns, Dz.src.less (by omega), Dz.up⟩
end Go.Proofs.YtaeinllbjkjhlaaDoor
