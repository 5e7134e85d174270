/- Chapter 3, draws of sizes, names of scales and texts of sizes. -/
import Derived.Test.YtaeinllbjkjhlaaDoorW11
import Derived.Test.YtaeinllbjkjhlaaDoorS04
import Derived.Test.YtaeinllbjkjhlaaDoorSpl
namespace Go.Proofs.YtaeinllbjkjhlaaDoor
open Go.RowKit

theorem drawSizeText_c (ca : Option Addr) (L : List UInt8) (cc : Nat) (w : World) (hx : At w ca L) (hl : L.length ≤ 9223372036854775807) :
    Calls Tryd.prog 16 #[.slice ca L.length cc] w fun e w' => ∃ t : Int, e = .returned (.int .i64 t) ∧ -1 ≤ t ∧ t ≤ 9223372036854775807 ∧ Below w.heap.size w w' := by
  go_enter Tryd.func16, Tryd.ntmps16
  go_wp2_with fail
  refine (l00From_c ca L cc w hx hl).mono ?_
  rintro e w1 ⟨rfl, hS, hb1⟩
  go_wp2_with fail
  refine (drawHalf_c w.heap.size 0 w1 (hS.less (by omega))).mono ?_
  rintro e w2 ⟨t, rfl, t0, t1, _, hg⟩
  go_wp2_with fail
  go_ret
  exact ⟨t, rfl, t0, t1, drew_up hb1 hg (Nat.le_refl _)⟩
theorem drawScaleNamed_c (ca : Option Addr) (L : List UInt8) (cc : Nat) (w : World) (hx : At w ca L) (hl : L.length ≤ 9223372036854775807) :
    Calls Tryd.prog 13 #[.slice ca L.length cc] w fun e w' => ∃ t : ByteArray, e = .returned (.string t) ∧ t.size ≤ 100 ∧ Below w.heap.size w w' := by
  go_enter Tryd.func13, Tryd.ntmps13
  go_wp2_with fail
  refine (l00From_c ca L cc w hx hl).mono ?_
  rintro e w1 ⟨rfl, hS, hb1⟩
  have hb2 : Below w1.heap.size w1 (w1.alloc (.cells #[.string ⟨#[112, 97, 114, 105, 115]⟩, .string ⟨#[101, 110, 103, 108, 105, 115, 104]⟩, .string ⟨#[97, 109, 101, 114, 105, 99, 97, 110]⟩, .string ⟨#[109, 111, 110, 100, 111]⟩, .string ⟨#[110, 111, 110, 101]⟩, .string ⟨#[]⟩] 9)) := newB _ _
  have hA : At (w1.alloc (.cells #[.string ⟨#[112, 97, 114, 105, 115]⟩, .string ⟨#[101, 110, 103, 108, 105, 115, 104]⟩, .string ⟨#[97, 109, 101, 114, 105, 99, 97, 110]⟩, .string ⟨#[109, 111, 110, 100, 111]⟩, .string ⟨#[110, 111, 110, 101]⟩, .string ⟨#[]⟩] 9)) (some ⟨w1.heap.size, 0, none⟩) ([⟨#[112, 97, 114, 105, 115]⟩, ⟨#[101, 110, 103, 108, 105, 115, 104]⟩, ⟨#[97, 109, 101, 114, 105, 99, 97, 110]⟩, ⟨#[109, 111, 110, 100, 111]⟩, ⟨#[110, 111, 110, 101]⟩, ⟨#[]⟩] : List ByteArray) := (own_alloc w1 _ _ ([⟨#[112, 97, 114, 105, 115]⟩, ⟨#[101, 110, 103, 108, 105, 115, 104]⟩, ⟨#[97, 109, 101, 114, 105, 99, 97, 110]⟩, ⟨#[109, 111, 110, 100, 111]⟩, ⟨#[110, 111, 110, 101]⟩, ⟨#[]⟩] : List ByteArray) rfl (by show 6 ≤ 1048576; omega)).at'
  go_wp2_with fail
  refine (text3_c w.heap.size 0 _ ([⟨#[112, 97, 114, 105, 115]⟩, ⟨#[101, 110, 103, 108, 105, 115, 104]⟩, ⟨#[97, 109, 101, 114, 105, 99, 97, 110]⟩, ⟨#[109, 111, 110, 100, 111]⟩, ⟨#[110, 111, 110, 101]⟩, ⟨#[]⟩] : List ByteArray) _ _ ((hS.less (by omega)).later hb2) hA (off_new hS.lt) (by simp) (by simp)).mono ?_
  rintro e w2 ⟨t, rfl, ht, _, hg⟩
  have hz : t.size ≤ 100 := by
    revert ht
    generalize hq : ([⟨#[112, 97, 114, 105, 115]⟩, ⟨#[101, 110, 103, 108, 105, 115, 104]⟩, ⟨#[97, 109, 101, 114, 105, 99, 97, 110]⟩, ⟨#[109, 111, 110, 100, 111]⟩, ⟨#[110, 111, 110, 101]⟩, ⟨#[]⟩] : List ByteArray) = qs
    have : ∀ x ∈ qs, x.size ≤ 100 := by rw [← hq]; decide
    exact this t
  go_wp2_with fail
  go_ret
  exact ⟨t, rfl, hz, drew_up (upw hb1 hb2) hg (Nat.le_refl _)⟩
set_option maxRecDepth 100000 in
theorem drawReadSize_c (ca : Option Addr) (L : List UInt8) (cc : Nat) (w : World) (hx : At w ca L) (hl : L.length ≤ 9223372036854775807) :
    Calls Tryd.prog 19 #[.slice ca L.length cc] w fun e w' => ∃ t : ByteArray, e = .returned (.string t) ∧ t.size ≤ 100000 ∧ Below w.heap.size w w' := by
  go_enter Tryd.func19, Tryd.ntmps19
  go_wp2_with fail
  refine (l00From_c ca L cc w hx hl).mono ?_
  rintro e w1 ⟨rfl, hS, hb1⟩
  go_wp2_with fail
  refine (one_c w.heap.size 100 3 w1 (hS.less (by omega)) (by omega) (by omega)).mono ?_
  rintro e w2 ⟨b, rfl, hS2, hg2⟩
  have hb2 := drew_up hb1 hg2 (Nat.le_refl _)
  cases b
  · go_wp2_with fail
    refine (pick_c w.heap.size 98 100 w2 hS2 (by omega) (by omega)).mono ?_
    rintro e w3 ⟨v, rfl, v0, v1, hS3, hg3⟩
    have hb3 := drew_up hb2 hg3 (Nat.le_refl _)
    have hv : v ≤ 99 := by omega
    go_wp2_with fail
    refine (l03Text_c v w3 (by omega)).mono ?_
    rintro e w4 ⟨rfl, hb4⟩
    have hz : (szTxt v).size ≤ 100 := by
      have := decT_size (v / 2) (by omega) (by omega)
      unfold szTxt
      split
      · omega
      · rw [ByteArray.size_append]
        have e2 : (⟨#[46, 53]⟩ : ByteArray).size = 2 := rfl
        omega
    go_wp2_with fail
    refine (l01Spoil_c w.heap.size 0 (szTxt v) w4 ((hS3.less (by omega)).later hb4) (by omega)).mono ?_
    rintro e w5 ⟨s, rfl, hs, _, hg5⟩
    go_wp2_with fail
    go_ret
    exact ⟨s, rfl, by omega, drew_up (upw hb3 hb4) hg5 (Nat.le_refl _)⟩
  · have hb3 : Below w2.heap.size w2 (w2.alloc (.cells #[.string ⟨#[]⟩, .string ⟨#[55, 46, 53]⟩, .string ⟨#[55, 46, 48]⟩, .string ⟨#[54, 48]⟩, .string ⟨#[54, 48, 46, 53]⟩, .string ⟨#[45, 49]⟩, .string ⟨#[46, 53]⟩, .string ⟨#[48, 55]⟩, .string ⟨#[55, 46, 53, 46, 53]⟩, .string ⟨#[55, 46]⟩] 9)) := newB _ _
    have hA : At (w2.alloc (.cells #[.string ⟨#[]⟩, .string ⟨#[55, 46, 53]⟩, .string ⟨#[55, 46, 48]⟩, .string ⟨#[54, 48]⟩, .string ⟨#[54, 48, 46, 53]⟩, .string ⟨#[45, 49]⟩, .string ⟨#[46, 53]⟩, .string ⟨#[48, 55]⟩, .string ⟨#[55, 46, 53, 46, 53]⟩, .string ⟨#[55, 46]⟩] 9)) (some ⟨w2.heap.size, 0, none⟩) ([⟨#[]⟩, ⟨#[55, 46, 53]⟩, ⟨#[55, 46, 48]⟩, ⟨#[54, 48]⟩, ⟨#[54, 48, 46, 53]⟩, ⟨#[45, 49]⟩, ⟨#[46, 53]⟩, ⟨#[48, 55]⟩, ⟨#[55, 46, 53, 46, 53]⟩, ⟨#[55, 46]⟩] : List ByteArray) := (own_alloc w2 _ _ ([⟨#[]⟩, ⟨#[55, 46, 53]⟩, ⟨#[55, 46, 48]⟩, ⟨#[54, 48]⟩, ⟨#[54, 48, 46, 53]⟩, ⟨#[45, 49]⟩, ⟨#[46, 53]⟩, ⟨#[48, 55]⟩, ⟨#[55, 46, 53, 46, 53]⟩, ⟨#[55, 46]⟩] : List ByteArray) rfl (by show 10 ≤ 1048576; omega)).at'
    go_wp2_with fail
    refine (text3_c w.heap.size 0 _ ([⟨#[]⟩, ⟨#[55, 46, 53]⟩, ⟨#[55, 46, 48]⟩, ⟨#[54, 48]⟩, ⟨#[54, 48, 46, 53]⟩, ⟨#[45, 49]⟩, ⟨#[46, 53]⟩, ⟨#[48, 55]⟩, ⟨#[55, 46, 53, 46, 53]⟩, ⟨#[55, 46]⟩] : List ByteArray) _ _ ((hS2.less (by omega)).later hb3) hA (off_new hS2.lt) (by simp) (by simp)).mono ?_
    rintro e w3 ⟨t, rfl, ht, _, hg⟩
    have hz : t.size ≤ 100000 := by
      revert ht
      generalize hq : ([⟨#[]⟩, ⟨#[55, 46, 53]⟩, ⟨#[55, 46, 48]⟩, ⟨#[54, 48]⟩, ⟨#[54, 48, 46, 53]⟩, ⟨#[45, 49]⟩, ⟨#[46, 53]⟩, ⟨#[48, 55]⟩, ⟨#[55, 46, 53, 46, 53]⟩, ⟨#[55, 46]⟩] : List ByteArray) = qs
      have : ∀ x ∈ qs, x.size ≤ 100000 := by rw [← hq]; decide
      exact this t
    go_wp2_with fail
    go_ret
    exact ⟨t, rfl, hz, drew_up (upw hb2 hb3) hg (Nat.le_refl _)⟩
end Go.Proofs.YtaeinllbjkjhlaaDoor
