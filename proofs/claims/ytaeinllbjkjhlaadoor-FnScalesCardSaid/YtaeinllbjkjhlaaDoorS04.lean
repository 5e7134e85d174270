/- Sizes and their texts: what the program and the reference write and read. -/
import Derived.Test.YtaeinllbjkjhlaaDoorSizeMath
import Derived.Test.YtaeinllbjkjhlaaDoorW03
namespace Go.Proofs.YtaeinllbjkjhlaaDoor
open Go.ChangeShapes Go.WideShapes Go.ChangeAt Go.RowKit

theorem szTxt_even {t : Int} (h : t % 2 = 0) : szTxt t = decT (t / 2) := if_pos h
theorem szTxt_odd {t : Int} (h : t % 2 = 1) : szTxt t = decT (t / 2) ++ ⟨#[46, 53]⟩ := if_neg (by omega)
theorem implSizeText_c (t : Int) (w : World) (hr : -9223372036854775808 ≤ t ∧ t ≤ 9223372036854775807) (hT : Tab w) :
    Calls Tryd.prog 17 #[.int .i64 t] w fun e w' => e = .returned (.string (sizeT t)) ∧ Below w.heap.size w w' := by
  cases h1 : inr t 0 120
  · rw [sizeT_bad h1]
    go_enter Tryd.func17, Tryd.ntmps17
    go_wp2_with (refine (as_bool h1 (isHalf_c _ _)).mono ?_; rintro e w' ⟨rfl, rfl⟩)
    go_ret
    exact ⟨rfl, Below.refl _ _⟩
  · rw [sizeT_ok h1]
    have hi := inr_true.1 h1
    have hq : t.tdiv 2 = t / 2 := Int.tdiv_eq_ediv_of_nonneg hi.1
    have hm : t.tmod 2 = t % 2 := Int.tmod_eq_emod_of_nonneg hi.1
    have hD := Lib.hid (decimal_c (t / 2) w (by omega) (by omega) hT)
    obtain ⟨q, hqq⟩ : ∃ q, q = t / 2 := ⟨_, rfl⟩
    have hqw : IntKind.i64.wrap q = q := IntWalk.i64_in _ (by omega)
    by_cases he : t % 2 = 0
    · rw [szTxt_even he, ← hqq]
      rw [← hqq] at hD hq
      rw [he] at hm
      have hz := decT_size q (by omega) (by omega)
      clear hqq he
      go_enter Tryd.func17, Tryd.ntmps17
      go_wp2_with (refine (as_bool h1 (isHalf_c _ _)).mono ?_; rintro e w' ⟨rfl, rfl⟩)
      refine hD.out.mono ?_
      rintro e w2 ⟨rfl, hb⟩
      go_wp2_with fail
      go_ret
      exact ⟨rfl, hb⟩
    · have he : t % 2 = 1 := by omega
      rw [szTxt_odd he, ← hqq]
      rw [← hqq] at hD hq
      rw [he] at hm
      have hz := decT_size q (by omega) (by omega)
      clear hqq he
      go_enter Tryd.func17, Tryd.ntmps17
      go_wp2_with (refine (as_bool h1 (isHalf_c _ _)).mono ?_; rintro e w' ⟨rfl, rfl⟩)
      refine hD.out.mono ?_
      rintro e w2 ⟨rfl, hb⟩
      go_wp2_with fail
      go_ret
      exact ⟨rfl, hb⟩
theorem l03Text_c (t : Int) (w : World) (hr : 0 ≤ t ∧ t ≤ 9223372036854775807) :
    Calls Tryd.prog 43 #[.int .i64 t] w fun e w' => e = .returned (.string (szTxt t)) ∧ Below w.heap.size w w' := by
  have hq : t.tdiv 2 = t / 2 := Int.tdiv_eq_ediv_of_nonneg hr.1
  have hm : t.tmod 2 = t % 2 := Int.tmod_eq_emod_of_nonneg hr.1
  have hD := Lib.hid (l01Dec_c (t / 2) w (by omega) (by omega))
  obtain ⟨q, hqq⟩ : ∃ q, q = t / 2 := ⟨_, rfl⟩
  have hqw : IntKind.i64.wrap q = q := IntWalk.i64_in _ (by omega)
  by_cases he : t % 2 = 0
  · rw [szTxt_even he, ← hqq]
    rw [← hqq] at hD hq
    rw [he] at hm
    have hz := decT_size q (by omega) (by omega)
    clear hqq he
    go_enter Tryd.func43, Tryd.ntmps43
    go_wp2_with fail
    refine hD.out.mono ?_
    rintro e w2 ⟨rfl, hb⟩
    go_wp2_with fail
    go_ret
    exact ⟨rfl, hb⟩
  · have he : t % 2 = 1 := by omega
    rw [szTxt_odd he, ← hqq]
    rw [← hqq] at hD hq
    rw [he] at hm
    have hz := decT_size q (by omega) (by omega)
    clear hqq he
    go_enter Tryd.func43, Tryd.ntmps43
    go_wp2_with fail
    refine hD.out.mono ?_
    rintro e w2 ⟨rfl, hb⟩
    go_wp2_with fail
    go_ret
    exact ⟨rfl, hb⟩
theorem specSizeText_c (t : Int) (w : World) (hr : -9223372036854775808 ≤ t ∧ t ≤ 9223372036854775807) :
    Calls Tryd.prog 21 #[.int .i64 t] w fun e w' => e = .returned (.string (sizeT t)) ∧ Below w.heap.size w w' := by
  cases h1 : inr t 0 120
  · rw [sizeT_bad h1]
    go_enter Tryd.func21, Tryd.ntmps21
    go_wp2_with (refine (as_bool h1 (l03Half_c _ _)).mono ?_; rintro e w' ⟨rfl, rfl⟩)
    go_ret
    exact ⟨rfl, Below.refl _ _⟩
  · rw [sizeT_ok h1]
    have hi := inr_true.1 h1
    go_enter Tryd.func21, Tryd.ntmps21
    go_wp2_with (refine (as_bool h1 (l03Half_c _ _)).mono ?_; rintro e w' ⟨rfl, rfl⟩)
    refine (l03Text_c t _ (by omega)).mono ?_
    rintro e w2 ⟨rfl, hb⟩
    go_wp2_with fail
    go_ret
    exact ⟨rfl, hb⟩
end Go.Proofs.YtaeinllbjkjhlaaDoor
