/- Chapter 3, conversions: the program's and the reference's. -/
import Derived.Test.YtlaclknhenccdaaW06
namespace Go.Proofs.Ytlaclknhenccdaa
open Go.RowKit

theorem scl_new2 (w : World) (t : TypeId) (x y : Scl) : ∃ w1, w1 = (w.alloc (.cells #[.string x.name, .int .i64 x.base, .int .i64 x.num, .int .i64 x.den] t)).alloc (.cells #[.string y.name, .int .i64 y.base, .int .i64 y.num, .int .i64 y.den] t) ∧ Below w.heap.size w w1 ∧ (w1.cell? ⟨w.heap.size, 0, none⟩ = some (.string x.name) ∧ w1.cell? ⟨w.heap.size, 1, none⟩ = some (.int .i64 x.base) ∧ w1.cell? ⟨w.heap.size, 2, none⟩ = some (.int .i64 x.num) ∧ w1.cell? ⟨w.heap.size, 3, none⟩ = some (.int .i64 x.den)) ∧ w1.cell? ⟨w.heap.size + 1, 0, none⟩ = some (.string y.name) ∧ w1.cell? ⟨w.heap.size + 1, 1, none⟩ = some (.int .i64 y.base) ∧ w1.cell? ⟨w.heap.size + 1, 2, none⟩ = some (.int .i64 y.num) ∧ w1.cell? ⟨w.heap.size + 1, 3, none⟩ = some (.int .i64 y.den) := by
  obtain ⟨wa, ha, hba, a0, a1, a2, a3⟩ := scl_new w t x
  obtain ⟨wb, hb, hbb, b0, b1, b2, b3⟩ := scl_new wa t y
  have hs : wa.heap.size = w.heap.size + 1 := by rw [ha]; exact World.size_alloc _ _
  rw [hs] at b0 b1 b2 b3
  exact ⟨wb, by rw [hb, ha], upw hba hbb, ⟨kept_cell a0 hbb, kept_cell a1 hbb, kept_cell a2 hbb, kept_cell a3 hbb⟩, b0, b1, b2, b3⟩
/-- Half sizes of one scale in another's. -/
def conv (x y : Scl) (h : Int) : Nat := nearest y ((h + x.base) * x.num) x.den
theorem conv_in {x : Scl} {h : Int} (ok : okScl x = true) (hh : 0 ≤ h ∧ h ≤ 120) : (0 ≤ h + x.base ∧ h + x.base ≤ 220) ∧ (0 ≤ (h + x.base) * x.num ∧ (h + x.base) * x.num ≤ 220000) := by
  obtain ⟨a, b, _⟩ := tgt_bound (d := 1) ok (by omega) hh
  exact ⟨a, b⟩
theorem conv_le (x y : Scl) (h : Int) : conv x y h ≤ 120 := near_le _ _ _ _
def cvRes (x y : Scl) (h : Int) : Int × Int := if okScl x && okScl y then (if inr h 0 120 then (((conv x y h : Nat) : Int), 0) else (0, 2)) else (0, 1)
theorem convertHalf_c (x y : Scl) (h : Int) (w : World) (h1 : okScl x = true) (h2 : okScl y = true) (hh : 0 ≤ h ∧ h ≤ 120) :
    Calls Try.prog 93 #[.agg #[.string x.name, .int .i64 x.base, .int .i64 x.num, .int .i64 x.den], .int .i64 h, .agg #[.string y.name, .int .i64 y.base, .int .i64 y.num, .int .i64 y.den]] w fun e w' => e = .returned (.int .i64 (conv x y h : Nat)) ∧ Below w.heap.size w w' := by
  obtain ⟨w1, hw1, hb, ⟨c0, c1, c2, c3⟩, d0, d1, d2, d3⟩ := scl_new2 w 42 x y
  obtain ⟨t1, t2⟩ := conv_in h1 hh
  obtain ⟨_, o1, o2, o3⟩ := okScl_iff.1 h1
  have hN := Lib.hid (nearestHalf_c y ((h + x.base) * x.num) x.den w1 h2 t2 o3)
  have hE := Lib.hid (show nearest y ((h + x.base) * x.num) x.den = conv x y h from rfl)
  rw [hE.out] at hN
  replace hw1 := Lib.hid hw1
  clear h1 h2 c0 hE
  go_enter Try.func93, Try.ntmps93
  go_wp2_with (rw [← hw1.out])
  refine hN.out.mono ?_
  rintro e w2 ⟨rfl, hb2⟩
  go_wp2_with fail
  go_ret
  exact ⟨rfl, upw hb hb2⟩
set_option maxHeartbeats 800000 in
theorem implConvertHalf_c (x y : Scl) (h : Int) (w : World) (hs : x.name.size ≤ 9223372036854775807) (hs2 : y.name.size ≤ 9223372036854775807) :
    Calls Try.prog 26 #[.agg #[.string x.name, .int .i64 x.base, .int .i64 x.num, .int .i64 x.den], .int .i64 h, .agg #[.string y.name, .int .i64 y.base, .int .i64 y.num, .int .i64 y.den]] w fun e w' => e = .returned (.tuple #[.int .i64 (cvRes x y h).1, .int .i64 (cvRes x y h).2]) ∧ Below w.heap.size w w' := by
  obtain ⟨w1, hw1, hb, ⟨c0, c1, c2, c3⟩, d0, d1, d2, d3⟩ := scl_new2 w 42 x y
  replace hw1 := Lib.hid hw1
  have hV := Lib.hid (implValidScale_c x w1 hs)
  have hV2 := Lib.hid (fun w' => implValidScale_c y w' hs2)
  clear hs hs2
  cases h1 : okScl x
  · have e0 : cvRes x y h = (0, 1) := by simp [cvRes, h1]
    rw [e0]
    clear e0
    go_enter Try.func26, Try.ntmps26
    go_wp2_with (rw [← hw1.out])
    refine (as_boolB h1 hV.out).mono ?_
    rintro e w2 ⟨rfl, hb2⟩
    go_wp2_with fail
    go_ret2
    exact ⟨rfl, upw hb hb2⟩
  cases h2 : okScl y
  · have e0 : cvRes x y h = (0, 1) := by simp [cvRes, h2]
    rw [e0]
    clear e0
    go_enter Try.func26, Try.ntmps26
    go_wp2_with (rw [← hw1.out])
    refine (as_boolB h1 hV.out).mono ?_
    rintro e w2 ⟨rfl, hb2⟩
    replace d0 := kept_cell d0 hb2
    replace d1 := kept_cell d1 hb2
    replace d2 := kept_cell d2 hb2
    replace d3 := kept_cell d3 hb2
    go_wp2_with fail
    refine (as_boolB h2 (hV2.out _)).mono ?_
    rintro e w3 ⟨rfl, hb3⟩
    go_wp2_with fail
    go_ret2
    exact ⟨rfl, upw (upw hb hb2) hb3⟩
  cases h3 : inr h 0 120
  · have e0 : cvRes x y h = (0, 2) := by simp [cvRes, h1, h2, h3]
    rw [e0]
    clear e0
    go_enter Try.func26, Try.ntmps26
    go_wp2_with (rw [← hw1.out])
    refine (as_boolB h1 hV.out).mono ?_
    rintro e w2 ⟨rfl, hb2⟩
    replace d0 := kept_cell d0 hb2
    replace d1 := kept_cell d1 hb2
    replace d2 := kept_cell d2 hb2
    replace d3 := kept_cell d3 hb2
    go_wp2_with fail
    refine (as_boolB h2 (hV2.out _)).mono ?_
    rintro e w3 ⟨rfl, hb3⟩
    go_wp2_with fail
    refine (as_bool h3 (isHalf_c _ _)).mono ?_
    rintro e w' ⟨rfl, rfl⟩
    go_wp2_with fail
    go_ret2
    exact ⟨rfl, upw (upw hb hb2) hb3⟩
  have e0 : cvRes x y h = (((conv x y h : Nat) : Int), 0) := by simp [cvRes, h1, h2, h3]
  rw [e0]
  clear e0
  have hC := Lib.hid (fun w' => convertHalf_c x y h w' h1 h2 (inr_true.1 h3))
  go_enter Try.func26, Try.ntmps26
  go_wp2_with (rw [← hw1.out])
  refine (as_boolB h1 hV.out).mono ?_
  rintro e w2 ⟨rfl, hb2⟩
  replace d0 := kept_cell d0 hb2
  replace d1 := kept_cell d1 hb2
  replace d2 := kept_cell d2 hb2
  replace d3 := kept_cell d3 hb2
  replace c0 := kept_cell c0 hb2
  replace c1 := kept_cell c1 hb2
  replace c2 := kept_cell c2 hb2
  replace c3 := kept_cell c3 hb2
  replace hb := upw hb hb2
  clear hb2
  go_wp2_with fail
  refine (as_boolB h2 (hV2.out _)).mono ?_
  rintro e w3 ⟨rfl, hb2⟩
  replace d0 := kept_cell d0 hb2
  replace d1 := kept_cell d1 hb2
  replace d2 := kept_cell d2 hb2
  replace d3 := kept_cell d3 hb2
  replace c0 := kept_cell c0 hb2
  replace c1 := kept_cell c1 hb2
  replace c2 := kept_cell c2 hb2
  replace c3 := kept_cell c3 hb2
  replace hb := upw hb hb2
  clear hb2
  go_wp2_with fail
  refine (as_bool h3 (isHalf_c _ _)).mono ?_
  rintro e w' ⟨rfl, rfl⟩
  go_wp2_with fail
  refine (hC.out _).mono ?_
  rintro e w4 ⟨rfl, hb4⟩
  go_wp2_with fail
  go_ret2
  exact ⟨rfl, upw hb hb4⟩
set_option maxHeartbeats 800000 in
theorem specConvertHalf_c (x y : Scl) (h : Int) (w : World) (hs : x.name.size ≤ 9223372036854775807) (hs2 : y.name.size ≤ 9223372036854775807) :
    Calls Try.prog 27 #[.agg #[.string x.name, .int .i64 x.base, .int .i64 x.num, .int .i64 x.den], .int .i64 h, .agg #[.string y.name, .int .i64 y.base, .int .i64 y.num, .int .i64 y.den]] w fun e w' => e = .returned (.tuple #[.int .i64 (cvRes x y h).1, .int .i64 (cvRes x y h).2]) ∧ Below w.heap.size w w' := by
  obtain ⟨w1, hw1, hb, ⟨c0, c1, c2, c3⟩, d0, d1, d2, d3⟩ := scl_new2 w 42 x y
  replace hw1 := Lib.hid hw1
  have hV := Lib.hid (l03Ok_c x w1 hs)
  have hV2 := Lib.hid (fun w' => l03Ok_c y w' hs2)
  clear hs hs2
  cases h1 : okScl x
  · have e0 : cvRes x y h = (0, 1) := by simp [cvRes, h1]
    rw [e0]
    clear e0
    go_enter Try.func27, Try.ntmps27
    go_wp2_with (rw [← hw1.out])
    refine (as_boolB h1 hV.out).mono ?_
    rintro e w2 ⟨rfl, hb2⟩
    go_wp2_with fail
    go_ret2
    exact ⟨rfl, upw hb hb2⟩
  cases h2 : okScl y
  · have e0 : cvRes x y h = (0, 1) := by simp [cvRes, h2]
    rw [e0]
    clear e0
    go_enter Try.func27, Try.ntmps27
    go_wp2_with (rw [← hw1.out])
    refine (as_boolB h1 hV.out).mono ?_
    rintro e w2 ⟨rfl, hb2⟩
    replace d0 := kept_cell d0 hb2
    replace d1 := kept_cell d1 hb2
    replace d2 := kept_cell d2 hb2
    replace d3 := kept_cell d3 hb2
    go_wp2_with fail
    refine (as_boolB h2 (hV2.out _)).mono ?_
    rintro e w3 ⟨rfl, hb3⟩
    go_wp2_with fail
    go_ret2
    exact ⟨rfl, upw (upw hb hb2) hb3⟩
  cases h3 : inr h 0 120
  · have e0 : cvRes x y h = (0, 2) := by simp [cvRes, h1, h2, h3]
    rw [e0]
    clear e0
    go_enter Try.func27, Try.ntmps27
    go_wp2_with (rw [← hw1.out])
    refine (as_boolB h1 hV.out).mono ?_
    rintro e w2 ⟨rfl, hb2⟩
    replace d0 := kept_cell d0 hb2
    replace d1 := kept_cell d1 hb2
    replace d2 := kept_cell d2 hb2
    replace d3 := kept_cell d3 hb2
    go_wp2_with fail
    refine (as_boolB h2 (hV2.out _)).mono ?_
    rintro e w3 ⟨rfl, hb3⟩
    go_wp2_with fail
    refine (as_bool h3 (l03Half_c _ _)).mono ?_
    rintro e w' ⟨rfl, rfl⟩
    go_wp2_with fail
    go_ret2
    exact ⟨rfl, upw (upw hb hb2) hb3⟩
  have e0 : cvRes x y h = (((conv x y h : Nat) : Int), 0) := by simp [cvRes, h1, h2, h3]
  rw [e0]
  clear e0
  obtain ⟨t1, t2⟩ := conv_in h1 (inr_true.1 h3)
  have i3 := inr_true.1 h3
  obtain ⟨_, o1, o2, o3⟩ := okScl_iff.1 h1
  have hC := Lib.hid (fun w' => l03Nearest_c y ((h + x.base) * x.num) x.den w' h2 t2 o3)
  rw [show nearest y ((h + x.base) * x.num) x.den = conv x y h from rfl] at hC
  go_enter Try.func27, Try.ntmps27
  go_wp2_with (rw [← hw1.out])
  refine (as_boolB h1 hV.out).mono ?_
  rintro e w2 ⟨rfl, hb2⟩
  replace d0 := kept_cell d0 hb2
  replace d1 := kept_cell d1 hb2
  replace d2 := kept_cell d2 hb2
  replace d3 := kept_cell d3 hb2
  replace c0 := kept_cell c0 hb2
  replace c1 := kept_cell c1 hb2
  replace c2 := kept_cell c2 hb2
  replace c3 := kept_cell c3 hb2
  replace hb := upw hb hb2
  clear hb2
  go_wp2_with fail
  refine (as_boolB h2 (hV2.out _)).mono ?_
  rintro e w3 ⟨rfl, hb2⟩
  replace d0 := kept_cell d0 hb2
  replace d1 := kept_cell d1 hb2
  replace d2 := kept_cell d2 hb2
  replace d3 := kept_cell d3 hb2
  replace c0 := kept_cell c0 hb2
  replace c1 := kept_cell c1 hb2
  replace c2 := kept_cell c2 hb2
  replace c3 := kept_cell c3 hb2
  replace hb := upw hb hb2
  clear hb2
  go_wp2_with fail
  refine (as_bool h3 (l03Half_c _ _)).mono ?_
  rintro e w' ⟨rfl, rfl⟩
  go_wp2_with fail
  refine (hC.out _).mono ?_
  rintro e w4 ⟨rfl, hb4⟩
  go_wp2_with fail
  go_ret2
  exact ⟨rfl, upw hb hb4⟩
end Go.Proofs.Ytlaclknhenccdaa
