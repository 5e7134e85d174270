/- FnSeamGrades: for all bytes the law returns true, and the bytes read behind the call as before. -/
import Derived.Test.YtlaclknhenccdaaL05c
import Derived.Test.YtlaclknhenccdaaL05d
import Derived.Test.YtlaclknhenccdaaF6
namespace Go.Proofs.Ytlaclknhenccdaa
open Go.ChangeShapes Go.WideShapes Go.ChangeAt Go.RowKit

theorem gen_take {α : Type} (f : Nat → α) (n k : Nat) (h : k ≤ n) : (gen n f).take k = gen k f := by
  apply List.ext_getElem
  · simp [gen_length]; omega
  · intro i h1 h2
    rw [List.getElem_take, gen_get, gen_get]
theorem shares_take {s : Int} {xs : List Int} (hs : 0 ≤ s ∧ s ≤ 1000000) (h : okLens xs = true) (k : Nat) (hk : k ≤ (shares s xs).length) : -9223372036854775808 ≤ sumI ((shares s xs).take k) ∧ sumI ((shares s xs).take k) ≤ 9223372036854775807 := by
  rw [shares_length] at hk
  unfold shares
  rw [gen_take _ _ _ hk, share_sum s h]
  have := till_bound hs h k
  omega
/-- What the law asks of a list of shares. -/
structure SumIs (zs : List Int) (s : Int) : Prop where
  part : ∀ k, k ≤ zs.length → -9223372036854775808 ≤ sumI (zs.take k) ∧ sumI (zs.take k) ≤ 9223372036854775807
  all : sumI zs = s
theorem gl_law {xs : List Int} {s : Int} (h : glCode xs s = 0) : SumIs (glRes xs s) s := by
  refine ⟨fun k hk => ?_, glRes_sum h⟩
  unfold glCode at h
  split at h
  · rename_i h1
    have e : glRes xs s = shares s xs := by unfold glRes; rw [if_pos h1]
    unfold glOk at h1
    rw [Bool.and_eq_true, inr_true] at h1
    rw [e] at hk ⊢
    exact shares_take (by omega) h1.1 k hk
  · cases h
theorem gs_law {xs ys : List Int} {s : Int} (h : gsCode xs ys s = 0) : SumIs (gsRes xs ys s xs) s ∧ SumIs (gsRes xs ys s ys) s := by
  obtain ⟨h5, h6⟩ := gsRes_sum h
  unfold gsCode at h
  split at h
  · rename_i h1
    split at h
    · rename_i h2
      have e : ∀ zs, gsRes xs ys s zs = shares s zs := fun zs => by unfold gsRes; rw [if_pos h1, if_pos h2]
      unfold gsOk at h1
      rw [Bool.and_eq_true, Bool.and_eq_true, inr_true] at h1
      refine ⟨⟨fun k hk => ?_, h5⟩, ⟨fun k hk => ?_, h6⟩⟩
      · rw [e] at hk ⊢; exact shares_take (by omega) h1.1.1 k hk
      · rw [e] at hk ⊢; exact shares_take (by omega) h1.1.2 k hk
    · cases h
  · cases h
/-- What the law asks of the errors. -/
structure ErrAt (num den x l : Int) (f : Frac) : Prop where
  small : -1000000 ≤ f.num ∧ f.num ≤ 1000000 ∧ -1000000 ≤ f.den ∧ f.den ≤ 1000000
  half : 2 * f.num ≤ f.den ∧ -f.den < 2 * f.num
  nums : (-100000000 ≤ l * den ∧ l * den ≤ 100000000) ∧ (-100000000 ≤ x * num ∧ x * num ≤ 100000000) ∧ -10000 ≤ l * den - x * num ∧ l * den - x * num ≤ 10000
  cross : (l * den - x * num) * f.den = f.num * den
theorem se_law {xs : List Int} {num den : Int} : (slRes xs num den).length = (seRes xs num den).length ∧ ∀ i, (h : i < (seRes xs num den).length) → ∃ h1 : i < xs.length, ∃ h2 : i < (slRes xs num den).length, (1 ≤ den ∧ den ≤ 1000) ∧ ErrAt num den xs[i] (slRes xs num den)[i] (seRes xs num den)[i] := by
  unfold slRes seRes
  by_cases h : okScale xs num den = true
  · rw [if_pos h, if_pos h]
    refine ⟨by simp, fun i hi => ?_⟩
    have hi' : i < xs.length := by simpa using hi
    obtain ⟨g1, g2, g3⟩ := okScale_iff.1 h
    have hx := (okLens_iff.1 g1).2 _ (List.getElem_mem hi')
    refine ⟨hi', by simpa using hi', g3, ?_⟩
    simp only [List.getElem_map]
    generalize xs[i] = x at *
    obtain ⟨e1, e2, e3⟩ := err_law (num := num) (x := x) g3.1
    obtain ⟨m1, m2, m3, m4⟩ := scaled_bound g2 g3 hx
    have q1 := tdiv_bound (errOf num den x) (gcdI (errOf num den x) den)
    have q2 := tdiv_bound den (gcdI (errOf num den x) den)
    have f1 : (errFrac num den x).num = (errOf num den x).tdiv (gcdI (errOf num den x) den) := rfl
    have f2 : (errFrac num den x).den = den.tdiv (gcdI (errOf num den x) den) := rfl
    rw [← f1] at q1
    rw [← f2] at q2
    unfold size at q1 q2
    have e : errOf num den x = scaledOne num den x * den - x * num := rfl
    exact ⟨by omega, by omega, by omega, e3⟩
  · rw [if_neg h, if_neg h]
    exact ⟨rfl, fun i hi => absurd hi (by simp)⟩
theorem At.frac {w : World} {b off : Nat} {xs : List Frac} (h : At w (some ⟨b, off, none⟩) xs) {i : Nat} (hi : i < xs.length) :
    w.cell? ⟨b, off + i * 2, none⟩ = some (.int .i64 xs[i].num) ∧ w.cell? ⟨b, off + i * 2 + 1, none⟩ = some (.int .i64 xs[i].den) := by
  obtain ⟨cs, hr, hc⟩ := h.elem hi
  have h0 := hc 0 (.int .i64 xs[i].num) (by rw [hr]; rfl)
  have h1 := hc 1 (.int .i64 xs[i].den) (by rw [hr]; rfl)
  exact ⟨by simpa [Rep.k, Flat.k] using h0, by simpa [Rep.k, Flat.k] using h1⟩
theorem own_sliceF {B : Nat} {w : World} {e : TypeId} {v : Value} {xs : List Frac} (h : Own B w e v xs) : ∃ a c, v = .slice a xs.length c := by
  rcases h.cases with ⟨hv, hL⟩ | ⟨g, cap, hv⟩
  · exact ⟨none, 0, by rw [hv, hL]; rfl⟩
  · exact ⟨_, cap, hv⟩
theorem mul_abs {a b A B : Int} (ha : -A ≤ a ∧ a ≤ A) (hb : -B ≤ b ∧ b ≤ B) : -(A * B) ≤ a * b ∧ a * b ≤ A * B := by
  have h : (a * b).natAbs ≤ A.toNat * B.toNat := by rw [Int.natAbs_mul]; exact Nat.mul_le_mul (by omega) (by omega)
  have e : ((A.toNat * B.toNat : Nat) : Int) = A * B := by rw [Int.natCast_mul, Int.toNat_of_nonneg (by omega), Int.toNat_of_nonneg (by omega)]
  omega
theorem frac_neq (a b : Int) (w : World) : (binOp .neq 39 (.agg #[.int .i64 a, .int .i64 b]) (.agg #[.int .i64 a, .int .i64 b])).run Try.prog w = .ok (.bool false) w := by
  simp [go_sem]
attribute [local go_sem ↓] frac_neq
set_option maxRecDepth 100000 in
set_option maxHeartbeats 8000000 in
theorem lawSeamGrades (ca : Option Addr) (L : List UInt8) (cc : Nat) (w : World) (hx : At w ca L) (hl : L.length ≤ 9223372036854775807) :
    Calls Try.prog 3 #[.slice ca L.length cc] w fun e w' => e = .returned (.bool true) ∧ Below w.heap.size w w' := by
  by_cases hbig : 4096 < L.length
  · go_enter Try.func3, Try.ntmps3
    go_wp2_with fail
    refine (as_bool (show decide (4096 < L.length) = true by simpa using hbig) (f6big_c ca L.length cc w)).mono ?_
    rintro e w' ⟨rfl, rfl⟩
    go_wp2_with fail
    go_ret
    exact ⟨rfl, Below.refl _ _⟩
  · have hb := Below.refl w.heap.size w
    go_enter Try.func3, Try.ntmps3
    go_wp2_with fail
    refine (as_bool (show decide (4096 < L.length) = false by simpa using hbig) (f6big_c ca L.length cc w)).mono ?_
    rintro e w' ⟨rfl, rfl⟩
    go_wp2_with fail
    refine (drawGradeSeam_c ca L cc _ (hx.below hb) hl).mono ?_
    rintro e w1 ⟨v1, v2, xA, xB, s, rfl, hO1, hA20, hO2, hB20, hs, hb1⟩
    obtain ⟨a1, c1, rfl⟩ := own_slice hO1
    have A1 := hO1.at'
    clear hO1
    obtain ⟨a2, c2, rfl⟩ := own_slice hO2
    have A2 := hO2.at'
    clear hO2
    replace hb := upw hb hb1
    go_wp2_with fail
    refine (implGradeSeam_c a1 a2 xA xB c1 c2 s _ A1 A2 (by omega) (by omega)).mono ?_
    rintro e w2 ⟨v3, v4, rfl, hO3, hO4, hb2⟩
    obtain ⟨a3, c3, rfl⟩ := own_slice hO3
    have X1 := hO3.at'
    clear hO3
    obtain ⟨a4, c4, rfl⟩ := own_slice hO4
    have Y1 := hO4.at'
    clear hO4
    replace A1 := A1.below hb2
    replace A2 := A2.below hb2
    replace hb := upw hb hb2
    go_wp2_with fail
    refine (specGradeSeam_c a1 a2 xA xB c1 c2 s _ A1 A2 (by omega) (by omega)).mono ?_
    rintro e w3 ⟨v5, v6, rfl, hO5, hO6, hb3⟩
    obtain ⟨a5, c5, rfl⟩ := own_slice hO5
    have X2 := hO5.at'
    clear hO5
    obtain ⟨a6, c6, rfl⟩ := own_slice hO6
    have Y2 := hO6.at'
    clear hO6
    replace X1 := X1.below hb3
    replace Y1 := Y1.below hb3
    clear A1 A2
    replace hb := upw hb hb3
    have hgs0 := fun h => gs_law (xs := xA) (ys := xB) (s := s) h
    obtain ⟨hX20, hY20⟩ := gsRes_len xA xB s
    generalize gsRes xA xB s xA = X at *
    generalize gsRes xA xB s xB = Y at *
    generalize gsCode xA xB s = gc at *
    have hgs := Lib.hid hgs0
    clear hgs0 hA20 hB20
    go_wp2_with fail
    refine (drawGradeLengths_c ca L cc _ (hx.below hb) hl).mono ?_
    rintro e w4 ⟨v7, xC, t, rfl, hO7, hC20, ht, hb4⟩
    obtain ⟨a7, c7, rfl⟩ := own_slice hO7
    have A7 := hO7.at'
    clear hO7
    replace X1 := X1.below hb4
    replace Y1 := Y1.below hb4
    replace X2 := X2.below hb4
    replace Y2 := Y2.below hb4
    replace hb := upw hb hb4
    go_wp2_with fail
    refine (implGradeLengths_c a7 xC c7 t _ A7 (by omega)).mono ?_
    rintro e w5 ⟨v8, rfl, hO8, hb5⟩
    obtain ⟨a8, c8, rfl⟩ := own_slice hO8
    have P1 := hO8.at'
    clear hO8
    replace X1 := X1.below hb5
    replace Y1 := Y1.below hb5
    replace X2 := X2.below hb5
    replace Y2 := Y2.below hb5
    replace A7 := A7.below hb5
    replace hb := upw hb hb5
    go_wp2_with fail
    refine (specGradeLengths_c a7 xC c7 t _ A7 (by omega)).mono ?_
    rintro e w6 ⟨v9, rfl, hO9, hb6⟩
    obtain ⟨a9, c9, rfl⟩ := own_slice hO9
    have P2 := hO9.at'
    clear hO9
    replace X1 := X1.below hb6
    replace Y1 := Y1.below hb6
    replace X2 := X2.below hb6
    replace Y2 := Y2.below hb6
    replace P1 := P1.below hb6
    clear A7
    replace hb := upw hb hb6
    have hgl0 := fun h => gl_law (xs := xC) (s := t) h
    have hP20 := glRes_len xC t
    generalize glRes xC t = P at *
    generalize glCode xC t = lc at *
    have hgl := Lib.hid hgl0
    clear hgl0 hC20
    go_wp2_with fail
    refine (drawScaleLengths_c ca L cc _ (hx.below hb) hl).mono ?_
    rintro e w7 ⟨v10, xD, num, den, rfl, hO10, hD20, hnum, hden, hb7⟩
    obtain ⟨a10, c10, rfl⟩ := own_slice hO10
    have A10 := hO10.at'
    clear hO10
    replace X1 := X1.below hb7
    replace Y1 := Y1.below hb7
    replace X2 := X2.below hb7
    replace Y2 := Y2.below hb7
    replace P1 := P1.below hb7
    replace P2 := P2.below hb7
    replace hb := upw hb hb7
    go_wp2_with fail
    refine (implScaleLengths_c a10 xD c10 num den _ A10 (by omega)).mono ?_
    rintro e w8 ⟨v11, rfl, hO11, hb8⟩
    obtain ⟨a11, c11, rfl⟩ := own_slice hO11
    have S1 := hO11.at'
    clear hO11
    replace X1 := X1.below hb8
    replace Y1 := Y1.below hb8
    replace X2 := X2.below hb8
    replace Y2 := Y2.below hb8
    replace P1 := P1.below hb8
    replace P2 := P2.below hb8
    replace A10 := A10.below hb8
    replace hb := upw hb hb8
    go_wp2_with fail
    refine (specScaleLengths_c a10 xD c10 num den _ A10 (by omega)).mono ?_
    rintro e w9 ⟨v12, rfl, hO12, hb9⟩
    obtain ⟨a12, c12, rfl⟩ := own_slice hO12
    have S2 := hO12.at'
    clear hO12
    replace X1 := X1.below hb9
    replace Y1 := Y1.below hb9
    replace X2 := X2.below hb9
    replace Y2 := Y2.below hb9
    replace P1 := P1.below hb9
    replace P2 := P2.below hb9
    replace A10 := A10.below hb9
    replace S1 := S1.below hb9
    replace hb := upw hb hb9
    go_wp2_with fail
    refine (implScaleErrors_c a10 xD c10 num den _ A10 (by omega)).mono ?_
    rintro e w13 ⟨v13, rfl, hO13, hb13⟩
    obtain ⟨a13, c13, rfl⟩ := own_sliceF hO13
    have E1 := hO13.at'
    clear hO13
    replace X1 := X1.below hb13
    replace Y1 := Y1.below hb13
    replace X2 := X2.below hb13
    replace Y2 := Y2.below hb13
    replace P1 := P1.below hb13
    replace P2 := P2.below hb13
    replace A10 := A10.below hb13
    replace S1 := S1.below hb13
    replace S2 := S2.below hb13
    replace hb := upw hb hb13
    go_wp2_with fail
    refine (specScaleErrors_c a10 xD c10 num den _ A10 (by omega)).mono ?_
    rintro e w14 ⟨v14, rfl, hO14, hb14⟩
    obtain ⟨a14, c14, rfl⟩ := own_sliceF hO14
    have E2 := hO14.at'
    clear hO14
    replace X1 := X1.below hb14
    replace Y1 := Y1.below hb14
    replace X2 := X2.below hb14
    replace Y2 := Y2.below hb14
    replace P1 := P1.below hb14
    replace P2 := P2.below hb14
    replace A10 := A10.below hb14
    replace S1 := S1.below hb14
    replace S2 := S2.below hb14
    replace E1 := E1.below hb14
    replace hb := upw hb hb14
    obtain ⟨hSE, hse0⟩ := se_law (xs := xD) (num := num) (den := den)
    obtain ⟨hS20, hE20⟩ := slRes_len xD num den
    have hse := Lib.hid hse0
    clear hse0
    generalize slRes xD num den = S at *
    generalize seRes xD num den = E at *
    generalize slCode xD num den = sc at *
    replace hSE := Lib.hid hSE
    go_wp2_with fail
    refine (f6ints_same a3 a5 X c3 c5 _ X1 X2 (by omega)).mono ?_
    rintro e w15 ⟨rfl, hb15⟩
    replace Y1 := Y1.below hb15
    replace X2 := X2.below hb15
    replace Y2 := Y2.below hb15
    replace P1 := P1.below hb15
    replace P2 := P2.below hb15
    replace A10 := A10.below hb15
    replace S1 := S1.below hb15
    replace S2 := S2.below hb15
    replace E1 := E1.below hb15
    replace E2 := E2.below hb15
    clear X1
    replace hb := upw hb hb15
    go_wp2_with fail
    refine (f6ints_same a4 a6 Y c4 c6 _ Y1 Y2 (by omega)).mono ?_
    rintro e w16 ⟨rfl, hb16⟩
    replace X2 := X2.below hb16
    replace Y2 := Y2.below hb16
    replace P1 := P1.below hb16
    replace P2 := P2.below hb16
    replace A10 := A10.below hb16
    replace S1 := S1.below hb16
    replace S2 := S2.below hb16
    replace E1 := E1.below hb16
    replace E2 := E2.below hb16
    clear Y1
    replace hb := upw hb hb16
    go_wp2_with fail
    refine (f6ints_same a8 a9 P c8 c9 _ P1 P2 (by omega)).mono ?_
    rintro e w17 ⟨rfl, hb17⟩
    replace X2 := X2.below hb17
    replace Y2 := Y2.below hb17
    replace P2 := P2.below hb17
    replace A10 := A10.below hb17
    replace S1 := S1.below hb17
    replace S2 := S2.below hb17
    replace E1 := E1.below hb17
    replace E2 := E2.below hb17
    clear P1
    replace hb := upw hb hb17
    go_wp2_with fail
    refine (f6ints_same a11 a12 S c11 c12 _ S1 S2 (by omega)).mono ?_
    rintro e w18 ⟨rfl, hb18⟩
    replace X2 := X2.below hb18
    replace Y2 := Y2.below hb18
    replace P2 := P2.below hb18
    replace A10 := A10.below hb18
    replace S2 := S2.below hb18
    replace E1 := E1.below hb18
    replace E2 := E2.below hb18
    clear S1
    replace hb := upw hb hb18
    go_wp2_with fail
    go_loopw [29] (fun i wr => ∃ k : Nat, k ≤ E.length ∧ i = .int .i64 k ∧ Below w18.heap.size w18 wr) (fun i _ => E.length - (intOf i).toNat)
    case atStart => exact ⟨0, Nat.zero_le _, rfl, Below.refl _ _⟩
    case round =>
      obtain ⟨k, hk, rfl, hB⟩ := hrel
      by_cases hlt : k < E.length
      · obtain ⟨h1, h2, hd, G⟩ := hse.out k hlt
        have F1 := E1.below hB
        have F2 := E2.below hB
        have F3 := S2.below hB
        have F4 := A10.below hB
        obtain ⟨b1, o1, q1⟩ := F1.addr hlt
        obtain ⟨b2, o2, q2⟩ := F2.addr hlt
        obtain ⟨b3, o3, q3⟩ := F3.addr h2
        obtain ⟨b4, o4, q4⟩ := F4.addr h1
        subst q1 q2 q3 q4
        obtain ⟨x0, x1⟩ := F1.frac hlt
        obtain ⟨y0, y1⟩ := F2.frac hlt
        have z0 := F3.int h2
        have z1 := F4.int h1
        clear F1 F2 F3 F4
        obtain ⟨⟨s1, s2, s3, s4⟩, ⟨g1, g2⟩, ⟨⟨n1, n2⟩, ⟨n3, n4⟩, n5, n6⟩, g3⟩ := G
        generalize E[k].num = fn at *
        generalize E[k].den = fd at *
        generalize S[k] = sl at *
        generalize xD[k] = xk at *
        have g4 : -10000000000 ≤ (sl * den - xk * num) * fd ∧ (sl * den - xk * num) * fd ≤ 10000000000 := by
          have := mul_abs (show -10000 ≤ sl * den - xk * num ∧ sl * den - xk * num ≤ 10000 from ⟨n5, n6⟩) (show -1000000 ≤ fd ∧ fd ≤ 1000000 by omega)
          omega
        have g5 : -10000000000 ≤ fn * den ∧ fn * den ≤ 10000000000 := by omega
        have g6 : (((sl * den - xk * num) * fd) != fn * den) = false := by simpa using g3
        have g7 : decide (fd < 2 * fn) = false := by simpa using g1
        have g8 : decide (fd ≤ -2 * fn) = false := by simp only [decide_eq_false_iff_not]; omega
        have r1 : IntKind.i64.wrap (2 * fn) = 2 * fn := IntWalk.i64_in _ (by omega)
        have r2 : IntKind.i64.wrap (-2 * fn) = -2 * fn := IntWalk.i64_in _ (by omega)
        have r3 : IntKind.i64.wrap (sl * den) = sl * den := IntWalk.i64_in _ (by omega)
        have r4 : IntKind.i64.wrap (xk * num) = xk * num := IntWalk.i64_in _ (by omega)
        have r5 : IntKind.i64.wrap (sl * den - xk * num) = sl * den - xk * num := IntWalk.i64_in _ (by omega)
        have r6 : IntKind.i64.wrap ((sl * den - xk * num) * fd) = (sl * den - xk * num) * fd := IntWalk.i64_in _ (by omega)
        have r7 : IntKind.i64.wrap (fn * den) = fn * den := IntWalk.i64_in _ (by omega)
        clear g1 g2 g3 g4 g5 n1 n2 n3 n4 n5 n6 s1 s2 s3 s4 hd
        replace x0 := rg x0
        replace x1 := rg x1
        replace y0 := rg y0
        replace y1 := rg y1
        replace z0 := rg z0
        replace z1 := rg z1
        go_wp2_with fail
        refine wp_region_quiet_below (by kernel_rfl) (by kernel_rfl) ?_
        dsimp only [List.append]
        repeat (go_big_quiet_step (fail))
        refine wpQuiet_nil ?_
        intro wq hw'
        have hB2 := upw hB (grown_of hw')
        clear hw' r1 r2 r3 r4 r5 r6 r7
        go_wp2_with fail
        go_roundw
        case rel => exact ⟨k + 1, by omega, by go_num, hB2⟩
        case measure => first | (simp [intOf]; done) | (simp [intOf]; omega)
      · replace X2 := X2.below hB
        replace Y2 := Y2.below hB
        replace P2 := P2.below hB
        replace hb := upw hb hB
        clear hB E1 E2 S2 A10
        obtain ⟨wo, hwo⟩ : ∃ wo : World, wo = wr := ⟨_, rfl⟩
        subst hwo
        by_cases hlc : lc = 0
        · have G := hgl.out hlc
          have hlb : (lc == 0) = true := by simpa using hlc
          have hPs := Lib.hid G.part
          have hPa := Lib.hid G.all
          clear G hlc
          go_wp2_with fail
          refine (f6sum_c a9 P c9 _ P2 (by omega) hPs.out).mono ?_
          rintro e w20 ⟨rfl, hb20⟩
          replace X2 := X2.below hb20
          replace Y2 := Y2.below hb20
          replace hb := upw hb hb20
          have hPt : (sumI P != t) = false := by rw [hPa.out]; simp
          generalize sumI P = SP at *
          clear hPs hPa
          by_cases hgc : gc = 0
          · obtain ⟨G1, G2⟩ := hgs.out hgc
            have hgb : (gc != 0) = false := by simpa using hgc
            have hXs := Lib.hid G1.part
            have hXa := Lib.hid G1.all
            have hYs := Lib.hid G2.part
            have hYa := Lib.hid G2.all
            clear G1 G2 hgc
            go_wp2_with fail
            refine (f6sum_c a5 X c5 _ X2 (by omega) hXs.out).mono ?_
            rintro e w21 ⟨rfl, hb21⟩
            replace Y2 := Y2.below hb21
            replace hb := upw hb hb21
            have hXt : (sumI X == s) = true := by rw [hXa.out]; simp
            generalize sumI X = SX at *
            clear hXs hXa
            go_wp2_with fail
            refine (f6sum_c a6 Y c6 _ Y2 (by omega) hYs.out).mono ?_
            rintro e w22 ⟨rfl, hb22⟩
            replace hb := upw hb hb22
            have hYt : (sumI Y == s) = true := by rw [hYa.out]; simp
            generalize sumI Y = SY at *
            clear hYs hYa
            go_wp2_with fail
            go_ret
            exact ⟨rfl, hb⟩
          · have hgb : (gc != 0) = true := by simpa using hgc
            replace hgc := Lib.hid hgc
            go_wp2_with fail
            go_ret
            exact ⟨rfl, hb⟩
        · have hlb : (lc == 0) = false := by simpa using hlc
          replace hlc := Lib.hid hlc
          by_cases hgc : gc = 0
          · obtain ⟨G1, G2⟩ := hgs.out hgc
            have hgb : (gc != 0) = false := by simpa using hgc
            have hXs := Lib.hid G1.part
            have hXa := Lib.hid G1.all
            have hYs := Lib.hid G2.part
            have hYa := Lib.hid G2.all
            clear G1 G2 hgc
            go_wp2_with fail
            refine (f6sum_c a5 X c5 _ X2 (by omega) hXs.out).mono ?_
            rintro e w21 ⟨rfl, hb21⟩
            replace Y2 := Y2.below hb21
            replace hb := upw hb hb21
            have hXt : (sumI X == s) = true := by rw [hXa.out]; simp
            generalize sumI X = SX at *
            clear hXs hXa
            go_wp2_with fail
            refine (f6sum_c a6 Y c6 _ Y2 (by omega) hYs.out).mono ?_
            rintro e w22 ⟨rfl, hb22⟩
            replace hb := upw hb hb22
            have hYt : (sumI Y == s) = true := by rw [hYa.out]; simp
            generalize sumI Y = SY at *
            clear hYs hYa
            go_wp2_with fail
            go_ret
            exact ⟨rfl, hb⟩
          · have hgb : (gc != 0) = true := by simpa using hgc
            replace hgc := Lib.hid hgc
            go_wp2_with fail
            go_ret
            exact ⟨rfl, hb⟩
end Go.Proofs.Ytlaclknhenccdaa
