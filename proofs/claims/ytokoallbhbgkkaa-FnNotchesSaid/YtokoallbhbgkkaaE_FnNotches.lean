/- FnNotches: for all bytes the law returns true, and they read behind the call as before. -/
import Derived.Test.YtokoallbhbgkkaaNotchMath
namespace Go.Proofs.Ytokoallbhbgkkaa
open Go.ChangeShapes Go.WideShapes Go.ChangeAt Go.RowKit

set_option maxRecDepth 100000 in
set_option maxHeartbeats 16000000 in
theorem lawNotches (ca : Option Addr) (L : List UInt8) (cc : Nat) (w : World) (hx : At w ca L) (hl : L.length ≤ 9223372036854775807) :
    Calls Try.prog 9 #[.slice ca L.length cc] w fun e w' => e = .returned (.bool true) ∧ Below w.heap.size w w' := by
  by_cases hbig : 4096 < L.length
  · go_enter Try.func9, Try.ntmps9
    go_wp2_with fail
    refine (as_bool (show decide (4096 < L.length) = true by simpa using hbig) (f6big_c ca L.length cc w)).mono ?_
    rintro e w' ⟨rfl, rfl⟩
    go_wp2_with fail
    go_ret
    exact ⟨rfl, Below.refl _ _⟩
  · go_enter Try.func9, Try.ntmps9
    go_wp2_with fail
    refine (as_bool (show decide (4096 < L.length) = false by simpa using hbig) (f6big_c ca L.length cc w)).mono ?_
    rintro e w' ⟨rfl, rfl⟩
    go_wp2_with fail
    refine (drawEaseOf_c ca L cc _ hx hl).mono ?_
    rintro e w1 ⟨x, y, v1, S, rfl, hxr, hyr, hO1, hSl, hb⟩
    obtain ⟨a1, c1, rfl⟩ := own_slice hO1
    have A1 := hO1.at'
    clear hO1
    go_wp2_with fail
    refine (implEaseOf_c x y a1 S c1 _ (by omega) (by omega) A1 (by omega)).mono ?_
    rintro e w2 ⟨v2, rfl, hO2, hb2⟩
    obtain ⟨a2, c2, rfl⟩ := own_slice hO2
    have I1 := hO2.at'
    replace A1 := A1.below hb2
    replace hb := upw hb hb2
    clear hO2
    go_wp2_with fail
    refine (specEaseOf_c x y a1 S c1 _ (by omega) (by omega) A1 (by omega)).mono ?_
    rintro e w3 ⟨v3, rfl, hO3, hb3⟩
    obtain ⟨a3, c3, rfl⟩ := own_slice hO3
    have I2 := hO3.at'
    replace I1 := I1.below hb3
    replace hb := upw hb hb3
    clear hO3 A1
    have hEl := EaseOf_len x y S
    have hcode : Hid ((easeOk x y S = true → easeCode x y S = 0) ∧ (easeOk x y S = false → easeCode x y S = 2)) := Lib.hid ⟨fun h => by simp [easeCode, h], fun h => by simp [easeCode, h]⟩
    obtain ⟨E, hEq⟩ : ∃ E, E = ease x y S := ⟨_, rfl⟩
    rw [← hEq] at I1 I2 hEl ⊢
    replace hEq := Lib.hid hEq
    obtain ⟨ec, hec⟩ : ∃ ec, ec = easeCode x y S := ⟨_, rfl⟩
    rw [← hec] at hcode ⊢
    replace hec := Lib.hid hec
    go_wp2_with fail
    refine (drawNotchesOf_c ca L cc _ (hx.below hb) hl).mono ?_
    rintro e w4 ⟨n, v4, T, rfl, hnr, hO4, hTl, hb4⟩
    obtain ⟨a4, c4, rfl⟩ := own_slice hO4
    have A4 := hO4.at'
    replace I1 := I1.below hb4
    replace I2 := I2.below hb4
    replace hb := upw hb hb4
    clear hO4
    go_wp2_with fail
    refine (implNotchesOf_c n a4 T c4 _ (by omega) A4 (by omega)).mono ?_
    rintro e w5 ⟨v5, rfl, hO5, hb5⟩
    obtain ⟨a5, c5, rfl⟩ := own_slice hO5
    have M1 := hO5.at'
    replace A4 := A4.below hb5
    replace I1 := I1.below hb5
    replace I2 := I2.below hb5
    replace hb := upw hb hb5
    clear hO5
    go_wp2_with fail
    refine (specNotchesOf_c n a4 T c4 _ (by omega) A4 (by omega)).mono ?_
    rintro e w6 ⟨v6, rfl, hO6, hb6⟩
    obtain ⟨a6, c6, rfl⟩ := own_slice hO6
    have M2 := hO6.at'
    replace M1 := M1.below hb6
    replace I1 := I1.below hb6
    replace I2 := I2.below hb6
    replace hb := upw hb hb6
    clear hO6 A4
    have hNl := notches_len n T
    have hnot : Hid ((notchOk n T = true → notchCode n T = 0) ∧ (notchOk n T = false → notchCode n T = 2)) := Lib.hid ⟨fun h => by simp [notchCode, h], fun h => by simp [notchCode, h]⟩
    have hrise0 : ∀ R, R = notches n T → notchOk n T = true → ((∀ i (hi : i < R.length), 0 ≤ R[i] ∧ R[i] ≤ n) ∧ (∀ i (hi : i + 1 < R.length), R[i] ≤ R[i + 1])) ∧ R.length ≤ 10 ∧ (1 ≤ n ∧ n ≤ 5000) := by
      rintro R rfl h; exact ⟨notches_rise h, notches_len' h⟩
    obtain ⟨R, hR⟩ : ∃ R, R = notches n T := ⟨_, rfl⟩
    have hrise := Lib.hid (hrise0 R hR)
    rw [← hR] at M1 M2 hNl ⊢
    clear hrise0 hR
    obtain ⟨nc, hnc⟩ : ∃ nc, nc = notchCode n T := ⟨_, rfl⟩
    rw [← hnc] at hnot ⊢
    clear hnc
    go_wp2_with fail
    refine (drawNotchFault_c ca L cc _ (hx.below hb) hl).mono ?_
    rintro e w7 ⟨p, q, a7, c7, P, a8, Q, c8, m, rfl, hpr, hqr, A7, A8, hPl, hQl, hmr, hb7⟩
    replace M1 := M1.below hb7
    replace M2 := M2.below hb7
    replace I1 := I1.below hb7
    replace I2 := I2.below hb7
    replace hb := upw hb hb7
    go_wp2_with fail
    refine (implNotchFault_c p q a7 P c7 a8 Q c8 m _ (by omega) (by omega) A7 (by omega) A8 (by omega) (by omega)).mono ?_
    rintro e w8 ⟨rfl, hb8⟩
    replace A7 := A7.below hb8
    replace A8 := A8.below hb8
    replace M1 := M1.below hb8
    replace M2 := M2.below hb8
    replace I1 := I1.below hb8
    replace I2 := I2.below hb8
    replace hb := upw hb hb8
    go_wp2_with fail
    refine (specNotchFault_c p q a7 P c7 a8 Q c8 m _ (by omega) (by omega) A7 (by omega) A8 (by omega) (by omega)).mono ?_
    rintro e w9 ⟨rfl, hb9⟩
    replace M1 := M1.below hb9
    replace M2 := M2.below hb9
    replace I1 := I1.below hb9
    replace I2 := I2.below hb9
    replace hb := upw hb hb9
    clear A7 A8
    generalize (nfRes p q P Q m).1 = f1 at *
    generalize (nfRes p q P Q m).2 = f2 at *
    go_wp2_with fail
    refine (drawFoldLength_c ca L cc _ (hx.below hb) hl).mono ?_
    rintro e w10 ⟨z, v10, F, tk, rfl, hzr, htr, hO10, hFl, hb10⟩
    obtain ⟨a10, c10, rfl⟩ := own_slice hO10
    have A10 := hO10.at'
    replace M1 := M1.below hb10
    replace M2 := M2.below hb10
    replace I1 := I1.below hb10
    replace I2 := I2.below hb10
    replace hb := upw hb hb10
    clear hO10
    go_wp2_with fail
    refine (implFoldLength_c z a10 F c10 tk _ (by omega) A10 (by omega) (by omega)).mono ?_
    rintro e w11 ⟨rfl, hb11⟩
    replace A10 := A10.below hb11
    replace M1 := M1.below hb11
    replace M2 := M2.below hb11
    replace I1 := I1.below hb11
    replace I2 := I2.below hb11
    replace hb := upw hb hb11
    go_wp2_with fail
    refine (specFoldLength_c z a10 F c10 tk _ (by omega) A10 (by omega) (by omega)).mono ?_
    rintro e w12 ⟨rfl, hb12⟩
    replace M1 := M1.below hb12
    replace M2 := M2.below hb12
    replace I1 := I1.below hb12
    replace I2 := I2.below hb12
    replace hb := upw hb hb12
    clear A10
    have hshort := @fold_short z F tk
    generalize (foldRes z F tk).1 = s1 at *
    generalize (foldRes z F tk).2 = s2 at *
    replace hshort := Lib.hid hshort
    go_wp2_with fail
    refine (f6ints_same a2 a3 E c2 c3 _ I1 I2 (by omega)).mono ?_
    rintro e w13 ⟨rfl, hb13⟩
    replace M1 := M1.below hb13
    replace M2 := M2.below hb13
    replace I2 := I2.below hb13
    replace hb := upw hb hb13
    clear I1
    go_wp2_with fail
    refine (f6ints_same a5 a6 R c5 c6 _ M1 M2 (by omega)).mono ?_
    rintro e w14 ⟨rfl, hb14⟩
    replace M2 := M2.below hb14
    replace I2 := I2.below hb14
    replace hb := upw hb hb14
    clear M1
    have hfold : (s2 == 0) = true → (¬ z < s1 ∧ (F.length = 0 → s1 = z)) := fun h => by
      have := hshort.out (by simpa using h)
      exact ⟨by omega, fun e => this.2 (List.eq_nil_of_length_eq_zero e)⟩
    by_cases hs2 : s2 = 0
    · have hs2' : (s2 == 0) = true := by simpa using hs2
      obtain ⟨g1, g2⟩ := hfold hs2'
      clear hshort hfold
      by_cases hF : F.length = 0
      · have hs1 : s1 = z := g2 hF
        subst hs1
        have hF' : ((F.length : Int) == 0) = true := by simpa using hF
        clear g2
        cases hn : notchOk n T
        · have hc0 := hnot.out.2 hn
          have hc1 : (nc == 0) = false := by rw [hc0]; rfl
          replace hn := Lib.hid hn
          replace hc0 := Lib.hid hc0
          clear M2
          cases he : easeOk x y S
          · have hc := hcode.out.2 he
            replace he := Lib.hid he
            have hc2 : (ec != 0) = true := by rw [hc]; rfl
            go_wp2_with fail
            go_ret
            exact ⟨rfl, hb⟩
          · have hc := hcode.out.1 he
            have hc2 : (ec != 0) = false := by rw [hc]; rfl
            have hes := ease_sum he
            rw [← hEq.out] at hes
            obtain ⟨e1, e2, e3⟩ := hes
            replace e1 := Lib.hid e1
            replace he := Lib.hid he
            replace hc := Lib.hid hc
            have e3' : ((E.length : Int) == (S.length : Int) + 1) = true := by simp; omega
            replace e2 := Lib.hid e2
            have hE9 : E.length ≤ 9223372036854775807 := by omega
            replace e3 := Lib.hid e3
            replace e3' := Lib.hid e3'
            go_wp2_with fail
            refine (f6sum_c _ E _ _ I2 hE9 e1.out).mono ?_
            rintro e wz ⟨rfl, hbz⟩
            replace hb := upw hb hbz
            generalize sumI E = SE at *
            replace e3' := e3'.out
            go_wp2_with fail
            all_goals first
              | (exfalso; have := e2.out; omega)
              | (go_ret; exact ⟨rfl, hb⟩)
        · have hc0 := hnot.out.1 hn
          have hc1 : (nc == 0) = true := by rw [hc0]; rfl
          obtain ⟨⟨r0, r1⟩, r2, r3⟩ := hrise.out hn
          replace hn := Lib.hid hn
          replace hc0 := Lib.hid hc0
          replace r0 := Lib.hid r0
          replace r1 := Lib.hid r1
          go_wp2_with fail
          go_loopw [32] (fun i wr => ∃ k : Nat, k ≤ R.length ∧ i = .int .i64 k ∧ Below w14.heap.size w14 wr) (fun i _ => R.length - (intOf i).toNat)
          case atStart => exact ⟨0, Nat.zero_le _, rfl, Below.refl _ _⟩
          case round =>
            obtain ⟨k, hk, rfl, hB⟩ := hrel
            by_cases hlt : k < R.length
            · have hM := M2.below hB
              obtain ⟨bq, oq, hq⟩ := hM.addr hlt
              subst hq
              have d0 := hM.int hlt
              have q0 := r0.out k hlt
              clear hM
              by_cases hk0 : 0 < k
              · have hk1 : k - 1 < R.length := by omega
                have d1 := (M2.below hB).int hk1
                have q1 := r1.out (k - 1) (by omega)
                have ek : k - 1 + 1 = k := by omega
                simp only [ek] at q1
                have hkI : (k : Int) - 1 = ((k - 1 : Nat) : Int) := by omega
                have hkp : 0 < (k : Int) := by omega
                generalize R[k] = X at *
                generalize R[k - 1] = Y at *
                have s0' : ¬ X < 0 := by omega
                have s1' : ¬ n < X := by omega
                have s2' : ¬ X < Y := by omega
                have s0d : decide (X < 0) = false := by simpa using s0'
                have s1d : decide (n < X) = false := by simpa using s1'
                have s2d : decide (X < Y) = false := by simpa using s2'
                have hkd : decide (0 < (k : Int)) = true := by simpa using hkp
                clear q0 q1 ek s0' s1' s2' hkp
                replace d0 := rg d0
                replace d1 := rg d1
                go_wp2_with fail
                refine wp_region_quiet_below (by kernel_rfl) (by kernel_rfl) ?_
                repeat (go_big_quiet_step (fail))
                refine wpQuiet_nil ?_
                intro w2 hw'
                have hB2 := upw hB (grown_of hw')
                clear hw'
                go_wp2_with fail
                go_roundw
                case rel => exact ⟨k + 1, by omega, by go_num, hB2⟩
                case measure => simp [intOf]; omega
              · obtain rfl : k = 0 := by omega
                generalize R[0] = X at *
                have s0' : ¬ X < 0 := by omega
                have s1' : ¬ n < X := by omega
                have s0d : decide (X < 0) = false := by simpa using s0'
                have s1d : decide (n < X) = false := by simpa using s1'
                clear q0 s0' s1'
                rw [Nat.add_zero] at d0
                replace d0 := rg d0
                go_wp2_with fail
                refine wp_region_quiet_below (by kernel_rfl) (by kernel_rfl) ?_
                repeat (go_big_quiet_step (fail))
                refine wpQuiet_nil ?_
                intro w2 hw'
                have hB2 := upw hB (grown_of hw')
                clear hw'
                go_wp2_with fail
                go_roundw
                case rel => exact ⟨1, by omega, by go_num, hB2⟩
                case measure => simp [intOf]; omega
            · obtain rfl : k = R.length := by omega
              replace M2 := M2.below hB
              replace I2 := I2.below hB
              replace hb := upw hb hB
              clear hB hlt hk
              obtain ⟨wo, hwo⟩ : ∃ wo : World, wo = wr := ⟨_, rfl⟩
              subst hwo
              go_wp2_with fail
              go_loopw [33] (fun i wx' => ∃ k : Nat, 1 ≤ k ∧ (k ≤ R.length ∨ k = 1) ∧ i = .int .i64 k ∧ Hid (∀ i (hi : i + 1 < R.length), i + 1 < k → R[i] < R[i + 1]) ∧ Below wo.heap.size wo wx') (fun i _ => R.length - (intOf i).toNat)
              case atStart => exact ⟨1, Nat.le_refl _, Or.inr rfl, rfl, Lib.hid (fun i _ h => by omega), Below.refl _ _⟩
              case round =>
                obtain ⟨k, hk, hk2, rfl, hS, hB⟩ := hrel
                by_cases hlt : k < R.length
                · have hM := M2.below hB
                  obtain ⟨bq, oq, hq⟩ := hM.addr hlt
                  subst hq
                  have d0 := hM.int hlt
                  clear hM
                  have hk1 : k - 1 < R.length := by omega
                  have d1 := (M2.below hB).int hk1
                  have q1 := r1.out (k - 1) (by omega)
                  have ek : k - 1 + 1 = k := by omega
                  simp only [ek] at q1
                  have hkI : (k : Int) - 1 = ((k - 1 : Nat) : Int) := by omega
                  have hS2 : ¬ R[k] = R[k - 1] → Hid (∀ i (hi : i + 1 < R.length), i + 1 < k + 1 → R[i] < R[i + 1]) := fun hne => Lib.hid (fun i hi h => by
                    rcases Nat.lt_succ_iff_lt_or_eq.1 h with h | h
                    · exact hS.out i hi h
                    · have e : i = k - 1 := by omega
                      subst e
                      simp only [ek]
                      omega)
                  replace hS2 := Lib.hid hS2
                  replace q1 := Lib.hid q1
                  have hS3 := hS2.out
                  generalize R[k] = X at d0 hS3
                  generalize R[k - 1] = Y at d1 hS3
                  replace d0 := rg d0
                  replace d1 := rg d1
                  by_cases hXY : X = Y
                  · subst hXY
                    go_wp2_with fail
                    refine wp_region_quiet_below (by kernel_rfl) (by kernel_rfl) ?_
                    repeat (go_big_quiet_step (fail))
                    refine wpQuiet_nil ?_
                    intro w2 hw'
                    have hB2 := upw hB (grown_of hw')
                    clear hw'
                    go_wp2_with fail
                    go_ret
                    exact ⟨rfl, upw hb hB2⟩
                  · have hne : (X == Y) = false := by simpa using hXY
                    replace hS3 := hS3 hXY
                    go_wp2_with fail
                    refine wp_region_quiet_below (by kernel_rfl) (by kernel_rfl) ?_
                    repeat (go_big_quiet_step (fail))
                    refine wpQuiet_nil ?_
                    intro w2 hw'
                    have hB2 := upw hB (grown_of hw')
                    clear hw'
                    go_wp2_with fail
                    go_roundw
                    case rel => exact ⟨k + 1, by omega, Or.inl (by omega), by go_num, hS3, hB2⟩
                    case measure => simp [intOf]; omega
                · have hmeet := Lib.hid (notches_meet (n := n) r2 r3 r0.out (fun i hi => hS.out i hi (by omega)))
                  have M3 := M2.below hB
                  replace I2 := I2.below hB
                  replace hb := upw hb hB
                  have C := implNotchFault_c n n a6 R c6 a6 R c6 0 wr (by omega) (by omega) M3 (by omega) M3 (by omega) (by omega)
                  rw [hmeet.out] at C
                  replace C := Lib.hid C
                  clear hB M2 M3
                  go_wp2_with fail
                  refine C.out.mono ?_
                  rintro e wy ⟨rfl, hby⟩
                  replace I2 := I2.below hby
                  replace hb := upw hb hby
                  cases he : easeOk x y S
                  · have hc := hcode.out.2 he
                    replace he := Lib.hid he
                    have hc2 : (ec != 0) = true := by rw [hc]; rfl
                    go_wp2_with fail
                    go_ret
                    exact ⟨rfl, hb⟩
                  · have hc := hcode.out.1 he
                    have hc2 : (ec != 0) = false := by rw [hc]; rfl
                    have hes := ease_sum he
                    rw [← hEq.out] at hes
                    obtain ⟨e1, e2, e3⟩ := hes
                    replace e1 := Lib.hid e1
                    replace he := Lib.hid he
                    replace hc := Lib.hid hc
                    have e3' : ((E.length : Int) == (S.length : Int) + 1) = true := by simp; omega
                    replace e2 := Lib.hid e2
                    have hE9 : E.length ≤ 9223372036854775807 := by omega
                    replace e3 := Lib.hid e3
                    replace e3' := Lib.hid e3'
                    go_wp2_with fail
                    refine (f6sum_c _ E _ _ I2 hE9 e1.out).mono ?_
                    rintro e wz ⟨rfl, hbz⟩
                    replace hb := upw hb hbz
                    generalize sumI E = SE at *
                    replace e3' := e3'.out
                    go_wp2_with fail
                    all_goals first
                      | (exfalso; have := e2.out; omega)
                      | (go_ret; exact ⟨rfl, hb⟩)
      · have hF' : ((F.length : Int) == 0) = false := by simpa using hF
        replace g2 := Lib.hid g2
        cases hn : notchOk n T
        · have hc0 := hnot.out.2 hn
          have hc1 : (nc == 0) = false := by rw [hc0]; rfl
          replace hn := Lib.hid hn
          replace hc0 := Lib.hid hc0
          clear M2
          cases he : easeOk x y S
          · have hc := hcode.out.2 he
            replace he := Lib.hid he
            have hc2 : (ec != 0) = true := by rw [hc]; rfl
            go_wp2_with fail
            go_ret
            exact ⟨rfl, hb⟩
          · have hc := hcode.out.1 he
            have hc2 : (ec != 0) = false := by rw [hc]; rfl
            have hes := ease_sum he
            rw [← hEq.out] at hes
            obtain ⟨e1, e2, e3⟩ := hes
            replace e1 := Lib.hid e1
            replace he := Lib.hid he
            replace hc := Lib.hid hc
            have e3' : ((E.length : Int) == (S.length : Int) + 1) = true := by simp; omega
            replace e2 := Lib.hid e2
            have hE9 : E.length ≤ 9223372036854775807 := by omega
            replace e3 := Lib.hid e3
            replace e3' := Lib.hid e3'
            go_wp2_with fail
            refine (f6sum_c _ E _ _ I2 hE9 e1.out).mono ?_
            rintro e wz ⟨rfl, hbz⟩
            replace hb := upw hb hbz
            generalize sumI E = SE at *
            replace e3' := e3'.out
            go_wp2_with fail
            all_goals first
              | (exfalso; have := e2.out; omega)
              | (go_ret; exact ⟨rfl, hb⟩)
        · have hc0 := hnot.out.1 hn
          have hc1 : (nc == 0) = true := by rw [hc0]; rfl
          obtain ⟨⟨r0, r1⟩, r2, r3⟩ := hrise.out hn
          replace hn := Lib.hid hn
          replace hc0 := Lib.hid hc0
          replace r0 := Lib.hid r0
          replace r1 := Lib.hid r1
          go_wp2_with fail
          go_loopw [32] (fun i wr => ∃ k : Nat, k ≤ R.length ∧ i = .int .i64 k ∧ Below w14.heap.size w14 wr) (fun i _ => R.length - (intOf i).toNat)
          case atStart => exact ⟨0, Nat.zero_le _, rfl, Below.refl _ _⟩
          case round =>
            obtain ⟨k, hk, rfl, hB⟩ := hrel
            by_cases hlt : k < R.length
            · have hM := M2.below hB
              obtain ⟨bq, oq, hq⟩ := hM.addr hlt
              subst hq
              have d0 := hM.int hlt
              have q0 := r0.out k hlt
              clear hM
              by_cases hk0 : 0 < k
              · have hk1 : k - 1 < R.length := by omega
                have d1 := (M2.below hB).int hk1
                have q1 := r1.out (k - 1) (by omega)
                have ek : k - 1 + 1 = k := by omega
                simp only [ek] at q1
                have hkI : (k : Int) - 1 = ((k - 1 : Nat) : Int) := by omega
                have hkp : 0 < (k : Int) := by omega
                generalize R[k] = X at *
                generalize R[k - 1] = Y at *
                have s0' : ¬ X < 0 := by omega
                have s1' : ¬ n < X := by omega
                have s2' : ¬ X < Y := by omega
                have s0d : decide (X < 0) = false := by simpa using s0'
                have s1d : decide (n < X) = false := by simpa using s1'
                have s2d : decide (X < Y) = false := by simpa using s2'
                have hkd : decide (0 < (k : Int)) = true := by simpa using hkp
                clear q0 q1 ek s0' s1' s2' hkp
                replace d0 := rg d0
                replace d1 := rg d1
                go_wp2_with fail
                refine wp_region_quiet_below (by kernel_rfl) (by kernel_rfl) ?_
                repeat (go_big_quiet_step (fail))
                refine wpQuiet_nil ?_
                intro w2 hw'
                have hB2 := upw hB (grown_of hw')
                clear hw'
                go_wp2_with fail
                go_roundw
                case rel => exact ⟨k + 1, by omega, by go_num, hB2⟩
                case measure => simp [intOf]; omega
              · obtain rfl : k = 0 := by omega
                generalize R[0] = X at *
                have s0' : ¬ X < 0 := by omega
                have s1' : ¬ n < X := by omega
                have s0d : decide (X < 0) = false := by simpa using s0'
                have s1d : decide (n < X) = false := by simpa using s1'
                clear q0 s0' s1'
                rw [Nat.add_zero] at d0
                replace d0 := rg d0
                go_wp2_with fail
                refine wp_region_quiet_below (by kernel_rfl) (by kernel_rfl) ?_
                repeat (go_big_quiet_step (fail))
                refine wpQuiet_nil ?_
                intro w2 hw'
                have hB2 := upw hB (grown_of hw')
                clear hw'
                go_wp2_with fail
                go_roundw
                case rel => exact ⟨1, by omega, by go_num, hB2⟩
                case measure => simp [intOf]; omega
            · obtain rfl : k = R.length := by omega
              replace M2 := M2.below hB
              replace I2 := I2.below hB
              replace hb := upw hb hB
              clear hB hlt hk
              obtain ⟨wo, hwo⟩ : ∃ wo : World, wo = wr := ⟨_, rfl⟩
              subst hwo
              go_wp2_with fail
              go_loopw [33] (fun i wx' => ∃ k : Nat, 1 ≤ k ∧ (k ≤ R.length ∨ k = 1) ∧ i = .int .i64 k ∧ Hid (∀ i (hi : i + 1 < R.length), i + 1 < k → R[i] < R[i + 1]) ∧ Below wo.heap.size wo wx') (fun i _ => R.length - (intOf i).toNat)
              case atStart => exact ⟨1, Nat.le_refl _, Or.inr rfl, rfl, Lib.hid (fun i _ h => by omega), Below.refl _ _⟩
              case round =>
                obtain ⟨k, hk, hk2, rfl, hS, hB⟩ := hrel
                by_cases hlt : k < R.length
                · have hM := M2.below hB
                  obtain ⟨bq, oq, hq⟩ := hM.addr hlt
                  subst hq
                  have d0 := hM.int hlt
                  clear hM
                  have hk1 : k - 1 < R.length := by omega
                  have d1 := (M2.below hB).int hk1
                  have q1 := r1.out (k - 1) (by omega)
                  have ek : k - 1 + 1 = k := by omega
                  simp only [ek] at q1
                  have hkI : (k : Int) - 1 = ((k - 1 : Nat) : Int) := by omega
                  have hS2 : ¬ R[k] = R[k - 1] → Hid (∀ i (hi : i + 1 < R.length), i + 1 < k + 1 → R[i] < R[i + 1]) := fun hne => Lib.hid (fun i hi h => by
                    rcases Nat.lt_succ_iff_lt_or_eq.1 h with h | h
                    · exact hS.out i hi h
                    · have e : i = k - 1 := by omega
                      subst e
                      simp only [ek]
                      omega)
                  replace hS2 := Lib.hid hS2
                  replace q1 := Lib.hid q1
                  have hS3 := hS2.out
                  generalize R[k] = X at d0 hS3
                  generalize R[k - 1] = Y at d1 hS3
                  replace d0 := rg d0
                  replace d1 := rg d1
                  by_cases hXY : X = Y
                  · subst hXY
                    go_wp2_with fail
                    refine wp_region_quiet_below (by kernel_rfl) (by kernel_rfl) ?_
                    repeat (go_big_quiet_step (fail))
                    refine wpQuiet_nil ?_
                    intro w2 hw'
                    have hB2 := upw hB (grown_of hw')
                    clear hw'
                    go_wp2_with fail
                    go_ret
                    exact ⟨rfl, upw hb hB2⟩
                  · have hne : (X == Y) = false := by simpa using hXY
                    replace hS3 := hS3 hXY
                    go_wp2_with fail
                    refine wp_region_quiet_below (by kernel_rfl) (by kernel_rfl) ?_
                    repeat (go_big_quiet_step (fail))
                    refine wpQuiet_nil ?_
                    intro w2 hw'
                    have hB2 := upw hB (grown_of hw')
                    clear hw'
                    go_wp2_with fail
                    go_roundw
                    case rel => exact ⟨k + 1, by omega, Or.inl (by omega), by go_num, hS3, hB2⟩
                    case measure => simp [intOf]; omega
                · have hmeet := Lib.hid (notches_meet (n := n) r2 r3 r0.out (fun i hi => hS.out i hi (by omega)))
                  have M3 := M2.below hB
                  replace I2 := I2.below hB
                  replace hb := upw hb hB
                  have C := implNotchFault_c n n a6 R c6 a6 R c6 0 wr (by omega) (by omega) M3 (by omega) M3 (by omega) (by omega)
                  rw [hmeet.out] at C
                  replace C := Lib.hid C
                  clear hB M2 M3
                  go_wp2_with fail
                  refine C.out.mono ?_
                  rintro e wy ⟨rfl, hby⟩
                  replace I2 := I2.below hby
                  replace hb := upw hb hby
                  cases he : easeOk x y S
                  · have hc := hcode.out.2 he
                    replace he := Lib.hid he
                    have hc2 : (ec != 0) = true := by rw [hc]; rfl
                    go_wp2_with fail
                    go_ret
                    exact ⟨rfl, hb⟩
                  · have hc := hcode.out.1 he
                    have hc2 : (ec != 0) = false := by rw [hc]; rfl
                    have hes := ease_sum he
                    rw [← hEq.out] at hes
                    obtain ⟨e1, e2, e3⟩ := hes
                    replace e1 := Lib.hid e1
                    replace he := Lib.hid he
                    replace hc := Lib.hid hc
                    have e3' : ((E.length : Int) == (S.length : Int) + 1) = true := by simp; omega
                    replace e2 := Lib.hid e2
                    have hE9 : E.length ≤ 9223372036854775807 := by omega
                    replace e3 := Lib.hid e3
                    replace e3' := Lib.hid e3'
                    go_wp2_with fail
                    refine (f6sum_c _ E _ _ I2 hE9 e1.out).mono ?_
                    rintro e wz ⟨rfl, hbz⟩
                    replace hb := upw hb hbz
                    generalize sumI E = SE at *
                    replace e3' := e3'.out
                    go_wp2_with fail
                    all_goals first
                      | (exfalso; have := e2.out; omega)
                      | (go_ret; exact ⟨rfl, hb⟩)
    · have hs2' : (s2 == 0) = false := by simpa using hs2
      replace hfold := Lib.hid hfold
      cases hn : notchOk n T
      · have hc0 := hnot.out.2 hn
        have hc1 : (nc == 0) = false := by rw [hc0]; rfl
        replace hn := Lib.hid hn
        replace hc0 := Lib.hid hc0
        clear M2
        cases he : easeOk x y S
        · have hc := hcode.out.2 he
          replace he := Lib.hid he
          have hc2 : (ec != 0) = true := by rw [hc]; rfl
          go_wp2_with fail
          go_ret
          exact ⟨rfl, hb⟩
        · have hc := hcode.out.1 he
          have hc2 : (ec != 0) = false := by rw [hc]; rfl
          have hes := ease_sum he
          rw [← hEq.out] at hes
          obtain ⟨e1, e2, e3⟩ := hes
          replace e1 := Lib.hid e1
          replace he := Lib.hid he
          replace hc := Lib.hid hc
          have e3' : ((E.length : Int) == (S.length : Int) + 1) = true := by simp; omega
          replace e2 := Lib.hid e2
          have hE9 : E.length ≤ 9223372036854775807 := by omega
          replace e3 := Lib.hid e3
          replace e3' := Lib.hid e3'
          go_wp2_with fail
          refine (f6sum_c _ E _ _ I2 hE9 e1.out).mono ?_
          rintro e wz ⟨rfl, hbz⟩
          replace hb := upw hb hbz
          generalize sumI E = SE at *
          replace e3' := e3'.out
          go_wp2_with fail
          all_goals first
            | (exfalso; have := e2.out; omega)
            | (go_ret; exact ⟨rfl, hb⟩)
      · have hc0 := hnot.out.1 hn
        have hc1 : (nc == 0) = true := by rw [hc0]; rfl
        obtain ⟨⟨r0, r1⟩, r2, r3⟩ := hrise.out hn
        replace hn := Lib.hid hn
        replace hc0 := Lib.hid hc0
        replace r0 := Lib.hid r0
        replace r1 := Lib.hid r1
        go_wp2_with fail
        go_loopw [32] (fun i wr => ∃ k : Nat, k ≤ R.length ∧ i = .int .i64 k ∧ Below w14.heap.size w14 wr) (fun i _ => R.length - (intOf i).toNat)
        case atStart => exact ⟨0, Nat.zero_le _, rfl, Below.refl _ _⟩
        case round =>
          obtain ⟨k, hk, rfl, hB⟩ := hrel
          by_cases hlt : k < R.length
          · have hM := M2.below hB
            obtain ⟨bq, oq, hq⟩ := hM.addr hlt
            subst hq
            have d0 := hM.int hlt
            have q0 := r0.out k hlt
            clear hM
            by_cases hk0 : 0 < k
            · have hk1 : k - 1 < R.length := by omega
              have d1 := (M2.below hB).int hk1
              have q1 := r1.out (k - 1) (by omega)
              have ek : k - 1 + 1 = k := by omega
              simp only [ek] at q1
              have hkI : (k : Int) - 1 = ((k - 1 : Nat) : Int) := by omega
              have hkp : 0 < (k : Int) := by omega
              generalize R[k] = X at *
              generalize R[k - 1] = Y at *
              have s0' : ¬ X < 0 := by omega
              have s1' : ¬ n < X := by omega
              have s2' : ¬ X < Y := by omega
              have s0d : decide (X < 0) = false := by simpa using s0'
              have s1d : decide (n < X) = false := by simpa using s1'
              have s2d : decide (X < Y) = false := by simpa using s2'
              have hkd : decide (0 < (k : Int)) = true := by simpa using hkp
              clear q0 q1 ek s0' s1' s2' hkp
              replace d0 := rg d0
              replace d1 := rg d1
              go_wp2_with fail
              refine wp_region_quiet_below (by kernel_rfl) (by kernel_rfl) ?_
              repeat (go_big_quiet_step (fail))
              refine wpQuiet_nil ?_
              intro w2 hw'
              have hB2 := upw hB (grown_of hw')
              clear hw'
              go_wp2_with fail
              go_roundw
              case rel => exact ⟨k + 1, by omega, by go_num, hB2⟩
              case measure => simp [intOf]; omega
            · obtain rfl : k = 0 := by omega
              generalize R[0] = X at *
              have s0' : ¬ X < 0 := by omega
              have s1' : ¬ n < X := by omega
              have s0d : decide (X < 0) = false := by simpa using s0'
              have s1d : decide (n < X) = false := by simpa using s1'
              clear q0 s0' s1'
              rw [Nat.add_zero] at d0
              replace d0 := rg d0
              go_wp2_with fail
              refine wp_region_quiet_below (by kernel_rfl) (by kernel_rfl) ?_
              repeat (go_big_quiet_step (fail))
              refine wpQuiet_nil ?_
              intro w2 hw'
              have hB2 := upw hB (grown_of hw')
              clear hw'
              go_wp2_with fail
              go_roundw
              case rel => exact ⟨1, by omega, by go_num, hB2⟩
              case measure => simp [intOf]; omega
          · obtain rfl : k = R.length := by omega
            replace M2 := M2.below hB
            replace I2 := I2.below hB
            replace hb := upw hb hB
            clear hB hlt hk
            obtain ⟨wo, hwo⟩ : ∃ wo : World, wo = wr := ⟨_, rfl⟩
            subst hwo
            go_wp2_with fail
            go_loopw [33] (fun i wx' => ∃ k : Nat, 1 ≤ k ∧ (k ≤ R.length ∨ k = 1) ∧ i = .int .i64 k ∧ Hid (∀ i (hi : i + 1 < R.length), i + 1 < k → R[i] < R[i + 1]) ∧ Below wo.heap.size wo wx') (fun i _ => R.length - (intOf i).toNat)
            case atStart => exact ⟨1, Nat.le_refl _, Or.inr rfl, rfl, Lib.hid (fun i _ h => by omega), Below.refl _ _⟩
            case round =>
              obtain ⟨k, hk, hk2, rfl, hS, hB⟩ := hrel
              by_cases hlt : k < R.length
              · have hM := M2.below hB
                obtain ⟨bq, oq, hq⟩ := hM.addr hlt
                subst hq
                have d0 := hM.int hlt
                clear hM
                have hk1 : k - 1 < R.length := by omega
                have d1 := (M2.below hB).int hk1
                have q1 := r1.out (k - 1) (by omega)
                have ek : k - 1 + 1 = k := by omega
                simp only [ek] at q1
                have hkI : (k : Int) - 1 = ((k - 1 : Nat) : Int) := by omega
                have hS2 : ¬ R[k] = R[k - 1] → Hid (∀ i (hi : i + 1 < R.length), i + 1 < k + 1 → R[i] < R[i + 1]) := fun hne => Lib.hid (fun i hi h => by
                  rcases Nat.lt_succ_iff_lt_or_eq.1 h with h | h
                  · exact hS.out i hi h
                  · have e : i = k - 1 := by omega
                    subst e
                    simp only [ek]
                    omega)
                replace hS2 := Lib.hid hS2
                replace q1 := Lib.hid q1
                have hS3 := hS2.out
                generalize R[k] = X at d0 hS3
                generalize R[k - 1] = Y at d1 hS3
                replace d0 := rg d0
                replace d1 := rg d1
                by_cases hXY : X = Y
                · subst hXY
                  go_wp2_with fail
                  refine wp_region_quiet_below (by kernel_rfl) (by kernel_rfl) ?_
                  repeat (go_big_quiet_step (fail))
                  refine wpQuiet_nil ?_
                  intro w2 hw'
                  have hB2 := upw hB (grown_of hw')
                  clear hw'
                  go_wp2_with fail
                  go_ret
                  exact ⟨rfl, upw hb hB2⟩
                · have hne : (X == Y) = false := by simpa using hXY
                  replace hS3 := hS3 hXY
                  go_wp2_with fail
                  refine wp_region_quiet_below (by kernel_rfl) (by kernel_rfl) ?_
                  repeat (go_big_quiet_step (fail))
                  refine wpQuiet_nil ?_
                  intro w2 hw'
                  have hB2 := upw hB (grown_of hw')
                  clear hw'
                  go_wp2_with fail
                  go_roundw
                  case rel => exact ⟨k + 1, by omega, Or.inl (by omega), by go_num, hS3, hB2⟩
                  case measure => simp [intOf]; omega
              · have hmeet := Lib.hid (notches_meet (n := n) r2 r3 r0.out (fun i hi => hS.out i hi (by omega)))
                have M3 := M2.below hB
                replace I2 := I2.below hB
                replace hb := upw hb hB
                have C := implNotchFault_c n n a6 R c6 a6 R c6 0 wr (by omega) (by omega) M3 (by omega) M3 (by omega) (by omega)
                rw [hmeet.out] at C
                replace C := Lib.hid C
                clear hB M2 M3
                go_wp2_with fail
                refine C.out.mono ?_
                rintro e wy ⟨rfl, hby⟩
                replace I2 := I2.below hby
                replace hb := upw hb hby
                cases he : easeOk x y S
                · have hc := hcode.out.2 he
                  replace he := Lib.hid he
                  have hc2 : (ec != 0) = true := by rw [hc]; rfl
                  go_wp2_with fail
                  go_ret
                  exact ⟨rfl, hb⟩
                · have hc := hcode.out.1 he
                  have hc2 : (ec != 0) = false := by rw [hc]; rfl
                  have hes := ease_sum he
                  rw [← hEq.out] at hes
                  obtain ⟨e1, e2, e3⟩ := hes
                  replace e1 := Lib.hid e1
                  replace he := Lib.hid he
                  replace hc := Lib.hid hc
                  have e3' : ((E.length : Int) == (S.length : Int) + 1) = true := by simp; omega
                  replace e2 := Lib.hid e2
                  have hE9 : E.length ≤ 9223372036854775807 := by omega
                  replace e3 := Lib.hid e3
                  replace e3' := Lib.hid e3'
                  go_wp2_with fail
                  refine (f6sum_c _ E _ _ I2 hE9 e1.out).mono ?_
                  rintro e wz ⟨rfl, hbz⟩
                  replace hb := upw hb hbz
                  generalize sumI E = SE at *
                  replace e3' := e3'.out
                  go_wp2_with fail
                  all_goals first
                    | (exfalso; have := e2.out; omega)
                    | (go_ret; exact ⟨rfl, hb⟩)

end Go.Proofs.Ytokoallbhbgkkaa
