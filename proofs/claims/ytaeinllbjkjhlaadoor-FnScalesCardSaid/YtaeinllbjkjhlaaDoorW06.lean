/- Chapter 3, the nearest half sizes and conversions: the program's and the reference's. -/
import Derived.Test.YtaeinllbjkjhlaaDoorW05
namespace Go.Proofs.YtaeinllbjkjhlaaDoor
open Go.RowKit

theorem tgt_bound {x : Scl} {d h : Int} (ok : okScl x = true) (hd : 1 ≤ d ∧ d ≤ 100) (hh : 0 ≤ h ∧ h ≤ 120) : (0 ≤ h + x.base ∧ h + x.base ≤ 220) ∧ (0 ≤ (h + x.base) * x.num ∧ (h + x.base) * x.num ≤ 220000) ∧ (0 ≤ tgt x d h ∧ tgt x d h ≤ 22000000) := by
  obtain ⟨_, h1, h2, h3⟩ := okScl_iff.1 ok
  have a : 0 ≤ (h + x.base) * x.num := Int.mul_nonneg (by omega) (by omega)
  have a2 := Int.mul_le_mul (show h + x.base ≤ 220 by omega) h2.2 (by omega) (by omega)
  have b : 0 ≤ (h + x.base) * x.num * d := Int.mul_nonneg a (by omega)
  have b2 := Int.mul_le_mul (show (h + x.base) * x.num ≤ 220000 by omega) hd.2 (by omega) (by omega)
  unfold tgt
  omega
theorem n_bound {x : Scl} {n : Int} (ok : okScl x = true) (hn : 0 ≤ n ∧ n ≤ 220000) : 0 ≤ n * x.den ∧ n * x.den ≤ 22000000 := by
  obtain ⟨_, h1, h2, h3⟩ := okScl_iff.1 ok
  have a : 0 ≤ n * x.den := Int.mul_nonneg hn.1 (by omega)
  have a2 := Int.mul_le_mul hn.2 h3.2 (by omega) (by omega)
  omega
theorem dist_bound {x : Scl} {n d h : Int} (ok : okScl x = true) (hd : 1 ≤ d ∧ d ≤ 100) (hh : 0 ≤ h ∧ h ≤ 120) (hn : 0 ≤ n ∧ n ≤ 220000) : 0 ≤ dist x n d h ∧ dist x n d h ≤ 22000000 := by
  obtain ⟨_, _, h1⟩ := tgt_bound ok hd hh
  have h2 := n_bound ok hn
  unfold dist size
  omega
theorem near_yes {x : Scl} {n d : Int} {k : Nat} (h : dist x n d ((k + 1 : Nat) : Int) < dist x n d ((near x n d k : Nat) : Int)) : near x n d (k + 1) = k + 1 := by rw [near, if_pos h]
theorem near_no {x : Scl} {n d : Int} {k : Nat} (h : ¬ dist x n d ((k + 1 : Nat) : Int) < dist x n d ((near x n d k : Nat) : Int)) : near x n d (k + 1) = near x n d k := by rw [near, if_neg h]
set_option maxHeartbeats 1600000 in
theorem nearestHalf_c (x : Scl) (n d : Int) (w : World) (ok : okScl x = true) (hn : 0 ≤ n ∧ n ≤ 220000) (hd : 1 ≤ d ∧ d ≤ 100) :
    Calls Tryd.prog 27 #[.agg #[.string x.name, .int .i64 x.base, .int .i64 x.num, .int .i64 x.den], .int .i64 n, .int .i64 d] w fun e w' => e = .returned (.int .i64 (nearest x n d : Nat)) ∧ Below w.heap.size w w' := by
  obtain ⟨w1, hw1, hb, c0, c1, c2, c3⟩ := scl_new w 25 x
  have hT := Lib.hid (fun (k : Nat) (hk : k ≤ 120) => tgt_bound (h := (k : Int)) ok hd (by omega))
  have hDb := Lib.hid (fun (k : Nat) (hk : k ≤ 120) => dist_bound (h := (k : Int)) ok hd (by omega) hn)
  have hNb := n_bound ok hn
  obtain ⟨_, o1, o2, o3⟩ := okScl_iff.1 ok
  replace hw1 := Lib.hid hw1
  replace ok := Lib.hid ok
  clear c0
  go_enter Tryd.func27, Tryd.ntmps27
  go_wp2_with (rw [← hw1.out])
  go_loopw [7, 8, 9, 10] (fun b l i _ wr => ∃ (k : Nat) (B : Nat) (L : Int), k ≤ 121 ∧ i = .int .i64 k ∧ b = .int .i64 B ∧ l = .int .i64 L ∧ Hid ((k = 0 → B = 0 ∧ L = -1) ∧ ∀ q, k = q + 1 → B = near x n d q ∧ L = dist x n d (near x n d q : Nat)) ∧ wr = w1) (fun _ _ i _ _ => 121 - (intOf i).toNat)
  case atStart => exact ⟨0, 0, -1, by omega, rfl, rfl, rfl, Lib.hid ⟨fun _ => ⟨rfl, rfl⟩, fun q h => by omega⟩, rfl⟩
  case round =>
    obtain ⟨k, B, L, hk, rfl, rfl, rfl, hS, rfl⟩ := hrel
    by_cases hlt : k ≤ 120
    · have hltI : (k : Int) ≤ 120 := by omega
      obtain ⟨t1, t2, t3⟩ := hT.out k hlt
      have hD := hDb.out k hlt
      have hA := Lib.hid (fun w' => apart_c (tgt x d k) (n * x.den) w' (by omega) (by omega))
      have hE := Lib.hid (show size (tgt x d k - n * x.den) = dist x n d k from rfl)
      unfold tgt at hA t3 hE
      rw [hE.out] at hA
      clear hE
      by_cases hz : k = 0
      · obtain ⟨rfl, rfl⟩ := hS.out.1 hz
        have hS2 := Lib.hid (show (k + 1 = 0 → k = 0 ∧ dist x n d (k : Int) = -1) ∧ ∀ q, k + 1 = q + 1 → k = near x n d q ∧ dist x n d (k : Int) = dist x n d (near x n d q : Nat) from ⟨fun h => by omega, fun q h => by
          obtain rfl : q = 0 := by omega
          subst hz
          exact ⟨rfl, rfl⟩⟩)
        clear hS
        replace hz := Lib.hid hz
        obtain ⟨D, hDe⟩ : ∃ D, D = dist x n d (k : Int) := ⟨_, rfl⟩
        rw [← hDe] at hA hD hS2
        clear hDe
        go_wp2_with ((with_reducible refine (hA.out _).mono ?_); rintro e w' ⟨rfl, rfl⟩)
        go_roundw
        case rel => exact ⟨k + 1, k, D, by omega, by first | rfl | go_num, by first | rfl | go_num, rfl, hS2, trivial⟩
        case measure => first | (simp [intOf]; done) | (simp [intOf]; omega)
      · obtain ⟨q, hqe⟩ : ∃ q, k = q + 1 := ⟨k - 1, by omega⟩
        obtain ⟨hB, hL⟩ := hS.out.2 q hqe
        have hq := near_le x n d q
        have hLb := hDb.out (near x n d q) (by omega)
        rw [← hL] at hLb
        have hkpos : (k : Int) ≠ 0 := by omega
        have hkpos2 : 0 < (k : Int) := by omega
        by_cases hc : dist x n d (k : Int) < L
        · have hS2 := Lib.hid (show (k + 1 = 0 → k = 0 ∧ dist x n d (k : Int) = -1) ∧ ∀ r, k + 1 = r + 1 → k = near x n d r ∧ dist x n d (k : Int) = dist x n d (near x n d r : Nat) from by
            subst hqe
            have hy : near x n d (q + 1) = q + 1 := near_yes (by rw [← hL]; exact hc)
            refine ⟨fun h => by omega, fun r h => ?_⟩
            obtain rfl : r = q + 1 := by omega
            rw [hy]; exact ⟨rfl, rfl⟩)
          clear hB hL hS hq
          replace hqe := Lib.hid hqe
          obtain ⟨D, hDe⟩ : ∃ D, D = dist x n d (k : Int) := ⟨_, rfl⟩
          rw [← hDe] at hA hD hS2 hc
          clear hDe
          go_wp2_with ((with_reducible refine (hA.out _).mono ?_); rintro e w' ⟨rfl, rfl⟩)
          go_roundw
          case rel => exact ⟨k + 1, k, D, by omega, by first | rfl | go_num, by first | rfl | go_num, rfl, hS2, trivial⟩
          case measure => first | (simp [intOf]; done) | (simp [intOf]; omega)
        · have hS2 := Lib.hid (show (k + 1 = 0 → B = 0 ∧ L = -1) ∧ ∀ r, k + 1 = r + 1 → B = near x n d r ∧ L = dist x n d (near x n d r : Nat) from by
            subst hqe
            have hy : near x n d (q + 1) = near x n d q := near_no (by rw [← hL]; exact hc)
            refine ⟨fun h => by omega, fun r h => ?_⟩
            obtain rfl : r = q + 1 := by omega
            rw [hy]; exact ⟨hB, hL⟩)
          clear hB hL hS hq
          replace hqe := Lib.hid hqe
          obtain ⟨D, hDe⟩ : ∃ D, D = dist x n d (k : Int) := ⟨_, rfl⟩
          rw [← hDe] at hA hD hc
          clear hDe
          go_wp2_with ((with_reducible refine (hA.out _).mono ?_); rintro e w' ⟨rfl, rfl⟩)
          go_roundw
          case rel => exact ⟨k + 1, B, L, by omega, by first | rfl | go_num, rfl, rfl, hS2, trivial⟩
          case measure => first | (simp [intOf]; done) | (simp [intOf]; omega)
    · obtain rfl : k = 121 := by omega
      obtain ⟨hB, _⟩ := hS.out.2 120 rfl
      have hB2 := Lib.hid (show B = nearest x n d from hB)
      clear hB hS
      go_wp2_with fail
      go_ret
      exact ⟨by rw [hB2.out]; rfl, hb⟩
set_option maxHeartbeats 1600000 in
theorem l03Nearest_c (x : Scl) (n d : Int) (w : World) (ok : okScl x = true) (hn : 0 ≤ n ∧ n ≤ 220000) (hd : 1 ≤ d ∧ d ≤ 100) :
    Calls Tryd.prog 28 #[.agg #[.string x.name, .int .i64 x.base, .int .i64 x.num, .int .i64 x.den], .int .i64 n, .int .i64 d] w fun e w' => e = .returned (.int .i64 (nearest x n d : Nat)) ∧ Below w.heap.size w w' := by
  obtain ⟨w1, hw1, hb, c0, c1, c2, c3⟩ := scl_new w 25 x
  have hT := Lib.hid (fun (k : Nat) (hk : k ≤ 120) => tgt_bound (h := (k : Int)) ok hd (by omega))
  have hDb := Lib.hid (fun (k : Nat) (hk : k ≤ 120) => dist_bound (h := (k : Int)) ok hd (by omega) hn)
  have hNb := n_bound ok hn
  obtain ⟨_, o1, o2, o3⟩ := okScl_iff.1 ok
  replace hw1 := Lib.hid hw1
  replace ok := Lib.hid ok
  clear c0
  go_enter Tryd.func28, Tryd.ntmps28
  go_wp2_with (rw [← hw1.out])
  go_loopw [7, 8, 9, 10] (fun b i _ _ wr => ∃ (k : Nat) (B : Nat), k ≤ 120 ∧ i = .int .i64 ((k + 1 : Nat) : Int) ∧ b = .int .i64 B ∧ Hid (B = near x n d k) ∧ wr = w1) (fun _ i _ _ _ => 121 - (intOf i).toNat)
  case atStart => exact ⟨0, 0, by omega, rfl, rfl, Lib.hid rfl, rfl⟩
  case round =>
    obtain ⟨k, B, hk, rfl, rfl, hS, rfl⟩ := hrel
    have hBk : B ≤ 120 := by rw [hS.out]; exact Nat.le_trans (near_le x n d k) hk
    by_cases hlt : k + 1 ≤ 120
    · have hltI : ((k + 1 : Nat) : Int) ≤ 120 := by omega
      obtain ⟨t1, t2, t3⟩ := hT.out (k + 1) hlt
      obtain ⟨s1, s2, s3⟩ := hT.out B hBk
      have hD := hDb.out (k + 1) hlt
      have hD2 := hDb.out B hBk
      have hA := Lib.hid (fun w' => l02Size_c (tgt x d ((k + 1 : Nat) : Int) - n * x.den) w' (by omega))
      have hA2 := Lib.hid (fun w' => l02Size_c (tgt x d (B : Int) - n * x.den) w' (by omega))
      rw [show size (tgt x d ((k + 1 : Nat) : Int) - n * x.den) = dist x n d ((k + 1 : Nat) : Int) from rfl] at hA
      rw [show size (tgt x d (B : Int) - n * x.den) = dist x n d (B : Int) from rfl] at hA2
      have hy := Lib.hid (fun (h : dist x n d ((k + 1 : Nat) : Int) < dist x n d (B : Int)) => show near x n d (k + 1) = k + 1 from near_yes (by rw [← hS.out]; exact h))
      have hno := Lib.hid (fun (h : ¬ dist x n d ((k + 1 : Nat) : Int) < dist x n d (B : Int)) => show near x n d (k + 1) = B from by rw [near_no (by rw [← hS.out]; exact h)]; exact hS.out.symm)
      unfold tgt at hA hA2 t3 s3
      obtain ⟨K, hK⟩ : ∃ K, K = k + 1 := ⟨_, rfl⟩
      try rw [← hK] at hA
      try rw [← hK] at t1
      try rw [← hK] at t2
      try rw [← hK] at t3
      try rw [← hK] at hD
      try rw [← hK] at hy
      try rw [← hK] at hno
      try rw [← hK] at hltI
      try rw [← hK]
      have hKK := Lib.hid hK
      have hK1 : K ≤ 120 := by omega
      clear hK
      generalize dist x n d (K : Int) = D at *
      generalize dist x n d (B : Int) = D2 at *
      by_cases hc : D < D2
      · have hS2 := Lib.hid (show K = near x n d K by have h := hy.out hc; rw [hKK.out]; rw [hKK.out] at h; exact h.symm)
        clear hS hy hno
        go_wp2_with (first | ((with_reducible refine (hA.out _).mono ?_); rintro e w' ⟨rfl, rfl⟩) | ((with_reducible refine (hA2.out _).mono ?_); rintro e w' ⟨rfl, rfl⟩))
        go_roundw
        case rel => exact ⟨K, K, hK1, by first | rfl | go_num, rfl, hS2, trivial⟩
        case measure => first | (simp [intOf]; done) | (simp [intOf]; omega)
      · have hS2 := Lib.hid (show B = near x n d K by have h := hno.out hc; rw [hKK.out]; rw [hKK.out] at h; exact h.symm)
        clear hS hy hno
        go_wp2_with (first | ((with_reducible refine (hA.out _).mono ?_); rintro e w' ⟨rfl, rfl⟩) | ((with_reducible refine (hA2.out _).mono ?_); rintro e w' ⟨rfl, rfl⟩))
        go_roundw
        case rel => exact ⟨K, B, hK1, by first | rfl | go_num, rfl, hS2, trivial⟩
        case measure => first | (simp [intOf]; done) | (simp [intOf]; omega)
    · obtain rfl : k = 120 := by omega
      have hB2 := Lib.hid (show B = nearest x n d from hS.out)
      clear hS
      go_wp2_with fail
      go_ret
      exact ⟨by rw [hB2.out]; rfl, hb⟩
end Go.Proofs.YtaeinllbjkjhlaaDoor
