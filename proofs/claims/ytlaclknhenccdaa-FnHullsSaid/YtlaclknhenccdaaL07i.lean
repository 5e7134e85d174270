/- Chapter 7, outlines: spots inside: the contracts of the program's functions and of the reference's. -/
import Derived.Test.YtlaclknhenccdaaL07s
import Derived.Test.YtlaclknhenccdaaSmall
namespace Go.Proofs.Ytlaclknhenccdaa
open Go.RowKit

/-- The greatest common divisor of two numbers without their signs. -/
def gcdI (a b : Int) : Int := (Nat.gcd a.natAbs b.natAbs : Nat)
theorem gcdI_step (a b : Int) : gcdI b (a.tmod b) = gcdI a b := by
  unfold gcdI
  rw [Int.natAbs_tmod, Nat.gcd_comm, ← Nat.gcd_rec, Nat.gcd_comm]
theorem gcdI_zero (a : Int) : gcdI a 0 = size a := by
  unfold gcdI size; simp; omega
theorem gcdI_size (a b : Int) : gcdI (size a) (size b) = gcdI a b := by
  have h : ∀ a : Int, (size a).natAbs = a.natAbs := fun a => by unfold size; omega
  unfold gcdI; rw [h, h]
theorem gcdI_bound {a b M : Int} (ha : -M ≤ a ∧ a ≤ M) (hb : -M ≤ b ∧ b ≤ M) : 0 ≤ gcdI a b ∧ gcdI a b ≤ 2 * M := by
  have h : Nat.gcd a.natAbs b.natAbs ≤ a.natAbs + b.natAbs := by
    rcases Nat.eq_zero_or_pos a.natAbs with h | h
    · rw [h]; simp
    · exact Nat.le_trans (Nat.gcd_le_left _ h) (by omega)
  unfold gcdI
  generalize Nat.gcd a.natAbs b.natAbs = g at h
  omega
theorem tmod_in {a b : Int} (h : b ≠ 0) : (a.tmod b).natAbs < b.natAbs := by
  rw [Int.natAbs_tmod]; exact Nat.mod_lt _ (by omega)
theorem gcd_c (a b : Int) (w : World) (ha : -1000000000 ≤ a ∧ a ≤ 1000000000) (hb : -1000000000 ≤ b ∧ b ≤ 1000000000) :
    Calls Try.prog 137 #[.int .i64 a, .int .i64 b] w fun e w' => e = .returned (.int .i64 (gcdI a b)) ∧ Below w.heap.size w w' := by
  go_enter Try.func137, Try.ntmps137
  go_wp2_with fail
  go_loopw [0, 1] (fun p q wr => ∃ x y : Int, p = .int .i64 x ∧ q = .int .i64 y ∧ gcdI x y = gcdI a b ∧ (-1000000000 ≤ x ∧ x ≤ 1000000000) ∧ (-1000000000 ≤ y ∧ y ≤ 1000000000) ∧ Below w.heap.size w wr) (fun _ q _ => (intOf q).natAbs)
  case atStart => exact ⟨a, b, rfl, rfl, rfl, ha, hb, Below.refl _ _⟩
  case round =>
    clear ha hb
    obtain ⟨x, y, rfl, rfl, hg, hx, hy, hb⟩ := hrel
    have HG := Lib.hid hg
    clear hg
    by_cases h0 : y = 0
    · subst h0
      go_wp2_with fail
      all_goals go_ret
      all_goals exact ⟨ret_int (by rw [← HG.out, gcdI_zero]; unfold size; omega), hb⟩
    · have hm := tmod_in (a := x) h0
      have hm2 : -1000000000 ≤ x.tmod y ∧ x.tmod y ≤ 1000000000 := by omega
      go_wp2_with fail
      refine wp_region_quiet_below (by kernel_rfl) (by kernel_rfl) ?_
      repeat (go_big_quiet_step ((fail)))
      refine wpQuiet_nil ?_
      intro w2 hw'
      replace hb := upw hb (grown_of hw')
      clear hw'
      go_wp2_with fail
      go_roundw
      case rel => exact ⟨y, x.tmod y, rfl, rfl, by rw [gcdI_step]; exact HG.out, hy, hm2, hb⟩
      case measure => simpa [intOf] using hm
theorem l02Gcd_c (a b : Int) (w : World) (ha : 0 ≤ a ∧ a ≤ 1000000000) (hb : 0 ≤ b ∧ b ≤ 1000000000) :
    Calls Try.prog 140 #[.int .i64 a, .int .i64 b] w fun e w' => e = .returned (.int .i64 (gcdI a b)) ∧ w = w' := by
  go_enter Try.func140, Try.ntmps140
  go_wp2_with fail
  go_loop [0, 1, 5] (fun p q _ => ∃ x y : Int, p = .int .i64 x ∧ q = .int .i64 y ∧ gcdI x y = gcdI a b ∧ (0 ≤ x ∧ x ≤ 1000000000) ∧ (0 ≤ y ∧ y ≤ 1000000000)) (fun _ q _ => (intOf q).natAbs)
  case atStart => exact ⟨a, b, rfl, rfl, rfl, ha, hb⟩
  case round =>
    clear ha hb
    obtain ⟨x, y, rfl, rfl, hg, hx, hy⟩ := hrel
    have HG := Lib.hid hg
    clear hg
    by_cases h0 : y = 0
    · subst h0
      go_wp2_with fail
      go_ret
      exact ⟨ret_int (by rw [← HG.out, gcdI_zero]; unfold size; omega), rfl⟩
    · have hm := tmod_in (a := x) h0
      have hm2 : 0 ≤ x.tmod y ∧ x.tmod y ≤ 1000000000 := ⟨Int.tmod_nonneg _ hx.1, by omega⟩
      have hme : x.tmod y = x % y := Int.tmod_eq_emod_of_nonneg hx.1
      go_wp2_with fail
      go_round
      case rel => exact ⟨y, x % y, rfl, rfl, by rw [← hme, gcdI_step]; exact HG.out, hy, by rw [← hme]; exact hm2⟩
      case measure => rw [hme] at hm; simpa [intOf] using hm
/-- How many spots are on a side, without its first. -/
def onSide (xs : List Spot) (i : Nat) : Int := gcdI ((nth xs (i + 1)).X - (nth xs i).X) ((nth xs (i + 1)).Y - (nth xs i).Y)
def onSides (xs : List Spot) : Int := sumUp (onSide xs) xs.length
theorem onSide_in {xs : List Spot} (hok : ∀ i, okSpot (nth xs i) = true) (i : Nat) : 0 ≤ onSide xs i ∧ onSide xs i ≤ 20000 := by
  have h1 := okSpot_iff.1 (hok i)
  have h2 := okSpot_iff.1 (hok (i + 1))
  exact gcdI_bound (M := 10000) (by omega) (by omega)
theorem onSides_in {xs : List Spot} (hok : ∀ i, okSpot (nth xs i) = true) (k : Nat) : -(20000 * (k : Int)) ≤ sumUp (onSide xs) k ∧ sumUp (onSide xs) k ≤ 20000 * (k : Int) :=
  sumUp_bound _ _ (fun i => by have := onSide_in hok i; omega) k
def spotsInside (xs : List Spot) : Int × Int × Int := if okOutline xs then ((size (twice xs) - onSides xs + 2).tdiv 2, onSides xs, 0) else (0, 0, 1)
set_option maxHeartbeats 1000000 in
theorem implSpotsInside_c (a : Option Addr) (xs : List Spot) (c : Nat) (w : World) (hx : At w a xs) (hl : xs.length ≤ 9223372036854775807) :
    Calls Try.prog 62 #[.slice a xs.length c] w fun e w' => e = .returned (.tuple #[.int .i64 (spotsInside xs).1, .int .i64 (spotsInside xs).2.1, .int .i64 (spotsInside xs).2.2]) ∧ Below w.heap.size w w' := by
  have hb := Below.refl w.heap.size w
  cases h1 : okOutline xs
  · have ht : spotsInside xs = (0, 0, 1) := by simp [spotsInside, h1]
    rw [ht]
    go_enter Try.func62, Try.ntmps62
    go_wp2_with fail
    refine (implValidOutline_c _ _ _ _ hx hl).mono ?_
    rintro e w2 ⟨rfl, hb2⟩
    replace hb := upw hb hb2
    go_wp2_with fail
    go_ret3
    exact ⟨rfl, hb⟩
  · have ht : spotsInside xs = ((size (twice xs) - onSides xs + 2).tdiv 2, onSides xs, 0) := by simp [spotsInside, h1]
    rw [ht]
    obtain ⟨hn, hn3, hok⟩ := okOutline_is h1
    have hB : -(100000000 * (xs.length : Int)) ≤ twice xs ∧ twice xs ≤ 100000000 * (xs.length : Int) := twice_bound hok xs.length
    replace hok := Lib.hid hok
    go_enter Try.func62, Try.ntmps62
    go_wp2_with fail
    refine (implValidOutline_c _ _ _ _ hx hl).mono ?_
    rintro e w2 ⟨rfl, hb2⟩
    replace hb := upw hb hb2
    go_wp2_with fail
    go_loopw [14, 5] (fun i s wr => ∃ k : Nat, k ≤ xs.length ∧ i = .int .i64 k ∧ s = .int .i64 (sumUp (onSide xs) k) ∧ Below w.heap.size w wr) (fun i _ _ => xs.length - (intOf i).toNat)
    case atStart => exact ⟨0, Nat.zero_le _, rfl, rfl, hb⟩
    case round =>
      clear hb
      obtain ⟨k, hk, rfl, rfl, hb⟩ := hrel
      replace hx := hx.below hb
      by_cases hlt : k < xs.length
      · obtain ⟨b, off, rfl⟩ := hx.addr hlt
        have hbl := hx.lt hlt
        have hm0 : k % xs.length = k := Nat.mod_eq_of_lt hlt
        obtain ⟨m1, hm1, e1, l1⟩ := modn (j := k + 1) (x := (k : Int) + 1) (n := xs.length) (by omega) (by omega)
        obtain ⟨c0, c1⟩ := hx.nthc hm0 hlt
        obtain ⟨c2, c3⟩ := hx.nthc hm1 l1
        have p1 := okSpot_iff.1 (hok.out k)
        have p2 := okSpot_iff.1 (hok.out (k + 1))
        have p3 := onSides_in hok.out k
        have p4 := onSide_in hok.out k
        unfold onSide at p4
        have E := Lib.hid (show sumUp (onSide xs) (k + 1) = sumUp (onSide xs) k + gcdI ((nth xs (k + 1)).X - (nth xs k).X) ((nth xs (k + 1)).Y - (nth xs k).Y) from rfl)
        go_wp2_with fail
        refine (gcd_c _ _ _ (by omega) (by omega)).mono ?_
        rintro e w2 ⟨rfl, hb2⟩
        replace hb := upw ((hb.alloc hb.size _).alloc (by simp; have := hb.size; omega) _) hb2
        go_wp2_with fail
        go_roundw
        case rel => exact ⟨k + 1, by omega, by go_num, by rw [E.out], hb⟩
        case measure => simp [intOf]; omega
      · obtain rfl : k = xs.length := by omega
        have p3 := onSides_in hok.out xs.length
        have hs := size_nonneg (twice xs)
        have hs2 : size (twice xs) ≤ 2400000000 := by unfold size; omega
        have hq := tdiv_bound (size (twice xs) - onSides xs + 2) 2
        have hq' : -3000000000 ≤ (size (twice xs) - onSides xs + 2).tdiv 2 ∧ (size (twice xs) - onSides xs + 2).tdiv 2 ≤ 3000000000 := by
          unfold onSides at *
          generalize (size (twice xs) - sumUp (onSide xs) xs.length + 2).tdiv 2 = q at *
          unfold size at hq; unfold size at hs2; omega
        clear hq
        unfold onSides at *
        go_wp2_with fail
        refine (around_c _ _ _ _ hx hn hok.out).mono ?_
        rintro e w2 ⟨rfl, hb2⟩
        replace hb := upw hb hb2
        go_wp2_with fail
        refine (apart_c _ _ _ (by omega) (by omega)).mono ?_
        rintro e w' ⟨rfl, rfl⟩
        have e : size (twice xs - 0) = size (twice xs) := by rw [Int.sub_zero]
        rw [e]
        go_wp2_with fail
        go_ret3
        exact ⟨rfl, hb⟩
set_option maxHeartbeats 1000000 in
theorem specSpotsInside_c (a : Option Addr) (xs : List Spot) (c : Nat) (w : World) (hx : At w a xs) (hl : xs.length ≤ 9223372036854775807) :
    Calls Try.prog 63 #[.slice a xs.length c] w fun e w' => e = .returned (.tuple #[.int .i64 (spotsInside xs).1, .int .i64 (spotsInside xs).2.1, .int .i64 (spotsInside xs).2.2]) ∧ Below w.heap.size w w' := by
  have hb := Below.refl w.heap.size w
  cases h1 : okOutline xs
  · have ht : spotsInside xs = (0, 0, 1) := by simp [spotsInside, h1]
    rw [ht]
    go_enter Try.func63, Try.ntmps63
    go_wp2_with fail
    refine (l07Ok_c _ _ _ _ hx hl).mono ?_
    rintro e w2 ⟨rfl, hb2⟩
    replace hb := upw hb hb2
    go_wp2_with fail
    go_ret3
    exact ⟨rfl, hb⟩
  · have ht : spotsInside xs = ((size (twice xs) - onSides xs + 2).tdiv 2, onSides xs, 0) := by simp [spotsInside, h1]
    rw [ht]
    obtain ⟨hn, hn3, hok⟩ := okOutline_is h1
    have hB : -(100000000 * (xs.length : Int)) ≤ twice xs ∧ twice xs ≤ 100000000 * (xs.length : Int) := twice_bound hok xs.length
    replace hok := Lib.hid hok
    go_enter Try.func63, Try.ntmps63
    go_wp2_with fail
    refine (l07Ok_c _ _ _ _ hx hl).mono ?_
    rintro e w2 ⟨rfl, hb2⟩
    replace hb := upw hb hb2
    go_wp2_with fail
    go_loopw [6, 5] (fun i s wr => ∃ k : Nat, k ≤ xs.length ∧ i = .int .i64 k ∧ s = .int .i64 (sumUp (onSide xs) k) ∧ Below w.heap.size w wr) (fun i _ _ => xs.length - (intOf i).toNat)
    case atStart => exact ⟨0, Nat.zero_le _, rfl, rfl, hb⟩
    case round =>
      clear hb
      obtain ⟨k, hk, rfl, rfl, hb⟩ := hrel
      replace hx := hx.below hb
      by_cases hlt : k < xs.length
      · obtain ⟨b, off, rfl⟩ := hx.addr hlt
        have hbl := hx.lt hlt
        have hm0 : k % xs.length = k := Nat.mod_eq_of_lt hlt
        obtain ⟨m1, hm1, e1, l1⟩ := modn (j := k + 1) (x := (k : Int) + 1) (n := xs.length) (by omega) (by omega)
        obtain ⟨c2, c3⟩ := hx.nthc hm1 l1
        have p1 := okSpot_iff.1 (hok.out k)
        have p2 := okSpot_iff.1 (hok.out (k + 1))
        have p3 := onSides_in hok.out k
        have p4 := onSide_in hok.out k
        unfold onSide at p4
        rw [← gcdI_size] at p4
        have E := Lib.hid (show sumUp (onSide xs) (k + 1) = sumUp (onSide xs) k + gcdI (size ((nth xs (k + 1)).X - (nth xs k).X)) (size ((nth xs (k + 1)).Y - (nth xs k).Y)) by rw [gcdI_size]; rfl)
        go_wp2_with fail
        obtain ⟨w1, hw, ⟨d0, d1⟩, hb1⟩ := one wr (nth xs (k + 1))
        rw [hw]
        replace hb := upw hb hb1
        replace hx := hx.below hb1
        clear hb1 hw c2 c3
        obtain ⟨c0, c1⟩ := hx.nthc hm0 hlt
        replace c0 := rg c0
        replace c1 := rg c1
        replace d0 := rg d0
        replace d1 := rg d1
        refine wp_region_quiet_below (by kernel_rfl) (by kernel_rfl) ?_
        repeat (go_big_quiet_step ((first | (go_at_call 141; exact Calls.regrown_same (l02Size_c _ _ (by omega))) | (go_at_call 140; exact Calls.regrown_same (l02Gcd_c _ _ _ (by unfold size; omega) (by unfold size; omega))))))
        refine wpQuiet_nil ?_
        intro w2 hw'
        replace hb := upw hb (grown_of hw')
        clear hw'
        go_wp2_with fail
        go_roundw
        case rel => exact ⟨k + 1, by omega, by go_num, by rw [E.out], hb⟩
        case measure => simp [intOf]; omega
      · obtain rfl : k = xs.length := by omega
        have p3 := onSides_in hok.out xs.length
        have hs := size_nonneg (twice xs)
        have hs2 : size (twice xs) ≤ 2400000000 := by unfold size; omega
        have hq := tdiv_bound (size (twice xs) - onSides xs + 2) 2
        have hq' : -3000000000 ≤ (size (twice xs) - onSides xs + 2).tdiv 2 ∧ (size (twice xs) - onSides xs + 2).tdiv 2 ≤ 3000000000 := by
          unfold onSides at *
          generalize (size (twice xs) - sumUp (onSide xs) xs.length + 2).tdiv 2 = q at *
          unfold size at hq; unfold size at hs2; omega
        clear hq
        unfold onSides at *
        go_wp2_with fail
        refine (l07Sum_c _ _ _ _ hx hn hok.out).mono ?_
        rintro e w2 ⟨rfl, hb2⟩
        replace hb := upw hb hb2
        go_wp2_with fail
        refine (l02Size_c _ _ (by omega)).mono ?_
        rintro e w' ⟨rfl, rfl⟩
        go_wp2_with fail
        go_ret3
        exact ⟨rfl, hb⟩
end Go.Proofs.Ytlaclknhenccdaa
