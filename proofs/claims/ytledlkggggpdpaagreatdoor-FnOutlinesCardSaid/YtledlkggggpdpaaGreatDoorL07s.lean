/- Chapter 7, outlines: sums over the sides: the contracts of the program's functions and of the reference's. -/
import Derived.Test.YtledlkggggpdpaaGreatDoorL07v
namespace Go.Proofs.YtledlkggggpdpaaGreatDoor
open Go.RowKit

/-- The sum of the first k worths. -/
def sumUp (f : Nat → Int) : Nat → Int
  | 0 => 0
  | k + 1 => sumUp f k + f k
theorem sumUp_bound (f : Nat → Int) (M : Int) (h : ∀ i, -M ≤ f i ∧ f i ≤ M) : ∀ k, -(M * k) ≤ sumUp f k ∧ sumUp f k ≤ M * k
  | 0 => by simp [sumUp]
  | k + 1 => by
    have ih := sumUp_bound f M h k
    have hk := h k
    have : M * ((k + 1 : Nat) : Int) = M * k + M := by rw [Int.natCast_add, Int.mul_add]; omega
    simp only [sumUp]; omega
/-- What a side gives to twice the area. -/
def part (xs : List Spot) (i : Nat) : Int := (nth xs i).X * (nth xs (i + 1)).Y - (nth xs (i + 1)).X * (nth xs i).Y
def twice (xs : List Spot) : Int := sumUp (part xs) xs.length
theorem part_in {a b : Spot} (ha : okSpot a = true) (hb : okSpot b = true) : 0 ≤ a.X * b.Y ∧ a.X * b.Y ≤ 100000000 := by
  have ha := okSpot_iff.1 ha
  have hb := okSpot_iff.1 hb
  have h := mul_in' (a := a.X) (b := b.Y) (A := 10000) (B := 10000) (by omega) (by omega) (by omega) (by omega)
  exact ⟨Int.mul_nonneg ha.1.1 hb.2.1, by omega⟩
theorem part_bound {xs : List Spot} (hok : ∀ i, okSpot (nth xs i) = true) (i : Nat) : -100000000 ≤ part xs i ∧ part xs i ≤ 100000000 := by
  have h1 := part_in (hok i) (hok (i + 1))
  have h2 := part_in (hok (i + 1)) (hok i)
  unfold part; omega
theorem twice_bound {xs : List Spot} (hok : ∀ i, okSpot (nth xs i) = true) (k : Nat) : -(100000000 * (k : Int)) ≤ sumUp (part xs) k ∧ sumUp (part xs) k ≤ 100000000 * (k : Int) := sumUp_bound _ _ (part_bound hok) k
theorem two (w : World) (a b : Spot) : ∃ w1, (w.alloc (.cells #[.int .i64 a.X, .int .i64 a.Y] 106)).alloc (.cells #[.int .i64 b.X, .int .i64 b.Y] 106) = w1 ∧
    ((w1.cell? ⟨w.heap.size, 0, none⟩ = some (.int .i64 a.X) ∧ w1.cell? ⟨w.heap.size, 1, none⟩ = some (.int .i64 a.Y)) ∧ (w1.cell? ⟨w.heap.size + 1, 0, none⟩ = some (.int .i64 b.X) ∧ w1.cell? ⟨w.heap.size + 1, 1, none⟩ = some (.int .i64 b.Y))) ∧ Below w.heap.size w w1 := by
  refine ⟨_, rfl, ⟨⟨?_, ?_⟩, ?_, ?_⟩, ((Below.refl _ _).alloc (by simp) _).alloc (by simp) _⟩ <;> go_simp
theorem one (w : World) (a : Spot) : ∃ w1, (w.alloc (.cells #[.int .i64 a.X, .int .i64 a.Y] 106)) = w1 ∧
    (w1.cell? ⟨w.heap.size, 0, none⟩ = some (.int .i64 a.X) ∧ w1.cell? ⟨w.heap.size, 1, none⟩ = some (.int .i64 a.Y)) ∧ Below w.heap.size w w1 := by
  refine ⟨_, rfl, ⟨?_, ?_⟩, ((Below.refl _ _).alloc (by simp) _)⟩ <;> go_simp
/-- One variable that holds a spot, beside others. -/
structure Keep (w : World) (g : Nat) (p : Spot) : Prop where
  x : w.cell? ⟨g, 0, none⟩ = some (.int .i64 p.X)
  y : w.cell? ⟨g, 1, none⟩ = some (.int .i64 p.Y)
theorem Keep.lt {w : World} {g : Nat} {p : Spot} (h : Keep w g p) : g < w.heap.size := block_lt_of_cell h.x
theorem Keep.below {w w' : World} {g : Nat} {p : Spot} (h : Keep w g p) (hb : Below w.heap.size w w') : Keep w' g p :=
  ⟨by rw [hb.cell (p := ⟨g, 0, none⟩) h.lt]; exact h.x, by rw [hb.cell (p := ⟨g, 1, none⟩) h.lt]; exact h.y⟩
theorem twoKeep (w : World) (a b : Spot) : ∃ w1, (w.alloc (.cells #[.int .i64 a.X, .int .i64 a.Y] 106)).alloc (.cells #[.int .i64 b.X, .int .i64 b.Y] 106) = w1 ∧ Keep w1 w.heap.size a ∧ Keep w1 (w.heap.size + 1) b ∧ Below w.heap.size w w1 := by
  obtain ⟨w1, h1, ⟨⟨a0, a1⟩, a2, a3⟩, h2⟩ := two w a b
  exact ⟨w1, h1, ⟨a0, a1⟩, ⟨a2, a3⟩, h2⟩
set_option maxHeartbeats 800000 in
theorem around_c (a : Option Addr) (xs : List Spot) (c : Nat) (w : World) (hx : At w a xs) (hl : xs.length ≤ 24) (hok : ∀ i, okSpot (nth xs i) = true) :
    Calls Tryz.prog 171 #[.slice a xs.length c] w fun e w' => e = .returned (.int .i64 (twice xs)) ∧ Below w.heap.size w w' := by
  replace hok := Lib.hid hok
  go_enter Tryz.func171, Tryz.ntmps171
  go_wp2_with fail
  go_loopw [9, 3] (fun i s wr => ∃ k : Nat, k ≤ xs.length ∧ i = .int .i64 k ∧ s = .int .i64 (sumUp (part xs) k) ∧ Below w.heap.size w wr) (fun i _ _ => xs.length - (intOf i).toNat)
  case atStart => exact ⟨0, Nat.zero_le _, rfl, rfl, Below.refl _ _⟩
  case round =>
    obtain ⟨k, hk, rfl, rfl, hb⟩ := hrel
    replace hx := hx.below hb
    by_cases hlt : k < xs.length
    · obtain ⟨b, off, rfl⟩ := hx.addr hlt
      have hbl := hx.lt hlt
      have hm0 : k % xs.length = k := Nat.mod_eq_of_lt hlt
      obtain ⟨m1, hm1, e1, l1⟩ := modn (j := k + 1) (x := (k : Int) + 1) (n := xs.length) (by omega) (by omega)
      obtain ⟨c0, c1⟩ := hx.nthc hm0 hlt
      obtain ⟨c2, c3⟩ := hx.nthc hm1 l1
      have p1 := part_in (hok.out k) (hok.out (k + 1))
      have p2 := part_in (hok.out (k + 1)) (hok.out k)
      have p3 := twice_bound hok.out k
      have E := Lib.hid (show sumUp (part xs) (k + 1) = sumUp (part xs) k + ((nth xs k).X * (nth xs (k + 1)).Y - (nth xs (k + 1)).X * (nth xs k).Y) from rfl)
      go_wp2_with fail
      go_roundw
      case rel => exact ⟨k + 1, by omega, by go_num, by rw [E.out], (hb.alloc hb.size _).alloc (by simp; have := hb.size; omega) _⟩
      case measure => simp [intOf]; omega
    · go_wp2_with fail
      go_ret
      obtain rfl : k = xs.length := by omega
      exact ⟨rfl, hb⟩
set_option maxHeartbeats 800000 in
theorem l07Sum_c (a : Option Addr) (xs : List Spot) (c : Nat) (w : World) (hx : At w a xs) (hl : xs.length ≤ 24) (hok : ∀ i, okSpot (nth xs i) = true) :
    Calls Tryz.prog 173 #[.slice a xs.length c] w fun e w' => e = .returned (.int .i64 (twice xs)) ∧ Below w.heap.size w w' := by
  replace hok := Lib.hid hok
  go_enter Tryz.func173, Tryz.ntmps173
  go_wp2_with fail
  go_loopw [4, 3] (fun i s wr => ∃ k : Nat, k ≤ xs.length ∧ i = .int .i64 k ∧ s = .int .i64 (sumUp (part xs) k) ∧ Below w.heap.size w wr) (fun i _ _ => xs.length - (intOf i).toNat)
  case atStart => exact ⟨0, Nat.zero_le _, rfl, rfl, Below.refl _ _⟩
  case round =>
    obtain ⟨k, hk, rfl, rfl, hb⟩ := hrel
    replace hx := hx.below hb
    by_cases hlt : k < xs.length
    · obtain ⟨b, off, rfl⟩ := hx.addr hlt
      have hbl := hx.lt hlt
      have hm0 : k % xs.length = k := Nat.mod_eq_of_lt hlt
      obtain ⟨m1, hm1, e1, l1⟩ := modn (j := k + 1) (x := (k : Int) + 1) (n := xs.length) (by omega) (by omega)
      obtain ⟨c2, c3⟩ := hx.nthc hm1 l1
      have p1 := part_in (hok.out k) (hok.out (k + 1))
      have p2 := part_in (hok.out (k + 1)) (hok.out k)
      have p3 := twice_bound hok.out k
      have E := Lib.hid (show sumUp (part xs) (k + 1) = sumUp (part xs) k + ((nth xs k).X * (nth xs (k + 1)).Y - (nth xs (k + 1)).X * (nth xs k).Y) from rfl)
      go_wp2_with fail
      obtain ⟨w1, hw, ⟨d0, d1⟩, hb1⟩ := one wr (nth xs (k + 1))
      rw [hw]
      replace hb := upw hb hb1
      replace hx := hx.below hb1
      clear hb1 hw c2 c3
      obtain ⟨c0, c1⟩ := hx.nthc hm0 hlt
      replace c0 := rg c0
      replace c1 := rg c1
      replace d0 := rg d0
      replace d1 := rg d1
      refine wp_region_quiet_below (by kernel_rfl) (by kernel_rfl) ?_
      repeat (go_big_quiet_step ((fail)))
      refine wpQuiet_nil ?_
      intro w2 hw'
      replace hb := upw hb (grown_of hw')
      clear hw'
      go_wp2_with fail
      go_roundw
      case rel => exact ⟨k + 1, by omega, by go_num, by rw [E.out], hb⟩
      case measure => simp [intOf]; omega
    · go_wp2_with fail
      go_ret
      obtain rfl : k = xs.length := by omega
      exact ⟨rfl, hb⟩
theorem okOutline_is {xs : List Spot} (h : okOutline xs = true) : xs.length ≤ 24 ∧ 3 ≤ xs.length ∧ ∀ i, okSpot (nth xs i) = true := by
  have := okOutline_iff.1 h
  exact ⟨this.1.1.2, this.1.1.1, nth_ok this.1.2⟩
def twiceArea (xs : List Spot) : Int × Int := if okOutline xs then (size (twice xs), 0) else (0, 1)
def leftHanded (xs : List Spot) : Bool × Int := if okOutline xs then (decide (0 < twice xs), 0) else (false, 1)
theorem implTwiceArea_c (a : Option Addr) (xs : List Spot) (c : Nat) (w : World) (hx : At w a xs) (hl : xs.length ≤ 9223372036854775807) :
    Calls Tryz.prog 76 #[.slice a xs.length c] w fun e w' => e = .returned (.tuple #[.int .i64 (twiceArea xs).1, .int .i64 (twiceArea xs).2]) ∧ Below w.heap.size w w' := by
  have hb := Below.refl w.heap.size w
  cases h1 : okOutline xs
  · have ht : twiceArea xs = (0, 1) := by simp [twiceArea, h1]
    go_enter Tryz.func76, Tryz.ntmps76
    go_wp2_with fail
    refine (implValidOutline_c _ _ _ _ hx hl).mono ?_
    rintro e w2 ⟨rfl, hb2⟩
    replace hb := upw hb hb2
    go_wp2_with fail
    go_ret2
    exact ⟨by rw [ht]; rfl, hb⟩
  · obtain ⟨hn, hn3, hok⟩ := okOutline_is h1
    have ht : twiceArea xs = (size (twice xs), 0) := by simp [twiceArea, h1]
    have hB := twice_bound hok xs.length
    go_enter Tryz.func76, Tryz.ntmps76
    go_wp2_with fail
    refine (implValidOutline_c _ _ _ _ hx hl).mono ?_
    rintro e w2 ⟨rfl, hb2⟩
    replace hb := upw hb hb2
    go_wp2_with fail
    refine (around_c _ _ _ _ (hx.below hb) hn hok).mono ?_
    rintro e w2 ⟨rfl, hb2⟩
    replace hb := upw hb hb2
    go_wp2_with fail
    refine (apart_c _ _ _ (by unfold twice; omega) (by omega)).mono ?_
    rintro e w' ⟨rfl, rfl⟩
    go_wp2_with fail
    go_ret2
    exact ⟨by rw [ht]; rfl, hb⟩
theorem specTwiceArea_c (a : Option Addr) (xs : List Spot) (c : Nat) (w : World) (hx : At w a xs) (hl : xs.length ≤ 9223372036854775807) :
    Calls Tryz.prog 77 #[.slice a xs.length c] w fun e w' => e = .returned (.tuple #[.int .i64 (twiceArea xs).1, .int .i64 (twiceArea xs).2]) ∧ Below w.heap.size w w' := by
  have hb := Below.refl w.heap.size w
  cases h1 : okOutline xs
  · have ht : twiceArea xs = (0, 1) := by simp [twiceArea, h1]
    go_enter Tryz.func77, Tryz.ntmps77
    go_wp2_with fail
    refine (l07Ok_c _ _ _ _ hx hl).mono ?_
    rintro e w2 ⟨rfl, hb2⟩
    replace hb := upw hb hb2
    go_wp2_with fail
    go_ret2
    exact ⟨by rw [ht]; rfl, hb⟩
  · obtain ⟨hn, hn3, hok⟩ := okOutline_is h1
    have ht : twiceArea xs = (size (twice xs), 0) := by simp [twiceArea, h1]
    have hB := twice_bound hok xs.length
    go_enter Tryz.func77, Tryz.ntmps77
    go_wp2_with fail
    refine (l07Ok_c _ _ _ _ hx hl).mono ?_
    rintro e w2 ⟨rfl, hb2⟩
    replace hb := upw hb hb2
    go_wp2_with fail
    refine (l07Sum_c _ _ _ _ (hx.below hb) hn hok).mono ?_
    rintro e w2 ⟨rfl, hb2⟩
    replace hb := upw hb hb2
    go_wp2_with fail
    refine (l02Size_c _ _ (by unfold twice; omega)).mono ?_
    rintro e w' ⟨rfl, rfl⟩
    go_wp2_with fail
    go_ret2
    exact ⟨by rw [ht]; rfl, hb⟩
theorem implIsLeftHanded_c (a : Option Addr) (xs : List Spot) (c : Nat) (w : World) (hx : At w a xs) (hl : xs.length ≤ 9223372036854775807) :
    Calls Tryz.prog 78 #[.slice a xs.length c] w fun e w' => e = .returned (.tuple #[.bool (leftHanded xs).1, .int .i64 (leftHanded xs).2]) ∧ Below w.heap.size w w' := by
  have hb := Below.refl w.heap.size w
  cases h1 : okOutline xs
  · have ht : leftHanded xs = (false, 1) := by simp [leftHanded, h1]
    go_enter Tryz.func78, Tryz.ntmps78
    go_wp2_with fail
    refine (implValidOutline_c _ _ _ _ hx hl).mono ?_
    rintro e w2 ⟨rfl, hb2⟩
    replace hb := upw hb hb2
    go_wp2_with fail
    go_ret2
    exact ⟨by rw [ht]; rfl, hb⟩
  · obtain ⟨hn, hn3, hok⟩ := okOutline_is h1
    have ht : leftHanded xs = (decide (0 < twice xs), 0) := by simp [leftHanded, h1]
    go_enter Tryz.func78, Tryz.ntmps78
    go_wp2_with fail
    refine (implValidOutline_c _ _ _ _ hx hl).mono ?_
    rintro e w2 ⟨rfl, hb2⟩
    replace hb := upw hb hb2
    go_wp2_with fail
    refine (around_c _ _ _ _ (hx.below hb) hn hok).mono ?_
    rintro e w2 ⟨rfl, hb2⟩
    replace hb := upw hb hb2
    go_wp2_with fail
    go_ret2
    exact ⟨by rw [ht]; rfl, hb⟩
theorem specIsLeftHanded_c (a : Option Addr) (xs : List Spot) (c : Nat) (w : World) (hx : At w a xs) (hl : xs.length ≤ 9223372036854775807) :
    Calls Tryz.prog 79 #[.slice a xs.length c] w fun e w' => e = .returned (.tuple #[.bool (leftHanded xs).1, .int .i64 (leftHanded xs).2]) ∧ Below w.heap.size w w' := by
  have hb := Below.refl w.heap.size w
  cases h1 : okOutline xs
  · have ht : leftHanded xs = (false, 1) := by simp [leftHanded, h1]
    go_enter Tryz.func79, Tryz.ntmps79
    go_wp2_with fail
    refine (l07Ok_c _ _ _ _ hx hl).mono ?_
    rintro e w2 ⟨rfl, hb2⟩
    replace hb := upw hb hb2
    go_wp2_with fail
    go_ret2
    exact ⟨by rw [ht]; rfl, hb⟩
  · obtain ⟨hn, hn3, hok⟩ := okOutline_is h1
    have ht : leftHanded xs = (decide (0 < twice xs), 0) := by simp [leftHanded, h1]
    go_enter Tryz.func79, Tryz.ntmps79
    go_wp2_with fail
    refine (l07Ok_c _ _ _ _ hx hl).mono ?_
    rintro e w2 ⟨rfl, hb2⟩
    replace hb := upw hb hb2
    go_wp2_with fail
    refine (l07Sum_c _ _ _ _ (hx.below hb) hn hok).mono ?_
    rintro e w2 ⟨rfl, hb2⟩
    replace hb := upw hb hb2
    go_wp2_with fail
    go_ret2
    exact ⟨by rw [ht]; rfl, hb⟩
end Go.Proofs.YtledlkggggpdpaaGreatDoor
