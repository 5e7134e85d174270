/- Chapter 9, notches and ease: the contracts of the program's functions and of the reference's. -/
import Derived.Test.YtokoallbhbgkkaaL09
namespace Go.Proofs.Ytokoallbhbgkkaa
open Go.RowKit

/-- Shares in thousandths. -/
def okShares (xs : List Int) : Bool := decide ((xs.length : Int) ≤ 10) && rises xs 1 999
theorem rises_iff {xs : List Int} {lo hi : Int} : rises xs lo hi = true ↔ ∀ i, i < xs.length → riseAt xs lo hi i = true := allUpto_iff
theorem rises_in {xs : List Int} {lo hi : Int} (h : rises xs lo hi = true) {i : Nat} (hi' : i < xs.length) : lo ≤ xs[i] ∧ xs[i] ≤ hi := by
  have := rises_iff.1 h i hi'
  simp [riseAt, hi'] at this
  exact inr_true.1 this.1
theorem areShares_c (a : Option Addr) (xs : List Int) (c : Nat) (w : World) (hx : At w a xs) (hl : xs.length ≤ 9223372036854775807) :
    Calls Try.prog 89 #[.slice a xs.length c] w fun e w' => e = .returned (.bool (okShares xs)) ∧ w = w' := by
  cases h1 : decide ((xs.length : Int) ≤ 10)
  · go_enter Try.func89, Try.ntmps89
    go_wp2_with fail
    go_ret
    exact ⟨ret_bool (by simp [okShares]; simp at h1; omega), rfl⟩
  · go_enter Try.func89, Try.ntmps89
    go_wp2_with fail
    refine (isIncreasing_c _ _ _ _ _ _ hx hl).mono ?_
    rintro e w' ⟨rfl, rfl⟩
    go_wp2_with fail
    go_ret
    exact ⟨ret_bool (by simp [okShares, h1]), rfl⟩
theorem l09Shares_c (a : Option Addr) (xs : List Int) (c : Nat) (w : World) (hx : At w a xs) (hl : xs.length ≤ 9223372036854775807) :
    Calls Try.prog 92 #[.slice a xs.length c] w fun e w' => e = .returned (.bool (okShares xs)) ∧ Below w.heap.size w w' := by
  have hb := Below.refl w.heap.size w
  cases h1 : decide ((xs.length : Int) ≤ 10)
  · go_enter Try.func92, Try.ntmps92
    go_wp2_with fail
    go_ret
    exact ⟨ret_bool (by simp [okShares]; simp at h1; omega), hb⟩
  · go_enter Try.func92, Try.ntmps92
    go_wp2_with fail
    refine (l00Rises_c _ _ _ _ _ _ hx hl).mono ?_
    rintro e w2 ⟨rfl, hb2⟩
    replace hb := upw hb hb2
    go_wp2_with fail
    go_ret
    exact ⟨ret_bool (by simp [okShares, h1]), hb⟩
theorem map_take_succ {α β : Type} (f : α → β) (xs : List α) (k : Nat) (h : k < xs.length) : (xs.take k).map f ++ [f xs[k]] = (xs.take (k + 1)).map f := by
  rw [List.take_succ_eq_append_getElem h, List.map_append]; rfl
/-- The notches of an edge. -/
def notchOk (n : Int) (xs : List Int) : Bool := inr n 1 5000 && okShares xs
def notches (n : Int) (xs : List Int) : List Int := if notchOk n xs then xs.map fun s => rnd (n * s) 1000 else []
def notchCode (n : Int) (xs : List Int) : Int := if notchOk n xs then 0 else 2
theorem NotchesOf_len (n : Int) (xs : List Int) : (notches n xs).length ≤ 10 := by
  unfold notches
  split
  · rename_i h
    simp [notchOk, okShares] at h
    simp; omega
  · simp
theorem mul_in {a b A B : Int} (h1 : 0 ≤ a) (h2 : a ≤ A) (h3 : 0 ≤ b) (h4 : b ≤ B) : 0 ≤ a * b ∧ a * b ≤ A * B :=
  ⟨Int.mul_nonneg h1 h3, Int.mul_le_mul h2 h4 h3 (Int.le_trans h1 h2)⟩
set_option maxHeartbeats 1000000 in
theorem implNotchesOf_c (n : Int) (a : Option Addr) (xs : List Int) (c : Nat) (w : World) (_hn : -9223372036854775808 ≤ n ∧ n ≤ 9223372036854775807) (hx : At w a xs) (hl : xs.length ≤ 9223372036854775807) :
    Calls Try.prog 47 #[.int .i64 n, .slice a xs.length c] w fun e w' => ∃ v, e = .returned (.tuple #[v, .int .i64 (notchCode n xs)]) ∧ Own w.heap.size w' 2 v (notches n xs) ∧ Below w.heap.size w w' := by
  have hb := Below.refl w.heap.size w
  cases h1 : inr n 1 5000
  · have hr : notchCode n xs = 2 := by simp [notchCode, notchOk, h1]
    have hr' : notches n xs = [] := by simp [notches, notchOk, h1]
    rw [hr, hr']
    go_enter Try.func47, Try.ntmps47
    go_wp2_with fail
    refine (isStripLength_c _ _).mono ?_
    rintro e w' ⟨rfl, rfl⟩
    go_wp2_with fail
    go_ret2
    exact ⟨_, rfl, World.ownsRow_nil _ _ _ _, hb⟩
  · cases h2 : okShares xs
    · have hr : notchCode n xs = 2 := by simp [notchCode, notchOk, h2]
      have hr' : notches n xs = [] := by simp [notches, notchOk, h2]
      rw [hr, hr']
      go_enter Try.func47, Try.ntmps47
      go_wp2_with fail
      refine (isStripLength_c _ _).mono ?_
      rintro e w' ⟨rfl, rfl⟩
      go_wp2_with fail
      refine (areShares_c _ _ _ _ hx hl).mono ?_
      rintro e w' ⟨rfl, rfl⟩
      go_wp2_with fail
      go_ret2
      exact ⟨_, rfl, World.ownsRow_nil _ _ _ _, hb⟩
    · have hr : notchCode n xs = 0 := by simp [notchCode, notchOk, h1, h2]
      have hr' : notches n xs = xs.map fun s => rnd (n * s) 1000 := by simp [notches, notchOk, h1, h2]
      rw [hr, hr']
      have h1' := inr_true.1 h1
      have h3 : rises xs 1 999 = true := by simp [okShares] at h2; exact h2.2
      have h4 : xs.length ≤ 10 := by simp [okShares] at h2; omega
      go_enter Try.func47, Try.ntmps47
      go_wp2_with fail
      refine (isStripLength_c _ _).mono ?_
      rintro e w' ⟨rfl, rfl⟩
      go_wp2_with fail
      refine (areShares_c _ _ _ _ hx hl).mono ?_
      rintro e w' ⟨rfl, rfl⟩
      go_wp2_with fail
      go_loopw [6, 8, 20] (fun v _ i wr => ∃ k : Nat, k ≤ xs.length ∧ i = .int .i64 k ∧ Own w.heap.size wr 2 v ((xs.take k).map fun s => rnd (n * s) 1000) ∧ Below w.heap.size w wr) (fun _ _ i _ => xs.length - (intOf i).toNat)
      case atStart => exact ⟨0, Nat.zero_le _, rfl, own_new _ _, hb.alloc (Nat.le_refl _) _⟩
      case round =>
        obtain ⟨k, hk, rfl, hO, hb⟩ := hrel
        by_cases hlt : k < xs.length
        · replace hx := hx.below hb
          obtain ⟨b, off, rfl⟩ := hx.addr hlt
          have c0 := hx.int hlt
          have hin := rises_in h3 hlt
          have hm := mul_in (a := n) (b := xs[k]) (by omega) h1'.2 (by omega) hin.2
          go_wp2_with (first | (go_at_call 85; refine (rounded_c _ _ _ (by omega) (by omega)).mono ?_; rintro e w' ⟨rfl, rfl⟩) | (at_builtin; refine wpList_push rfl (.tmp 24) (.tmp 29) 22 rfl w.heap.size 2 (.int .i64 0) 8 Try.underlying22 infoInt rfl _ _ (rnd (n * xs[k]) 1000) rfl (hO.later ((Below.refl _ _).alloc (Nat.le_refl _) _)) _ _ rfl 2 (heap_alloc_new _ _) (by simp; omega) (by decide) (by have := hb.size; simp; omega) ?_; intro v1 w1 hO1 hg1))
          go_roundw
          case rel => exact ⟨k + 1, by omega, by go_num, by rw [← map_take_succ _ _ _ hlt]; exact hO1, below_mark (hb.alloc hb.size _) (hO.later ((Below.refl _ _).alloc (Nat.le_refl _) _)) (Nat.le_refl _) hg1⟩
          case measure => simp [intOf]; omega
        · go_wp2_with fail
          go_ret2
          rw [List.take_of_length_le (by omega)] at hO
          exact ⟨_, rfl, hO, hb⟩
set_option maxHeartbeats 1000000 in
theorem specNotchesOf_c (n : Int) (a : Option Addr) (xs : List Int) (c : Nat) (w : World) (_hn : -9223372036854775808 ≤ n ∧ n ≤ 9223372036854775807) (hx : At w a xs) (hl : xs.length ≤ 9223372036854775807) :
    Calls Try.prog 48 #[.int .i64 n, .slice a xs.length c] w fun e w' => ∃ v, e = .returned (.tuple #[v, .int .i64 (notchCode n xs)]) ∧ Own w.heap.size w' 2 v (notches n xs) ∧ Below w.heap.size w w' := by
  have hb := Below.refl w.heap.size w
  cases h1 : inr n 1 5000
  · have hr : notchCode n xs = 2 := by simp [notchCode, notchOk, h1]
    have hr' : notches n xs = [] := by simp [notches, notchOk, h1]
    rw [hr, hr']
    go_enter Try.func48, Try.ntmps48
    go_wp2_with fail
    refine (l09Length_c _ _).mono ?_
    rintro e w' ⟨rfl, rfl⟩
    go_wp2_with fail
    go_ret2
    exact ⟨_, rfl, World.ownsRow_nil _ _ _ _, hb⟩
  · cases h2 : okShares xs
    · have hr : notchCode n xs = 2 := by simp [notchCode, notchOk, h2]
      have hr' : notches n xs = [] := by simp [notches, notchOk, h2]
      rw [hr, hr']
      go_enter Try.func48, Try.ntmps48
      go_wp2_with fail
      refine (l09Length_c _ _).mono ?_
      rintro e w' ⟨rfl, rfl⟩
      go_wp2_with fail
      refine (l09Shares_c _ _ _ _ hx hl).mono ?_
      rintro e w2 ⟨rfl, hb2⟩
      replace hb := upw hb hb2
      go_wp2_with fail
      go_ret2
      exact ⟨_, rfl, World.ownsRow_nil _ _ _ _, hb⟩
    · have hr : notchCode n xs = 0 := by simp [notchCode, notchOk, h1, h2]
      have hr' : notches n xs = xs.map fun s => rnd (n * s) 1000 := by simp [notches, notchOk, h1, h2]
      rw [hr, hr']
      have h1' := inr_true.1 h1
      have h3 : rises xs 1 999 = true := by simp [okShares] at h2; exact h2.2
      have h4 : xs.length ≤ 10 := by simp [okShares] at h2; omega
      go_enter Try.func48, Try.ntmps48
      go_wp2_with fail
      refine (l09Length_c _ _).mono ?_
      rintro e w' ⟨rfl, rfl⟩
      go_wp2_with fail
      refine (l09Shares_c _ _ _ _ hx hl).mono ?_
      rintro e w2 ⟨rfl, hb2⟩
      replace hb := upw hb hb2
      go_wp2_with fail
      go_loopw [6, 7] (fun v i wr => ∃ k : Nat, k ≤ xs.length ∧ i = .int .i64 k ∧ Own w.heap.size wr 2 v ((xs.take k).map fun s => rnd (n * s) 1000) ∧ Below w.heap.size w wr) (fun _ i _ => xs.length - (intOf i).toNat)
      case atStart => exact ⟨0, Nat.zero_le _, rfl, (own_new _ _).base hb.size, hb.alloc hb.size _⟩
      case round =>
        obtain ⟨k, hk, rfl, hO, hb⟩ := hrel
        by_cases hlt : k < xs.length
        · replace hx := hx.below hb
          obtain ⟨b, off, rfl⟩ := hx.addr hlt
          have c0 := hx.int hlt
          have hin := rises_in h3 hlt
          have hm := mul_in (a := n) (b := xs[k]) (by omega) h1'.2 (by omega) hin.2
          go_wp2_with (first | (go_at_call 93; refine (l02Round_c _ _ _ (by omega) (by omega)).mono ?_; rintro e w' ⟨rfl, rfl⟩) | (at_builtin; refine wpList_push rfl (.tmp 23) (.tmp 31) 22 rfl w.heap.size 2 (.int .i64 0) 8 Try.underlying22 infoInt rfl _ _ (rnd (n * xs[k]) 1000) rfl (hO.later ((Below.refl _ _).alloc (Nat.le_refl _) _)) _ _ rfl 2 (heap_alloc_new _ _) (by simp; omega) (by decide) (by have := hb.size; simp; omega) ?_; intro v1 w1 hO1 hg1))
          go_roundw
          case rel => exact ⟨k + 1, by omega, by go_num, by rw [← map_take_succ _ _ _ hlt]; exact hO1, below_mark (hb.alloc hb.size _) (hO.later ((Below.refl _ _).alloc (Nat.le_refl _) _)) (Nat.le_refl _) hg1⟩
          case measure => simp [intOf]; omega
        · go_wp2_with fail
          go_ret2
          rw [List.take_of_length_le (by omega)] at hO
          exact ⟨_, rfl, hO, hb⟩
end Go.Proofs.Ytokoallbhbgkkaa
