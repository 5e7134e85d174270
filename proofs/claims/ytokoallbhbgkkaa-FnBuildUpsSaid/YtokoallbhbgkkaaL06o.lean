/- Chapter 6, the program: FewestWithin. -/
import Derived.Test.YtokoallbhbgkkaaL06n
namespace Go.Proofs.Ytokoallbhbgkkaa
open Go.RowKit

theorem isBuild_c (s : Int) (w : World) : Calls Try.prog 61 #[.int .i64 s] w fun e w' => e = .returned (.bool (inr s 0 1000)) ∧ w = w' := by
  go_enter Try.func61, Try.ntmps61
  go_wp2_with (go_at_call 62; refine (within_c _ _ _ _).mono ?_; rintro e w' ⟨rfl, rfl⟩)
  go_ret
  exact ⟨rfl, rfl⟩
theorem layersCode_c (a : Option Addr) (ls : List Int) (c : Nat) (s : Int) (w : World) (hx : At w a ls) (hl : ls.length ≤ 9223372036854775807) :
    Calls Try.prog 75 #[.slice a ls.length c, .int .i64 s] w fun e w' => e = .returned (.int .i64 (codeL ls s)) ∧ w = w' := by
  cases h1 : layOk ls <;> cases h2 : inr s 0 1000
  all_goals
    go_enter Try.func75, Try.ntmps75
    go_wp2_with (first | (go_at_call 60; refine (validLayers_c _ _ _ _ hx hl).mono ?_; rintro e w1 ⟨rfl, rfl⟩; rw [h1]) | (go_at_call 61; refine (isBuild_c _ _).mono ?_; rintro e w' ⟨rfl, rfl⟩; rw [h2]))
    go_ret
    exact ⟨by simp [codeL, h1, h2], rfl⟩
theorem fwRes_bad {ls : List Int} {low high : Int} (h : layOk ls = false) : fwRes ls low high = ([], 1) := by
  have : codeL ls high = 1 := by unfold codeL; rw [h]; rfl
  unfold fwRes; rw [this]; rfl
theorem fwRes_high {ls : List Int} {low high : Int} (h : layOk ls = true) (h2 : inr high 0 1000 = false) : fwRes ls low high = ([], 2) := by
  have : codeL ls high = 2 := by unfold codeL; rw [h, h2]; rfl
  unfold fwRes; rw [this]; rfl
theorem fwRes_low {ls : List Int} {low high : Int} (h : layOk ls = true) (h2 : inr high 0 1000 = true) (h3 : inr low 0 high = false) : fwRes ls low high = ([], 2) := by
  have : codeL ls high = 0 := by unfold codeL; rw [h, h2]; rfl
  unfold fwRes; rw [this, h3]; rfl
theorem fwRes_in {ls : List Int} {low high : Int} (h : layOk ls = true) (h2 : inr high 0 1000 = true) (h3 : inr low 0 high = true) : fwRes ls low high = (match withinB ls low.toNat (high.toNat + 1 - low.toNat) with | none => ([], 3) | some x => (x, 0)) := by
  have : codeL ls high = 0 := by unfold codeL; rw [h, h2]; rfl
  unfold fwRes; rw [this, h3]; rfl
set_option maxHeartbeats 2000000 in
theorem implFewestWithin_c0 (a : Option Addr) (ls : List Int) (c : Nat) (low high : Int) (w : World) (hx : At w a ls) (hl : ls.length ≤ 9223372036854775807) :
    Calls Try.prog 12 #[.slice a ls.length c, .int .i64 low, .int .i64 high] w fun e w' => ∃ v, e = .returned (.tuple #[v, .int .i64 (fwRes ls low high).2]) ∧ Own w.heap.size w' 2 v (fwRes ls low high).1 ∧ Below w.heap.size w w' := by
  have hnil : Own w.heap.size w 2 (.slice none 0 0) ([] : List Int) := ⟨by simp [flat], Or.inl ⟨rfl, rfl⟩⟩
  cases h1 : layOk ls with
  | false =>
    rw [fwRes_bad h1]
    go_enter Try.func12, Try.ntmps12
    go_wp2_with (go_at_call 60; refine (validLayers_c _ _ _ _ hx hl).mono ?_; rintro e w1 ⟨rfl, rfl⟩; rw [h1])
    go_ret2
    exact ⟨_, rfl, hnil, Below.refl _ _⟩
  | true =>
    cases h2 : inr high 0 1000 with
    | false =>
      rw [fwRes_high h1 h2]
      go_enter Try.func12, Try.ntmps12
      go_wp2_with (first | (go_at_call 60; refine (validLayers_c _ _ _ _ hx hl).mono ?_; rintro e w1 ⟨rfl, rfl⟩; rw [h1]) | (go_at_call 61; refine (isBuild_c _ _).mono ?_; rintro e w' ⟨rfl, rfl⟩; rw [h2]))
      go_ret2
      exact ⟨_, rfl, hnil, Below.refl _ _⟩
    | true =>
      cases h3 : inr low 0 high with
      | false =>
        rw [fwRes_low h1 h2 h3]
        go_enter Try.func12, Try.ntmps12
        go_wp2_with (first | (go_at_call 60; refine (validLayers_c _ _ _ _ hx hl).mono ?_; rintro e w1 ⟨rfl, rfl⟩; rw [h1]) | (go_at_call 61; refine (isBuild_c _ _).mono ?_; rintro e w' ⟨rfl, rfl⟩; rw [h2]) | (go_at_call 62; refine (within_c _ _ _ _).mono ?_; rintro e w' ⟨rfl, rfl⟩; rw [h3]))
        go_ret2
        exact ⟨_, rfl, hnil, Below.refl _ _⟩
      | true =>
        rw [fwRes_in h1 h2 h3]
        have g2 := inr_true.1 h2
        have g3 := inr_true.1 h3
        obtain ⟨lo, rfl⟩ : ∃ n : Nat, low = n := ⟨low.toNat, by omega⟩
        obtain ⟨hi, rfl⟩ : ∃ n : Nat, high = n := ⟨high.toNat, by omega⟩
        have hcc := firstWithin_c a ls c lo hi w hx (layOk_is h1) (by omega) (by omega)
        simp only [Int.toNat_natCast]
        cases hw : withinB ls lo (hi + 1 - lo) with
        | none =>
          rw [hw] at hcc
          go_enter Try.func12, Try.ntmps12
          go_wp2_with (first | (go_at_call 60; refine (validLayers_c _ _ _ _ hx hl).mono ?_; rintro e w1 ⟨rfl, rfl⟩; rw [h1]) | (go_at_call 61; refine (isBuild_c _ _).mono ?_; rintro e w' ⟨rfl, rfl⟩; rw [h2]) | (go_at_call 62; refine (within_c _ _ _ _).mono ?_; rintro e w' ⟨rfl, rfl⟩; rw [h3]) | (go_at_call 63; refine hcc.mono ?_; rintro e w2 ⟨v, rfl, hO, hb⟩))
          go_ret2
          exact ⟨_, rfl, hnil.later hb, hb⟩
        | some x =>
          rw [hw] at hcc
          go_enter Try.func12, Try.ntmps12
          go_wp2_with (first | (go_at_call 60; refine (validLayers_c _ _ _ _ hx hl).mono ?_; rintro e w1 ⟨rfl, rfl⟩; rw [h1]) | (go_at_call 61; refine (isBuild_c _ _).mono ?_; rintro e w' ⟨rfl, rfl⟩; rw [h2]) | (go_at_call 62; refine (within_c _ _ _ _).mono ?_; rintro e w' ⟨rfl, rfl⟩; rw [h3]) | (go_at_call 63; refine hcc.mono ?_; rintro e w2 ⟨v, rfl, hO, hb⟩))
          go_ret2
          exact ⟨_, rfl, hO, hb⟩
theorem FewestWithin_len (ls : List Int) (low high : Int) : (fwRes ls low high).1.length ≤ 1000 := by
  unfold fwRes
  by_cases hc : codeL ls high = 0
  · rw [if_pos hc]
    split
    · cases hw : withinB ls low.toNat (high.toNat + 1 - low.toNat) with
      | none => simp
      | some x =>
        obtain ⟨n, _, h1, h2⟩ := withinB_is hw
        have := shortest_length h2
        have := codeL_zero hc
        show x.length ≤ 1000
        omega
    · simp
  · rw [if_neg hc]; simp
theorem implFewestWithin_c (a : Option Addr) (ls : List Int) (c : Nat) (low high : Int) (w : World) (hx : At w a ls) (hl : ls.length ≤ 9223372036854775807) (_h1 : -9223372036854775808 ≤ low ∧ low ≤ 9223372036854775807) (_h2 : -9223372036854775808 ≤ high ∧ high ≤ 9223372036854775807) :
    Calls Try.prog 12 #[.slice a ls.length c, .int .i64 low, .int .i64 high] w fun e w' => ∃ v, e = .returned (.tuple #[v, .int .i64 (fwRes ls low high).2]) ∧ Own w.heap.size w' 2 v (fwRes ls low high).1 ∧ Below w.heap.size w w' := implFewestWithin_c0 a ls c low high w hx hl
theorem specFewestWithin_c (a : Option Addr) (ls : List Int) (c : Nat) (low high : Int) (w : World) (hx : At w a ls) (hl : ls.length ≤ 9223372036854775807) (_h1 : -9223372036854775808 ≤ low ∧ low ≤ 9223372036854775807) (_h2 : -9223372036854775808 ≤ high ∧ high ≤ 9223372036854775807) :
    Calls Try.prog 10 #[.slice a ls.length c, .int .i64 low, .int .i64 high] w fun e w' => ∃ v, e = .returned (.tuple #[v, .int .i64 (fwRes ls low high).2]) ∧ Own w.heap.size w' 2 v (fwRes ls low high).1 ∧ Below w.heap.size w w' := specFewestWithin_c0 a ls c low high w hx hl
end Go.Proofs.Ytokoallbhbgkkaa
