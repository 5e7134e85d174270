/- Chapter 6: are numbers layers? -/
import Derived.Test.YtokoallbhbgkkaaL06f
import Derived.Test.YtokoallbhbgkkaaL09m
namespace Go.Proofs.Ytokoallbhbgkkaa
open Go.RowKit

/-- Is a list a list of layers? -/
def layOk (ls : List Int) : Bool := inr (ls.length : Int) 1 8 && rises ls 1 200
theorem layOk_is {ls : List Int} (h : layOk ls = true) : LayOk ls := by
  simp only [layOk, Bool.and_eq_true] at h
  have h1 := inr_true.1 h.1
  exact ⟨by omega, fun i hi => rises_in h.2 hi⟩
theorem l06Ok_c (a : Option Addr) (ls : List Int) (c : Nat) (w : World) (hx : At w a ls) (hl : ls.length ≤ 9223372036854775807) :
    Calls Try.prog 64 #[.slice a ls.length c] w fun e w' => e = .returned (.bool (layOk ls)) ∧ Below w.heap.size w w' := by
  have hb := Below.refl w.heap.size w
  unfold layOk
  cases h1 : inr (ls.length : Int) 1 8 with
  | false =>
    go_enter Try.func64, Try.ntmps64
    go_wp2_with (first | (go_at_call 58; refine (l00In_c _ _ _ _).mono ?_; rintro e w' ⟨rfl, rfl⟩))
    go_ret
    exact ⟨by simp, hb⟩
  | true =>
    go_enter Try.func64, Try.ntmps64
    go_wp2_with (first | (go_at_call 58; refine (l00In_c _ _ _ _).mono ?_; rintro e w' ⟨rfl, rfl⟩) | (go_at_call 98; refine (l00Rises_c _ _ _ _ _ _ hx hl).mono ?_; rintro e w1 ⟨rfl, hb⟩))
    go_ret
    exact ⟨by simp, hb⟩
theorem validLayers_c (a : Option Addr) (ls : List Int) (c : Nat) (w : World) (hx : At w a ls) (hl : ls.length ≤ 9223372036854775807) :
    Calls Try.prog 60 #[.slice a ls.length c] w fun e w' => e = .returned (.bool (layOk ls)) ∧ w = w' := by
  unfold layOk
  cases h1 : inr (ls.length : Int) 1 8 with
  | false =>
    go_enter Try.func60, Try.ntmps60
    go_wp2_with (first | (go_at_call 62; refine (within_c _ _ _ _).mono ?_; rintro e w' ⟨rfl, rfl⟩))
    go_ret
    exact ⟨by simp, rfl⟩
  | true =>
    go_enter Try.func60, Try.ntmps60
    go_wp2_with (first | (go_at_call 62; refine (within_c _ _ _ _).mono ?_; rintro e w' ⟨rfl, rfl⟩) | (go_at_call 97; refine (isIncreasing_c _ _ _ _ _ _ hx hl).mono ?_; rintro e w1 ⟨rfl, rfl⟩))
    go_ret
    exact ⟨by simp, rfl⟩
/-- The code of layers and a sum. -/
def codeL (ls : List Int) (s : Int) : Int := if layOk ls then (if inr s 0 1000 then 0 else 2) else 1
set_option maxHeartbeats 1000000 in
theorem l06Code_c (a : Option Addr) (ls : List Int) (c : Nat) (s : Int) (w : World) (hx : At w a ls) (hl : ls.length ≤ 9223372036854775807) :
    Calls Try.prog 57 #[.slice a ls.length c, .int .i64 s] w fun e w' => e = .returned (.int .i64 (codeL ls s)) ∧ Below w.heap.size w w' := by
  cases h1 : layOk ls <;> cases h2 : inr s 0 1000
  all_goals
    go_enter Try.func57, Try.ntmps57
    go_wp2_with (first | (go_at_call 64; refine (l06Ok_c _ _ _ _ hx hl).mono ?_; rintro e w1 ⟨rfl, hb⟩; rw [h1]) | (go_at_call 58; refine (l00In_c _ _ _ _).mono ?_; rintro e w' ⟨rfl, rfl⟩; rw [h2]))
    go_ret
    exact ⟨by simp [codeL, h1, h2], hb⟩
end Go.Proofs.Ytokoallbhbgkkaa
