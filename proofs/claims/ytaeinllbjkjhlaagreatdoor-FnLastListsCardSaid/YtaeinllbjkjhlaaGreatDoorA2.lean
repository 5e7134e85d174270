/- What the laws' own small functions answer. -/
import Derived.Test.YtaeinllbjkjhlaaGreatDoorSrc
namespace Go.Proofs.YtaeinllbjkjhlaaGreatDoor
open Go.RowKit

theorem a2Long_c (a a' : Option Addr) (L M : List UInt8) (c c' : Nat) (w : World) :
    Calls Tryz.prog 5 #[.slice a L.length c, .slice a' M.length c'] w fun e w' => e = .returned (.bool (decide (3000 < L.length) || decide (3000 < M.length))) ∧ w = w' := by
  by_cases h1 : 3000 < L.length
  · have h1' : (3000 : Int) < L.length := by omega
    have e : decide (3000 < L.length) = true := by simpa using h1
    rw [e]
    go_enter Tryz.func5, Tryz.ntmps5
    go_wp2_with fail
    go_ret
    exact ⟨by simp, rfl⟩
  · have h1' : ¬ (3000 : Int) < L.length := by omega
    have e : decide (3000 < L.length) = false := by simpa using h1
    rw [e]
    have e2 : decide (3000 < M.length) = decide ((3000 : Int) < M.length) := by rw [decide_eq_decide]; omega
    rw [e2]
    go_enter Tryz.func5, Tryz.ntmps5
    go_wp2_with fail
    go_ret
    exact ⟨by simp, rfl⟩
end Go.Proofs.YtaeinllbjkjhlaaGreatDoor
