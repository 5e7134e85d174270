/- The law's own helpers on lists of numbers. -/
import Derived.Test.YtaeinllbjkjhlaaGreatDoorNum
namespace Go.Proofs.YtaeinllbjkjhlaaGreatDoor
open Go.RowKit

theorem f6big_c (a : Option Addr) (n c : Nat) (w : World) : Calls Tryz.prog 15 #[.slice a n c] w fun e w' => e = .returned (.bool (decide (4096 < n))) ∧ w = w' := by
  by_cases h : 4096 < n
  · have h' : 4096 < (n : Int) := by omega
    go_enter Tryz.func15, Tryz.ntmps15
    go_wp2_with fail
    go_ret
    exact ⟨by simpa using h, rfl⟩
  · have h' : ¬ 4096 < (n : Int) := by omega
    go_enter Tryz.func15, Tryz.ntmps15
    go_wp2_with fail
    go_ret
    exact ⟨by simp, rfl⟩
end Go.Proofs.YtaeinllbjkjhlaaGreatDoor
