/- How two numbers are held against each other. -/
import Derived.Test.YtlaclknhenccdaaInts
namespace Go.Proofs.Ytlaclknhenccdaa
open Go.RowKit

def cmpZ (x y : Int) : Int := if x < y then -1 else if y < x then 1 else 0
theorem cmpZ_neg (x y : Int) : decide (cmpZ x y < 0) = decide (x < y) := by
  unfold cmpZ
  by_cases h : x < y
  · simp [h]
  · by_cases h2 : y < x <;> simp [h, h2]
theorem isNaNZ_c (x : Int) (w : World) : Calls Try.prog 164 #[.int .i64 x] w fun e w' => e = .returned (.bool false) ∧ w' = w := by
  go_enter Try.func164, Try.ntmps164
  go_wp2
  go_ret
  exact ⟨by simp, rfl⟩
set_option maxHeartbeats 1000000 in
theorem compareZ_c (x y : Int) (w : World) : Calls Try.prog 120 #[.int .i64 x, .int .i64 y] w fun e w' => e = .returned (.int .i64 (cmpZ x y)) ∧ w' = w := by
  go_enter Try.func120, Try.ntmps120
  go_wp2_with (go_at_call 164; refine (isNaNZ_c _ _).mono ?_; rintro e w' ⟨rfl, hw⟩; rw [hw])
  all_goals (go_ret; refine ⟨?_, rfl⟩; unfold cmpZ; (repeat' split) <;> first | rfl | (exfalso; omega))
end Go.Proofs.Ytlaclknhenccdaa
