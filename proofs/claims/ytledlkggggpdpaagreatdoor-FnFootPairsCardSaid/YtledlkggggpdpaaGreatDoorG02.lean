/- Growth, the program: GrowthOf and LengthOn, where all is valid. -/
import Derived.Test.YtledlkggggpdpaaGreatDoorGrowMath
import Derived.Test.YtledlkggggpdpaaGreatDoorF04
import Derived.Test.YtledlkggggpdpaaGreatDoorGcd
import Derived.Test.YtledlkggggpdpaaGreatDoorSmall
namespace Go.Proofs.YtledlkggggpdpaaGreatDoor
open Go.RowKit
theorem ne_blkG {a b n c : Nat} (h : b ≠ a) : (Value.slice (some ⟨a, 0, none⟩) n c).ownBlock ≠ some b := fun e => h (Option.some.inj (show some a = some b from e)).symm

theorem validFeet1_c (f : Foot) (w : World) : Calls Tryz.prog 234 #[.agg #[.int .i64 f.Length, .int .i64 f.Ball, .int .i64 f.Instep, .int .i64 f.Heel]] w fun e w' => e = .returned (.bool (!okFoot f)) ∧ Below w.heap.size w w' := by
  have hb0 := newB w (.cells #[.int .i64 f.Length, .int .i64 f.Ball, .int .i64 f.Instep, .int .i64 f.Heel] 25)
  go_enter Tryz.func234, Tryz.ntmps234
  go_wp2_with fail
  refine (validFoot_c f _).mono ?_
  rintro e w2 ⟨rfl, hb2⟩
  go_wp2_with fail
  go_ret
  exact ⟨rfl, upw hb0 hb2⟩
theorem validFeet1_enters : Enters Tryz.prog 234 := enters_of Tryz.func234 (by kernel_rfl) (by kernel_rfl)
theorem validFeet_ok (a : Option Addr) (xs : List Foot) (c : Nat) (w : World) (hx : At w a xs) (hl : xs.length ≤ 30) (hv : ∀ f ∈ xs, okFoot f = true) :
    Calls Tryz.prog 205 #[.slice a xs.length c] w fun e w' => e = .returned (.bool true) ∧ Below w.heap.size w w' := by
  have hC := containsFoots_any a xs c 234 #[] (fun f => !okFoot f) w validFeet1_enters hx (by omega) (fun x _ w' _ => by simpa using validFeet1_c x w')
  have e : xs.any (fun f => !okFoot f) = false := by rw [List.any_eq_false]; intro f hf; simp [hv f hf]
  rw [e] at hC
  replace hC := Lib.hid hC
  have hl2 : (xs.length : Int) ≤ 30 := by omega
  go_enter Tryz.func205, Tryz.ntmps205
  go_wp2_with fail
  refine hC.out.mono ?_
  rintro e w2 ⟨rfl, hb2⟩
  go_wp2_with fail
  go_ret
  exact ⟨rfl, hb2⟩
end Go.Proofs.YtledlkggggpdpaaGreatDoor
