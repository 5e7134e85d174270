/- The middle of feet, and feet that are far from it: the program. -/
import Derived.Test.YtledlkggggpdpaaGreatDoorMid3
import Derived.Test.YtledlkggggpdpaaGreatDoorDelFoot
import Derived.Test.YtledlkggggpdpaaGreatDoorG02
namespace Go.Proofs.YtledlkggggpdpaaGreatDoor
open Go.RowKit

def halfOf (xs : List Int) : Int := xs.getD ((xs.length - 1) / 2) 0
theorem half_mid (xs : List Int) : halfOf (srt xs) = midOf xs := by unfold halfOf midOf; rw [srt_length]
/-- The middle of feet. -/
def midFoot (fs : List Foot) : Foot := ⟨midOf (col 0 fs), midOf (col 1 fs), midOf (col 2 fs), midOf (col 3 fs)⟩
theorem kind_ok {f : Foot} (h : okFoot f = true) (k : Nat) (hk : k < 4) : 500 ≤ kindOf k f ∧ kindOf k f ≤ 5000 := by
  rw [okFoot_iff] at h
  rcases (by omega : k = 0 ∨ k = 1 ∨ k = 2 ∨ k = 3) with rfl | rfl | rfl | rfl
  · show 500 ≤ f.Length ∧ f.Length ≤ 5000; omega
  · show 500 ≤ f.Ball ∧ f.Ball ≤ 5000; omega
  · show 500 ≤ f.Instep ∧ f.Instep ≤ 5000; omega
  · show 500 ≤ f.Heel ∧ f.Heel ≤ 5000; omega
theorem mid_ok {fs : List Foot} (h : ∀ f ∈ fs, okFoot f = true) (hn : 0 < fs.length) : okFoot (midFoot fs) = true := by
  have key : ∀ k, k < 4 → 500 ≤ midOf (col k fs) ∧ midOf (col k fs) ≤ 5000 := fun k hk => by
    have hm := mid_mem (xs := col k fs) (by rw [col_length]; exact hn)
    obtain ⟨f, hf, e⟩ := List.mem_map.1 hm
    rw [← e]
    exact kind_ok (h f hf) k hk
  rw [okFoot_iff]
  exact ⟨key 0 (by omega), key 1 (by omega), key 2 (by omega), key 3 (by omega)⟩
theorem feetCode_ok (a : Option Addr) (fs : List Foot) (c : Nat) (m : Int) (w : World) (hx : At w a fs) (hl : fs.length ≤ 30) (hn : 0 < fs.length) (hv : ∀ f ∈ fs, okFoot f = true) (hm : 0 ≤ m ∧ m ≤ 5000) :
    Calls Tryz.prog 140 #[.slice a fs.length c, .int .i64 m] w fun e w' => e = .returned (.int .i64 0) ∧ Below w.heap.size w w' := by
  have h1 : inr m 0 5000 = true := inr_true.2 hm
  have h2 : ((fs.length : Int) == 0) = false := beq_eq_false_iff_ne.2 (by omega)
  replace hv := Lib.hid hv
  go_enter Tryz.func140, Tryz.ntmps140
  go_wp2_with fail
  refine (validFeet_ok a fs c w hx hl hv.out).mono ?_
  rintro e w2 ⟨rfl, hb⟩
  go_wp2_with fail
  refine (as_bool h1 (within_c _ _ _ _)).mono ?_
  rintro e w' ⟨rfl, rfl⟩
  go_wp2_with fail
  go_ret
  exact ⟨rfl, hb⟩
/-- A foot is far from another one. -/
def farAt (f g : Foot) (m : Int) (k : Nat) : Bool := decide (m < size (kindOf k f - kindOf k g))
def farB (f g : Foot) (m : Int) : Bool := (List.range 4).any (farAt f g m)
theorem farB_iff {f g : Foot} {m : Int} : farB f g m = true ↔ ∃ k, k < 4 ∧ farAt f g m k = true := by simp [farB]
theorem farB_max (f g : Foot) (m : Int) : farB f g m = decide (m < max (size (f.Length - g.Length)) (max (size (f.Ball - g.Ball)) (max (size (f.Instep - g.Instep)) (size (f.Heel - g.Heel))))) := by
  have e : farB f g m = (decide (m < size (f.Length - g.Length)) || decide (m < size (f.Ball - g.Ball)) || decide (m < size (f.Instep - g.Instep)) || decide (m < size (f.Heel - g.Heel))) := by
    simp [farB, farAt, kindOf, fourOf, List.range_succ, Bool.or_assoc]
  rw [e, Bool.eq_iff_iff]
  simp only [Bool.or_eq_true, decide_eq_true_eq]
  omega
end Go.Proofs.YtledlkggggpdpaaGreatDoor
