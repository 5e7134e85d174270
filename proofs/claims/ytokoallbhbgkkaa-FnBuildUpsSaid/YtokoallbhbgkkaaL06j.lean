/- Chapter 6, the reference: FewestWithin. -/
import Derived.Test.YtokoallbhbgkkaaL06h
import Derived.Test.YtokoallbhbgkkaaL06i
namespace Go.Proofs.Ytokoallbhbgkkaa
open Go.RowKit

/-- What FewestWithin answers. -/
def fwRes (ls : List Int) (low high : Int) : List Int × Int :=
  if codeL ls high = 0 then (if inr low 0 high then (match withinB ls low.toNat (high.toNat + 1 - low.toNat) with | none => ([], 3) | some x => (x, 0)) else ([], 2)) else ([], codeL ls high)
theorem codeL_zero {ls : List Int} {s : Int} (h : codeL ls s = 0) : layOk ls = true ∧ 0 ≤ s ∧ s ≤ 1000 := by
  unfold codeL at h
  by_cases h1 : layOk ls = true
  · rw [if_pos h1] at h
    by_cases h2 : inr s 0 1000 = true
    · exact ⟨h1, inr_true.1 h2⟩
    · rw [if_neg h2] at h; omega
  · rw [if_neg h1] at h; omega
set_option maxHeartbeats 1000000 in
theorem specFewestWithin_c0 (a : Option Addr) (ls : List Int) (c : Nat) (low high : Int) (w : World) (hx : At w a ls) (hl : ls.length ≤ 9223372036854775807) :
    Calls Try.prog 10 #[.slice a ls.length c, .int .i64 low, .int .i64 high] w fun e w' => ∃ v, e = .returned (.tuple #[v, .int .i64 (fwRes ls low high).2]) ∧ Own w.heap.size w' 2 v (fwRes ls low high).1 ∧ Below w.heap.size w w' := by
  by_cases h0 : codeL ls high = 0
  · obtain ⟨hok, hh⟩ := codeL_zero h0
    cases h1 : inr low 0 high with
    | false =>
      have hr : fwRes ls low high = ([], 2) := by unfold fwRes; rw [if_pos h0, h1]; rfl
      rw [hr]
      go_enter Try.func10, Try.ntmps10
      go_wp2_with (first | (go_at_call 57; refine (l06Code_c _ _ _ _ _ hx hl).mono ?_; rintro e w1 ⟨rfl, hb⟩; rw [h0]) | (go_at_call 58; refine (l00In_c _ _ _ _).mono ?_; rintro e w' ⟨rfl, rfl⟩; rw [h1]))
      go_ret2
      exact ⟨_, rfl, ⟨by simp [flat], Or.inl ⟨rfl, rfl⟩⟩, hb⟩
    | true =>
      have h1' := inr_true.1 h1
      obtain ⟨lo, rfl⟩ : ∃ n : Nat, low = n := ⟨low.toNat, by omega⟩
      obtain ⟨hi, rfl⟩ : ∃ n : Nat, high = n := ⟨high.toNat, by omega⟩
      have hr : fwRes ls lo hi = (match withinB ls lo (hi + 1 - lo) with | none => ([], 3) | some x => (x, 0)) := by unfold fwRes; rw [if_pos h0, h1]; rfl
      rw [hr]
      cases hw : withinB ls lo (hi + 1 - lo) with
      | none =>
        go_enter Try.func10, Try.ntmps10
        go_wp2_with (first | (go_at_call 57; refine (l06Code_c _ _ _ _ _ hx hl).mono ?_; rintro e w1 ⟨rfl, hb⟩; rw [h0]) | (go_at_call 58; refine (l00In_c _ _ _ _).mono ?_; rintro e w' ⟨rfl, rfl⟩; rw [h1]) | (go_at_call 59; refine (l06Within_c _ _ _ _ _ _ (hx.below hb) (layOk_is hok) (by omega) (by omega)).mono ?_; rintro e w2 ⟨v, rfl, hO, hb2⟩; rw [hw]))
        go_ret2
        exact ⟨_, rfl, ⟨by simp [flat], Or.inl ⟨rfl, rfl⟩⟩, upw hb hb2⟩
      | some x =>
        go_enter Try.func10, Try.ntmps10
        go_wp2_with (first | (go_at_call 57; refine (l06Code_c _ _ _ _ _ hx hl).mono ?_; rintro e w1 ⟨rfl, hb⟩; rw [h0]) | (go_at_call 58; refine (l00In_c _ _ _ _).mono ?_; rintro e w' ⟨rfl, rfl⟩; rw [h1]) | (go_at_call 59; refine (l06Within_c _ _ _ _ _ _ (hx.below hb) (layOk_is hok) (by omega) (by omega)).mono ?_; rintro e w2 ⟨v, rfl, hO, hb2⟩; rw [hw] at hO ⊢))
        go_ret2
        exact ⟨_, rfl, hO.base hb.size, upw hb hb2⟩
  · have hr : fwRes ls low high = ([], codeL ls high) := by unfold fwRes; rw [if_neg h0]
    rw [hr]
    have hcall := l06Code_c a ls c high w hx hl
    generalize codeL ls high = q at hcall h0
    go_enter Try.func10, Try.ntmps10
    go_wp2_with (go_at_call 57; refine hcall.mono ?_; rintro e w1 ⟨rfl, hb⟩)
    go_ret2
    exact ⟨_, rfl, ⟨by simp [flat], Or.inl ⟨rfl, rfl⟩⟩, hb⟩
end Go.Proofs.Ytokoallbhbgkkaa
