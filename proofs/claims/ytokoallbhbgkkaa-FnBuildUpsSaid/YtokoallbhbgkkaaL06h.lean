/- Chapter 6, the reference: the first build with a sum between two limits. -/
import Derived.Test.YtokoallbhbgkkaaL06g
namespace Go.Proofs.Ytokoallbhbgkkaa
open Go.RowKit

set_option maxHeartbeats 4000000 in
theorem l06Within_c (a : Option Addr) (ls : List Int) (c low high : Nat) (w : World) (hx : At w a ls) (hok : LayOk ls) (hn : high ≤ 1000) (hlow : low ≤ high) :
    Calls Try.prog 59 #[.slice a ls.length c, .int .i64 low, .int .i64 high] w fun e w' => ∃ v, e = .returned (.tuple #[v, .bool (withinB ls low (high + 1 - low)).isSome]) ∧ Own w.heap.size w' 2 v ((withinB ls low (high + 1 - low)).getD []) ∧ Below w.heap.size w w' := by
  have hlen := hok.len
  have hfl := Lib.hid (fewL_length ls (high + 1))
  go_enter Try.func59, Try.ntmps59
  go_wp2_with (go_at_call 101; refine (l06Few_c _ _ _ _ _ hx hok hn).mono ?_; rintro e w1 ⟨v8, rfl, hF, hb⟩)
  obtain ⟨g, cap, rfl⟩ := hF.row (by rw [hfl.out]; omega)
  go_wp2_with fail
  go_loopw [9, 10, 11] (fun v f i wq => ∃ k : Nat, low + k ≤ high + 1 ∧ i = .int .i64 ((low + k : Nat) : Int) ∧ f = .bool (withinB ls low k).isSome ∧ Own w.heap.size wq 2 v ((withinB ls low k).getD []) ∧ Own w.heap.size wq 2 (.slice (some ⟨g, 0, none⟩) (fewL ls (high + 1)).length cap) (fewL ls (high + 1)) ∧ Below w.heap.size w wq) (fun _ _ i _ => high + 1 - (intOf i).toNat)
  case atStart => exact ⟨0, by omega, rfl, rfl, (own_new _ _).base hb.size, hF.later ((Below.refl _ _).alloc (Nat.le_refl _) _), hb.alloc hb.size _⟩
  case round =>
    clear hF hb
    obtain ⟨k, hk, rfl, rfl, hO, hF, hb⟩ := hrel
    by_cases hlt : low + k ≤ high
    · have d0 := hF.at'.int (i := low + k) (by rw [hfl.out]; omega)
      rw [fewL_get, Nat.zero_add] at d0
      have hbd : low + k < (fewL ls (high + 1)).length := by rw [hfl.out]; omega
      cases hs : shortest ls (low + k) with
      | none =>
        have hneg := few_neg.2 hs
        have hst := Lib.hid (withinB_succ ls low k)
        go_wp2_with fail
        go_roundw
        case rel =>
          have he : withinB ls low (k + 1) = withinB ls low k := by rw [hst.out]; unfold withinStep; rw [hs]
          exact ⟨k + 1, by omega, by go_num, by rw [he], by rw [he]; exact hO, hF, hb⟩
        case measure => simp [intOf]; omega
      | some x =>
        have hnn : 0 ≤ few ls (low + k) := by rw [few_some hs]; omega
        have hst := Lib.hid (withinB_succ ls low k)
        cases hw0 : withinB ls low k with
        | none =>
          have he : withinB ls low (k + 1) = some x := by rw [hst.out]; unfold withinStep; rw [hs, hw0]
          rw [hw0] at hO
          obtain ⟨av, cv, rfl, _⟩ := hO.at
          go_wp2_with (go_at_call 102; refine (l06First_c _ _ _ _ _ _ (low + k) _ (hx.below hb) hF.at' hok hn hlt x hs).mono ?_; rintro e w1 ⟨vx, rfl, hX, hb1⟩; obtain ⟨ax, cx, rfl, hAx⟩ := hX.at)
          go_roundw
          case rel => exact ⟨k + 1, by omega, by go_num, by rw [he]; rfl, by rw [he]; exact hX.base hb.size, hF.later hb1, upw hb hb1⟩
          case measure => simp [intOf]; omega
        | some y =>
          have hxl := shortest_length hs
          have hm0 : withinStep ls (some y) (low + k) = if decide (x.length < y.length) || (decide (x.length = y.length) && greaterL x y) then some x else some y := by unfold withinStep; rw [hs]
          have hm := Lib.hid hm0
          clear hm0
          rw [hw0] at hO hst
          obtain ⟨av, cv, rfl, _⟩ := hO.at
          simp only [Option.getD_some] at hO
          by_cases h1 : x.length < y.length
          · have he : withinB ls low (k + 1) = some x := by rw [hst.out, hm.out]; simp [h1]
            go_wp2_with (go_at_call 102; refine (l06First_c _ _ _ _ _ _ (low + k) _ (hx.below hb) hF.at' hok hn hlt x hs).mono ?_; rintro e w1 ⟨vx, rfl, hX, hb1⟩; obtain ⟨ax, cx, rfl, hAx⟩ := hX.at)
            go_roundw
            case rel => exact ⟨k + 1, by omega, by go_num, by rw [he]; rfl, by rw [he]; exact hX.base hb.size, hF.later hb1, upw hb hb1⟩
            case measure => simp [intOf]; omega
          · by_cases h2 : x.length = y.length
            · have hle := Lib.hid h2
              have hne : ((x.length : Int) == y.length) = true := by simp [h2]
              clear h2
              cases hg : greaterL x y with
              | true =>
                have he : withinB ls low (k + 1) = some x := by rw [hst.out, hm.out]; simp [hle.out, hg]
                go_wp2_with (first | (go_at_call 102; refine (l06First_c _ _ _ _ _ _ (low + k) _ (hx.below hb) hF.at' hok hn hlt x hs).mono ?_; rintro e w1 ⟨vx, rfl, hX, hb1⟩; obtain ⟨ax, cx, rfl, hAx⟩ := hX.at) | (go_at_call 103; refine (l06Greater_c _ _ _ _ _ _ _ hAx (hO.later hb1).at' hle.out (by omega)).mono ?_; rintro e w2 ⟨rfl, hb2⟩))
                go_roundw
                case rel => exact ⟨k + 1, by omega, by go_num, by rw [he]; rfl, by rw [he]; exact (hX.base hb.size).later hb2, (hF.later hb1).later hb2, upw (upw hb hb1) hb2⟩
                case measure => simp [intOf]; omega
              | false =>
                have he : withinB ls low (k + 1) = some y := by rw [hst.out, hm.out]; simp [hle.out, hg]
                go_wp2_with (first | (go_at_call 102; refine (l06First_c _ _ _ _ _ _ (low + k) _ (hx.below hb) hF.at' hok hn hlt x hs).mono ?_; rintro e w1 ⟨vx, rfl, hX, hb1⟩; obtain ⟨ax, cx, rfl, hAx⟩ := hX.at) | (go_at_call 103; refine (l06Greater_c _ _ _ _ _ _ _ hAx (hO.later hb1).at' hle.out (by omega)).mono ?_; rintro e w2 ⟨rfl, hb2⟩))
                go_roundw
                case rel => exact ⟨k + 1, by omega, by go_num, by rw [he]; rfl, by rw [he]; exact (hO.later hb1).later hb2, (hF.later hb1).later hb2, upw (upw hb hb1) hb2⟩
                case measure => simp [intOf]; omega
            · have he : withinB ls low (k + 1) = some y := by rw [hst.out, hm.out]; simp [h1, h2]
              go_wp2_with (go_at_call 102; refine (l06First_c _ _ _ _ _ _ (low + k) _ (hx.below hb) hF.at' hok hn hlt x hs).mono ?_; rintro e w1 ⟨vx, rfl, hX, hb1⟩; obtain ⟨ax, cx, rfl, hAx⟩ := hX.at)
              go_roundw
              case rel => exact ⟨k + 1, by omega, by go_num, by rw [he]; rfl, by rw [he]; exact hO.later hb1, hF.later hb1, upw hb hb1⟩
              case measure => simp [intOf]; omega
    · obtain rfl : high + 1 - low = k := by omega
      go_wp2_with fail
      go_ret2
      exact ⟨_, rfl, hO, hb⟩
end Go.Proofs.Ytokoallbhbgkkaa
