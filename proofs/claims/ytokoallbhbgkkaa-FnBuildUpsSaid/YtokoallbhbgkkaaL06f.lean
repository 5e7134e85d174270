/- Chapter 6, the reference: the least numbers of layers. -/
import Derived.Test.YtokoallbhbgkkaaL06c
import Derived.Test.YtokoallbhbgkkaaLists
namespace Go.Proofs.Ytokoallbhbgkkaa
open Go.RowKit

/-- Layers as the statements allow them. -/
structure LayOk (ls : List Int) : Prop where
  len : ls.length ≤ 8
  each : ∀ i (h : i < ls.length), 1 ≤ ls[i] ∧ ls[i] ≤ 200
theorem few_range (ls : List Int) (n : Nat) : -1 ≤ few ls n ∧ few ls n ≤ n := by
  cases h : shortest ls n with
  | none => rw [few_none h]; omega
  | some L => have := shortest_length h; rw [few_some h]; omega
/-- The least numbers of layers for the sums 0, 1, .. -/
def fewL (ls : List Int) (k : Nat) : List Int := (List.range k).map (few ls)
theorem fewL_length (ls : List Int) (k : Nat) : (fewL ls k).length = k := by simp [fewL]
theorem fewL_get (ls : List Int) (k i : Nat) (h : i < (fewL ls k).length) : (fewL ls k)[i] = few ls i := by simp [fewL]
theorem fewL_succ (ls : List Int) (k : Nat) : fewL ls (k + 1) = fewL ls k ++ [few ls k] := by unfold fewL; rw [List.range_succ, List.map_append]; rfl
def fewR (ls : List Int) (k j : Nat) : Int := (ls.take j).foldl (fewTry ls k) (-1)
theorem fewR_succ (ls : List Int) (k j : Nat) (h : j < ls.length) : fewR ls k (j + 1) = fewTry ls k (fewR ls k j) ls[j] := by
  unfold fewR; rw [List.take_succ_eq_append_getElem h, List.foldl_append]; rfl
theorem fewTry_range (ls : List Int) (k : Nat) (b l : Int) (hb : -1 ≤ b ∧ b ≤ k + 1) : -1 ≤ fewTry ls k b l ∧ fewTry ls k b l ≤ k + 1 := by
  unfold fewTry
  have := few_range ls (k - l.toNat)
  split <;> omega
theorem fewR_range (ls : List Int) (k : Nat) : ∀ j, j ≤ ls.length → -1 ≤ fewR ls k j ∧ fewR ls k j ≤ k + 1
  | 0, _ => by unfold fewR; simp; omega
  | j + 1, h => by rw [fewR_succ ls k j (by omega)]; exact fewTry_range ls k _ _ (fewR_range ls k j (by omega))
theorem fewR_full (ls : List Int) {k : Nat} (h : 0 < k) : fewR ls k ls.length = few ls k := by unfold fewR; rw [List.take_length]; exact few_step ls h
theorem own_int1 (w : World) (t : TypeId) (x : Int) : Own w.heap.size (w.alloc (.cells #[.int .i64 x] t)) t (.slice (some ⟨w.heap.size, 0, none⟩) 1 1) [x] := own_row w t [x] (by simp)

set_option maxHeartbeats 4000000 in
theorem l06Few_c (a : Option Addr) (ls : List Int) (c n : Nat) (w : World) (hx : At w a ls) (hok : LayOk ls) (hn : n ≤ 1000) :
    Calls Try.prog 101 #[.slice a ls.length c, .int .i64 n] w fun e w' => ∃ v, e = .returned v ∧ Own w.heap.size w' 2 v (fewL ls (n + 1)) ∧ Below w.heap.size w w' := by
  have hlen := hok.len
  go_enter Try.func101, Try.ntmps101
  go_wp2_with fail
  go_loopw [5, 6] (fun v i wq => ∃ k : Nat, 1 ≤ k ∧ k ≤ n + 1 ∧ i = .int .i64 k ∧ Own w.heap.size wq 2 v (fewL ls k) ∧ Below w.heap.size w wq) (fun _ i _ => n + 1 - (intOf i).toNat)
  case atStart => exact ⟨1, by omega, by omega, rfl, own_int1 w _ 0, (Below.refl _ _).alloc (Nat.le_refl _) _⟩
  case round =>
    obtain ⟨k, hk1, hk, rfl, hO, hb⟩ := hrel
    have hfl := Lib.hid (fewL_length ls k)
    by_cases hlt : k ≤ n
    · obtain ⟨wo, hwo⟩ : ∃ wo : World, wo = wr := ⟨_, rfl⟩
      subst hwo
      have hxo := hx.below hb
      obtain ⟨g, cap, rfl⟩ := hO.row (by rw [hfl.out]; omega)
      go_wp2_with fail
      go_loop [7, 8] (fun b i => ∃ j : Nat, j ≤ ls.length ∧ i = .int .i64 j ∧ b = .int .i64 (fewR ls k j)) (fun _ i => ls.length - (intOf i).toNat)
      case atStart => exact ⟨0, Nat.zero_le _, rfl, rfl⟩
      case round =>
        obtain ⟨j, hj, rfl, rfl⟩ := hrel
        have hbr := fewR_range ls k j hj
        by_cases hjl : j < ls.length
        · have hs := Lib.hid (fewR_succ ls k j hjl)
          obtain ⟨b, off, rfl⟩ := hxo.addr hjl
          have c0 := hxo.int hjl
          have hl := hok.each j hjl
          by_cases h1 : ls[j] ≤ k
          · have hfr := few_range ls (k - ls[j].toNat)
            have d0 : wo.cell? ⟨g, ((k : Int) - ls[j]).toNat, none⟩ = some (.int .i64 (few ls (k - ls[j].toNat))) := by
              have h := hO.at'.int (i := k - ls[j].toNat) (by rw [hfl.out]; omega)
              rw [fewL_get, Nat.zero_add] at h
              rw [show ((k : Int) - ls[j]).toNat = k - ls[j].toNat by omega]
              exact h
            have hbd : (k : Int) - ls[j] < ((fewL ls k).length : Int) := by rw [hfl.out]; omega
            generalize hF : few ls (k - ls[j].toNat) = F at hfr d0
            generalize hR : fewR ls k j = R at hbr hs ⊢
            have hs2 : ∀ S : Int, fewTry ls k R ls[j] = S → fewR ls k (j + 1) = S := fun S e => by rw [hs.out, e]
            clear hs
            have step : ∀ (p : Prop) [Decidable p], ((1 ≤ ls[j] ∧ ls[j] ≤ k) ∧ 0 ≤ F ∧ (R < 0 ∨ F + 1 < R) ↔ p) → fewTry ls k R ls[j] = if p then F + 1 else R := fun p _ hp => by
              unfold fewTry
              rw [hF]
              by_cases q : p
              · rw [if_pos q, if_pos (hp.2 q)]
              · rw [if_neg q, if_neg (fun h => q (hp.1 h))]
            by_cases h2 : 0 ≤ F
            · by_cases h3 : R < 0
              · have hst := Lib.hid (hs2 _ ((step True (by simp; omega)).trans (if_pos trivial)))
                clear step hs2
                go_wp2_with fail
                go_round
                case rel => exact ⟨j + 1, by omega, by go_num, by rw [hst.out]⟩
                case measure => simp [intOf]; omega
              · by_cases h4 : F + 1 < R
                · have hst := Lib.hid (hs2 _ ((step True (by simp; omega)).trans (if_pos trivial)))
                  clear step hs2
                  go_wp2_with fail
                  go_round
                  case rel => exact ⟨j + 1, by omega, by go_num, by rw [hst.out]⟩
                  case measure => simp [intOf]; omega
                · have hst := Lib.hid (hs2 _ ((step False (by simp; omega)).trans (if_neg id)))
                  clear step hs2
                  go_wp2_with fail
                  go_round
                  case rel => exact ⟨j + 1, by omega, by go_num, by rw [hst.out]⟩
                  case measure => simp [intOf]; omega
            · have hst := Lib.hid (hs2 _ ((step False (by simp; omega)).trans (if_neg id)))
              clear step hs2
              go_wp2_with fail
              go_round
              case rel => exact ⟨j + 1, by omega, by go_num, by rw [hst.out]⟩
              case measure => simp [intOf]; omega
          · go_wp2_with fail
            go_round
            case rel => exact ⟨j + 1, by omega, by go_num, by rw [hs.out, fewTry, if_neg (by omega)]⟩
            case measure => simp [intOf]; omega
        · obtain rfl : j = ls.length := by omega
          go_wp2_with (at_builtin; refine wpList_push rfl (.tmp 67) (.tmp 69) 22 rfl w.heap.size 2 (.int .i64 0) 8 Try.underlying22 infoInt rfl _ (fewL ls k) (fewR ls k ls.length : Int) rfl (hO.later ((Below.refl _ _).alloc (Nat.le_refl _) _)) _ _ rfl 2 (heap_alloc_new _ _) (by rw [hfl.out]; omega) (by decide) (by have := hb.size; simp; omega) ?_; intro v1 w3 hO1 hg1)
          go_roundw
          case rel => exact ⟨k + 1, by omega, by omega, by go_num, by rw [fewL_succ, ← fewR_full ls (by omega)]; exact hO1, below_mark (hb.alloc hb.size _) (hO.later ((Below.refl _ _).alloc (Nat.le_refl _) _)) (Nat.le_refl _) hg1⟩
          case measure => simp [intOf]; omega
    · go_wp2_with fail
      go_ret
      exact ⟨_, rfl, by rw [show n + 1 = k by omega]; exact hO, hb⟩
end Go.Proofs.Ytokoallbhbgkkaa
