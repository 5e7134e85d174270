/- Chapter 3, what the draws and the law ask for. -/
import Derived.Test.YtlaclknhenccdaaW08
import Derived.Test.YtlaclknhenccdaaSrc
namespace Go.Proofs.Ytlaclknhenccdaa
open Go.RowKit

theorem f6has_c (a : Option Addr) (xs : List Int) (c : Nat) (n : Int) (w : World) (hx : At w a xs) (hl : xs.length ≤ 1000000) :
    Calls Try.prog 36 #[.slice a xs.length c, .int .i64 n] w fun e w' => e = .returned (.bool (decide (n ∈ xs))) ∧ w = w' := by
  go_enter Try.func36, Try.ntmps36
  go_wp2_with fail
  go_loop [5] (fun i => ∃ k : Nat, k ≤ xs.length ∧ i = .int .i64 k ∧ Hid (∀ j (h : j < xs.length), j < k → xs[j] ≠ n)) (fun i => xs.length - (intOf i).toNat)
  case atStart => exact ⟨0, Nat.zero_le _, rfl, Lib.hid fun j _ h => absurd h (Nat.not_lt_zero _)⟩
  case round =>
    obtain ⟨k, hk, rfl, hno⟩ := hrel
    by_cases hlt : k < xs.length
    · obtain ⟨b, off, rfl⟩ := hx.addr hlt
      have c0 := hx.int hlt
      cases he : (xs[k] == n) with
      | true =>
        go_wp2_with fail
        go_ret
        refine ⟨?_, rfl⟩
        have : n ∈ xs := by have : xs[k] = n := by simpa using he
                            rw [← this]; exact List.getElem_mem hlt
        simp [this]
      | false =>
        have hne : xs[k] ≠ n := by simpa using he
        replace hne := Lib.hid hne
        go_wp2_with fail
        go_round
        case rel =>
          refine ⟨k + 1, by omega, by go_num, Lib.hid fun j h1 h2 => ?_⟩
          by_cases hj : j = k
          · subst hj; exact hne.out
          · exact hno.out j h1 (by omega)
        case measure => simp [intOf]; omega
    · go_wp2_with fail
      go_ret
      refine ⟨?_, rfl⟩
      have : n ∉ xs := fun h => by
        obtain ⟨j, hj, e⟩ := List.mem_iff_getElem.1 h
        exact hno.out j hj (by omega) e
      simp [this]
theorem text3_c (g M : Nat) (a : Option Addr) (xs : List ByteArray) (c : Nat) (w : World) (hS : SrcAt w g (M + 2)) (hx : At w a xs) (ho : Off a g) (h0 : 0 < xs.length) (hl : xs.length ≤ 9223372036854775807) :
    Calls Try.prog 147 #[.pointer (some ⟨g, 0, none⟩), .slice a xs.length c] w fun e w' => ∃ v : ByteArray, e = .returned (.string v) ∧ v ∈ xs ∧ SrcAt w' g M ∧ w.grownBy w' (some g) := by
  go_enter Try.func147, Try.ntmps147
  go_wp2_with fail
  refine (pick_c g M xs.length w hS (by omega) (by omega)).mono ?_
  rintro e w2 ⟨v, rfl, v0, v1, hS2, hg2⟩
  obtain ⟨k, rfl⟩ : ∃ k : Nat, v = k := ⟨v.toNat, by omega⟩
  have hk : k < xs.length := by omega
  have hx2 := hx.offF (Or.inr ho) hg2
  obtain ⟨b, off, rfl⟩ := hx2.addr hk
  have c0 := hx2.str hk
  go_wp2_with fail
  go_ret
  exact ⟨_, rfl, List.getElem_mem hk, hS2, hg2⟩
theorem drawHalf_c (g M : Nat) (w : World) (hS : SrcAt w g (M + 4)) :
    Calls Try.prog 87 #[.pointer (some ⟨g, 0, none⟩)] w fun e w' => ∃ v : Int, e = .returned (.int .i64 v) ∧ -1 ≤ v ∧ v ≤ 9223372036854775807 ∧ SrcAt w' g M ∧ w.grownBy w' (some g) := by
  go_enter Try.func87, Try.ntmps87
  go_wp2_with fail
  refine (one_c g (M + 2) 10 w hS (by omega) (by omega)).mono ?_
  rintro e w2 ⟨b, rfl, hS2, hg2⟩
  cases b
  · go_wp2_with fail
    refine (pick_c g M 100 w2 hS2 (by omega) (by omega)).mono ?_
    rintro e w3 ⟨v, rfl, v0, v1, hS3, hg3⟩
    go_wp2_with fail
    go_ret
    exact ⟨_, rfl, by omega, by omega, hS3, grownBy_trans hg2 hg3⟩
  · have hb : Below w2.heap.size w2 (w2.alloc (.cells #[.int .i64 (-1), .int .i64 0, .int .i64 120, .int .i64 121, .int .i64 9223372036854775807] 2)) := newB _ _
    have hA := at_lits w2 2 [-1, 0, 120, 121, 9223372036854775807]
    go_wp2_with fail
    refine (among_c g M _ [-1, 0, 120, 121, 9223372036854775807] _ _ (hS2.later hb) hA (off_new hS2.lt) (by simp) (by simp)).mono ?_
    rintro e w3 ⟨v, rfl, hv, hS3, hg3⟩
    go_wp2_with fail
    go_ret
    simp at hv
    exact ⟨_, rfl, by omega, by omega, hS3, grownBy_trans (grownBy_trans hg2 (drew_below g hb)) hg3⟩
end Go.Proofs.Ytlaclknhenccdaa
