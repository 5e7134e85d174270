/- What the laws' own small functions answer. -/
import Derived.Test.YtlaclknhenccdaaSrc
namespace Go.Proofs.Ytlaclknhenccdaa
open Go.RowKit

theorem a2Long_c (a a' : Option Addr) (L M : List UInt8) (c c' : Nat) (w : World) :
    Calls Try.prog 37 #[.slice a L.length c, .slice a' M.length c'] w fun e w' => e = .returned (.bool (decide (3000 < L.length) || decide (3000 < M.length))) ∧ w = w' := by
  by_cases h1 : 3000 < L.length
  · have h1' : (3000 : Int) < L.length := by omega
    have e : decide (3000 < L.length) = true := by simpa using h1
    rw [e]
    go_enter Try.func37, Try.ntmps37
    go_wp2_with fail
    go_ret
    exact ⟨by simp, rfl⟩
  · have h1' : ¬ (3000 : Int) < L.length := by omega
    have e : decide (3000 < L.length) = false := by simpa using h1
    rw [e]
    have e2 : decide (3000 < M.length) = decide ((3000 : Int) < M.length) := by rw [decide_eq_decide]; omega
    rw [e2]
    go_enter Try.func37, Try.ntmps37
    go_wp2_with fail
    go_ret
    exact ⟨by simp, rfl⟩
theorem a2At_c (a : Option Addr) (L : List UInt8) (c k : Nat) (n : Int) (w : World) (hx : At w a L) (_hl : L.length ≤ 3000) (_hk : k ≤ 3000) (hn0 : -9223372036854775808 ≤ n) (hn1 : n ≤ 9223372036854775807) :
    Calls Try.prog 39 #[.slice a L.length c, .int .i64 k, .int .i64 n] w fun e w' => ∃ v : Int, e = .returned (.int .i64 v) ∧ 0 ≤ v ∧ (v = 0 ∨ v < n) ∧ w = w' := by
  by_cases h1 : k < L.length
  · by_cases h2 : n < 1
    · go_enter Try.func39, Try.ntmps39
      go_wp2_with fail
      go_ret
      exact ⟨0, rfl, by omega, Or.inl rfl, rfl⟩
    · have hne : ¬ n = 0 := by omega
      obtain ⟨b, off, rfl⟩ := hx.addr h1
      have c0 := hx.byte h1
      obtain ⟨x, hxx⟩ : ∃ x, x = L[k] := ⟨_, rfl⟩
      rw [← hxx] at c0
      replace hxx := Lib.hid hxx
      have hxn : x.toNat < 256 := x.toNat_lt
      obtain ⟨y, hy⟩ : ∃ y : Int, y = x.toNat := ⟨_, rfl⟩
      rw [← hy] at c0
      have y0 : 0 ≤ y := by omega
      have y1 : y ≤ 255 := by omega
      clear hxn hy
      have hyw : IntKind.i64.wrap y = y := IntWalk.i64_in _ (by omega)
      go_enter Try.func39, Try.ntmps39
      go_wp2_with fail
      go_ret
      exact ⟨_, rfl, Int.emod_nonneg _ hne, Or.inr (Int.emod_lt_of_pos _ (by omega)), rfl⟩
  · have h1' : (L.length : Int) ≤ k := by omega
    go_enter Try.func39, Try.ntmps39
    go_wp2_with fail
    go_ret
    exact ⟨0, rfl, by omega, Or.inl rfl, rfl⟩
theorem a2Has_c (a : Option Addr) (xs : List Int) (c : Nat) (n : Int) (w : World) (hx : At w a xs) (hl : xs.length ≤ 1000000) :
    Calls Try.prog 45 #[.slice a xs.length c, .int .i64 n] w fun e w' => e = .returned (.bool (decide (n ∈ xs))) ∧ w = w' := by
  go_enter Try.func45, Try.ntmps45
  go_wp2_with fail
  go_loop [5] (fun i => ∃ k : Nat, k ≤ xs.length ∧ i = .int .i64 k ∧ Hid (∀ j (h : j < xs.length), j < k → xs[j] ≠ n)) (fun i => xs.length - (intOf i).toNat)
  case atStart => exact ⟨0, Nat.zero_le _, rfl, Lib.hid fun j _ h => absurd h (Nat.not_lt_zero _)⟩
  case round =>
    obtain ⟨k, hk, rfl, hno⟩ := hrel
    by_cases hlt : k < xs.length
    · obtain ⟨b, off, rfl⟩ := hx.addr hlt
      have c0 := hx.int hlt
      cases he : (xs[k] == n) with
      | true =>
        go_wp2_with fail
        go_ret
        refine ⟨?_, rfl⟩
        have : n ∈ xs := by have : xs[k] = n := by simpa using he
                            rw [← this]; exact List.getElem_mem hlt
        simp [this]
      | false =>
        have hne : xs[k] ≠ n := by simpa using he
        replace hne := Lib.hid hne
        go_wp2_with fail
        go_round
        case rel =>
          refine ⟨k + 1, by omega, by go_num, Lib.hid fun j h1 h2 => ?_⟩
          by_cases hj : j = k
          · subst hj; exact hne.out
          · exact hno.out j h1 (by omega)
        case measure => simp [intOf]; omega
    · go_wp2_with fail
      go_ret
      refine ⟨?_, rfl⟩
      have : n ∉ xs := fun h => by
        obtain ⟨j, hj, e⟩ := List.mem_iff_getElem.1 h
        exact hno.out j hj (by omega) e
      simp [this]
end Go.Proofs.Ytlaclknhenccdaa
