/- What the laws' own small functions answer. -/
import Derived.Test.YtlmhiocmldhkhaaGreatDoorSrc
namespace Go.Proofs.YtlmhiocmldhkhaaGreatDoor
open Go.RowKit

theorem a2Long_c (a a' : Option Addr) (L M : List UInt8) (c c' : Nat) (w : World) :
    Calls Tryz.prog 4 #[.slice a L.length c, .slice a' M.length c'] w fun e w' => e = .returned (.bool (decide (3000 < L.length) || decide (3000 < M.length))) ∧ w = w' := by
  by_cases h1 : 3000 < L.length
  · have h1' : (3000 : Int) < L.length := by omega
    have e : decide (3000 < L.length) = true := by simpa using h1
    rw [e]
    go_enter Tryz.func4, Tryz.ntmps4
    go_wp2_with fail
    go_ret
    exact ⟨by simp, rfl⟩
  · have h1' : ¬ (3000 : Int) < L.length := by omega
    have e : decide (3000 < L.length) = false := by simpa using h1
    rw [e]
    have e2 : decide (3000 < M.length) = decide ((3000 : Int) < M.length) := by rw [decide_eq_decide]; omega
    rw [e2]
    go_enter Tryz.func4, Tryz.ntmps4
    go_wp2_with fail
    go_ret
    exact ⟨by simp, rfl⟩
theorem a2At_c (a : Option Addr) (L : List UInt8) (c k : Nat) (n : Int) (w : World) (hx : At w a L) (_hl : L.length ≤ 3000) (_hk : k ≤ 3000) (hn0 : -9223372036854775808 ≤ n) (hn1 : n ≤ 9223372036854775807) :
    Calls Tryz.prog 12 #[.slice a L.length c, .int .i64 k, .int .i64 n] w fun e w' => ∃ v : Int, e = .returned (.int .i64 v) ∧ 0 ≤ v ∧ (v = 0 ∨ v < n) ∧ w = w' := by
  by_cases h1 : k < L.length
  · by_cases h2 : n < 1
    · go_enter Tryz.func12, Tryz.ntmps12
      go_wp2_with fail
      go_ret
      exact ⟨0, rfl, by omega, Or.inl rfl, rfl⟩
    · have hne : ¬ n = 0 := by omega
      obtain ⟨b, off, rfl⟩ := hx.addr h1
      have c0 := hx.byte h1
      obtain ⟨x, hxx⟩ : ∃ x, x = L[k] := ⟨_, rfl⟩
      rw [← hxx] at c0
      replace hxx := Lib.hid hxx
      have hxn : x.toNat < 256 := x.toNat_lt
      obtain ⟨y, hy⟩ : ∃ y : Int, y = x.toNat := ⟨_, rfl⟩
      rw [← hy] at c0
      have y0 : 0 ≤ y := by omega
      have y1 : y ≤ 255 := by omega
      clear hxn hy
      have hyw : IntKind.i64.wrap y = y := IntWalk.i64_in _ (by omega)
      go_enter Tryz.func12, Tryz.ntmps12
      go_wp2_with fail
      go_ret
      exact ⟨_, rfl, Int.emod_nonneg _ hne, Or.inr (Int.emod_lt_of_pos _ (by omega)), rfl⟩
  · have h1' : (L.length : Int) ≤ k := by omega
    go_enter Tryz.func12, Tryz.ntmps12
    go_wp2_with fail
    go_ret
    exact ⟨0, rfl, by omega, Or.inl rfl, rfl⟩
theorem a2Sum_c (a : Option Addr) (xs : List Int) (c : Nat) (w : World) (hx : At w a xs) (hl : xs.length ≤ 1000000) (hs : ∀ x ∈ xs, -1000000 ≤ x ∧ x ≤ 1000000) :
    Calls Tryz.prog 11 #[.slice a xs.length c] w fun e w' => e = .returned (.int .i64 (sumI xs)) ∧ w = w' := by
  have hb : ∀ k, k ≤ xs.length → -1000000000000 ≤ sumI (xs.take k) ∧ sumI (xs.take k) ≤ 1000000000000 := fun k hk => by
    have h1 := sumI_bound 1000000 (by omega) (xs.take k) (fun x hx => hs x (List.mem_of_mem_take hx))
    have h2 : (xs.take k).length ≤ 1000000 := by rw [List.length_take]; omega
    omega
  have HB := Lib.hid hb
  have hs := Lib.hid hs
  clear hb
  go_enter Tryz.func11, Tryz.ntmps11
  go_wp2_with fail
  go_loop [3, 4] (fun s i => ∃ k : Nat, k ≤ xs.length ∧ i = .int .i64 k ∧ s = .int .i64 (sumI (xs.take k))) (fun _ i => xs.length - (intOf i).toNat)
  case atStart => exact ⟨0, Nat.zero_le _, rfl, rfl⟩
  case round =>
    obtain ⟨k, hk, rfl, rfl⟩ := hrel
    by_cases hlt : k < xs.length
    · obtain ⟨b, off, rfl⟩ := hx.addr hlt
      have c0 := hx.int hlt
      have hs1 := HB.out (k + 1) (by omega)
      have e := sumI_take xs k hlt
      rw [e] at hs1
      have E := Lib.hid e
      clear e
      go_wp2_with fail
      go_round
      case rel => exact ⟨k + 1, by omega, by go_num, by rw [E.out]⟩
      case measure => simp [intOf]; omega
    · have e : xs.take k = xs := List.take_of_length_le (by omega)
      have E := Lib.hid e
      clear e
      go_wp2_with fail
      go_ret
      exact ⟨by rw [E.out]; rfl, rfl⟩
end Go.Proofs.YtlmhiocmldhkhaaGreatDoor
