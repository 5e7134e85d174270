/- Chapter 4, lasts found by their names: the program and the reference; the reference's valid lists. -/
import Derived.Test.YtaeinllbjkjhlaaGreatDoorLas3
namespace Go.Proofs.YtaeinllbjkjhlaaGreatDoor
open Go.RowKit

theorem firstIdx_at {α : Type} {p : α → Bool} {xs : List α} (h : xs.any p = true) : ∃ (k : Nat) (hk : k < xs.length), firstIdx p xs = k ∧ p xs[k] = true := by
  have hl : xs.findIdx p < xs.length := List.findIdx_lt_length_of_exists (List.any_eq_true.1 h)
  exact ⟨xs.findIdx p, hl, by simp [firstIdx, h], List.findIdx_getElem (w := hl)⟩
theorem firstIdx_not {α : Type} {p : α → Bool} {xs : List α} (h : xs.any p = false) : firstIdx p xs = -1 := by simp [firstIdx, h]
set_option maxHeartbeats 1600000 in
theorem lastNamed_c (a : Option Addr) (xs : List Last) (c : Nat) (nm : ByteArray) (w : World) (hx : At w a xs) (ok : OkLasts xs) (hn : isName nm = true) (hs : nm.size ≤ 9223372036854775807) (hh : hasNm xs nm = true) :
    Calls Tryz.prog 13 #[.slice a xs.length c, .string nm] w fun e w' => ∃ i : Nat, e = .returned (.tuple #[.int .i64 i, .int .i64 0]) ∧ PlaceOf xs nm i ∧ Below w.heap.size w w' := by
  have k1 := Lib.hid (fun w' h => validLasts_ok a xs c w' h ok)
  have k2 := Lib.hid (fun w' => as_bool hn (implIsName_c nm w' hs))
  have k3 := Lib.hid (fun w' h => lastPlace_c a xs c nm w' h ok)
  rw [hh] at k3
  clear ok hn hs hh
  go_enter Tryz.func13, Tryz.ntmps13
  go_wp2_with fail
  refine (k1.out _ hx).mono ?_
  rintro e w2 ⟨rfl, hb⟩
  replace hx := hx.below hb
  go_wp2_with fail
  refine (k2.out _).mono ?_
  rintro e w' ⟨rfl, rfl⟩
  go_wp2_with fail
  refine (k3.out _ hx).mono ?_
  rintro e w4 ⟨i, rfl, hP, hb4⟩
  replace hb := upw hb hb4
  replace hP := Lib.hid hP
  go_wp2_with fail
  go_ret2
  exact ⟨i, rfl, hP.out, hb⟩
set_option maxHeartbeats 1600000 in
theorem l04Ok_ok (a : Option Addr) (xs : List Last) (c : Nat) (w : World) (hx : At w a xs) (h : OkLasts xs) :
    Calls Tryz.prog 52 #[.slice a xs.length c] w fun e w' => e = .returned (.bool true) ∧ Below w.heap.size w w' := by
  obtain ⟨hok, hsz, hup, hlen⟩ := h
  replace hok := Lib.hid hok
  replace hsz := Lib.hid hsz
  replace hup := Lib.hid hup
  go_enter Tryz.func52, Tryz.ntmps52
  go_wp2_with fail
  go_loopw [3] (fun i wr => ∃ k : Nat, k ≤ xs.length ∧ i = .int .i64 k ∧ Below w.heap.size w wr) (fun i _ => xs.length - (intOf i).toNat)
  case atStart => exact ⟨0, Nat.zero_le _, rfl, Below.refl _ _⟩
  case round =>
    obtain ⟨k, hk, rfl, hb⟩ := hrel
    obtain ⟨wa, hwa⟩ : ∃ wo : World, wo = wr := ⟨_, rfl⟩
    subst hwa
    by_cases hlt : k < xs.length
    · have hxa := hx.below hb
      obtain ⟨b, off, rfl⟩ := hx.addr hlt
      obtain ⟨y0, y1, y2, y3, y4, y5⟩ := hxa.last hlt
      have hkx := hok.out _ (List.getElem_mem hlt)
      have hkn := hsz.out _ (List.getElem_mem hlt)
      have hprev := Lib.hid (fun (j : Nat) (e : k = j + 1) => hup.out j (by omega))
      have hltI : (k : Int) < xs.length := by omega
      obtain ⟨x, hxe⟩ : ∃ x, x = xs[k] := ⟨_, rfl⟩
      rw [← hxe] at y0 y1 y2 y3 y4 y5 hkx hkn
      have hc1 := Lib.hid (fun w' => l04One_c x w' hkn)
      rw [hkx] at hc1
      clear hkx hkn
      replace y0 := rg y0
      replace y1 := rg y1
      replace y2 := rg y2
      replace y3 := rg y3
      replace y4 := rg y4
      replace y5 := rg y5
      by_cases hk0 : k = 0
      · have hkI : decide (0 < k) = false := by simp [hk0]
        replace hxe := Lib.hid hxe
        replace hk0 := Lib.hid hk0
        clear hprev
        go_wp2_with fail
        refine wp_region_quiet_below (by kernel_rfl) (by kernel_rfl) ?_
        repeat (go_big_quiet_step ((go_at_call 66; exact Calls.regrown_of (hc1.out _))))
        refine wpQuiet_nil ?_
        intro w4 hw'
        replace hb := upw hb (grown_of hw')
        clear hw'
        go_wp2_with fail
        go_roundw
        case rel => exact ⟨k + 1, by omega, by first | rfl | go_num, hb⟩
        case measure => first | (simp [intOf]; done) | (simp [intOf]; omega)
      · obtain ⟨j, hj⟩ : ∃ j, k = j + 1 := ⟨k - 1, by omega⟩
        have hjl : j < xs.length := by omega
        obtain ⟨p0, -, -, -, -, -⟩ := hxa.last hjl
        have hlt2 := hprev.out j hj
        have hjx : xs[k] = xs[j + 1] := by simp [hj]
        rw [← hjx, ← hxe] at hlt2
        obtain ⟨N, hN⟩ : ∃ N, N = xs[j].Name := ⟨_, rfl⟩
        rw [← hN] at p0 hlt2
        have hkI : decide (0 < k) = true := by simp; omega
        have hkJ : (k : Int) - 1 = (j : Int) := by omega
        have hjI : (j : Int) < xs.length := by omega
        unfold nameLt at hlt2
        replace hxe := Lib.hid hxe
        replace hN := Lib.hid hN
        clear hprev hjx hk0
        replace hj := Lib.hid hj
        go_wp2_with fail
        refine wp_region_quiet_below (by kernel_rfl) (by kernel_rfl) ?_
        replace p0 := rg p0
        repeat (go_big_quiet_step ((go_at_call 66; exact Calls.regrown_of (hc1.out _))))
        refine wpQuiet_nil ?_
        intro w4 hw'
        replace hb := upw hb (grown_of hw')
        clear hw'
        go_wp2_with fail
        go_roundw
        case rel => exact ⟨k + 1, by omega, by first | rfl | go_num, hb⟩
        case measure => first | (simp [intOf]; done) | (simp [intOf]; omega)
    · obtain rfl : k = xs.length := by omega
      have hlI : (xs.length : Int) ≤ 30 := by omega
      go_wp2_with fail
      go_ret
      exact ⟨rfl, hb⟩
theorem specValidLasts_ok (a : Option Addr) (xs : List Last) (c : Nat) (w : World) (hx : At w a xs) (h : OkLasts xs) :
    Calls Tryz.prog 14 #[.slice a xs.length c] w fun e w' => e = .returned (.bool true) ∧ Below w.heap.size w w' := by
  go_enter Tryz.func14, Tryz.ntmps14
  go_wp2_with fail
  refine (l04Ok_ok a xs c w hx h).mono ?_
  rintro e w2 ⟨rfl, hb⟩
  go_wp2_with fail
  go_ret
  exact ⟨rfl, hb⟩
set_option maxHeartbeats 800000 in
theorem l04Find_c (a : Option Addr) (xs : List Last) (c : Nat) (nm : ByteArray) (w : World) (hx : At w a xs) (hl : xs.length ≤ 1000) :
    Calls Tryz.prog 54 #[.slice a xs.length c, .string nm] w fun e w' => e = .returned (.int .i64 (firstIdx (nmEq nm) xs)) ∧ w' = w := by
  obtain ⟨R, hR⟩ : ∃ R, R = firstIdx (nmEq nm) xs := ⟨_, rfl⟩
  rw [← hR]
  replace hR := Lib.hid hR
  go_enter Tryz.func54, Tryz.ntmps54
  go_wp2_with fail
  go_loopw [5] (fun i wr => ∃ k : Nat, k ≤ xs.length ∧ i = .int .i64 k ∧ Hid (Nosofar (nmEq nm) xs k) ∧ wr = w) (fun i _ => xs.length - (intOf i).toNat)
  case atStart => exact ⟨0, Nat.zero_le _, rfl, Lib.hid nosofar_zero, rfl⟩
  case round =>
    obtain ⟨k, hk, rfl, hS, rfl⟩ := hrel
    by_cases hlt : k < xs.length
    · obtain ⟨b, off, rfl⟩ := hx.addr hlt
      obtain ⟨y0, y1, y2, y3, y4, y5⟩ := hx.last hlt
      have hltI : (k : Int) < xs.length := by omega
      have hN := Lib.hid (fun (h : nmEq nm xs[k] = false) => nosofar_succ (hk := hlt) hS.out h)
      have hY := Lib.hid (fun (h : nmEq nm xs[k] = true) => hR.out.trans (firstIdx_some hlt hS.out h))
      unfold nmEq at hN hY
      generalize xs[k] = y at *
      cases hq : (y.Name.toList == nm.toList)
      · have hS2 := Lib.hid (hN.out hq)
        clear hN hY hS
        go_wp2_with fail
        go_roundw
        case rel => exact ⟨k + 1, by omega, by first | rfl | go_num, hS2, by first | rfl | trivial⟩
        case measure => first | (simp [intOf]; done) | (simp [intOf]; omega)
      · obtain rfl := hY.out hq
        clear hN hY hS
        go_wp2_with fail
        go_ret
        exact ⟨rfl, rfl⟩
    · obtain rfl : k = xs.length := by omega
      obtain rfl : R = -1 := hR.out.trans (firstIdx_none (Nat.le_refl _) hS.out)
      go_wp2_with fail
      go_ret
      exact ⟨rfl, rfl⟩
set_option maxHeartbeats 800000 in
theorem specLastNamed_c (a : Option Addr) (xs : List Last) (c : Nat) (nm : ByteArray) (w : World) (hx : At w a xs) (ok : OkLasts xs) (hn : isName nm = true) (hs : nm.size ≤ 9223372036854775807) :
    Calls Tryz.prog 12 #[.slice a xs.length c, .string nm] w fun e w' => e = .returned (.tuple #[.int .i64 (if hasNm xs nm then firstIdx (nmEq nm) xs else 0), .int .i64 (if hasNm xs nm then 0 else 3)]) ∧ Below w.heap.size w w' := by
  have k1 := Lib.hid (fun w' h => l04Ok_ok a xs c w' h ok)
  have k2 := Lib.hid (fun w' => as_bool hn (specIsName_c nm w' hs))
  have k3 := Lib.hid (fun w' h => l04Find_c a xs c nm w' h (by have := ok.len; omega))
  cases hh : hasNm xs nm
  · rw [firstIdx_not hh] at k3
    clear ok hn hs hh
    go_enter Tryz.func12, Tryz.ntmps12
    go_wp2_with fail
    refine (k1.out _ hx).mono ?_
    rintro e w2 ⟨rfl, hb⟩
    replace hx := hx.below hb
    go_wp2_with fail
    refine (k2.out _).mono ?_
    rintro e w' ⟨rfl, rfl⟩
    go_wp2_with fail
    refine (k3.out _ hx).mono ?_
    rintro e w4 ⟨rfl, rfl⟩
    go_wp2_with fail
    go_ret2
    exact ⟨rfl, hb⟩
  · obtain ⟨k, hk, e, -⟩ := firstIdx_at hh
    rw [e] at k3 ⊢
    clear ok hn hs hh e
    go_enter Tryz.func12, Tryz.ntmps12
    go_wp2_with fail
    refine (k1.out _ hx).mono ?_
    rintro e w2 ⟨rfl, hb⟩
    replace hx := hx.below hb
    go_wp2_with fail
    refine (k2.out _).mono ?_
    rintro e w' ⟨rfl, rfl⟩
    go_wp2_with fail
    refine (k3.out _ hx).mono ?_
    rintro e w4 ⟨rfl, rfl⟩
    go_wp2_with fail
    go_ret2
    exact ⟨rfl, hb⟩
end Go.Proofs.YtaeinllbjkjhlaaGreatDoor
