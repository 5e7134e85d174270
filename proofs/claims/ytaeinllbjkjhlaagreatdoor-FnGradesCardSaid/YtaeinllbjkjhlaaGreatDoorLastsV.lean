/- Chapter 4, valid lists of lasts: the program. (Out of R02.) -/
import Derived.Test.YtaeinllbjkjhlaaGreatDoorRankMath
import Derived.Test.YtaeinllbjkjhlaaGreatDoorSep
import Derived.Test.YtaeinllbjkjhlaaGreatDoorF04
import Derived.Test.YtaeinllbjkjhlaaGreatDoorL09
import Derived.Laws.Cover1
namespace Go.Proofs.YtaeinllbjkjhlaaGreatDoor
open Go.RowKit

/-- The names rise. -/
def nameLt (a b : ByteArray) : Bool := Op.bytesLess a.toList b.toList
structure OkLasts (xs : List Last) : Prop where
  ok : ∀ x ∈ xs, okLast x = true
  size : ∀ x ∈ xs, x.Name.size ≤ 9223372036854775807
  up : ∀ (i : Nat) (h : i + 1 < xs.length), nameLt xs[i].Name xs[i + 1].Name = true
  len : xs.length ≤ 30
set_option maxHeartbeats 1600000 in
theorem validLasts_ok (a : Option Addr) (xs : List Last) (c : Nat) (w : World) (hx : At w a xs) (h : OkLasts xs) :
    Calls Tryz.prog 41 #[.slice a xs.length c] w fun e w' => e = .returned (.bool true) ∧ Below w.heap.size w w' := by
  obtain ⟨hok, hsz, hup, hlen⟩ := h
  replace hok := Lib.hid hok
  replace hsz := Lib.hid hsz
  replace hup := Lib.hid hup
  go_enter Tryz.func41, Tryz.ntmps41
  go_wp2_with fail
  go_loopw [3, 4, 7] (fun _ _ i wr => ∃ k : Nat, k ≤ xs.length ∧ i = .int .i64 k ∧ Below w.heap.size w wr) (fun _ _ i _ => xs.length - (intOf i).toNat)
  case atStart => exact ⟨0, Nat.zero_le _, rfl, Below.refl _ _⟩
  case round =>
    obtain ⟨k, hk, rfl, hb⟩ := hrel
    obtain ⟨wa, hwa⟩ : ∃ wo : World, wo = wr := ⟨_, rfl⟩
    subst hwa
    by_cases hlt : k < xs.length
    · have hxa := hx.below hb
      obtain ⟨b, off, rfl⟩ := hx.addr hlt
      obtain ⟨y0, y1, y2, y3, y4, y5⟩ := hxa.last hlt
      have hkx := hok.out _ (List.getElem_mem hlt)
      have hkn := hsz.out _ (List.getElem_mem hlt)
      have hprev := Lib.hid (fun (j : Nat) (e : k = j + 1) => hup.out j (by omega))
      obtain ⟨x, hxe⟩ : ∃ x, x = xs[k] := ⟨_, rfl⟩
      rw [← hxe] at y0 y1 y2 y3 y4 y5 hkx hkn
      have hc1 := Lib.hid (fun w' => validLast_c x w' hkn)
      rw [hkx] at hc1
      obtain ⟨w2, hw2⟩ : ∃ w2, w2 = wa.alloc (.cells #[.string x.Name, .int .i64 x.Length, .int .i64 x.Ball, .int .i64 x.Instep, .int .i64 x.Heel, .int .i64 x.Pitch] 30) := ⟨_, rfl⟩
      have hb2 : Below wa.heap.size wa w2 := by rw [hw2]; exact newB _ _
      have V : Own wa.heap.size w2 30 (.slice (some ⟨wa.heap.size, 0, none⟩) 6 6) (lastC x) := by rw [hw2]; exact own_lastC wa _ x
      replace hb := upw hb hb2
      have hxb := hxa.below hb2
      clear hkx hkn hxa
      obtain ⟨x0, x1, x2, x3, x4, x5⟩ := lastC_cells V
      replace hw2 := Lib.hid hw2
      replace V := Lib.hid V
      by_cases hk0 : k = 0
      · have hkI : decide (0 < k) = false := by simp [hk0]
        replace hxe := Lib.hid hxe
        replace hk0 := Lib.hid hk0
        clear hprev
        go_wp2_with (rw [← hw2.out])
        refine wp_region_quiet_below (by kernel_rfl) (by kernel_rfl) ?_
        replace x0 := rg x0
        replace x1 := rg x1
        replace x2 := rg x2
        replace x3 := rg x3
        replace x4 := rg x4
        replace x5 := rg x5
        repeat (go_big_quiet_step ((go_at_call 42; exact Calls.regrown_of (hc1.out _))))
        refine wpQuiet_nil ?_
        intro w4 hw'
        replace hb := upw hb (grown_of hw')
        clear hw'
        go_wp2_with fail
        go_roundw
        case rel => exact ⟨k + 1, by omega, by first | rfl | go_num, hb⟩
        case measure => first | (simp [intOf]; done) | (simp [intOf]; omega)
      · obtain ⟨j, hj⟩ : ∃ j, k = j + 1 := ⟨k - 1, by omega⟩
        have hjl : j < xs.length := by omega
        obtain ⟨p0, -, -, -, -, -⟩ := hxb.last hjl
        have hlt2 := hprev.out j hj
        have hjx : xs[k] = xs[j + 1] := by simp [hj]
        rw [← hjx, ← hxe] at hlt2
        obtain ⟨N, hN⟩ : ∃ N, N = xs[j].Name := ⟨_, rfl⟩
        rw [← hN] at p0 hlt2
        have hkI : decide (0 < k) = true := by simp; omega
        have hkJ : (k : Int) - 1 = (j : Int) := by omega
        have hjI : (j : Int) < xs.length := by omega
        unfold nameLt at hlt2
        replace hxe := Lib.hid hxe
        replace hN := Lib.hid hN
        clear hprev hjx hk0
        replace hj := Lib.hid hj
        go_wp2_with (rw [← hw2.out])
        refine wp_region_quiet_below (by kernel_rfl) (by kernel_rfl) ?_
        replace x0 := rg x0
        replace x1 := rg x1
        replace x2 := rg x2
        replace x3 := rg x3
        replace x4 := rg x4
        replace x5 := rg x5
        replace p0 := rg p0
        repeat (go_big_quiet_step ((go_at_call 42; exact Calls.regrown_of (hc1.out _))))
        refine wpQuiet_nil ?_
        intro w4 hw'
        replace hb := upw hb (grown_of hw')
        clear hw'
        go_wp2_with fail
        go_roundw
        case rel => exact ⟨k + 1, by omega, by first | rfl | go_num, hb⟩
        case measure => first | (simp [intOf]; done) | (simp [intOf]; omega)
    · obtain rfl : k = xs.length := by omega
      have hlI : (xs.length : Int) ≤ 30 := by omega
      go_wp2_with fail
      go_ret
      exact ⟨rfl, hb⟩
end Go.Proofs.YtaeinllbjkjhlaaGreatDoor
