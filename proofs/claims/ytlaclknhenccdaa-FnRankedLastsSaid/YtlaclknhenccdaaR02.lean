/- Chapter 4, which lasts and fits are valid, and which lasts are allowed: the program. -/
import Derived.Test.YtlaclknhenccdaaR01
import Derived.Test.YtlaclknhenccdaaL09
import Derived.Laws.Cover1
namespace Go.Proofs.Ytlaclknhenccdaa
open Go.RowKit

theorem fit_inr {q : FitV} (h : OkFit q) : inr q.mx 0 500 = true ∧ inr q.mn 0 q.mx = true ∧ inr q.gi 0 500 = true ∧ outs q.ws 0 100 = false := by
  refine ⟨inr_true.2 h.mx, inr_true.2 h.mn, inr_true.2 h.gi, ?_⟩
  have h0 := inr_true.2 h.w0; have h1 := inr_true.2 h.w1; have h2 := inr_true.2 h.w2; have h3 := inr_true.2 h.w3
  simp [outs, FitV.ws, h0, h1, h2, h3]
set_option maxHeartbeats 800000 in
theorem validFit_ok (q : FitV) (fa : Option Addr) (c : Nat) (w : World) (hq : OkFit q) (hW : At w fa q.ws) :
    Calls Try.prog 115 #[.agg #[.int .i64 q.mn, .int .i64 q.mx, .int .i64 q.gi, .slice fa 4 c]] w fun e w' => e = .returned (.bool true) ∧ Below w.heap.size w w' := by
  obtain ⟨h1, h2, h3, h4⟩ := fit_inr hq
  obtain ⟨w1, hw1⟩ : ∃ w1, w1 = w.alloc (.cells #[.int .i64 q.mn, .int .i64 q.mx, .int .i64 q.gi, .slice fa 4 c] 72) := ⟨_, rfl⟩
  have hb : Below w.heap.size w w1 := by rw [hw1]; exact newB _ _
  obtain ⟨q0, q1, q2, q3⟩ := fitC_cells (by rw [hw1]; exact own_fitC w 72 q fa c : Own w.heap.size w1 72 (.slice (some ⟨w.heap.size, 0, none⟩) 4 4) (fitC q fa c))
  replace hw1 := Lib.hid hw1
  have hO := Lib.hid (fun w' h => outside_c fa q.ws c 0 100 w' h (show 4 ≤ 9223372036854775807 by omega))
  rw [show q.ws.length = 4 from rfl, h4] at hO
  replace hW := hW.below hb
  clear hq h4
  go_enter Try.func115, Try.ntmps115
  go_wp2_with (first | rw [← hw1.out] | (go_at_call 73; refine (within_c _ _ _ _).mono ?_; rintro e w' ⟨rfl, rfl⟩; first | rw [h1] | rw [h2] | rw [h3]) | (go_at_call 144; refine (hO.out _ hW).mono ?_; rintro e w2 ⟨rfl, hb2⟩; replace hb := upw hb hb2))
  go_ret
  exact ⟨rfl, hb⟩
set_option maxHeartbeats 1600000 in
theorem mayFit_ok (x : Last) (f : Foot) (q : FitV) (fa : Option Addr) (c : Nat) (w : World) (hx : okLast x = true) (hf : okFoot f = true) (hq : OkFit q) (hn : x.Name.size ≤ 9223372036854775807) (hW : At w fa q.ws) :
    Calls Try.prog 54 #[.agg #[.string x.Name, .int .i64 x.Length, .int .i64 x.Ball, .int .i64 x.Instep, .int .i64 x.Heel, .int .i64 x.Pitch], .agg #[.int .i64 f.Length, .int .i64 f.Ball, .int .i64 f.Instep, .int .i64 f.Heel], .agg #[.int .i64 q.mn, .int .i64 q.mx, .int .i64 q.gi, .slice fa 4 c]] w fun e w' => e = .returned (.tuple #[.bool (mayL x f q), .int .i64 0]) ∧ Below w.heap.size w w' := by
  obtain ⟨w3, hw3, D⟩ := box3 w x f q fa c
  replace hW := hW.below D.up
  have hc1 := Lib.hid (fun w' => validLast_c x w' hn)
  have hc2 := Lib.hid (fun w' => validFoot_c f w')
  have hc3 := Lib.hid (fun w' h => validFit_ok q fa c w' hq h)
  have hc4 := Lib.hid (fun w' h => fitCost_c x f q fa c w' hx hf hq h)
  rw [hx] at hc1
  rw [hf] at hc2
  clear hx hf hq hn
  replace hw3 := Lib.hid hw3
  replace D := Lib.hid D
  obtain ⟨x0, x1, x2, x3, x4, x5⟩ := lastC_cells (D.out.get 2 rfl)
  obtain ⟨f0, f1, f2, f3⟩ := footC_cells (D.out.get 1 rfl)
  obtain ⟨q0, q1, q2, q3⟩ := fitC_cells (D.out.get 0 rfl)
  go_enter Try.func54, Try.ntmps54
  go_wp2_with (rw [← hw3.out])
  refine (hc1.out _).mono ?_
  rintro e w2 ⟨rfl, hb2⟩
  replace D := Lib.hid (D.out.later hb2)
  replace hW := hW.below hb2
  clear hb2
  clear x0 x1 x2 x3 x4 x5 f0 f1 f2 f3 q0 q1 q2 q3
  obtain ⟨x0, x1, x2, x3, x4, x5⟩ := lastC_cells (D.out.get 2 rfl)
  obtain ⟨f0, f1, f2, f3⟩ := footC_cells (D.out.get 1 rfl)
  obtain ⟨q0, q1, q2, q3⟩ := fitC_cells (D.out.get 0 rfl)
  go_wp2_with fail
  refine (hc2.out _).mono ?_
  rintro e w2 ⟨rfl, hb2⟩
  replace D := Lib.hid (D.out.later hb2)
  replace hW := hW.below hb2
  clear hb2
  clear x0 x1 x2 x3 x4 x5 f0 f1 f2 f3 q0 q1 q2 q3
  obtain ⟨x0, x1, x2, x3, x4, x5⟩ := lastC_cells (D.out.get 2 rfl)
  obtain ⟨f0, f1, f2, f3⟩ := footC_cells (D.out.get 1 rfl)
  obtain ⟨q0, q1, q2, q3⟩ := fitC_cells (D.out.get 0 rfl)
  go_wp2_with fail
  refine (hc3.out _ hW).mono ?_
  rintro e w2 ⟨rfl, hb2⟩
  replace D := Lib.hid (D.out.later hb2)
  replace hW := hW.below hb2
  clear hb2
  clear x0 x1 x2 x3 x4 x5 f0 f1 f2 f3 q0 q1 q2 q3
  obtain ⟨x0, x1, x2, x3, x4, x5⟩ := lastC_cells (D.out.get 2 rfl)
  obtain ⟨f0, f1, f2, f3⟩ := footC_cells (D.out.get 1 rfl)
  obtain ⟨q0, q1, q2, q3⟩ := fitC_cells (D.out.get 0 rfl)
  go_wp2_with fail
  refine (hc4.out _ hW).mono ?_
  rintro e w2 ⟨rfl, hb2⟩
  replace D := Lib.hid (D.out.later hb2)
  go_wp2_with fail
  go_ret2
  exact ⟨rfl, D.out.up⟩
/-- The names rise. -/
def nameLt (a b : ByteArray) : Bool := Op.bytesLess a.toList b.toList
structure OkLasts (xs : List Last) : Prop where
  ok : ∀ x ∈ xs, okLast x = true
  size : ∀ x ∈ xs, x.Name.size ≤ 9223372036854775807
  up : ∀ (i : Nat) (h : i + 1 < xs.length), nameLt xs[i].Name xs[i + 1].Name = true
  len : xs.length ≤ 30
set_option maxHeartbeats 1600000 in
theorem validLasts_ok (a : Option Addr) (xs : List Last) (c : Nat) (w : World) (hx : At w a xs) (h : OkLasts xs) :
    Calls Try.prog 113 #[.slice a xs.length c] w fun e w' => e = .returned (.bool true) ∧ Below w.heap.size w w' := by
  obtain ⟨hok, hsz, hup, hlen⟩ := h
  replace hok := Lib.hid hok
  replace hsz := Lib.hid hsz
  replace hup := Lib.hid hup
  go_enter Try.func113, Try.ntmps113
  go_wp2_with fail
  go_loopw [3, 4, 7] (fun _ _ i wr => ∃ k : Nat, k ≤ xs.length ∧ i = .int .i64 k ∧ Below w.heap.size w wr) (fun _ _ i _ => xs.length - (intOf i).toNat)
  case atStart => exact ⟨0, Nat.zero_le _, rfl, Below.refl _ _⟩
  case round =>
    obtain ⟨k, hk, rfl, hb⟩ := hrel
    obtain ⟨wa, hwa⟩ : ∃ wo : World, wo = wr := ⟨_, rfl⟩
    subst hwa
    by_cases hlt : k < xs.length
    · have hxa := hx.below hb
      obtain ⟨b, off, rfl⟩ := hx.addr hlt
      obtain ⟨y0, y1, y2, y3, y4, y5⟩ := hxa.last hlt
      have hkx := hok.out _ (List.getElem_mem hlt)
      have hkn := hsz.out _ (List.getElem_mem hlt)
      have hprev := Lib.hid (fun (j : Nat) (e : k = j + 1) => hup.out j (by omega))
      obtain ⟨x, hxe⟩ : ∃ x, x = xs[k] := ⟨_, rfl⟩
      rw [← hxe] at y0 y1 y2 y3 y4 y5 hkx hkn
      have hc1 := Lib.hid (fun w' => validLast_c x w' hkn)
      rw [hkx] at hc1
      obtain ⟨w2, hw2⟩ : ∃ w2, w2 = wa.alloc (.cells #[.string x.Name, .int .i64 x.Length, .int .i64 x.Ball, .int .i64 x.Instep, .int .i64 x.Heel, .int .i64 x.Pitch] 77) := ⟨_, rfl⟩
      have hb2 : Below wa.heap.size wa w2 := by rw [hw2]; exact newB _ _
      have V : Own wa.heap.size w2 77 (.slice (some ⟨wa.heap.size, 0, none⟩) 6 6) (lastC x) := by rw [hw2]; exact own_lastC wa _ x
      replace hb := upw hb hb2
      have hxb := hxa.below hb2
      clear hkx hkn hxa
      obtain ⟨x0, x1, x2, x3, x4, x5⟩ := lastC_cells V
      replace hw2 := Lib.hid hw2
      replace V := Lib.hid V
      by_cases hk0 : k = 0
      · have hkI : decide (0 < k) = false := by simp [hk0]
        replace hxe := Lib.hid hxe
        replace hk0 := Lib.hid hk0
        clear hprev
        go_wp2_with (rw [← hw2.out])
        refine wp_region_quiet_below (by kernel_rfl) (by kernel_rfl) ?_
        replace x0 := rg x0
        replace x1 := rg x1
        replace x2 := rg x2
        replace x3 := rg x3
        replace x4 := rg x4
        replace x5 := rg x5
        repeat (go_big_quiet_step ((go_at_call 126; exact Calls.regrown_of (hc1.out _))))
        refine wpQuiet_nil ?_
        intro w4 hw'
        replace hb := upw hb (grown_of hw')
        clear hw'
        go_wp2_with fail
        go_roundw
        case rel => exact ⟨k + 1, by omega, by first | rfl | go_num, hb⟩
        case measure => first | (simp [intOf]; done) | (simp [intOf]; omega)
      · obtain ⟨j, hj⟩ : ∃ j, k = j + 1 := ⟨k - 1, by omega⟩
        have hjl : j < xs.length := by omega
        obtain ⟨p0, -, -, -, -, -⟩ := hxb.last hjl
        have hlt2 := hprev.out j hj
        have hjx : xs[k] = xs[j + 1] := by simp [hj]
        rw [← hjx, ← hxe] at hlt2
        obtain ⟨N, hN⟩ : ∃ N, N = xs[j].Name := ⟨_, rfl⟩
        rw [← hN] at p0 hlt2
        have hkI : decide (0 < k) = true := by simp; omega
        have hkJ : (k : Int) - 1 = (j : Int) := by omega
        have hjI : (j : Int) < xs.length := by omega
        unfold nameLt at hlt2
        replace hxe := Lib.hid hxe
        replace hN := Lib.hid hN
        clear hprev hjx hk0
        replace hj := Lib.hid hj
        go_wp2_with (rw [← hw2.out])
        refine wp_region_quiet_below (by kernel_rfl) (by kernel_rfl) ?_
        replace x0 := rg x0
        replace x1 := rg x1
        replace x2 := rg x2
        replace x3 := rg x3
        replace x4 := rg x4
        replace x5 := rg x5
        replace p0 := rg p0
        repeat (go_big_quiet_step ((go_at_call 126; exact Calls.regrown_of (hc1.out _))))
        refine wpQuiet_nil ?_
        intro w4 hw'
        replace hb := upw hb (grown_of hw')
        clear hw'
        go_wp2_with fail
        go_roundw
        case rel => exact ⟨k + 1, by omega, by first | rfl | go_num, hb⟩
        case measure => first | (simp [intOf]; done) | (simp [intOf]; omega)
    · obtain rfl : k = xs.length := by omega
      have hlI : (xs.length : Int) ≤ 30 := by omega
      go_wp2_with fail
      go_ret
      exact ⟨rfl, hb⟩
end Go.Proofs.Ytlaclknhenccdaa
