/- Chapter 4, where a name stands among lasts: the program's search, and the reference's. -/
import Derived.Test.YtaeinllbjkjhlaaGreatDoorLastMath
namespace Go.Proofs.YtaeinllbjkjhlaaGreatDoor
open Go.RowKit

theorem cmpS_is (x y : ByteArray) : cmpS x y = if Op.bytesLess x.toList y.toList then -1 else if x.toList == y.toList then 0 else 1 := by
  have h0 := cmpS_zero x y
  unfold cmpS at h0 ⊢
  unfold nameLt at h0 ⊢
  cases h1 : Op.bytesLess x.toList y.toList
  · rw [h1] at h0
    cases h2 : Op.bytesLess y.toList x.toList
    · rw [h2] at h0
      have : (x.toList == y.toList) = true := by rw [← h0]; rfl
      rw [this]; rfl
    · rw [h2] at h0
      have : (x.toList == y.toList) = false := by rw [← h0]; rfl
      rw [this]; rfl
  · rfl
theorem isNaNS_c (x : ByteArray) (w : World) : Calls Tryz.prog 114 #[.string x] w fun e w' => e = .returned (.bool false) ∧ w' = w := by
  go_enter Tryz.func114, Tryz.ntmps114
  go_wp2
  go_ret
  exact ⟨by simp, rfl⟩
set_option maxHeartbeats 1000000 in
theorem compareS_c (x y : ByteArray) (w : World) : Calls Tryz.prog 91 #[.string x, .string y] w fun e w' => e = .returned (.int .i64 (cmpS x y)) ∧ w' = w := by
  rw [cmpS_is]
  go_enter Tryz.func91, Tryz.ntmps91
  go_wp2_with (go_at_call 114; refine (isNaNS_c _ _).mono ?_; rintro e w' ⟨rfl, hw⟩; rw [hw])
  all_goals (go_ret; refine ⟨?_, rfl⟩; simp_all)
theorem lastPlace1_c (x : Last) (nm : ByteArray) (w : World) :
    Calls Tryz.prog 90 #[.agg #[.string x.Name, .int .i64 x.Length, .int .i64 x.Ball, .int .i64 x.Instep, .int .i64 x.Heel, .int .i64 x.Pitch], .string nm] w fun e w' => e = .returned (.int .i64 (cmpS x.Name nm)) ∧ Below w.heap.size w w' := by
  obtain ⟨w1, hw1⟩ : ∃ w1, w1 = w.alloc (.cells #[.string x.Name, .int .i64 x.Length, .int .i64 x.Ball, .int .i64 x.Instep, .int .i64 x.Heel, .int .i64 x.Pitch] 30) := ⟨_, rfl⟩
  have hb : Below w.heap.size w w1 := by rw [hw1]; exact newB _ _
  obtain ⟨x0, x1, x2, x3, x4, x5⟩ := lastC_cells (by rw [hw1]; exact own_lastC w 30 x : Own w.heap.size w1 30 (.slice (some ⟨w.heap.size, 0, none⟩) 6 6) (lastC x))
  replace hw1 := Lib.hid hw1
  go_enter Tryz.func90, Tryz.ntmps90
  go_wp2_with (rw [← hw1.out])
  refine (compareS_c _ _ _).mono ?_
  rintro e w2 ⟨rfl, hw⟩
  rw [hw]
  go_wp2_with fail
  go_ret
  exact ⟨rfl, hb⟩
theorem lastPlace1_enters : Enters Tryz.prog 90 := enters_of Tryz.func90 (by kernel_rfl) (by kernel_rfl)
theorem place_step_lo {xs : List Last} {nm : ByteArray} {m : Nat} (ok : OkLasts xs) (hm : m < xs.length) (h : nameLt xs[m].Name nm = true) : ∀ t, t < m + 1 → ∀ (ht : t < xs.length), nameLt xs[t].Name nm = true := fun t h1 ht => by
  by_cases e : t = m
  · subst e; exact h
  · exact nlt_trans (up_all ok (show t < m by omega) hm) h
theorem place_step_hi {xs : List Last} {nm : ByteArray} {m : Nat} (ok : OkLasts xs) (hm : m < xs.length) (h : nameLt xs[m].Name nm = false) : ∀ t, m ≤ t → ∀ (ht : t < xs.length), nameLt xs[t].Name nm = false := fun t h1 ht => by
  by_cases e : t = m
  · subst e; exact h
  · cases h2 : nameLt xs[t].Name nm
    · rfl
    · have := nlt_trans (up_all ok (show m < t by omega) ht) h2
      rw [h] at this; cases this
set_option maxHeartbeats 1600000 in
theorem binSearch_c (a : Option Addr) (xs : List Last) (c : Nat) (nm : ByteArray) (w : World) (hx : At w a xs) (ok : OkLasts xs) :
    Calls Tryz.prog 89 #[.slice a xs.length c, .string nm, .func (.func 90) #[] #[]] w fun e w' => ∃ i : Nat, e = .returned (.tuple #[.int .i64 i, .bool (hasNm xs nm)]) ∧ PlaceOf xs nm i ∧ Below w.heap.size w w' := by
  have hlen := ok.len
  replace ok := Lib.hid ok
  obtain ⟨R, hR⟩ : ∃ R, R = hasNm xs nm := ⟨_, rfl⟩
  rw [← hR]
  replace hR := Lib.hid hR
  have hK := lastPlace1_enters
  unfold Enters at hK
  have hs0 := Lib.hid (show (∀ t, t < 0 → ∀ (h : t < xs.length), nameLt xs[t].Name nm = true) ∧ (∀ t, xs.length ≤ t → ∀ (h : t < xs.length), nameLt xs[t].Name nm = false) from ⟨fun t h _ => by omega, fun t h h2 => by omega⟩)
  go_enter Tryz.func89, Tryz.ntmps89
  go_wp2_with fail
  go_loopw [9, 10, 11] (fun l h _ wr => ∃ lo hi : Nat, l = .int .i64 lo ∧ h = .int .i64 hi ∧ lo ≤ hi ∧ hi ≤ xs.length ∧ Hid ((∀ t, t < lo → ∀ (h : t < xs.length), nameLt xs[t].Name nm = true) ∧ (∀ t, hi ≤ t → ∀ (h : t < xs.length), nameLt xs[t].Name nm = false)) ∧ Below w.heap.size w wr) (fun l h _ _ => (intOf h - intOf l).toNat)
  case atStart => exact ⟨0, xs.length, rfl, rfl, Nat.zero_le _, Nat.le_refl _, hs0, Below.refl _ _⟩
  case round =>
    clear hs0
    obtain ⟨lo, hi, rfl, rfl, hlh, hin, hS, hb⟩ := hrel
    by_cases hlt : lo < hi
    · obtain ⟨m, hm⟩ : ∃ m, m = (lo + hi) / 2 := ⟨_, rfl⟩
      have hme : ((lo : Int) + (hi : Int)) / 2 = (m : Int) := by omega
      have hml : m < xs.length := by omega
      have hmb : lo ≤ m ∧ m < hi := by omega
      clear hm
      obtain ⟨b, off, rfl⟩ := hx.addr hml
      obtain ⟨y0, y1, y2, y3, y4, y5⟩ := (hx.below hb).last hml
      have hL := Lib.hid (fun h => place_step_lo ok.out hml (nm := nm) h)
      have hH := Lib.hid (fun h => place_step_hi ok.out hml (nm := nm) h)
      have hneg := Lib.hid (cmpS_neg xs[m].Name nm)
      generalize xs[m] = y at *
      have hc := Lib.hid (fun w' => lastPlace1_c y nm w')
      cases hn : nameLt y.Name nm
      · rw [hn] at hneg
        have hneg' : ¬ cmpS y.Name nm < 0 := of_decide_eq_false hneg.out
        generalize cmpS y.Name nm = cv at *
        have hS2 := Lib.hid (⟨hS.out.1, hH.out hn⟩ : (∀ t, t < lo → ∀ (h : t < xs.length), nameLt xs[t].Name nm = true) ∧ (∀ t, m ≤ t → ∀ (h : t < xs.length), nameLt xs[t].Name nm = false))
        clear hL hH hS hn hneg
        go_wp2_with fail
        refine (hc.out _).mono ?_
        rintro e w2 ⟨rfl, hb2⟩
        replace hb := upw hb hb2
        go_wp2_with fail
        go_roundw
        case rel => exact ⟨lo, m, rfl, by first | rfl | rw [hme], by omega, by omega, hS2, hb⟩
        case measure => simp [intOf]; omega
      · rw [hn] at hneg
        have hneg' : cmpS y.Name nm < 0 := of_decide_eq_true hneg.out
        generalize cmpS y.Name nm = cv at *
        have hS2 := Lib.hid (⟨hL.out hn, hS.out.2⟩ : (∀ t, t < m + 1 → ∀ (h : t < xs.length), nameLt xs[t].Name nm = true) ∧ (∀ t, hi ≤ t → ∀ (h : t < xs.length), nameLt xs[t].Name nm = false))
        clear hL hH hS hn hneg
        go_wp2_with fail
        refine (hc.out _).mono ?_
        rintro e w2 ⟨rfl, hb2⟩
        replace hb := upw hb hb2
        go_wp2_with fail
        go_roundw
        case rel => exact ⟨m + 1, hi, by first | rfl | go_num | (rw [hme]; rfl), rfl, by omega, by omega, hS2, hb⟩
        case measure => simp [intOf]; omega
    · obtain rfl : hi = lo := by omega
      have hP := Lib.hid (⟨hin, hS.out.1, hS.out.2⟩ : PlaceOf xs nm hi)
      clear hS
      by_cases hn : hi < xs.length
      · obtain ⟨b, off, rfl⟩ := hx.addr hn
        obtain ⟨y0, y1, y2, y3, y4, y5⟩ := (hx.below hb).last hn
        have hz := cmpS_zero xs[hi].Name nm
        have hY := Lib.hid (fun h => place_yes (nm := nm) hn h)
        have hN := Lib.hid (fun (h : nmEq nm xs[hi] = false) => place_no ok.out hP.out (fun _ => h))
        unfold nmEq at hY hN
        generalize xs[hi] = y at *
        have hc := Lib.hid (fun w' => lastPlace1_c y nm w')
        cases hq : (y.Name.toList == nm.toList)
        · obtain rfl : R = false := hR.out.trans (hN.out hq)
          rw [hq] at hz
          generalize cmpS y.Name nm = cv at *
          clear hY hN hq
          go_wp2_with fail
          refine (hc.out _).mono ?_
          rintro e w2 ⟨rfl, hb2⟩
          replace hb := upw hb hb2
          go_wp2_with fail
          go_ret2
          exact ⟨hi, rfl, hP.out, hb⟩
        · obtain rfl : R = true := hR.out.trans (hY.out hq)
          rw [hq] at hz
          generalize cmpS y.Name nm = cv at *
          clear hY hN hq
          go_wp2_with fail
          refine (hc.out _).mono ?_
          rintro e w2 ⟨rfl, hb2⟩
          replace hb := upw hb hb2
          go_wp2_with fail
          go_ret2
          exact ⟨hi, rfl, hP.out, hb⟩
      · obtain rfl : R = false := hR.out.trans (place_no ok.out hP.out (fun h => absurd h hn))
        go_wp2_with fail
        go_ret2
        exact ⟨hi, rfl, hP.out, hb⟩
theorem lastPlace_c (a : Option Addr) (xs : List Last) (c : Nat) (nm : ByteArray) (w : World) (hx : At w a xs) (ok : OkLasts xs) :
    Calls Tryz.prog 43 #[.slice a xs.length c, .string nm] w fun e w' => ∃ i : Nat, e = .returned (.tuple #[.int .i64 i, .bool (hasNm xs nm)]) ∧ PlaceOf xs nm i ∧ Below w.heap.size w w' := by
  go_enter Tryz.func43, Tryz.ntmps43
  go_wp2_with fail
  refine (binSearch_c a xs c nm w hx ok).mono ?_
  rintro e w2 ⟨i, rfl, hP, hb⟩
  go_wp2_with fail
  go_ret2
  exact ⟨i, rfl, hP, hb⟩
end Go.Proofs.YtaeinllbjkjhlaaGreatDoor
