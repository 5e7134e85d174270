/- FnBuilds: for all bytes the law returns true, and the bytes read behind the call as before. -/
import Derived.Test.YtokoallbhbgkkaaL06r
namespace Go.Proofs.Ytokoallbhbgkkaa
open Go.ChangeShapes Go.WideShapes Go.ChangeAt Go.RowKit

theorem sum_drawn {ls D : List Int} (hD : DrawnL ls) (hm : ∀ x ∈ D, x ∈ ls) (hl : D.length ≤ 12) : 0 ≤ sumI D ∧ sumI D ≤ 432 := by
  have h1 := (free_isBld (ls := ls) (fun l hl => by have := hD.pos l hl; omega) D hm).2
  have h2 := sumI_bound 36 (by omega) D (fun x hx => by have := hD.pos x (hm x hx); omega)
  omega
theorem fwRes_nat {ls : List Int} {lo hi : Nat} (h : layOk ls = true) (h1 : hi ≤ 1000) (h2 : lo ≤ hi) : fwRes ls lo hi = (match withinB ls lo (hi + 1 - lo) with | none => ([], 3) | some x => (x, 0)) :=
  fwRes_in h (inr_true.2 (by omega)) (inr_true.2 (by omega))
theorem withinB_some_iff {ls : List Int} {lo k : Nat} {x : List Int} (h : shortest ls (lo + k) = some x) : (withinB ls lo (k + 1)).isSome = true := by
  cases hq : withinB ls lo (k + 1) with
  | some y => rfl
  | none => have := (withinB_none (k + 1)).1 hq (lo + k) (by omega) (by omega); rw [this] at h; cases h
theorem withinB_keep {ls : List Int} {lo k : Nat} (h : shortest ls (lo + k) = none) : withinB ls lo (k + 1) = withinB ls lo k := by
  rw [withinB_succ]; unfold withinStep; rw [h]
set_option maxRecDepth 100000 in
set_option maxHeartbeats 8000000 in
theorem lawBuilds (a : Option Addr) (L : List UInt8) (c : Nat) (a' : Option Addr) (M : List UInt8) (c' : Nat) (w : World) (hx : At w a L) (hlx : L.length ≤ 9223372036854775807) (hy : At w a' M) (hly : M.length ≤ 9223372036854775807) :
    Calls Try.prog 6 #[.slice a L.length c, .slice a' M.length c'] w fun e w' => e = .returned (.bool true) ∧ Below w.heap.size w w' := by
  have hlong := a2Long_c a a' L M c c' w
  by_cases hg : 3000 < L.length ∨ 3000 < M.length
  · have e : (decide (3000 < L.length) || decide (3000 < M.length)) = true := by simpa using hg
    rw [e] at hlong
    go_enter Try.func6, Try.ntmps6
    go_wp2_with (go_at_call 24; refine hlong.mono ?_; rintro e w1 ⟨rfl, rfl⟩)
    go_ret
    exact ⟨rfl, Below.refl _ _⟩
  · have e : (decide (3000 < L.length) || decide (3000 < M.length)) = false := by simp; omega
    rw [e] at hlong
    have hL3 : L.length ≤ 3000 := by omega
    have hM3 : M.length ≤ 3000 := by omega
    clear e hg
    go_enter Try.func6, Try.ntmps6
    go_wp2_with fail
    refine hlong.mono ?_
    rintro e w1 ⟨rfl, rfl⟩
    go_wp2_with fail
    refine (A2Layers_c a L c w hx hlx).mono ?_
    rintro e w1 ⟨v1, ls, rfl, hO1, hD, hb1⟩
    obtain ⟨a1, c1, rfl, hA1⟩ := hO1.at
    have hok := drawn_ok hD
    have hll := hD.len
    go_wp2_with fail
    refine (A2Build_c a' M c' a1 ls c1 w1 (hy.below hb1) hly hA1 hD).mono ?_
    rintro e w2 ⟨v2, D, rfl, hO2, hDm, hDl, hb2⟩
    obtain ⟨a2, c2, rfl, hA2⟩ := hO2.at
    have hsD := sum_drawn hD hDm hDl
    obtain ⟨hfb, _⟩ := free_isBld (ls := ls) (fun l hl => by have := hD.pos l hl; omega) D hDm
    obtain ⟨X, hX, hXl⟩ := shortest_least hfb
    have hXs := shortest_sum hX
    have hXm := shortest_mem hX
    have hXd := Lib.hid (shortest_desc hD.rises X _ hX)
    obtain ⟨s, hs⟩ : ∃ s : Nat, sumI D = s := ⟨(sumI D).toNat, by omega⟩
    have hDe := Lib.hid (fun x hx => (by have := hD.pos x (hDm x hx); omega : -1000000 ≤ x ∧ x ≤ 1000000))
    rw [hs] at hX hXs hsD
    rw [Int.toNat_natCast] at hX hXs
    have hs1 : s ≤ 1000 := by omega
    clear hO1 hO2 hfb hDm
    have hb := upw hb1 hb2
    replace hA1 := hA1.below hb2
    replace hs := Lib.hid hs
    go_wp2_with fail
    refine (a2Sum_c a2 D c2 w2 hA2 (by omega) hDe.out).mono ?_
    rintro e w3 ⟨rfl, rfl⟩
    rw [hs.out]
    have hfr : flRes ls s = (X, 0) := by unfold flRes; rw [hX]
    have hfc := fewestLayers_c a1 ls c1 s w2 hA1 hok hs1
    rw [hfr] at hfc
    go_wp2_with fail
    refine hfc.mono ?_
    rintro e w3 ⟨v3, rfl, hO3, hb3⟩
    obtain ⟨a3, c3, rfl, hA3⟩ := hO3.at
    replace hA1 := hA1.below hb3
    replace hy := hy.below (upw hb hb3)
    replace hb := upw hb hb3
    clear hb3 hO3 hA2 hfc hfr hb1 hb2 hlong
    have hXe := Lib.hid (fun x hx => (by have := hD.pos x (hXm x hx); omega : -1000000 ≤ x ∧ x ≤ 1000000))
    replace hXs := Lib.hid hXs
    replace hXm := Lib.hid hXm
    have hXl3 : X.length ≤ 12 := by omega
    have hsx := a2Sum_c a3 X c3 w3 hA3 (by omega) hXe.out
    rw [hXs.out] at hsx
    have hXl2 : ¬ D.length < X.length := by omega
    replace hX := Lib.hid hX
    replace hXl := Lib.hid hXl
    replace hDl := Lib.hid hDl
    go_wp2_with (go_at_call 27; refine hsx.mono ?_; rintro e w4 ⟨rfl, rfl⟩)
    go_loopw [10] (fun i wr => ∃ k : Nat, k ≤ X.length ∧ i = .int .i64 k ∧ Below w3.heap.size w3 wr) (fun i _ => X.length - (intOf i).toNat)
    case atStart => exact ⟨0, Nat.zero_le _, rfl, Below.refl _ _⟩
    case round =>
      obtain ⟨k, hk, rfl, hbl⟩ := hrel
      by_cases hlt : k < X.length
      · have hA3r := hA3.below hbl
        obtain ⟨b, off, rfl⟩ := hA3r.addr hlt
        have c0 := rg (hA3r.int hlt)
        have hhas : ∀ w', Below wr.heap.size wr w' → Calls Try.prog 32 #[.slice a1 ls.length c1, .int .i64 X[k]] w' fun e w'' => e = .returned (.bool true) ∧ w' = w'' := fun w' hb' => by
          have := a2Has_c a1 ls c1 X[k] w' ((hA1.below hbl).below hb') (by omega)
          rw [decide_eq_true (hXm.out _ (List.getElem_mem hlt))] at this
          exact this
        replace hhas := Lib.hid hhas
        obtain ⟨wo, hwo⟩ : ∃ wo : World, wo = wr := ⟨_, rfl⟩
        subst hwo
        by_cases h0 : 0 < k
        · have hk1 : k - 1 < X.length := by omega
          have c1' := rg (hA3r.int hk1)
          have hd := hXd.out (k - 1) (by omega)
          have hd2 : ¬ X[k - 1] < X[k] := by
            simp only [show k - 1 + 1 = k by omega] at hd
            omega
          have hi1 : ((k : Int) - 1).toNat = k - 1 := by omega
          clear hd
          have hb := Below.refl wo.heap.size wo
          go_wp2_with fail
          refine wp_region_quiet_below (by kernel_rfl) (by kernel_rfl) ?_
          repeat (go_big_quiet_step ((go_at_call 32; exact Calls.regrown_same (hhas.out _ (grown_of ⟨⟨_, _⟩, rfl⟩)))))
          refine wpQuiet_nil ?_
          intro w2 hw'
          replace hb := upw hb (grown_of hw')
          clear hw'
          go_wp2_with fail
          go_roundw
          case rel => exact ⟨k + 1, by omega, by go_num, upw hbl hb⟩
          case measure => simp [intOf]; omega
        · have hd : decide ((0 : Int) < (k : Int)) = false := by simp; omega
          have hb := Below.refl wo.heap.size wo
          go_wp2_with fail
          refine wp_region_quiet_below (by kernel_rfl) (by kernel_rfl) ?_
          repeat (go_big_quiet_step ((go_at_call 32; exact Calls.regrown_same (hhas.out _ (grown_of ⟨⟨_, _⟩, rfl⟩)))))
          refine wpQuiet_nil ?_
          intro w2 hw'
          replace hb := upw hb (grown_of hw')
          clear hw'
          go_wp2_with fail
          go_roundw
          case rel => exact ⟨k + 1, by omega, by go_num, upw hbl hb⟩
          case measure => simp [intOf]; omega
      · replace hb := upw hb hbl
        replace hy := hy.below hbl
        replace hA1 := hA1.below hbl
        clear hA3 hXd hXe hsx
        obtain ⟨w5, hw5⟩ : ∃ w5 : World, w5 = wr := ⟨_, rfl⟩
        subst hw5
        go_wp2_with fail
        refine (a2At_c a' M c' 30 60 w5 hy hM3 (by omega) (by omega) (by omega)).mono ?_
        rintro e w6 ⟨lo, rfl, lo0, lo1, rfl⟩
        go_wp2_with fail
        refine (a2At_c a' M c' 31 6 w5 hy hM3 (by omega) (by omega) (by omega)).mono ?_
        rintro e w6 ⟨df, rfl, df0, df1, rfl⟩
        obtain ⟨l, rfl⟩ : ∃ l : Nat, lo = l := ⟨lo.toNat, by omega⟩
        obtain ⟨d, rfl⟩ : ∃ d : Nat, df = d := ⟨df.toNat, by omega⟩
        have hl59 : l ≤ 59 := by omega
        have hd5 : d ≤ 5 := by omega
        obtain ⟨hi, hhi⟩ : ∃ hi : Nat, l + d = hi := ⟨_, rfl⟩
        have hhiI : (l : Int) + d = hi := by omega
        have hh64 : hi ≤ 64 := by omega
        have hlh : l ≤ hi := by omega
        clear lo0 lo1 df0 df1 hhi
        have hwc := implFewestWithin_c0 a1 ls c1 l hi w5 hA1 (by omega)
        rw [fwRes_nat hok (by omega) hlh] at hwc
        cases hW : withinB ls l (hi + 1 - l) with
        | none =>
          rw [hW] at hwc
          have hWn := Lib.hid ((withinB_none (ls := ls) (low := l) (hi + 1 - l)).1 hW)
          go_wp2_with fail
          refine hwc.mono ?_
          rintro e w6 ⟨v6, rfl, hO6, hb6⟩
          obtain ⟨a6, c6, rfl, hA6⟩ := hO6.at
          replace hA1 := hA1.below hb6
          replace hb := upw hb hb6
          clear hO6 hb6 hwc hA6
          go_wp2_with fail
          refine (unreachedSums_c a1 ls c1 hi w6 hA1 hok (by omega)).mono ?_
          rintro e w7 ⟨v7, rfl, hO7, hb7⟩
          obtain ⟨a7, c7, rfl, hA7⟩ := hO7.at
          replace hA1 := hA1.below hb7
          replace hb := upw hb hb7
          clear hO7 hb7
          have hul := unL_len ls (hi + 1)
          go_wp2_with fail
          go_loopw [17, 18] (fun f i wr => ∃ k : Nat, l + k ≤ hi + 1 ∧ i = .int .i64 ((l + k : Nat) : Int) ∧ f = .bool false ∧ Below w7.heap.size w7 wr) (fun _ i _ => hi + 1 - (intOf i).toNat)
          case atStart => exact ⟨0, by omega, rfl, rfl, Below.refl _ _⟩
          case round =>
            obtain ⟨k, hk, rfl, rfl, hbl⟩ := hrel
            by_cases hlt : l + k ≤ hi
            · obtain ⟨wo, hwo⟩ : ∃ wo : World, wo = wr := ⟨_, rfl⟩
              subst hwo
              have hfc := fewestLayers_c a1 ls c1 (l + k) wo (hA1.below hbl) hok (by omega)
              have hmem := unL_mem (ls := ls) (k := hi + 1) (n := l + k) (by omega)
              have hhas := fun w' hb' => a2Has_c a7 (unL ls (hi + 1)) c7 ((l + k : Nat) : Int) w' ((hA7.below hbl).below hb') (by omega)
              have hs2 : shortest ls (l + k) = none := hWn.out _ (by omega) (by omega)
              have e1 : flRes ls (l + k) = ([], 3) := by unfold flRes; rw [hs2]
              rw [e1] at hfc
              rw [decide_eq_true (hmem.2 hs2)] at hhas
              replace hhas := Lib.hid hhas
              clear hmem e1 hs2
              go_wp2_with (first | (go_at_call 31; refine hfc.mono ?_; rintro e w8 ⟨v8, rfl, hO8, hb8⟩) | (go_at_call 32; refine (hhas.out _ hb8).mono ?_; rintro e w9 ⟨rfl, rfl⟩))
              go_roundw
              case rel => exact ⟨k + 1, by omega, by go_num, rfl, upw hbl hb8⟩
              case measure => simp [intOf]; omega
            · obtain rfl : k = hi + 1 - l := by omega
              go_wp2_with fail
              go_ret
              exact ⟨rfl, upw hb hbl⟩
        | some x =>
          rw [hW] at hwc
          obtain ⟨n0, hn0, hn1, hxs⟩ := withinB_is hW
          have hn2 : n0 ≤ hi := by omega
          have hxsum := shortest_sum hxs
          have hxlen := shortest_length hxs
          have hxm := shortest_mem hxs
          have hxe := Lib.hid (fun y hy => (by have := hD.pos y (hxm y hy); omega : -1000000 ≤ y ∧ y ≤ 1000000))
          clear hxm
          go_wp2_with fail
          refine hwc.mono ?_
          rintro e w6 ⟨v6, rfl, hO6, hb6⟩
          obtain ⟨a6, c6, rfl, hA6⟩ := hO6.at
          replace hA1 := hA1.below hb6
          replace hb := upw hb hb6
          clear hO6 hb6 hwc
          go_wp2_with fail
          refine (unreachedSums_c a1 ls c1 hi w6 hA1 hok (by omega)).mono ?_
          rintro e w7 ⟨v7, rfl, hO7, hb7⟩
          obtain ⟨a7, c7, rfl, hA7⟩ := hO7.at
          replace hA1 := hA1.below hb7
          replace hA6 := hA6.below hb7
          replace hb := upw hb hb7
          clear hO7 hb7
          have hul := unL_len ls (hi + 1)
          go_wp2_with fail
          go_loopw [17, 18] (fun f i wr => ∃ k : Nat, l + k ≤ hi + 1 ∧ i = .int .i64 ((l + k : Nat) : Int) ∧ f = .bool (withinB ls l k).isSome ∧ Below w7.heap.size w7 wr) (fun _ i _ => hi + 1 - (intOf i).toNat)
          case atStart => exact ⟨0, by omega, rfl, rfl, Below.refl _ _⟩
          case round =>
            obtain ⟨k, hk, rfl, rfl, hbl⟩ := hrel
            by_cases hlt : l + k ≤ hi
            · obtain ⟨wo, hwo⟩ : ∃ wo : World, wo = wr := ⟨_, rfl⟩
              subst hwo
              have hfc := fewestLayers_c a1 ls c1 (l + k) wo (hA1.below hbl) hok (by omega)
              have hmem := unL_mem (ls := ls) (k := hi + 1) (n := l + k) (by omega)
              have hhas := fun w' hb' => a2Has_c a7 (unL ls (hi + 1)) c7 ((l + k : Nat) : Int) w' ((hA7.below hbl).below hb') (by omega)
              cases hs2 : shortest ls (l + k) with
              | none =>
                have e1 : flRes ls (l + k) = ([], 3) := by unfold flRes; rw [hs2]
                rw [e1] at hfc
                rw [decide_eq_true (hmem.2 hs2)] at hhas
                replace hhas := Lib.hid hhas
                have hkeep := Lib.hid (withinB_keep hs2)
                clear hmem e1
                go_wp2_with (first | (go_at_call 31; refine hfc.mono ?_; rintro e w8 ⟨v8, rfl, hO8, hb8⟩) | (go_at_call 32; refine (hhas.out _ hb8).mono ?_; rintro e w9 ⟨rfl, rfl⟩))
                go_roundw
                case rel => exact ⟨k + 1, by omega, by go_num, by rw [hkeep.out], upw hbl hb8⟩
                case measure => simp [intOf]; omega
              | some y =>
                have e1 : flRes ls (l + k) = (y, 0) := by unfold flRes; rw [hs2]
                rw [e1] at hfc
                rw [decide_eq_false (fun h => by rw [hmem.1 h] at hs2; cases hs2)] at hhas
                replace hhas := Lib.hid hhas
                have hyes := Lib.hid (withinB_some_iff hs2)
                have hyl := withinB_le hW (l + k) y (by omega) (by omega) hs2
                have hyl2 : ¬ y.length < x.length := by omega
                clear hmem e1 hyl
                go_wp2_with (first | (go_at_call 31; refine hfc.mono ?_; rintro e w8 ⟨v8, rfl, hO8, hb8⟩; obtain ⟨a8, c8, rfl, _⟩ := hO8.at) | (go_at_call 32; refine (hhas.out _ hb8).mono ?_; rintro e w9 ⟨rfl, rfl⟩))
                go_roundw
                case rel => exact ⟨k + 1, by omega, by go_num, by rw [hyes.out], upw hbl hb8⟩
                case measure => simp [intOf]; omega
            · obtain rfl : k = hi + 1 - l := by omega
              rw [hW]
              have hsx := a2Sum_c a6 x c6 wr (hA6.below hbl) (by omega) hxe.out
              rw [hxsum] at hsx
              go_wp2_with (go_at_call 27; refine hsx.mono ?_; rintro e w8 ⟨rfl, rfl⟩)
              go_ret
              exact ⟨rfl, upw hb hbl⟩
end Go.Proofs.Ytokoallbhbgkkaa
