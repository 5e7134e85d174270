/- Chapter 7, outlines: validity: the contracts of the program's functions and of the reference's. -/
import Derived.Test.YtledlkggggpdpaaGreatDoorL07
namespace Go.Proofs.YtledlkggggpdpaaGreatDoor
open Go.RowKit

/-- The i-th spot around. -/
def nth (xs : List Spot) (i : Nat) : Spot := xs.getD (i % xs.length) ⟨0, 0⟩
theorem nth_get {xs : List Spot} {i : Nat} (h : i < xs.length) : nth xs i = xs[i] := by
  have : i % xs.length = i := Nat.mod_eq_of_lt h
  simp [nth, this, h]
theorem nth_mod {xs : List Spot} {i m : Nat} (hm : i % xs.length = m) (h : m < xs.length) : xs[m] = nth xs i := by
  subst hm; simp [nth, h]
theorem At.nthc {w : World} {b off : Nat} {xs : List Spot} (h : At w (some ⟨b, off, none⟩) xs) {i m : Nat} (hm : i % xs.length = m) (hl : m < xs.length) :
    w.cell? ⟨b, off + m * 2, none⟩ = some (.int .i64 (nth xs i).X) ∧ w.cell? ⟨b, off + m * 2 + 1, none⟩ = some (.int .i64 (nth xs i).Y) := by
  have := h.spot hl
  rw [nth_mod hm hl] at this
  exact this
theorem modn {j n : Nat} {x : Int} (hx : x = j) (h : 0 < n) : ∃ m : Nat, j % n = m ∧ x.tmod n = m ∧ m < n := by
  subst hx
  exact ⟨_, rfl, Int.ofNat_tmod j n ▸ rfl, Nat.mod_lt _ h⟩
/-- Three neighbours lie on a line. -/
def flatAt (xs : List Spot) (i : Nat) : Bool := crs (nth xs i) (nth xs (i + 1)) (nth xs (i + 2)) == 0
/-- A later side meets one. -/
def meetAt (xs : List Spot) (i k : Nat) : Bool := decide (i + 2 ≤ k) && (!(decide (i = 0) && decide (k + 1 = xs.length)) && meetS (nth xs i) (nth xs (i + 1)) (nth xs k) (nth xs (k + 1)))
def simpleAt (xs : List Spot) (i : Nat) : Bool := !flatAt xs i && allUpto xs.length fun k => !meetAt xs i k
def simple (xs : List Spot) : Bool := allUpto xs.length (simpleAt xs)
def okOutline (xs : List Spot) : Bool := (inr xs.length 3 24 && !xs.any fun p => !okSpot p) && simple xs
theorem okOutline_iff {xs : List Spot} : okOutline xs = true ↔ ((3 ≤ xs.length ∧ xs.length ≤ 24) ∧ ∀ x ∈ xs, okSpot x = true) ∧ simple xs = true := by
  simp [okOutline, inr]; omega
theorem nth_ok {xs : List Spot} (h : ∀ x ∈ xs, okSpot x = true) (i : Nat) : okSpot (nth xs i) = true := by
  unfold nth
  by_cases hi : i % xs.length < xs.length
  · simp [hi]; exact h _ (List.getElem_mem hi)
  · simp [hi]; decide
theorem not_simple {xs : List Spot} {i : Nat} (hi : i < xs.length) (h : simpleAt xs i = false) : okOutline xs = false := by
  simp [okOutline, simple, allUpto_false hi h]
theorem not_okOutline {xs : List Spot} {x : Spot} (hx : x ∈ xs) (h : okSpot x = false) : okOutline xs = false := by
  have : (xs.any fun p => !okSpot p) = true := List.any_eq_true.2 ⟨x, hx, by simp [h]⟩
  simp only [okOutline, this]; simp
theorem not_simple' {xs : List Spot} {i : Nat} (hi : i < xs.length) (h : simpleAt xs i = false) : simple xs = false := by
  simp [simple, allUpto_false hi h]
theorem simple_flat {xs : List Spot} {i : Nat} (h : (crs (nth xs i) (nth xs (i + 1)) (nth xs (i + 2)) == 0) = true) : simpleAt xs i = false := by
  simp only [simpleAt, flatAt, h]; rfl
theorem simple_met {xs : List Spot} {i k : Nat} (hk : k < xs.length) (h : meetAt xs i k = true) : simpleAt xs i = false := by
  have : allUpto xs.length (fun k => !meetAt xs i k) = false := allUpto_false hk (by simp [h])
  simp [simpleAt, this]
theorem simple_yes {xs : List Spot} {i k : Nat} (h : (crs (nth xs i) (nth xs (i + 1)) (nth xs (i + 2)) == 0) = false) (hs : Sofar (fun k => !meetAt xs i k) k) (hk : xs.length ≤ k) : simpleAt xs i = true := by
  simp only [simpleAt, flatAt, h, sofar_all hs hk]; rfl
theorem sofar_early {xs : List Spot} {i : Nat} : Sofar (fun k => !meetAt xs i k) (i + 2) := fun j hj => by
  have : ¬ i + 2 ≤ j := by omega
  simp [meetAt, this]
theorem meetAt_ends {xs : List Spot} {i k : Nat} (h0 : i = 0) (h : k + 1 = xs.length) : meetAt xs i k = false := by simp [meetAt, h0, h]
theorem meetAt_is {xs : List Spot} {i k : Nat} (h : i + 2 ≤ k) (h0 : ¬ (i = 0 ∧ k + 1 = xs.length)) : meetAt xs i k = meetS (nth xs i) (nth xs (i + 1)) (nth xs k) (nth xs (k + 1)) := by
  have h1 : (decide (i = 0) && decide (k + 1 = xs.length)) = false := by simpa using h0
  simp only [meetAt, h1, h, decide_true]; rfl
theorem isSpot_c (x : Spot) (w : World) : Calls Tryz.prog 182 #[.agg #[.int .i64 x.X, .int .i64 x.Y]] w fun e w' => e = .returned (.bool (okSpot x)) ∧ Below w.heap.size w w' := by
  cases h1 : inr x.X 0 10000
  · go_enter Tryz.func182, Tryz.ntmps182
    go_wp2_with (go_at_call 113; refine (within_c _ _ _ _).mono ?_; rintro e w' ⟨rfl, rfl⟩)
    go_ret
    exact ⟨ret_bool (by simp [okSpot, h1]), (Below.refl _ _).alloc (by simp) _⟩
  · cases h2 : inr x.Y 0 10000
    · go_enter Tryz.func182, Tryz.ntmps182
      go_wp2_with (go_at_call 113; refine (within_c _ _ _ _).mono ?_; rintro e w' ⟨rfl, rfl⟩)
      go_ret
      exact ⟨ret_bool (by simp [okSpot, h1, h2]), (Below.refl _ _).alloc (by simp) _⟩
    · go_enter Tryz.func182, Tryz.ntmps182
      go_wp2_with (go_at_call 113; refine (within_c _ _ _ _).mono ?_; rintro e w' ⟨rfl, rfl⟩)
      go_ret
      exact ⟨ret_bool (by simp [okSpot, h1, h2]), (Below.refl _ _).alloc (by simp) _⟩
theorem validOutline1_c (x : Spot) (w : World) : Calls Tryz.prog 181 #[.agg #[.int .i64 x.X, .int .i64 x.Y]] w fun e w' => e = .returned (.bool (!okSpot x)) ∧ Below w.heap.size w w' := by
  go_enter Tryz.func181, Tryz.ntmps181
  go_wp2_with fail
  refine (isSpot_c x _).mono ?_
  rintro e w2 ⟨rfl, hb2⟩
  go_wp2_with fail
  go_ret
  exact ⟨rfl, upw ((Below.refl _ _).alloc (by simp) _) hb2⟩
theorem validOutline1_enters : Enters Tryz.prog 181 := enters_of Tryz.func181 (by kernel_rfl) (by kernel_rfl)
set_option maxHeartbeats 1600000 in
theorem implValidOutline_c (a : Option Addr) (xs : List Spot) (c : Nat) (w : World) (hx : At w a xs) (hl : xs.length ≤ 9223372036854775807) :
    Calls Tryz.prog 90 #[.slice a xs.length c] w fun e w' => e = .returned (.bool (okOutline xs)) ∧ Below w.heap.size w w' := by
  by_cases h1 : (xs.length : Int) < 3
  · have hi : inr xs.length 3 24 = false := by simp [inr]; omega
    go_enter Tryz.func90, Tryz.ntmps90
    go_wp2_with fail
    go_ret
    exact ⟨ret_bool (by simp [okOutline, hi]), Below.refl _ _⟩
  · by_cases h2 : (24 : Int) < xs.length
    · have hi : inr xs.length 3 24 = false := by simp [inr]; omega
      go_enter Tryz.func90, Tryz.ntmps90
      go_wp2_with fail
      go_ret
      exact ⟨ret_bool (by simp [okOutline, hi]), Below.refl _ _⟩
    · have hi : inr xs.length 3 24 = true := by simp [inr]; omega
      cases h3 : xs.any fun p => !okSpot p
      · have hok := Lib.hid (nth_ok (xs := xs) (by simpa using h3))
        go_enter Tryz.func90, Tryz.ntmps90
        go_wp2_with fail
        refine (containsSpots_any _ xs _ _ _ (fun x => !okSpot x) _ validOutline1_enters hx hl (fun x _ w' hb' => by simpa using validOutline1_c x w')).mono ?_
        rintro e w2 ⟨rfl, hb⟩
        go_wp2_with fail
        go_loopw [19] (fun i wr => ∃ k : Nat, k ≤ xs.length ∧ i = .int .i64 k ∧ Sofar (simpleAt xs) k ∧ Below w.heap.size w wr) (fun i _ => xs.length - (intOf i).toNat)
        case atStart => exact ⟨0, Nat.zero_le _, rfl, sofar_zero, hb⟩
        case round =>
          clear hb
          obtain ⟨i, hk, rfl, hs, hb⟩ := hrel
          have HS := Lib.hid hs
          clear hs
          have HX := hx
          replace hx := hx.below hb
          by_cases hlt : i < xs.length
          · obtain ⟨b, off, rfl⟩ := hx.addr hlt
            obtain ⟨m1, hm1, e1, l1⟩ := modn (j := i + 1) (x := (i : Int) + 1) (n := xs.length) (by omega) (by omega)
            obtain ⟨m2, hm2, e2, l2⟩ := modn (j := i + 2) (x := (i : Int) + 2) (n := xs.length) (by omega) (by omega)
            have hm0 : i % xs.length = i := Nat.mod_eq_of_lt hlt
            obtain ⟨c0, c1⟩ := hx.nthc hm0 hlt
            obtain ⟨c2, c3⟩ := hx.nthc hm1 l1
            obtain ⟨c4, c5⟩ := hx.nthc hm2 l2
            replace c0 := rg c0
            replace c1 := rg c1
            replace c2 := rg c2
            replace c3 := rg c3
            replace c4 := rg c4
            replace c5 := rg c5
            cases h4 : crs (nth xs i) (nth xs (i + 1)) (nth xs (i + 2)) == 0
            · go_wp2_with fail
              refine wp_region_quiet_below (by kernel_rfl) (by kernel_rfl) ?_
              repeat (go_big_quiet_step ((go_at_call 183; exact Calls.regrown_of (cross_c _ _ _ _ (hok.out _) (hok.out _) (hok.out _)))))
              refine wpQuiet_nil ?_
              intro w2 hw'
              replace hb := upw hb (grown_of hw')
              clear hw'
              go_wp2_with fail
              go_loopw [5] (fun q wr => ∃ k : Nat, i + 2 ≤ k ∧ k ≤ xs.length + 1 ∧ q = .int .i64 k ∧ Sofar (fun k => !meetAt xs i k) k ∧ Below w.heap.size w wr) (fun q _ => xs.length + 1 - (intOf q).toNat)
              case atStart => exact ⟨i + 2, Nat.le_refl _, by omega, by go_num, sofar_early, hb⟩
              case round =>
                clear hb
                obtain ⟨k, hik, hk, rfl, hs, hb⟩ := hrel
                have HT := Lib.hid hs
                clear hs c0 c1 c2 c3 c4 c5
                replace hx := HX.below hb
                by_cases hkt : k < xs.length
                · obtain ⟨m3, hm3, e3, l3⟩ := modn (j := k + 1) (x := (k : Int) + 1) (n := xs.length) (by omega) (by omega)
                  have hmi : (i + 1) % xs.length = i + 1 := Nat.mod_eq_of_lt (by omega)
                  have hmk : k % xs.length = k := Nat.mod_eq_of_lt hkt
                  obtain ⟨c0, c1⟩ := hx.nthc hm0 hlt
                  obtain ⟨c2, c3⟩ := hx.nthc hmi (by omega)
                  obtain ⟨c4, c5⟩ := hx.nthc hmk hkt
                  obtain ⟨c6, c7⟩ := hx.nthc hm3 l3
                  replace c0 := rg c0
                  replace c1 := rg c1
                  replace c2 := rg c2
                  replace c3 := rg c3
                  replace c4 := rg c4
                  replace c5 := rg c5
                  replace c6 := rg c6
                  replace c7 := rg c7
                  by_cases h5 : i = 0 ∧ k + 1 = xs.length
                  · have h6 : ((m3 : Int) != (i : Int)) = false := by
                      obtain ⟨rfl, h⟩ := h5
                      rw [h, Nat.mod_self] at hm3
                      simp [← hm3]
                    have H5 := Lib.hid h5
                    clear h5
                    go_wp2_with fail
                    refine wp_region_quiet_below (by kernel_rfl) (by kernel_rfl) ?_
                    repeat (go_big_quiet_step ((fail)))
                    refine wpQuiet_nil ?_
                    intro w2 hw'
                    replace hb := upw hb (grown_of hw')
                    clear hw'
                    go_wp2_with fail
                    go_roundw
                    case rel => exact ⟨k + 1, by omega, by omega, by go_num, sofar_succ HT.out (by rw [meetAt_ends H5.out.1 H5.out.2]; rfl), hb⟩
                    case measure => simp [intOf]; omega
                  · have h6 : ((m3 : Int) != (i : Int)) = true := by
                      have : m3 ≠ i := by
                        intro h
                        by_cases hk1 : k + 1 = xs.length
                        · rw [hk1, Nat.mod_self] at hm3; omega
                        · rw [Nat.mod_eq_of_lt (by omega)] at hm3; omega
                      simp; omega
                    cases h7 : meetS (nth xs i) (nth xs (i + 1)) (nth xs k) (nth xs (k + 1))
                    · go_wp2_with fail
                      refine wp_region_quiet_below (by kernel_rfl) (by kernel_rfl) ?_
                      repeat (go_big_quiet_step ((go_at_call 184; exact Calls.regrown_of (as_boolB h7 (meet_c _ _ _ _ _ (hok.out _) (hok.out _) (hok.out _) (hok.out _))))))
                      refine wpQuiet_nil ?_
                      intro w2 hw'
                      replace hb := upw hb (grown_of hw')
                      clear hw'
                      go_wp2_with fail
                      go_roundw
                      case rel => exact ⟨k + 1, by omega, by omega, by go_num, sofar_succ HT.out (by rw [meetAt_is hik h5, h7]; rfl), hb⟩
                      case measure => simp [intOf]; omega
                    · go_wp2_with fail
                      refine wp_region_quiet_below (by kernel_rfl) (by kernel_rfl) ?_
                      repeat (go_big_quiet_step ((go_at_call 184; exact Calls.regrown_of (as_boolB h7 (meet_c _ _ _ _ _ (hok.out _) (hok.out _) (hok.out _) (hok.out _))))))
                      refine wpQuiet_nil ?_
                      intro w2 hw'
                      replace hb := upw hb (grown_of hw')
                      clear hw'
                      go_wp2_with fail
                      go_ret
                      exact ⟨ret_bool (not_simple hlt (simple_met hkt (by rw [meetAt_is hik h5, h7]))).symm, hb⟩
                · go_wp2_with fail
                  go_roundw
                  case rel => exact ⟨i + 1, by omega, by go_num, sofar_succ HS.out (simple_yes h4 HT.out (by omega)), hb⟩
                  case measure => simp [intOf]; omega
            · go_wp2_with fail
              refine wp_region_quiet_below (by kernel_rfl) (by kernel_rfl) ?_
              repeat (go_big_quiet_step ((go_at_call 183; exact Calls.regrown_of (cross_c _ _ _ _ (hok.out _) (hok.out _) (hok.out _)))))
              refine wpQuiet_nil ?_
              intro w2 hw'
              replace hb := upw hb (grown_of hw')
              clear hw'
              go_wp2_with fail
              go_ret
              exact ⟨ret_bool (not_simple hlt (simple_flat h4)).symm, hb⟩
          · go_wp2_with fail
            go_ret
            exact ⟨ret_bool (by rw [okOutline, simple, sofar_all HS.out (by omega), hi, h3]; rfl), hb⟩
      · go_enter Tryz.func90, Tryz.ntmps90
        go_wp2_with fail
        refine (containsSpots_any _ xs _ _ _ (fun x => !okSpot x) _ validOutline1_enters hx hl (fun x _ w' hb' => by simpa using validOutline1_c x w')).mono ?_
        rintro e w2 ⟨rfl, hb⟩
        go_wp2_with fail
        go_ret
        exact ⟨ret_bool (by rw [okOutline, h3]; simp), hb⟩
set_option maxHeartbeats 1600000 in
theorem l07Simple_c (a : Option Addr) (xs : List Spot) (c : Nat) (w : World) (hx : At w a xs) (hl : xs.length ≤ 1048576) (hok : ∀ i, okSpot (nth xs i) = true) :
    Calls Tryz.prog 213 #[.slice a xs.length c] w fun e w' => e = .returned (.bool (simple xs)) ∧ Below w.heap.size w w' := by
  replace hok := Lib.hid hok
  go_enter Tryz.func213, Tryz.ntmps213
  go_wp2_with fail
  go_loopw [4] (fun i wr => ∃ k : Nat, k ≤ xs.length ∧ i = .int .i64 k ∧ Sofar (simpleAt xs) k ∧ Below w.heap.size w wr) (fun i _ => xs.length - (intOf i).toNat)
  case atStart => exact ⟨0, Nat.zero_le _, rfl, sofar_zero, Below.refl _ _⟩
  case round =>
    obtain ⟨i, hk, rfl, hs, hb⟩ := hrel
    have HS := Lib.hid hs
    clear hs
    replace hx := hx.below hb
    by_cases hlt : i < xs.length
    · obtain ⟨b, off, rfl⟩ := hx.addr hlt
      have hbl := hx.lt hlt
      obtain ⟨m1, hm1, e1, l1⟩ := modn (j := i + 1) (x := (i : Int) + 1) (n := xs.length) (by omega) (by omega)
      obtain ⟨m2, hm2, e2, l2⟩ := modn (j := i + 2) (x := (i : Int) + 2) (n := xs.length) (by omega) (by omega)
      have hm0 : i % xs.length = i := Nat.mod_eq_of_lt hlt
      obtain ⟨c0, c1⟩ := hx.nthc hm0 hlt
      obtain ⟨c2, c3⟩ := hx.nthc hm1 l1
      obtain ⟨c4, c5⟩ := hx.nthc hm2 l2
      cases h4 : crs (nth xs i) (nth xs (i + 1)) (nth xs (i + 2)) == 0
      · go_wp2_with fail
        obtain ⟨w1, hw, H, hb1⟩ := three wr (nth xs i) (nth xs (i + 1)) (nth xs (i + 2))
        rw [hw]
        replace hb := upw hb hb1
        replace hx := hx.below hb1
        clear hw hb1 c0 c1 c2 c3 c4 c5
        refine (l07Cross_c _ _ _ _ (hok.out _) (hok.out _) (hok.out _)).mono ?_
        rintro e w2 ⟨rfl, hb2⟩
        replace hb := upw hb hb2
        replace H := H.below hb2
        replace hx := hx.below hb2
        clear hb2
        go_wp2_with fail
        go_loopw [8] (fun q wr => ∃ k : Nat, i + 2 ≤ k ∧ k ≤ xs.length + 1 ∧ q = .int .i64 k ∧ Sofar (fun k => !meetAt xs i k) k ∧ Below w2.heap.size w2 wr) (fun q _ => xs.length + 1 - (intOf q).toNat)
        case atStart => exact ⟨i + 2, Nat.le_refl _, by omega, by go_num, sofar_early, Below.refl _ _⟩
        case round =>
          obtain ⟨k, hik, hk, rfl, hs, hb3⟩ := hrel
          have HT := Lib.hid hs
          clear hs
          replace H := H.below hb3
          replace hx := hx.below hb3
          by_cases hkt : k < xs.length
          · obtain ⟨m3, hm3, e3, l3⟩ := modn (j := k + 1) (x := (k : Int) + 1) (n := xs.length) (by omega) (by omega)
            have hmk : k % xs.length = k := Nat.mod_eq_of_lt hkt
            obtain ⟨d0, d1, d2, d3, _⟩ := H
            obtain ⟨d4, d5⟩ := hx.nthc hmk hkt
            obtain ⟨d6, d7⟩ := hx.nthc hm3 l3
            replace d0 := rg d0
            replace d1 := rg d1
            replace d2 := rg d2
            replace d3 := rg d3
            replace d4 := rg d4
            replace d5 := rg d5
            replace d6 := rg d6
            replace d7 := rg d7
            by_cases h5 : i = 0 ∧ k + 1 = xs.length
            · have h6 : ((i : Int) == 0) = true := by simp; omega
              have h7 : ((k : Int) == (xs.length : Int) - 1) = true := by simp; omega
              have H5 := Lib.hid h5
              clear h5
              go_wp2_with fail
              go_roundw
              case rel => exact ⟨k + 1, by omega, by omega, by go_num, sofar_succ HT.out (by rw [meetAt_ends H5.out.1 H5.out.2]; rfl), hb3⟩
              case measure => simp [intOf]; omega
            · have h6 : ((i : Int) == 0) = false ∨ (((i : Int) == 0) = true ∧ ((k : Int) == (xs.length : Int) - 1) = false) := by
                by_cases h0 : i = 0
                · right; exact ⟨by simp; omega, by simp; omega⟩
                · left; simp; omega
              have H5 := Lib.hid h5
              clear h5
              cases h7 : meetS (nth xs i) (nth xs (i + 1)) (nth xs k) (nth xs (k + 1))
              · rcases h6 with h6 | ⟨h6, h8⟩
                all_goals
                  go_wp2_with fail
                  have hbo := hb
                  clear hb
                  have hb := hb3
                  refine wp_region_quiet_below (by kernel_rfl) (by kernel_rfl) ?_
                  repeat (go_big_quiet_step ((go_at_call 238; exact Calls.regrown_of (as_boolB h7 (l07Meet_c _ _ _ _ _ (hok.out _) (hok.out _) (hok.out _) (hok.out _))))))
                  refine wpQuiet_nil ?_
                  intro w2 hw'
                  replace hb := upw hb (grown_of hw')
                  clear hw'
                  go_wp2_with fail
                  go_roundw
                  case rel => exact ⟨k + 1, by omega, by omega, by go_num, sofar_succ HT.out (by rw [meetAt_is hik H5.out, h7]; rfl), hb⟩
                  case measure => simp [intOf]; omega
              · rcases h6 with h6 | ⟨h6, h8⟩
                all_goals
                  go_wp2_with fail
                  have hbo := hb
                  clear hb
                  have hb := hb3
                  refine wp_region_quiet_below (by kernel_rfl) (by kernel_rfl) ?_
                  repeat (go_big_quiet_step ((go_at_call 238; exact Calls.regrown_of (as_boolB h7 (l07Meet_c _ _ _ _ _ (hok.out _) (hok.out _) (hok.out _) (hok.out _))))))
                  refine wpQuiet_nil ?_
                  intro w2 hw'
                  replace hb := upw hb (grown_of hw')
                  clear hw'
                  go_wp2_with fail
                  go_ret
                  exact ⟨ret_bool (not_simple' hlt (simple_met hkt (by rw [meetAt_is hik H5.out, h7]))).symm, upw hbo hb⟩
          · go_wp2_with fail
            go_roundw
            case rel => exact ⟨i + 1, by omega, by go_num, sofar_succ HS.out (simple_yes h4 HT.out (by omega)), upw hb hb3⟩
            case measure => simp [intOf]; omega
      · go_wp2_with fail
        obtain ⟨w1, hw, H, hb1⟩ := three wr (nth xs i) (nth xs (i + 1)) (nth xs (i + 2))
        rw [hw]
        replace hb := upw hb hb1
        clear hw hb1 c0 c1 c2 c3 c4 c5
        refine (l07Cross_c _ _ _ _ (hok.out _) (hok.out _) (hok.out _)).mono ?_
        rintro e w2 ⟨rfl, hb2⟩
        replace hb := upw hb hb2
        go_wp2_with fail
        go_ret
        exact ⟨ret_bool (not_simple' hlt (simple_flat h4)).symm, hb⟩
    · go_wp2_with fail
      go_ret
      exact ⟨ret_bool (by rw [simple, sofar_all HS.out (by omega)]), hb⟩
set_option maxHeartbeats 800000 in
theorem l07Ok_c (a : Option Addr) (xs : List Spot) (c : Nat) (w : World) (hx : At w a xs) (hl : xs.length ≤ 9223372036854775807) :
    Calls Tryz.prog 167 #[.slice a xs.length c] w fun e w' => e = .returned (.bool (okOutline xs)) ∧ Below w.heap.size w w' := by
  go_enter Tryz.func167, Tryz.ntmps167
  go_wp2_with fail
  go_loop [3] (fun i => ∃ k : Nat, k ≤ xs.length ∧ i = .int .i64 k ∧ Nosofar (fun p => !okSpot p) xs k) (fun i => xs.length - (intOf i).toNat)
  case atStart => exact ⟨0, Nat.zero_le _, rfl, nosofar_zero⟩
  case round =>
    obtain ⟨k, hk, rfl, hs⟩ := hrel
    have HS := Lib.hid hs
    clear hs
    by_cases hlt : k < xs.length
    · obtain ⟨b, off, rfl⟩ := hx.addr hlt
      obtain ⟨c0, c1⟩ := hx.spot hlt
      cases h1 : inr xs[k].X 0 10000
      · go_wp2_with (go_at_call 116; refine (l00In_c _ _ _ _).mono ?_; rintro e w' ⟨rfl, rfl⟩)
        go_ret
        exact ⟨ret_bool (not_okOutline (List.getElem_mem hlt) (by simp [okSpot, h1])).symm, Below.refl _ _⟩
      · cases h2 : inr xs[k].Y 0 10000
        · go_wp2_with (go_at_call 116; refine (l00In_c _ _ _ _).mono ?_; rintro e w' ⟨rfl, rfl⟩)
          go_ret
          exact ⟨ret_bool (not_okOutline (List.getElem_mem hlt) (by simp [okSpot, h1, h2])).symm, Below.refl _ _⟩
        · go_wp2_with (go_at_call 116; refine (l00In_c _ _ _ _).mono ?_; rintro e w' ⟨rfl, rfl⟩)
          go_round
          case rel => exact ⟨k + 1, by omega, by go_num, nosofar_succ (hk := hlt) HS.out (by simp [okSpot, h1, h2])⟩
          case measure => simp [intOf]; omega
    · have hn : (xs.any fun p => !okSpot p) = false := nosofar_any HS.out (show xs.length ≤ k by omega)
      have hok := nth_ok (xs := xs) (by simpa using hn)
      have HN := Lib.hid hn
      clear hn
      replace hok := Lib.hid hok
      cases hi : inr xs.length 3 24
      · go_wp2_with fail
        refine (l00In_c _ _ _ _).mono ?_
        rintro e w' ⟨rfl, rfl⟩
        go_wp2_with fail
        go_ret
        exact ⟨ret_bool (by simp [okOutline, hi]), Below.refl _ _⟩
      · have hi' := inr_true.1 hi
        go_wp2_with fail
        refine (l00In_c _ _ _ _).mono ?_
        rintro e w' ⟨rfl, rfl⟩
        go_wp2_with fail
        refine (l07Simple_c _ _ _ _ hx (by omega) hok.out).mono ?_
        rintro e w2 ⟨rfl, hb⟩
        go_wp2_with fail
        go_ret
        exact ⟨ret_bool (by simp only [okOutline, hi, HN.out]; simp), hb⟩
theorem specValidOutline_c (a : Option Addr) (xs : List Spot) (c : Nat) (w : World) (hx : At w a xs) (hl : xs.length ≤ 9223372036854775807) :
    Calls Tryz.prog 91 #[.slice a xs.length c] w fun e w' => e = .returned (.bool (okOutline xs)) ∧ Below w.heap.size w w' := by
  have hb := Below.refl w.heap.size w
  go_enter Tryz.func91, Tryz.ntmps91
  go_wp2_with fail
  refine (l07Ok_c _ _ _ _ hx hl).mono ?_
  rintro e w2 ⟨rfl, hb2⟩
  replace hb := upw hb hb2
  go_wp2_with fail
  go_ret
  exact ⟨rfl, hb⟩
end Go.Proofs.YtledlkggggpdpaaGreatDoor
