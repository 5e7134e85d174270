/- Chapter 6: builds for all girths of a last: BuildUpFor. -/
import Derived.Test.YtokoallbhbgkkaaB06
namespace Go.Proofs.Ytokoallbhbgkkaa
open Go.RowKit

/-- What BuildUpFor answers. -/
def buF (ls : List Int) (m : Nat) (n : Int) : Option (List Int) := withinB ls n.toNat (m + 1)
def buRes (x : Last) (f : Foot) (ls : List Int) (most : Int) : List (List Int) × Int :=
  if okLast x && okFoot f && layOk ls then
    (if inr most 0 1000 then
      (if (needL x f).any (fun n => decide (1000 < n + most)) then ([], 5)
       else if (needL x f).all (fun n => (buF ls most.toNat n).isSome) then ((needL x f).filterMap (buF ls most.toNat), 0) else ([], 10))
     else ([], 2))
  else ([], 1)
theorem withinStep_nil (ls : List Int) (n : Nat) : withinStep ls (some []) n = some [] := by
  unfold withinStep
  cases shortest ls n with
  | none => rfl
  | some x =>
    cases x with
    | nil => simp
    | cons a b => simp
theorem withinB_zero (ls : List Int) : ∀ k, withinB ls 0 (k + 1) = some []
  | 0 => by rw [withinB_succ]; unfold withinB withinStep; rfl
  | k + 1 => by rw [withinB_succ, withinB_zero ls k]; exact withinStep_nil ls _
theorem take_filterMap {f : Int → Option (List Int)} {L : List Int} {k : Nat} (h : k < L.length) {x : List Int} (hx : f L[k] = some x) : (L.take (k + 1)).filterMap f = (L.take k).filterMap f ++ [x] := by
  rw [List.take_succ_eq_append_getElem h, List.filterMap_append, List.filterMap_cons_some hx]; rfl
set_option maxHeartbeats 1000000 in
theorem sliceMax_c (a : Option Addr) (xs : List Int) (c : Nat) (w : World) (hx : At w a xs) (h0 : 0 < xs.length) (hl : xs.length ≤ 9223372036854775807) :
    Calls Try.prog 71 #[.slice a xs.length c] w fun e w' => ∃ m, e = .returned (.int .i64 m) ∧ m ∈ xs ∧ (∀ x ∈ xs, x ≤ m) ∧ w = w' := by
  obtain ⟨b, off, rfl⟩ := hx.addr h0
  have c0 := hx.int h0
  rw [Nat.add_zero] at c0
  have h0I : 1 ≤ (xs.length : Int) := by omega
  have hm0 : Hid (xs[0] ∈ xs) := Lib.hid (List.getElem_mem h0)
  go_enter Try.func71, Try.ntmps71
  go_wp2_with fail
  go_loop [3, 4] (fun m i => ∃ (k : Nat) (q : Int), 1 ≤ k ∧ k ≤ xs.length ∧ i = .int .i64 k ∧ m = .int .i64 q ∧ Hid (q ∈ xs ∧ ∀ j (h : j < xs.length), j < k → xs[j] ≤ q)) (fun _ i => xs.length - (intOf i).toNat)
  case atStart =>
    refine ⟨1, xs[0], by omega, by omega, rfl, rfl, Lib.hid ⟨hm0.out, fun j h hj => ?_⟩⟩
    obtain rfl : j = 0 := by omega
    exact Int.le_refl _
  case round =>
    obtain ⟨k, q, hk1, hk, rfl, rfl, hq⟩ := hrel
    by_cases hlt : k < xs.length
    · have c1 := hx.int hlt
      have hk2 := Lib.hid (List.getElem_mem hlt)
      have hstep : Hid (∀ q' : Int, (q' = q ∨ q' = xs[k]) → q ≤ q' → xs[k] ≤ q' → (q' ∈ xs ∧ ∀ j (h : j < xs.length), j < k + 1 → xs[j] ≤ q')) := Lib.hid fun q' h1 h2 h3 => by
        refine ⟨by rcases h1 with rfl | rfl; exact hq.out.1; exact hk2.out, fun j h hj => ?_⟩
        by_cases hjk : j = k
        · subst hjk; exact h3
        · exact Int.le_trans (hq.out.2 j h (by omega)) h2
      generalize xs[k] = z at c1 hstep
      go_wp2_with fail
      go_round
      case rel => exact ⟨k + 1, _, by omega, by omega, by go_num, rfl, Lib.hid (hstep.out _ (by split <;> simp) (by split <;> omega) (by split <;> omega))⟩
      case measure => simp [intOf]; omega
    · obtain rfl : k = xs.length := by omega
      go_wp2_with fail
      go_ret
      exact ⟨q, rfl, hq.out.1, fun x hx => by obtain ⟨j, hj, rfl⟩ := List.mem_iff_getElem.1 hx; exact hq.out.2 j hj hj, rfl⟩
theorem buRes_bad {x : Last} {f : Foot} {ls : List Int} {most : Int} (h : (okLast x && okFoot f && layOk ls) = false) : buRes x f ls most = ([], 1) := by unfold buRes; rw [h]; rfl
theorem buRes_range {x : Last} {f : Foot} {ls : List Int} {most : Int} (h : (okLast x && okFoot f && layOk ls) = true) (h2 : inr most 0 1000 = false) : buRes x f ls most = ([], 2) := by unfold buRes; rw [h, h2]; rfl
theorem buRes_full {x : Last} {f : Foot} {ls : List Int} {most : Int} (h : (okLast x && okFoot f && layOk ls) = true) (h2 : inr most 0 1000 = true) (h3 : (needL x f).any (fun n => decide (1000 < n + most)) = true) : buRes x f ls most = ([], 5) := by unfold buRes; rw [h, h2, h3]; rfl
theorem buRes_tight {x : Last} {f : Foot} {ls : List Int} {m : Nat} (h : (okLast x && okFoot f && layOk ls) = true) (h2 : inr (m : Int) 0 1000 = true) (h3 : (needL x f).any (fun n => decide (1000 < n + (m : Int))) = false) {k : Nat} (hk : k < (needL x f).length) (h4 : buF ls m (needL x f)[k] = none) : buRes x f ls m = ([], 10) := by
  have h5 : (needL x f).all (fun n => (buF ls m n).isSome) = false := by
    rw [List.all_eq_false]; exact ⟨_, List.getElem_mem hk, by rw [h4]; simp⟩
  unfold buRes; rw [h, h2, h3, Int.toNat_natCast, h5]; rfl
theorem buRes_ok {x : Last} {f : Foot} {ls : List Int} {m : Nat} (h : (okLast x && okFoot f && layOk ls) = true) (h2 : inr (m : Int) 0 1000 = true) (h3 : (needL x f).any (fun n => decide (1000 < n + (m : Int))) = false) (h4 : ∀ k (hk : k < (needL x f).length), (buF ls m (needL x f)[k]).isSome = true) : buRes x f ls m = ((needL x f).filterMap (buF ls m), 0) := by
  have h5 : (needL x f).all (fun n => (buF ls m n).isSome) = true := by
    rw [List.all_eq_true]; intro n hn; obtain ⟨k, hk, rfl⟩ := List.mem_iff_getElem.1 hn; exact h4 k hk
  unfold buRes; rw [h, h2, h3, Int.toNat_natCast, h5]; rfl
theorem last_cells2 (w : World) (x : Last) (f : Foot) {w1 : World} (h : w1 = (w.alloc (.cells #[.string x.Name, .int .i64 x.Length, .int .i64 x.Ball, .int .i64 x.Instep, .int .i64 x.Heel, .int .i64 x.Pitch] 37)).alloc (.cells #[.int .i64 f.Length, .int .i64 f.Ball, .int .i64 f.Instep, .int .i64 f.Heel] 39)) :
    Below w.heap.size w w1 ∧ (w1.cell? ⟨w.heap.size, 0, none⟩ = some (.string x.Name) ∧ w1.cell? ⟨w.heap.size, 1, none⟩ = some (.int .i64 x.Length) ∧ w1.cell? ⟨w.heap.size, 2, none⟩ = some (.int .i64 x.Ball) ∧ w1.cell? ⟨w.heap.size, 3, none⟩ = some (.int .i64 x.Instep) ∧ w1.cell? ⟨w.heap.size, 4, none⟩ = some (.int .i64 x.Heel) ∧ w1.cell? ⟨w.heap.size, 5, none⟩ = some (.int .i64 x.Pitch)) ∧
    (w1.cell? ⟨w.heap.size + 1, 0, none⟩ = some (.int .i64 f.Length) ∧ w1.cell? ⟨w.heap.size + 1, 1, none⟩ = some (.int .i64 f.Ball) ∧ w1.cell? ⟨w.heap.size + 1, 2, none⟩ = some (.int .i64 f.Instep) ∧ w1.cell? ⟨w.heap.size + 1, 3, none⟩ = some (.int .i64 f.Heel)) := by
  subst h
  refine ⟨((Below.refl _ _).alloc (Nat.le_refl _) _).alloc (by simp) _, ?_, ?_⟩
  · refine ⟨?_, ?_, ?_, ?_, ?_, ?_⟩ <;> go_simp
  · refine ⟨?_, ?_, ?_, ?_⟩ <;> go_simp
set_option maxRecDepth 100000 in
set_option maxHeartbeats 4000000 in
theorem implBU_bad (x : Last) (f : Foot) (a : Option Addr) (ls : List Int) (c : Nat) (most : Int) (w : World) (hn : x.Name.size ≤ 9223372036854775807) (hx : At w a ls) (hl : ls.length ≤ 9223372036854775807) (h : (okLast x && okFoot f && layOk ls) = false ∨ inr most 0 1000 = false) :
    Calls Try.prog 20 #[.agg #[.string x.Name, .int .i64 x.Length, .int .i64 x.Ball, .int .i64 x.Instep, .int .i64 x.Heel, .int .i64 x.Pitch], .agg #[.int .i64 f.Length, .int .i64 f.Ball, .int .i64 f.Instep, .int .i64 f.Heel], .slice a ls.length c, .int .i64 most] w fun e w' => ∃ v rs, e = .returned (.tuple #[v, .int .i64 (buRes x f ls most).2]) ∧ OwnLists w.heap.size w' v rs (buRes x f ls most).1 ∧ Below w.heap.size w w' := by
  obtain ⟨w1, hw1⟩ : ∃ w1, w1 = (w.alloc (.cells #[.string x.Name, .int .i64 x.Length, .int .i64 x.Ball, .int .i64 x.Instep, .int .i64 x.Heel, .int .i64 x.Pitch] 37)).alloc (.cells #[.int .i64 f.Length, .int .i64 f.Ball, .int .i64 f.Instep, .int .i64 f.Heel] 39) := ⟨_, rfl⟩
  obtain ⟨hb, ⟨x0, x1, x2, x3, x4, x5⟩, ⟨f0, f1, f2, f3⟩⟩ := last_cells2 w x f hw1
  replace hw1 := Lib.hid hw1
  have hnil := OwnLists.nil w.heap.size w
  cases h4 : inr most 0 1000 <;> cases h1 : okLast x <;> cases h2 : okFoot f <;> cases h3 : layOk ls
  all_goals try (exfalso; simp [h1, h2, h3, h4] at h; done)
  all_goals
    first | rw [buRes_bad (by rw [h1, h2, h3]; rfl)] | rw [buRes_range (by rw [h1, h2, h3]; rfl) h4]
    clear h
    go_enter Try.func20, Try.ntmps20
    go_wp2_with (first | rw [← hw1.out] | (go_at_call 68; refine (validLast_c x _ hn).mono ?_; rintro e w2 ⟨rfl, hb2⟩; rw [h1]; replace x0 := kept_cell x0 hb2; replace x1 := kept_cell x1 hb2; replace x2 := kept_cell x2 hb2; replace x3 := kept_cell x3 hb2; replace x4 := kept_cell x4 hb2; replace x5 := kept_cell x5 hb2; replace f0 := kept_cell f0 hb2; replace f1 := kept_cell f1 hb2; replace f2 := kept_cell f2 hb2; replace f3 := kept_cell f3 hb2; replace hb := upw hb hb2; clear hb2) | (go_at_call 69; refine (validFoot_c f _).mono ?_; rintro e w3 ⟨rfl, hb3⟩; rw [h2]; replace x0 := kept_cell x0 hb3; replace x1 := kept_cell x1 hb3; replace x2 := kept_cell x2 hb3; replace x3 := kept_cell x3 hb3; replace x4 := kept_cell x4 hb3; replace x5 := kept_cell x5 hb3; replace f0 := kept_cell f0 hb3; replace f1 := kept_cell f1 hb3; replace f2 := kept_cell f2 hb3; replace f3 := kept_cell f3 hb3; replace hb := upw hb hb3; clear hb3) | (go_at_call 60; refine (validLayers_c a ls c _ (hx.below hb) hl).mono ?_; rintro e w4 ⟨rfl, rfl⟩; rw [h3]) | (go_at_call 61; refine (isBuild_c _ _).mono ?_; rintro e w4 ⟨rfl, rfl⟩; rw [h4]))
    go_ret2
    exact ⟨_, [], rfl, OwnLists.nil _ _, hb⟩
set_option maxRecDepth 100000 in
set_option maxHeartbeats 8000000 in
theorem implBU_good (x : Last) (f : Foot) (a : Option Addr) (ls : List Int) (c : Nat) (m : Nat) (w : World) (hn : x.Name.size ≤ 9223372036854775807) (hx : At w a ls) (hl : ls.length ≤ 9223372036854775807) (h1 : okLast x = true) (h2 : okFoot f = true) (h3 : layOk ls = true) (hm : m ≤ 1000) :
    Calls Try.prog 20 #[.agg #[.string x.Name, .int .i64 x.Length, .int .i64 x.Ball, .int .i64 x.Instep, .int .i64 x.Heel, .int .i64 x.Pitch], .agg #[.int .i64 f.Length, .int .i64 f.Ball, .int .i64 f.Instep, .int .i64 f.Heel], .slice a ls.length c, .int .i64 m] w fun e w' => ∃ v rs, e = .returned (.tuple #[v, .int .i64 (buRes x f ls m).2]) ∧ OwnLists w.heap.size w' v rs (buRes x f ls m).1 ∧ Below w.heap.size w w' := by
  obtain ⟨w1, hw1⟩ : ∃ w1, w1 = (w.alloc (.cells #[.string x.Name, .int .i64 x.Length, .int .i64 x.Ball, .int .i64 x.Instep, .int .i64 x.Heel, .int .i64 x.Pitch] 37)).alloc (.cells #[.int .i64 f.Length, .int .i64 f.Ball, .int .i64 f.Instep, .int .i64 f.Heel] 39) := ⟨_, rfl⟩
  obtain ⟨hb, ⟨x0, x1, x2, x3, x4, x5⟩, ⟨f0, f1, f2, f3⟩⟩ := last_cells2 w x f hw1
  replace hw1 := Lib.hid hw1
  have h4 : inr (m : Int) 0 1000 = true := inr_true.2 (by omega)
  have hok : (okLast x && okFoot f && layOk ls) = true := by rw [h1, h2, h3]; rfl
  have hLO := layOk_is h3
  have hNR := Lib.hid (needL_range h1 h2)
  have hNl : Hid ((needL x f).length = 3) := Lib.hid rfl
  have hF5 := Lib.hid (fun h => buRes_full (most := (m : Int)) hok h4 h)
  have hF10 := Lib.hid (fun h3 k hk h5 => buRes_tight (m := m) hok h4 h3 (k := k) hk h5)
  have hF0 := Lib.hid (fun h3 h5 => buRes_ok (m := m) hok h4 h3 h5)
  have hneed := Lib.hid (fun w' => needOf_c x f w' h1 h2)
  replace hok := Lib.hid hok
  obtain ⟨R, hR⟩ : ∃ R, R = buRes x f ls m := ⟨_, rfl⟩
  rw [← hR] at hF5 hF10 hF0 ⊢
  obtain ⟨N, hN⟩ : ∃ N, N = needL x f := ⟨_, rfl⟩
  rw [← hN] at hF5 hF10 hF0 hNR hNl hneed
  replace hR := Lib.hid hR
  replace hN := Lib.hid hN
  have hx0 := hx
  go_enter Try.func20, Try.ntmps20
  go_wp2_with (first | rw [← hw1.out] | (go_at_call 68; refine (validLast_c x _ hn).mono ?_; rintro e w2 ⟨rfl, hb2⟩; rw [h1]; replace x0 := kept_cell x0 hb2; replace x1 := kept_cell x1 hb2; replace x2 := kept_cell x2 hb2; replace x3 := kept_cell x3 hb2; replace x4 := kept_cell x4 hb2; replace x5 := kept_cell x5 hb2; replace f0 := kept_cell f0 hb2; replace f1 := kept_cell f1 hb2; replace f2 := kept_cell f2 hb2; replace f3 := kept_cell f3 hb2; replace hb := upw hb hb2; clear hb2) | (go_at_call 69; refine (validFoot_c f _).mono ?_; rintro e w3 ⟨rfl, hb3⟩; rw [h2]; replace x0 := kept_cell x0 hb3; replace x1 := kept_cell x1 hb3; replace x2 := kept_cell x2 hb3; replace x3 := kept_cell x3 hb3; replace x4 := kept_cell x4 hb3; replace x5 := kept_cell x5 hb3; replace f0 := kept_cell f0 hb3; replace f1 := kept_cell f1 hb3; replace f2 := kept_cell f2 hb3; replace f3 := kept_cell f3 hb3; replace hb := upw hb hb3; clear hb3) | (go_at_call 60; refine (validLayers_c a ls c _ (hx.below hb) hl).mono ?_; rintro e w4 ⟨rfl, rfl⟩; rw [h3]) | (go_at_call 61; refine (isBuild_c _ _).mono ?_; rintro e w4 ⟨rfl, rfl⟩; rw [h4]))
  refine (hneed.out _).mono ?_
  rintro e w5 ⟨g, rfl, hON, hb5⟩
  replace hb := upw hb hb5
  clear x0 x1 x2 x3 x4 x5 f0 f1 f2 f3 hb5 hneed
  have hAN := hON.at'
  clear hON
  have hmx := sliceMax_c (some ⟨g, 0, none⟩) N 3 w5 hAN (by rw [hNl.out]; omega) (by rw [hNl.out]; omega)
  rw [hNl.out] at hmx
  go_wp2_with fail
  refine hmx.mono ?_
  rintro e w6 ⟨M, rfl, hM1, hM2, rfl⟩
  have hMr := hNR.out M hM1
  by_cases hbig : 1000 < M + (m : Int)
  · have hr := Lib.hid (hF5.out (List.any_eq_true.2 ⟨M, hM1, by simpa using hbig⟩))
    clear hM1 hM2 hmx
    go_wp2_with fail
    go_ret2
    exact ⟨_, [], by rw [hr.out]; rfl, by rw [hr.out]; exact OwnLists.nil _ _, hb⟩
  · have hany : N.any (fun n => decide (1000 < n + (m : Int))) = false := by
      rw [List.any_eq_false]; intro n hn'; have := hM2 n hn'; simp; omega
    have hNm : Hid (∀ n ∈ N, 0 ≤ n ∧ n + (m : Int) ≤ 1000) := Lib.hid fun n hn' => ⟨(hNR.out n hn').1, by have := hM2 n hn'; omega⟩
    replace hF10 := Lib.hid (hF10.out hany)
    replace hF0 := Lib.hid (hF0.out hany)
    clear hM1 hM2 hmx hF5 hany
    have hOL := OwnLists.new w5
    have hbl0 : Below w5.heap.size w5 (w5.alloc (.cells #[] 22)) := (Below.refl _ _).alloc (Nat.le_refl _) _
    go_wp2_with fail
    go_loopw [11, 45] (fun v i wr => ∃ (k : Nat) (rs : List RawL), k ≤ N.length ∧ i = .int .i64 k ∧ Hid (∀ j (h : j < N.length), j < k → (buF ls m N[j]).isSome = true) ∧ Hid (rs.length ≤ k) ∧ OwnLists w5.heap.size wr v rs ((N.take k).filterMap (buF ls m)) ∧ Below w5.heap.size w5 wr) (fun _ i _ => N.length - (intOf i).toNat)
    case atStart => exact ⟨0, [], Nat.zero_le _, rfl, Lib.hid fun j _ h => absurd h (Nat.not_lt_zero _), Lib.hid (Nat.le_refl _), hOL, hbl0⟩
    case round =>
      clear hOL hbl0
      obtain ⟨k, rs, hk, rfl, hsome, hrl, hOL, hbl⟩ := hrel
      have hk3 : k ≤ 3 := by rw [← hNl.out]; exact hk
      by_cases hlt : k < N.length
      · have hlt3 : k < 3 := by rw [← hNl.out]; exact hlt
        have c0 := (hAN.below hbl).int hlt
        rw [Nat.zero_add] at c0
        have hnr := hNm.out _ (List.getElem_mem hlt)
        have hst := Lib.hid (fun (y : List Int) h => take_filterMap (f := buF ls m) (L := N) (k := k) hlt (x := y) h)
        have hso := Lib.hid (fun (h : (buF ls m N[k]).isSome = true) => (show ∀ j (h : j < N.length), j < k + 1 → (buF ls m N[j]).isSome = true from fun j h1 h2 => by
          by_cases hj : j = k
          · subst hj; exact h
          · exact hsome.out j h1 (by omega)))
        have hno := Lib.hid (fun h => hF10.out k hlt h)
        generalize N[k] = n at c0 hnr hst hso hno
        obtain ⟨q, rfl⟩ : ∃ q : Nat, n = q := ⟨n.toNat, by omega⟩
        obtain ⟨wo, hwo⟩ : ∃ wo : World, wo = wr := ⟨_, rfl⟩
        subst hwo
        have hsz := hbl.size
        have hrl3 := hrl.out
        have hrl4 : rs.length ≤ 3 := by omega
        clear hrl3
        have hlenL := hOL.len
        obtain ⟨av, cv, ev, _⟩ := hOL.at
        subst ev
        replace hlenL := Lib.hid hlenL
        generalize hYY : (N.take k).filterMap (buF ls m) = Y at hOL hlenL hst
        replace hYY := Lib.hid hYY
        have hb0 : Below wo.heap.size wo (wo.alloc (.cells #[] 2)) := (Below.refl _ _).alloc (Nat.le_refl _) _
        have hO0 := own_new (α := Int) wo 2
        by_cases hq0 : 0 < q
        · have hfw := firstWithin_c a ls c q (q + m) (wo.alloc (.cells #[] 2)) ((hx.below hb).below (hbl.alloc hsz _)) hLO (by omega) (by omega)
          rw [show q + m + 1 - q = m + 1 by omega, show ((q + m : Nat) : Int) = (q : Int) + m by omega] at hfw
          cases hbf : withinB ls q (m + 1) with
          | none =>
            rw [hbf] at hfw
            have hr := Lib.hid (hno.out (by unfold buF; rw [Int.toNat_natCast]; exact hbf))
            clear hst hso hno
            go_wp2_with (go_at_call 63; refine hfw.mono ?_; rintro e w8 ⟨v8, rfl, hO8, hb8⟩)
            go_ret2
            exact ⟨_, [], by rw [hr.out]; rfl, by rw [hr.out]; exact OwnLists.nil _ _, upw (upw hb (upw hbl hb0)) hb8⟩
          | some y =>
            rw [hbf] at hfw
            have hbu : buF ls m q = some y := by unfold buF; rw [Int.toNat_natCast]; exact hbf
            have hst2 := Lib.hid (hst.out y hbu)
            have hso2 := Lib.hid (hso.out (by rw [hbu]; rfl))
            clear hst hso hno hbu
            go_wp2_with fail
            refine hfw.mono ?_
            rintro e w8 ⟨v8, rfl, hO8, hb8⟩
            obtain ⟨a8, c8, rfl, _⟩ := hO8.at
            replace hO8 := hO8.base hb0.size
            replace hb8 := upw hb0 hb8
            simp only [Option.getD_some] at hO8
            have hbA : Below wo.heap.size wo (w8.alloc (.cells #[.slice a8 y.length c8] 22)) := hb8.alloc hb8.size _
            have hO9 := hO8.later (show Below w8.heap.size w8 (w8.alloc (.cells #[.slice a8 y.length c8] 22)) from (Below.refl _ _).alloc (Nat.le_refl _) _)
            have hrow := hOL.row.later hbA
            go_wp2_with (at_builtin; refine wpList_pushTo rfl (.tmp 63) (.tmp 65) 34 rfl w5.heap.size 22 (.slice none 0 0) 24 Try.underlying34 infoInts rfl _ rs (⟨a8, y.length, c8⟩ : RawL) rfl hrow _ _ rfl 22 (heap_alloc_new _ _) (by omega) (by decide) (by have := hbA.size; omega) ?_; intro g9 c9 w9 hO10 hg10 hl10)
            have hP := hOL.push hbA (z := ⟨a8, y.length, c8⟩) ⟨rfl, hO9⟩ hsz hO10 hg10 hl10
            go_roundw
            case rel => exact ⟨k + 1, rs ++ [⟨a8, y.length, c8⟩], by omega, by go_num, hso2, Lib.hid (by have := hrl.out; simp; omega), by rw [hst2.out]; exact hP, below_mark (upw hbl hbA) hrow (Nat.le_refl _) hg10⟩
            case measure => simp [intOf]; omega
        · obtain rfl : q = 0 := by omega
          have hbu : buF ls m ((0 : Nat) : Int) = some [] := by unfold buF; rw [Int.toNat_natCast]; exact withinB_zero ls m
          have hst2 := Lib.hid (hst.out [] hbu)
          have hso2 := Lib.hid (hso.out (by rw [hbu]; rfl))
          clear hst hso hno hbu
          obtain ⟨w8, hw8⟩ : ∃ w8, w8 = wo.alloc (.cells #[] 2) := ⟨_, rfl⟩
          rw [← hw8] at hb0 hO0
          replace hw8 := Lib.hid hw8
          have hbA : Below wo.heap.size wo (w8.alloc (.cells #[.slice (some ⟨wo.heap.size, 0, none⟩) 0 0] 22)) := hb0.alloc hb0.size _
          have hO9 := hO0.later (show Below w8.heap.size w8 (w8.alloc (.cells #[.slice (some ⟨wo.heap.size, 0, none⟩) 0 0] 22)) from (Below.refl _ _).alloc (Nat.le_refl _) _)
          have hrow := hOL.row.later hbA
          go_wp2_with (first | rw [← hw8.out] | (at_builtin; refine wpList_pushTo rfl (.tmp 63) (.tmp 65) 34 rfl w5.heap.size 22 (.slice none 0 0) 24 Try.underlying34 infoInts rfl _ rs (⟨some ⟨wo.heap.size, 0, none⟩, 0, 0⟩ : RawL) rfl hrow _ _ rfl 22 (heap_alloc_new _ _) (by omega) (by decide) (by have := hbA.size; omega) ?_; intro g9 c9 w9 hO10 hg10 hl10))
          have hP := hOL.push hbA (z := ⟨some ⟨wo.heap.size, 0, none⟩, 0, 0⟩) (xs := []) ⟨rfl, hO9⟩ hsz hO10 hg10 hl10
          go_roundw
          case rel => exact ⟨k + 1, rs ++ [⟨some ⟨wo.heap.size, 0, none⟩, 0, 0⟩], by omega, by go_num, hso2, Lib.hid (by have := hrl.out; simp; omega), by rw [hst2.out]; exact hP, below_mark (upw hbl hbA) hrow (Nat.le_refl _) hg10⟩
          case measure => simp [intOf]; omega
      · obtain rfl : k = N.length := by omega
        have hr := Lib.hid (hF0.out (fun j hj => hsome.out j hj hj))
        rw [List.take_length] at hOL
        have hN3 : ¬ N.length < 3 := by rw [hNl.out]; omega
        go_wp2_with fail
        go_ret2
        exact ⟨_, rs, by rw [hr.out]; rfl, by rw [hr.out]; exact hOL.base hb.size, upw hb hbl⟩
end Go.Proofs.Ytokoallbhbgkkaa
