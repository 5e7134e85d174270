/- Chapter 6, the reference: BuildUpFor. -/
import Derived.Test.YtokoallbhbgkkaaB06b
import Derived.Deep.RegionHeld3
namespace Go.Proofs.Ytokoallbhbgkkaa
open Go.RowKit
set_option maxRecDepth 100000 in
set_option maxHeartbeats 4000000 in
theorem specBU_bad (x : Last) (f : Foot) (a : Option Addr) (ls : List Int) (c : Nat) (most : Int) (w : World) (hn : x.Name.size ≤ 9223372036854775807) (hx : At w a ls) (hl : ls.length ≤ 9223372036854775807) (h : (okLast x && okFoot f && layOk ls) = false ∨ inr most 0 1000 = false) :
    Calls Try.prog 17 #[.agg #[.string x.Name, .int .i64 x.Length, .int .i64 x.Ball, .int .i64 x.Instep, .int .i64 x.Heel, .int .i64 x.Pitch], .agg #[.int .i64 f.Length, .int .i64 f.Ball, .int .i64 f.Instep, .int .i64 f.Heel], .slice a ls.length c, .int .i64 most] w fun e w' => ∃ v rs, e = .returned (.tuple #[v, .int .i64 (buRes x f ls most).2]) ∧ OwnLists w.heap.size w' v rs (buRes x f ls most).1 ∧ Below w.heap.size w w' := by
  obtain ⟨w1, hw1⟩ : ∃ w1, w1 = (w.alloc (.cells #[.string x.Name, .int .i64 x.Length, .int .i64 x.Ball, .int .i64 x.Instep, .int .i64 x.Heel, .int .i64 x.Pitch] 37)).alloc (.cells #[.int .i64 f.Length, .int .i64 f.Ball, .int .i64 f.Instep, .int .i64 f.Heel] 39) := ⟨_, rfl⟩
  obtain ⟨hb, ⟨x0, x1, x2, x3, x4, x5⟩, ⟨f0, f1, f2, f3⟩⟩ := last_cells2 w x f hw1
  replace hw1 := Lib.hid hw1
  cases h4 : inr most 0 1000 <;> cases h1 : okLast x <;> cases h2 : okFoot f <;> cases h3 : layOk ls
  all_goals try (exfalso; simp [h1, h2, h3, h4] at h; done)
  all_goals
    first | rw [buRes_bad (by rw [h1, h2, h3]; rfl)] | rw [buRes_range (by rw [h1, h2, h3]; rfl) h4]
    clear h
    go_enter Try.func17, Try.ntmps17
    go_wp2_with (first | rw [← hw1.out] | (go_at_call 64; refine (l06Ok_c a ls c _ (hx.below hb) hl).mono ?_; rintro e w4 ⟨rfl, hb4⟩; rw [h3]; replace x0 := kept_cell x0 hb4; replace x1 := kept_cell x1 hb4; replace x2 := kept_cell x2 hb4; replace x3 := kept_cell x3 hb4; replace x4 := kept_cell x4 hb4; replace x5 := kept_cell x5 hb4; replace f0 := kept_cell f0 hb4; replace f1 := kept_cell f1 hb4; replace f2 := kept_cell f2 hb4; replace f3 := kept_cell f3 hb4; replace hb := upw hb hb4; clear hb4) | (go_at_call 65; refine (l04One_c x _ hn).mono ?_; rintro e w2 ⟨rfl, hb2⟩; rw [h1]; replace x0 := kept_cell x0 hb2; replace x1 := kept_cell x1 hb2; replace x2 := kept_cell x2 hb2; replace x3 := kept_cell x3 hb2; replace x4 := kept_cell x4 hb2; replace x5 := kept_cell x5 hb2; replace f0 := kept_cell f0 hb2; replace f1 := kept_cell f1 hb2; replace f2 := kept_cell f2 hb2; replace f3 := kept_cell f3 hb2; replace hb := upw hb hb2; clear hb2) | (go_at_call 66; refine (l02Foot_c f _).mono ?_; rintro e w3 ⟨rfl, hb3⟩; rw [h2]; replace x0 := kept_cell x0 hb3; replace x1 := kept_cell x1 hb3; replace x2 := kept_cell x2 hb3; replace x3 := kept_cell x3 hb3; replace x4 := kept_cell x4 hb3; replace x5 := kept_cell x5 hb3; replace f0 := kept_cell f0 hb3; replace f1 := kept_cell f1 hb3; replace f2 := kept_cell f2 hb3; replace f3 := kept_cell f3 hb3; replace hb := upw hb hb3; clear hb3) | (go_at_call 58; refine (l00In_c _ _ _ _).mono ?_; rintro e w4 ⟨rfl, rfl⟩; rw [h4]))
    go_ret2
    exact ⟨_, [], rfl, OwnLists.nil _ _, hb⟩
set_option maxRecDepth 100000 in
set_option maxHeartbeats 2000000 in
theorem specBU_good (x : Last) (f : Foot) (a : Option Addr) (ls : List Int) (c : Nat) (m : Nat) (w : World) (hn : x.Name.size ≤ 9223372036854775807) (hx : At w a ls) (hl : ls.length ≤ 9223372036854775807) (h1 : okLast x = true) (h2 : okFoot f = true) (h3 : layOk ls = true) (hm : m ≤ 1000) :
    Calls Try.prog 17 #[.agg #[.string x.Name, .int .i64 x.Length, .int .i64 x.Ball, .int .i64 x.Instep, .int .i64 x.Heel, .int .i64 x.Pitch], .agg #[.int .i64 f.Length, .int .i64 f.Ball, .int .i64 f.Instep, .int .i64 f.Heel], .slice a ls.length c, .int .i64 m] w fun e w' => ∃ v rs, e = .returned (.tuple #[v, .int .i64 (buRes x f ls m).2]) ∧ OwnLists w.heap.size w' v rs (buRes x f ls m).1 ∧ Below w.heap.size w w' := by
  obtain ⟨w1, hw1⟩ : ∃ w1, w1 = (w.alloc (.cells #[.string x.Name, .int .i64 x.Length, .int .i64 x.Ball, .int .i64 x.Instep, .int .i64 x.Heel, .int .i64 x.Pitch] 37)).alloc (.cells #[.int .i64 f.Length, .int .i64 f.Ball, .int .i64 f.Instep, .int .i64 f.Heel] 39) := ⟨_, rfl⟩
  obtain ⟨hb, ⟨x0, x1, x2, x3, x4, x5⟩, ⟨f0, f1, f2, f3⟩⟩ := last_cells2 w x f hw1
  replace hw1 := Lib.hid hw1
  have h4 : inr (m : Int) 0 1000 = true := inr_true.2 (by omega)
  have hok : (okLast x && okFoot f && layOk ls) = true := by rw [h1, h2, h3]; rfl
  have hLO := layOk_is h3
  have hNR := Lib.hid (needL_range h1 h2)
  have hNl : Hid ((needL x f).length = 3) := Lib.hid rfl
  have hF5 := Lib.hid (fun h => buRes_full (most := (m : Int)) hok h4 h)
  have hF10 := Lib.hid (fun h3 k hk h5 => buRes_tight (m := m) hok h4 h3 (k := k) hk h5)
  have hF0 := Lib.hid (fun h3 h5 => buRes_ok (m := m) hok h4 h3 h5)
  have hneed := Lib.hid (fun w' => l06Need_c x f w' h1 h2)
  replace hok := Lib.hid hok
  obtain ⟨R, hR⟩ : ∃ R, R = buRes x f ls m := ⟨_, rfl⟩
  rw [← hR] at hF5 hF10 hF0 ⊢
  obtain ⟨N, hN⟩ : ∃ N, N = needL x f := ⟨_, rfl⟩
  rw [← hN] at hF5 hF10 hF0 hNR hNl hneed
  replace hR := Lib.hid hR
  replace hN := Lib.hid hN
  go_enter Try.func17, Try.ntmps17
  go_wp2_with (first | rw [← hw1.out] | (go_at_call 64; refine (l06Ok_c a ls c _ (hx.below hb) hl).mono ?_; rintro e w4 ⟨rfl, hb4⟩; rw [h3]; replace x0 := kept_cell x0 hb4; replace x1 := kept_cell x1 hb4; replace x2 := kept_cell x2 hb4; replace x3 := kept_cell x3 hb4; replace x4 := kept_cell x4 hb4; replace x5 := kept_cell x5 hb4; replace f0 := kept_cell f0 hb4; replace f1 := kept_cell f1 hb4; replace f2 := kept_cell f2 hb4; replace f3 := kept_cell f3 hb4; replace hb := upw hb hb4; clear hb4) | (go_at_call 65; refine (l04One_c x _ hn).mono ?_; rintro e w2 ⟨rfl, hb2⟩; rw [h1]; replace x0 := kept_cell x0 hb2; replace x1 := kept_cell x1 hb2; replace x2 := kept_cell x2 hb2; replace x3 := kept_cell x3 hb2; replace x4 := kept_cell x4 hb2; replace x5 := kept_cell x5 hb2; replace f0 := kept_cell f0 hb2; replace f1 := kept_cell f1 hb2; replace f2 := kept_cell f2 hb2; replace f3 := kept_cell f3 hb2; replace hb := upw hb hb2; clear hb2) | (go_at_call 66; refine (l02Foot_c f _).mono ?_; rintro e w3 ⟨rfl, hb3⟩; rw [h2]; replace x0 := kept_cell x0 hb3; replace x1 := kept_cell x1 hb3; replace x2 := kept_cell x2 hb3; replace x3 := kept_cell x3 hb3; replace x4 := kept_cell x4 hb3; replace x5 := kept_cell x5 hb3; replace f0 := kept_cell f0 hb3; replace f1 := kept_cell f1 hb3; replace f2 := kept_cell f2 hb3; replace f3 := kept_cell f3 hb3; replace hb := upw hb hb3; clear hb3) | (go_at_call 58; refine (l00In_c _ _ _ _).mono ?_; rintro e w4 ⟨rfl, rfl⟩; rw [h4]))
  refine (hneed.out _).mono ?_
  rintro e w5 ⟨vN, rfl, hON, hb5⟩
  replace hb := upw hb hb5
  clear x0 x1 x2 x3 x4 x5 f0 f1 f2 f3 hb5 hneed
  obtain ⟨aN, cN, rfl, hAN⟩ := hON.at
  clear hON
  go_wp2_with fail
  go_loopw [11] (fun i wr => ∃ k : Nat, k ≤ N.length ∧ i = .int .i64 k ∧ Hid (∀ j (h : j < N.length), j < k → N[j] + (m : Int) ≤ 1000) ∧ Below w5.heap.size w5 wr) (fun i _ => N.length - (intOf i).toNat)
  case atStart => exact ⟨0, Nat.zero_le _, rfl, Lib.hid fun j _ h => absurd h (Nat.not_lt_zero _), Below.refl _ _⟩
  case round =>
    obtain ⟨k, hk, rfl, hsm, hbl⟩ := hrel
    have hk3 : k ≤ 3 := by rw [← hNl.out]; exact hk
    by_cases hlt : k < N.length
    · have hANr := hAN.below hbl
      obtain ⟨b, off, rfl⟩ := hANr.addr hlt
      have c0 := hANr.int hlt
      have hnr := hNR.out _ (List.getElem_mem hlt)
      have hmem := Lib.hid (List.getElem_mem hlt)
      have hsm2 := Lib.hid (fun (h : N[k] + (m : Int) ≤ 1000) => (show ∀ j (h : j < N.length), j < k + 1 → N[j] + (m : Int) ≤ 1000 from fun j h1 h2 => by
        by_cases hj : j = k
        · subst hj; exact h
        · exact hsm.out j h1 (by omega)))
      generalize N[k] = n at c0 hnr hmem hsm2
      by_cases hbig : 1000 < n + (m : Int)
      · have hr := Lib.hid (hF5.out (List.any_eq_true.2 ⟨n, hmem.out, by simpa using hbig⟩))
        go_wp2_with fail
        go_ret2
        exact ⟨_, [], by rw [hr.out]; rfl, by rw [hr.out]; exact OwnLists.nil _ _, upw hb hbl⟩
      · go_wp2_with fail
        go_roundw
        case rel => exact ⟨k + 1, by omega, by go_num, Lib.hid (hsm2.out (by omega)), hbl⟩
        case measure => simp [intOf]; omega
    · have hfull : ∀ n ∈ N, n + (m : Int) ≤ 1000 := fun n hn' => by obtain ⟨j, hj, rfl⟩ := List.mem_iff_getElem.1 hn'; exact hsm.out j hj (by omega)
      have hany : N.any (fun n => decide (1000 < n + (m : Int))) = false := by
        rw [List.any_eq_false]; intro n hn'; have := hfull n hn'; simp; omega
      have hNm : Hid (∀ n ∈ N, 0 ≤ n ∧ n + (m : Int) ≤ 1000) := Lib.hid fun n hn' => ⟨(hNR.out n hn').1, hfull n hn'⟩
      replace hF10 := Lib.hid (hF10.out hany)
      replace hF0 := Lib.hid (hF0.out hany)
      clear hfull hF5 hany hsm
      replace hAN := hAN.below hbl
      replace hb := upw hb hbl
      clear hbl
      obtain ⟨w6, hw6⟩ : ∃ w6 : World, w6 = wr := ⟨_, rfl⟩
      subst hw6
      have hOL := OwnLists.new w6
      have hbl0 : Below w6.heap.size w6 (w6.alloc (.cells #[] 22)) := (Below.refl _ _).alloc (Nat.le_refl _) _
      go_wp2_with fail
      go_loopw [12, 13] (fun v i wr => ∃ (k : Nat) (rs : List RawL), k ≤ N.length ∧ i = .int .i64 k ∧ Hid (∀ j (h : j < N.length), j < k → (buF ls m N[j]).isSome = true) ∧ Hid (rs.length ≤ k) ∧ OwnLists w6.heap.size wr v rs ((N.take k).filterMap (buF ls m)) ∧ Below w6.heap.size w6 wr) (fun _ i _ => N.length - (intOf i).toNat)
      case atStart => exact ⟨0, [], Nat.zero_le _, rfl, Lib.hid fun j _ h => absurd h (Nat.not_lt_zero _), Lib.hid (Nat.le_refl _), hOL, hbl0⟩
      case round =>
        clear hOL hbl0
        obtain ⟨k, rs, hk, rfl, hsome, hrl, hOL, hbl⟩ := hrel
        have hk3 : k ≤ 3 := by rw [← hNl.out]; exact hk
        by_cases hlt : k < N.length
        · have hANr := hAN.below hbl
          obtain ⟨b, off, rfl⟩ := hANr.addr hlt
          have c0 := hANr.int hlt
          have hnr := hNm.out _ (List.getElem_mem hlt)
          have hst := Lib.hid (fun (y : List Int) h => take_filterMap (f := buF ls m) (L := N) (k := k) hlt (x := y) h)
          have hso := Lib.hid (fun (h : (buF ls m N[k]).isSome = true) => (show ∀ j (h : j < N.length), j < k + 1 → (buF ls m N[j]).isSome = true from fun j h1 h2 => by
            by_cases hj : j = k
            · subst hj; exact h
            · exact hsome.out j h1 (by omega)))
          have hno := Lib.hid (fun h => hF10.out k hlt h)
          generalize N[k] = n at c0 hnr hst hso hno
          obtain ⟨q, rfl⟩ : ∃ q : Nat, n = q := ⟨n.toNat, by omega⟩
          obtain ⟨wo, hwo⟩ : ∃ wo : World, wo = wr := ⟨_, rfl⟩
          subst hwo
          have hsz := hbl.size
          have hrl3 := hrl.out
          have hrl4 : rs.length ≤ 3 := by omega
          clear hrl3
          have hlenL := hOL.len
          obtain ⟨av, cv, ev, _⟩ := hOL.at
          subst ev
          replace hlenL := Lib.hid hlenL
          generalize hYY : (N.take k).filterMap (buF ls m) = Y at hOL hlenL hst
          replace hYY := Lib.hid hYY
          have hfw := l06Within_c a ls c q (q + m) wo.drew (((hx.below hb).below hbl).below (Below.refl _ _).drew) hLO (by omega) (by omega)
          rw [show q + m + 1 - q = m + 1 by omega, show ((q + m : Nat) : Int) = (q : Int) + m by omega] at hfw
          have hwq : IntKind.i64.wrap ((q : Int) + m) = (q : Int) + m := IntWalk.i64_in _ (by omega)
          cases hbf : withinB ls q (m + 1) with
          | none =>
            rw [hbf] at hfw
            have hr := Lib.hid (hno.out (by unfold buF; rw [Int.toNat_natCast]; exact hbf))
            clear hst hso hno
            go_wp2_with fail
            refine wp_region_held_drew (S := (fun w' => w'.cell? ⟨b, off + k, none⟩ = some (.int .i64 q))) (by kernel_rfl) (by go_simp) (fun hHeld => ?_)
            refine wpAnyH_take (i := 0) (v := _) rfl (by kernel_rfl) (by kernel_rfl) (by kernel_rfl) (fun _ _ _ h => h) (Or.inl ⟨by rfl, (by intro w hSw; (try dsimp only at hSw); go_simp; try with_reducible rfl)⟩) (by assumption) ?_
            go_simp
            refine wpAnyH_take (i := 1) (v := _) rfl (by kernel_rfl) (by kernel_rfl) (by kernel_rfl) (fun _ _ _ h => h) (Or.inl ⟨by rfl, (by intro w hSw; (try dsimp only at hSw); go_simp; try with_reducible rfl)⟩) (by assumption) ?_
            go_simp
            refine wpAnyH_take (i := 2) (v := _) rfl (by kernel_rfl) (by kernel_rfl) (by kernel_rfl) (fun _ _ _ h => h) (Or.inl ⟨by rfl, (by intro w hSw; (try dsimp only at hSw); go_simp; try with_reducible rfl)⟩) (by assumption) ?_
            go_simp
            refine wpAnyH_take (i := 3) (v := _) rfl (by kernel_rfl) (by kernel_rfl) (by kernel_rfl) (fun _ _ _ h => h) (Or.inl ⟨by rfl, (by intro w hSw; (try dsimp only at hSw); go_simp; try with_reducible rfl)⟩) (by assumption) ?_
            go_simp
            refine wpAnyH_take (i := 4) (v := _) rfl (by kernel_rfl) (by kernel_rfl) (by kernel_rfl) (fun _ _ _ h => h) (Or.inl ⟨by rfl, (by intro w hSw; (try dsimp only at hSw); go_simp; try with_reducible rfl)⟩) (by assumption) ?_
            go_simp
            refine wpAnyH_take (i := 5) (v := _) rfl (by kernel_rfl) (by kernel_rfl) (by kernel_rfl) (fun _ _ _ h => h) (Or.inl ⟨by rfl, (by intro w hSw; (try dsimp only at hSw); go_simp; try with_reducible rfl)⟩) (by assumption) ?_
            go_simp
            refine wpAnyH_take (i := 6) (v := _) rfl (by kernel_rfl) (by kernel_rfl) (by kernel_rfl) (fun _ _ _ h => h) (Or.inl ⟨by rfl, (by intro w hSw; (try dsimp only at hSw); go_simp; try with_reducible rfl)⟩) (by assumption) ?_
            go_simp
            refine wpAnyH_take (i := 7) (v := _) rfl (by kernel_rfl) (by kernel_rfl) (by kernel_rfl) (fun _ _ _ h => h) (Or.inl ⟨by rfl, (by intro w hSw; (try dsimp only at hSw); go_simp; try with_reducible rfl)⟩) (by assumption) ?_
            go_simp
            refine wpAnyH_take (i := 8) (v := _) rfl (by kernel_rfl) (by kernel_rfl) (by kernel_rfl) (fun _ _ _ h => h) (Or.inl ⟨by rfl, (by intro w hSw; (try dsimp only at hSw); go_simp; try with_reducible rfl)⟩) (by assumption) ?_
            go_simp
            refine wpAnyH_take (i := 9) (v := _) rfl (by kernel_rfl) (by kernel_rfl) (by kernel_rfl) (fun _ _ _ h => h) (Or.inl ⟨by rfl, (by intro w hSw; (try dsimp only at hSw); go_simp; try with_reducible rfl)⟩) (by assumption) ?_
            go_simp
            refine wpAnyH_take (i := 10) (v := _) rfl (by kernel_rfl) (by kernel_rfl) (by kernel_rfl) (fun _ _ _ h => h) (Or.inl ⟨by rfl, (by intro w hSw; (try dsimp only at hSw); go_simp; try with_reducible rfl)⟩) (by assumption) ?_
            go_simp
            refine wpAnyH_ready (rs := [11]) (by kernel_rfl) (by simp) ?_
            refine AllReadyH.cons rfl (fun K hK => ?_) AllReadyH.nil
            go_simp
            refine hfw.mono ?_
            rintro e w8 ⟨v8, rfl, hO8, hb8⟩
            replace hb8 := upw (Below.refl wo.heap.size wo).drew hb8
            go_simp
            refine hK.out _ _ (kept_cell c0 hb8) (fun hHeld => ?_)
            clear hK K
            go_simp
            refine wpAnyH_take (i := 12) (v := _) rfl (by kernel_rfl) (by kernel_rfl) (by kernel_rfl) (fun _ _ _ h => h) (Or.inl ⟨by rfl, (by intro w hSw; (try dsimp only at hSw); go_simp; try with_reducible rfl)⟩) (by assumption) ?_
            go_simp
            refine wpAnyH_take (i := 13) (v := _) rfl (by kernel_rfl) (by kernel_rfl) (by kernel_rfl) (fun _ _ _ h => h) (Or.inl ⟨by rfl, (by intro w hSw; (try dsimp only at hSw); go_simp; try with_reducible rfl)⟩) (by assumption) ?_
            go_simp
            refine wpAnyH_take (i := 14) (v := _) rfl (by kernel_rfl) (by kernel_rfl) (by kernel_rfl) (fun _ _ _ h => h) (Or.inl ⟨by rfl, (by intro w hSw; (try dsimp only at hSw); go_simp; try with_reducible rfl)⟩) (by assumption) ?_
            go_simp
            refine wpAnyH_take (i := 15) (v := _) rfl (by kernel_rfl) (by kernel_rfl) (by kernel_rfl) (fun _ _ _ h => h) (Or.inl ⟨by rfl, (by intro w hSw; (try dsimp only at hSw); go_simp; try with_reducible rfl)⟩) (by assumption) ?_
            go_simp
            refine wpAnyH_take (i := 16) (v := _) rfl (by kernel_rfl) (by kernel_rfl) (by kernel_rfl) (fun _ _ _ h => h) (Or.inl ⟨by rfl, (by intro w hSw; (try dsimp only at hSw); go_simp; try with_reducible rfl)⟩) (by assumption) ?_
            go_simp
            refine wpAnyH_done (by kernel_rfl) ?_ _
            go_wp2_with fail
            go_ret2
            exact ⟨_, [], by rw [hr.out]; rfl, by rw [hr.out]; exact OwnLists.nil _ _, upw (upw hb hbl) hb8⟩
          | some y =>
            rw [hbf] at hfw
            have hbu : buF ls m q = some y := by unfold buF; rw [Int.toNat_natCast]; exact hbf
            have hst2 := Lib.hid (hst.out y hbu)
            have hso2 := Lib.hid (hso.out (by rw [hbu]; rfl))
            clear hst hso hno hbu
            go_wp2_with fail
            refine wp_region_held_drew (S := (fun w' => w'.cell? ⟨b, off + k, none⟩ = some (.int .i64 q))) (by kernel_rfl) (by go_simp) (fun hHeld => ?_)
            refine wpAnyH_take (i := 0) (v := _) rfl (by kernel_rfl) (by kernel_rfl) (by kernel_rfl) (fun _ _ _ h => h) (Or.inl ⟨by rfl, (by intro w hSw; (try dsimp only at hSw); go_simp; try with_reducible rfl)⟩) (by assumption) ?_
            go_simp
            refine wpAnyH_take (i := 1) (v := _) rfl (by kernel_rfl) (by kernel_rfl) (by kernel_rfl) (fun _ _ _ h => h) (Or.inl ⟨by rfl, (by intro w hSw; (try dsimp only at hSw); go_simp; try with_reducible rfl)⟩) (by assumption) ?_
            go_simp
            refine wpAnyH_take (i := 2) (v := _) rfl (by kernel_rfl) (by kernel_rfl) (by kernel_rfl) (fun _ _ _ h => h) (Or.inl ⟨by rfl, (by intro w hSw; (try dsimp only at hSw); go_simp; try with_reducible rfl)⟩) (by assumption) ?_
            go_simp
            refine wpAnyH_take (i := 3) (v := _) rfl (by kernel_rfl) (by kernel_rfl) (by kernel_rfl) (fun _ _ _ h => h) (Or.inl ⟨by rfl, (by intro w hSw; (try dsimp only at hSw); go_simp; try with_reducible rfl)⟩) (by assumption) ?_
            go_simp
            refine wpAnyH_take (i := 4) (v := _) rfl (by kernel_rfl) (by kernel_rfl) (by kernel_rfl) (fun _ _ _ h => h) (Or.inl ⟨by rfl, (by intro w hSw; (try dsimp only at hSw); go_simp; try with_reducible rfl)⟩) (by assumption) ?_
            go_simp
            refine wpAnyH_take (i := 5) (v := _) rfl (by kernel_rfl) (by kernel_rfl) (by kernel_rfl) (fun _ _ _ h => h) (Or.inl ⟨by rfl, (by intro w hSw; (try dsimp only at hSw); go_simp; try with_reducible rfl)⟩) (by assumption) ?_
            go_simp
            refine wpAnyH_take (i := 6) (v := _) rfl (by kernel_rfl) (by kernel_rfl) (by kernel_rfl) (fun _ _ _ h => h) (Or.inl ⟨by rfl, (by intro w hSw; (try dsimp only at hSw); go_simp; try with_reducible rfl)⟩) (by assumption) ?_
            go_simp
            refine wpAnyH_take (i := 7) (v := _) rfl (by kernel_rfl) (by kernel_rfl) (by kernel_rfl) (fun _ _ _ h => h) (Or.inl ⟨by rfl, (by intro w hSw; (try dsimp only at hSw); go_simp; try with_reducible rfl)⟩) (by assumption) ?_
            go_simp
            refine wpAnyH_take (i := 8) (v := _) rfl (by kernel_rfl) (by kernel_rfl) (by kernel_rfl) (fun _ _ _ h => h) (Or.inl ⟨by rfl, (by intro w hSw; (try dsimp only at hSw); go_simp; try with_reducible rfl)⟩) (by assumption) ?_
            go_simp
            refine wpAnyH_take (i := 9) (v := _) rfl (by kernel_rfl) (by kernel_rfl) (by kernel_rfl) (fun _ _ _ h => h) (Or.inl ⟨by rfl, (by intro w hSw; (try dsimp only at hSw); go_simp; try with_reducible rfl)⟩) (by assumption) ?_
            go_simp
            refine wpAnyH_take (i := 10) (v := _) rfl (by kernel_rfl) (by kernel_rfl) (by kernel_rfl) (fun _ _ _ h => h) (Or.inl ⟨by rfl, (by intro w hSw; (try dsimp only at hSw); go_simp; try with_reducible rfl)⟩) (by assumption) ?_
            go_simp
            refine wpAnyH_ready (rs := [11]) (by kernel_rfl) (by simp) ?_
            refine AllReadyH.cons rfl (fun K hK => ?_) AllReadyH.nil
            go_simp
            refine hfw.mono ?_
            rintro e w8 ⟨v8, rfl, hO8, hb8⟩
            obtain ⟨a8, c8, rfl, _⟩ := hO8.at
            simp only [Option.getD_some] at hO8
            replace hO8 := hO8.base (Below.refl wo.heap.size wo).drew.size
            replace hb8 := upw (Below.refl wo.heap.size wo).drew hb8
            go_simp
            refine hK.out _ _ (kept_cell c0 hb8) (fun hHeld => ?_)
            clear hK K
            go_simp
            refine wpAnyH_take (i := 12) (v := _) rfl (by kernel_rfl) (by kernel_rfl) (by kernel_rfl) (fun _ _ _ h => h) (Or.inl ⟨by rfl, (by intro w hSw; (try dsimp only at hSw); go_simp; try with_reducible rfl)⟩) (by assumption) ?_
            go_simp
            refine wpAnyH_take (i := 13) (v := _) rfl (by kernel_rfl) (by kernel_rfl) (by kernel_rfl) (fun _ _ _ h => h) (Or.inl ⟨by rfl, (by intro w hSw; (try dsimp only at hSw); go_simp; try with_reducible rfl)⟩) (by assumption) ?_
            go_simp
            refine wpAnyH_take (i := 14) (v := _) rfl (by kernel_rfl) (by kernel_rfl) (by kernel_rfl) (fun _ _ _ h => h) (Or.inl ⟨by rfl, (by intro w hSw; (try dsimp only at hSw); go_simp; try with_reducible rfl)⟩) (by assumption) ?_
            go_simp
            refine wpAnyH_take (i := 15) (v := _) rfl (by kernel_rfl) (by kernel_rfl) (by kernel_rfl) (fun _ _ _ h => h) (Or.inl ⟨by rfl, (by intro w hSw; (try dsimp only at hSw); go_simp; try with_reducible rfl)⟩) (by assumption) ?_
            go_simp
            refine wpAnyH_take (i := 16) (v := _) rfl (by kernel_rfl) (by kernel_rfl) (by kernel_rfl) (fun _ _ _ h => h) (Or.inl ⟨by rfl, (by intro w hSw; (try dsimp only at hSw); go_simp; try with_reducible rfl)⟩) (by assumption) ?_
            go_simp
            refine wpAnyH_done (by kernel_rfl) ?_ _
            have hbA : Below wo.heap.size wo (w8.alloc (.cells #[.slice a8 y.length c8] 22)) := hb8.alloc hb8.size _
            have hO9 := hO8.later (show Below w8.heap.size w8 (w8.alloc (.cells #[.slice a8 y.length c8] 22)) from (Below.refl _ _).alloc (Nat.le_refl _) _)
            have hrow := hOL.row.later hbA
            clear c0 hANr
            go_wp2_with (at_builtin; refine wpList_pushTo rfl (.tmp 72) (.tmp 74) 34 rfl w6.heap.size 22 (.slice none 0 0) 24 Try.underlying34 infoInts rfl _ rs (⟨a8, y.length, c8⟩ : RawL) rfl hrow _ _ rfl 22 (heap_alloc_new _ _) (by omega) (by decide) (by have := hbA.size; omega) ?_; intro g9 c9 w9 hO10 hg10 hl10)
            have hP := hOL.push hbA (z := ⟨a8, y.length, c8⟩) ⟨rfl, hO9⟩ hsz hO10 hg10 hl10
            go_roundw
            case rel => exact ⟨k + 1, rs ++ [⟨a8, y.length, c8⟩], by omega, by go_num, hso2, Lib.hid (by have := hrl.out; simp; omega), by rw [hst2.out]; exact hP, below_mark (upw hbl hbA) hrow (Nat.le_refl _) hg10⟩
            case measure => simp [intOf]; omega
        · obtain rfl : k = N.length := by omega
          have hr := Lib.hid (hF0.out (fun j hj => hsome.out j hj hj))
          rw [List.take_length] at hOL
          go_wp2_with fail
          go_ret2
          exact ⟨_, rs, by rw [hr.out]; rfl, by rw [hr.out]; exact hOL.base hb.size, upw hb hbl⟩
end Go.Proofs.Ytokoallbhbgkkaa
