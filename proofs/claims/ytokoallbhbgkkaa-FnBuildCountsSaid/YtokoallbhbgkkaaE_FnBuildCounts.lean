/- FnBuildCounts: for all bytes the law returns true, and the bytes read behind the call as before. -/
import Derived.Test.YtokoallbhbgkkaaL06t
namespace Go.Proofs.Ytokoallbhbgkkaa
open Go.ChangeShapes Go.WideShapes Go.ChangeAt Go.RowKit

theorem sum_drawn2 {ls D : List Int} (hD : DrawnL ls) (hm : ∀ x ∈ D, x ∈ ls) (hl : D.length ≤ 12) : 0 ≤ sumI D ∧ sumI D ≤ 432 := by
  have h1 := (free_isBld (ls := ls) (fun l hl => by have := hD.pos l hl; omega) D hm).2
  have h2 := sumI_bound 36 (by omega) D (fun x hx => by have := hD.pos x (hm x hx); omega)
  omega
theorem pow_four {K m : Nat} (hK : K ≤ 432) (hm : m ≤ 4) : (K + 1) ^ m ≤ 1000000000000 := by
  have h1 : (K + 1) ^ m ≤ 433 ^ m := Nat.pow_le_pow_left (by omega) m
  have h2 : (433 : Nat) ^ m ≤ 433 ^ 4 := Nat.pow_le_pow_right (by omega) hm
  have h3 : (433 : Nat) ^ 4 = 35152125121 := by decide
  omega
theorem drawn_counts {ls : List Int} (hp : ∀ x ∈ ls, 1 ≤ x) (hl : ls.length ≤ 4) {s : Nat} (hs : s ≤ 432) : ∀ j k, j ≤ ls.length → k ≤ s → nbl (ls.take j) k ≤ 1000000000000 := by
  intro j k hj hk
  have h1 := nbl_bound (K := s) (ls.take j) (fun l hl => hp l (List.mem_of_mem_take hl)) k hk
  have h2 : (ls.take j).length ≤ 4 := by rw [List.length_take]; omega
  exact Nat.le_trans h1 (pow_four hs h2)
theorem At.take {α : Type} [Rep α] {w : World} {a : Option Addr} {xs : List α} (h : At w a xs) (k : Nat) : At w a (xs.take k) := by
  rcases h with h | ⟨b, off, ha, hlt, h⟩
  · subst h; exact Or.inl (by simp)
  · refine Or.inr ⟨b, off, ha, hlt, fun i hi => ?_⟩
    have hi2 : i < xs.length := by rw [List.length_take] at hi; omega
    obtain ⟨cs, h1, h2⟩ := h i hi2
    exact ⟨cs, by rw [List.getElem_take]; exact h1, h2⟩
theorem layOk_take {ls : List Int} (h : DrawnL ls) {k : Nat} (h0 : 0 < k) (hk : k ≤ ls.length) : layOk (ls.take k) = true := by
  have hl := h.len
  refine drawn_ok ⟨by rw [List.length_take]; omega, fun x hx => h.pos x (List.mem_of_mem_take hx), fun i j hij hj => ?_⟩
  rw [List.getElem_take, List.getElem_take]
  exact h.rises i j hij (by rw [List.length_take] at hj; omega)
/-- All builds: those with the last layer, and those without. -/
theorem counts_split {ls : List Int} (hp : ∀ x ∈ ls, 1 ≤ x) (h0 : 0 < ls.length) (s : Nat) : (nbl ls s : Int) = (if ls[ls.length - 1] ≤ (s : Int) then (nbl ls (s - (ls[ls.length - 1]).toNat) : Int) else 0) + (nbl (ls.take (ls.length - 1)) s : Int) := by
  have e : ls = ls.take (ls.length - 1) ++ [ls[ls.length - 1]] := by
    have := List.take_succ_eq_append_getElem (l := ls) (i := ls.length - 1) (by omega)
    rw [show ls.length - 1 + 1 = ls.length by omega, List.take_length] at this
    exact this
  have hx := hp ls[ls.length - 1] (List.getElem_mem _)
  generalize hx' : ls[ls.length - 1] = x at *
  by_cases h : x ≤ (s : Int)
  · rw [if_pos h]
    have := nbl_split (ls.take (ls.length - 1)) x s hx h
    rw [← e] at this
    omega
  · rw [if_neg h]
    have := nbl_short (ls.take (ls.length - 1)) x s (by omega)
    rw [← e] at this
    omega
theorem timesP_bound {lp : Int × Int} (h : 0 ≤ lp.2 ∧ lp.2 ≤ 8) : ∀ L : List Int, 0 ≤ timesP lp L ∧ timesP lp L ≤ 8 * L.length
  | [] => by rw [timesP_nil]; simp
  | x :: L => by
    have ih := timesP_bound h L
    rw [timesP_cons, List.length_cons]
    split <;> omega
theorem costP_bound {L : List Int} (hL : L.length ≤ 1000) : ∀ {lps : List (Int × Int)}, (∀ lp ∈ lps, 0 ≤ lp.2 ∧ lp.2 ≤ 8) → 0 ≤ costP lps L ∧ costP lps L ≤ 8000 * lps.length
  | [], _ => by unfold costP; simp
  | lp :: lps, h => by
    have ih := costP_bound hL (lps := lps) fun y hy => h y (List.mem_cons_of_mem _ hy)
    have h1 := timesP_bound (h lp (List.mem_cons_self ..)) L
    rw [costP_cons, List.length_cons]
    omega
set_option maxRecDepth 100000 in
set_option maxHeartbeats 8000000 in
theorem lawBuildCounts (a : Option Addr) (L : List UInt8) (c : Nat) (a' : Option Addr) (M : List UInt8) (c' : Nat) (w : World) (hx : At w a L) (hlx : L.length ≤ 9223372036854775807) (hy : At w a' M) (hly : M.length ≤ 9223372036854775807) :
    Calls Try.prog 5 #[.slice a L.length c, .slice a' M.length c'] w fun e w' => e = .returned (.bool true) ∧ Below w.heap.size w w' := by
  have hlong := a2Long_c a a' L M c c' w
  by_cases hg : 3000 < L.length ∨ 3000 < M.length
  · have e : (decide (3000 < L.length) || decide (3000 < M.length)) = true := by simpa using hg
    rw [e] at hlong
    go_enter Try.func5, Try.ntmps5
    go_wp2_with (go_at_call 24; refine hlong.mono ?_; rintro e w1 ⟨rfl, rfl⟩)
    go_ret
    exact ⟨rfl, Below.refl _ _⟩
  · have e : (decide (3000 < L.length) || decide (3000 < M.length)) = false := by simp; omega
    rw [e] at hlong
    have hL3 : L.length ≤ 3000 := by omega
    have hM3 : M.length ≤ 3000 := by omega
    clear e hg
    go_enter Try.func5, Try.ntmps5
    go_wp2_with fail
    refine hlong.mono ?_
    rintro e w1 ⟨rfl, rfl⟩
    go_wp2_with fail
    refine (A2Layers_c a L c w hx hlx).mono ?_
    rintro e w1 ⟨v1, ls, rfl, hO1, hD, hb1⟩
    have hll := hD.len
    obtain ⟨g1, c1, rfl⟩ := hO1.row (by omega)
    have hA1 := hO1.at'
    have hcap := own_cap hO1
    have hcI : (ls.length : Int) - 1 ≤ c1 := by omega
    have h1I : 1 ≤ (ls.length : Int) := by omega
    have hok := drawn_ok hD
    have hpos : ∀ x ∈ ls, 1 ≤ x := fun x hx => by have := hD.pos x hx; omega
    go_wp2_with fail
    refine (A2Build_c a' M c' _ ls c1 w1 (hy.below hb1) hly hA1 hD).mono ?_
    rintro e w2 ⟨v2, D, rfl, hO2, hDm, hDl, hb2⟩
    obtain ⟨a2, c2, rfl, hA2⟩ := hO2.at
    have hsD := sum_drawn2 hD hDm hDl
    obtain ⟨s, hs⟩ : ∃ s : Nat, sumI D = s := ⟨(sumI D).toNat, by omega⟩
    have hDe := Lib.hid (fun x hx => (by have := hD.pos x (hDm x hx); omega : -1000000 ≤ x ∧ x ≤ 1000000))
    have hone := nbl_build hpos D hDm
    rw [hs] at hsD hone
    rw [Int.toNat_natCast] at hone
    have hs1 : s ≤ 432 := by omega
    have hsplit := Lib.hid (counts_split hpos (by omega) s)
    have hcnt := fun k (hk : k ≤ s) => drawn_counts hpos hll.2 (s := k) (by omega)
    have hx0 := hpos ls[ls.length - 1] (List.getElem_mem _)
    clear hO1 hO2
    have hb := upw hb1 hb2
    replace hA1 := hA1.below hb2
    replace hy := hy.below hb
    replace hs := Lib.hid hs
    replace hDm := Lib.hid hDm
    replace hcnt := Lib.hid hcnt
    go_wp2_with fail
    refine (a2Sum_c a2 D c2 w2 hA2 (by omega) hDe.out).mono ?_
    rintro e w3 ⟨rfl, rfl⟩
    rw [hs.out]
    go_wp2_with fail
    refine (countBuilds_c _ ls c1 s w2 hA1 hok (by omega) (hcnt.out s (Nat.le_refl _))).mono ?_
    rintro e w3 ⟨rfl, hb3⟩
    replace hA1 := hA1.below hb3
    replace hA2 := hA2.below hb3
    replace hy := hy.below hb3
    replace hb := upw hb hb3
    obtain ⟨N, hN⟩ : ∃ N, N = nbl ls s := ⟨_, rfl⟩
    rw [← hN] at hone hsplit ⊢
    have hN12 : N ≤ 1000000000000 := by rw [hN]; have := hcnt.out s (Nat.le_refl _) ls.length s (Nat.le_refl _) (Nat.le_refl _); rwa [List.take_length] at this
    replace hN := Lib.hid hN
    have hll1 : ls.length - 1 < ls.length := by omega
    have cl := hA1.int hll1
    rw [Nat.zero_add] at cl
    have hi1 : ((ls.length : Int) - 1).toNat = ls.length - 1 := by omega
    obtain ⟨q, hq⟩ : ∃ q : Nat, ls[ls.length - 1] = q := ⟨(ls[ls.length - 1]).toNat, by omega⟩
    rw [hq] at cl hx0 hsplit
    replace hq := Lib.hid hq
    rw [Int.toNat_natCast] at hsplit
    clear hlong hb1 hb2 hb3
    by_cases hqs : q ≤ s
    · have hqI : (q : Int) ≤ s := by omega
      rw [if_pos hqI] at hsplit
      have hcb := countBuilds_c (some ⟨g1, 0, none⟩) ls c1 (s - q) w3 hA1 hok (by omega) (hcnt.out (s - q) (Nat.sub_le _ _))
      rw [show ((s - q : Nat) : Int) = (s : Int) - q by omega] at hcb
      obtain ⟨N1, hN1⟩ : ∃ N1, N1 = nbl ls (s - q) := ⟨_, rfl⟩
      rw [← hN1] at hcb hsplit
      replace hN1 := Lib.hid hN1
      have hsp0 := hsplit.out
      have hsp1 : (nbl (ls.take (ls.length - 1)) s : Int) ≤ N := by omega
      have hN1b : (N1 : Int) ≤ N := by omega
      clear hsp0
      go_wp2_with fail
      refine hcb.mono ?_
      rintro e w4 ⟨rfl, hb4⟩
      replace hA1 := hA1.below hb4
      replace hA2 := hA2.below hb4
      replace hy := hy.below hb4
      replace hb := upw hb hb4
      clear hb4 hcb cl
      by_cases h1n : 1 < ls.length
      · have hct := countBuilds_c (some ⟨g1, 0, none⟩) (ls.take (ls.length - 1)) c1 s w4 (hA1.take _) (layOk_take hD (by omega) (by omega)) (by omega) (drawn_counts (fun x hx => hpos x (List.mem_of_mem_take hx)) (by rw [List.length_take]; omega) hs1)
        rw [List.length_take, Nat.min_eq_left (Nat.sub_le _ _)] at hct
        obtain ⟨N2, hN2⟩ : ∃ N2, N2 = nbl (ls.take (ls.length - 1)) s := ⟨_, rfl⟩
        rw [← hN2] at hct hsplit hsp1
        have hsB : ((N : Int) != (N1 : Int) + (N2 : Int)) = false := by have := hsplit.out; simp; omega
        replace hN2 := Lib.hid hN2
        go_wp2_with fail
        refine hct.mono ?_
        rintro e w5 ⟨rfl, hb5⟩
        replace hA1 := hA1.below hb5
        replace hA2 := hA2.below hb5
        replace hy := hy.below hb5
        replace hb := upw hb hb5
        clear hb5 hct
        --BLOCK w5 8
        have hb0 : Below w5.heap.size w5 (w5.alloc (.cells #[] 2)) := (Below.refl _ _).alloc (Nat.le_refl _) _
        have hN0 := own_new (α := Int) w5 2
        go_wp2_with fail
        go_loopw [17, 18] (fun v i wr => ∃ (k : Nat) (ps : List Int), k ≤ ls.length ∧ i = .int .i64 k ∧ Hid (ps.length = k ∧ ∀ p ∈ ps, 0 ≤ p ∧ p ≤ 8) ∧ Own w5.heap.size wr 2 v ps ∧ Below w5.heap.size w5 wr) (fun _ i _ => ls.length - (intOf i).toNat)
        case atStart => exact ⟨0, [], Nat.zero_le _, rfl, Lib.hid ⟨rfl, by simp⟩, hN0, hb0⟩
        case round =>
          clear hb0 hN0
          obtain ⟨k, ps, hk, rfl, hPS, hOP, hbl⟩ := hrel
          by_cases hlt : k < ls.length
          · have hal := a2At_c a' M c' (20 + k) 9 wr (hy.below hbl) hM3 (by omega) (by omega) (by omega)
            rw [show ((20 + k : Nat) : Int) = 20 + (k : Int) by omega] at hal
            have hpl2 := hPS.out.1
            have hpl : ps.length ≤ 4 := by omega
            clear hpl2
            obtain ⟨wo, hwo⟩ : ∃ wo : World, wo = wr := ⟨_, rfl⟩
            subst hwo
            have hsz := hbl.size
            obtain ⟨av, cv, rfl, _⟩ := hOP.at
            go_wp2_with (first | (go_at_call 29; refine hal.mono ?_; rintro e w8 ⟨p, rfl, p0, p1, rfl⟩) | (at_builtin; refine wpList_push rfl (.tmp 100) (.tmp 105) 22 rfl w5.heap.size 2 (.int .i64 0) 8 Try.underlying22 infoInt rfl _ ps p rfl (hOP.later ((Below.refl _ _).alloc (Nat.le_refl _) _)) _ _ rfl 2 (heap_alloc_new _ _) (by omega) (by decide) (by simp; omega) ?_; intro v1 w4 hO1 hg1))
            go_roundw
            case rel =>
              refine ⟨k + 1, ps ++ [p], by omega, by go_num, Lib.hid ⟨by have := hPS.out.1; simp; omega, fun x hx => ?_⟩, hO1, below_mark (hbl.alloc hsz _) (hOP.later ((Below.refl _ _).alloc (Nat.le_refl _) _)) (Nat.le_refl _) hg1⟩
              rcases List.mem_append.1 hx with hx | hx
              · exact hPS.out.2 x hx
              · rw [List.mem_singleton] at hx; omega
            case measure => simp [intOf]; omega
          · obtain rfl : k = ls.length := by omega
            have hPO : PriceOk ls ps := ⟨hPS.out.1, fun i hi => by have := hPS.out.2 _ (List.getElem_mem hi); omega⟩
            have hpl := Lib.hid hPS.out.1
            have hP8 := Lib.hid hPS.out.2
            obtain ⟨lps, hlps⟩ : ∃ lps, lps = ls.zip ps := ⟨_, rfl⟩
            have hfst : lps.map (·.1) = ls := by rw [hlps]; exact List.map_fst_zip (by rw [hpl.out]; exact Nat.le_refl _)
            have hlpp : ∀ lp ∈ lps, 1 ≤ lp.1 ∧ 0 ≤ lp.2 ∧ lp.2 ≤ 8 := fun lp hm => by
              rw [hlps] at hm
              exact ⟨hpos _ (List.of_mem_zip hm).1, hP8.out _ (List.of_mem_zip hm).2⟩
            obtain ⟨b, hbb, hbs, hbc, hble, hblt⟩ := bld_cheapest (lps := lps) (by rw [hfst]; exact rises_nodup hD.rises) (fun lp hm => (hlpp lp hm).1) (D := D) (fun x hx => by rw [hfst]; exact hDm.out x hx)
            rw [hs.out] at hbb hbs
            rw [Int.toNat_natCast] at hbb
            have hbi := bld_is _ _ _ hbb
            have hbm : ∀ x ∈ b.layers, x ∈ ls := fun x hx => by obtain ⟨lp, hm, e, _⟩ := isBld_mem hbi x hx; rw [← hfst, ← e]; exact List.mem_map.2 ⟨lp, hm, rfl⟩
            have hblen := isBld_length hbi
            have hbpr := isBld_price (M := 8) (by omega) (fun lp hm => (hlpp lp hm).2) hbi
            rw [hlps] at hbb
            obtain ⟨ap, cp, ev, hAP⟩ := hOP.at
            subst ev
            obtain ⟨pr, X⟩ := b
            simp only at hbs hbc hble hblt hbm hblen hbpr
            have hXe := Lib.hid (fun x hx => (by have := hD.pos x (hbm x hx); omega : -1000000 ≤ x ∧ x ≤ 1000000))
            have HZ : Hid (lps.length = ls.length) := Lib.hid (by rw [hlps, List.length_zip, hpl.out]; omega)
            have HG : Hid (∀ k (h : k < ls.length) (h1 : k < ps.length), ∀ (h2 : k < lps.length), lps[k] = (ls[k], ps[k])) := Lib.hid fun k h h1 h2 => by simp only [hlps]; rw [List.getElem_zip]
            have hl3 : Hid (∀ k (Y : List Int) j, k < ls.length → k < ps.length → Y.length ≤ 1000 → ∀ (h : k < ls.length) (h1 : k < ps.length), 0 ≤ costP (lps.take k) Y + timesP (ls[k], ps[k]) (Y.take j) ∧ costP (lps.take k) Y + timesP (ls[k], ps[k]) (Y.take j) ≤ 900000 ∧ 0 ≤ ps[k] ∧ ps[k] ≤ 8) := Lib.hid fun k Y j _ _ hY h h1 => by
              have h2 := costP_bound (L := Y) hY (lps := lps.take k) (fun lp hm => (hlpp lp (List.mem_of_mem_take hm)).2)
              have h3 : (lps.take k).length ≤ 4 := by rw [List.length_take]; omega
              have h4 := hP8.out _ (List.getElem_mem h1)
              have h5 := timesP_bound (lp := (ls[k], ps[k])) h4 (Y.take j)
              have h6 : (Y.take j).length ≤ 1000 := by rw [List.length_take]; omega
              omega
            have CX := Lib.hid (fun k j (h : k < ls.length) (h1 : k < ps.length) => hl3.out k X j h h1 (by omega) h h1)
            have CD := Lib.hid (fun k j (h : k < ls.length) (h1 : k < ps.length) => hl3.out k D j h h1 (by omega) h h1)
            have cX0 : Hid (costP lps X = pr) := Lib.hid hbc
            clear hbc
            obtain ⟨TD, hTD⟩ : ∃ TD, TD = costP lps D := ⟨_, rfl⟩
            rw [← hTD] at hble hblt
            replace hTD := Lib.hid hTD
            replace hlps := Lib.hid hlps
            replace hlpp := Lib.hid hlpp
            replace hbm := Lib.hid hbm
            replace hfst := Lib.hid hfst
            have hch := cheapestBuild_c _ _ ls ps c1 cp s wr (hA1.below hbl) hAP hok hPO (by omega) _ hbb
            replace hblt := Lib.hid hblt
            replace hbb := Lib.hid hbb
            go_wp2_with (go_at_call 30; refine hch.mono ?_; rintro e w7 ⟨v7, rfl, hO7, hb7⟩; obtain ⟨a7, c7, rfl, hA7⟩ := hO7.at)
            have hsx := a2Sum_c a7 X c7 w7 hA7 (by omega) hXe.out
            rw [hbs] at hsx
            replace hA1 := (hA1.below hbl).below hb7
            replace hA2 := (hA2.below hbl).below hb7
            replace hAP := hAP.below hb7
            replace hb := upw (upw hb hbl) hb7
            replace hbs := Lib.hid hbs
            clear hch hO7 hOP hb7 hbl hPS
            have hfin : Hid (∀ q : Bool, (decide (pr < TD) || decide ((X.length : Int) ≤ D.length)) = true) := Lib.hid fun _ => by
              rcases hblt.out with h | h
              · simp [h]
              · have : (X.length : Int) ≤ D.length := by omega
                simp [this]
            go_wp2_with (go_at_call 27; refine hsx.mono ?_; rintro e w8 ⟨rfl, rfl⟩)
            go_loopw [22, 23, 24] (fun o t i wr => ∃ k : Nat, k ≤ ls.length ∧ i = .int .i64 k ∧ o = .int .i64 (costP (lps.take k) X) ∧ t = .int .i64 (costP (lps.take k) D) ∧ Below w7.heap.size w7 wr) (fun _ _ i _ => ls.length - (intOf i).toNat)
            case atStart => exact ⟨0, Nat.zero_le _, rfl, by rw [List.take_zero]; rfl, by rw [List.take_zero]; rfl, Below.refl _ _⟩
            case round =>
              obtain ⟨k, hk, rfl, rfl, rfl, hbl⟩ := hrel
              by_cases hkl : k < ls.length
              · have hkp : k < ps.length := by rw [hpl.out]; exact hkl
                go_wp2_with fail
                go_loopw [22, 25] (fun o i wr => ∃ j : Nat, j ≤ X.length ∧ i = .int .i64 j ∧ o = .int .i64 (costP (lps.take k) X + timesP (ls[k], ps[k]) (X.take j)) ∧ Below w7.heap.size w7 wr) (fun _ i _ => X.length - (intOf i).toNat)
                case atStart => exact ⟨0, Nat.zero_le _, rfl, by rw [List.take_zero, timesP_nil, Int.add_zero], hbl⟩
                case round =>
                  clear hbl
                  obtain ⟨j, hj, rfl, rfl, hbl⟩ := hrel
                  by_cases hjl : j < X.length
                  · have hXr := hA7.below hbl
                    have hLr := hA1.below hbl
                    have hPr := hAP.below hbl
                    obtain ⟨bx, ox, rfl⟩ := hXr.addr hjl
                    obtain ⟨bp, op, rfl⟩ := hPr.addr hkp
                    have d0 := rg (hXr.int hjl)
                    have d1 := rg (hLr.int hkl)
                    rw [Nat.zero_add] at d1
                    have b0 := CX.out k j hkl hkp
                    have b1 := CX.out k (j + 1) hkl hkp
                    have hst := Lib.hid (timesP_take (lp := (ls[k], ps[k])) hjl)
                    obtain ⟨wo, hwo⟩ : ∃ wo : World, wo = wr := ⟨_, rfl⟩
                    subst hwo
                    have hb := Below.refl wo.heap.size wo
                    cases hq2 : (X[j] == ls[k]) with
                    | true =>
                      have hst2 : Hid (timesP (ls[k], ps[k]) (X.take (j + 1)) = timesP (ls[k], ps[k]) (X.take j) + ps[k]) := Lib.hid (by rw [hst.out, if_pos (by simpa using hq2)])
                      rw [hst2.out] at b1
                      generalize hO : costP (lps.take k) X + timesP (ls[k], ps[k]) (X.take j) = O at b0 ⊢
                      have b2 : 0 ≤ O + ps[k] ∧ O + ps[k] ≤ 1000000 := by omega
                      clear b1
                      replace hO := Lib.hid hO
                      go_wp2_with fail
                      refine wp_region_quiet_below (by kernel_rfl) (by kernel_rfl) ?_
                      repeat (go_big_quiet_step ((fail)))
                      refine wpQuiet_nil ?_
                      intro w2 hw'
                      replace hb := upw hb (grown_of hw')
                      have hw2 := grown_of hw'
                      clear hw'
                      have d2 := (hPr.below hw2).int hkp
                      clear hw2
                      go_wp2_with fail
                      go_roundw
                      case rel => exact ⟨j + 1, by omega, by go_num, by rw [hst2.out, ← hO.out, Int.add_assoc], upw hbl hb⟩
                      case measure => simp [intOf]; omega
                    | false =>
                      have hst2 : Hid (timesP (ls[k], ps[k]) (X.take (j + 1)) = timesP (ls[k], ps[k]) (X.take j)) := Lib.hid (by rw [hst.out, if_neg (by simpa using hq2), Int.add_zero])
                      generalize hO : costP (lps.take k) X + timesP (ls[k], ps[k]) (X.take j) = O at b0 b1 ⊢
                      clear b1
                      replace hO := Lib.hid hO
                      go_wp2_with fail
                      refine wp_region_quiet_below (by kernel_rfl) (by kernel_rfl) ?_
                      repeat (go_big_quiet_step ((fail)))
                      refine wpQuiet_nil ?_
                      intro w2 hw'
                      replace hb := upw hb (grown_of hw')
                      clear hw'
                      go_wp2_with fail
                      go_roundw
                      case rel => exact ⟨j + 1, by omega, by go_num, by rw [hst2.out, hO.out], upw hbl hb⟩
                      case measure => simp [intOf]; omega
                  · obtain rfl : j = X.length := by omega
                    have hfull : Hid (costP (lps.take k) X + timesP (ls[k], ps[k]) (X.take X.length) = costP (lps.take (k + 1)) X) := Lib.hid (by rw [List.take_length, costP_take (by rw [HZ.out]; exact hkl), HG.out k hkl hkp])
                    rw [hfull.out]
                    clear hfull
                    go_wp2_with fail
                    go_loopw [23, 26] (fun o i wr => ∃ j : Nat, j ≤ D.length ∧ i = .int .i64 j ∧ o = .int .i64 (costP (lps.take k) D + timesP (ls[k], ps[k]) (D.take j)) ∧ Below w7.heap.size w7 wr) (fun _ i _ => D.length - (intOf i).toNat)
                    case atStart => exact ⟨0, Nat.zero_le _, rfl, by rw [List.take_zero, timesP_nil, Int.add_zero], hbl⟩
                    case round =>
                      clear hbl
                      obtain ⟨j, hj, rfl, rfl, hbl⟩ := hrel
                      by_cases hjl : j < D.length
                      · have hXr := hA2.below hbl
                        have hLr := hA1.below hbl
                        have hPr := hAP.below hbl
                        obtain ⟨bx, ox, rfl⟩ := hXr.addr hjl
                        obtain ⟨bp, op, rfl⟩ := hPr.addr hkp
                        have d0 := rg (hXr.int hjl)
                        have d1 := rg (hLr.int hkl)
                        rw [Nat.zero_add] at d1
                        have b0 := CD.out k j hkl hkp
                        have b1 := CD.out k (j + 1) hkl hkp
                        have hst := Lib.hid (timesP_take (lp := (ls[k], ps[k])) hjl)
                        obtain ⟨wo, hwo⟩ : ∃ wo : World, wo = wr := ⟨_, rfl⟩
                        subst hwo
                        have hb := Below.refl wo.heap.size wo
                        cases hq2 : (D[j] == ls[k]) with
                        | true =>
                          have hst2 : Hid (timesP (ls[k], ps[k]) (D.take (j + 1)) = timesP (ls[k], ps[k]) (D.take j) + ps[k]) := Lib.hid (by rw [hst.out, if_pos (by simpa using hq2)])
                          rw [hst2.out] at b1
                          generalize hO : costP (lps.take k) D + timesP (ls[k], ps[k]) (D.take j) = O at b0 ⊢
                          have b2 : 0 ≤ O + ps[k] ∧ O + ps[k] ≤ 1000000 := by omega
                          clear b1
                          replace hO := Lib.hid hO
                          go_wp2_with fail
                          refine wp_region_quiet_below (by kernel_rfl) (by kernel_rfl) ?_
                          repeat (go_big_quiet_step ((fail)))
                          refine wpQuiet_nil ?_
                          intro w2 hw'
                          replace hb := upw hb (grown_of hw')
                          have hw2 := grown_of hw'
                          clear hw'
                          have d2 := (hPr.below hw2).int hkp
                          clear hw2
                          go_wp2_with fail
                          go_roundw
                          case rel => exact ⟨j + 1, by omega, by go_num, by rw [hst2.out, ← hO.out, Int.add_assoc], upw hbl hb⟩
                          case measure => simp [intOf]; omega
                        | false =>
                          have hst2 : Hid (timesP (ls[k], ps[k]) (D.take (j + 1)) = timesP (ls[k], ps[k]) (D.take j)) := Lib.hid (by rw [hst.out, if_neg (by simpa using hq2), Int.add_zero])
                          generalize hO : costP (lps.take k) D + timesP (ls[k], ps[k]) (D.take j) = O at b0 b1 ⊢
                          clear b1
                          replace hO := Lib.hid hO
                          go_wp2_with fail
                          refine wp_region_quiet_below (by kernel_rfl) (by kernel_rfl) ?_
                          repeat (go_big_quiet_step ((fail)))
                          refine wpQuiet_nil ?_
                          intro w2 hw'
                          replace hb := upw hb (grown_of hw')
                          clear hw'
                          go_wp2_with fail
                          go_roundw
                          case rel => exact ⟨j + 1, by omega, by go_num, by rw [hst2.out, hO.out], upw hbl hb⟩
                          case measure => simp [intOf]; omega
                      · obtain rfl : j = D.length := by omega
                        have hfull : Hid (costP (lps.take k) D + timesP (ls[k], ps[k]) (D.take D.length) = costP (lps.take (k + 1)) D) := Lib.hid (by rw [List.take_length, costP_take (by rw [HZ.out]; exact hkl), HG.out k hkl hkp])
                        rw [hfull.out]
                        clear hfull
                        go_wp2_with fail
                        go_roundw
                        case rel => exact ⟨k + 1, by omega, by go_num, rfl, rfl, hbl⟩
                        case measure => simp [intOf]; omega
              · obtain rfl : k = ls.length := by omega
                have e1 : Hid (costP (lps.take ls.length) X = pr) := Lib.hid (by rw [← HZ.out, List.take_length]; exact cX0.out)
                have e2 : Hid (costP (lps.take ls.length) D = TD) := Lib.hid (by rw [← HZ.out, List.take_length, hTD.out])
                rw [e1.out, e2.out]
                have hle2 : pr ≤ TD := hble
                by_cases h1 : pr < TD
                · go_wp2_with fail
                  go_ret
                  exact ⟨rfl, upw hb hbl⟩
                · have h2 : X.length ≤ D.length := by have := hblt.out; omega
                  go_wp2_with fail
                  go_ret
                  exact ⟨by simp [h2], upw hb hbl⟩
        --END
      · have hl1 : ls.length = 1 := by omega
        have hz : nbl (ls.take (ls.length - 1)) s = 0 := by
          rw [hl1]; show nbl [] s = 0
          rw [nbl_nil]; unfold nbl0; rw [if_neg (by omega)]
        rw [hz] at hsplit
        have hsB : ((N : Int) != (N1 : Int)) = false := by have := hsplit.out; simp; omega
        have hs0 : ((s : Int) == 0) = false := by simp; omega
        clear hl1 hz hsp1
        go_wp2_with fail
        --BLOCK w4 8
        have hb0 : Below w4.heap.size w4 (w4.alloc (.cells #[] 2)) := (Below.refl _ _).alloc (Nat.le_refl _) _
        have hN0 := own_new (α := Int) w4 2
        go_wp2_with fail
        go_loopw [17, 18] (fun v i wr => ∃ (k : Nat) (ps : List Int), k ≤ ls.length ∧ i = .int .i64 k ∧ Hid (ps.length = k ∧ ∀ p ∈ ps, 0 ≤ p ∧ p ≤ 8) ∧ Own w4.heap.size wr 2 v ps ∧ Below w4.heap.size w4 wr) (fun _ i _ => ls.length - (intOf i).toNat)
        case atStart => exact ⟨0, [], Nat.zero_le _, rfl, Lib.hid ⟨rfl, by simp⟩, hN0, hb0⟩
        case round =>
          clear hb0 hN0
          obtain ⟨k, ps, hk, rfl, hPS, hOP, hbl⟩ := hrel
          by_cases hlt : k < ls.length
          · have hal := a2At_c a' M c' (20 + k) 9 wr (hy.below hbl) hM3 (by omega) (by omega) (by omega)
            rw [show ((20 + k : Nat) : Int) = 20 + (k : Int) by omega] at hal
            have hpl2 := hPS.out.1
            have hpl : ps.length ≤ 4 := by omega
            clear hpl2
            obtain ⟨wo, hwo⟩ : ∃ wo : World, wo = wr := ⟨_, rfl⟩
            subst hwo
            have hsz := hbl.size
            obtain ⟨av, cv, rfl, _⟩ := hOP.at
            go_wp2_with (first | (go_at_call 29; refine hal.mono ?_; rintro e w8 ⟨p, rfl, p0, p1, rfl⟩) | (at_builtin; refine wpList_push rfl (.tmp 100) (.tmp 105) 22 rfl w4.heap.size 2 (.int .i64 0) 8 Try.underlying22 infoInt rfl _ ps p rfl (hOP.later ((Below.refl _ _).alloc (Nat.le_refl _) _)) _ _ rfl 2 (heap_alloc_new _ _) (by omega) (by decide) (by simp; omega) ?_; intro v1 w4 hO1 hg1))
            go_roundw
            case rel =>
              refine ⟨k + 1, ps ++ [p], by omega, by go_num, Lib.hid ⟨by have := hPS.out.1; simp; omega, fun x hx => ?_⟩, hO1, below_mark (hbl.alloc hsz _) (hOP.later ((Below.refl _ _).alloc (Nat.le_refl _) _)) (Nat.le_refl _) hg1⟩
              rcases List.mem_append.1 hx with hx | hx
              · exact hPS.out.2 x hx
              · rw [List.mem_singleton] at hx; omega
            case measure => simp [intOf]; omega
          · obtain rfl : k = ls.length := by omega
            have hPO : PriceOk ls ps := ⟨hPS.out.1, fun i hi => by have := hPS.out.2 _ (List.getElem_mem hi); omega⟩
            have hpl := Lib.hid hPS.out.1
            have hP8 := Lib.hid hPS.out.2
            obtain ⟨lps, hlps⟩ : ∃ lps, lps = ls.zip ps := ⟨_, rfl⟩
            have hfst : lps.map (·.1) = ls := by rw [hlps]; exact List.map_fst_zip (by rw [hpl.out]; exact Nat.le_refl _)
            have hlpp : ∀ lp ∈ lps, 1 ≤ lp.1 ∧ 0 ≤ lp.2 ∧ lp.2 ≤ 8 := fun lp hm => by
              rw [hlps] at hm
              exact ⟨hpos _ (List.of_mem_zip hm).1, hP8.out _ (List.of_mem_zip hm).2⟩
            obtain ⟨b, hbb, hbs, hbc, hble, hblt⟩ := bld_cheapest (lps := lps) (by rw [hfst]; exact rises_nodup hD.rises) (fun lp hm => (hlpp lp hm).1) (D := D) (fun x hx => by rw [hfst]; exact hDm.out x hx)
            rw [hs.out] at hbb hbs
            rw [Int.toNat_natCast] at hbb
            have hbi := bld_is _ _ _ hbb
            have hbm : ∀ x ∈ b.layers, x ∈ ls := fun x hx => by obtain ⟨lp, hm, e, _⟩ := isBld_mem hbi x hx; rw [← hfst, ← e]; exact List.mem_map.2 ⟨lp, hm, rfl⟩
            have hblen := isBld_length hbi
            have hbpr := isBld_price (M := 8) (by omega) (fun lp hm => (hlpp lp hm).2) hbi
            rw [hlps] at hbb
            obtain ⟨ap, cp, ev, hAP⟩ := hOP.at
            subst ev
            obtain ⟨pr, X⟩ := b
            simp only at hbs hbc hble hblt hbm hblen hbpr
            have hXe := Lib.hid (fun x hx => (by have := hD.pos x (hbm x hx); omega : -1000000 ≤ x ∧ x ≤ 1000000))
            have HZ : Hid (lps.length = ls.length) := Lib.hid (by rw [hlps, List.length_zip, hpl.out]; omega)
            have HG : Hid (∀ k (h : k < ls.length) (h1 : k < ps.length), ∀ (h2 : k < lps.length), lps[k] = (ls[k], ps[k])) := Lib.hid fun k h h1 h2 => by simp only [hlps]; rw [List.getElem_zip]
            have hl3 : Hid (∀ k (Y : List Int) j, k < ls.length → k < ps.length → Y.length ≤ 1000 → ∀ (h : k < ls.length) (h1 : k < ps.length), 0 ≤ costP (lps.take k) Y + timesP (ls[k], ps[k]) (Y.take j) ∧ costP (lps.take k) Y + timesP (ls[k], ps[k]) (Y.take j) ≤ 900000 ∧ 0 ≤ ps[k] ∧ ps[k] ≤ 8) := Lib.hid fun k Y j _ _ hY h h1 => by
              have h2 := costP_bound (L := Y) hY (lps := lps.take k) (fun lp hm => (hlpp lp (List.mem_of_mem_take hm)).2)
              have h3 : (lps.take k).length ≤ 4 := by rw [List.length_take]; omega
              have h4 := hP8.out _ (List.getElem_mem h1)
              have h5 := timesP_bound (lp := (ls[k], ps[k])) h4 (Y.take j)
              have h6 : (Y.take j).length ≤ 1000 := by rw [List.length_take]; omega
              omega
            have CX := Lib.hid (fun k j (h : k < ls.length) (h1 : k < ps.length) => hl3.out k X j h h1 (by omega) h h1)
            have CD := Lib.hid (fun k j (h : k < ls.length) (h1 : k < ps.length) => hl3.out k D j h h1 (by omega) h h1)
            have cX0 : Hid (costP lps X = pr) := Lib.hid hbc
            clear hbc
            obtain ⟨TD, hTD⟩ : ∃ TD, TD = costP lps D := ⟨_, rfl⟩
            rw [← hTD] at hble hblt
            replace hTD := Lib.hid hTD
            replace hlps := Lib.hid hlps
            replace hlpp := Lib.hid hlpp
            replace hbm := Lib.hid hbm
            replace hfst := Lib.hid hfst
            have hch := cheapestBuild_c _ _ ls ps c1 cp s wr (hA1.below hbl) hAP hok hPO (by omega) _ hbb
            replace hblt := Lib.hid hblt
            replace hbb := Lib.hid hbb
            go_wp2_with (go_at_call 30; refine hch.mono ?_; rintro e w7 ⟨v7, rfl, hO7, hb7⟩; obtain ⟨a7, c7, rfl, hA7⟩ := hO7.at)
            have hsx := a2Sum_c a7 X c7 w7 hA7 (by omega) hXe.out
            rw [hbs] at hsx
            replace hA1 := (hA1.below hbl).below hb7
            replace hA2 := (hA2.below hbl).below hb7
            replace hAP := hAP.below hb7
            replace hb := upw (upw hb hbl) hb7
            replace hbs := Lib.hid hbs
            clear hch hO7 hOP hb7 hbl hPS
            have hfin : Hid (∀ q : Bool, (decide (pr < TD) || decide ((X.length : Int) ≤ D.length)) = true) := Lib.hid fun _ => by
              rcases hblt.out with h | h
              · simp [h]
              · have : (X.length : Int) ≤ D.length := by omega
                simp [this]
            go_wp2_with (go_at_call 27; refine hsx.mono ?_; rintro e w8 ⟨rfl, rfl⟩)
            go_loopw [22, 23, 24] (fun o t i wr => ∃ k : Nat, k ≤ ls.length ∧ i = .int .i64 k ∧ o = .int .i64 (costP (lps.take k) X) ∧ t = .int .i64 (costP (lps.take k) D) ∧ Below w7.heap.size w7 wr) (fun _ _ i _ => ls.length - (intOf i).toNat)
            case atStart => exact ⟨0, Nat.zero_le _, rfl, by rw [List.take_zero]; rfl, by rw [List.take_zero]; rfl, Below.refl _ _⟩
            case round =>
              obtain ⟨k, hk, rfl, rfl, rfl, hbl⟩ := hrel
              by_cases hkl : k < ls.length
              · have hkp : k < ps.length := by rw [hpl.out]; exact hkl
                go_wp2_with fail
                go_loopw [22, 25] (fun o i wr => ∃ j : Nat, j ≤ X.length ∧ i = .int .i64 j ∧ o = .int .i64 (costP (lps.take k) X + timesP (ls[k], ps[k]) (X.take j)) ∧ Below w7.heap.size w7 wr) (fun _ i _ => X.length - (intOf i).toNat)
                case atStart => exact ⟨0, Nat.zero_le _, rfl, by rw [List.take_zero, timesP_nil, Int.add_zero], hbl⟩
                case round =>
                  clear hbl
                  obtain ⟨j, hj, rfl, rfl, hbl⟩ := hrel
                  by_cases hjl : j < X.length
                  · have hXr := hA7.below hbl
                    have hLr := hA1.below hbl
                    have hPr := hAP.below hbl
                    obtain ⟨bx, ox, rfl⟩ := hXr.addr hjl
                    obtain ⟨bp, op, rfl⟩ := hPr.addr hkp
                    have d0 := rg (hXr.int hjl)
                    have d1 := rg (hLr.int hkl)
                    rw [Nat.zero_add] at d1
                    have b0 := CX.out k j hkl hkp
                    have b1 := CX.out k (j + 1) hkl hkp
                    have hst := Lib.hid (timesP_take (lp := (ls[k], ps[k])) hjl)
                    obtain ⟨wo, hwo⟩ : ∃ wo : World, wo = wr := ⟨_, rfl⟩
                    subst hwo
                    have hb := Below.refl wo.heap.size wo
                    cases hq2 : (X[j] == ls[k]) with
                    | true =>
                      have hst2 : Hid (timesP (ls[k], ps[k]) (X.take (j + 1)) = timesP (ls[k], ps[k]) (X.take j) + ps[k]) := Lib.hid (by rw [hst.out, if_pos (by simpa using hq2)])
                      rw [hst2.out] at b1
                      generalize hO : costP (lps.take k) X + timesP (ls[k], ps[k]) (X.take j) = O at b0 ⊢
                      have b2 : 0 ≤ O + ps[k] ∧ O + ps[k] ≤ 1000000 := by omega
                      clear b1
                      replace hO := Lib.hid hO
                      go_wp2_with fail
                      refine wp_region_quiet_below (by kernel_rfl) (by kernel_rfl) ?_
                      repeat (go_big_quiet_step ((fail)))
                      refine wpQuiet_nil ?_
                      intro w2 hw'
                      replace hb := upw hb (grown_of hw')
                      have hw2 := grown_of hw'
                      clear hw'
                      have d2 := (hPr.below hw2).int hkp
                      clear hw2
                      go_wp2_with fail
                      go_roundw
                      case rel => exact ⟨j + 1, by omega, by go_num, by rw [hst2.out, ← hO.out, Int.add_assoc], upw hbl hb⟩
                      case measure => simp [intOf]; omega
                    | false =>
                      have hst2 : Hid (timesP (ls[k], ps[k]) (X.take (j + 1)) = timesP (ls[k], ps[k]) (X.take j)) := Lib.hid (by rw [hst.out, if_neg (by simpa using hq2), Int.add_zero])
                      generalize hO : costP (lps.take k) X + timesP (ls[k], ps[k]) (X.take j) = O at b0 b1 ⊢
                      clear b1
                      replace hO := Lib.hid hO
                      go_wp2_with fail
                      refine wp_region_quiet_below (by kernel_rfl) (by kernel_rfl) ?_
                      repeat (go_big_quiet_step ((fail)))
                      refine wpQuiet_nil ?_
                      intro w2 hw'
                      replace hb := upw hb (grown_of hw')
                      clear hw'
                      go_wp2_with fail
                      go_roundw
                      case rel => exact ⟨j + 1, by omega, by go_num, by rw [hst2.out, hO.out], upw hbl hb⟩
                      case measure => simp [intOf]; omega
                  · obtain rfl : j = X.length := by omega
                    have hfull : Hid (costP (lps.take k) X + timesP (ls[k], ps[k]) (X.take X.length) = costP (lps.take (k + 1)) X) := Lib.hid (by rw [List.take_length, costP_take (by rw [HZ.out]; exact hkl), HG.out k hkl hkp])
                    rw [hfull.out]
                    clear hfull
                    go_wp2_with fail
                    go_loopw [23, 26] (fun o i wr => ∃ j : Nat, j ≤ D.length ∧ i = .int .i64 j ∧ o = .int .i64 (costP (lps.take k) D + timesP (ls[k], ps[k]) (D.take j)) ∧ Below w7.heap.size w7 wr) (fun _ i _ => D.length - (intOf i).toNat)
                    case atStart => exact ⟨0, Nat.zero_le _, rfl, by rw [List.take_zero, timesP_nil, Int.add_zero], hbl⟩
                    case round =>
                      clear hbl
                      obtain ⟨j, hj, rfl, rfl, hbl⟩ := hrel
                      by_cases hjl : j < D.length
                      · have hXr := hA2.below hbl
                        have hLr := hA1.below hbl
                        have hPr := hAP.below hbl
                        obtain ⟨bx, ox, rfl⟩ := hXr.addr hjl
                        obtain ⟨bp, op, rfl⟩ := hPr.addr hkp
                        have d0 := rg (hXr.int hjl)
                        have d1 := rg (hLr.int hkl)
                        rw [Nat.zero_add] at d1
                        have b0 := CD.out k j hkl hkp
                        have b1 := CD.out k (j + 1) hkl hkp
                        have hst := Lib.hid (timesP_take (lp := (ls[k], ps[k])) hjl)
                        obtain ⟨wo, hwo⟩ : ∃ wo : World, wo = wr := ⟨_, rfl⟩
                        subst hwo
                        have hb := Below.refl wo.heap.size wo
                        cases hq2 : (D[j] == ls[k]) with
                        | true =>
                          have hst2 : Hid (timesP (ls[k], ps[k]) (D.take (j + 1)) = timesP (ls[k], ps[k]) (D.take j) + ps[k]) := Lib.hid (by rw [hst.out, if_pos (by simpa using hq2)])
                          rw [hst2.out] at b1
                          generalize hO : costP (lps.take k) D + timesP (ls[k], ps[k]) (D.take j) = O at b0 ⊢
                          have b2 : 0 ≤ O + ps[k] ∧ O + ps[k] ≤ 1000000 := by omega
                          clear b1
                          replace hO := Lib.hid hO
                          go_wp2_with fail
                          refine wp_region_quiet_below (by kernel_rfl) (by kernel_rfl) ?_
                          repeat (go_big_quiet_step ((fail)))
                          refine wpQuiet_nil ?_
                          intro w2 hw'
                          replace hb := upw hb (grown_of hw')
                          have hw2 := grown_of hw'
                          clear hw'
                          have d2 := (hPr.below hw2).int hkp
                          clear hw2
                          go_wp2_with fail
                          go_roundw
                          case rel => exact ⟨j + 1, by omega, by go_num, by rw [hst2.out, ← hO.out, Int.add_assoc], upw hbl hb⟩
                          case measure => simp [intOf]; omega
                        | false =>
                          have hst2 : Hid (timesP (ls[k], ps[k]) (D.take (j + 1)) = timesP (ls[k], ps[k]) (D.take j)) := Lib.hid (by rw [hst.out, if_neg (by simpa using hq2), Int.add_zero])
                          generalize hO : costP (lps.take k) D + timesP (ls[k], ps[k]) (D.take j) = O at b0 b1 ⊢
                          clear b1
                          replace hO := Lib.hid hO
                          go_wp2_with fail
                          refine wp_region_quiet_below (by kernel_rfl) (by kernel_rfl) ?_
                          repeat (go_big_quiet_step ((fail)))
                          refine wpQuiet_nil ?_
                          intro w2 hw'
                          replace hb := upw hb (grown_of hw')
                          clear hw'
                          go_wp2_with fail
                          go_roundw
                          case rel => exact ⟨j + 1, by omega, by go_num, by rw [hst2.out, hO.out], upw hbl hb⟩
                          case measure => simp [intOf]; omega
                      · obtain rfl : j = D.length := by omega
                        have hfull : Hid (costP (lps.take k) D + timesP (ls[k], ps[k]) (D.take D.length) = costP (lps.take (k + 1)) D) := Lib.hid (by rw [List.take_length, costP_take (by rw [HZ.out]; exact hkl), HG.out k hkl hkp])
                        rw [hfull.out]
                        clear hfull
                        go_wp2_with fail
                        go_roundw
                        case rel => exact ⟨k + 1, by omega, by go_num, rfl, rfl, hbl⟩
                        case measure => simp [intOf]; omega
              · obtain rfl : k = ls.length := by omega
                have e1 : Hid (costP (lps.take ls.length) X = pr) := Lib.hid (by rw [← HZ.out, List.take_length]; exact cX0.out)
                have e2 : Hid (costP (lps.take ls.length) D = TD) := Lib.hid (by rw [← HZ.out, List.take_length, hTD.out])
                rw [e1.out, e2.out]
                have hle2 : pr ≤ TD := hble
                by_cases h1 : pr < TD
                · go_wp2_with fail
                  go_ret
                  exact ⟨rfl, upw hb hbl⟩
                · have h2 : X.length ≤ D.length := by have := hblt.out; omega
                  go_wp2_with fail
                  go_ret
                  exact ⟨by simp [h2], upw hb hbl⟩
        --END
    · have hqI : ¬ (q : Int) ≤ s := by omega
      rw [if_neg hqI] at hsplit
      clear cl
      replace hqI : (s : Int) < q := by omega
      have cl := hA1.int hll1
      rw [Nat.zero_add, hq.out] at cl
      by_cases h1n : 1 < ls.length
      · have hct := countBuilds_c (some ⟨g1, 0, none⟩) (ls.take (ls.length - 1)) c1 s w3 (hA1.take _) (layOk_take hD (by omega) (by omega)) (by omega) (drawn_counts (fun x hx => hpos x (List.mem_of_mem_take hx)) (by rw [List.length_take]; omega) hs1)
        rw [List.length_take, Nat.min_eq_left (Nat.sub_le _ _)] at hct
        obtain ⟨N2, hN2⟩ : ∃ N2, N2 = nbl (ls.take (ls.length - 1)) s := ⟨_, rfl⟩
        rw [← hN2] at hct hsplit
        have hsB : ((N : Int) != (N2 : Int)) = false := by have := hsplit.out; simp; omega
        have hN2b : (N2 : Int) ≤ N := by have := hsplit.out; omega
        replace hN2 := Lib.hid hN2
        go_wp2_with fail
        refine hct.mono ?_
        rintro e w5 ⟨rfl, hb5⟩
        replace hA1 := hA1.below hb5
        replace hA2 := hA2.below hb5
        replace hy := hy.below hb5
        replace hb := upw hb hb5
        clear hb5 hct cl
        --BLOCK w5 8
        have hb0 : Below w5.heap.size w5 (w5.alloc (.cells #[] 2)) := (Below.refl _ _).alloc (Nat.le_refl _) _
        have hN0 := own_new (α := Int) w5 2
        go_wp2_with fail
        go_loopw [17, 18] (fun v i wr => ∃ (k : Nat) (ps : List Int), k ≤ ls.length ∧ i = .int .i64 k ∧ Hid (ps.length = k ∧ ∀ p ∈ ps, 0 ≤ p ∧ p ≤ 8) ∧ Own w5.heap.size wr 2 v ps ∧ Below w5.heap.size w5 wr) (fun _ i _ => ls.length - (intOf i).toNat)
        case atStart => exact ⟨0, [], Nat.zero_le _, rfl, Lib.hid ⟨rfl, by simp⟩, hN0, hb0⟩
        case round =>
          clear hb0 hN0
          obtain ⟨k, ps, hk, rfl, hPS, hOP, hbl⟩ := hrel
          by_cases hlt : k < ls.length
          · have hal := a2At_c a' M c' (20 + k) 9 wr (hy.below hbl) hM3 (by omega) (by omega) (by omega)
            rw [show ((20 + k : Nat) : Int) = 20 + (k : Int) by omega] at hal
            have hpl2 := hPS.out.1
            have hpl : ps.length ≤ 4 := by omega
            clear hpl2
            obtain ⟨wo, hwo⟩ : ∃ wo : World, wo = wr := ⟨_, rfl⟩
            subst hwo
            have hsz := hbl.size
            obtain ⟨av, cv, rfl, _⟩ := hOP.at
            go_wp2_with (first | (go_at_call 29; refine hal.mono ?_; rintro e w8 ⟨p, rfl, p0, p1, rfl⟩) | (at_builtin; refine wpList_push rfl (.tmp 100) (.tmp 105) 22 rfl w5.heap.size 2 (.int .i64 0) 8 Try.underlying22 infoInt rfl _ ps p rfl (hOP.later ((Below.refl _ _).alloc (Nat.le_refl _) _)) _ _ rfl 2 (heap_alloc_new _ _) (by omega) (by decide) (by simp; omega) ?_; intro v1 w4 hO1 hg1))
            go_roundw
            case rel =>
              refine ⟨k + 1, ps ++ [p], by omega, by go_num, Lib.hid ⟨by have := hPS.out.1; simp; omega, fun x hx => ?_⟩, hO1, below_mark (hbl.alloc hsz _) (hOP.later ((Below.refl _ _).alloc (Nat.le_refl _) _)) (Nat.le_refl _) hg1⟩
              rcases List.mem_append.1 hx with hx | hx
              · exact hPS.out.2 x hx
              · rw [List.mem_singleton] at hx; omega
            case measure => simp [intOf]; omega
          · obtain rfl : k = ls.length := by omega
            have hPO : PriceOk ls ps := ⟨hPS.out.1, fun i hi => by have := hPS.out.2 _ (List.getElem_mem hi); omega⟩
            have hpl := Lib.hid hPS.out.1
            have hP8 := Lib.hid hPS.out.2
            obtain ⟨lps, hlps⟩ : ∃ lps, lps = ls.zip ps := ⟨_, rfl⟩
            have hfst : lps.map (·.1) = ls := by rw [hlps]; exact List.map_fst_zip (by rw [hpl.out]; exact Nat.le_refl _)
            have hlpp : ∀ lp ∈ lps, 1 ≤ lp.1 ∧ 0 ≤ lp.2 ∧ lp.2 ≤ 8 := fun lp hm => by
              rw [hlps] at hm
              exact ⟨hpos _ (List.of_mem_zip hm).1, hP8.out _ (List.of_mem_zip hm).2⟩
            obtain ⟨b, hbb, hbs, hbc, hble, hblt⟩ := bld_cheapest (lps := lps) (by rw [hfst]; exact rises_nodup hD.rises) (fun lp hm => (hlpp lp hm).1) (D := D) (fun x hx => by rw [hfst]; exact hDm.out x hx)
            rw [hs.out] at hbb hbs
            rw [Int.toNat_natCast] at hbb
            have hbi := bld_is _ _ _ hbb
            have hbm : ∀ x ∈ b.layers, x ∈ ls := fun x hx => by obtain ⟨lp, hm, e, _⟩ := isBld_mem hbi x hx; rw [← hfst, ← e]; exact List.mem_map.2 ⟨lp, hm, rfl⟩
            have hblen := isBld_length hbi
            have hbpr := isBld_price (M := 8) (by omega) (fun lp hm => (hlpp lp hm).2) hbi
            rw [hlps] at hbb
            obtain ⟨ap, cp, ev, hAP⟩ := hOP.at
            subst ev
            obtain ⟨pr, X⟩ := b
            simp only at hbs hbc hble hblt hbm hblen hbpr
            have hXe := Lib.hid (fun x hx => (by have := hD.pos x (hbm x hx); omega : -1000000 ≤ x ∧ x ≤ 1000000))
            have HZ : Hid (lps.length = ls.length) := Lib.hid (by rw [hlps, List.length_zip, hpl.out]; omega)
            have HG : Hid (∀ k (h : k < ls.length) (h1 : k < ps.length), ∀ (h2 : k < lps.length), lps[k] = (ls[k], ps[k])) := Lib.hid fun k h h1 h2 => by simp only [hlps]; rw [List.getElem_zip]
            have hl3 : Hid (∀ k (Y : List Int) j, k < ls.length → k < ps.length → Y.length ≤ 1000 → ∀ (h : k < ls.length) (h1 : k < ps.length), 0 ≤ costP (lps.take k) Y + timesP (ls[k], ps[k]) (Y.take j) ∧ costP (lps.take k) Y + timesP (ls[k], ps[k]) (Y.take j) ≤ 900000 ∧ 0 ≤ ps[k] ∧ ps[k] ≤ 8) := Lib.hid fun k Y j _ _ hY h h1 => by
              have h2 := costP_bound (L := Y) hY (lps := lps.take k) (fun lp hm => (hlpp lp (List.mem_of_mem_take hm)).2)
              have h3 : (lps.take k).length ≤ 4 := by rw [List.length_take]; omega
              have h4 := hP8.out _ (List.getElem_mem h1)
              have h5 := timesP_bound (lp := (ls[k], ps[k])) h4 (Y.take j)
              have h6 : (Y.take j).length ≤ 1000 := by rw [List.length_take]; omega
              omega
            have CX := Lib.hid (fun k j (h : k < ls.length) (h1 : k < ps.length) => hl3.out k X j h h1 (by omega) h h1)
            have CD := Lib.hid (fun k j (h : k < ls.length) (h1 : k < ps.length) => hl3.out k D j h h1 (by omega) h h1)
            have cX0 : Hid (costP lps X = pr) := Lib.hid hbc
            clear hbc
            obtain ⟨TD, hTD⟩ : ∃ TD, TD = costP lps D := ⟨_, rfl⟩
            rw [← hTD] at hble hblt
            replace hTD := Lib.hid hTD
            replace hlps := Lib.hid hlps
            replace hlpp := Lib.hid hlpp
            replace hbm := Lib.hid hbm
            replace hfst := Lib.hid hfst
            have hch := cheapestBuild_c _ _ ls ps c1 cp s wr (hA1.below hbl) hAP hok hPO (by omega) _ hbb
            replace hblt := Lib.hid hblt
            replace hbb := Lib.hid hbb
            go_wp2_with (go_at_call 30; refine hch.mono ?_; rintro e w7 ⟨v7, rfl, hO7, hb7⟩; obtain ⟨a7, c7, rfl, hA7⟩ := hO7.at)
            have hsx := a2Sum_c a7 X c7 w7 hA7 (by omega) hXe.out
            rw [hbs] at hsx
            replace hA1 := (hA1.below hbl).below hb7
            replace hA2 := (hA2.below hbl).below hb7
            replace hAP := hAP.below hb7
            replace hb := upw (upw hb hbl) hb7
            replace hbs := Lib.hid hbs
            clear hch hO7 hOP hb7 hbl hPS
            have hfin : Hid (∀ q : Bool, (decide (pr < TD) || decide ((X.length : Int) ≤ D.length)) = true) := Lib.hid fun _ => by
              rcases hblt.out with h | h
              · simp [h]
              · have : (X.length : Int) ≤ D.length := by omega
                simp [this]
            go_wp2_with (go_at_call 27; refine hsx.mono ?_; rintro e w8 ⟨rfl, rfl⟩)
            go_loopw [22, 23, 24] (fun o t i wr => ∃ k : Nat, k ≤ ls.length ∧ i = .int .i64 k ∧ o = .int .i64 (costP (lps.take k) X) ∧ t = .int .i64 (costP (lps.take k) D) ∧ Below w7.heap.size w7 wr) (fun _ _ i _ => ls.length - (intOf i).toNat)
            case atStart => exact ⟨0, Nat.zero_le _, rfl, by rw [List.take_zero]; rfl, by rw [List.take_zero]; rfl, Below.refl _ _⟩
            case round =>
              obtain ⟨k, hk, rfl, rfl, rfl, hbl⟩ := hrel
              by_cases hkl : k < ls.length
              · have hkp : k < ps.length := by rw [hpl.out]; exact hkl
                go_wp2_with fail
                go_loopw [22, 25] (fun o i wr => ∃ j : Nat, j ≤ X.length ∧ i = .int .i64 j ∧ o = .int .i64 (costP (lps.take k) X + timesP (ls[k], ps[k]) (X.take j)) ∧ Below w7.heap.size w7 wr) (fun _ i _ => X.length - (intOf i).toNat)
                case atStart => exact ⟨0, Nat.zero_le _, rfl, by rw [List.take_zero, timesP_nil, Int.add_zero], hbl⟩
                case round =>
                  clear hbl
                  obtain ⟨j, hj, rfl, rfl, hbl⟩ := hrel
                  by_cases hjl : j < X.length
                  · have hXr := hA7.below hbl
                    have hLr := hA1.below hbl
                    have hPr := hAP.below hbl
                    obtain ⟨bx, ox, rfl⟩ := hXr.addr hjl
                    obtain ⟨bp, op, rfl⟩ := hPr.addr hkp
                    have d0 := rg (hXr.int hjl)
                    have d1 := rg (hLr.int hkl)
                    rw [Nat.zero_add] at d1
                    have b0 := CX.out k j hkl hkp
                    have b1 := CX.out k (j + 1) hkl hkp
                    have hst := Lib.hid (timesP_take (lp := (ls[k], ps[k])) hjl)
                    obtain ⟨wo, hwo⟩ : ∃ wo : World, wo = wr := ⟨_, rfl⟩
                    subst hwo
                    have hb := Below.refl wo.heap.size wo
                    cases hq2 : (X[j] == ls[k]) with
                    | true =>
                      have hst2 : Hid (timesP (ls[k], ps[k]) (X.take (j + 1)) = timesP (ls[k], ps[k]) (X.take j) + ps[k]) := Lib.hid (by rw [hst.out, if_pos (by simpa using hq2)])
                      rw [hst2.out] at b1
                      generalize hO : costP (lps.take k) X + timesP (ls[k], ps[k]) (X.take j) = O at b0 ⊢
                      have b2 : 0 ≤ O + ps[k] ∧ O + ps[k] ≤ 1000000 := by omega
                      clear b1
                      replace hO := Lib.hid hO
                      go_wp2_with fail
                      refine wp_region_quiet_below (by kernel_rfl) (by kernel_rfl) ?_
                      repeat (go_big_quiet_step ((fail)))
                      refine wpQuiet_nil ?_
                      intro w2 hw'
                      replace hb := upw hb (grown_of hw')
                      have hw2 := grown_of hw'
                      clear hw'
                      have d2 := (hPr.below hw2).int hkp
                      clear hw2
                      go_wp2_with fail
                      go_roundw
                      case rel => exact ⟨j + 1, by omega, by go_num, by rw [hst2.out, ← hO.out, Int.add_assoc], upw hbl hb⟩
                      case measure => simp [intOf]; omega
                    | false =>
                      have hst2 : Hid (timesP (ls[k], ps[k]) (X.take (j + 1)) = timesP (ls[k], ps[k]) (X.take j)) := Lib.hid (by rw [hst.out, if_neg (by simpa using hq2), Int.add_zero])
                      generalize hO : costP (lps.take k) X + timesP (ls[k], ps[k]) (X.take j) = O at b0 b1 ⊢
                      clear b1
                      replace hO := Lib.hid hO
                      go_wp2_with fail
                      refine wp_region_quiet_below (by kernel_rfl) (by kernel_rfl) ?_
                      repeat (go_big_quiet_step ((fail)))
                      refine wpQuiet_nil ?_
                      intro w2 hw'
                      replace hb := upw hb (grown_of hw')
                      clear hw'
                      go_wp2_with fail
                      go_roundw
                      case rel => exact ⟨j + 1, by omega, by go_num, by rw [hst2.out, hO.out], upw hbl hb⟩
                      case measure => simp [intOf]; omega
                  · obtain rfl : j = X.length := by omega
                    have hfull : Hid (costP (lps.take k) X + timesP (ls[k], ps[k]) (X.take X.length) = costP (lps.take (k + 1)) X) := Lib.hid (by rw [List.take_length, costP_take (by rw [HZ.out]; exact hkl), HG.out k hkl hkp])
                    rw [hfull.out]
                    clear hfull
                    go_wp2_with fail
                    go_loopw [23, 26] (fun o i wr => ∃ j : Nat, j ≤ D.length ∧ i = .int .i64 j ∧ o = .int .i64 (costP (lps.take k) D + timesP (ls[k], ps[k]) (D.take j)) ∧ Below w7.heap.size w7 wr) (fun _ i _ => D.length - (intOf i).toNat)
                    case atStart => exact ⟨0, Nat.zero_le _, rfl, by rw [List.take_zero, timesP_nil, Int.add_zero], hbl⟩
                    case round =>
                      clear hbl
                      obtain ⟨j, hj, rfl, rfl, hbl⟩ := hrel
                      by_cases hjl : j < D.length
                      · have hXr := hA2.below hbl
                        have hLr := hA1.below hbl
                        have hPr := hAP.below hbl
                        obtain ⟨bx, ox, rfl⟩ := hXr.addr hjl
                        obtain ⟨bp, op, rfl⟩ := hPr.addr hkp
                        have d0 := rg (hXr.int hjl)
                        have d1 := rg (hLr.int hkl)
                        rw [Nat.zero_add] at d1
                        have b0 := CD.out k j hkl hkp
                        have b1 := CD.out k (j + 1) hkl hkp
                        have hst := Lib.hid (timesP_take (lp := (ls[k], ps[k])) hjl)
                        obtain ⟨wo, hwo⟩ : ∃ wo : World, wo = wr := ⟨_, rfl⟩
                        subst hwo
                        have hb := Below.refl wo.heap.size wo
                        cases hq2 : (D[j] == ls[k]) with
                        | true =>
                          have hst2 : Hid (timesP (ls[k], ps[k]) (D.take (j + 1)) = timesP (ls[k], ps[k]) (D.take j) + ps[k]) := Lib.hid (by rw [hst.out, if_pos (by simpa using hq2)])
                          rw [hst2.out] at b1
                          generalize hO : costP (lps.take k) D + timesP (ls[k], ps[k]) (D.take j) = O at b0 ⊢
                          have b2 : 0 ≤ O + ps[k] ∧ O + ps[k] ≤ 1000000 := by omega
                          clear b1
                          replace hO := Lib.hid hO
                          go_wp2_with fail
                          refine wp_region_quiet_below (by kernel_rfl) (by kernel_rfl) ?_
                          repeat (go_big_quiet_step ((fail)))
                          refine wpQuiet_nil ?_
                          intro w2 hw'
                          replace hb := upw hb (grown_of hw')
                          have hw2 := grown_of hw'
                          clear hw'
                          have d2 := (hPr.below hw2).int hkp
                          clear hw2
                          go_wp2_with fail
                          go_roundw
                          case rel => exact ⟨j + 1, by omega, by go_num, by rw [hst2.out, ← hO.out, Int.add_assoc], upw hbl hb⟩
                          case measure => simp [intOf]; omega
                        | false =>
                          have hst2 : Hid (timesP (ls[k], ps[k]) (D.take (j + 1)) = timesP (ls[k], ps[k]) (D.take j)) := Lib.hid (by rw [hst.out, if_neg (by simpa using hq2), Int.add_zero])
                          generalize hO : costP (lps.take k) D + timesP (ls[k], ps[k]) (D.take j) = O at b0 b1 ⊢
                          clear b1
                          replace hO := Lib.hid hO
                          go_wp2_with fail
                          refine wp_region_quiet_below (by kernel_rfl) (by kernel_rfl) ?_
                          repeat (go_big_quiet_step ((fail)))
                          refine wpQuiet_nil ?_
                          intro w2 hw'
                          replace hb := upw hb (grown_of hw')
                          clear hw'
                          go_wp2_with fail
                          go_roundw
                          case rel => exact ⟨j + 1, by omega, by go_num, by rw [hst2.out, hO.out], upw hbl hb⟩
                          case measure => simp [intOf]; omega
                      · obtain rfl : j = D.length := by omega
                        have hfull : Hid (costP (lps.take k) D + timesP (ls[k], ps[k]) (D.take D.length) = costP (lps.take (k + 1)) D) := Lib.hid (by rw [List.take_length, costP_take (by rw [HZ.out]; exact hkl), HG.out k hkl hkp])
                        rw [hfull.out]
                        clear hfull
                        go_wp2_with fail
                        go_roundw
                        case rel => exact ⟨k + 1, by omega, by go_num, rfl, rfl, hbl⟩
                        case measure => simp [intOf]; omega
              · obtain rfl : k = ls.length := by omega
                have e1 : Hid (costP (lps.take ls.length) X = pr) := Lib.hid (by rw [← HZ.out, List.take_length]; exact cX0.out)
                have e2 : Hid (costP (lps.take ls.length) D = TD) := Lib.hid (by rw [← HZ.out, List.take_length, hTD.out])
                rw [e1.out, e2.out]
                have hle2 : pr ≤ TD := hble
                by_cases h1 : pr < TD
                · go_wp2_with fail
                  go_ret
                  exact ⟨rfl, upw hb hbl⟩
                · have h2 : X.length ≤ D.length := by have := hblt.out; omega
                  go_wp2_with fail
                  go_ret
                  exact ⟨by simp [h2], upw hb hbl⟩
        --END
      · have hl1 : ls.length = 1 := by omega
        have hz : nbl (ls.take (ls.length - 1)) s = if s = 0 then 1 else 0 := by
          rw [hl1]; show nbl [] s = _
          rw [nbl_nil]; rfl
        rw [hz] at hsplit
        by_cases hs00 : s = 0
        · rw [if_pos hs00] at hsplit
          have hsB : ((N : Int) != 1) = false := by have := hsplit.out; simp; omega
          have hs0 : ((s : Int) == 0) = true := by simp; omega
          clear hl1 hz
          replace hs00 := Lib.hid hs00
          obtain ⟨w4, hw4⟩ : ∃ w4 : World, w4 = w3 := ⟨_, rfl⟩
          subst hw4
          go_wp2_with fail
          --BLOCK w4 10
          have hb0 : Below w4.heap.size w4 (w4.alloc (.cells #[] 2)) := (Below.refl _ _).alloc (Nat.le_refl _) _
          have hN0 := own_new (α := Int) w4 2
          go_wp2_with fail
          go_loopw [17, 18] (fun v i wr => ∃ (k : Nat) (ps : List Int), k ≤ ls.length ∧ i = .int .i64 k ∧ Hid (ps.length = k ∧ ∀ p ∈ ps, 0 ≤ p ∧ p ≤ 8) ∧ Own w4.heap.size wr 2 v ps ∧ Below w4.heap.size w4 wr) (fun _ i _ => ls.length - (intOf i).toNat)
          case atStart => exact ⟨0, [], Nat.zero_le _, rfl, Lib.hid ⟨rfl, by simp⟩, hN0, hb0⟩
          case round =>
            clear hb0 hN0
            obtain ⟨k, ps, hk, rfl, hPS, hOP, hbl⟩ := hrel
            by_cases hlt : k < ls.length
            · have hal := a2At_c a' M c' (20 + k) 9 wr (hy.below hbl) hM3 (by omega) (by omega) (by omega)
              rw [show ((20 + k : Nat) : Int) = 20 + (k : Int) by omega] at hal
              have hpl2 := hPS.out.1
              have hpl : ps.length ≤ 4 := by omega
              clear hpl2
              obtain ⟨wo, hwo⟩ : ∃ wo : World, wo = wr := ⟨_, rfl⟩
              subst hwo
              have hsz := hbl.size
              obtain ⟨av, cv, rfl, _⟩ := hOP.at
              go_wp2_with (first | (go_at_call 29; refine hal.mono ?_; rintro e w8 ⟨p, rfl, p0, p1, rfl⟩) | (at_builtin; refine wpList_push rfl (.tmp 100) (.tmp 105) 22 rfl w4.heap.size 2 (.int .i64 0) 8 Try.underlying22 infoInt rfl _ ps p rfl (hOP.later ((Below.refl _ _).alloc (Nat.le_refl _) _)) _ _ rfl 2 (heap_alloc_new _ _) (by omega) (by decide) (by simp; omega) ?_; intro v1 w4 hO1 hg1))
              go_roundw
              case rel =>
                refine ⟨k + 1, ps ++ [p], by omega, by go_num, Lib.hid ⟨by have := hPS.out.1; simp; omega, fun x hx => ?_⟩, hO1, below_mark (hbl.alloc hsz _) (hOP.later ((Below.refl _ _).alloc (Nat.le_refl _) _)) (Nat.le_refl _) hg1⟩
                rcases List.mem_append.1 hx with hx | hx
                · exact hPS.out.2 x hx
                · rw [List.mem_singleton] at hx; omega
              case measure => simp [intOf]; omega
            · obtain rfl : k = ls.length := by omega
              have hPO : PriceOk ls ps := ⟨hPS.out.1, fun i hi => by have := hPS.out.2 _ (List.getElem_mem hi); omega⟩
              have hpl := Lib.hid hPS.out.1
              have hP8 := Lib.hid hPS.out.2
              obtain ⟨lps, hlps⟩ : ∃ lps, lps = ls.zip ps := ⟨_, rfl⟩
              have hfst : lps.map (·.1) = ls := by rw [hlps]; exact List.map_fst_zip (by rw [hpl.out]; exact Nat.le_refl _)
              have hlpp : ∀ lp ∈ lps, 1 ≤ lp.1 ∧ 0 ≤ lp.2 ∧ lp.2 ≤ 8 := fun lp hm => by
                rw [hlps] at hm
                exact ⟨hpos _ (List.of_mem_zip hm).1, hP8.out _ (List.of_mem_zip hm).2⟩
              obtain ⟨b, hbb, hbs, hbc, hble, hblt⟩ := bld_cheapest (lps := lps) (by rw [hfst]; exact rises_nodup hD.rises) (fun lp hm => (hlpp lp hm).1) (D := D) (fun x hx => by rw [hfst]; exact hDm.out x hx)
              rw [hs.out] at hbb hbs
              rw [Int.toNat_natCast] at hbb
              have hbi := bld_is _ _ _ hbb
              have hbm : ∀ x ∈ b.layers, x ∈ ls := fun x hx => by obtain ⟨lp, hm, e, _⟩ := isBld_mem hbi x hx; rw [← hfst, ← e]; exact List.mem_map.2 ⟨lp, hm, rfl⟩
              have hblen := isBld_length hbi
              have hbpr := isBld_price (M := 8) (by omega) (fun lp hm => (hlpp lp hm).2) hbi
              rw [hlps] at hbb
              obtain ⟨ap, cp, ev, hAP⟩ := hOP.at
              subst ev
              obtain ⟨pr, X⟩ := b
              simp only at hbs hbc hble hblt hbm hblen hbpr
              have hXe := Lib.hid (fun x hx => (by have := hD.pos x (hbm x hx); omega : -1000000 ≤ x ∧ x ≤ 1000000))
              have HZ : Hid (lps.length = ls.length) := Lib.hid (by rw [hlps, List.length_zip, hpl.out]; omega)
              have HG : Hid (∀ k (h : k < ls.length) (h1 : k < ps.length), ∀ (h2 : k < lps.length), lps[k] = (ls[k], ps[k])) := Lib.hid fun k h h1 h2 => by simp only [hlps]; rw [List.getElem_zip]
              have hl3 : Hid (∀ k (Y : List Int) j, k < ls.length → k < ps.length → Y.length ≤ 1000 → ∀ (h : k < ls.length) (h1 : k < ps.length), 0 ≤ costP (lps.take k) Y + timesP (ls[k], ps[k]) (Y.take j) ∧ costP (lps.take k) Y + timesP (ls[k], ps[k]) (Y.take j) ≤ 900000 ∧ 0 ≤ ps[k] ∧ ps[k] ≤ 8) := Lib.hid fun k Y j _ _ hY h h1 => by
                have h2 := costP_bound (L := Y) hY (lps := lps.take k) (fun lp hm => (hlpp lp (List.mem_of_mem_take hm)).2)
                have h3 : (lps.take k).length ≤ 4 := by rw [List.length_take]; omega
                have h4 := hP8.out _ (List.getElem_mem h1)
                have h5 := timesP_bound (lp := (ls[k], ps[k])) h4 (Y.take j)
                have h6 : (Y.take j).length ≤ 1000 := by rw [List.length_take]; omega
                omega
              have CX := Lib.hid (fun k j (h : k < ls.length) (h1 : k < ps.length) => hl3.out k X j h h1 (by omega) h h1)
              have CD := Lib.hid (fun k j (h : k < ls.length) (h1 : k < ps.length) => hl3.out k D j h h1 (by omega) h h1)
              have cX0 : Hid (costP lps X = pr) := Lib.hid hbc
              clear hbc
              obtain ⟨TD, hTD⟩ : ∃ TD, TD = costP lps D := ⟨_, rfl⟩
              rw [← hTD] at hble hblt
              replace hTD := Lib.hid hTD
              replace hlps := Lib.hid hlps
              replace hlpp := Lib.hid hlpp
              replace hbm := Lib.hid hbm
              replace hfst := Lib.hid hfst
              have hch := cheapestBuild_c _ _ ls ps c1 cp s wr (hA1.below hbl) hAP hok hPO (by omega) _ hbb
              replace hblt := Lib.hid hblt
              replace hbb := Lib.hid hbb
              go_wp2_with (go_at_call 30; refine hch.mono ?_; rintro e w7 ⟨v7, rfl, hO7, hb7⟩; obtain ⟨a7, c7, rfl, hA7⟩ := hO7.at)
              have hsx := a2Sum_c a7 X c7 w7 hA7 (by omega) hXe.out
              rw [hbs] at hsx
              replace hA1 := (hA1.below hbl).below hb7
              replace hA2 := (hA2.below hbl).below hb7
              replace hAP := hAP.below hb7
              replace hb := upw (upw hb hbl) hb7
              replace hbs := Lib.hid hbs
              clear hch hO7 hOP hb7 hbl hPS
              have hfin : Hid (∀ q : Bool, (decide (pr < TD) || decide ((X.length : Int) ≤ D.length)) = true) := Lib.hid fun _ => by
                rcases hblt.out with h | h
                · simp [h]
                · have : (X.length : Int) ≤ D.length := by omega
                  simp [this]
              go_wp2_with (go_at_call 27; refine hsx.mono ?_; rintro e w8 ⟨rfl, rfl⟩)
              go_loopw [22, 23, 24] (fun o t i wr => ∃ k : Nat, k ≤ ls.length ∧ i = .int .i64 k ∧ o = .int .i64 (costP (lps.take k) X) ∧ t = .int .i64 (costP (lps.take k) D) ∧ Below w7.heap.size w7 wr) (fun _ _ i _ => ls.length - (intOf i).toNat)
              case atStart => exact ⟨0, Nat.zero_le _, rfl, by rw [List.take_zero]; rfl, by rw [List.take_zero]; rfl, Below.refl _ _⟩
              case round =>
                obtain ⟨k, hk, rfl, rfl, rfl, hbl⟩ := hrel
                by_cases hkl : k < ls.length
                · have hkp : k < ps.length := by rw [hpl.out]; exact hkl
                  go_wp2_with fail
                  go_loopw [22, 25] (fun o i wr => ∃ j : Nat, j ≤ X.length ∧ i = .int .i64 j ∧ o = .int .i64 (costP (lps.take k) X + timesP (ls[k], ps[k]) (X.take j)) ∧ Below w7.heap.size w7 wr) (fun _ i _ => X.length - (intOf i).toNat)
                  case atStart => exact ⟨0, Nat.zero_le _, rfl, by rw [List.take_zero, timesP_nil, Int.add_zero], hbl⟩
                  case round =>
                    clear hbl
                    obtain ⟨j, hj, rfl, rfl, hbl⟩ := hrel
                    by_cases hjl : j < X.length
                    · have hXr := hA7.below hbl
                      have hLr := hA1.below hbl
                      have hPr := hAP.below hbl
                      obtain ⟨bx, ox, rfl⟩ := hXr.addr hjl
                      obtain ⟨bp, op, rfl⟩ := hPr.addr hkp
                      have d0 := rg (hXr.int hjl)
                      have d1 := rg (hLr.int hkl)
                      rw [Nat.zero_add] at d1
                      have b0 := CX.out k j hkl hkp
                      have b1 := CX.out k (j + 1) hkl hkp
                      have hst := Lib.hid (timesP_take (lp := (ls[k], ps[k])) hjl)
                      obtain ⟨wo, hwo⟩ : ∃ wo : World, wo = wr := ⟨_, rfl⟩
                      subst hwo
                      have hb := Below.refl wo.heap.size wo
                      cases hq2 : (X[j] == ls[k]) with
                      | true =>
                        have hst2 : Hid (timesP (ls[k], ps[k]) (X.take (j + 1)) = timesP (ls[k], ps[k]) (X.take j) + ps[k]) := Lib.hid (by rw [hst.out, if_pos (by simpa using hq2)])
                        rw [hst2.out] at b1
                        generalize hO : costP (lps.take k) X + timesP (ls[k], ps[k]) (X.take j) = O at b0 ⊢
                        have b2 : 0 ≤ O + ps[k] ∧ O + ps[k] ≤ 1000000 := by omega
                        clear b1
                        replace hO := Lib.hid hO
                        go_wp2_with fail
                        refine wp_region_quiet_below (by kernel_rfl) (by kernel_rfl) ?_
                        repeat (go_big_quiet_step ((fail)))
                        refine wpQuiet_nil ?_
                        intro w2 hw'
                        replace hb := upw hb (grown_of hw')
                        have hw2 := grown_of hw'
                        clear hw'
                        have d2 := (hPr.below hw2).int hkp
                        clear hw2
                        go_wp2_with fail
                        go_roundw
                        case rel => exact ⟨j + 1, by omega, by go_num, by rw [hst2.out, ← hO.out, Int.add_assoc], upw hbl hb⟩
                        case measure => simp [intOf]; omega
                      | false =>
                        have hst2 : Hid (timesP (ls[k], ps[k]) (X.take (j + 1)) = timesP (ls[k], ps[k]) (X.take j)) := Lib.hid (by rw [hst.out, if_neg (by simpa using hq2), Int.add_zero])
                        generalize hO : costP (lps.take k) X + timesP (ls[k], ps[k]) (X.take j) = O at b0 b1 ⊢
                        clear b1
                        replace hO := Lib.hid hO
                        go_wp2_with fail
                        refine wp_region_quiet_below (by kernel_rfl) (by kernel_rfl) ?_
                        repeat (go_big_quiet_step ((fail)))
                        refine wpQuiet_nil ?_
                        intro w2 hw'
                        replace hb := upw hb (grown_of hw')
                        clear hw'
                        go_wp2_with fail
                        go_roundw
                        case rel => exact ⟨j + 1, by omega, by go_num, by rw [hst2.out, hO.out], upw hbl hb⟩
                        case measure => simp [intOf]; omega
                    · obtain rfl : j = X.length := by omega
                      have hfull : Hid (costP (lps.take k) X + timesP (ls[k], ps[k]) (X.take X.length) = costP (lps.take (k + 1)) X) := Lib.hid (by rw [List.take_length, costP_take (by rw [HZ.out]; exact hkl), HG.out k hkl hkp])
                      rw [hfull.out]
                      clear hfull
                      go_wp2_with fail
                      go_loopw [23, 26] (fun o i wr => ∃ j : Nat, j ≤ D.length ∧ i = .int .i64 j ∧ o = .int .i64 (costP (lps.take k) D + timesP (ls[k], ps[k]) (D.take j)) ∧ Below w7.heap.size w7 wr) (fun _ i _ => D.length - (intOf i).toNat)
                      case atStart => exact ⟨0, Nat.zero_le _, rfl, by rw [List.take_zero, timesP_nil, Int.add_zero], hbl⟩
                      case round =>
                        clear hbl
                        obtain ⟨j, hj, rfl, rfl, hbl⟩ := hrel
                        by_cases hjl : j < D.length
                        · have hXr := hA2.below hbl
                          have hLr := hA1.below hbl
                          have hPr := hAP.below hbl
                          obtain ⟨bx, ox, rfl⟩ := hXr.addr hjl
                          obtain ⟨bp, op, rfl⟩ := hPr.addr hkp
                          have d0 := rg (hXr.int hjl)
                          have d1 := rg (hLr.int hkl)
                          rw [Nat.zero_add] at d1
                          have b0 := CD.out k j hkl hkp
                          have b1 := CD.out k (j + 1) hkl hkp
                          have hst := Lib.hid (timesP_take (lp := (ls[k], ps[k])) hjl)
                          obtain ⟨wo, hwo⟩ : ∃ wo : World, wo = wr := ⟨_, rfl⟩
                          subst hwo
                          have hb := Below.refl wo.heap.size wo
                          cases hq2 : (D[j] == ls[k]) with
                          | true =>
                            have hst2 : Hid (timesP (ls[k], ps[k]) (D.take (j + 1)) = timesP (ls[k], ps[k]) (D.take j) + ps[k]) := Lib.hid (by rw [hst.out, if_pos (by simpa using hq2)])
                            rw [hst2.out] at b1
                            generalize hO : costP (lps.take k) D + timesP (ls[k], ps[k]) (D.take j) = O at b0 ⊢
                            have b2 : 0 ≤ O + ps[k] ∧ O + ps[k] ≤ 1000000 := by omega
                            clear b1
                            replace hO := Lib.hid hO
                            go_wp2_with fail
                            refine wp_region_quiet_below (by kernel_rfl) (by kernel_rfl) ?_
                            repeat (go_big_quiet_step ((fail)))
                            refine wpQuiet_nil ?_
                            intro w2 hw'
                            replace hb := upw hb (grown_of hw')
                            have hw2 := grown_of hw'
                            clear hw'
                            have d2 := (hPr.below hw2).int hkp
                            clear hw2
                            go_wp2_with fail
                            go_roundw
                            case rel => exact ⟨j + 1, by omega, by go_num, by rw [hst2.out, ← hO.out, Int.add_assoc], upw hbl hb⟩
                            case measure => simp [intOf]; omega
                          | false =>
                            have hst2 : Hid (timesP (ls[k], ps[k]) (D.take (j + 1)) = timesP (ls[k], ps[k]) (D.take j)) := Lib.hid (by rw [hst.out, if_neg (by simpa using hq2), Int.add_zero])
                            generalize hO : costP (lps.take k) D + timesP (ls[k], ps[k]) (D.take j) = O at b0 b1 ⊢
                            clear b1
                            replace hO := Lib.hid hO
                            go_wp2_with fail
                            refine wp_region_quiet_below (by kernel_rfl) (by kernel_rfl) ?_
                            repeat (go_big_quiet_step ((fail)))
                            refine wpQuiet_nil ?_
                            intro w2 hw'
                            replace hb := upw hb (grown_of hw')
                            clear hw'
                            go_wp2_with fail
                            go_roundw
                            case rel => exact ⟨j + 1, by omega, by go_num, by rw [hst2.out, hO.out], upw hbl hb⟩
                            case measure => simp [intOf]; omega
                        · obtain rfl : j = D.length := by omega
                          have hfull : Hid (costP (lps.take k) D + timesP (ls[k], ps[k]) (D.take D.length) = costP (lps.take (k + 1)) D) := Lib.hid (by rw [List.take_length, costP_take (by rw [HZ.out]; exact hkl), HG.out k hkl hkp])
                          rw [hfull.out]
                          clear hfull
                          go_wp2_with fail
                          go_roundw
                          case rel => exact ⟨k + 1, by omega, by go_num, rfl, rfl, hbl⟩
                          case measure => simp [intOf]; omega
                · obtain rfl : k = ls.length := by omega
                  have e1 : Hid (costP (lps.take ls.length) X = pr) := Lib.hid (by rw [← HZ.out, List.take_length]; exact cX0.out)
                  have e2 : Hid (costP (lps.take ls.length) D = TD) := Lib.hid (by rw [← HZ.out, List.take_length, hTD.out])
                  rw [e1.out, e2.out]
                  have hle2 : pr ≤ TD := hble
                  by_cases h1 : pr < TD
                  · go_wp2_with fail
                    go_ret
                    exact ⟨rfl, upw hb hbl⟩
                  · have h2 : X.length ≤ D.length := by have := hblt.out; omega
                    go_wp2_with fail
                    go_ret
                    exact ⟨by simp [h2], upw hb hbl⟩
          --END
        · rw [if_neg hs00] at hsplit
          exfalso
          have := hsplit.out
          omega
end Go.Proofs.Ytokoallbhbgkkaa
