/- Chapter 3, sizes that are lost: the program's and the reference's. -/
import Derived.Test.YtlaclknhenccdaaW07
import Derived.Test.YtlaclknhenccdaaSep
import Derived.Test.YtlaclknhenccdaaMid6
namespace Go.Proofs.Ytlaclknhenccdaa
open Go.RowKit

def lostAt (x y : Scl) (h : Int) : Bool := !(((conv y x (conv x y h : Nat) : Nat) : Int) == h)
def lostTo (x y : Scl) (f : Int) : Nat → List Int
  | 0 => []
  | k + 1 => lostTo x y f k ++ if lostAt x y (f + k) then [f + k] else []
theorem lostTo_le (x y : Scl) (f : Int) : ∀ k, (lostTo x y f k).length ≤ k
  | 0 => Nat.le_refl _
  | k + 1 => by
    have := lostTo_le x y f k
    unfold lostTo
    split <;> simp <;> omega
def lsCode (x y : Scl) (f t : Int) : Int := if okScl x && okScl y then (if inr f 0 120 && inr t f 120 then 0 else 2) else 1
def lsRow (x y : Scl) (f t : Int) : List Int := if lsCode x y f t = 0 then lostTo x y f (t - f + 1).toNat else []
set_option maxHeartbeats 1600000 in
theorem implLostSizes_c (x y : Scl) (f t : Int) (w : World) (hs : x.name.size ≤ 9223372036854775807) (hs2 : y.name.size ≤ 9223372036854775807) :
    Calls Try.prog 23 #[.agg #[.string x.name, .int .i64 x.base, .int .i64 x.num, .int .i64 x.den], .agg #[.string y.name, .int .i64 y.base, .int .i64 y.num, .int .i64 y.den], .int .i64 f, .int .i64 t] w fun e w' => ∃ v, e = .returned (.tuple #[v, .int .i64 (lsCode x y f t)]) ∧ Own w.heap.size w' 2 v (lsRow x y f t) ∧ Below w.heap.size w w' := by
  obtain ⟨wa, hwa⟩ : ∃ wa, wa = w.alloc (.cells #[.string x.name, .int .i64 x.base, .int .i64 x.num, .int .i64 x.den] 42) := ⟨_, rfl⟩
  obtain ⟨w1, hw1⟩ : ∃ w1, w1 = wa.alloc (.cells #[.string y.name, .int .i64 y.base, .int .i64 y.num, .int .i64 y.den] 42) := ⟨_, rfl⟩
  have hsa : wa.heap.size = w.heap.size + 1 := by rw [hwa]; exact World.size_alloc _ _
  have Da : Sp w wa [ite' 42 (.slice (some ⟨w.heap.size, 0, none⟩) 4 4) (sclC x)] := by rw [hwa]; exact (Sp.refl w).add (newB w _) (own_sclC w _ x)
  have D : Sp w w1 [ite' 42 (.slice (some ⟨w.heap.size + 1, 0, none⟩) 4 4) (sclC y), ite' 42 (.slice (some ⟨w.heap.size, 0, none⟩) 4 4) (sclC x)] := by rw [← hsa, hw1]; exact Da.add (newB wa _) (own_sclC wa _ y)
  clear Da hsa
  replace hw1 := Lib.hid (hw1.trans (by rw [hwa]))
  clear hwa wa
  have hV := Lib.hid (implValidScale_c x w1 hs)
  have hV2 := Lib.hid (fun w' => implValidScale_c y w' hs2)
  obtain ⟨c0, c1, c2, c3⟩ := sclC_cells (D.get 1 rfl)
  obtain ⟨d0, d1, d2, d3⟩ := sclC_cells (D.get 0 rfl)
  clear hs hs2
  replace D := Lib.hid D
  have hb := D.out.up
  cases h1 : okScl x
  · have e0 : lsCode x y f t = 1 := by simp [lsCode, h1]
    have e1 : lsRow x y f t = [] := by simp [lsRow, e0]
    rw [e0, e1]
    clear e0 e1 D
    go_enter Try.func23, Try.ntmps23
    go_wp2_with (rw [← hw1.out])
    refine (as_boolB h1 hV.out).mono ?_
    rintro e w2 ⟨rfl, hb2⟩
    replace hb := upw hb hb2
    go_wp2_with fail
    go_ret2
    exact ⟨_, rfl, (show Own _ _ _ _ ([] : List Int) from ⟨by simp [flat], Or.inl ⟨rfl, rfl⟩⟩), hb⟩
  cases h2 : okScl y
  · have e0 : lsCode x y f t = 1 := by simp [lsCode, h2]
    have e1 : lsRow x y f t = [] := by simp [lsRow, e0]
    rw [e0, e1]
    clear e0 e1 D
    go_enter Try.func23, Try.ntmps23
    go_wp2_with (rw [← hw1.out])
    refine (as_boolB h1 hV.out).mono ?_
    rintro e w2 ⟨rfl, hb2⟩
    replace d0 := kept_cell d0 hb2
    replace d1 := kept_cell d1 hb2
    replace d2 := kept_cell d2 hb2
    replace d3 := kept_cell d3 hb2
    replace c0 := kept_cell c0 hb2
    replace c1 := kept_cell c1 hb2
    replace c2 := kept_cell c2 hb2
    replace c3 := kept_cell c3 hb2
    replace hb := upw hb hb2
    clear hb2
    go_wp2_with fail
    refine (as_boolB h2 (hV2.out _)).mono ?_
    rintro e w3 ⟨rfl, hb2⟩
    replace hb := upw hb hb2
    go_wp2_with fail
    go_ret2
    exact ⟨_, rfl, (show Own _ _ _ _ ([] : List Int) from ⟨by simp [flat], Or.inl ⟨rfl, rfl⟩⟩), hb⟩
  cases h3 : inr f 0 120
  · have e0 : lsCode x y f t = 2 := by simp [lsCode, h1, h2, h3]
    have e1 : lsRow x y f t = [] := by simp [lsRow, e0]
    rw [e0, e1]
    clear e0 e1 D
    go_enter Try.func23, Try.ntmps23
    go_wp2_with (rw [← hw1.out])
    refine (as_boolB h1 hV.out).mono ?_
    rintro e w2 ⟨rfl, hb2⟩
    replace d0 := kept_cell d0 hb2
    replace d1 := kept_cell d1 hb2
    replace d2 := kept_cell d2 hb2
    replace d3 := kept_cell d3 hb2
    replace c0 := kept_cell c0 hb2
    replace c1 := kept_cell c1 hb2
    replace c2 := kept_cell c2 hb2
    replace c3 := kept_cell c3 hb2
    replace hb := upw hb hb2
    clear hb2
    go_wp2_with fail
    refine (as_boolB h2 (hV2.out _)).mono ?_
    rintro e w3 ⟨rfl, hb2⟩
    replace d0 := kept_cell d0 hb2
    replace d1 := kept_cell d1 hb2
    replace d2 := kept_cell d2 hb2
    replace d3 := kept_cell d3 hb2
    replace c0 := kept_cell c0 hb2
    replace c1 := kept_cell c1 hb2
    replace c2 := kept_cell c2 hb2
    replace c3 := kept_cell c3 hb2
    replace hb := upw hb hb2
    clear hb2
    go_wp2_with fail
    refine (as_bool h3 (isHalf_c _ _)).mono ?_
    rintro e w' ⟨rfl, rfl⟩
    go_wp2_with fail
    go_ret2
    exact ⟨_, rfl, (show Own _ _ _ _ ([] : List Int) from ⟨by simp [flat], Or.inl ⟨rfl, rfl⟩⟩), hb⟩
  cases h4 : inr t f 120
  · cases h5 : inr t 0 120
    · have e0 : lsCode x y f t = 2 := by simp [lsCode, h1, h2, h4]
      have e1 : lsRow x y f t = [] := by simp [lsRow, e0]
      rw [e0, e1]
      clear e0 e1 D
      go_enter Try.func23, Try.ntmps23
      go_wp2_with (rw [← hw1.out])
      refine (as_boolB h1 hV.out).mono ?_
      rintro e w2 ⟨rfl, hb2⟩
      replace d0 := kept_cell d0 hb2
      replace d1 := kept_cell d1 hb2
      replace d2 := kept_cell d2 hb2
      replace d3 := kept_cell d3 hb2
      replace c0 := kept_cell c0 hb2
      replace c1 := kept_cell c1 hb2
      replace c2 := kept_cell c2 hb2
      replace c3 := kept_cell c3 hb2
      replace hb := upw hb hb2
      clear hb2
      go_wp2_with fail
      refine (as_boolB h2 (hV2.out _)).mono ?_
      rintro e w3 ⟨rfl, hb2⟩
      replace d0 := kept_cell d0 hb2
      replace d1 := kept_cell d1 hb2
      replace d2 := kept_cell d2 hb2
      replace d3 := kept_cell d3 hb2
      replace c0 := kept_cell c0 hb2
      replace c1 := kept_cell c1 hb2
      replace c2 := kept_cell c2 hb2
      replace c3 := kept_cell c3 hb2
      replace hb := upw hb hb2
      clear hb2
      go_wp2_with fail
      refine (as_bool h3 (isHalf_c _ _)).mono ?_
      rintro e w' ⟨rfl, rfl⟩
      go_wp2_with fail
      refine (as_bool h5 (isHalf_c _ _)).mono ?_
      rintro e w' ⟨rfl, rfl⟩
      go_wp2_with fail
      go_ret2
      exact ⟨_, rfl, (show Own _ _ _ _ ([] : List Int) from ⟨by simp [flat], Or.inl ⟨rfl, rfl⟩⟩), hb⟩
    · have hlt : t < f := by
        by_cases hc : t < f
        · exact hc
        · have h6 : inr t f 120 = true := inr_true.2 ⟨by omega, (inr_true.1 h5).2⟩
          rw [h4] at h6; cases h6
      have e0 : lsCode x y f t = 2 := by simp [lsCode, h1, h2, h4]
      have e1 : lsRow x y f t = [] := by simp [lsRow, e0]
      rw [e0, e1]
      clear e0 e1 D
      go_enter Try.func23, Try.ntmps23
      go_wp2_with (rw [← hw1.out])
      refine (as_boolB h1 hV.out).mono ?_
      rintro e w2 ⟨rfl, hb2⟩
      replace d0 := kept_cell d0 hb2
      replace d1 := kept_cell d1 hb2
      replace d2 := kept_cell d2 hb2
      replace d3 := kept_cell d3 hb2
      replace c0 := kept_cell c0 hb2
      replace c1 := kept_cell c1 hb2
      replace c2 := kept_cell c2 hb2
      replace c3 := kept_cell c3 hb2
      replace hb := upw hb hb2
      clear hb2
      go_wp2_with fail
      refine (as_boolB h2 (hV2.out _)).mono ?_
      rintro e w3 ⟨rfl, hb2⟩
      replace d0 := kept_cell d0 hb2
      replace d1 := kept_cell d1 hb2
      replace d2 := kept_cell d2 hb2
      replace d3 := kept_cell d3 hb2
      replace c0 := kept_cell c0 hb2
      replace c1 := kept_cell c1 hb2
      replace c2 := kept_cell c2 hb2
      replace c3 := kept_cell c3 hb2
      replace hb := upw hb hb2
      clear hb2
      go_wp2_with fail
      refine (as_bool h3 (isHalf_c _ _)).mono ?_
      rintro e w' ⟨rfl, rfl⟩
      go_wp2_with fail
      refine (as_bool h5 (isHalf_c _ _)).mono ?_
      rintro e w' ⟨rfl, rfl⟩
      go_wp2_with fail
      go_ret2
      exact ⟨_, rfl, (show Own _ _ _ _ ([] : List Int) from ⟨by simp [flat], Or.inl ⟨rfl, rfl⟩⟩), hb⟩
  have e0 : lsCode x y f t = 0 := by simp [lsCode, h1, h2, h3, h4]
  have e1 : lsRow x y f t = lostTo x y f (t - f + 1).toNat := by simp [lsRow, e0]
  rw [e0, e1]
  clear e0 e1
  have h5 : inr t 0 120 = true := inr_true.2 ⟨by have := (inr_true.1 h3).1; have := (inr_true.1 h4).1; omega, (inr_true.1 h4).2⟩
  have i3 := inr_true.1 h3
  have i4 := inr_true.1 h4
  obtain ⟨N, hN⟩ : ∃ N, N = (t - f + 1).toNat := ⟨_, rfl⟩
  rw [← hN]
  replace hN := Lib.hid (show (N : Int) = t - f + 1 by omega)
  have hNb : N ≤ 121 := by have := hN.out; omega
  have ht : ¬ t < f := by omega
  go_enter Try.func23, Try.ntmps23
  go_wp2_with (rw [← hw1.out])
  refine (as_boolB h1 hV.out).mono ?_
  rintro e w2 ⟨rfl, hb2⟩
  replace d0 := kept_cell d0 hb2
  replace d1 := kept_cell d1 hb2
  replace d2 := kept_cell d2 hb2
  replace d3 := kept_cell d3 hb2
  replace c0 := kept_cell c0 hb2
  replace c1 := kept_cell c1 hb2
  replace c2 := kept_cell c2 hb2
  replace c3 := kept_cell c3 hb2
  replace D := Lib.hid (D.out.later hb2)
  go_wp2_with fail
  refine (as_boolB h2 (hV2.out _)).mono ?_
  rintro e w3 ⟨rfl, hb3⟩
  replace D := Lib.hid (D.out.later hb3)
  clear hb hb2 hb3 hw1 c0 c1 c2 c3 d0 d1 d2 d3 hV hV2
  go_wp2_with fail
  refine (as_bool h3 (isHalf_c _ _)).mono ?_
  rintro e w' ⟨rfl, rfl⟩
  go_wp2_with fail
  refine (as_bool h5 (isHalf_c _ _)).mono ?_
  rintro e w' ⟨rfl, rfl⟩
  obtain ⟨w4, hw4⟩ : ∃ w4, w4 = w3.alloc (.cells #[] 2) := ⟨_, rfl⟩
  have D4 : Hid (Sp w w4 [ite' 2 (.slice (some ⟨w3.heap.size, 0, none⟩) 0 0) (lostTo x y f 0), ite' 42 (.slice (some ⟨w.heap.size + 1, 0, none⟩) 4 4) (sclC y), ite' 42 (.slice (some ⟨w.heap.size, 0, none⟩) 4 4) (sclC x)]) := Lib.hid (by rw [hw4]; exact D.out.add (newB w3 _) (own_new (α := Int) w3 2))
  replace hw4 := Lib.hid hw4
  clear D
  go_wp2_with (rw [← hw4.out])
  clear hw4
  go_loopw [10, 11] (fun v i wr => ∃ (k : Nat) (h : Int), k ≤ N ∧ i = .int .i64 h ∧ Hid (h = f + k) ∧ (f ≤ h ∧ h ≤ t + 1) ∧ Hid (Sp w wr [ite' 2 v (lostTo x y f k), ite' 42 (.slice (some ⟨w.heap.size + 1, 0, none⟩) 4 4) (sclC y), ite' 42 (.slice (some ⟨w.heap.size, 0, none⟩) 4 4) (sclC x)])) (fun _ i _ => (t + 1 - intOf i).toNat)
  case atStart => exact ⟨0, f, Nat.zero_le _, rfl, Lib.hid (by omega), by omega, D4⟩
  case round =>
    clear D4
    obtain ⟨k, h, hk, rfl, hh, hhb, D⟩ := hrel
    obtain ⟨wo, hwo⟩ : ∃ wo : World, wo = wr := ⟨_, rfl⟩
    subst hwo
    by_cases hlt : h ≤ t
    · obtain ⟨c0, c1, c2, c3⟩ := sclC_cells (D.out.get 2 rfl)
      obtain ⟨d0, d1, d2, d3⟩ := sclC_cells (D.out.get 1 rfl)
      have hE := Lib.hid (show lostTo x y f (k + 1) = lostTo x y f k ++ if lostAt x y h then [h] else [] by rw [hh.out]; rfl)
      have hkN : k < N := by have := hh.out; have := hN.out; omega
      have hh2 := Lib.hid (show h + 1 = f + ((k + 1 : Nat) : Int) by have := hh.out; omega)
      clear hh
      have hLl := lostTo_le x y f k
      generalize lostTo x y f k = L at *
      have hL2 : L.length + 1 ≤ 4294967296 := by omega
      have hq1 := conv_le x y h
      have hA := Lib.hid (show lostAt x y h = !(((conv y x (conv x y h : Nat) : Nat) : Int) == h) from rfl)
      have hC := Lib.hid (fun w' => convertHalf_c x y h w' h1 h2 (by omega))
      have hC2 := Lib.hid (fun w' => convertHalf_c y x (conv x y h : Nat) w' h2 h1 (by omega))
      generalize conv y x (conv x y h : Nat) = q at *
      generalize conv x y h = p at *
      cases hq : ((q : Int) == h)
      · have hE1 : Hid (lostTo x y f (k + 1) = L ++ [h]) := Lib.hid (by rw [hE.out, hA.out, hq]; rfl)
        have c0r := rg c0
        have c1r := rg c1
        have c2r := rg c2
        have c3r := rg c3
        have d0r := rg d0
        have d1r := rg d1
        have d2r := rg d2
        have d3r := rg d3
        go_wp2_with fail
        refine wp_region_quiet_below (by kernel_rfl) (by kernel_rfl) ?_
        repeat (go_big_quiet_step ((go_at_call 93; first | with_reducible exact Calls.regrown_of (hC.out _) | with_reducible exact Calls.regrown_of (hC2.out _))))
        refine wpQuiet_nil ?_
        intro wq hw'
        have hG := grown_of hw'
        replace D := Lib.hid (D.out.later hG)
        clear hw' hG c0r c1r c2r c3r d0r d1r d2r d3r
        have hsz := D.out.up.size
        go_wp2_with (at_builtin; refine wpList_pushTo rfl (.tmp 51) (.tmp 53) 24 rfl w.heap.size 2 (.int .i64 0) 8 Try.underlying24 infoInt rfl _ L h rfl ((D.out.get 0 rfl).later (newB _ _)) _ _ rfl 2 (heap_alloc_new _ _) hL2 (by decide) (by simp; omega) ?_; intro g' cap w7 hO7 hg7 hl7)
        have D7 := Lib.hid ((D.out.later (newB _ _)).push 0 rfl hO7 hg7 hl7)
        go_roundw
        case rel => exact ⟨k + 1, h + 1, by omega, by first | rfl | go_num, hh2, by omega, Lib.hid (by rw [hE1.out]; exact D7.out)⟩
        case measure => first | (simp [intOf]; done) | (simp [intOf]; omega)
      · have hE1 : Hid (lostTo x y f (k + 1) = L) := Lib.hid (by rw [hE.out, hA.out, hq]; simp)
        have c0r := rg c0
        have c1r := rg c1
        have c2r := rg c2
        have c3r := rg c3
        have d0r := rg d0
        have d1r := rg d1
        have d2r := rg d2
        have d3r := rg d3
        go_wp2_with fail
        refine wp_region_quiet_below (by kernel_rfl) (by kernel_rfl) ?_
        repeat (go_big_quiet_step ((go_at_call 93; first | with_reducible exact Calls.regrown_of (hC.out _) | with_reducible exact Calls.regrown_of (hC2.out _))))
        refine wpQuiet_nil ?_
        intro wq hw'
        have hG := grown_of hw'
        replace D := Lib.hid (D.out.later hG)
        clear hw' hG c0r c1r c2r c3r d0r d1r d2r d3r
        go_wp2_with fail
        go_roundw
        case rel => exact ⟨k + 1, h + 1, by omega, by first | rfl | go_num, hh2, by omega, Lib.hid (by rw [hE1.out]; exact D.out)⟩
        case measure => first | (simp [intOf]; done) | (simp [intOf]; omega)
    · obtain rfl : k = N := by have := hh.out; have := hN.out; omega
      go_wp2_with fail
      go_ret2
      exact ⟨_, rfl, D.out.get 0 rfl, D.out.up⟩
set_option maxHeartbeats 1600000 in
theorem specLostSizes_c (x y : Scl) (f t : Int) (w : World) (hs : x.name.size ≤ 9223372036854775807) (hs2 : y.name.size ≤ 9223372036854775807) :
    Calls Try.prog 24 #[.agg #[.string x.name, .int .i64 x.base, .int .i64 x.num, .int .i64 x.den], .agg #[.string y.name, .int .i64 y.base, .int .i64 y.num, .int .i64 y.den], .int .i64 f, .int .i64 t] w fun e w' => ∃ v, e = .returned (.tuple #[v, .int .i64 (lsCode x y f t)]) ∧ Own w.heap.size w' 2 v (lsRow x y f t) ∧ Below w.heap.size w w' := by
  obtain ⟨wa, hwa⟩ : ∃ wa, wa = w.alloc (.cells #[.string x.name, .int .i64 x.base, .int .i64 x.num, .int .i64 x.den] 42) := ⟨_, rfl⟩
  obtain ⟨w1, hw1⟩ : ∃ w1, w1 = wa.alloc (.cells #[.string y.name, .int .i64 y.base, .int .i64 y.num, .int .i64 y.den] 42) := ⟨_, rfl⟩
  have hsa : wa.heap.size = w.heap.size + 1 := by rw [hwa]; exact World.size_alloc _ _
  have Da : Sp w wa [ite' 42 (.slice (some ⟨w.heap.size, 0, none⟩) 4 4) (sclC x)] := by rw [hwa]; exact (Sp.refl w).add (newB w _) (own_sclC w _ x)
  have D : Sp w w1 [ite' 42 (.slice (some ⟨w.heap.size + 1, 0, none⟩) 4 4) (sclC y), ite' 42 (.slice (some ⟨w.heap.size, 0, none⟩) 4 4) (sclC x)] := by rw [← hsa, hw1]; exact Da.add (newB wa _) (own_sclC wa _ y)
  clear Da hsa
  replace hw1 := Lib.hid (hw1.trans (by rw [hwa]))
  clear hwa wa
  have hV := Lib.hid (l03Ok_c x w1 hs)
  have hV2 := Lib.hid (fun w' => l03Ok_c y w' hs2)
  obtain ⟨c0, c1, c2, c3⟩ := sclC_cells (D.get 1 rfl)
  obtain ⟨d0, d1, d2, d3⟩ := sclC_cells (D.get 0 rfl)
  clear hs hs2
  replace D := Lib.hid D
  have hb := D.out.up
  cases h1 : okScl x
  · have e0 : lsCode x y f t = 1 := by simp [lsCode, h1]
    have e1 : lsRow x y f t = [] := by simp [lsRow, e0]
    rw [e0, e1]
    clear e0 e1 D
    go_enter Try.func24, Try.ntmps24
    go_wp2_with (rw [← hw1.out])
    refine (as_boolB h1 hV.out).mono ?_
    rintro e w2 ⟨rfl, hb2⟩
    replace hb := upw hb hb2
    go_wp2_with fail
    go_ret2
    exact ⟨_, rfl, (show Own _ _ _ _ ([] : List Int) from ⟨by simp [flat], Or.inl ⟨rfl, rfl⟩⟩), hb⟩
  cases h2 : okScl y
  · have e0 : lsCode x y f t = 1 := by simp [lsCode, h2]
    have e1 : lsRow x y f t = [] := by simp [lsRow, e0]
    rw [e0, e1]
    clear e0 e1 D
    go_enter Try.func24, Try.ntmps24
    go_wp2_with (rw [← hw1.out])
    refine (as_boolB h1 hV.out).mono ?_
    rintro e w2 ⟨rfl, hb2⟩
    replace d0 := kept_cell d0 hb2
    replace d1 := kept_cell d1 hb2
    replace d2 := kept_cell d2 hb2
    replace d3 := kept_cell d3 hb2
    replace c0 := kept_cell c0 hb2
    replace c1 := kept_cell c1 hb2
    replace c2 := kept_cell c2 hb2
    replace c3 := kept_cell c3 hb2
    replace hb := upw hb hb2
    clear hb2
    go_wp2_with fail
    refine (as_boolB h2 (hV2.out _)).mono ?_
    rintro e w3 ⟨rfl, hb2⟩
    replace hb := upw hb hb2
    go_wp2_with fail
    go_ret2
    exact ⟨_, rfl, (show Own _ _ _ _ ([] : List Int) from ⟨by simp [flat], Or.inl ⟨rfl, rfl⟩⟩), hb⟩
  cases h3 : inr f 0 120
  · have e0 : lsCode x y f t = 2 := by simp [lsCode, h1, h2, h3]
    have e1 : lsRow x y f t = [] := by simp [lsRow, e0]
    rw [e0, e1]
    clear e0 e1 D
    go_enter Try.func24, Try.ntmps24
    go_wp2_with (rw [← hw1.out])
    refine (as_boolB h1 hV.out).mono ?_
    rintro e w2 ⟨rfl, hb2⟩
    replace d0 := kept_cell d0 hb2
    replace d1 := kept_cell d1 hb2
    replace d2 := kept_cell d2 hb2
    replace d3 := kept_cell d3 hb2
    replace c0 := kept_cell c0 hb2
    replace c1 := kept_cell c1 hb2
    replace c2 := kept_cell c2 hb2
    replace c3 := kept_cell c3 hb2
    replace hb := upw hb hb2
    clear hb2
    go_wp2_with fail
    refine (as_boolB h2 (hV2.out _)).mono ?_
    rintro e w3 ⟨rfl, hb2⟩
    replace d0 := kept_cell d0 hb2
    replace d1 := kept_cell d1 hb2
    replace d2 := kept_cell d2 hb2
    replace d3 := kept_cell d3 hb2
    replace c0 := kept_cell c0 hb2
    replace c1 := kept_cell c1 hb2
    replace c2 := kept_cell c2 hb2
    replace c3 := kept_cell c3 hb2
    replace hb := upw hb hb2
    clear hb2
    go_wp2_with fail
    refine (as_bool h3 (l03Half_c _ _)).mono ?_
    rintro e w' ⟨rfl, rfl⟩
    go_wp2_with fail
    go_ret2
    exact ⟨_, rfl, (show Own _ _ _ _ ([] : List Int) from ⟨by simp [flat], Or.inl ⟨rfl, rfl⟩⟩), hb⟩
  cases h4 : inr t f 120
  · have e0 : lsCode x y f t = 2 := by simp [lsCode, h1, h2, h4]
    have e1 : lsRow x y f t = [] := by simp [lsRow, e0]
    rw [e0, e1]
    clear e0 e1 D
    go_enter Try.func24, Try.ntmps24
    go_wp2_with (rw [← hw1.out])
    refine (as_boolB h1 hV.out).mono ?_
    rintro e w2 ⟨rfl, hb2⟩
    replace d0 := kept_cell d0 hb2
    replace d1 := kept_cell d1 hb2
    replace d2 := kept_cell d2 hb2
    replace d3 := kept_cell d3 hb2
    replace c0 := kept_cell c0 hb2
    replace c1 := kept_cell c1 hb2
    replace c2 := kept_cell c2 hb2
    replace c3 := kept_cell c3 hb2
    replace hb := upw hb hb2
    clear hb2
    go_wp2_with fail
    refine (as_boolB h2 (hV2.out _)).mono ?_
    rintro e w3 ⟨rfl, hb2⟩
    replace d0 := kept_cell d0 hb2
    replace d1 := kept_cell d1 hb2
    replace d2 := kept_cell d2 hb2
    replace d3 := kept_cell d3 hb2
    replace c0 := kept_cell c0 hb2
    replace c1 := kept_cell c1 hb2
    replace c2 := kept_cell c2 hb2
    replace c3 := kept_cell c3 hb2
    replace hb := upw hb hb2
    clear hb2
    go_wp2_with fail
    refine (as_bool h3 (l03Half_c _ _)).mono ?_
    rintro e w' ⟨rfl, rfl⟩
    go_wp2_with fail
    refine (as_bool h4 (l00In_c _ _ _ _)).mono ?_
    rintro e w' ⟨rfl, rfl⟩
    go_wp2_with fail
    go_ret2
    exact ⟨_, rfl, (show Own _ _ _ _ ([] : List Int) from ⟨by simp [flat], Or.inl ⟨rfl, rfl⟩⟩), hb⟩
  have e0 : lsCode x y f t = 0 := by simp [lsCode, h1, h2, h3, h4]
  have e1 : lsRow x y f t = lostTo x y f (t - f + 1).toNat := by simp [lsRow, e0]
  rw [e0, e1]
  clear e0 e1
  have i3 := inr_true.1 h3
  have i4 := inr_true.1 h4
  obtain ⟨N, hN⟩ : ∃ N, N = (t - f + 1).toNat := ⟨_, rfl⟩
  rw [← hN]
  replace hN := Lib.hid (show (N : Int) = t - f + 1 by omega)
  have hNb : N ≤ 121 := by have := hN.out; omega
  have ht : ¬ t < f := by omega
  go_enter Try.func24, Try.ntmps24
  go_wp2_with (rw [← hw1.out])
  refine (as_boolB h1 hV.out).mono ?_
  rintro e w2 ⟨rfl, hb2⟩
  replace d0 := kept_cell d0 hb2
  replace d1 := kept_cell d1 hb2
  replace d2 := kept_cell d2 hb2
  replace d3 := kept_cell d3 hb2
  replace c0 := kept_cell c0 hb2
  replace c1 := kept_cell c1 hb2
  replace c2 := kept_cell c2 hb2
  replace c3 := kept_cell c3 hb2
  replace D := Lib.hid (D.out.later hb2)
  go_wp2_with fail
  refine (as_boolB h2 (hV2.out _)).mono ?_
  rintro e w3 ⟨rfl, hb3⟩
  replace D := Lib.hid (D.out.later hb3)
  clear hb hb2 hb3 hw1 c0 c1 c2 c3 d0 d1 d2 d3 hV hV2
  go_wp2_with fail
  refine (as_bool h3 (l03Half_c _ _)).mono ?_
  rintro e w' ⟨rfl, rfl⟩
  go_wp2_with fail
  refine (as_bool h4 (l00In_c _ _ _ _)).mono ?_
  rintro e w' ⟨rfl, rfl⟩
  obtain ⟨w4, hw4⟩ : ∃ w4, w4 = w3.alloc (.cells #[] 2) := ⟨_, rfl⟩
  have D4 : Hid (Sp w w4 [ite' 2 (.slice (some ⟨w3.heap.size, 0, none⟩) 0 0) (lostTo x y f 0), ite' 42 (.slice (some ⟨w.heap.size + 1, 0, none⟩) 4 4) (sclC y), ite' 42 (.slice (some ⟨w.heap.size, 0, none⟩) 4 4) (sclC x)]) := Lib.hid (by rw [hw4]; exact D.out.add (newB w3 _) (own_new (α := Int) w3 2))
  replace hw4 := Lib.hid hw4
  clear D
  go_wp2_with (rw [← hw4.out])
  clear hw4
  go_loopw [10, 11, 12] (fun v i _ wr => ∃ (k : Nat) (h : Int), k ≤ N ∧ i = .int .i64 h ∧ Hid (h = f + k) ∧ (f ≤ h ∧ h ≤ t + 1) ∧ Hid (Sp w wr [ite' 2 v (lostTo x y f k), ite' 42 (.slice (some ⟨w.heap.size + 1, 0, none⟩) 4 4) (sclC y), ite' 42 (.slice (some ⟨w.heap.size, 0, none⟩) 4 4) (sclC x)])) (fun _ i _ _ => (t + 1 - intOf i).toNat)
  case atStart => exact ⟨0, f, Nat.zero_le _, rfl, Lib.hid (by omega), by omega, D4⟩
  case round =>
    clear D4
    obtain ⟨k, h, hk, rfl, hh, hhb, D⟩ := hrel
    obtain ⟨wo, hwo⟩ : ∃ wo : World, wo = wr := ⟨_, rfl⟩
    subst hwo
    by_cases hlt : h ≤ t
    · obtain ⟨c0, c1, c2, c3⟩ := sclC_cells (D.out.get 2 rfl)
      obtain ⟨d0, d1, d2, d3⟩ := sclC_cells (D.out.get 1 rfl)
      have hE := Lib.hid (show lostTo x y f (k + 1) = lostTo x y f k ++ if lostAt x y h then [h] else [] by rw [hh.out]; rfl)
      have hkN : k < N := by have := hh.out; have := hN.out; omega
      have hh2 := Lib.hid (show h + 1 = f + ((k + 1 : Nat) : Int) by have := hh.out; omega)
      clear hh
      have hLl := lostTo_le x y f k
      generalize lostTo x y f k = L at *
      have hL2 : L.length + 1 ≤ 4294967296 := by omega
      have hq1 := conv_le x y h
      have hA := Lib.hid (show lostAt x y h = !(((conv y x (conv x y h : Nat) : Nat) : Int) == h) from rfl)
      obtain ⟨t1, t2⟩ := conv_in (h := h) h1 (by omega)
      obtain ⟨s1, s2⟩ := conv_in (h := ((conv x y h : Nat) : Int)) h2 (by omega)
      obtain ⟨_, o1, o2, o3⟩ := okScl_iff.1 h1
      obtain ⟨_, p1, p2, p3⟩ := okScl_iff.1 h2
      have hC := Lib.hid (fun w' => l03Nearest_c y ((h + x.base) * x.num) x.den w' h2 t2 o3)
      have hC2 := Lib.hid (fun w' => l03Nearest_c x ((((conv x y h : Nat) : Int) + y.base) * y.num) y.den w' h1 s2 p3)
      rw [show nearest y ((h + x.base) * x.num) x.den = conv x y h from rfl] at hC
      rw [show nearest x ((((conv x y h : Nat) : Int) + y.base) * y.num) y.den = conv y x (conv x y h : Nat) from rfl] at hC2
      generalize hq2 : conv y x (conv x y h : Nat) = q at *
      replace hq2 := Lib.hid hq2
      generalize conv x y h = p at *
      cases hq : ((q : Int) == h)
      · have hE1 : Hid (lostTo x y f (k + 1) = L ++ [h]) := Lib.hid (by rw [hE.out, hA.out, hq]; rfl)
        go_wp2_with fail
        refine (hC.out _).mono ?_
        rintro e w5 ⟨rfl, hb5⟩
        replace D := Lib.hid (D.out.later hb5)
        replace c0 := kept_cell c0 hb5
        replace c1 := kept_cell c1 hb5
        replace c2 := kept_cell c2 hb5
        replace c3 := kept_cell c3 hb5
        replace d0 := kept_cell d0 hb5
        replace d1 := kept_cell d1 hb5
        replace d2 := kept_cell d2 hb5
        replace d3 := kept_cell d3 hb5
        go_wp2_with fail
        refine (hC2.out _).mono ?_
        rintro e wq ⟨rfl, hG⟩
        replace D := Lib.hid (D.out.later hG)
        clear hG hb5
        have hsz := D.out.up.size
        go_wp2_with (at_builtin; refine wpList_pushTo rfl (.tmp 61) (.tmp 63) 24 rfl w.heap.size 2 (.int .i64 0) 8 Try.underlying24 infoInt rfl _ L h rfl ((D.out.get 0 rfl).later (newB _ _)) _ _ rfl 2 (heap_alloc_new _ _) hL2 (by decide) (by simp; omega) ?_; intro g' cap w7 hO7 hg7 hl7)
        have D7 := Lib.hid ((D.out.later (newB _ _)).push 0 rfl hO7 hg7 hl7)
        go_roundw
        case rel => exact ⟨k + 1, h + 1, by omega, by first | rfl | go_num, hh2, by omega, Lib.hid (by rw [hE1.out]; exact D7.out)⟩
        case measure => first | (simp [intOf]; done) | (simp [intOf]; omega)
      · have hE1 : Hid (lostTo x y f (k + 1) = L) := Lib.hid (by rw [hE.out, hA.out, hq]; simp)
        go_wp2_with fail
        refine (hC.out _).mono ?_
        rintro e w5 ⟨rfl, hb5⟩
        replace D := Lib.hid (D.out.later hb5)
        replace c0 := kept_cell c0 hb5
        replace c1 := kept_cell c1 hb5
        replace c2 := kept_cell c2 hb5
        replace c3 := kept_cell c3 hb5
        replace d0 := kept_cell d0 hb5
        replace d1 := kept_cell d1 hb5
        replace d2 := kept_cell d2 hb5
        replace d3 := kept_cell d3 hb5
        go_wp2_with fail
        refine (hC2.out _).mono ?_
        rintro e wq ⟨rfl, hG⟩
        replace D := Lib.hid (D.out.later hG)
        clear hG hb5
        go_wp2_with fail
        go_roundw
        case rel => exact ⟨k + 1, h + 1, by omega, by first | rfl | go_num, hh2, by omega, Lib.hid (by rw [hE1.out]; exact D.out)⟩
        case measure => first | (simp [intOf]; done) | (simp [intOf]; omega)
    · obtain rfl : k = N := by have := hh.out; have := hN.out; omega
      go_wp2_with fail
      go_ret2
      exact ⟨_, rfl, D.out.get 0 rfl, D.out.up⟩
end Go.Proofs.Ytlaclknhenccdaa
