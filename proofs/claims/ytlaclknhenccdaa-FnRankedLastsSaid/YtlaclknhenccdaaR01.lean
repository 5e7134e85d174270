/- Chapter 4, what a last costs: the program. -/
import Derived.Test.YtlaclknhenccdaaRankMath
import Derived.Test.YtlaclknhenccdaaSep
import Derived.Test.YtlaclknhenccdaaF04
namespace Go.Proofs.Ytlaclknhenccdaa
open Go.RowKit

/-- A variable that holds a fit, cell by cell. -/
def fitC (q : FitV) (fa : Option Addr) (c : Nat) : List OneCell := [⟨.int .i64 q.mn, rfl⟩, ⟨.int .i64 q.mx, rfl⟩, ⟨.int .i64 q.gi, rfl⟩, ⟨.slice fa 4 c, rfl⟩]
theorem own_fitC (w : World) (t : TypeId) (q : FitV) (fa : Option Addr) (c : Nat) : Own w.heap.size (w.alloc (.cells #[.int .i64 q.mn, .int .i64 q.mx, .int .i64 q.gi, .slice fa 4 c] t)) t (.slice (some ⟨w.heap.size, 0, none⟩) 4 4) (fitC q fa c) :=
  ⟨rfl, .inr ⟨w.heap.size, 4, #[.int .i64 q.mn, .int .i64 q.mx, .int .i64 q.gi, .slice fa 4 c], rfl, Nat.le_refl _, heap_alloc_new _ _, Nat.le_refl _, by unfold maxLen; omega, rfl, rfl⟩⟩
theorem fitC_cells {B : Nat} {w : World} {e : TypeId} {g n c' : Nat} {q : FitV} {fa : Option Addr} {c : Nat} (h : Own B w e (.slice (some ⟨g, 0, none⟩) n c') (fitC q fa c)) :
    w.cell? ⟨g, 0, none⟩ = some (.int .i64 q.mn) ∧ w.cell? ⟨g, 1, none⟩ = some (.int .i64 q.mx) ∧ w.cell? ⟨g, 2, none⟩ = some (.int .i64 q.gi) ∧ w.cell? ⟨g, 3, none⟩ = some (.slice fa 4 c) :=
  ⟨own_one h (i := 0) (by show 0 < 4; omega), own_one h (i := 1) (by show 1 < 4; omega), own_one h (i := 2) (by show 2 < 4; omega), own_one h (i := 3) (by show 3 < 4; omega)⟩
/-- A last, a foot and a fit in new variables. -/
theorem box3 (w : World) (x : Last) (f : Foot) (q : FitV) (fa : Option Addr) (c : Nat) :
    ∃ w3, w3 = ((w.alloc (.cells #[.string x.Name, .int .i64 x.Length, .int .i64 x.Ball, .int .i64 x.Instep, .int .i64 x.Heel, .int .i64 x.Pitch] 77)).alloc (.cells #[.int .i64 f.Length, .int .i64 f.Ball, .int .i64 f.Instep, .int .i64 f.Heel] 62)).alloc (.cells #[.int .i64 q.mn, .int .i64 q.mx, .int .i64 q.gi, .slice fa 4 c] 72) ∧
      Sp w w3 [ite' 72 (.slice (some ⟨w.heap.size + 1 + 1, 0, none⟩) 4 4) (fitC q fa c), ite' 62 (.slice (some ⟨w.heap.size + 1, 0, none⟩) 4 4) (footC f), ite' 77 (.slice (some ⟨w.heap.size, 0, none⟩) 6 6) (lastC x)] := by
  refine ⟨_, rfl, ?_⟩
  obtain ⟨wa, hwa⟩ : ∃ wa, wa = w.alloc (.cells #[.string x.Name, .int .i64 x.Length, .int .i64 x.Ball, .int .i64 x.Instep, .int .i64 x.Heel, .int .i64 x.Pitch] 77) := ⟨_, rfl⟩
  have Da : Sp w wa [ite' 77 (.slice (some ⟨w.heap.size, 0, none⟩) 6 6) (lastC x)] := by rw [hwa]; exact (Sp.refl w).add (newB w _) (own_lastC w _ x)
  have hsa : wa.heap.size = w.heap.size + 1 := by rw [hwa]; exact World.size_alloc _ _
  rw [← hwa]
  obtain ⟨wb, hwb⟩ : ∃ wb, wb = wa.alloc (.cells #[.int .i64 f.Length, .int .i64 f.Ball, .int .i64 f.Instep, .int .i64 f.Heel] 62) := ⟨_, rfl⟩
  have Db := Da.add (w' := wb) (by rw [hwb]; exact newB wa _) (by rw [hwb]; exact own_footC wa _ f)
  have hsb : wb.heap.size = w.heap.size + 2 := by rw [hwb, World.size_alloc, hsa]
  rw [hsa] at Db
  rw [← hwb]
  have Dc := Db.add (w' := wb.alloc (.cells #[.int .i64 q.mn, .int .i64 q.mx, .int .i64 q.gi, .slice fa 4 c] 72)) (newB wb _) (own_fitC wb 72 q fa c)
  rw [show wb.heap.size = w.heap.size + 1 + 1 from hsb] at Dc
  exact Dc
/-- What a region holds that asks for a foot, a fit and its first weight. -/
def FitHeld (b1 b2 : Nat) (f : Foot) (q : FitV) (fb fo c : Nat) (w : World) : Prop :=
  w.cell? ⟨b1, 0, none⟩ = some (.int .i64 f.Length) ∧ w.cell? ⟨b1, 1, none⟩ = some (.int .i64 f.Ball) ∧ w.cell? ⟨b1, 2, none⟩ = some (.int .i64 f.Instep) ∧ w.cell? ⟨b1, 3, none⟩ = some (.int .i64 f.Heel) ∧
  w.cell? ⟨b2, 0, none⟩ = some (.int .i64 q.mn) ∧ w.cell? ⟨b2, 1, none⟩ = some (.int .i64 q.mx) ∧ w.cell? ⟨b2, 3, none⟩ = some (.slice (some ⟨fb, fo, none⟩) 4 c) ∧ w.cell? ⟨fb, fo, none⟩ = some (.int .i64 q.w0)
theorem fit_held {B1 B2 : Nat} {w : World} {e1 e2 : TypeId} {b1 b2 n1 n2 k1 k2 : Nat} {f : Foot} {q : FitV} {fb fo c : Nat} (h1 : Own B1 w e1 (.slice (some ⟨b1, 0, none⟩) n1 k1) (footC f)) (h2 : Own B2 w e2 (.slice (some ⟨b2, 0, none⟩) n2 k2) (fitC q (some ⟨fb, fo, none⟩) c)) (hW : At w (some ⟨fb, fo, none⟩) q.ws) : FitHeld b1 b2 f q fb fo c w := by
  obtain ⟨f0, f1, f2, f3⟩ := footC_cells h1
  obtain ⟨q0, q1, q2, q3⟩ := fitC_cells h2
  exact ⟨f0, f1, f2, f3, q0, q1, q3, hW.int (i := 0) (show 0 < 4 by omega)⟩
set_option maxRecDepth 100000 in
set_option maxHeartbeats 4000000 in
theorem fitCost_c (x : Last) (f : Foot) (q : FitV) (fa : Option Addr) (c : Nat) (w : World) (hx : okLast x = true) (hf : okFoot f = true) (hq : OkFit q) (hW : At w fa q.ws) :
    Calls Try.prog 119 #[.agg #[.string x.Name, .int .i64 x.Length, .int .i64 x.Ball, .int .i64 x.Instep, .int .i64 x.Heel, .int .i64 x.Pitch], .agg #[.int .i64 f.Length, .int .i64 f.Ball, .int .i64 f.Instep, .int .i64 f.Heel], .agg #[.int .i64 q.mn, .int .i64 q.mx, .int .i64 q.gi, .slice fa 4 c]] w fun e w' => e = .returned (.tuple #[.int .i64 (costL x f q), .bool (mayL x f q)]) ∧ Below w.heap.size w w' := by
  have hC := costs_of hx hf hq
  have c1 := hC.len
  have c2 := hC.p0
  have q1 := hq.mx; have q2 := hq.mn; have q3 := hq.gi
  have hR := Lib.hid (fun k (hk : k ≤ 4) => costK_range hC hk)
  have hWr := Lib.hid (fun k (hk : k < 4) => wt_range hq hk)
  have hxr := Lib.hid (fun k (hk : k < 4) => four_range (last_foot_ok hx) hk)
  have hfr := Lib.hid (fun k (hk : k < 4) => four_range hf hk)
  have hxl := (okLast_iff2.1 hx).2.1.1
  have hfl := (okFoot_iff.1 hf).1
  obtain ⟨w3, hw3, D⟩ := box3 w x f q fa c
  replace hW := hW.below D.up
  obtain ⟨fb, fo, rfl⟩ := hW.addr (show 0 < q.ws.length by show 0 < 4; omega)
  have hS := fit_held (D.get 1 rfl) (D.get 0 rfl) hW
  obtain ⟨x0, x1, x2, x3, x4, x5⟩ := lastC_cells (D.get 2 rfl)
  obtain ⟨f0, f1, f2, f3⟩ := footC_cells (D.get 1 rfl)
  replace hw3 := Lib.hid hw3
  replace D := Lib.hid D
  replace hS := Lib.hid hS
  have hz1 : IntKind.i64.wrap (x.Length - f.Length - q.mn) = x.Length - f.Length - q.mn := IntWalk.i64_in _ (by omega)
  have hz2 : IntKind.i64.wrap (q.w0 * (x.Length - f.Length - q.mn)) = costK x f q 0 := IntWalk.i64_in _ (by omega)
  clear hC hx hf hq
  go_enter Try.func119, Try.ntmps119
  go_wp2_with (rw [← hw3.out])
  refine wp_region_held_drew (S := (fun w' => w'.cell? ⟨w.heap.size + 1, 0, none⟩ = some (.int .i64 f.Length) ∧ w'.cell? ⟨w.heap.size + 1, 1, none⟩ = some (.int .i64 f.Ball) ∧ w'.cell? ⟨w.heap.size + 1, 2, none⟩ = some (.int .i64 f.Instep) ∧ w'.cell? ⟨w.heap.size + 1, 3, none⟩ = some (.int .i64 f.Heel) ∧ w'.cell? ⟨w.heap.size + 1 + 1, 0, none⟩ = some (.int .i64 q.mn) ∧ w'.cell? ⟨w.heap.size + 1 + 1, 1, none⟩ = some (.int .i64 q.mx) ∧ w'.cell? ⟨w.heap.size + 1 + 1, 3, none⟩ = some (.slice (some ⟨fb, fo, none⟩) 4 c) ∧ w'.cell? ⟨fb, fo, none⟩ = some (.int .i64 q.w0))) (by kernel_rfl) hS.out (fun hHeld => ?_)
  obtain ⟨wo, hwo⟩ : ∃ wo, wo = w3.drew := ⟨_, rfl⟩
  rw [← hwo] at hHeld ⊢
  have hbo : Below w3.heap.size w3 wo := by rw [hwo]; exact (Below.refl _ _).drew
  replace D := Lib.hid (D.out.later hbo)
  replace hW := hW.below hbo
  clear hwo hbo x0 x1 x2 x3 x4 x5 f0 f1 f2 f3 hS hw3
  refine wpAnyH_take (i := 0) (v := _) rfl (by kernel_rfl) (by kernel_rfl) (by kernel_rfl) (fun _ _ _ h => h) (Or.inl ⟨by rfl, (by intro w hSw; (try dsimp only at hSw); go_simp; try with_reducible rfl)⟩) (by assumption) ?_
  go_simp
  refine wpAnyH_take (i := 1) (v := _) rfl (by kernel_rfl) (by kernel_rfl) (by kernel_rfl) (fun _ _ _ h => h) (Or.inl ⟨by rfl, (by intro w hSw; (try dsimp only at hSw); go_simp; try with_reducible rfl)⟩) (by assumption) ?_
  go_simp
  refine wpAnyH_take (i := 2) (v := _) rfl (by kernel_rfl) (by kernel_rfl) (by kernel_rfl) (fun _ _ _ h => h) (Or.inl ⟨by rfl, (by intro w hSw; (try dsimp only at hSw); go_simp; try with_reducible rfl)⟩) (by assumption) ?_
  go_simp
  refine wpAnyH_take (i := 3) (v := _) rfl (by kernel_rfl) (by kernel_rfl) (by kernel_rfl) (fun _ _ _ h => h) (Or.inl ⟨by rfl, (by intro w hSw; (try dsimp only at hSw); go_simp; try with_reducible rfl)⟩) (by assumption) ?_
  go_simp
  refine wpAnyH_take (i := 4) (v := _) rfl (by kernel_rfl) (by kernel_rfl) (by kernel_rfl) (fun _ _ _ h => h) (Or.inl ⟨by rfl, (by intro w hSw; (try dsimp only at hSw); go_simp; try with_reducible rfl)⟩) (by assumption) ?_
  go_simp
  refine wpAnyH_take (i := 5) (v := _) rfl (by kernel_rfl) (by kernel_rfl) (by kernel_rfl) (fun _ _ _ h => h) (Or.inl ⟨by rfl, (by intro w hSw; (try dsimp only at hSw); go_simp; try with_reducible rfl)⟩) (by assumption) ?_
  go_simp
  refine wpAnyH_take (i := 6) (v := _) rfl (by kernel_rfl) (by kernel_rfl) (by kernel_rfl) (fun _ _ _ h => h) (Or.inl ⟨by rfl, (by intro w hSw; (try dsimp only at hSw); go_simp; try with_reducible rfl)⟩) (by assumption) ?_
  go_simp
  refine wpAnyH_take (i := 7) (v := _) rfl (by kernel_rfl) (by kernel_rfl) (by kernel_rfl) (fun _ _ _ h => h) (Or.inl ⟨by rfl, (by intro w hSw; (try dsimp only at hSw); go_simp; try with_reducible rfl)⟩) (by assumption) ?_
  go_simp
  refine wpAnyH_take (i := 8) (v := _) rfl (by kernel_rfl) (by kernel_rfl) (by kernel_rfl) (fun _ _ _ h => h) (Or.inl ⟨by rfl, (by intro w hSw; (try dsimp only at hSw); go_simp; try with_reducible rfl)⟩) (by assumption) ?_
  go_simp
  refine wpAnyH_take (i := 9) (v := _) rfl (by kernel_rfl) (by kernel_rfl) (by kernel_rfl) (fun _ _ _ h => h) (Or.inl ⟨by rfl, (by intro w hSw; (try dsimp only at hSw); go_simp; try with_reducible rfl)⟩) (by assumption) ?_
  go_simp
  refine wpAnyH_take (i := 10) (v := _) rfl (by kernel_rfl) (by kernel_rfl) (by kernel_rfl) (fun _ _ _ h => h) (Or.inl ⟨by rfl, (by intro w hSw; (try dsimp only at hSw); go_simp; try with_reducible rfl)⟩) (by assumption) ?_
  go_simp
  refine wpAnyH_take (i := 11) (v := _) rfl (by kernel_rfl) (by kernel_rfl) (by kernel_rfl) (fun _ _ _ h => h) (Or.inl ⟨by rfl, (by intro w hSw; (try dsimp only at hSw); go_simp; try with_reducible rfl)⟩) (by assumption) ?_
  go_simp
  refine wpAnyH_take (i := 12) (v := _) rfl (by kernel_rfl) (by kernel_rfl) (by kernel_rfl) (fun _ _ _ h => h) (Or.inl ⟨by rfl, (by intro w hSw; (try dsimp only at hSw); go_simp; try with_reducible rfl)⟩) (by assumption) ?_
  go_simp
  refine wpAnyH_take (i := 13) (v := _) rfl (by kernel_rfl) (by kernel_rfl) (by kernel_rfl) (fun _ _ _ h => h) (Or.inl ⟨by rfl, (by intro w hSw; (try dsimp only at hSw); go_simp; try with_reducible rfl)⟩) (by assumption) ?_
  go_simp
  refine wpAnyH_take (i := 15) (v := _) rfl (by kernel_rfl) (by kernel_rfl) (by kernel_rfl) (fun _ _ _ h => h) (Or.inl ⟨by rfl, (by intro w hSw; (try dsimp only at hSw); go_simp; try with_reducible rfl)⟩) (by assumption) ?_
  go_simp
  refine wpAnyH_ready (rs := [14]) (by kernel_rfl) (by simp) ?_
  refine AllReadyH.cons rfl (fun K hK => ?_) AllReadyH.nil
  go_simp
  (refine (within_c _ _ _ _).mono ?_; rintro e wp ⟨rfl, rfl⟩)
  refine hK.out _ _ (fit_held (D.out.get 1 rfl) (D.out.get 0 rfl) hW) (fun hHeld => ?_)
  clear hK K
  go_simp
  refine wpAnyH_ready (rs := [16]) (by kernel_rfl) (by simp) ?_
  refine AllReadyH.cons rfl (fun K hK => ?_) AllReadyH.nil
  go_simp
  (refine (measures_c f _).mono ?_; rintro e wq ⟨g1, rfl, hM1, hb1⟩; replace D := Lib.hid (D.out.add hb1 hM1); replace hW := hW.below hb1; clear hM1 hb1)
  refine hK.out _ _ (fit_held (D.out.get 2 rfl) (D.out.get 1 rfl) hW) (fun hHeld => ?_)
  clear hK K
  go_simp
  refine wpAnyH_take (i := 17) (v := _) rfl (by kernel_rfl) (by kernel_rfl) (by kernel_rfl) (fun _ _ _ h => h) (Or.inl ⟨by rfl, (by intro w hSw; (try dsimp only at hSw); go_simp; try with_reducible rfl)⟩) (by assumption) ?_
  go_simp
  refine wpAnyH_take (i := 18) (v := _) rfl (by kernel_rfl) (by kernel_rfl) (by kernel_rfl) (fun _ _ _ h => h) (Or.inl ⟨by rfl, (by intro w hSw; (try dsimp only at hSw); go_simp; try with_reducible rfl)⟩) (by assumption) ?_
  go_simp
  refine wpAnyH_take (i := 19) (v := _) rfl (by kernel_rfl) (by kernel_rfl) (by kernel_rfl) (fun _ _ _ h => h) (Or.inl ⟨by rfl, (by intro w hSw; (try dsimp only at hSw); go_simp; try with_reducible rfl)⟩) (by assumption) ?_
  go_simp
  refine wpAnyH_done (by kernel_rfl) ?_ _
  obtain ⟨x0, x1, x2, x3, x4, x5⟩ := lastC_cells (D.out.get 3 rfl)
  clear hHeld
  go_wp2_with fail
  refine (lastFoot_c x _).mono ?_
  rintro e wr ⟨rfl, hb2⟩
  replace D := Lib.hid (D.out.later hb2)
  replace hW := hW.below hb2
  clear hb2 x0 x1 x2 x3 x4 x5
  go_wp2_with fail
  refine (measures_c (lastFoot x) _).mono ?_
  rintro e ws ⟨g2, rfl, hM1, hb1⟩
  replace D := Lib.hid (D.out.add hb1 hM1)
  replace hW := hW.below hb1
  clear hM1 hb1
  have A1 := Lib.hid (D.out.get 0 rfl : Own _ _ _ _ (fourOf (lastFoot x))).at'
  have A2 := Lib.hid (D.out.get 1 rfl : Own _ _ _ _ (fourOf f)).at'
  have e1 : inr (x.Length - f.Length) q.mn q.mx = mayK x f q 0 := rfl
  rw [e1]
  have hst := (⟨0, by omega, rfl, rfl, rfl, Below.refl _ _⟩ : ∃ k : Nat, k ≤ 4 ∧ Value.int .i64 0 = .int .i64 k ∧ Value.int .i64 (costK x f q 0) = .int .i64 (costK x f q k) ∧ Value.bool (mayK x f q 0) = .bool (mayK x f q k) ∧ Below ws.heap.size ws ws)
  clear e1 c1 c2 hxl hfl hz1 hz2
  generalize costK x f q 0 = C0 at *
  generalize mayK x f q 0 = M0 at *
  go_wp2_with fail
  go_loopw [9, 10, 12, 13, 14, 41] (fun cv mv _ _ _ i wr => ∃ k : Nat, k ≤ 4 ∧ i = .int .i64 k ∧ cv = .int .i64 (costK x f q k) ∧ mv = .bool (mayK x f q k) ∧ Below ws.heap.size ws wr) (fun _ _ _ _ _ i _ => 4 - (intOf i).toNat)
  case atStart => exact hst
  case round =>
    obtain ⟨k, hk, rfl, rfl, rfl, hb2⟩ := hrel
    obtain ⟨wc, hwc⟩ : ∃ wo : World, wo = wr := ⟨_, rfl⟩
    subst hwc
    replace D := Lib.hid (D.out.later hb2)
    replace hW := hW.below hb2
    by_cases hlt : k < 4
    · have d1 := (A1.out.below hb2).int (i := k) (four_lt hlt)
      have d2 := (A2.out.below hb2).int (i := k) (four_lt hlt)
      have d3 := hW.int (i := k) (ws_lt hlt)
      simp only [four_get, wt_get, Nat.zero_add] at d1 d2 d3
      have r1 := hxr.out k hlt
      have r2 := hfr.out k hlt
      have r3 := hWr.out k hlt
      have r4 := hR.out k hk
      by_cases hk0 : k = 0
      · have hk0' : ((k : Int) == 0) = true := by simp [hk0]
        have hcs := Lib.hid (show costK x f q (k + 1) = costK x f q k by rw [hk0]; rfl)
        have hms := Lib.hid (show mayK x f q (k + 1) = mayK x f q k by rw [hk0]; rfl)
        replace hk0 := Lib.hid hk0
        generalize costK x f q k = C at *
        generalize mayK x f q k = M at *
        go_wp2_with fail
        go_roundw
        case rel => exact ⟨k + 1, by omega, by first | rfl | go_num, by rw [hcs.out], by rw [hms.out], hb2⟩
        case measure => first | (simp [intOf]; done) | (simp [intOf]; omega)
      · have hk0' : ((k : Int) == 0) = false := beq_eq_false_iff_ne.2 (by omega)
        have hcs := Lib.hid (costK_succ x f q hk0)
        have hms := Lib.hid (mayK_succ x f q hk0)
        replace hk0 := Lib.hid hk0
        generalize (fourOf (lastFoot x)).getD k 0 = X at *
        generalize (fourOf f).getD k 0 = Y at *
        have hP := Lib.hid (fun w' => apart_c X Y w' (by omega) (by omega))
        have hZ : 0 ≤ size (X - Y) ∧ size (X - Y) ≤ 4500 := by unfold size; omega
        generalize size (X - Y) = Z at *
        have hM := mul_range r3 hZ
        generalize q.wt k = V at *
        obtain ⟨q0, qq1, qq2, qq3⟩ := fitC_cells (D.out.get 2 rfl)
        replace qq2 := rg qq2
        replace qq3 := rg qq3
        replace d3 := rg d3
        have hltI : (k : Int) < 4 := by omega
        clear q0 qq1
        generalize costK x f q k = C at *
        obtain ⟨P, hPe⟩ : ∃ P, P = V * Z := ⟨_, rfl⟩
        have hz1 : IntKind.i64.wrap (V * Z) = P := by rw [hPe]; exact IntWalk.i64_in _ (by omega)
        rw [← hPe] at hcs hM
        replace hPe := Lib.hid hPe
        cases hm : mayK x f q k
        · rw [hm] at hms
          replace hm := Lib.hid hm
          go_wp2_with ((with_reducible refine (hP.out _).mono ?_); rintro e w' ⟨rfl, rfl⟩)
          refine wp_region_quiet_below (by kernel_rfl) (by kernel_rfl) ?_
          repeat (go_big_quiet_step (fail))
          refine wpQuiet_nil ?_
          intro w2 hw'
          have hbq := upw hb2 (grown_of hw')
          clear hw'
          go_wp2_with fail
          go_roundw
          case rel => exact ⟨k + 1, by omega, by first | rfl | go_num, by rw [hcs.out], by rw [hms.out]; rfl, hbq⟩
          case measure => first | (simp [intOf]; done) | (simp [intOf]; omega)
        · rw [hm] at hms
          replace hm := Lib.hid hm
          go_wp2_with ((with_reducible refine (hP.out _).mono ?_); rintro e w' ⟨rfl, rfl⟩)
          refine wp_region_quiet_below (by kernel_rfl) (by kernel_rfl) ?_
          repeat (go_big_quiet_step (fail))
          refine wpQuiet_nil ?_
          intro w2 hw'
          have hbq := upw hb2 (grown_of hw')
          clear hw'
          go_wp2_with fail
          go_roundw
          case rel => exact ⟨k + 1, by omega, by first | rfl | go_num, by rw [hcs.out], by rw [hms.out]; rfl, hbq⟩
          case measure => first | (simp [intOf]; done) | (simp [intOf]; omega)
    · obtain rfl : k = 4 := by omega
      rw [costK_four, mayK_four]
      have hb3 := D.out.up
      go_wp2_with fail
      go_ret2
      exact ⟨rfl, hb3⟩
end Go.Proofs.Ytlaclknhenccdaa
