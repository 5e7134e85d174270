/- FnFootPairs: for all bytes the law returns true, and the bytes read behind the call as before. -/
import Derived.Test.YtledlkggggpdpaaGreatDoorFP1
import Derived.Test.YtledlkggggpdpaaGreatDoorA2
namespace Go.Proofs.YtledlkggggpdpaaGreatDoor
open Go.ChangeShapes Go.WideShapes Go.ChangeAt Go.RowKit

theorem a2Size_c (n : Int) (w : World) (h : -9223372036854775807 ≤ n ∧ n ≤ 9223372036854775807) : Calls Tryz.prog 48 #[.int .i64 n] w fun e w' => e = .returned (.int .i64 (size n)) ∧ w = w' := by
  have hs : (n < 0 → size n = -n) ∧ (¬ n < 0 → size n = n) := by unfold size; omega
  by_cases h0 : n < 0
  · rw [hs.1 h0]
    clear hs
    go_enter Tryz.func48, Tryz.ntmps48
    go_wp2_with fail
    go_ret
    exact ⟨rfl, rfl⟩
  · rw [hs.2 h0]
    clear hs
    go_enter Tryz.func48, Tryz.ntmps48
    go_wp2_with fail
    go_ret
    exact ⟨rfl, rfl⟩
theorem foot_same (a b c d : Int) (w : World) : (binOp .neq 25 (.agg #[.int .i64 a, .int .i64 b, .int .i64 c, .int .i64 d]) (.agg #[.int .i64 a, .int .i64 b, .int .i64 c, .int .i64 d])).run Tryz.prog w = .ok (.bool false) w := by
  simp [go_sem]
attribute [local go_sem ↓] foot_same
theorem dif_lt {f g : Foot} {k : Nat} (h : k < 4) : k < (difI f g).length := h
theorem dif_neg' (f g : Foot) {k : Nat} (h : k < 4) : (difI f g)[k]'(dif_lt h) = -((difI g f)[k]'(dif_lt h)) := by
  rcases (by omega : k = 0 ∨ k = 1 ∨ k = 2 ∨ k = 3) with rfl | rfl | rfl | rfl
  · show g.Length - f.Length = -(f.Length - g.Length); omega
  · show g.Ball - f.Ball = -(f.Ball - g.Ball); omega
  · show g.Instep - f.Instep = -(f.Instep - g.Instep); omega
  · show g.Heel - f.Heel = -(f.Heel - g.Heel); omega
theorem dif_range {f g : Foot} (hf : (500 ≤ f.Length ∧ f.Length ≤ 5000) ∧ (500 ≤ f.Ball ∧ f.Ball ≤ 5000) ∧ (500 ≤ f.Instep ∧ f.Instep ≤ 5000) ∧ (500 ≤ f.Heel ∧ f.Heel ≤ 5000)) (hg : (500 ≤ g.Length ∧ g.Length ≤ 5000) ∧ (500 ≤ g.Ball ∧ g.Ball ≤ 5000) ∧ (500 ≤ g.Instep ∧ g.Instep ≤ 5000) ∧ (500 ≤ g.Heel ∧ g.Heel ≤ 5000)) {k : Nat} (h : k < 4) : -4500 ≤ (difI f g)[k]'(dif_lt h) ∧ (difI f g)[k]'(dif_lt h) ≤ 4500 := by
  rcases (by omega : k = 0 ∨ k = 1 ∨ k = 2 ∨ k = 3) with rfl | rfl | rfl | rfl
  · show -4500 ≤ g.Length - f.Length ∧ g.Length - f.Length ≤ 4500; omega
  · show -4500 ≤ g.Ball - f.Ball ∧ g.Ball - f.Ball ≤ 4500; omega
  · show -4500 ≤ g.Instep - f.Instep ∧ g.Instep - f.Instep ≤ 4500; omega
  · show -4500 ≤ g.Heel - f.Heel ∧ g.Heel - f.Heel ≤ 4500; omega
theorem run_max2 (P : Program) (ts : Array TypeId) (t : TypeId) (a b : Int) (w : World) : (Builtin.max_ ts t #[.int .i64 a, .int .i64 b]).run P w = .ok (.int .i64 (max a b)) w := by
  have hm : ∀ a b : Int, (if a < b then b else a) = max a b := fun a b => by split <;> omega
  simp [Builtin.max_, Builtin.max2, go_sem, hm]
set_option maxRecDepth 100000 in
set_option maxHeartbeats 8000000 in
theorem lawFootPairs (a : Option Addr) (L : List UInt8) (c : Nat) (a' : Option Addr) (M : List UInt8) (c' : Nat) (w : World) (hx : At w a L) (hlx : L.length ≤ 9223372036854775807) (hy : At w a' M) (hly : M.length ≤ 9223372036854775807) (hT : TabR w) :
    Calls Tryz.prog 5 #[.slice a L.length c, .slice a' M.length c'] w fun e w' => e = .returned (.bool true) ∧ Below w.heap.size w w' := by
  have hlong := a2Long_c a a' L M c c' w
  by_cases hg : 3000 < L.length ∨ 3000 < M.length
  · have e : (decide (3000 < L.length) || decide (3000 < M.length)) = true := by simpa using hg
    rw [e] at hlong
    go_enter Tryz.func5, Tryz.ntmps5
    go_wp2_with (go_at_call 8; refine hlong.mono ?_; rintro e w1 ⟨rfl, rfl⟩)
    go_ret
    exact ⟨rfl, Below.refl _ _⟩
  · have e : (decide (3000 < L.length) || decide (3000 < M.length)) = false := by simp; omega
    rw [e] at hlong
    have hL3 : L.length ≤ 3000 := by omega
    have hM3 : M.length ≤ 3000 := by omega
    clear e hg
    have hFf := (footD_is L 0 0).ok
    have hFg := (footD_is M 0 0).ok
    have c1 := Lib.hid (A2Foot_d a L c w hx hlx)
    have c2 := Lib.hid (fun w' h => A2Foot_d a' M c' w' h hly)
    generalize footD L 0 0 = f at *
    generalize footD M 0 0 = g at *
    have k1 := Lib.hid (fun w' => largerFoot_ok f g w' hFf hFg)
    have k2 := Lib.hid (fun w' => largerFoot_ok g f w' hFg hFf)
    rw [maxFoot_comm g f] at k2
    have k3 := Lib.hid (fun w' => differenceOf_ok f g w' hFf hFg)
    have k4 := Lib.hid (fun w' => differenceOf_ok g f w' hFg hFf)
    have k5 := Lib.hid (fun b cb w' h => spreadOf_ok b f g cb w' h hFf hFg)
    have k6 := Lib.hid (fun w' h => footText_ok f w' hFf h)
    have k7 := Lib.hid (fun w' h => readFoot_ok f w' hFf h)
    have rf := okFoot_iff.1 hFf
    have rg' := okFoot_iff.1 hFg
    obtain ⟨X, hX⟩ : ∃ X, X = maxFoot f g := ⟨_, rfl⟩
    obtain ⟨S, hS⟩ : ∃ S, S = sprFoot f g := ⟨_, rfl⟩
    rw [← hX] at k1 k2
    rw [← hS] at k5
    replace hX := Lib.hid hX
    replace hS := Lib.hid hS
    have D := Lib.hid (Sp.refl w)
    replace hT := Lib.hid hT
    replace hy := Lib.hid hy
    clear hx hlx hly hL3 hM3 hFf hFg
    replace rf := Lib.hid rf
    replace rg' := Lib.hid rg'
    go_enter Tryz.func5, Tryz.ntmps5
    go_wp2_with (go_at_call 8; refine hlong.mono ?_; rintro e w1 ⟨rfl, rfl⟩)
    clear hlong
    refine (c1.out).mono ?_
    rintro e w2 ⟨rfl, hb⟩
    replace hT := Lib.hid (hT.out.below hb)
    replace D := Lib.hid (D.out.later hb)
    clear hb
    obtain ⟨wn, hwn⟩ : ∃ wn, wn = w2.alloc (.cells #[.int .i64 f.Length, .int .i64 f.Ball, .int .i64 f.Instep, .int .i64 f.Heel] 25) := ⟨_, rfl⟩
    replace D := Lib.hid (D.out.add (w' := wn) (by rw [hwn]; exact newB w2 _) (by rw [hwn]; exact own_footC w2 25 f))
    replace hT := Lib.hid (hT.out.below (w' := wn) (by rw [hwn]; exact newB w2 _))
    replace hwn := Lib.hid hwn
    clear c1
    go_wp2_with (rw [← hwn.out])
    obtain ⟨nf, hblk⟩ : ∃ b, b = w2.heap.size := ⟨_, rfl⟩
    rw [← hblk] at D ⊢
    clear hblk hwn w2
    refine (c2.out _ (hy.out.below D.out.up)).mono ?_
    rintro e w2 ⟨rfl, hb⟩
    replace hT := Lib.hid (hT.out.below hb)
    replace D := Lib.hid (D.out.later hb)
    clear hb
    obtain ⟨wn, hwn⟩ : ∃ wn, wn = w2.alloc (.cells #[.int .i64 g.Length, .int .i64 g.Ball, .int .i64 g.Instep, .int .i64 g.Heel] 25) := ⟨_, rfl⟩
    replace D := Lib.hid (D.out.add (w' := wn) (by rw [hwn]; exact newB w2 _) (by rw [hwn]; exact own_footC w2 25 g))
    replace hT := Lib.hid (hT.out.below (w' := wn) (by rw [hwn]; exact newB w2 _))
    replace hwn := Lib.hid hwn
    clear c2 hy
    obtain ⟨f0, f1, f2, f3⟩ := footC_cells (D.out.get 1 rfl)
    obtain ⟨g0, g1, g2, g3⟩ := footC_cells (D.out.get 0 rfl)
    obtain ⟨ng, hng⟩ : ∃ b, b = w2.heap.size := ⟨_, rfl⟩
    go_wp2_with (rw [← hwn.out])
    rw [← hng] at D g0 g1 g2 g3 ⊢
    clear hng hwn w2
    refine (k1.out _).mono ?_
    rintro e w2 ⟨rfl, hb⟩
    replace hT := Lib.hid (hT.out.below hb)
    replace D := Lib.hid (D.out.later hb)
    clear hb
    clear k1
    obtain ⟨wn, hwn⟩ : ∃ wn, wn = w2.alloc (.cells #[.int .i64 X.Length, .int .i64 X.Ball, .int .i64 X.Instep, .int .i64 X.Heel] 25) := ⟨_, rfl⟩
    replace D := Lib.hid (D.out.add (w' := wn) (by rw [hwn]; exact newB w2 _) (by rw [hwn]; exact own_footC w2 25 X))
    replace hT := Lib.hid (hT.out.below (w' := wn) (by rw [hwn]; exact newB w2 _))
    replace hwn := Lib.hid hwn
    clear f0 f1 f2 f3 g0 g1 g2 g3
    obtain ⟨f0, f1, f2, f3⟩ := footC_cells (D.out.get 2 rfl)
    obtain ⟨g0, g1, g2, g3⟩ := footC_cells (D.out.get 1 rfl)
    obtain ⟨nx, hnx⟩ : ∃ b, b = w2.heap.size := ⟨_, rfl⟩
    go_wp2_with (rw [← hwn.out])
    rw [← hnx] at D ⊢
    clear hnx hwn w2
    refine (k2.out _).mono ?_
    rintro e w2 ⟨rfl, hb⟩
    replace hT := Lib.hid (hT.out.below hb)
    replace D := Lib.hid (D.out.later hb)
    clear hb
    clear k2
    obtain ⟨wn, hwn⟩ : ∃ wn, wn = w2.alloc (.cells #[.int .i64 X.Length, .int .i64 X.Ball, .int .i64 X.Instep, .int .i64 X.Heel] 25) := ⟨_, rfl⟩
    replace D := Lib.hid (D.out.add (w' := wn) (by rw [hwn]; exact newB w2 _) (by rw [hwn]; exact own_footC w2 25 X))
    replace hT := Lib.hid (hT.out.below (w' := wn) (by rw [hwn]; exact newB w2 _))
    replace hwn := Lib.hid hwn
    clear f0 f1 f2 f3 g0 g1 g2 g3
    obtain ⟨f0, f1, f2, f3⟩ := footC_cells (D.out.get 3 rfl)
    obtain ⟨g0, g1, g2, g3⟩ := footC_cells (D.out.get 2 rfl)
    obtain ⟨ny, hny⟩ : ∃ b, b = w2.heap.size := ⟨_, rfl⟩
    go_wp2_with (rw [← hwn.out])
    rw [← hny] at D ⊢
    clear hny hwn w2
    refine (k3.out _).mono ?_
    rintro e w2 ⟨v, rfl, hO, hb⟩
    obtain ⟨ad, cd, rfl, -⟩ := hO.at
    replace hT := Lib.hid (hT.out.below hb)
    replace D := Lib.hid (D.out.add hb hO)
    clear hb hO
    clear k3
    clear f0 f1 f2 f3 g0 g1 g2 g3
    obtain ⟨f0, f1, f2, f3⟩ := footC_cells (D.out.get 4 rfl)
    obtain ⟨g0, g1, g2, g3⟩ := footC_cells (D.out.get 3 rfl)
    go_wp2_with fail
    refine (k4.out _).mono ?_
    rintro e w2 ⟨v, rfl, hO, hb⟩
    obtain ⟨ae, ce, rfl, -⟩ := hO.at
    replace hT := Lib.hid (hT.out.below hb)
    replace D := Lib.hid (D.out.add hb hO)
    clear hb hO
    clear k4
    clear f0 f1 f2 f3 g0 g1 g2 g3
    obtain ⟨f0, f1, f2, f3⟩ := footC_cells (D.out.get 5 rfl)
    obtain ⟨g0, g1, g2, g3⟩ := footC_cells (D.out.get 4 rfl)
    obtain ⟨w5, hw5⟩ : ∃ w5, w5 = w2.alloc (.cells #[.int .i64 f.Length, .int .i64 f.Ball, .int .i64 f.Instep, .int .i64 f.Heel, .int .i64 g.Length, .int .i64 g.Ball, .int .i64 g.Instep, .int .i64 g.Heel] 25) := ⟨_, rfl⟩
    replace hT := Lib.hid (hT.out.below (w' := w5) (by rw [hw5]; exact newB w2 _))
    replace D := Lib.hid (D.out.add (w' := w5) (by rw [hw5]; exact newB w2 _) (by rw [hw5]; exact own_alloc w2 25 _ [f, g] rfl (by show 2 ≤ 1048576; omega)))
    replace hw5 := Lib.hid hw5
    go_wp2_with (rw [← hw5.out])
    clear hw5
    refine (k5.out _ _ _ (D.out.get 0 rfl : Own _ _ _ _ [f, g]).at').mono ?_
    rintro e w2 ⟨rfl, hb⟩
    replace hT := Lib.hid (hT.out.below hb)
    replace D := Lib.hid (D.out.later hb)
    clear hb
    clear k5
    obtain ⟨wn, hwn⟩ : ∃ wn, wn = w2.alloc (.cells #[.int .i64 S.Length, .int .i64 S.Ball, .int .i64 S.Instep, .int .i64 S.Heel] 25) := ⟨_, rfl⟩
    replace D := Lib.hid (D.out.add (w' := wn) (by rw [hwn]; exact newB w2 _) (by rw [hwn]; exact own_footC w2 25 S))
    replace hT := Lib.hid (hT.out.below (w' := wn) (by rw [hwn]; exact newB w2 _))
    replace hwn := Lib.hid hwn
    clear f0 f1 f2 f3 g0 g1 g2 g3
    obtain ⟨f0, f1, f2, f3⟩ := footC_cells (D.out.get 7 rfl)
    obtain ⟨ns, hns⟩ : ∃ b, b = w2.heap.size := ⟨_, rfl⟩
    go_wp2_with (rw [← hwn.out])
    rw [← hns] at D ⊢
    clear hns hwn
    refine (k6.out _ hT.out.tab).mono ?_
    rintro e w2 ⟨rfl, hb⟩
    replace hT := Lib.hid (hT.out.below hb)
    replace D := Lib.hid (D.out.later hb)
    clear hb
    clear k6
    clear f0 f1 f2 f3
    go_wp2_with fail
    refine (k7.out _ hT.out).mono ?_
    rintro e w2 ⟨rfl, hb⟩
    replace hT := Lib.hid (hT.out.below hb)
    replace D := Lib.hid (D.out.later hb)
    clear hb
    clear k7
    obtain ⟨wn, hwn⟩ : ∃ wn, wn = w2.alloc (.cells #[.int .i64 f.Length, .int .i64 f.Ball, .int .i64 f.Instep, .int .i64 f.Heel] 25) := ⟨_, rfl⟩
    replace D := Lib.hid (D.out.add (w' := wn) (by rw [hwn]; exact newB w2 _) (by rw [hwn]; exact own_footC w2 25 f))
    replace hT := Lib.hid (hT.out.below (w' := wn) (by rw [hwn]; exact newB w2 _))
    replace hwn := Lib.hid hwn
    obtain ⟨f0, f1, f2, f3⟩ := footC_cells (D.out.get 8 rfl)
    obtain ⟨g0, g1, g2, g3⟩ := footC_cells (D.out.get 7 rfl)
    obtain ⟨x0, x1, x2, x3⟩ := footC_cells (D.out.get 6 rfl)
    obtain ⟨y0, y1, y2, y3⟩ := footC_cells (D.out.get 5 rfl)
    obtain ⟨s0, s1, s2, s3⟩ := footC_cells (D.out.get 1 rfl)
    obtain ⟨b0, b1, b2, b3⟩ := footC_cells (D.out.get 0 rfl)
    obtain ⟨nb, hnb⟩ : ∃ b, b = w2.heap.size := ⟨_, rfl⟩
    have q1 := fun w' => foot_same X.Length X.Ball X.Instep X.Heel w'
    have q2 := fun w' => foot_same f.Length f.Ball f.Instep f.Heel w'
    go_wp2_with (rw [← hwn.out])
    clear q1 q2
    rw [← hnb] at D b0 b1 b2 b3 ⊢
    clear hnb hwn hT b0 b1 b2 b3
    have Ad := Lib.hid (D.out.get 4 rfl : Own _ _ _ _ (difI f g)).at'
    have Ae := Lib.hid (D.out.get 3 rfl : Own _ _ _ _ (difI g f)).at'
    go_loopw [19] (fun i wr => ∃ k : Nat, k ≤ 4 ∧ i = .int .i64 k ∧ Below wn.heap.size wn wr) (fun i _ => 4 - (intOf i).toNat)
    case atStart => exact ⟨0, by omega, rfl, Below.refl _ _⟩
    case round =>
      obtain ⟨k, hk, rfl, hbr⟩ := hrel
      obtain ⟨wc, hwc⟩ : ∃ wo : World, wo = wr := ⟨_, rfl⟩
      subst hwc
      by_cases hlt : k < 4
      · have hltI : (k : Int) < 4 := by omega
        obtain ⟨gd, od, rfl⟩ := Ad.out.addr (show k < (difI f g).length from hlt)
        obtain ⟨ge, oe, rfl⟩ := Ae.out.addr (show k < (difI g f).length from hlt)
        have d1 := (Ad.out.below hbr).int (i := k) (dif_lt hlt)
        have d2 := (Ae.out.below hbr).int (i := k) (dif_lt hlt)
        have hneg := dif_neg' f g hlt
        have hr1 := dif_range (f := f) (g := g) rf.out rg'.out hlt
        generalize (difI f g)[k]'(dif_lt hlt) = P at *
        generalize (difI g f)[k]'(dif_lt hlt) = Q at *
        have hPQ : (P != -Q) = false := by rw [hneg]; simp
        have hQr : -4500 ≤ Q ∧ Q ≤ 4500 := by omega
        clear hneg hr1
        replace d1 := rg d1
        replace d2 := rg d2
        go_wp2_with fail
        refine wp_region_quiet_below (by kernel_rfl) (by kernel_rfl) ?_
        repeat (go_big_quiet_step ((fail)))
        refine wpQuiet_nil ?_
        intro wq hw'
        have hbq := grown_of hw'
        clear hw'
        replace hbr := upw hbr hbq
        clear hbq
        go_wp2_with fail
        go_roundw
        case rel => exact ⟨k + 1, by omega, by first | rfl | go_num, hbr⟩
        case measure => first | (simp [intOf]; done) | (simp [intOf]; omega)
      · obtain rfl : k = 4 := by omega
        replace D := Lib.hid (D.out.later hbr)
        clear hlt hk
        obtain ⟨gd, od, rfl⟩ := Ad.out.addr (show 0 < (difI f g).length by show 0 < 4; omega)
        have Ac := Ad.out.below hbr
        have d0 : wc.cell? ⟨gd, od, none⟩ = some (.int .i64 (g.Length - f.Length)) := Ac.int (i := 0) (show 0 < 4 by omega)
        have d1 : wc.cell? ⟨gd, od + 1, none⟩ = some (.int .i64 (g.Ball - f.Ball)) := Ac.int (i := 1) (show 1 < 4 by omega)
        have d2 : wc.cell? ⟨gd, od + 2, none⟩ = some (.int .i64 (g.Instep - f.Instep)) := Ac.int (i := 2) (show 2 < 4 by omega)
        have d3 : wc.cell? ⟨gd, od + 3, none⟩ = some (.int .i64 (g.Heel - f.Heel)) := Ac.int (i := 3) (show 3 < 4 by omega)
        obtain ⟨s0, s1, s2, s3⟩ := footC_cells (D.out.get 1 rfl)
        rw [hS.out] at s0 s1 s2 s3
        dsimp only [sprFoot] at s0 s1 s2 s3
        obtain ⟨f0, f1, f2, f3⟩ := footC_cells (D.out.get 8 rfl)
        obtain ⟨g0, g1, g2, g3⟩ := footC_cells (D.out.get 7 rfl)
        have r1 := rf.out
        have r2 := rg'.out
        obtain ⟨P0, hP0⟩ : ∃ P, P = g.Length - f.Length := ⟨_, rfl⟩
        obtain ⟨P1, hP1⟩ : ∃ P, P = g.Ball - f.Ball := ⟨_, rfl⟩
        obtain ⟨P2, hP2⟩ : ∃ P, P = g.Instep - f.Instep := ⟨_, rfl⟩
        obtain ⟨P3, hP3⟩ : ∃ P, P = g.Heel - f.Heel := ⟨_, rfl⟩
        rw [← hP0] at d0 s0
        rw [← hP1] at d1 s1
        rw [← hP2] at d2 s2
        rw [← hP3] at d3 s3
        have z0 := Lib.hid (fun w' => a2Size_c P0 w' (by omega))
        have z1 := Lib.hid (fun w' => a2Size_c P1 w' (by omega))
        have z2 := Lib.hid (fun w' => a2Size_c P2 w' (by omega))
        have z3 := Lib.hid (fun w' => a2Size_c P3 w' (by omega))
        have u0 : IntKind.i64.wrap (f.Length + P0) = g.Length := by rw [hP0, IntWalk.i64_in _ (by omega)]; omega
        have u3 : IntKind.i64.wrap (f.Heel + P3) = g.Heel := by rw [hP3, IntWalk.i64_in _ (by omega)]; omega
        clear hP0 hP1 hP2 hP3 r1 r2 f1 f2 g1 g2 Ac
        generalize size P0 = S0 at *
        generalize size P1 = S1 at *
        generalize size P2 = S2 at *
        generalize size P3 = S3 at *
        replace s0 := rg s0
        replace s1 := rg s1
        replace s2 := rg s2
        replace s3 := rg s3
        replace d0 := rg d0
        replace d1 := rg d1
        replace d2 := rg d2
        replace d3 := rg d3
        replace f0 := rg f0
        replace f3 := rg f3
        replace g0 := rg g0
        replace g3 := rg g3
        go_wp2_with fail
        refine wp_region_quiet_below (by kernel_rfl) (by kernel_rfl) ?_
        repeat (go_big_quiet_step ((go_at_call 48; first | (with_reducible exact Calls.regrown_same (z0.out _)) | (with_reducible exact Calls.regrown_same (z1.out _)) | (with_reducible exact Calls.regrown_same (z2.out _)) | (with_reducible exact Calls.regrown_same (z3.out _)))))
        refine wpQuiet_nil ?_
        intro wq hw'
        have hbq := grown_of hw'
        clear hw'
        replace D := Lib.hid (D.out.later hbq)
        clear hbq u0 u3 s0 s1 s2 s3 d0 d1 d2 d3 f0 f3 g0 g3 z0 z1 z2 z3
        obtain ⟨wd, hwd⟩ : ∃ wo : World, wo = wq := ⟨_, rfl⟩
        subst hwd
        obtain ⟨f0, f1, f2, f3⟩ := footC_cells (D.out.get 8 rfl)
        obtain ⟨g0, g1, g2, g3⟩ := footC_cells (D.out.get 7 rfl)
        obtain ⟨x0, x1, x2, x3⟩ := footC_cells (D.out.get 6 rfl)
        rw [hX.out] at x0 x1 x2 x3
        dsimp only [maxFoot] at x0 x1 x2 x3
        have hmx := run_max2 Tryz.prog
        have e0 : (max f.Length g.Length == max f.Length g.Length) = true := by simp
        have e1 : (max f.Ball g.Ball == max f.Ball g.Ball) = true := by simp
        have e2 : (max f.Instep g.Instep == max f.Instep g.Instep) = true := by simp
        have e3 : (max f.Heel g.Heel == max f.Heel g.Heel) = true := by simp
        go_wp2_with fail
        go_ret
        exact ⟨rfl, D.out.up⟩

end Go.Proofs.YtledlkggggpdpaaGreatDoor
