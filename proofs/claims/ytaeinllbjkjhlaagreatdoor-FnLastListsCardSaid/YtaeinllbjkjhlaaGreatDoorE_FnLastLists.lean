/- FnLastLists: for all bytes the law returns true, and the bytes read behind the call as before. -/
import Derived.Test.YtaeinllbjkjhlaaGreatDoorLas4
import Derived.Test.YtaeinllbjkjhlaaGreatDoorLas5
import Derived.Test.YtaeinllbjkjhlaaGreatDoorLastsD
import Derived.Test.YtaeinllbjkjhlaaGreatDoorA2
namespace Go.Proofs.YtaeinllbjkjhlaaGreatDoor
open Go.ChangeShapes Go.WideShapes Go.ChangeAt Go.RowKit

theorem own_nilcapL {α : Type} [Flat α] {B : Nat} {w : World} {e : TypeId} {a : Option Addr} {n c : Nat} {xs : List α} (h : Own B w e (.slice a n c) xs) : a = none → c = 0 := by
  intro ha
  subst ha
  rcases h.2 with ⟨h', _⟩ | ⟨g, cap, cur, h', _⟩
  · simp only [Value.slice.injEq] at h'; exact h'.2.2
  · simp at h'
theorem near_ok {f : Foot} {x : Last} (hf : DrawnF f) (hx : NearL derby f x) : okLast x = true := nearN_ok hf (by simp [lastNames, derby]) hx
theorem last_same (n : ByteArray) (a b c d e : Int) (w : World) : (binOp .neq 30 (.agg #[.string n, .int .i64 a, .int .i64 b, .int .i64 c, .int .i64 d, .int .i64 e]) (.agg #[.string n, .int .i64 a, .int .i64 b, .int .i64 c, .int .i64 d, .int .i64 e])).run Tryz.prog w = .ok (.bool false) w := by
  simp [go_sem]
attribute [local go_sem ↓] last_same
set_option maxRecDepth 100000 in
set_option maxHeartbeats 8000000 in
theorem lawLastLists (a : Option Addr) (L : List UInt8) (c : Nat) (a' : Option Addr) (M : List UInt8) (c' : Nat) (w : World) (hx : At w a L) (hlx : L.length ≤ 9223372036854775807) (hy : At w a' M) (hly : M.length ≤ 9223372036854775807) (hT : TabR w) :
    Calls Tryz.prog 3 #[.slice a L.length c, .slice a' M.length c'] w fun e w' => e = .returned (.bool true) ∧ Below w.heap.size w w' := by
  have hlong := a2Long_c a a' L M c c' w
  by_cases hg : 3000 < L.length ∨ 3000 < M.length
  · have e : (decide (3000 < L.length) || decide (3000 < M.length)) = true := by simpa using hg
    rw [e] at hlong
    go_enter Tryz.func3, Tryz.ntmps3
    go_wp2_with (go_at_call 5; refine hlong.mono ?_; rintro e w1 ⟨rfl, rfl⟩)
    go_ret
    exact ⟨rfl, Below.refl _ _⟩
  · have e : (decide (3000 < L.length) || decide (3000 < M.length)) = false := by simp; omega
    rw [e] at hlong
    have hL3 : L.length ≤ 3000 := by omega
    have hM3 : M.length ≤ 3000 := by omega
    clear e hg
    have hFf := footD_is L 0 0
    have c1 := Lib.hid (A2Foot_d a L c w hx hlx)
    have c2 := Lib.hid (fun w' h => A2Lasts_c a L c (footD L 0 0) w' h hlx hFf)
    have c3 := Lib.hid (fun w' h => A2Last_c a' M c' w' h hly)
    have hFm := footD_is M 0 0
    have hNr := Lib.hid (fun (xs : List Last) (h : NearS (footD L 0 0) 7 xs) => (⟨h.ok hFf (Nat.le_refl _), h.len⟩ : OkLasts xs ∧ xs.length ≤ 7))
    have hNx := Lib.hid (fun (x : Last) (h : NearL derby (footD M 0 0) x) => (⟨near_ok hFm h, by rw [h.name]; decide⟩ : okLast x = true ∧ x.Name.size ≤ 100))
    generalize footD L 0 0 = f at *
    generalize footD M 0 0 = g at *
    have D := Lib.hid (Sp.refl w)
    have hT0 := Lib.hid hT
    replace hx := Lib.hid hx
    replace hy := Lib.hid hy
    clear hT hlx hly hL3 hM3 hFf hFm
    go_enter Tryz.func3, Tryz.ntmps3
    go_wp2_with (go_at_call 5; refine hlong.mono ?_; rintro e w1 ⟨rfl, rfl⟩)
    clear hlong
    refine (c1.out).mono ?_
    rintro e w2 ⟨rfl, hb⟩
    replace D := Lib.hid (D.out.later hb)
    clear hb
    clear c1
    obtain ⟨wn, hwn⟩ : ∃ wn, wn = w2.alloc (.cells #[.int .i64 f.Length, .int .i64 f.Ball, .int .i64 f.Instep, .int .i64 f.Heel] 25) := ⟨_, rfl⟩
    replace D := Lib.hid (D.out.add (w' := wn) (by rw [hwn]; exact newB w2 _) (by rw [hwn]; exact own_footC w2 25 f))
    replace hwn := Lib.hid hwn
    obtain ⟨f0, f1, f2, f3⟩ := footC_cells (D.out.get 0 rfl)
    obtain ⟨nf, hnf⟩ : ∃ b, b = w2.heap.size := ⟨_, rfl⟩
    go_wp2_with (rw [← hwn.out])
    clear f0 f1 f2 f3
    rw [← hnf] at D ⊢
    clear hnf hwn w2
    refine (c2.out _ (hx.out.below D.out.up)).mono ?_
    rintro e w2 ⟨v, xs, rfl, hN, hO, hb⟩
    obtain ⟨la, lc, rfl, -⟩ := hO.at
    replace D := Lib.hid (D.out.add hb hO)
    clear hb hO
    obtain ⟨okx, hl7⟩ := hNr.out xs hN
    clear c2 hNr hN
    replace okx := Lib.hid okx
    go_wp2_with fail
    refine (c3.out _ (hy.out.below D.out.up)).mono ?_
    rintro e w2 ⟨x, rfl, hN, hb⟩
    replace D := Lib.hid (D.out.later hb)
    clear hb
    obtain ⟨hk, hxs⟩ := hNx.out x hN
    have hnm := (okLast_iff2.1 hk).1
    have hxs2 : x.Name.size ≤ 9223372036854775807 := by omega
    clear c3 hNx hN hxs hx hy
    have d1 := Lib.hid (fun w' hT' => lastText_ok x w' hk hT')
    have d2 := Lib.hid (fun w' hT' => readLast_ok x w' hk hT')
    have d3 := Lib.hid (fun w' h => specLastNamed_c la xs lc x.Name w' h okx.out hnm hxs2)
    generalize lastTxt x = T at d1 d2
    obtain ⟨wn, hwn⟩ : ∃ wn, wn = w2.alloc (.cells #[.string x.Name, .int .i64 x.Length, .int .i64 x.Ball, .int .i64 x.Instep, .int .i64 x.Heel, .int .i64 x.Pitch] 30) := ⟨_, rfl⟩
    replace D := Lib.hid (D.out.add (w' := wn) (by rw [hwn]; exact newB w2 _) (by rw [hwn]; exact own_lastC w2 30 x))
    replace hwn := Lib.hid hwn
    obtain ⟨x0, x1, x2, x3, x4, x5⟩ := lastC_cells (D.out.get 0 rfl : Own _ _ _ _ (lastC x))
    obtain ⟨nx, hnx⟩ : ∃ b, b = w2.heap.size := ⟨_, rfl⟩
    cases hh : hasNm xs x.Name
    · have e1 := Lib.hid (fun w' h hc => addLast_new la xs lc x w' h hc okx.out hk hxs2 hh (by omega))
      rw [hh] at d3
      simp only [Bool.false_eq_true, if_false] at d3
      have hcap := own_nilcapL (D.out.get 1 rfl : Own _ _ _ _ xs)
      go_wp2_with (rw [← hwn.out])
      clear x0 x1 x2 x3 x4 x5
      rw [← hnx] at D ⊢
      clear hwn hnx w2
      refine (e1.out _ (D.out.get 1 rfl : Own _ _ _ _ xs).at' hcap).mono ?_
      rintro e w2 ⟨v, i, rfl, hP, hO, hb⟩
      clear e1 hcap
      obtain ⟨ys, okY, hlY, hiY, hYi, hof, hO⟩ : ∃ ys : List Last, OkLasts ys ∧ ys.length = xs.length + 1 ∧ ∃ (hi : i < ys.length), ys[i] = x ∧ (∀ (k : Nat) (hk : k < xs.length), ∃ j, ∃ (hj : j < ys.length), ys[j] = xs[k]) ∧ Own wn.heap.size w2 30 v ys := by
        have hiY : i < (insL xs i x).length := by rw [insL_len hP.le]; have := hP.le; omega
        refine ⟨insL xs i x, ins_ok okx.out hP hh hk hxs2 (by omega), insL_len hP.le, hiY, ?_, fun k hk => insL_of hP.le hk, hO⟩
        have := insL_at (x := x) hP.le
        rw [List.getElem?_eq_getElem hiY] at this
        exact Option.some.inj this
      replace okY := Lib.hid okY
      replace hof := Lib.hid hof
      clear hP hh
      obtain ⟨ya, yc, rfl, -⟩ := hO.at
      replace D := Lib.hid (D.out.add hb hO)
      clear hb hO
      have hlq := Lib.hid hlY
      clear hlY
      have hhas := Lib.hid (place_yes (nm := x.Name) hiY (by rw [hYi]; simp [nmEq]))
      have e2 := Lib.hid (fun w' h => lastNamed_c ya ys yc x.Name w' h okY.out hnm hxs2 hhas.out)
      have e3 := Lib.hid (fun w' h => specValidLasts_ok ya ys yc w' h okY.out)
      have hlys : ys.length ≤ 8 := by have := hlq.out; omega
      obtain ⟨x0, x1, x2, x3, x4, x5⟩ := lastC_cells (D.out.get 1 rfl : Own _ _ _ _ (lastC x))
      go_wp2_with fail
      clear x0 x1 x2 x3 x4 x5
      refine (d1.out _ (hT0.out.below D.out.up).tab).mono ?_
      rintro e w2 ⟨rfl, hb⟩
      replace D := Lib.hid (D.out.later hb)
      clear hb
      go_wp2_with fail
      refine (d2.out _ (hT0.out.below D.out.up)).mono ?_
      rintro e w2 ⟨rfl, hb⟩
      replace D := Lib.hid (D.out.later hb)
      clear hb
      clear d1 d2
      obtain ⟨wn, hwn⟩ : ∃ wn, wn = w2.alloc (.cells #[.string x.Name, .int .i64 x.Length, .int .i64 x.Ball, .int .i64 x.Instep, .int .i64 x.Heel, .int .i64 x.Pitch] 30) := ⟨_, rfl⟩
      replace D := Lib.hid (D.out.add (w' := wn) (by rw [hwn]; exact newB w2 _) (by rw [hwn]; exact own_lastC w2 30 x))
      replace hwn := Lib.hid hwn
      obtain ⟨x0, x1, x2, x3, x4, x5⟩ := lastC_cells (D.out.get 2 rfl : Own _ _ _ _ (lastC x))
      obtain ⟨nb, hnb⟩ : ∃ b, b = w2.heap.size := ⟨_, rfl⟩
      go_wp2_with (rw [← hwn.out])
      clear x0 x1 x2 x3 x4 x5
      rw [← hnb] at D ⊢
      clear hnb hwn w2
      refine (d3.out _ (D.out.get 3 rfl : Own _ _ _ _ xs).at').mono ?_
      rintro e w2 ⟨rfl, hb⟩
      replace D := Lib.hid (D.out.later hb)
      clear hb d3
      obtain ⟨b0, b1, b2, b3, b4, b5⟩ := lastC_cells (D.out.get 0 rfl : Own _ _ _ _ (lastC x))
      obtain ⟨x0, x1, x2, x3, x4, x5⟩ := lastC_cells (D.out.get 2 rfl : Own _ _ _ _ (lastC x))
      go_wp2_with fail
      refine (e2.out _ (D.out.get 1 rfl : Own _ _ _ _ ys).at').mono ?_
      rintro e w2 ⟨q, rfl, hP, hb⟩
      replace D := Lib.hid (D.out.later hb)
      clear hb e2 b0 b1 b2 b3 b4 b5 x0 x1 x2 x3 x4 x5
      have hqi : q = i := by
        have hP2 : PlaceOf ys ys[i].Name q := by rw [hYi]; exact hP
        exact place_at okY.out hiY hP2
      subst hqi
      clear hP
      obtain ⟨x0, x1, x2, x3, x4, x5⟩ := lastC_cells (D.out.get 2 rfl : Own _ _ _ _ (lastC x))
      obtain ⟨bk, off, hae⟩ := (D.out.get 1 rfl : Own _ _ _ _ ys).at'.addr hiY
      obtain rfl := hae
      obtain ⟨y0, y1, y2, y3, y4, y5⟩ := (D.out.get 1 rfl : Own _ _ _ _ ys).at'.last hiY
      rw [hYi] at y0 y1 y2 y3 y4 y5
      have hqI : (q : Int) < ys.length := by omega
      have hqD : decide ((q : Int) < 0) = false := decide_eq_false (by omega)
      have hqE : decide ((ys.length : Int) ≤ q) = false := decide_eq_false (by omega)
      have hlI : ((ys.length : Int) != (xs.length : Int) + 1) = false := by simp [hlq.out]
      have hqN : decide (ys.length ≤ q) = false := decide_eq_false (by omega)
      have hlN : (ys.length == xs.length + 1) = true := by simp [hlq.out]
      have hw0 : IntKind.i64.wrap ((xs.length : Int) + 1) = (xs.length : Int) + 1 := IntWalk.i64_in _ (by omega)
      clear hYi hiY
      go_wp2_with fail
      replace x0 := rg x0
      replace x1 := rg x1
      replace x2 := rg x2
      replace x3 := rg x3
      replace x4 := rg x4
      replace x5 := rg x5
      replace y0 := rg y0
      replace y1 := rg y1
      replace y2 := rg y2
      replace y3 := rg y3
      replace y4 := rg y4
      replace y5 := rg y5
      have hYA := Lib.hid (D.out.get 1 rfl : Own _ _ _ _ ys).at'
      refine wp_region_quiet_below (by kernel_rfl) (by kernel_rfl) ?_
      repeat (go_big_quiet_step ((go_at_call 14; exact Calls.regrown_of (e3.out _ (hYA.out.below (grown_of ⟨⟨_, _⟩, rfl⟩))))))
      refine wpQuiet_nil ?_
      intro wq hw'
      have hb := grown_of hw'
      clear hw'
      replace D := Lib.hid (D.out.later hb)
      clear hb e3 hYA x0 x1 x2 x3 x4 x5 y0 y1 y2 y3 y4 y5 hqI hqD hqE hlI hw0 hqN hlN
      go_wp2_with fail
      obtain ⟨wb, hwb⟩ : ∃ wo : World, wo = wq := ⟨_, rfl⟩
      subst hwb
      go_loopw [16, 17, 18] (fun i _ _ wr => ∃ k : Nat, k ≤ xs.length ∧ i = .int .i64 k ∧ Below wb.heap.size wb wr) (fun i _ _ _ => xs.length - (intOf i).toNat)
      case atStart => exact ⟨0, by omega, rfl, Below.refl _ _⟩
      case round =>
        obtain ⟨k, hkk, rfl, hbr⟩ := hrel
        by_cases hlt : k < xs.length
        · have hkI : (k : Int) < xs.length := by omega
          obtain ⟨j, hj, hje⟩ := hof.out k hlt
          obtain ⟨ga, go, hga⟩ := (D.out.get 3 rfl : Own _ _ _ _ xs).at'.addr hlt
          obtain rfl := hga
          obtain ⟨z0, z1, z2, z3, z4, z5⟩ := ((D.out.get 3 rfl : Own _ _ _ _ xs).at'.below hbr).last hlt
          have ho1 := okLast_iff2.1 (okx.out.ok _ (List.getElem_mem hlt))
          have ho2 := okx.out.size _ (List.getElem_mem hlt)
          have hhs := Lib.hid (place_yes (nm := xs[k].Name) hj (by rw [hje]; simp [nmEq]))
          have e4 := Lib.hid (fun w' h => lastNamed_c (some ⟨bk, off, none⟩) ys yc xs[k].Name w' h okY.out ho1.1 ho2 hhs.out)
          have hpl := Lib.hid (fun (q : Nat) (h : PlaceOf ys xs[k].Name q) => place_at okY.out hj (by rw [hje]; exact h : PlaceOf ys ys[j].Name q))
          go_wp2_with fail
          refine (e4.out _ ((D.out.get 1 rfl : Own _ _ _ _ ys).at'.below hbr)).mono ?_
          rintro e w3 ⟨q2, rfl, hP2, hb⟩
          obtain rfl := hpl.out _ hP2
          replace hbr := upw hbr hb
          clear hb e4 hpl hP2 hhs ho1 ho2 z0 z1 z2 z3 z4 z5
          obtain ⟨z0, z1, z2, z3, z4, z5⟩ := ((D.out.get 3 rfl : Own _ _ _ _ xs).at'.below hbr).last hlt
          obtain ⟨y0, y1, y2, y3, y4, y5⟩ := ((D.out.get 1 rfl : Own _ _ _ _ ys).at'.below hbr).last hj
          rw [hje] at y0 y1 y2 y3 y4 y5
          have hjI : (q2 : Int) < ys.length := by omega
          have hjD : decide ((q2 : Int) < 0) = false := decide_eq_false (by omega)
          have hjE : decide ((ys.length : Int) ≤ q2) = false := decide_eq_false (by omega)
          have hjN : decide (ys.length ≤ q2) = false := decide_eq_false (by omega)
          generalize xs[k] = z at *
          clear hje
          go_wp2_with fail
          replace z0 := rg z0
          replace z1 := rg z1
          replace z2 := rg z2
          replace z3 := rg z3
          replace z4 := rg z4
          replace z5 := rg z5
          replace y0 := rg y0
          replace y1 := rg y1
          replace y2 := rg y2
          replace y3 := rg y3
          replace y4 := rg y4
          replace y5 := rg y5
          refine wp_region_quiet_below (by kernel_rfl) (by kernel_rfl) ?_
          repeat (go_big_quiet_step (fail))
          refine wpQuiet_nil ?_
          intro wq hw'
          have hb := grown_of hw'
          clear hw'
          replace hbr := upw hbr hb
          clear hb
          go_wp2_with fail
          go_roundw
          case rel => exact ⟨k + 1, by omega, by first | rfl | go_num, hbr⟩
          case measure => first | (simp [intOf]; done) | (simp [intOf]; omega)
        · obtain rfl : k = xs.length := by omega
          go_wp2_with fail
          go_ret
          exact ⟨rfl, upw D.out.up hbr⟩
    · have e1 := Lib.hid (fun w' h => addLast_known la xs lc x w' h okx.out hk hxs2 hh)
      rw [hh] at d3
      simp only [if_true] at d3
      obtain ⟨k, hkl, e, hq⟩ := firstIdx_at hh
      rw [e] at d3
      unfold nmEq at hq
      clear e
      go_wp2_with (rw [← hwn.out])
      clear x0 x1 x2 x3 x4 x5
      rw [← hnx] at D ⊢
      clear hwn hnx w2
      refine (e1.out _ (D.out.get 1 rfl : Own _ _ _ _ xs).at').mono ?_
      rintro e w2 ⟨rfl, hb⟩
      replace D := Lib.hid (D.out.later hb)
      clear hb
      clear e1
      obtain ⟨x0, x1, x2, x3, x4, x5⟩ := lastC_cells (D.out.get 0 rfl : Own _ _ _ _ (lastC x))
      go_wp2_with fail
      clear x0 x1 x2 x3 x4 x5
      refine (d1.out _ (hT0.out.below D.out.up).tab).mono ?_
      rintro e w2 ⟨rfl, hb⟩
      replace D := Lib.hid (D.out.later hb)
      clear hb
      go_wp2_with fail
      refine (d2.out _ (hT0.out.below D.out.up)).mono ?_
      rintro e w2 ⟨rfl, hb⟩
      replace D := Lib.hid (D.out.later hb)
      clear hb
      clear d1 d2
      obtain ⟨wn, hwn⟩ : ∃ wn, wn = w2.alloc (.cells #[.string x.Name, .int .i64 x.Length, .int .i64 x.Ball, .int .i64 x.Instep, .int .i64 x.Heel, .int .i64 x.Pitch] 30) := ⟨_, rfl⟩
      replace D := Lib.hid (D.out.add (w' := wn) (by rw [hwn]; exact newB w2 _) (by rw [hwn]; exact own_lastC w2 30 x))
      replace hwn := Lib.hid hwn
      obtain ⟨x0, x1, x2, x3, x4, x5⟩ := lastC_cells (D.out.get 1 rfl : Own _ _ _ _ (lastC x))
      obtain ⟨nb, hnb⟩ : ∃ b, b = w2.heap.size := ⟨_, rfl⟩
      go_wp2_with (rw [← hwn.out])
      clear x0 x1 x2 x3 x4 x5
      rw [← hnb] at D ⊢
      clear hnb hwn w2
      refine (d3.out _ (D.out.get 2 rfl : Own _ _ _ _ xs).at').mono ?_
      rintro e w2 ⟨rfl, hb⟩
      replace D := Lib.hid (D.out.later hb)
      clear hb d3
      obtain ⟨b0, b1, b2, b3, b4, b5⟩ := lastC_cells (D.out.get 0 rfl : Own _ _ _ _ (lastC x))
      obtain ⟨x0, x1, x2, x3, x4, x5⟩ := lastC_cells (D.out.get 1 rfl : Own _ _ _ _ (lastC x))
      obtain ⟨bk, off, hae⟩ := (D.out.get 2 rfl : Own _ _ _ _ xs).at'.addr hkl
      obtain rfl := hae
      obtain ⟨y0, -, -, -, -, -⟩ := (D.out.get 2 rfl : Own _ _ _ _ xs).at'.last hkl
      have hkI : (k : Int) < xs.length := by omega
      generalize xs[k] = y at *
      go_wp2_with fail
      replace y0 := rg y0
      replace x0 := rg x0
      refine wp_region_quiet_below (by kernel_rfl) (by kernel_rfl) ?_
      repeat (go_big_quiet_step (fail))
      refine wpQuiet_nil ?_
      intro wq hw'
      have hb := grown_of hw'
      clear hw'
      go_wp2_with fail
      go_ret
      exact ⟨rfl, upw D.out.up hb⟩
end Go.Proofs.YtaeinllbjkjhlaaGreatDoor
