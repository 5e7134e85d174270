/- FnScales: for all bytes the law returns true, and the bytes read behind the call as before. -/
import Derived.Test.YtaeinllbjkjhlaaDoorS05
import Derived.Test.YtaeinllbjkjhlaaDoorS06
import Derived.Test.YtaeinllbjkjhlaaDoorS07
import Derived.Test.YtaeinllbjkjhlaaDoorS08
import Derived.Test.YtaeinllbjkjhlaaDoorScMath
import Derived.Test.YtaeinllbjkjhlaaDoorF6
namespace Go.Proofs.YtaeinllbjkjhlaaDoor
open Go.ChangeShapes Go.WideShapes Go.ChangeAt Go.RowKit

theorem len_lh {x : Scl} {h : Int} (e : scCode x h 120 = 0) : (0 ≤ lhN x h ∧ lhN x h ≤ 220000) ∧ 1 ≤ lhD x h ∧ lhD x h ≤ 100 := by
  obtain ⟨ok, h0, h1⟩ := scCode_zero e
  obtain ⟨e1, e2⟩ := lh_ok e
  rw [e1, e2]
  exact len_bound ok ⟨h0, h1⟩
theorem more_facts {y : Scl} {m : Int} (e : scCode y m 120 = 0) (hm : m < 120) : scCode y (m + 1) 120 = 0 ∧ ((0 ≤ lhN y m ∧ lhN y m ≤ 220000) ∧ 1 ≤ lhD y m ∧ lhD y m ≤ 100) ∧ ((0 ≤ lhN y (m + 1) ∧ lhN y (m + 1) ≤ 220000) ∧ 1 ≤ lhD y (m + 1) ∧ lhD y (m + 1) ≤ 100) ∧ lhN y m * lhD y (m + 1) < lhN y (m + 1) * lhD y m := by
  obtain ⟨ok, h0, h1⟩ := scCode_zero e
  have e' : scCode y (m + 1) 120 = 0 := scCode_ok ok (inr_true.2 ⟨by omega, by omega⟩)
  refine ⟨e', len_lh e, len_lh e', ?_⟩
  obtain ⟨e1, e2⟩ := lh_ok e
  obtain ⟨e3, e4⟩ := lh_ok e'
  rw [e1, e2, e3, e4]
  exact len_more ok
theorem half_facts {x : Scl} {n : Int} (e : hfCode x n = 0) : scCode x (hfHalf x n) 120 = 0 ∧ (0 ≤ hfHalf x n ∧ hfHalf x n ≤ 120) ∧ (0 ≤ n ∧ n ≤ 5000) ∧ ((0 ≤ lhN x (hfHalf x n) ∧ lhN x (hfHalf x n) ≤ 220000) ∧ 1 ≤ lhD x (hfHalf x n) ∧ lhD x (hfHalf x n) ≤ 100) ∧ n * lhD x (hfHalf x n) ≤ lhN x (hfHalf x n) ∧
    (0 < hfHalf x n → scCode x (hfHalf x n - 1) 120 = 0 ∧ ((0 ≤ lhN x (hfHalf x n - 1) ∧ lhN x (hfHalf x n - 1) ≤ 220000) ∧ 1 ≤ lhD x (hfHalf x n - 1) ∧ lhD x (hfHalf x n - 1) ≤ 100) ∧ lhN x (hfHalf x n - 1) < n * lhD x (hfHalf x n - 1)) := by
  by_cases h0 : scCode x n 5000 = 0
  · have e1 : hfHalf x n = (least x n 121 0).getD 0 := if_pos h0
    have e2 : hfCode x n = if (least x n 121 0).isSome then 0 else 3 := if_pos h0
    obtain ⟨ok, n0, n1⟩ := scCode_zero h0
    cases hl : least x n 121 0 with
    | none => rw [e2, hl] at e; cases e
    | some k =>
      rw [hl] at e1
      rw [e1]
      show scCode x k 120 = 0 ∧ _
      obtain ⟨l1, l2, l3, l4⟩ := least_is 121 0 k hl
      have c1 : scCode x k 120 = 0 := scCode_ok ok (inr_true.2 ⟨by omega, by omega⟩)
      obtain ⟨d1, d2⟩ := lh_ok c1
      have b1 := len_lh c1
      refine ⟨c1, ⟨l2, by show k ≤ 120; omega⟩, ⟨n0, n1⟩, b1, ?_, fun hk => ?_⟩
      · show n * lhD x k ≤ lhN x k
        rw [d1, d2]; exact (long_iff ok).1 l1
      · have hk' : 0 < k := hk
        have c2 : scCode x (k - 1) 120 = 0 := scCode_ok ok (inr_true.2 ⟨by omega, by omega⟩)
        obtain ⟨d3, d4⟩ := lh_ok c2
        refine ⟨c2, len_lh c2, ?_⟩
        show lhN x (k - 1) < n * lhD x (k - 1)
        rw [d3, d4]
        apply Classical.byContradiction
        intro hc
        have := (long_iff (n := n) (h := k - 1) ok).2 (by omega)
        rw [l4 (k - 1) (by omega) (by omega)] at this
        cases this
  · have e2 : hfCode x n = scCode x n 5000 := if_neg h0
    exact absurd (e2 ▸ e) h0
theorem sizeT_size (t : Int) : (sizeT t).size ≤ 1048576 := by
  cases h : inr t 0 120
  · rw [sizeT_bad h]; decide
  · rw [sizeT_ok h]
    have hr := inr_true.1 h
    have := decT_size (t / 2) (by omega) (by omega)
    unfold szTxt
    split
    · omega
    · rw [ByteArray.size_append]
      have e2 : (⟨#[46, 53]⟩ : ByteArray).size = 2 := rfl
      omega
theorem size_facts (t : Int) : ((readSz (sizeT t)).isSome = true ∧ (readSz (sizeT t)).getD 0 = t ∧ (sizeT t).toList ≠ []) ∨ ((readSz (sizeT t)).isSome = false ∧ sizeT t = ⟨#[]⟩) := by
  cases h : inr t 0 120
  · refine Or.inr ⟨?_, sizeT_bad h⟩
    rw [sizeT_bad h, readSz_none fun u _ e => szTxt_pos u e]; rfl
  · refine Or.inl ?_
    rw [sizeT_ok h, readSz_some h rfl]
    refine ⟨rfl, rfl, fun e => szTxt_pos t ?_⟩
    rw [Lib.toList_data] at e
    exact Go.WideShapes.bytes_inj e
def EndR (R : Act → World → Prop) (e : Exit) (a : Act) (w : World) : Prop := e = .normal ∧ R a w
theorem slots_intro {F : (Nat → Value) → Array Value} {a : Act} {w : World} {P : World → Prop} (hd : a.defers = []) (h : a.tmps = F (fun k => a.tmps.getD k undef)) (hp : P w) : ∃ u, a = ⟨F u, []⟩ ∧ P w :=
  ⟨fun k => a.tmps.getD k undef, by cases a; simp only at hd h; rw [hd, ← h], hp⟩
theorem mul_in {a b A B : Int} (a0 : 0 ≤ a) (a1 : a ≤ A) (b0 : 0 ≤ b) (b1 : b ≤ B) : 0 ≤ a * b ∧ a * b ≤ A * B :=
  ⟨Int.mul_nonneg a0 b0, Int.mul_le_mul a1 b1 b0 (by omega)⟩
theorem frac_same (a b : Int) (w : World) : (binOp .neq 31 (.agg #[.int .i64 a, .int .i64 b]) (.agg #[.int .i64 a, .int .i64 b])).run Tryd.prog w = .ok (.bool false) w := by
  simp [go_sem]
theorem scl_same (n : ByteArray) (a b c : Int) (w : World) : (binOp .neq 25 (.agg #[.string n, .int .i64 a, .int .i64 b, .int .i64 c]) (.agg #[.string n, .int .i64 a, .int .i64 b, .int .i64 c])).run Tryd.prog w = .ok (.bool false) w := by
  simp [go_sem]
attribute [local go_sem ↓] frac_same scl_same
set_option maxRecDepth 100000 in
set_option maxHeartbeats 8000000 in
theorem lawScales (ca : Option Addr) (L : List UInt8) (cc : Nat) (w : World) (hx : At w ca L) (hl : L.length ≤ 9223372036854775807) (hT : TabR w) :
    Calls Tryd.prog 3 #[.slice ca L.length cc] w fun e w' => e = .returned (.bool true) ∧ Below w.heap.size w w' := by
  have hbig := f6big_c ca L.length cc w
  by_cases hg : 4096 < L.length
  · have e : decide (4096 < L.length) = true := by simpa using hg
    rw [e] at hbig
    go_enter Tryd.func3, Tryd.ntmps3
    go_wp2_with fail
    refine hbig.mono ?_
    rintro e w1 ⟨rfl, rfl⟩
    go_wp2_with fail
    go_ret
    exact ⟨rfl, Below.refl _ _⟩
  · have e : decide (4096 < L.length) = false := by simpa using hg
    rw [e] at hbig
    clear e
    have D := Lib.hid (Sp.refl w)
    replace hT := Lib.hid hT
    replace hx := Lib.hid hx
    go_enter Tryd.func3, Tryd.ntmps3
    go_wp2_with fail
    refine hbig.mono ?_
    rintro e w1 ⟨rfl, rfl⟩
    clear hbig hg
    go_wp2_with fail
    refine (drawHalfFor_c ca L cc _ (hx.out.below D.out.up) hl).mono ?_
    rintro e w2 ⟨x, n, rfl, hxs, hn, hb⟩
    replace hT := Lib.hid (hT.out.below hb)
    replace D := Lib.hid (D.out.later hb)
    clear hb
    have hxs2 : x.name.size ≤ 9223372036854775807 := by omega
    clear hxs
    have k1 := Lib.hid (fun w' => implHalfFor_c x n w' hxs2)
    have k2 := Lib.hid (fun w' => specHalfFor_c x n w' hxs2)
    have k3 := Lib.hid (fun w' => implNearestHalf_c x n w' hxs2)
    have k4 := Lib.hid (fun w' => specNearestHalf_c x n w' hxs2)
    have k5 := Lib.hid (fun w' => implLengthOfHalf_c x (hfHalf x n) w' hxs2)
    have k6 := Lib.hid (fun w' => implLengthOfHalf_c x (hfHalf x n - 1) w' hxs2)
    have k7 := Lib.hid (fun w' => implValidScale_c x w' hxs2)
    have k8 := Lib.hid (fun w' => specValidScale_c x w' hxs2)
    have fH := Lib.hid (half_facts (x := x) (n := n))
    generalize okScl x = vx at k7 k8
    obtain ⟨H, hH⟩ : ∃ H, H = hfHalf x n := ⟨_, rfl⟩
    rw [← hH] at k1 k2 k5 k6 fH
    clear hH
    generalize hfCode x n = B at *
    generalize nhHalf x n = N at *
    generalize scCode x n 5000 = C1 at *
    generalize scCode x H 120 = C6 at *
    generalize scCode x (H - 1) 120 = C7 at *
    generalize lhN x H = e1 at *
    generalize lhD x H = e2 at *
    generalize lhN x (H - 1) = l1 at *
    generalize lhD x (H - 1) = l2 at *
    clear hxs2 hn
    obtain ⟨wn, hwn⟩ : ∃ wn, wn = w2.alloc (.cells #[.string x.name, .int .i64 x.base, .int .i64 x.num, .int .i64 x.den] 25) := ⟨_, rfl⟩
    replace D := Lib.hid (D.out.add (w' := wn) (by rw [hwn]; exact newB w2 _) (by rw [hwn]; exact own_sclC w2 25 x))
    replace hT := Lib.hid (hT.out.below (w' := wn) (by rw [hwn]; exact newB w2 _))
    replace hwn := Lib.hid hwn
    obtain ⟨x0, x1, x2, x3⟩ := sclC_cells (D.out.get 0 rfl : Own _ _ _ _ (sclC x))
    obtain ⟨nx, hnx⟩ : ∃ b, b = w2.heap.size := ⟨_, rfl⟩
    go_wp2_with (rw [← hwn.out])
    clear x0 x1 x2 x3
    rw [← hnx] at D ⊢
    clear hnx hwn w2
    refine (k1.out _).mono ?_
    rintro e w2 ⟨rfl, hb⟩
    replace hT := Lib.hid (hT.out.below hb)
    replace D := Lib.hid (D.out.later hb)
    clear hb
    clear k1
    obtain ⟨x0, x1, x2, x3⟩ := sclC_cells (D.out.get 0 rfl : Own _ _ _ _ (sclC x))
    go_wp2_with fail
    clear x0 x1 x2 x3
    refine (k2.out _).mono ?_
    rintro e w2 ⟨rfl, hb⟩
    replace hT := Lib.hid (hT.out.below hb)
    replace D := Lib.hid (D.out.later hb)
    clear hb
    clear k2
    obtain ⟨x0, x1, x2, x3⟩ := sclC_cells (D.out.get 0 rfl : Own _ _ _ _ (sclC x))
    go_wp2_with fail
    clear x0 x1 x2 x3
    refine (k3.out _).mono ?_
    rintro e w2 ⟨rfl, hb⟩
    replace hT := Lib.hid (hT.out.below hb)
    replace D := Lib.hid (D.out.later hb)
    clear hb
    clear k3
    obtain ⟨x0, x1, x2, x3⟩ := sclC_cells (D.out.get 0 rfl : Own _ _ _ _ (sclC x))
    go_wp2_with fail
    clear x0 x1 x2 x3
    refine (k4.out _).mono ?_
    rintro e w2 ⟨rfl, hb⟩
    replace hT := Lib.hid (hT.out.below hb)
    replace D := Lib.hid (D.out.later hb)
    clear hb
    clear k4
    go_wp2_with fail
    refine (drawLengthOfHalf_c ca L cc _ (hx.out.below D.out.up) hl).mono ?_
    rintro e w2 ⟨y, m, rfl, hys, hm, hb⟩
    replace hT := Lib.hid (hT.out.below hb)
    replace D := Lib.hid (D.out.later hb)
    clear hb
    have hys2 : y.name.size ≤ 9223372036854775807 := by omega
    clear hys
    have k1 := Lib.hid (fun w' => implLengthOfHalf_c y m w' hys2)
    have k2 := Lib.hid (fun w' => specLengthOfHalf_c y m w' hys2)
    have k3 := Lib.hid (fun w' => implLengthOfHalf_c y (m + 1) w' hys2)
    have fM := Lib.hid (more_facts (y := y) (m := m))
    generalize lhN y m = f1 at *
    generalize lhD y m = f2 at *
    generalize scCode y m 120 = C3 at *
    generalize lhN y (m + 1) = g1 at *
    generalize lhD y (m + 1) = g2 at *
    generalize scCode y (m + 1) 120 = C4 at *
    clear hys2
    obtain ⟨wn, hwn⟩ : ∃ wn, wn = w2.alloc (.cells #[.string y.name, .int .i64 y.base, .int .i64 y.num, .int .i64 y.den] 25) := ⟨_, rfl⟩
    replace D := Lib.hid (D.out.add (w' := wn) (by rw [hwn]; exact newB w2 _) (by rw [hwn]; exact own_sclC w2 25 y))
    replace hT := Lib.hid (hT.out.below (w' := wn) (by rw [hwn]; exact newB w2 _))
    replace hwn := Lib.hid hwn
    obtain ⟨y0, y1, y2, y3⟩ := sclC_cells (D.out.get 0 rfl : Own _ _ _ _ (sclC y))
    obtain ⟨ny, hny⟩ : ∃ b, b = w2.heap.size := ⟨_, rfl⟩
    go_wp2_with (rw [← hwn.out])
    clear y0 y1 y2 y3
    rw [← hny] at D ⊢
    clear hny hwn w2
    refine (k1.out _).mono ?_
    rintro e w2 ⟨rfl, hb⟩
    replace hT := Lib.hid (hT.out.below hb)
    replace D := Lib.hid (D.out.later hb)
    clear hb
    clear k1
    obtain ⟨wn, hwn⟩ : ∃ wn, wn = w2.alloc (.cells #[.int .i64 f1, .int .i64 f2] 31) := ⟨_, rfl⟩
    replace D := Lib.hid (D.out.add (w' := wn) (by rw [hwn]; exact newB w2 _) (by rw [hwn]; exact own_frac w2 31 ⟨f1, f2⟩))
    replace hT := Lib.hid (hT.out.below (w' := wn) (by rw [hwn]; exact newB w2 _))
    replace hwn := Lib.hid hwn
    obtain ⟨y0, y1, y2, y3⟩ := sclC_cells (D.out.get 1 rfl : Own _ _ _ _ (sclC y))
    obtain ⟨nf, hnf⟩ : ∃ b, b = w2.heap.size := ⟨_, rfl⟩
    go_wp2_with (rw [← hwn.out])
    clear y0 y1 y2 y3
    rw [← hnf] at D ⊢
    clear hnf hwn w2
    refine (k2.out _).mono ?_
    rintro e w2 ⟨rfl, hb⟩
    replace hT := Lib.hid (hT.out.below hb)
    replace D := Lib.hid (D.out.later hb)
    clear hb
    clear k2
    obtain ⟨wn, hwn⟩ : ∃ wn, wn = w2.alloc (.cells #[.int .i64 f1, .int .i64 f2] 31) := ⟨_, rfl⟩
    replace D := Lib.hid (D.out.add (w' := wn) (by rw [hwn]; exact newB w2 _) (by rw [hwn]; exact own_frac w2 31 ⟨f1, f2⟩))
    replace hT := Lib.hid (hT.out.below (w' := wn) (by rw [hwn]; exact newB w2 _))
    replace hwn := Lib.hid hwn
    obtain ⟨nl, hnl⟩ : ∃ b, b = w2.heap.size := ⟨_, rfl⟩
    go_wp2_with (rw [← hwn.out])
    rw [← hnl] at D ⊢
    clear hnl hwn w2
    refine (drawScaleNamed_c ca L cc _ (hx.out.below D.out.up) hl).mono ?_
    rintro e w2 ⟨nm, rfl, _, hb⟩
    replace hT := Lib.hid (hT.out.below hb)
    replace D := Lib.hid (D.out.later hb)
    clear hb
    have k1 := Lib.hid (fun w' => implScaleNamed_c nm w')
    have k2 := Lib.hid (fun w' => specScaleNamed_c nm w')
    generalize snOf nm = z at *
    generalize snCode nm = C5 at *
    go_wp2_with fail
    refine (k1.out _).mono ?_
    rintro e w2 ⟨rfl, hb⟩
    replace hT := Lib.hid (hT.out.below hb)
    replace D := Lib.hid (D.out.later hb)
    clear hb
    clear k1
    obtain ⟨wn, hwn⟩ : ∃ wn, wn = w2.alloc (.cells #[.string z.name, .int .i64 z.base, .int .i64 z.num, .int .i64 z.den] 25) := ⟨_, rfl⟩
    replace D := Lib.hid (D.out.add (w' := wn) (by rw [hwn]; exact newB w2 _) (by rw [hwn]; exact own_sclC w2 25 z))
    replace hT := Lib.hid (hT.out.below (w' := wn) (by rw [hwn]; exact newB w2 _))
    replace hwn := Lib.hid hwn
    obtain ⟨nz, hnz⟩ : ∃ b, b = w2.heap.size := ⟨_, rfl⟩
    go_wp2_with (rw [← hwn.out])
    rw [← hnz] at D ⊢
    clear hnz hwn w2
    refine (k2.out _).mono ?_
    rintro e w2 ⟨rfl, hb⟩
    replace hT := Lib.hid (hT.out.below hb)
    replace D := Lib.hid (D.out.later hb)
    clear hb
    clear k2
    obtain ⟨wn, hwn⟩ : ∃ wn, wn = w2.alloc (.cells #[.string z.name, .int .i64 z.base, .int .i64 z.num, .int .i64 z.den] 25) := ⟨_, rfl⟩
    replace D := Lib.hid (D.out.add (w' := wn) (by rw [hwn]; exact newB w2 _) (by rw [hwn]; exact own_sclC w2 25 z))
    replace hT := Lib.hid (hT.out.below (w' := wn) (by rw [hwn]; exact newB w2 _))
    replace hwn := Lib.hid hwn
    obtain ⟨nv, hnv⟩ : ∃ b, b = w2.heap.size := ⟨_, rfl⟩
    go_wp2_with (rw [← hwn.out])
    rw [← hnv] at D ⊢
    clear hnv hwn w2
    refine (drawSizeText_c ca L cc _ (hx.out.below D.out.up) hl).mono ?_
    rintro e w2 ⟨t, rfl, t0, t1, hb⟩
    replace hT := Lib.hid (hT.out.below hb)
    replace D := Lib.hid (D.out.later hb)
    clear hb
    have k1 := Lib.hid (fun w' h => implSizeText_c t w' (by omega) h)
    have k2 := Lib.hid (fun w' => specSizeText_c t w' (by omega))
    have k4 := Lib.hid (fun w' h => implReadSize_c (sizeT t) w' h (sizeT_size t))
    have fT := size_facts t
    obtain ⟨T, hTT⟩ : ∃ T, T = sizeT t := ⟨_, rfl⟩
    rw [← hTT] at k1 k2 k4 fT
    unfold numRes at k4
    generalize (readSz T).getD 0 = R1 at *
    generalize (readSz T).isSome = okb at *
    replace fT := Lib.hid fT
    clear hTT t0 t1
    go_wp2_with fail
    refine (k1.out _ hT.out.tab).mono ?_
    rintro e w2 ⟨rfl, hb⟩
    replace hT := Lib.hid (hT.out.below hb)
    replace D := Lib.hid (D.out.later hb)
    clear hb
    clear k1
    go_wp2_with fail
    refine (k4.out _ hT.out).mono ?_
    rintro e w2 ⟨rfl, hb⟩
    replace hT := Lib.hid (hT.out.below hb)
    replace D := Lib.hid (D.out.later hb)
    clear hb
    clear k4
    go_wp2_with fail
    refine (drawReadSize_c ca L cc _ (hx.out.below D.out.up) hl).mono ?_
    rintro e w2 ⟨s, rfl, hs, hb⟩
    replace hT := Lib.hid (hT.out.below hb)
    replace D := Lib.hid (D.out.later hb)
    clear hb
    have k1 := Lib.hid (fun w' h => implReadSize_c s w' h (by omega))
    have k4 := Lib.hid (fun w' => specReadSize_c s w' (by omega))
    unfold numRes at k1 k4
    generalize (readSz s).getD 0 = R2 at *
    generalize (readSz s).isSome = okc at *
    clear hs
    go_wp2_with fail
    refine (k1.out _ hT.out).mono ?_
    rintro e w2 ⟨rfl, hb⟩
    replace hT := Lib.hid (hT.out.below hb)
    replace D := Lib.hid (D.out.later hb)
    clear hb
    clear k1
    go_wp2_with fail
    refine (k4.out _).mono ?_
    rintro e w2 ⟨rfl, hb⟩
    replace hT := Lib.hid (hT.out.below hb)
    replace D := Lib.hid (D.out.later hb)
    clear hb
    clear k4 hx hl hT
    obtain ⟨l0, l1⟩ := frac_cells (D.out.get 2 rfl : Own _ _ _ _ [(⟨f1, f2⟩ : Frac)])
    obtain ⟨f0, f1⟩ := frac_cells (D.out.get 3 rfl : Own _ _ _ _ [(⟨f1, f2⟩ : Frac)])
    obtain ⟨z0, z1, z2, z3⟩ := sclC_cells (D.out.get 1 rfl : Own _ _ _ _ (sclC z))
    obtain ⟨v0, v1, v2, v3⟩ := sclC_cells (D.out.get 0 rfl : Own _ _ _ _ (sclC z))
    obtain ⟨x0, x1, x2, x3⟩ := sclC_cells (D.out.get 5 rfl : Own _ _ _ _ (sclC x))
    go_wp2_with fail
    obtain ⟨R, hRe⟩ : ∃ R : Act → World → Prop, R = fun a' w' => ∃ u : Nat → Value, a' = ⟨#[u 0, u 1, u 2, .pointer (some ⟨nx, 0, none⟩), .int .i64 n, .int .i64 H, .int .i64 B, u 7, u 8, u 9, u 10, u 11, u 12, .pointer (some ⟨ny, 0, none⟩), .int .i64 m, .pointer (some ⟨nf, 0, none⟩), .int .i64 C3, u 17, u 18, u 19, u 20, u 21, u 22, u 23, u 24, u 25, u 26, u 27, u 28, u 29, u 30, u 31, u 32, u 33, u 34, u 35, u 36, u 37, u 38, u 39, u 40, u 41, u 42, u 43, u 44, u 45, u 46, u 47, u 48, u 49, u 50, u 51, u 52, u 53, u 54, u 55, u 56, u 57, u 58, u 59, u 60, u 61, u 62, u 63, u 64, u 65, u 66, u 67, u 68, u 69, u 70, u 71, u 72, u 73, u 74, u 75, u 76, u 77, u 78, u 79, u 80, u 81, u 82, u 83, u 84, u 85, u 86, u 87, u 88, u 89, u 90, u 91, u 92, u 93, u 94, u 95, u 96, u 97, u 98, u 99, u 100, u 101, u 102, u 103, u 104, u 105, u 106, u 107, u 108, u 109, u 110, u 111, u 112, u 113, u 114, u 115, u 116, u 117, u 118, u 119, u 120, u 121, u 122, u 123, u 124, u 125, u 126, u 127, u 128, u 129, u 130, u 131, u 132, u 133, u 134, u 135, u 136, u 137, u 138, u 139, u 140, u 141, u 142, u 143, u 144, u 145, u 146, u 147, u 148, u 149, u 150, u 151, u 152, u 153, u 154, u 155, u 156, u 157, u 158, u 159, u 160, u 161, u 162, u 163, u 164, u 165, u 166, u 167, u 168, u 169, u 170, u 171, u 172, u 173, u 174, u 175, u 176, u 177, u 178, u 179, u 180, u 181, u 182, u 183, u 184, u 185, u 186, u 187, u 188, u 189, u 190, u 191, u 192, u 193, .bool false, undef, undef, undef, undef, undef, undef, undef, undef, undef, undef, undef, undef, undef, undef, undef, undef, undef, undef, undef, undef, undef, undef, undef, undef, undef, undef, undef, undef, undef, undef, undef, undef, undef, undef, undef, undef, undef, undef, undef, undef, undef, undef, undef, undef, undef, undef, undef, undef, undef, undef, undef, undef, undef, undef, undef, undef, undef, undef, undef, undef, undef, undef, undef, undef, undef, undef, undef, undef, undef, undef, undef, undef, undef, undef, undef, undef, undef, undef, undef, undef, undef, undef, undef, undef, undef, undef, undef, undef, undef, undef, undef, undef, undef, undef, undef, undef, undef, undef, undef, undef, undef, undef], []⟩ ∧ Below w2.heap.size w2 w' := ⟨_, rfl⟩
    replace hRe := Lib.hid hRe
    refine Code.wp_mono (Q := EndR R) ?_ ?_
    rotate_left
    · clear D fH fM k3 k5 k6
      rcases fT.out with ⟨rfl, rfl, hne⟩ | ⟨rfl, rfl⟩
      · have hne' : (T.toList == ({ data := #[] } : ByteArray).toList) = false := by simpa using hne
        have hne2 : (T.toList == []) = false := by simpa using hne
        have hne3 : T.toList.isEmpty = false := by simpa using hne
        replace l0 := rg l0
        replace l1 := rg l1
        replace f0 := rg f0
        replace f1 := rg f1
        replace z0 := rg z0
        replace z1 := rg z1
        replace z2 := rg z2
        replace z3 := rg z3
        replace v0 := rg v0
        replace v1 := rg v1
        replace v2 := rg v2
        replace v3 := rg v3
        replace x0 := rg x0
        replace x1 := rg x1
        replace x2 := rg x2
        replace x3 := rg x3
        refine wp_region_quiet_below (by kernel_rfl) (by kernel_rfl) ?_
        dsimp only [List.append]
        repeat (go_big_quiet_step ((first | (go_at_call 21; exact Calls.regrown_of (k2.out _)) | (go_at_call 22; exact Calls.regrown_of (k7.out _)) | (go_at_call 23; exact Calls.regrown_of (k8.out _)))))
        refine wpQuiet_nil ?_
        intro wq hw'
        have hb := grown_of hw'
        clear hw'
        refine ⟨rfl, ?_⟩
        rw [hRe.out]
        refine slots_intro (F := fun u => #[u 0, u 1, u 2, .pointer (some ⟨nx, 0, none⟩), .int .i64 n, .int .i64 H, .int .i64 B, u 7, u 8, u 9, u 10, u 11, u 12, .pointer (some ⟨ny, 0, none⟩), .int .i64 m, .pointer (some ⟨nf, 0, none⟩), .int .i64 C3, u 17, u 18, u 19, u 20, u 21, u 22, u 23, u 24, u 25, u 26, u 27, u 28, u 29, u 30, u 31, u 32, u 33, u 34, u 35, u 36, u 37, u 38, u 39, u 40, u 41, u 42, u 43, u 44, u 45, u 46, u 47, u 48, u 49, u 50, u 51, u 52, u 53, u 54, u 55, u 56, u 57, u 58, u 59, u 60, u 61, u 62, u 63, u 64, u 65, u 66, u 67, u 68, u 69, u 70, u 71, u 72, u 73, u 74, u 75, u 76, u 77, u 78, u 79, u 80, u 81, u 82, u 83, u 84, u 85, u 86, u 87, u 88, u 89, u 90, u 91, u 92, u 93, u 94, u 95, u 96, u 97, u 98, u 99, u 100, u 101, u 102, u 103, u 104, u 105, u 106, u 107, u 108, u 109, u 110, u 111, u 112, u 113, u 114, u 115, u 116, u 117, u 118, u 119, u 120, u 121, u 122, u 123, u 124, u 125, u 126, u 127, u 128, u 129, u 130, u 131, u 132, u 133, u 134, u 135, u 136, u 137, u 138, u 139, u 140, u 141, u 142, u 143, u 144, u 145, u 146, u 147, u 148, u 149, u 150, u 151, u 152, u 153, u 154, u 155, u 156, u 157, u 158, u 159, u 160, u 161, u 162, u 163, u 164, u 165, u 166, u 167, u 168, u 169, u 170, u 171, u 172, u 173, u 174, u 175, u 176, u 177, u 178, u 179, u 180, u 181, u 182, u 183, u 184, u 185, u 186, u 187, u 188, u 189, u 190, u 191, u 192, u 193, .bool false, undef, undef, undef, undef, undef, undef, undef, undef, undef, undef, undef, undef, undef, undef, undef, undef, undef, undef, undef, undef, undef, undef, undef, undef, undef, undef, undef, undef, undef, undef, undef, undef, undef, undef, undef, undef, undef, undef, undef, undef, undef, undef, undef, undef, undef, undef, undef, undef, undef, undef, undef, undef, undef, undef, undef, undef, undef, undef, undef, undef, undef, undef, undef, undef, undef, undef, undef, undef, undef, undef, undef, undef, undef, undef, undef, undef, undef, undef, undef, undef, undef, undef, undef, undef, undef, undef, undef, undef, undef, undef, undef, undef, undef, undef, undef, undef, undef, undef, undef, undef, undef, undef]) (P := fun w' => Below w2.heap.size w2 w') ?_ ?_ ?_
        · rfl
        · kernel_rfl
        · exact hb
      · replace l0 := rg l0
        replace l1 := rg l1
        replace f0 := rg f0
        replace f1 := rg f1
        replace z0 := rg z0
        replace z1 := rg z1
        replace z2 := rg z2
        replace z3 := rg z3
        replace v0 := rg v0
        replace v1 := rg v1
        replace v2 := rg v2
        replace v3 := rg v3
        replace x0 := rg x0
        replace x1 := rg x1
        replace x2 := rg x2
        replace x3 := rg x3
        refine wp_region_quiet_below (by kernel_rfl) (by kernel_rfl) ?_
        dsimp only [List.append]
        repeat (go_big_quiet_step ((first | (go_at_call 21; exact Calls.regrown_of (k2.out _)) | (go_at_call 22; exact Calls.regrown_of (k7.out _)) | (go_at_call 23; exact Calls.regrown_of (k8.out _)))))
        refine wpQuiet_nil ?_
        intro wq hw'
        have hb := grown_of hw'
        clear hw'
        refine ⟨rfl, ?_⟩
        rw [hRe.out]
        refine slots_intro (F := fun u => #[u 0, u 1, u 2, .pointer (some ⟨nx, 0, none⟩), .int .i64 n, .int .i64 H, .int .i64 B, u 7, u 8, u 9, u 10, u 11, u 12, .pointer (some ⟨ny, 0, none⟩), .int .i64 m, .pointer (some ⟨nf, 0, none⟩), .int .i64 C3, u 17, u 18, u 19, u 20, u 21, u 22, u 23, u 24, u 25, u 26, u 27, u 28, u 29, u 30, u 31, u 32, u 33, u 34, u 35, u 36, u 37, u 38, u 39, u 40, u 41, u 42, u 43, u 44, u 45, u 46, u 47, u 48, u 49, u 50, u 51, u 52, u 53, u 54, u 55, u 56, u 57, u 58, u 59, u 60, u 61, u 62, u 63, u 64, u 65, u 66, u 67, u 68, u 69, u 70, u 71, u 72, u 73, u 74, u 75, u 76, u 77, u 78, u 79, u 80, u 81, u 82, u 83, u 84, u 85, u 86, u 87, u 88, u 89, u 90, u 91, u 92, u 93, u 94, u 95, u 96, u 97, u 98, u 99, u 100, u 101, u 102, u 103, u 104, u 105, u 106, u 107, u 108, u 109, u 110, u 111, u 112, u 113, u 114, u 115, u 116, u 117, u 118, u 119, u 120, u 121, u 122, u 123, u 124, u 125, u 126, u 127, u 128, u 129, u 130, u 131, u 132, u 133, u 134, u 135, u 136, u 137, u 138, u 139, u 140, u 141, u 142, u 143, u 144, u 145, u 146, u 147, u 148, u 149, u 150, u 151, u 152, u 153, u 154, u 155, u 156, u 157, u 158, u 159, u 160, u 161, u 162, u 163, u 164, u 165, u 166, u 167, u 168, u 169, u 170, u 171, u 172, u 173, u 174, u 175, u 176, u 177, u 178, u 179, u 180, u 181, u 182, u 183, u 184, u 185, u 186, u 187, u 188, u 189, u 190, u 191, u 192, u 193, .bool false, undef, undef, undef, undef, undef, undef, undef, undef, undef, undef, undef, undef, undef, undef, undef, undef, undef, undef, undef, undef, undef, undef, undef, undef, undef, undef, undef, undef, undef, undef, undef, undef, undef, undef, undef, undef, undef, undef, undef, undef, undef, undef, undef, undef, undef, undef, undef, undef, undef, undef, undef, undef, undef, undef, undef, undef, undef, undef, undef, undef, undef, undef, undef, undef, undef, undef, undef, undef, undef, undef, undef, undef, undef, undef, undef, undef, undef, undef, undef, undef, undef, undef, undef, undef, undef, undef, undef, undef, undef, undef, undef, undef, undef, undef, undef, undef, undef, undef, undef, undef, undef, undef]) (P := fun w' => Below w2.heap.size w2 w') ?_ ?_ ?_
        · rfl
        · kernel_rfl
        · exact hb
    clear l0 l1 f0 f1 z0 z1 z2 z3 v0 v1 v2 v3 x0 x1 x2 x3
    clear k2 k7 k8 fT
    intro e a' w' hE
    obtain ⟨rfl, hE⟩ := hE
    rw [hRe.out] at hE
    obtain ⟨u, rfl, hb⟩ := hE
    clear hRe
    replace D := Lib.hid (D.out.later hb)
    clear hb
    by_cases hc : C3 = 0
    · subst hc
      by_cases hm2 : m < 120
      · obtain ⟨rfl, ⟨⟨u0, u1⟩, u2, u3⟩, ⟨⟨v0, v1⟩, v2, v3⟩, hlt⟩ := fM.out rfl hm2
        clear fM
        have u6 := mul_in v0 v1 (show 0 ≤ f2 by omega) u3
        have v6 := mul_in u0 u1 (show 0 ≤ g2 by omega) v3
        have hm3 : decide (m < 120) = true := decide_eq_true hm2
        have hm4 : IntKind.i64.wrap (m + 1) = m + 1 := IntWalk.i64_in _ (by omega)
        have c1 : decide (g2 < 1) = false := decide_eq_false (by omega)
        have c2 : decide (100 < g2) = false := decide_eq_false (by omega)
        have c3 : decide (1000000 < g1) = false := decide_eq_false (by omega)
        have c4 : decide (g1 * f2 ≤ f1 * g2) = false := decide_eq_false (by omega)
        by_cases hB : B = 0
        · subst hB
          obtain ⟨rfl, ⟨h0, h1⟩, ⟨n0, n1⟩, ⟨⟨a0, a1⟩, a2, a3⟩, a4, hL⟩ := fH.out rfl
          clear fH
          have a6 := mul_in n0 n1 (show 0 ≤ e2 by omega) a3
          have b1 : decide (e2 < 1) = false := decide_eq_false (by omega)
          have b2 : decide (100 < e2) = false := decide_eq_false (by omega)
          have b3 : decide (e1 < n * e2) = false := decide_eq_false (by omega)
          by_cases hz : H = 0
          · subst hz
            clear hL
            obtain ⟨y0, y1, y2, y3⟩ := sclC_cells (D.out.get 4 rfl : Own _ _ _ _ (sclC y))
            go_wp2_with fail
            clear y0 y1 y2 y3
            refine (k3.out _).mono ?_
            rintro e w2 ⟨rfl, hb⟩
            replace D := Lib.hid (D.out.later hb)
            clear hb
            obtain ⟨wn, hwn⟩ : ∃ wn, wn = w2.alloc (.cells #[.int .i64 g1, .int .i64 g2] 31) := ⟨_, rfl⟩
            replace D := Lib.hid (D.out.add (w' := wn) (by rw [hwn]; exact newB w2 _) (by rw [hwn]; exact own_frac w2 31 ⟨g1, g2⟩))
            replace hwn := Lib.hid hwn
            obtain ⟨g0, g1⟩ := frac_cells (D.out.get 0 rfl : Own _ _ _ _ [(⟨g1, g2⟩ : Frac)])
            obtain ⟨f0, f1⟩ := frac_cells (D.out.get 4 rfl : Own _ _ _ _ [(⟨f1, f2⟩ : Frac)])
            obtain ⟨x0, x1, x2, x3⟩ := sclC_cells (D.out.get 6 rfl : Own _ _ _ _ (sclC x))
            go_wp2_with (rw [← hwn.out])
            clear g0 g1 f0 f1
            clear x0 x1 x2 x3
            refine (k5.out _).mono ?_
            rintro e w2 ⟨rfl, hb⟩
            replace D := Lib.hid (D.out.later hb)
            clear hb
            obtain ⟨wn, hwn⟩ : ∃ wn, wn = w2.alloc (.cells #[.int .i64 e1, .int .i64 e2] 31) := ⟨_, rfl⟩
            replace D := Lib.hid (D.out.add (w' := wn) (by rw [hwn]; exact newB w2 _) (by rw [hwn]; exact own_frac w2 31 ⟨e1, e2⟩))
            replace hwn := Lib.hid hwn
            obtain ⟨e0, e1⟩ := frac_cells (D.out.get 0 rfl : Own _ _ _ _ [(⟨e1, e2⟩ : Frac)])
            go_wp2_with (rw [← hwn.out])
            go_ret
            exact ⟨rfl, D.out.up⟩
          · have hz' : (H == 0) = false := beq_eq_false_iff_ne.2 hz
            obtain ⟨rfl, ⟨⟨p0, p1⟩, p2, p3⟩, p4⟩ := hL (by omega)
            clear hL
            have p6 := mul_in n0 n1 (show 0 ≤ l2 by omega) p3
            have hz3 : IntKind.i64.wrap (H - 1) = H - 1 := IntWalk.i64_in _ (by omega)
            have q1 : decide (1 ≤ l2) = true := decide_eq_true p2
            have q2 : decide (l2 ≤ 100) = true := decide_eq_true p3
            have q3 : decide (l1 < n * l2) = true := decide_eq_true p4
            obtain ⟨y0, y1, y2, y3⟩ := sclC_cells (D.out.get 4 rfl : Own _ _ _ _ (sclC y))
            go_wp2_with fail
            clear y0 y1 y2 y3
            refine (k3.out _).mono ?_
            rintro e w2 ⟨rfl, hb⟩
            replace D := Lib.hid (D.out.later hb)
            clear hb
            obtain ⟨wn, hwn⟩ : ∃ wn, wn = w2.alloc (.cells #[.int .i64 g1, .int .i64 g2] 31) := ⟨_, rfl⟩
            replace D := Lib.hid (D.out.add (w' := wn) (by rw [hwn]; exact newB w2 _) (by rw [hwn]; exact own_frac w2 31 ⟨g1, g2⟩))
            replace hwn := Lib.hid hwn
            obtain ⟨g0, g1⟩ := frac_cells (D.out.get 0 rfl : Own _ _ _ _ [(⟨g1, g2⟩ : Frac)])
            obtain ⟨f0, f1⟩ := frac_cells (D.out.get 4 rfl : Own _ _ _ _ [(⟨f1, f2⟩ : Frac)])
            obtain ⟨x0, x1, x2, x3⟩ := sclC_cells (D.out.get 6 rfl : Own _ _ _ _ (sclC x))
            go_wp2_with (rw [← hwn.out])
            clear g0 g1 f0 f1
            clear x0 x1 x2 x3
            refine (k5.out _).mono ?_
            rintro e w2 ⟨rfl, hb⟩
            replace D := Lib.hid (D.out.later hb)
            clear hb
            obtain ⟨wn, hwn⟩ : ∃ wn, wn = w2.alloc (.cells #[.int .i64 e1, .int .i64 e2] 31) := ⟨_, rfl⟩
            replace D := Lib.hid (D.out.add (w' := wn) (by rw [hwn]; exact newB w2 _) (by rw [hwn]; exact own_frac w2 31 ⟨e1, e2⟩))
            replace hwn := Lib.hid hwn
            obtain ⟨e0, e1⟩ := frac_cells (D.out.get 0 rfl : Own _ _ _ _ [(⟨e1, e2⟩ : Frac)])
            obtain ⟨x0, x1, x2, x3⟩ := sclC_cells (D.out.get 7 rfl : Own _ _ _ _ (sclC x))
            go_wp2_with (rw [← hwn.out])
            clear x0 x1 x2 x3 e0 e1
            refine (k6.out _).mono ?_
            rintro e w2 ⟨rfl, hb⟩
            replace D := Lib.hid (D.out.later hb)
            clear hb
            obtain ⟨wn, hwn⟩ : ∃ wn, wn = w2.alloc (.cells #[.int .i64 l1, .int .i64 l2] 31) := ⟨_, rfl⟩
            replace D := Lib.hid (D.out.add (w' := wn) (by rw [hwn]; exact newB w2 _) (by rw [hwn]; exact own_frac w2 31 ⟨l1, l2⟩))
            replace hwn := Lib.hid hwn
            obtain ⟨l0, l1⟩ := frac_cells (D.out.get 0 rfl : Own _ _ _ _ [(⟨l1, l2⟩ : Frac)])
            go_wp2_with (rw [← hwn.out])
            go_ret
            exact ⟨rfl, D.out.up⟩
        · have hB' : (B != 0) = true := by simp [bne, hB]
          clear fH
          obtain ⟨y0, y1, y2, y3⟩ := sclC_cells (D.out.get 4 rfl : Own _ _ _ _ (sclC y))
          go_wp2_with fail
          clear y0 y1 y2 y3
          refine (k3.out _).mono ?_
          rintro e w2 ⟨rfl, hb⟩
          replace D := Lib.hid (D.out.later hb)
          clear hb
          obtain ⟨wn, hwn⟩ : ∃ wn, wn = w2.alloc (.cells #[.int .i64 g1, .int .i64 g2] 31) := ⟨_, rfl⟩
          replace D := Lib.hid (D.out.add (w' := wn) (by rw [hwn]; exact newB w2 _) (by rw [hwn]; exact own_frac w2 31 ⟨g1, g2⟩))
          replace hwn := Lib.hid hwn
          obtain ⟨g0, g1⟩ := frac_cells (D.out.get 0 rfl : Own _ _ _ _ [(⟨g1, g2⟩ : Frac)])
          obtain ⟨f0, f1⟩ := frac_cells (D.out.get 4 rfl : Own _ _ _ _ [(⟨f1, f2⟩ : Frac)])
          go_wp2_with (rw [← hwn.out])
          go_ret
          exact ⟨rfl, D.out.up⟩
      · have hm3 : decide (m < 120) = false := decide_eq_false hm2
        clear fM
        by_cases hB : B = 0
        · subst hB
          obtain ⟨rfl, ⟨h0, h1⟩, ⟨n0, n1⟩, ⟨⟨a0, a1⟩, a2, a3⟩, a4, hL⟩ := fH.out rfl
          clear fH
          have a6 := mul_in n0 n1 (show 0 ≤ e2 by omega) a3
          have b1 : decide (e2 < 1) = false := decide_eq_false (by omega)
          have b2 : decide (100 < e2) = false := decide_eq_false (by omega)
          have b3 : decide (e1 < n * e2) = false := decide_eq_false (by omega)
          by_cases hz : H = 0
          · subst hz
            clear hL
            obtain ⟨x0, x1, x2, x3⟩ := sclC_cells (D.out.get 5 rfl : Own _ _ _ _ (sclC x))
            go_wp2_with fail
            clear x0 x1 x2 x3
            refine (k5.out _).mono ?_
            rintro e w2 ⟨rfl, hb⟩
            replace D := Lib.hid (D.out.later hb)
            clear hb
            obtain ⟨wn, hwn⟩ : ∃ wn, wn = w2.alloc (.cells #[.int .i64 e1, .int .i64 e2] 31) := ⟨_, rfl⟩
            replace D := Lib.hid (D.out.add (w' := wn) (by rw [hwn]; exact newB w2 _) (by rw [hwn]; exact own_frac w2 31 ⟨e1, e2⟩))
            replace hwn := Lib.hid hwn
            obtain ⟨e0, e1⟩ := frac_cells (D.out.get 0 rfl : Own _ _ _ _ [(⟨e1, e2⟩ : Frac)])
            go_wp2_with (rw [← hwn.out])
            go_ret
            exact ⟨rfl, D.out.up⟩
          · have hz' : (H == 0) = false := beq_eq_false_iff_ne.2 hz
            obtain ⟨rfl, ⟨⟨p0, p1⟩, p2, p3⟩, p4⟩ := hL (by omega)
            clear hL
            have p6 := mul_in n0 n1 (show 0 ≤ l2 by omega) p3
            have hz3 : IntKind.i64.wrap (H - 1) = H - 1 := IntWalk.i64_in _ (by omega)
            have q1 : decide (1 ≤ l2) = true := decide_eq_true p2
            have q2 : decide (l2 ≤ 100) = true := decide_eq_true p3
            have q3 : decide (l1 < n * l2) = true := decide_eq_true p4
            obtain ⟨x0, x1, x2, x3⟩ := sclC_cells (D.out.get 5 rfl : Own _ _ _ _ (sclC x))
            go_wp2_with fail
            clear x0 x1 x2 x3
            refine (k5.out _).mono ?_
            rintro e w2 ⟨rfl, hb⟩
            replace D := Lib.hid (D.out.later hb)
            clear hb
            obtain ⟨wn, hwn⟩ : ∃ wn, wn = w2.alloc (.cells #[.int .i64 e1, .int .i64 e2] 31) := ⟨_, rfl⟩
            replace D := Lib.hid (D.out.add (w' := wn) (by rw [hwn]; exact newB w2 _) (by rw [hwn]; exact own_frac w2 31 ⟨e1, e2⟩))
            replace hwn := Lib.hid hwn
            obtain ⟨e0, e1⟩ := frac_cells (D.out.get 0 rfl : Own _ _ _ _ [(⟨e1, e2⟩ : Frac)])
            obtain ⟨x0, x1, x2, x3⟩ := sclC_cells (D.out.get 6 rfl : Own _ _ _ _ (sclC x))
            go_wp2_with (rw [← hwn.out])
            clear x0 x1 x2 x3 e0 e1
            refine (k6.out _).mono ?_
            rintro e w2 ⟨rfl, hb⟩
            replace D := Lib.hid (D.out.later hb)
            clear hb
            obtain ⟨wn, hwn⟩ : ∃ wn, wn = w2.alloc (.cells #[.int .i64 l1, .int .i64 l2] 31) := ⟨_, rfl⟩
            replace D := Lib.hid (D.out.add (w' := wn) (by rw [hwn]; exact newB w2 _) (by rw [hwn]; exact own_frac w2 31 ⟨l1, l2⟩))
            replace hwn := Lib.hid hwn
            obtain ⟨l0, l1⟩ := frac_cells (D.out.get 0 rfl : Own _ _ _ _ [(⟨l1, l2⟩ : Frac)])
            go_wp2_with (rw [← hwn.out])
            go_ret
            exact ⟨rfl, D.out.up⟩
        · have hB' : (B != 0) = true := by simp [bne, hB]
          clear fH
          go_wp2_with fail
          go_ret
          exact ⟨rfl, D.out.up⟩
    · have hc' : (C3 == 0) = false := beq_eq_false_iff_ne.2 hc
      clear fM
      by_cases hB : B = 0
      · subst hB
        obtain ⟨rfl, ⟨h0, h1⟩, ⟨n0, n1⟩, ⟨⟨a0, a1⟩, a2, a3⟩, a4, hL⟩ := fH.out rfl
        clear fH
        have a6 := mul_in n0 n1 (show 0 ≤ e2 by omega) a3
        have b1 : decide (e2 < 1) = false := decide_eq_false (by omega)
        have b2 : decide (100 < e2) = false := decide_eq_false (by omega)
        have b3 : decide (e1 < n * e2) = false := decide_eq_false (by omega)
        by_cases hz : H = 0
        · subst hz
          clear hL
          obtain ⟨x0, x1, x2, x3⟩ := sclC_cells (D.out.get 5 rfl : Own _ _ _ _ (sclC x))
          go_wp2_with fail
          clear x0 x1 x2 x3
          refine (k5.out _).mono ?_
          rintro e w2 ⟨rfl, hb⟩
          replace D := Lib.hid (D.out.later hb)
          clear hb
          obtain ⟨wn, hwn⟩ : ∃ wn, wn = w2.alloc (.cells #[.int .i64 e1, .int .i64 e2] 31) := ⟨_, rfl⟩
          replace D := Lib.hid (D.out.add (w' := wn) (by rw [hwn]; exact newB w2 _) (by rw [hwn]; exact own_frac w2 31 ⟨e1, e2⟩))
          replace hwn := Lib.hid hwn
          obtain ⟨e0, e1⟩ := frac_cells (D.out.get 0 rfl : Own _ _ _ _ [(⟨e1, e2⟩ : Frac)])
          go_wp2_with (rw [← hwn.out])
          go_ret
          exact ⟨rfl, D.out.up⟩
        · have hz' : (H == 0) = false := beq_eq_false_iff_ne.2 hz
          obtain ⟨rfl, ⟨⟨p0, p1⟩, p2, p3⟩, p4⟩ := hL (by omega)
          clear hL
          have p6 := mul_in n0 n1 (show 0 ≤ l2 by omega) p3
          have hz3 : IntKind.i64.wrap (H - 1) = H - 1 := IntWalk.i64_in _ (by omega)
          have q1 : decide (1 ≤ l2) = true := decide_eq_true p2
          have q2 : decide (l2 ≤ 100) = true := decide_eq_true p3
          have q3 : decide (l1 < n * l2) = true := decide_eq_true p4
          obtain ⟨x0, x1, x2, x3⟩ := sclC_cells (D.out.get 5 rfl : Own _ _ _ _ (sclC x))
          go_wp2_with fail
          clear x0 x1 x2 x3
          refine (k5.out _).mono ?_
          rintro e w2 ⟨rfl, hb⟩
          replace D := Lib.hid (D.out.later hb)
          clear hb
          obtain ⟨wn, hwn⟩ : ∃ wn, wn = w2.alloc (.cells #[.int .i64 e1, .int .i64 e2] 31) := ⟨_, rfl⟩
          replace D := Lib.hid (D.out.add (w' := wn) (by rw [hwn]; exact newB w2 _) (by rw [hwn]; exact own_frac w2 31 ⟨e1, e2⟩))
          replace hwn := Lib.hid hwn
          obtain ⟨e0, e1⟩ := frac_cells (D.out.get 0 rfl : Own _ _ _ _ [(⟨e1, e2⟩ : Frac)])
          obtain ⟨x0, x1, x2, x3⟩ := sclC_cells (D.out.get 6 rfl : Own _ _ _ _ (sclC x))
          go_wp2_with (rw [← hwn.out])
          clear x0 x1 x2 x3 e0 e1
          refine (k6.out _).mono ?_
          rintro e w2 ⟨rfl, hb⟩
          replace D := Lib.hid (D.out.later hb)
          clear hb
          obtain ⟨wn, hwn⟩ : ∃ wn, wn = w2.alloc (.cells #[.int .i64 l1, .int .i64 l2] 31) := ⟨_, rfl⟩
          replace D := Lib.hid (D.out.add (w' := wn) (by rw [hwn]; exact newB w2 _) (by rw [hwn]; exact own_frac w2 31 ⟨l1, l2⟩))
          replace hwn := Lib.hid hwn
          obtain ⟨l0, l1⟩ := frac_cells (D.out.get 0 rfl : Own _ _ _ _ [(⟨l1, l2⟩ : Frac)])
          go_wp2_with (rw [← hwn.out])
          go_ret
          exact ⟨rfl, D.out.up⟩
      · have hB' : (B != 0) = true := by simp [bne, hB]
        clear fH
        go_wp2_with fail
        go_ret
        exact ⟨rfl, D.out.up⟩
end Go.Proofs.YtaeinllbjkjhlaaDoor
