/- FnGrades: for all bytes the law returns true, and the bytes read behind the call as before. (Printed by wip/genGrades.py.) -/
import Derived.Test.YtaeinllbjkjhlaaGreatDoorGr11
import Derived.Test.YtaeinllbjkjhlaaGreatDoorGr12
import Derived.Test.YtaeinllbjkjhlaaGreatDoorGr13
import Derived.Test.YtaeinllbjkjhlaaGreatDoorGr14
import Derived.Test.YtaeinllbjkjhlaaGreatDoorF6
namespace Go.Proofs.YtaeinllbjkjhlaaGreatDoor
open Go.ChangeShapes Go.WideShapes Go.ChangeAt Go.RowKit

theorem gs_len (x : Last) (g : Grade) (f t : Int) : (gsRow x g f t).length ≤ 61 := by
  by_cases e : gsCode x g f t = 0
  · obtain ⟨h1, _, h2, _⟩ := gs_facts (R := gsRow x g f t) rfl e
    omega
  · have : gsRow x g f t = [] := if_neg e
    rw [this]
    exact Nat.zero_le _
theorem one_facts {x : Last} {g : Grade} {s : Int} (e : glCode x g s = 0) (h : s = 0) : glRes x g s = x := by
  have e1 : glRes x g s = gLast x g s := if_pos e
  rw [e1, h, gLast_zero]
theorem gText_size (g : Grade) : (gText g).size ≤ 1048576 := by
  cases h : okGrade g
  · rw [gText_bad h]; decide
  · rw [gText_ok h]
    have := gTxt_len h
    omega
theorem text_facts (z : Grade) : ((readG (gText z)).isSome = true ∧ (readG (gText z)).getD gradeZ = z ∧ (gText z).toList ≠ []) ∨ ((readG (gText z)).isSome = false ∧ gText z = ⟨#[]⟩) := by
  cases h : okGrade z
  · refine Or.inr ⟨?_, gText_bad h⟩
    rw [gText_bad h, read_empty]; rfl
  · refine Or.inl ?_
    rw [read_grade h, gText_ok h]
    exact ⟨rfl, rfl, gTxt_pos z⟩
def EndR (R : Act → World → Prop) (e : Exit) (a : Act) (w : World) : Prop := e = .normal ∧ R a w
theorem slots_intro {F : (Nat → Value) → Array Value} {a : Act} {w : World} {P : World → Prop} (hd : a.defers = []) (h : a.tmps = F (fun k => a.tmps.getD k undef)) (hp : P w) : ∃ u, a = ⟨F u, []⟩ ∧ P w :=
  ⟨fun k => a.tmps.getD k undef, by cases a; simp only at hd h; rw [hd, ← h], hp⟩
theorem slots_to {F : (Nat → Value) → Array Value} {K : Act → World → Prop} {a : Act} {w : World} (hd : a.defers = []) (h : a.tmps = F (fun k => a.tmps.getD k undef)) (hp : ∀ u, K ⟨F u, []⟩ w) : K a w := by
  have := hp (fun k => a.tmps.getD k undef)
  rw [← h] at this
  cases a
  simp only at hd
  subst hd
  exact this
theorem last_same (n : ByteArray) (a b c d e : Int) (w : World) : (binOp .neq 30 (.agg #[.string n, .int .i64 a, .int .i64 b, .int .i64 c, .int .i64 d, .int .i64 e]) (.agg #[.string n, .int .i64 a, .int .i64 b, .int .i64 c, .int .i64 d, .int .i64 e])).run Tryz.prog w = .ok (.bool false) w := by
  simp [go_sem]
theorem grade_same (a b c d e : Int) (w : World) : (binOp .neq 42 (.agg #[.int .i64 a, .int .i64 b, .int .i64 c, .int .i64 d, .int .i64 e]) (.agg #[.int .i64 a, .int .i64 b, .int .i64 c, .int .i64 d, .int .i64 e])).run Tryz.prog w = .ok (.bool false) w := by
  simp [go_sem]
attribute [local go_sem ↓] last_same grade_same
set_option maxRecDepth 100000 in
set_option maxHeartbeats 8000000 in
theorem lawGrades (ca : Option Addr) (L : List UInt8) (cc : Nat) (w : World) (hx : At w ca L) (hl : L.length ≤ 9223372036854775807) (hT : TabR w) :
    Calls Tryz.prog 4 #[.slice ca L.length cc] w fun e w' => e = .returned (.bool true) ∧ Below w.heap.size w w' := by
  have hbig := f6big_c ca L.length cc w
  by_cases hg : 4096 < L.length
  · have e : decide (4096 < L.length) = true := by simpa using hg
    rw [e] at hbig
    go_enter Tryz.func4, Tryz.ntmps4
    go_wp2_with fail
    refine hbig.mono ?_
    rintro e w1 ⟨rfl, rfl⟩
    go_wp2_with fail
    go_ret
    exact ⟨rfl, Below.refl _ _⟩
  · have e : decide (4096 < L.length) = false := by simpa using hg
    rw [e] at hbig
    clear e
    have D := Lib.hid (Sp.refl w)
    replace hT := Lib.hid hT
    replace hx := Lib.hid hx
    go_enter Tryz.func4, Tryz.ntmps4
    go_wp2_with fail
    refine hbig.mono ?_
    rintro e w1 ⟨rfl, rfl⟩
    clear hbig hg
    go_wp2_with fail
    refine (drawGradeSet_c ca L cc _ (hx.out.below D.out.up) hl).mono ?_
    rintro e w2 ⟨x, g, f, t, rfl, hxs, hb⟩
    replace D := Lib.hid (D.out.later hb)
    clear hb
    have hxn : x.Name.size ≤ 9223372036854775807 := by omega
    clear hxs
    have k1 := Lib.hid (fun w' => implGradeSet_c x g f t w' hxn)
    have k2 := Lib.hid (fun w' => specGradeSet_c x g f t w' hxn)
    have kL := Lib.hid (fun s w' => implGradeLast_c x g s w' hxn)
    obtain ⟨R, hR⟩ : ∃ R, R = gsRow x g f t := ⟨_, rfl⟩
    have fS := Lib.hid (gs_facts hR)
    have hlR : R.length ≤ 61 := by rw [hR]; exact gs_len x g f t
    rw [← hR] at k1 k2
    replace hlR := Lib.hid hlR
    clear hR
    generalize gsCode x g f t = c1 at *
    clear hxn
    obtain ⟨wm, hwm⟩ : ∃ wm, wm = w2.alloc (.cells #[.string x.Name, .int .i64 x.Length, .int .i64 x.Ball, .int .i64 x.Instep, .int .i64 x.Heel, .int .i64 x.Pitch] 30) := ⟨_, rfl⟩
    obtain ⟨wn, hwn⟩ : ∃ wn, wn = wm.alloc (.cells #[.int .i64 g.Length, .int .i64 g.Ball, .int .i64 g.Instep, .int .i64 g.Heel, .int .i64 g.Pitch] 42) := ⟨_, rfl⟩
    replace D := Lib.hid (D.out.add (w' := wm) (by rw [hwm]; exact newB w2 _) (by rw [hwm]; exact own_lastC w2 30 x))
    replace D := Lib.hid (D.out.add (w' := wn) (by rw [hwn]; exact newB wm _) (by rw [hwn]; exact own_gradeC wm 42 g))
    have hsz : wm.heap.size = w2.heap.size + 1 := by rw [hwm]; exact World.size_alloc _ _
    rw [hsz] at D
    rw [hwm] at hwn
    clear hwm hsz wm
    replace hwn := Lib.hid hwn
    obtain ⟨nx, hnx⟩ : ∃ b, b = w2.heap.size := ⟨_, rfl⟩
    obtain ⟨ng, hng⟩ : ∃ b, b = nx + 1 := ⟨_, rfl⟩
    obtain ⟨x0, x1, x2, x3, x4, x5⟩ := lastC_cells (D.out.get 1 rfl : Own _ _ _ _ (lastC x))
    obtain ⟨g0, g1, g2, g3, g4⟩ := gradeC_cells (D.out.get 0 rfl : Own _ _ _ _ (gradeC g))
    go_wp2_with (rw [← hwn.out])
    clear x0 x1 x2 x3 x4 x5
    clear g0 g1 g2 g3 g4
    rw [← hnx] at D ⊢
    rw [← hng] at D ⊢
    clear hng hnx hwn w2
    refine (k1.out _).mono ?_
    rintro e w2 ⟨v, rfl, hO, hb⟩
    obtain ⟨la, lc, rfl, -⟩ := hO.at
    replace D := Lib.hid (D.out.add hb hO)
    clear hb hO k1
    obtain ⟨x0, x1, x2, x3, x4, x5⟩ := lastC_cells (D.out.get 2 rfl : Own _ _ _ _ (lastC x))
    obtain ⟨g0, g1, g2, g3, g4⟩ := gradeC_cells (D.out.get 1 rfl : Own _ _ _ _ (gradeC g))
    go_wp2_with fail
    clear x0 x1 x2 x3 x4 x5
    clear g0 g1 g2 g3 g4
    refine (k2.out _).mono ?_
    rintro e w2 ⟨v, rfl, hO, hb⟩
    obtain ⟨ma, mc, rfl, -⟩ := hO.at
    replace D := Lib.hid (D.out.add hb hO)
    clear hb hO k2
    go_wp2_with fail
    refine (drawGradeLast_c ca L cc _ (hx.out.below D.out.up) hl).mono ?_
    rintro e w2 ⟨y, h, s, rfl, hys, hb⟩
    replace D := Lib.hid (D.out.later hb)
    clear hb
    have hyn : y.Name.size ≤ 9223372036854775807 := by omega
    clear hys
    have k1 := Lib.hid (fun w' => implGradeLast_c y h s w' hyn)
    have k2 := Lib.hid (fun w' => specGradeLast_c y h s w' hyn)
    have fZ := Lib.hid (one_facts (x := y) (g := h) (s := s))
    generalize glRes y h s = r at *
    generalize glCode y h s = c2 at *
    clear hyn
    obtain ⟨wm, hwm⟩ : ∃ wm, wm = w2.alloc (.cells #[.string y.Name, .int .i64 y.Length, .int .i64 y.Ball, .int .i64 y.Instep, .int .i64 y.Heel, .int .i64 y.Pitch] 30) := ⟨_, rfl⟩
    obtain ⟨wn, hwn⟩ : ∃ wn, wn = wm.alloc (.cells #[.int .i64 h.Length, .int .i64 h.Ball, .int .i64 h.Instep, .int .i64 h.Heel, .int .i64 h.Pitch] 42) := ⟨_, rfl⟩
    replace D := Lib.hid (D.out.add (w' := wm) (by rw [hwm]; exact newB w2 _) (by rw [hwm]; exact own_lastC w2 30 y))
    replace D := Lib.hid (D.out.add (w' := wn) (by rw [hwn]; exact newB wm _) (by rw [hwn]; exact own_gradeC wm 42 h))
    have hsz : wm.heap.size = w2.heap.size + 1 := by rw [hwm]; exact World.size_alloc _ _
    rw [hsz] at D
    rw [hwm] at hwn
    clear hwm hsz wm
    replace hwn := Lib.hid hwn
    obtain ⟨ny, hny⟩ : ∃ b, b = w2.heap.size := ⟨_, rfl⟩
    obtain ⟨nh, hnh⟩ : ∃ b, b = ny + 1 := ⟨_, rfl⟩
    obtain ⟨x0, x1, x2, x3, x4, x5⟩ := lastC_cells (D.out.get 1 rfl : Own _ _ _ _ (lastC y))
    obtain ⟨g0, g1, g2, g3, g4⟩ := gradeC_cells (D.out.get 0 rfl : Own _ _ _ _ (gradeC h))
    go_wp2_with (rw [← hwn.out])
    clear x0 x1 x2 x3 x4 x5
    clear g0 g1 g2 g3 g4
    rw [← hny] at D ⊢
    rw [← hnh] at D ⊢
    clear hnh hny hwn w2
    refine (k1.out _).mono ?_
    rintro e w2 ⟨rfl, hb⟩
    replace D := Lib.hid (D.out.later hb)
    clear hb
    clear k1
    obtain ⟨wn, hwn⟩ : ∃ wn, wn = w2.alloc (.cells #[.string r.Name, .int .i64 r.Length, .int .i64 r.Ball, .int .i64 r.Instep, .int .i64 r.Heel, .int .i64 r.Pitch] 30) := ⟨_, rfl⟩
    replace D := Lib.hid (D.out.add (w' := wn) (by rw [hwn]; exact newB w2 _) (by rw [hwn]; exact own_lastC w2 30 r))
    replace hwn := Lib.hid hwn
    obtain ⟨nr, hnr⟩ : ∃ b, b = w2.heap.size := ⟨_, rfl⟩
    obtain ⟨x0, x1, x2, x3, x4, x5⟩ := lastC_cells (D.out.get 2 rfl : Own _ _ _ _ (lastC y))
    obtain ⟨g0, g1, g2, g3, g4⟩ := gradeC_cells (D.out.get 1 rfl : Own _ _ _ _ (gradeC h))
    go_wp2_with (rw [← hwn.out])
    clear x0 x1 x2 x3 x4 x5
    clear g0 g1 g2 g3 g4
    rw [← hnr] at D ⊢
    clear hnr hwn w2
    refine (k2.out _).mono ?_
    rintro e w2 ⟨rfl, hb⟩
    replace D := Lib.hid (D.out.later hb)
    clear hb
    clear k2
    obtain ⟨wn, hwn⟩ : ∃ wn, wn = w2.alloc (.cells #[.string r.Name, .int .i64 r.Length, .int .i64 r.Ball, .int .i64 r.Instep, .int .i64 r.Heel, .int .i64 r.Pitch] 30) := ⟨_, rfl⟩
    replace D := Lib.hid (D.out.add (w' := wn) (by rw [hwn]; exact newB w2 _) (by rw [hwn]; exact own_lastC w2 30 r))
    replace hwn := Lib.hid hwn
    obtain ⟨nr2, hnr2⟩ : ∃ b, b = w2.heap.size := ⟨_, rfl⟩
    go_wp2_with (rw [← hwn.out])
    rw [← hnr2] at D ⊢
    clear hnr2 hwn w2
    refine (drawGradeBetween_c ca L cc _ (hx.out.below D.out.up) hl).mono ?_
    rintro e w2 ⟨a, b, i, rfl, has, hbs, hb⟩
    replace D := Lib.hid (D.out.later hb)
    clear hb
    have han : a.Name.size ≤ 9223372036854775807 := by omega
    have hbn : b.Name.size ≤ 9223372036854775807 := by omega
    clear has hbs
    have k1 := Lib.hid (fun w' => implGradeBetween_c a b i w' han hbn)
    have k2 := Lib.hid (fun w' => specGradeBetween_c a b i w' han hbn)
    generalize gbRes a b i = u at *
    generalize gbCode a b i = c3 at *
    clear han hbn
    obtain ⟨wm, hwm⟩ : ∃ wm, wm = w2.alloc (.cells #[.string a.Name, .int .i64 a.Length, .int .i64 a.Ball, .int .i64 a.Instep, .int .i64 a.Heel, .int .i64 a.Pitch] 30) := ⟨_, rfl⟩
    obtain ⟨wn, hwn⟩ : ∃ wn, wn = wm.alloc (.cells #[.string b.Name, .int .i64 b.Length, .int .i64 b.Ball, .int .i64 b.Instep, .int .i64 b.Heel, .int .i64 b.Pitch] 30) := ⟨_, rfl⟩
    replace D := Lib.hid (D.out.add (w' := wm) (by rw [hwm]; exact newB w2 _) (by rw [hwm]; exact own_lastC w2 30 a))
    replace D := Lib.hid (D.out.add (w' := wn) (by rw [hwn]; exact newB wm _) (by rw [hwn]; exact own_lastC wm 30 b))
    have hsz : wm.heap.size = w2.heap.size + 1 := by rw [hwm]; exact World.size_alloc _ _
    rw [hsz] at D
    rw [hwm] at hwn
    clear hwm hsz wm
    replace hwn := Lib.hid hwn
    obtain ⟨na, hna⟩ : ∃ b, b = w2.heap.size := ⟨_, rfl⟩
    obtain ⟨nb, hnb⟩ : ∃ b, b = na + 1 := ⟨_, rfl⟩
    obtain ⟨x0, x1, x2, x3, x4, x5⟩ := lastC_cells (D.out.get 1 rfl : Own _ _ _ _ (lastC a))
    obtain ⟨y0, y1, y2, y3, y4, y5⟩ := lastC_cells (D.out.get 0 rfl : Own _ _ _ _ (lastC b))
    go_wp2_with (rw [← hwn.out])
    clear x0 x1 x2 x3 x4 x5
    clear y0 y1 y2 y3 y4 y5
    rw [← hna] at D ⊢
    rw [← hnb] at D ⊢
    clear hnb hna hwn w2
    refine (k1.out _).mono ?_
    rintro e w2 ⟨rfl, hb⟩
    replace D := Lib.hid (D.out.later hb)
    clear hb
    clear k1
    obtain ⟨wn, hwn⟩ : ∃ wn, wn = w2.alloc (.cells #[.int .i64 u.Length, .int .i64 u.Ball, .int .i64 u.Instep, .int .i64 u.Heel, .int .i64 u.Pitch] 42) := ⟨_, rfl⟩
    replace D := Lib.hid (D.out.add (w' := wn) (by rw [hwn]; exact newB w2 _) (by rw [hwn]; exact own_gradeC w2 42 u))
    replace hwn := Lib.hid hwn
    obtain ⟨nu, hnu⟩ : ∃ b, b = w2.heap.size := ⟨_, rfl⟩
    obtain ⟨x0, x1, x2, x3, x4, x5⟩ := lastC_cells (D.out.get 2 rfl : Own _ _ _ _ (lastC a))
    obtain ⟨y0, y1, y2, y3, y4, y5⟩ := lastC_cells (D.out.get 1 rfl : Own _ _ _ _ (lastC b))
    go_wp2_with (rw [← hwn.out])
    clear x0 x1 x2 x3 x4 x5
    clear y0 y1 y2 y3 y4 y5
    rw [← hnu] at D ⊢
    clear hnu hwn w2
    refine (k2.out _).mono ?_
    rintro e w2 ⟨rfl, hb⟩
    replace D := Lib.hid (D.out.later hb)
    clear hb
    clear k2
    obtain ⟨wn, hwn⟩ : ∃ wn, wn = w2.alloc (.cells #[.int .i64 u.Length, .int .i64 u.Ball, .int .i64 u.Instep, .int .i64 u.Heel, .int .i64 u.Pitch] 42) := ⟨_, rfl⟩
    replace D := Lib.hid (D.out.add (w' := wn) (by rw [hwn]; exact newB w2 _) (by rw [hwn]; exact own_gradeC w2 42 u))
    replace hwn := Lib.hid hwn
    obtain ⟨nu2, hnu2⟩ : ∃ b, b = w2.heap.size := ⟨_, rfl⟩
    go_wp2_with (rw [← hwn.out])
    rw [← hnu2] at D ⊢
    clear hnu2 hwn w2
    refine (drawStepsFor_c ca L cc _ (hx.out.below D.out.up) hl).mono ?_
    rintro e w2 ⟨p, q, n, rfl, hps, hb⟩
    replace D := Lib.hid (D.out.later hb)
    clear hb
    have hpn : p.Name.size ≤ 9223372036854775807 := by omega
    clear hps
    have k1 := Lib.hid (fun w' => implStepsFor_c p q n w' hpn)
    have k2 := Lib.hid (fun w' => specStepsFor_c p q n w' hpn)
    have k5 := Lib.hid (fun w' => implGradeLast_c p q (sfRes p q n) w' hpn)
    have k6 := Lib.hid (fun w' => implGradeLast_c p q (sfRes p q n - 1) w' hpn)
    have fF := Lib.hid (sf_facts (x := p) (g := q) (n := n))
    generalize sfCode p q n = c4 at *
    generalize sfRes p q n = m at *
    generalize glRes p q m = r5 at *
    generalize glCode p q m = c5 at *
    generalize glRes p q (m - 1) = r6 at *
    generalize glCode p q (m - 1) = c6 at *
    clear hpn
    obtain ⟨wm, hwm⟩ : ∃ wm, wm = w2.alloc (.cells #[.string p.Name, .int .i64 p.Length, .int .i64 p.Ball, .int .i64 p.Instep, .int .i64 p.Heel, .int .i64 p.Pitch] 30) := ⟨_, rfl⟩
    obtain ⟨wn, hwn⟩ : ∃ wn, wn = wm.alloc (.cells #[.int .i64 q.Length, .int .i64 q.Ball, .int .i64 q.Instep, .int .i64 q.Heel, .int .i64 q.Pitch] 42) := ⟨_, rfl⟩
    replace D := Lib.hid (D.out.add (w' := wm) (by rw [hwm]; exact newB w2 _) (by rw [hwm]; exact own_lastC w2 30 p))
    replace D := Lib.hid (D.out.add (w' := wn) (by rw [hwn]; exact newB wm _) (by rw [hwn]; exact own_gradeC wm 42 q))
    have hsz : wm.heap.size = w2.heap.size + 1 := by rw [hwm]; exact World.size_alloc _ _
    rw [hsz] at D
    rw [hwm] at hwn
    clear hwm hsz wm
    replace hwn := Lib.hid hwn
    obtain ⟨np, hnp⟩ : ∃ b, b = w2.heap.size := ⟨_, rfl⟩
    obtain ⟨nq, hnq⟩ : ∃ b, b = np + 1 := ⟨_, rfl⟩
    obtain ⟨x0, x1, x2, x3, x4, x5⟩ := lastC_cells (D.out.get 1 rfl : Own _ _ _ _ (lastC p))
    obtain ⟨g0, g1, g2, g3, g4⟩ := gradeC_cells (D.out.get 0 rfl : Own _ _ _ _ (gradeC q))
    go_wp2_with (rw [← hwn.out])
    clear x0 x1 x2 x3 x4 x5
    clear g0 g1 g2 g3 g4
    rw [← hnp] at D ⊢
    rw [← hnq] at D ⊢
    clear hnq hnp hwn w2
    refine (k1.out _).mono ?_
    rintro e w2 ⟨rfl, hb⟩
    replace D := Lib.hid (D.out.later hb)
    clear hb
    clear k1
    obtain ⟨x0, x1, x2, x3, x4, x5⟩ := lastC_cells (D.out.get 1 rfl : Own _ _ _ _ (lastC p))
    obtain ⟨g0, g1, g2, g3, g4⟩ := gradeC_cells (D.out.get 0 rfl : Own _ _ _ _ (gradeC q))
    go_wp2_with fail
    clear x0 x1 x2 x3 x4 x5
    clear g0 g1 g2 g3 g4
    refine (k2.out _).mono ?_
    rintro e w2 ⟨rfl, hb⟩
    replace D := Lib.hid (D.out.later hb)
    clear hb
    clear k2
    go_wp2_with fail
    refine (drawGradeText_c ca L cc _ (hx.out.below D.out.up) hl).mono ?_
    rintro e w2 ⟨z, rfl, hb⟩
    replace D := Lib.hid (D.out.later hb)
    clear hb
    have k1 := Lib.hid (fun w' h => implGradeText_c z w' h)
    have k2 := Lib.hid (fun w' => specGradeText_c z w')
    have k3 := Lib.hid (fun w' h => implReadGrade_c (gText z) w' h (gText_size z))
    have k7 := Lib.hid (fun w' => implValidGrade_c z w')
    have k8 := Lib.hid (fun w' => specValidGrade_c z w')
    have fT := Lib.hid (text_facts z)
    generalize gText z = T at *
    generalize okGrade z = okz at *
    generalize (readG T).getD gradeZ = z2 at *
    generalize (readG T).isSome = bz at *
    obtain ⟨wn, hwn⟩ : ∃ wn, wn = w2.alloc (.cells #[.int .i64 z.Length, .int .i64 z.Ball, .int .i64 z.Instep, .int .i64 z.Heel, .int .i64 z.Pitch] 42) := ⟨_, rfl⟩
    replace D := Lib.hid (D.out.add (w' := wn) (by rw [hwn]; exact newB w2 _) (by rw [hwn]; exact own_gradeC w2 42 z))
    replace hwn := Lib.hid hwn
    obtain ⟨nz, hnz⟩ : ∃ b, b = w2.heap.size := ⟨_, rfl⟩
    obtain ⟨g0, g1, g2, g3, g4⟩ := gradeC_cells (D.out.get 0 rfl : Own _ _ _ _ (gradeC z))
    go_wp2_with (rw [← hwn.out])
    clear g0 g1 g2 g3 g4
    rw [← hnz] at D ⊢
    clear hnz hwn w2
    refine (k1.out _ (hT.out.below D.out.up).tab).mono ?_
    rintro e w2 ⟨rfl, hb⟩
    replace D := Lib.hid (D.out.later hb)
    clear hb
    clear k1
    go_wp2_with fail
    refine (k3.out _ (hT.out.below D.out.up)).mono ?_
    rintro e w2 ⟨rfl, hb⟩
    replace D := Lib.hid (D.out.later hb)
    clear hb
    clear k3
    obtain ⟨wn, hwn⟩ : ∃ wn, wn = w2.alloc (.cells #[.int .i64 z2.Length, .int .i64 z2.Ball, .int .i64 z2.Instep, .int .i64 z2.Heel, .int .i64 z2.Pitch] 42) := ⟨_, rfl⟩
    replace D := Lib.hid (D.out.add (w' := wn) (by rw [hwn]; exact newB w2 _) (by rw [hwn]; exact own_gradeC w2 42 z2))
    replace hwn := Lib.hid hwn
    obtain ⟨nz2, hnz2⟩ : ∃ b, b = w2.heap.size := ⟨_, rfl⟩
    go_wp2_with (rw [← hwn.out])
    rw [← hnz2] at D ⊢
    clear hnz2 hwn w2
    refine (drawReadGrade_c ca L cc _ (hx.out.below D.out.up) hl).mono ?_
    rintro e w2 ⟨s', rfl, hs, hb⟩
    replace D := Lib.hid (D.out.later hb)
    clear hb
    have k1 := Lib.hid (fun w' h => implReadGrade_c s' w' h (by omega))
    have k3 := Lib.hid (fun w' => specReadGrade_c s' w' (by omega))
    generalize (readG s').getD gradeZ = z3 at *
    generalize (readG s').isSome = bs at *
    clear hs
    go_wp2_with fail
    refine (k1.out _ (hT.out.below D.out.up)).mono ?_
    rintro e w2 ⟨rfl, hb⟩
    replace D := Lib.hid (D.out.later hb)
    clear hb
    clear k1
    obtain ⟨wn, hwn⟩ : ∃ wn, wn = w2.alloc (.cells #[.int .i64 z3.Length, .int .i64 z3.Ball, .int .i64 z3.Instep, .int .i64 z3.Heel, .int .i64 z3.Pitch] 42) := ⟨_, rfl⟩
    replace D := Lib.hid (D.out.add (w' := wn) (by rw [hwn]; exact newB w2 _) (by rw [hwn]; exact own_gradeC w2 42 z3))
    replace hwn := Lib.hid hwn
    obtain ⟨nz3, hnz3⟩ : ∃ b, b = w2.heap.size := ⟨_, rfl⟩
    go_wp2_with (rw [← hwn.out])
    rw [← hnz3] at D ⊢
    clear hnz3 hwn w2
    refine (k3.out _).mono ?_
    rintro e w2 ⟨rfl, hb⟩
    replace D := Lib.hid (D.out.later hb)
    clear hb
    clear k3
    obtain ⟨wn, hwn⟩ : ∃ wn, wn = w2.alloc (.cells #[.int .i64 z3.Length, .int .i64 z3.Ball, .int .i64 z3.Instep, .int .i64 z3.Heel, .int .i64 z3.Pitch] 42) := ⟨_, rfl⟩
    replace D := Lib.hid (D.out.add (w' := wn) (by rw [hwn]; exact newB w2 _) (by rw [hwn]; exact own_gradeC w2 42 z3))
    replace hwn := Lib.hid hwn
    obtain ⟨nz4, hnz4⟩ : ∃ b, b = w2.heap.size := ⟨_, rfl⟩
    obtain ⟨er0, er1, er2, er3, er4, er5⟩ := lastC_cells (D.out.get 11 rfl : Own _ _ _ _ (lastC r))
    obtain ⟨et0, et1, et2, et3, et4, et5⟩ := lastC_cells (D.out.get 10 rfl : Own _ _ _ _ (lastC r))
    obtain ⟨eu0, eu1, eu2, eu3, eu4⟩ := gradeC_cells (D.out.get 7 rfl : Own _ _ _ _ (gradeC u))
    obtain ⟨ev0, ev1, ev2, ev3, ev4⟩ := gradeC_cells (D.out.get 6 rfl : Own _ _ _ _ (gradeC u))
    obtain ⟨ez0, ez1, ez2, ez3, ez4⟩ := gradeC_cells (D.out.get 3 rfl : Own _ _ _ _ (gradeC z))
    obtain ⟨ea0, ea1, ea2, ea3, ea4⟩ := gradeC_cells (D.out.get 2 rfl : Own _ _ _ _ (gradeC z2))
    obtain ⟨eb0, eb1, eb2, eb3, eb4⟩ := gradeC_cells (D.out.get 1 rfl : Own _ _ _ _ (gradeC z3))
    obtain ⟨ec0, ec1, ec2, ec3, ec4⟩ := gradeC_cells (D.out.get 0 rfl : Own _ _ _ _ (gradeC z3))
    go_wp2_with (rw [← hwn.out])
    rw [← hnz4] at D ⊢
    rw [← hnz4] at ec0 ec1 ec2 ec3 ec4
    clear hnz4 hwn w2 hx hl hT
    have kS := Lib.hid (fun w' (hb : Below wn.heap.size wn w') => sameLasts_c la ma R lc mc w' ((D.out.get 15 rfl : Own _ _ _ _ R).at'.below hb) ((D.out.get 14 rfl : Own _ _ _ _ R).at'.below hb) (by have := hlR.out; omega))
    obtain ⟨RR, hRe⟩ : ∃ RR : Act → World → Prop, RR = fun a' w' => ∃ u' : Nat → Value, a' = ⟨#[u' 0, u' 1, u' 2, .pointer (some ⟨nx, 0, none⟩), .pointer (some ⟨ng, 0, none⟩), .int .i64 f, .int .i64 t, u' 7, .int .i64 c1, .slice ma R.length mc, u' 10, .pointer (some ⟨ny, 0, none⟩), u' 12, .int .i64 s, .pointer (some ⟨nr, 0, none⟩), .int .i64 c2, u' 16, u' 17, u' 18, u' 19, u' 20, u' 21, u' 22, u' 23, u' 24, .pointer (some ⟨np, 0, none⟩), .pointer (some ⟨nq, 0, none⟩), .int .i64 n, .int .i64 m, .int .i64 c4, u' 30, u' 31, u' 32, u' 33, u' 34, u' 35, u' 36, u' 37, u' 38, u' 39, u' 40, u' 41, u' 42, u' 43, u' 44, u' 45, u' 46, u' 47, u' 48, u' 49, u' 50, u' 51, u' 52, u' 53, u' 54, u' 55, u' 56, u' 57, u' 58, u' 59, u' 60, u' 61, u' 62, u' 63, u' 64, u' 65, u' 66, u' 67, u' 68, u' 69, u' 70, u' 71, u' 72, u' 73, u' 74, u' 75, u' 76, u' 77, u' 78, u' 79, u' 80, u' 81, u' 82, u' 83, u' 84, u' 85, u' 86, u' 87, u' 88, u' 89, u' 90, u' 91, u' 92, u' 93, u' 94, u' 95, u' 96, u' 97, u' 98, u' 99, u' 100, u' 101, u' 102, u' 103, u' 104, u' 105, u' 106, u' 107, u' 108, u' 109, u' 110, u' 111, u' 112, u' 113, u' 114, u' 115, u' 116, u' 117, u' 118, u' 119, u' 120, u' 121, u' 122, u' 123, u' 124, u' 125, u' 126, u' 127, u' 128, u' 129, u' 130, u' 131, u' 132, u' 133, u' 134, u' 135, u' 136, u' 137, u' 138, u' 139, u' 140, u' 141, u' 142, u' 143, u' 144, u' 145, u' 146, u' 147, u' 148, u' 149, u' 150, u' 151, u' 152, u' 153, u' 154, u' 155, u' 156, u' 157, u' 158, u' 159, u' 160, u' 161, u' 162, u' 163, u' 164, u' 165, u' 166, u' 167, u' 168, u' 169, u' 170, u' 171, u' 172, u' 173, u' 174, u' 175, u' 176, u' 177, u' 178, u' 179, u' 180, u' 181, u' 182, u' 183, u' 184, u' 185, u' 186, u' 187, u' 188, u' 189, u' 190, u' 191, u' 192, u' 193, u' 194, u' 195, u' 196, u' 197, u' 198, u' 199, u' 200, u' 201, u' 202, u' 203, u' 204, u' 205, u' 206, u' 207, u' 208, u' 209, u' 210, u' 211, u' 212, u' 213, u' 214, u' 215, u' 216, u' 217, u' 218, u' 219, u' 220, u' 221, u' 222, u' 223, u' 224, u' 225, u' 226, u' 227, u' 228, .bool false, undef, undef, undef, undef, undef, undef, undef, undef, undef, undef, undef, undef, undef, undef, undef, undef, undef, undef, undef, undef, undef, undef, undef, undef, undef, undef, undef, undef, undef, undef, undef, undef, undef, undef, undef, undef, undef, undef, undef, undef, undef, undef, undef, undef, undef, undef, undef, undef, undef, undef, undef, undef, undef, undef, undef, undef, undef, undef, undef, undef, undef, undef, undef, undef, undef, undef, undef, undef, undef, undef, undef, undef, undef, undef, undef, undef, undef, undef, undef, undef, undef, undef, undef, undef, undef, undef, undef, undef, undef, undef, undef, undef, undef, undef, undef, undef, undef, undef, undef, undef, undef, undef], []⟩ ∧ Below wn.heap.size wn w' := ⟨_, rfl⟩
    replace hRe := Lib.hid hRe
    refine Code.wp_mono (Q := EndR RR) ?_ ?_
    rotate_left
    · clear D fS kL fZ k5 k6 fF
      rcases fT.out with ⟨rfl, rfl, hne⟩ | ⟨rfl, rfl⟩
      · have hne' : (T.toList == ({ data := #[] } : ByteArray).toList) = false := by simpa using hne
        have hne2 : (T.toList == []) = false := by simpa using hne
        have hne3 : T.toList.isEmpty = false := by simpa using hne
        replace er0 := rg er0
        replace er1 := rg er1
        replace er2 := rg er2
        replace er3 := rg er3
        replace er4 := rg er4
        replace er5 := rg er5
        replace et0 := rg et0
        replace et1 := rg et1
        replace et2 := rg et2
        replace et3 := rg et3
        replace et4 := rg et4
        replace et5 := rg et5
        replace eu0 := rg eu0
        replace eu1 := rg eu1
        replace eu2 := rg eu2
        replace eu3 := rg eu3
        replace eu4 := rg eu4
        replace ev0 := rg ev0
        replace ev1 := rg ev1
        replace ev2 := rg ev2
        replace ev3 := rg ev3
        replace ev4 := rg ev4
        replace ez0 := rg ez0
        replace ez1 := rg ez1
        replace ez2 := rg ez2
        replace ez3 := rg ez3
        replace ez4 := rg ez4
        replace ea0 := rg ea0
        replace ea1 := rg ea1
        replace ea2 := rg ea2
        replace ea3 := rg ea3
        replace ea4 := rg ea4
        replace eb0 := rg eb0
        replace eb1 := rg eb1
        replace eb2 := rg eb2
        replace eb3 := rg eb3
        replace eb4 := rg eb4
        replace ec0 := rg ec0
        replace ec1 := rg ec1
        replace ec2 := rg ec2
        replace ec3 := rg ec3
        replace ec4 := rg ec4
        refine wp_region_quiet_below (by kernel_rfl) (by kernel_rfl) ?_
        dsimp only [List.append]
        repeat (go_big_quiet_step ((first | (go_at_call 33; exact Calls.regrown_of (kS.out _ (grown_of ⟨⟨_, _⟩, rfl⟩))) | (go_at_call 34; exact Calls.regrown_of (k2.out _)) | (go_at_call 35; exact Calls.regrown_of (k7.out _)) | (go_at_call 36; exact Calls.regrown_of (k8.out _)))))
        refine wpQuiet_nil ?_
        intro wq hw'
        have hb := grown_of hw'
        clear hw'
        refine ⟨rfl, ?_⟩
        rw [hRe.out]
        refine slots_intro (F := fun u' => #[u' 0, u' 1, u' 2, .pointer (some ⟨nx, 0, none⟩), .pointer (some ⟨ng, 0, none⟩), .int .i64 f, .int .i64 t, u' 7, .int .i64 c1, .slice ma R.length mc, u' 10, .pointer (some ⟨ny, 0, none⟩), u' 12, .int .i64 s, .pointer (some ⟨nr, 0, none⟩), .int .i64 c2, u' 16, u' 17, u' 18, u' 19, u' 20, u' 21, u' 22, u' 23, u' 24, .pointer (some ⟨np, 0, none⟩), .pointer (some ⟨nq, 0, none⟩), .int .i64 n, .int .i64 m, .int .i64 c4, u' 30, u' 31, u' 32, u' 33, u' 34, u' 35, u' 36, u' 37, u' 38, u' 39, u' 40, u' 41, u' 42, u' 43, u' 44, u' 45, u' 46, u' 47, u' 48, u' 49, u' 50, u' 51, u' 52, u' 53, u' 54, u' 55, u' 56, u' 57, u' 58, u' 59, u' 60, u' 61, u' 62, u' 63, u' 64, u' 65, u' 66, u' 67, u' 68, u' 69, u' 70, u' 71, u' 72, u' 73, u' 74, u' 75, u' 76, u' 77, u' 78, u' 79, u' 80, u' 81, u' 82, u' 83, u' 84, u' 85, u' 86, u' 87, u' 88, u' 89, u' 90, u' 91, u' 92, u' 93, u' 94, u' 95, u' 96, u' 97, u' 98, u' 99, u' 100, u' 101, u' 102, u' 103, u' 104, u' 105, u' 106, u' 107, u' 108, u' 109, u' 110, u' 111, u' 112, u' 113, u' 114, u' 115, u' 116, u' 117, u' 118, u' 119, u' 120, u' 121, u' 122, u' 123, u' 124, u' 125, u' 126, u' 127, u' 128, u' 129, u' 130, u' 131, u' 132, u' 133, u' 134, u' 135, u' 136, u' 137, u' 138, u' 139, u' 140, u' 141, u' 142, u' 143, u' 144, u' 145, u' 146, u' 147, u' 148, u' 149, u' 150, u' 151, u' 152, u' 153, u' 154, u' 155, u' 156, u' 157, u' 158, u' 159, u' 160, u' 161, u' 162, u' 163, u' 164, u' 165, u' 166, u' 167, u' 168, u' 169, u' 170, u' 171, u' 172, u' 173, u' 174, u' 175, u' 176, u' 177, u' 178, u' 179, u' 180, u' 181, u' 182, u' 183, u' 184, u' 185, u' 186, u' 187, u' 188, u' 189, u' 190, u' 191, u' 192, u' 193, u' 194, u' 195, u' 196, u' 197, u' 198, u' 199, u' 200, u' 201, u' 202, u' 203, u' 204, u' 205, u' 206, u' 207, u' 208, u' 209, u' 210, u' 211, u' 212, u' 213, u' 214, u' 215, u' 216, u' 217, u' 218, u' 219, u' 220, u' 221, u' 222, u' 223, u' 224, u' 225, u' 226, u' 227, u' 228, .bool false, undef, undef, undef, undef, undef, undef, undef, undef, undef, undef, undef, undef, undef, undef, undef, undef, undef, undef, undef, undef, undef, undef, undef, undef, undef, undef, undef, undef, undef, undef, undef, undef, undef, undef, undef, undef, undef, undef, undef, undef, undef, undef, undef, undef, undef, undef, undef, undef, undef, undef, undef, undef, undef, undef, undef, undef, undef, undef, undef, undef, undef, undef, undef, undef, undef, undef, undef, undef, undef, undef, undef, undef, undef, undef, undef, undef, undef, undef, undef, undef, undef, undef, undef, undef, undef, undef, undef, undef, undef, undef, undef, undef, undef, undef, undef, undef, undef, undef, undef, undef, undef, undef]) (P := fun w' => Below wn.heap.size wn w') ?_ ?_ ?_
        · rfl
        · kernel_rfl
        · exact hb
      · replace er0 := rg er0
        replace er1 := rg er1
        replace er2 := rg er2
        replace er3 := rg er3
        replace er4 := rg er4
        replace er5 := rg er5
        replace et0 := rg et0
        replace et1 := rg et1
        replace et2 := rg et2
        replace et3 := rg et3
        replace et4 := rg et4
        replace et5 := rg et5
        replace eu0 := rg eu0
        replace eu1 := rg eu1
        replace eu2 := rg eu2
        replace eu3 := rg eu3
        replace eu4 := rg eu4
        replace ev0 := rg ev0
        replace ev1 := rg ev1
        replace ev2 := rg ev2
        replace ev3 := rg ev3
        replace ev4 := rg ev4
        replace ez0 := rg ez0
        replace ez1 := rg ez1
        replace ez2 := rg ez2
        replace ez3 := rg ez3
        replace ez4 := rg ez4
        replace ea0 := rg ea0
        replace ea1 := rg ea1
        replace ea2 := rg ea2
        replace ea3 := rg ea3
        replace ea4 := rg ea4
        replace eb0 := rg eb0
        replace eb1 := rg eb1
        replace eb2 := rg eb2
        replace eb3 := rg eb3
        replace eb4 := rg eb4
        replace ec0 := rg ec0
        replace ec1 := rg ec1
        replace ec2 := rg ec2
        replace ec3 := rg ec3
        replace ec4 := rg ec4
        refine wp_region_quiet_below (by kernel_rfl) (by kernel_rfl) ?_
        dsimp only [List.append]
        repeat (go_big_quiet_step ((first | (go_at_call 33; exact Calls.regrown_of (kS.out _ (grown_of ⟨⟨_, _⟩, rfl⟩))) | (go_at_call 34; exact Calls.regrown_of (k2.out _)) | (go_at_call 35; exact Calls.regrown_of (k7.out _)) | (go_at_call 36; exact Calls.regrown_of (k8.out _)))))
        refine wpQuiet_nil ?_
        intro wq hw'
        have hb := grown_of hw'
        clear hw'
        refine ⟨rfl, ?_⟩
        rw [hRe.out]
        refine slots_intro (F := fun u' => #[u' 0, u' 1, u' 2, .pointer (some ⟨nx, 0, none⟩), .pointer (some ⟨ng, 0, none⟩), .int .i64 f, .int .i64 t, u' 7, .int .i64 c1, .slice ma R.length mc, u' 10, .pointer (some ⟨ny, 0, none⟩), u' 12, .int .i64 s, .pointer (some ⟨nr, 0, none⟩), .int .i64 c2, u' 16, u' 17, u' 18, u' 19, u' 20, u' 21, u' 22, u' 23, u' 24, .pointer (some ⟨np, 0, none⟩), .pointer (some ⟨nq, 0, none⟩), .int .i64 n, .int .i64 m, .int .i64 c4, u' 30, u' 31, u' 32, u' 33, u' 34, u' 35, u' 36, u' 37, u' 38, u' 39, u' 40, u' 41, u' 42, u' 43, u' 44, u' 45, u' 46, u' 47, u' 48, u' 49, u' 50, u' 51, u' 52, u' 53, u' 54, u' 55, u' 56, u' 57, u' 58, u' 59, u' 60, u' 61, u' 62, u' 63, u' 64, u' 65, u' 66, u' 67, u' 68, u' 69, u' 70, u' 71, u' 72, u' 73, u' 74, u' 75, u' 76, u' 77, u' 78, u' 79, u' 80, u' 81, u' 82, u' 83, u' 84, u' 85, u' 86, u' 87, u' 88, u' 89, u' 90, u' 91, u' 92, u' 93, u' 94, u' 95, u' 96, u' 97, u' 98, u' 99, u' 100, u' 101, u' 102, u' 103, u' 104, u' 105, u' 106, u' 107, u' 108, u' 109, u' 110, u' 111, u' 112, u' 113, u' 114, u' 115, u' 116, u' 117, u' 118, u' 119, u' 120, u' 121, u' 122, u' 123, u' 124, u' 125, u' 126, u' 127, u' 128, u' 129, u' 130, u' 131, u' 132, u' 133, u' 134, u' 135, u' 136, u' 137, u' 138, u' 139, u' 140, u' 141, u' 142, u' 143, u' 144, u' 145, u' 146, u' 147, u' 148, u' 149, u' 150, u' 151, u' 152, u' 153, u' 154, u' 155, u' 156, u' 157, u' 158, u' 159, u' 160, u' 161, u' 162, u' 163, u' 164, u' 165, u' 166, u' 167, u' 168, u' 169, u' 170, u' 171, u' 172, u' 173, u' 174, u' 175, u' 176, u' 177, u' 178, u' 179, u' 180, u' 181, u' 182, u' 183, u' 184, u' 185, u' 186, u' 187, u' 188, u' 189, u' 190, u' 191, u' 192, u' 193, u' 194, u' 195, u' 196, u' 197, u' 198, u' 199, u' 200, u' 201, u' 202, u' 203, u' 204, u' 205, u' 206, u' 207, u' 208, u' 209, u' 210, u' 211, u' 212, u' 213, u' 214, u' 215, u' 216, u' 217, u' 218, u' 219, u' 220, u' 221, u' 222, u' 223, u' 224, u' 225, u' 226, u' 227, u' 228, .bool false, undef, undef, undef, undef, undef, undef, undef, undef, undef, undef, undef, undef, undef, undef, undef, undef, undef, undef, undef, undef, undef, undef, undef, undef, undef, undef, undef, undef, undef, undef, undef, undef, undef, undef, undef, undef, undef, undef, undef, undef, undef, undef, undef, undef, undef, undef, undef, undef, undef, undef, undef, undef, undef, undef, undef, undef, undef, undef, undef, undef, undef, undef, undef, undef, undef, undef, undef, undef, undef, undef, undef, undef, undef, undef, undef, undef, undef, undef, undef, undef, undef, undef, undef, undef, undef, undef, undef, undef, undef, undef, undef, undef, undef, undef, undef, undef, undef, undef, undef, undef, undef, undef]) (P := fun w' => Below wn.heap.size wn w') ?_ ?_ ?_
        · rfl
        · kernel_rfl
        · exact hb
    clear er0 er1 er2 er3 er4 er5 et0 et1 et2 et3 et4 et5 eu0 eu1 eu2 eu3 eu4 ev0 ev1 ev2 ev3 ev4 ez0 ez1 ez2 ez3 ez4 ea0 ea1 ea2 ea3 ea4 eb0 eb1 eb2 eb3 eb4 ec0 ec1 ec2 ec3 ec4
    clear k2 k7 k8 fT kS
    intro e a' w2 hE
    obtain ⟨rfl, hE⟩ := hE
    rw [hRe.out] at hE
    obtain ⟨u', rfl, hb⟩ := hE
    clear hRe
    replace D := Lib.hid (D.out.later hb)
    clear hb
    go_step
    go_step
    go_step
    go_step
    go_step
    go_step
    go_step
    rename_i KA hKA
    have hJ : ∀ (u' : Nat → Value) (w3 : World), Below w2.heap.size w2 w3 → KA ⟨#[u' 0, u' 1, u' 2, .pointer (some ⟨nx, 0, none⟩), .pointer (some ⟨ng, 0, none⟩), .int .i64 f, .int .i64 t, u' 7, .int .i64 c1, .slice ma R.length mc, u' 10, u' 11, u' 12, u' 13, u' 14, u' 15, u' 16, u' 17, u' 18, u' 19, u' 20, u' 21, u' 22, u' 23, u' 24, .pointer (some ⟨np, 0, none⟩), .pointer (some ⟨nq, 0, none⟩), .int .i64 n, .int .i64 m, .int .i64 c4, u' 30, u' 31, u' 32, u' 33, u' 34, u' 35, u' 36, u' 37, u' 38, u' 39, u' 40, u' 41, u' 42, u' 43, u' 44, u' 45, u' 46, u' 47, u' 48, u' 49, u' 50, u' 51, u' 52, u' 53, u' 54, u' 55, u' 56, u' 57, u' 58, u' 59, u' 60, u' 61, u' 62, u' 63, u' 64, u' 65, u' 66, u' 67, u' 68, u' 69, u' 70, u' 71, u' 72, u' 73, u' 74, u' 75, u' 76, u' 77, u' 78, u' 79, u' 80, u' 81, u' 82, u' 83, u' 84, u' 85, u' 86, u' 87, u' 88, u' 89, u' 90, u' 91, u' 92, u' 93, u' 94, u' 95, u' 96, u' 97, u' 98, u' 99, u' 100, u' 101, u' 102, u' 103, u' 104, u' 105, u' 106, u' 107, u' 108, u' 109, u' 110, u' 111, u' 112, u' 113, u' 114, u' 115, u' 116, u' 117, u' 118, u' 119, u' 120, u' 121, u' 122, u' 123, u' 124, u' 125, u' 126, u' 127, u' 128, u' 129, u' 130, u' 131, u' 132, u' 133, u' 134, u' 135, u' 136, u' 137, u' 138, u' 139, u' 140, u' 141, u' 142, u' 143, u' 144, u' 145, u' 146, u' 147, u' 148, u' 149, u' 150, u' 151, u' 152, u' 153, u' 154, u' 155, u' 156, u' 157, u' 158, u' 159, u' 160, u' 161, u' 162, u' 163, u' 164, u' 165, u' 166, u' 167, u' 168, u' 169, u' 170, u' 171, u' 172, u' 173, u' 174, u' 175, u' 176, u' 177, u' 178, u' 179, u' 180, u' 181, u' 182, u' 183, u' 184, u' 185, u' 186, u' 187, u' 188, u' 189, u' 190, u' 191, u' 192, u' 193, u' 194, u' 195, u' 196, u' 197, u' 198, u' 199, u' 200, u' 201, u' 202, u' 203, u' 204, u' 205, u' 206, u' 207, u' 208, u' 209, u' 210, u' 211, u' 212, u' 213, u' 214, u' 215, u' 216, u' 217, u' 218, u' 219, u' 220, u' 221, u' 222, u' 223, u' 224, u' 225, u' 226, u' 227, u' 228, u' 229, u' 230, u' 231, u' 232, u' 233, u' 234, u' 235, u' 236, u' 237, u' 238, u' 239, u' 240, undef, undef, undef, undef, undef, undef, undef, undef, undef, undef, undef, undef, undef, undef, undef, undef, undef, undef, undef, undef, undef, undef, undef, undef, undef, undef, undef, undef, undef, undef, undef, undef, undef, undef, undef, undef, undef, undef, undef, undef, undef, undef, undef, undef, undef, undef, undef, undef, undef, undef, undef, undef, undef, undef, undef, undef, undef, undef, undef, undef, undef, undef, undef, undef, undef, undef, undef, undef, undef, undef, undef, undef, undef, undef, undef, undef, undef, undef, undef, undef, undef, undef, undef, undef, undef, undef, undef, undef, undef, undef, undef], []⟩ w3 := by
      intro u' w3 hb
      replace D := Lib.hid (D.out.later hb)
      clear hb
      clear fZ
      go_step
      go_step
      rename_i KB hKB
      have hJ2 : ∀ (u' : Nat → Value) (w4 : World), Below w3.heap.size w3 w4 → KB ⟨#[u' 0, u' 1, u' 2, .pointer (some ⟨nx, 0, none⟩), .pointer (some ⟨ng, 0, none⟩), .int .i64 f, .int .i64 t, u' 7, .int .i64 c1, .slice ma R.length mc, u' 10, u' 11, u' 12, u' 13, u' 14, u' 15, u' 16, u' 17, u' 18, u' 19, u' 20, u' 21, u' 22, u' 23, u' 24, u' 25, u' 26, u' 27, u' 28, u' 29, u' 30, u' 31, u' 32, u' 33, u' 34, u' 35, u' 36, u' 37, u' 38, u' 39, u' 40, u' 41, u' 42, u' 43, u' 44, u' 45, u' 46, u' 47, u' 48, u' 49, u' 50, u' 51, u' 52, u' 53, u' 54, u' 55, u' 56, u' 57, u' 58, u' 59, u' 60, u' 61, u' 62, u' 63, u' 64, u' 65, u' 66, u' 67, u' 68, u' 69, u' 70, u' 71, u' 72, u' 73, u' 74, u' 75, u' 76, u' 77, u' 78, u' 79, u' 80, u' 81, u' 82, u' 83, u' 84, u' 85, u' 86, u' 87, u' 88, u' 89, u' 90, u' 91, u' 92, u' 93, u' 94, u' 95, u' 96, u' 97, u' 98, u' 99, u' 100, u' 101, u' 102, u' 103, u' 104, u' 105, u' 106, u' 107, u' 108, u' 109, u' 110, u' 111, u' 112, u' 113, u' 114, u' 115, u' 116, u' 117, u' 118, u' 119, u' 120, u' 121, u' 122, u' 123, u' 124, u' 125, u' 126, u' 127, u' 128, u' 129, u' 130, u' 131, u' 132, u' 133, u' 134, u' 135, u' 136, u' 137, u' 138, u' 139, u' 140, u' 141, u' 142, u' 143, u' 144, u' 145, u' 146, u' 147, u' 148, u' 149, u' 150, u' 151, u' 152, u' 153, u' 154, u' 155, u' 156, u' 157, u' 158, u' 159, u' 160, u' 161, u' 162, u' 163, u' 164, u' 165, u' 166, u' 167, u' 168, u' 169, u' 170, u' 171, u' 172, u' 173, u' 174, u' 175, u' 176, u' 177, u' 178, u' 179, u' 180, u' 181, u' 182, u' 183, u' 184, u' 185, u' 186, u' 187, u' 188, u' 189, u' 190, u' 191, u' 192, u' 193, u' 194, u' 195, u' 196, u' 197, u' 198, u' 199, u' 200, u' 201, u' 202, u' 203, u' 204, u' 205, u' 206, u' 207, u' 208, u' 209, u' 210, u' 211, u' 212, u' 213, u' 214, u' 215, u' 216, u' 217, u' 218, u' 219, u' 220, u' 221, u' 222, u' 223, u' 224, u' 225, u' 226, u' 227, u' 228, u' 229, u' 230, u' 231, u' 232, u' 233, u' 234, u' 235, u' 236, u' 237, u' 238, u' 239, u' 240, u' 241, u' 242, u' 243, u' 244, u' 245, u' 246, u' 247, u' 248, u' 249, u' 250, u' 251, u' 252, u' 253, u' 254, u' 255, u' 256, u' 257, u' 258, u' 259, u' 260, u' 261, u' 262, u' 263, u' 264, u' 265, u' 266, u' 267, u' 268, u' 269, u' 270, u' 271, u' 272, u' 273, u' 274, u' 275, u' 276, u' 277, u' 278, u' 279, undef, undef, undef, undef, undef, undef, undef, undef, undef, undef, undef, undef, undef, undef, undef, undef, undef, undef, undef, undef, undef, undef, undef, undef, undef, undef, undef, undef, undef, undef, undef, undef, undef, undef, undef, undef, undef, undef, undef, undef, undef, undef, undef, undef, undef, undef, undef, undef, undef, undef, undef, undef], []⟩ w4 := by
        intro u' w4 hb
        replace D := Lib.hid (D.out.later hb)
        clear hb
        clear fF k5 k6
        by_cases h1 : c1 = 0
        · subst h1
          obtain ⟨⟨f0, f1, f2⟩, -, fN, fE, fU⟩ := fS.out rfl
          clear fS
          replace fE := Lib.hid fE
          replace fU := Lib.hid fU
          have hlR' := hlR.out
          have hw1 : IntKind.i64.wrap (t - f) = t - f := IntWalk.i64_in _ (by omega)
          have hw2 : IntKind.i64.wrap (t - f + 1) = t - f + 1 := IntWalk.i64_in _ (by omega)
          have hEq : ((R.length : Int) == t - f + 1) = true := beq_iff_eq.2 fN
          go_wp2_with fail
          go_loopw [45, 46, 47] (fun i _ _ wr => ∃ k : Nat, k ≤ R.length ∧ i = .int .i64 k ∧ Below w4.heap.size w4 wr) (fun i _ _ _ => R.length - (intOf i).toNat)
          case atStart => exact ⟨0, Nat.zero_le _, rfl, Below.refl _ _⟩
          case round =>
            obtain ⟨k, hk, rfl, hb⟩ := hrel
            obtain ⟨wa, hwa⟩ : ∃ wo : World, wo = wr := ⟨_, rfl⟩
            subst hwa
            replace D := Lib.hid (D.out.later hb)
            replace hb := Lib.hid hb
            by_cases hlt : k < R.length
            · have hltI : (k : Int) < R.length := by omega
              obtain ⟨e0, e1⟩ := fE.out k hlt
              have hkw : IntKind.i64.wrap (f + k) = f + k := IntWalk.i64_in _ (by omega)
              obtain ⟨x0, x1, x2, x3, x4, x5⟩ := lastC_cells (D.out.get 17 rfl : Own _ _ _ _ (lastC x))
              obtain ⟨g0, g1, g2, g3, g4⟩ := gradeC_cells (D.out.get 16 rfl : Own _ _ _ _ (gradeC g))
              go_wp2_with fail
              clear x0 x1 x2 x3 x4 x5 g0 g1 g2 g3 g4
              refine (kL.out _ _).mono ?_
              rintro e w2 ⟨rfl, hb2⟩
              rw [e0, e1]
              clear e0 e1
              replace D := Lib.hid (D.out.later hb2)
              replace hb := Lib.hid (upw hb.out hb2)
              clear hb2
              obtain ⟨wn, hwn⟩ : ∃ wn, wn = w2.alloc (.cells #[.string R[k].Name, .int .i64 R[k].Length, .int .i64 R[k].Ball, .int .i64 R[k].Instep, .int .i64 R[k].Heel, .int .i64 R[k].Pitch] 30) := ⟨_, rfl⟩
              replace D := Lib.hid (D.out.add (w' := wn) (by rw [hwn]; exact newB w2 _) (by rw [hwn]; exact own_lastC w2 30 R[k]))
              replace hb := Lib.hid (upw hb.out (w2 := wn) (by rw [hwn]; exact newB w2 _))
              replace hwn := Lib.hid hwn
              obtain ⟨nk, hnk⟩ : ∃ b, b = w2.heap.size := ⟨_, rfl⟩
              obtain ⟨bk, off, hae⟩ := (D.out.get 15 rfl : Own _ _ _ _ R).at'.addr hlt
              obtain rfl := hae
              obtain ⟨y0, y1, y2, y3, y4, y5⟩ := (D.out.get 15 rfl : Own _ _ _ _ R).at'.last hlt
              obtain ⟨x0, x1, x2, x3, x4, x5⟩ := lastC_cells (D.out.get 0 rfl : Own _ _ _ _ (lastC R[k]))
              by_cases hk0 : k = 0
              · have hkp : decide (0 < (k : Int)) = false := decide_eq_false (by omega)
                have hkp2 : decide (0 < k) = false := decide_eq_false (by omega)
                clear hk0
                generalize R[k] = z at *
                go_wp2_with (rw [← hwn.out])
                rw [← hnk] at D ⊢
                rw [← hnk] at x0 x1 x2 x3 x4 x5
                clear hnk hwn w2
                replace x0 := rg x0
                replace x1 := rg x1
                replace x2 := rg x2
                replace x3 := rg x3
                replace x4 := rg x4
                replace x5 := rg x5
                replace y0 := rg y0
                replace y1 := rg y1
                replace y2 := rg y2
                replace y3 := rg y3
                replace y4 := rg y4
                replace y5 := rg y5
                refine wp_region_quiet_below (by kernel_rfl) (by kernel_rfl) ?_
                repeat (go_big_quiet_step (fail))
                refine wpQuiet_nil ?_
                intro wq hw'
                have hb3 := grown_of hw'
                clear hw'
                replace hb := Lib.hid (upw hb.out hb3)
                clear hb3 D
                go_wp2_with fail
                go_roundw
                case rel => exact ⟨k + 1, by omega, by first | rfl | go_num, hb.out⟩
                case measure => first | (simp [intOf]; done) | (simp [intOf]; omega)
              · have hk1 : k - 1 < R.length := by omega
                have z1 := ((D.out.get 15 rfl : Own _ _ _ _ R).at'.last hk1).2.1
                have hkc : IntKind.i64.wrap ((k : Int) - 1) = ((k - 1 : Nat) : Int) := by rw [IntWalk.i64_in _ (by omega)]; omega
                have hup2 := fU.out (k - 1) (by omega)
                have hup3 : decide (R[k].Length < R[k - 1].Length) = false := decide_eq_false (by
                  have e : R[k - 1 + 1]'(by omega) = R[k] := by congr 1; omega
                  rw [e] at hup2
                  omega)
                have hkp : decide (0 < (k : Int)) = true := decide_eq_true (by omega)
                have hkp2 : decide (0 < k) = true := decide_eq_true (by omega)
                have hkm : ((k - 1 : Nat) : Int) < R.length := by omega
                clear hup2
                generalize R[k] = z at *
                generalize R[k - 1] = zp at *
                go_wp2_with (rw [← hwn.out])
                rw [← hnk] at D ⊢
                rw [← hnk] at x0 x1 x2 x3 x4 x5
                clear hnk hwn w2
                replace x0 := rg x0
                replace x1 := rg x1
                replace x2 := rg x2
                replace x3 := rg x3
                replace x4 := rg x4
                replace x5 := rg x5
                replace y0 := rg y0
                replace y1 := rg y1
                replace y2 := rg y2
                replace y3 := rg y3
                replace y4 := rg y4
                replace y5 := rg y5
                replace z1 := rg z1
                refine wp_region_quiet_below (by kernel_rfl) (by kernel_rfl) ?_
                repeat (go_big_quiet_step (fail))
                refine wpQuiet_nil ?_
                intro wq hw'
                have hb3 := grown_of hw'
                clear hw'
                replace hb := Lib.hid (upw hb.out hb3)
                clear hb3 D
                go_wp2_with fail
                go_roundw
                case rel => exact ⟨k + 1, by omega, by first | rfl | go_num, hb.out⟩
                case measure => first | (simp [intOf]; done) | (simp [intOf]; omega)
            · obtain rfl : k = R.length := by omega
              go_wp2_with fail
              go_ret
              exact ⟨rfl, D.out.up⟩
        · have h1' : (c1 == 0) = false := beq_eq_false_iff_ne.2 h1
          clear fS kL
          go_wp2_with fail
          go_ret
          exact ⟨rfl, D.out.up⟩
      replace hJ2 := Lib.hid hJ2
      clear hKB
      by_cases h4 : c4 = 0
      · have hB := Lib.hid (Below.refl w3.heap.size w3)
        subst h4
        obtain ⟨⟨m0, m1⟩, n1, fa, fb⟩ := fF.out rfl
        clear fF
        obtain ⟨x0, x1, x2, x3, x4, x5⟩ := lastC_cells (D.out.get 5 rfl : Own _ _ _ _ (lastC p))
        obtain ⟨g0, g1, g2, g3, g4⟩ := gradeC_cells (D.out.get 4 rfl : Own _ _ _ _ (gradeC q))
        go_wp2_with fail
        clear x0 x1 x2 x3 x4 x5
        clear g0 g1 g2 g3 g4
        refine (k5.out _).mono ?_
        rintro e w2 ⟨rfl, hb⟩
        replace hB := Lib.hid (upw hB.out hb)
        replace D := Lib.hid (D.out.later hb)
        clear hb
        clear k5
        obtain ⟨wn, hwn⟩ : ∃ wn, wn = w2.alloc (.cells #[.string r5.Name, .int .i64 r5.Length, .int .i64 r5.Ball, .int .i64 r5.Instep, .int .i64 r5.Heel, .int .i64 r5.Pitch] 30) := ⟨_, rfl⟩
        replace D := Lib.hid (D.out.add (w' := wn) (by rw [hwn]; exact newB w2 _) (by rw [hwn]; exact own_lastC w2 30 r5))
        replace hB := Lib.hid (upw hB.out (w2 := wn) (by rw [hwn]; exact newB w2 _))
        replace hwn := Lib.hid hwn
        by_cases h5 : c5 = 0
        · subst h5
          have d5 : decide (r5.Length < n) = false := decide_eq_false (by have := fa rfl; omega)
          clear fa n1
          obtain ⟨y0, y1, y2, y3, y4, y5⟩ := lastC_cells (D.out.get 0 rfl : Own _ _ _ _ (lastC r5))
          obtain ⟨x0, x1, x2, x3, x4, x5⟩ := lastC_cells (D.out.get 6 rfl : Own _ _ _ _ (lastC p))
          obtain ⟨g0, g1, g2, g3, g4⟩ := gradeC_cells (D.out.get 5 rfl : Own _ _ _ _ (gradeC q))
          by_cases hm0 : -30 < m
          · have hm : decide (-30 < m) = true := decide_eq_true hm0
            have fb2 := fb hm0
            have hmw : IntKind.i64.wrap (m - 1) = m - 1 := IntWalk.i64_in _ (by omega)
            clear fb
            go_wp2_with (rw [← hwn.out])
            clear x0 x1 x2 x3 x4 x5
            clear g0 g1 g2 g3 g4
            clear y0 y1 y2 y3 y4 y5
            refine (k6.out _).mono ?_
            rintro e w2 ⟨rfl, hb⟩
            replace hB := Lib.hid (upw hB.out hb)
            replace D := Lib.hid (D.out.later hb)
            clear hb
            clear k6
            obtain ⟨wp, hwp⟩ : ∃ wn, wn = w2.alloc (.cells #[.string r6.Name, .int .i64 r6.Length, .int .i64 r6.Ball, .int .i64 r6.Instep, .int .i64 r6.Heel, .int .i64 r6.Pitch] 30) := ⟨_, rfl⟩
            replace D := Lib.hid (D.out.add (w' := wp) (by rw [hwp]; exact newB w2 _) (by rw [hwp]; exact own_lastC w2 30 r6))
            replace hB := Lib.hid (upw hB.out (w2 := wp) (by rw [hwp]; exact newB w2 _))
            replace hwp := Lib.hid hwp
            have y1 := (lastC_cells (D.out.get 0 rfl : Own _ _ _ _ (lastC r6))).2.1
            by_cases h6 : c6 = 0
            · subst h6
              have d6 : decide (n ≤ r6.Length) = false := decide_eq_false (by have := fb2 rfl; omega)
              go_wp2_with (rw [← hwp.out])
              exact slots_to (F := fun u' => #[u' 0, u' 1, u' 2, .pointer (some ⟨nx, 0, none⟩), .pointer (some ⟨ng, 0, none⟩), .int .i64 f, .int .i64 t, u' 7, .int .i64 c1, .slice ma R.length mc, u' 10, u' 11, u' 12, u' 13, u' 14, u' 15, u' 16, u' 17, u' 18, u' 19, u' 20, u' 21, u' 22, u' 23, u' 24, u' 25, u' 26, u' 27, u' 28, u' 29, u' 30, u' 31, u' 32, u' 33, u' 34, u' 35, u' 36, u' 37, u' 38, u' 39, u' 40, u' 41, u' 42, u' 43, u' 44, u' 45, u' 46, u' 47, u' 48, u' 49, u' 50, u' 51, u' 52, u' 53, u' 54, u' 55, u' 56, u' 57, u' 58, u' 59, u' 60, u' 61, u' 62, u' 63, u' 64, u' 65, u' 66, u' 67, u' 68, u' 69, u' 70, u' 71, u' 72, u' 73, u' 74, u' 75, u' 76, u' 77, u' 78, u' 79, u' 80, u' 81, u' 82, u' 83, u' 84, u' 85, u' 86, u' 87, u' 88, u' 89, u' 90, u' 91, u' 92, u' 93, u' 94, u' 95, u' 96, u' 97, u' 98, u' 99, u' 100, u' 101, u' 102, u' 103, u' 104, u' 105, u' 106, u' 107, u' 108, u' 109, u' 110, u' 111, u' 112, u' 113, u' 114, u' 115, u' 116, u' 117, u' 118, u' 119, u' 120, u' 121, u' 122, u' 123, u' 124, u' 125, u' 126, u' 127, u' 128, u' 129, u' 130, u' 131, u' 132, u' 133, u' 134, u' 135, u' 136, u' 137, u' 138, u' 139, u' 140, u' 141, u' 142, u' 143, u' 144, u' 145, u' 146, u' 147, u' 148, u' 149, u' 150, u' 151, u' 152, u' 153, u' 154, u' 155, u' 156, u' 157, u' 158, u' 159, u' 160, u' 161, u' 162, u' 163, u' 164, u' 165, u' 166, u' 167, u' 168, u' 169, u' 170, u' 171, u' 172, u' 173, u' 174, u' 175, u' 176, u' 177, u' 178, u' 179, u' 180, u' 181, u' 182, u' 183, u' 184, u' 185, u' 186, u' 187, u' 188, u' 189, u' 190, u' 191, u' 192, u' 193, u' 194, u' 195, u' 196, u' 197, u' 198, u' 199, u' 200, u' 201, u' 202, u' 203, u' 204, u' 205, u' 206, u' 207, u' 208, u' 209, u' 210, u' 211, u' 212, u' 213, u' 214, u' 215, u' 216, u' 217, u' 218, u' 219, u' 220, u' 221, u' 222, u' 223, u' 224, u' 225, u' 226, u' 227, u' 228, u' 229, u' 230, u' 231, u' 232, u' 233, u' 234, u' 235, u' 236, u' 237, u' 238, u' 239, u' 240, u' 241, u' 242, u' 243, u' 244, u' 245, u' 246, u' 247, u' 248, u' 249, u' 250, u' 251, u' 252, u' 253, u' 254, u' 255, u' 256, u' 257, u' 258, u' 259, u' 260, u' 261, u' 262, u' 263, u' 264, u' 265, u' 266, u' 267, u' 268, u' 269, u' 270, u' 271, u' 272, u' 273, u' 274, u' 275, u' 276, u' 277, u' 278, u' 279, undef, undef, undef, undef, undef, undef, undef, undef, undef, undef, undef, undef, undef, undef, undef, undef, undef, undef, undef, undef, undef, undef, undef, undef, undef, undef, undef, undef, undef, undef, undef, undef, undef, undef, undef, undef, undef, undef, undef, undef, undef, undef, undef, undef, undef, undef, undef, undef, undef, undef, undef, undef]) rfl (by kernel_rfl) (fun u' => hJ2.out u' _ hB.out)
            · have h6' : (c6 == 0) = false := beq_eq_false_iff_ne.2 h6
              go_wp2_with (rw [← hwp.out])
              exact slots_to (F := fun u' => #[u' 0, u' 1, u' 2, .pointer (some ⟨nx, 0, none⟩), .pointer (some ⟨ng, 0, none⟩), .int .i64 f, .int .i64 t, u' 7, .int .i64 c1, .slice ma R.length mc, u' 10, u' 11, u' 12, u' 13, u' 14, u' 15, u' 16, u' 17, u' 18, u' 19, u' 20, u' 21, u' 22, u' 23, u' 24, u' 25, u' 26, u' 27, u' 28, u' 29, u' 30, u' 31, u' 32, u' 33, u' 34, u' 35, u' 36, u' 37, u' 38, u' 39, u' 40, u' 41, u' 42, u' 43, u' 44, u' 45, u' 46, u' 47, u' 48, u' 49, u' 50, u' 51, u' 52, u' 53, u' 54, u' 55, u' 56, u' 57, u' 58, u' 59, u' 60, u' 61, u' 62, u' 63, u' 64, u' 65, u' 66, u' 67, u' 68, u' 69, u' 70, u' 71, u' 72, u' 73, u' 74, u' 75, u' 76, u' 77, u' 78, u' 79, u' 80, u' 81, u' 82, u' 83, u' 84, u' 85, u' 86, u' 87, u' 88, u' 89, u' 90, u' 91, u' 92, u' 93, u' 94, u' 95, u' 96, u' 97, u' 98, u' 99, u' 100, u' 101, u' 102, u' 103, u' 104, u' 105, u' 106, u' 107, u' 108, u' 109, u' 110, u' 111, u' 112, u' 113, u' 114, u' 115, u' 116, u' 117, u' 118, u' 119, u' 120, u' 121, u' 122, u' 123, u' 124, u' 125, u' 126, u' 127, u' 128, u' 129, u' 130, u' 131, u' 132, u' 133, u' 134, u' 135, u' 136, u' 137, u' 138, u' 139, u' 140, u' 141, u' 142, u' 143, u' 144, u' 145, u' 146, u' 147, u' 148, u' 149, u' 150, u' 151, u' 152, u' 153, u' 154, u' 155, u' 156, u' 157, u' 158, u' 159, u' 160, u' 161, u' 162, u' 163, u' 164, u' 165, u' 166, u' 167, u' 168, u' 169, u' 170, u' 171, u' 172, u' 173, u' 174, u' 175, u' 176, u' 177, u' 178, u' 179, u' 180, u' 181, u' 182, u' 183, u' 184, u' 185, u' 186, u' 187, u' 188, u' 189, u' 190, u' 191, u' 192, u' 193, u' 194, u' 195, u' 196, u' 197, u' 198, u' 199, u' 200, u' 201, u' 202, u' 203, u' 204, u' 205, u' 206, u' 207, u' 208, u' 209, u' 210, u' 211, u' 212, u' 213, u' 214, u' 215, u' 216, u' 217, u' 218, u' 219, u' 220, u' 221, u' 222, u' 223, u' 224, u' 225, u' 226, u' 227, u' 228, u' 229, u' 230, u' 231, u' 232, u' 233, u' 234, u' 235, u' 236, u' 237, u' 238, u' 239, u' 240, u' 241, u' 242, u' 243, u' 244, u' 245, u' 246, u' 247, u' 248, u' 249, u' 250, u' 251, u' 252, u' 253, u' 254, u' 255, u' 256, u' 257, u' 258, u' 259, u' 260, u' 261, u' 262, u' 263, u' 264, u' 265, u' 266, u' 267, u' 268, u' 269, u' 270, u' 271, u' 272, u' 273, u' 274, u' 275, u' 276, u' 277, u' 278, u' 279, undef, undef, undef, undef, undef, undef, undef, undef, undef, undef, undef, undef, undef, undef, undef, undef, undef, undef, undef, undef, undef, undef, undef, undef, undef, undef, undef, undef, undef, undef, undef, undef, undef, undef, undef, undef, undef, undef, undef, undef, undef, undef, undef, undef, undef, undef, undef, undef, undef, undef, undef, undef]) rfl (by kernel_rfl) (fun u' => hJ2.out u' _ hB.out)
          · have hm : decide (-30 < m) = false := decide_eq_false hm0
            go_wp2_with (rw [← hwn.out])
            exact slots_to (F := fun u' => #[u' 0, u' 1, u' 2, .pointer (some ⟨nx, 0, none⟩), .pointer (some ⟨ng, 0, none⟩), .int .i64 f, .int .i64 t, u' 7, .int .i64 c1, .slice ma R.length mc, u' 10, u' 11, u' 12, u' 13, u' 14, u' 15, u' 16, u' 17, u' 18, u' 19, u' 20, u' 21, u' 22, u' 23, u' 24, u' 25, u' 26, u' 27, u' 28, u' 29, u' 30, u' 31, u' 32, u' 33, u' 34, u' 35, u' 36, u' 37, u' 38, u' 39, u' 40, u' 41, u' 42, u' 43, u' 44, u' 45, u' 46, u' 47, u' 48, u' 49, u' 50, u' 51, u' 52, u' 53, u' 54, u' 55, u' 56, u' 57, u' 58, u' 59, u' 60, u' 61, u' 62, u' 63, u' 64, u' 65, u' 66, u' 67, u' 68, u' 69, u' 70, u' 71, u' 72, u' 73, u' 74, u' 75, u' 76, u' 77, u' 78, u' 79, u' 80, u' 81, u' 82, u' 83, u' 84, u' 85, u' 86, u' 87, u' 88, u' 89, u' 90, u' 91, u' 92, u' 93, u' 94, u' 95, u' 96, u' 97, u' 98, u' 99, u' 100, u' 101, u' 102, u' 103, u' 104, u' 105, u' 106, u' 107, u' 108, u' 109, u' 110, u' 111, u' 112, u' 113, u' 114, u' 115, u' 116, u' 117, u' 118, u' 119, u' 120, u' 121, u' 122, u' 123, u' 124, u' 125, u' 126, u' 127, u' 128, u' 129, u' 130, u' 131, u' 132, u' 133, u' 134, u' 135, u' 136, u' 137, u' 138, u' 139, u' 140, u' 141, u' 142, u' 143, u' 144, u' 145, u' 146, u' 147, u' 148, u' 149, u' 150, u' 151, u' 152, u' 153, u' 154, u' 155, u' 156, u' 157, u' 158, u' 159, u' 160, u' 161, u' 162, u' 163, u' 164, u' 165, u' 166, u' 167, u' 168, u' 169, u' 170, u' 171, u' 172, u' 173, u' 174, u' 175, u' 176, u' 177, u' 178, u' 179, u' 180, u' 181, u' 182, u' 183, u' 184, u' 185, u' 186, u' 187, u' 188, u' 189, u' 190, u' 191, u' 192, u' 193, u' 194, u' 195, u' 196, u' 197, u' 198, u' 199, u' 200, u' 201, u' 202, u' 203, u' 204, u' 205, u' 206, u' 207, u' 208, u' 209, u' 210, u' 211, u' 212, u' 213, u' 214, u' 215, u' 216, u' 217, u' 218, u' 219, u' 220, u' 221, u' 222, u' 223, u' 224, u' 225, u' 226, u' 227, u' 228, u' 229, u' 230, u' 231, u' 232, u' 233, u' 234, u' 235, u' 236, u' 237, u' 238, u' 239, u' 240, u' 241, u' 242, u' 243, u' 244, u' 245, u' 246, u' 247, u' 248, u' 249, u' 250, u' 251, u' 252, u' 253, u' 254, u' 255, u' 256, u' 257, u' 258, u' 259, u' 260, u' 261, u' 262, u' 263, u' 264, u' 265, u' 266, u' 267, u' 268, u' 269, u' 270, u' 271, u' 272, u' 273, u' 274, u' 275, u' 276, u' 277, u' 278, u' 279, undef, undef, undef, undef, undef, undef, undef, undef, undef, undef, undef, undef, undef, undef, undef, undef, undef, undef, undef, undef, undef, undef, undef, undef, undef, undef, undef, undef, undef, undef, undef, undef, undef, undef, undef, undef, undef, undef, undef, undef, undef, undef, undef, undef, undef, undef, undef, undef, undef, undef, undef, undef]) rfl (by kernel_rfl) (fun u' => hJ2.out u' _ hB.out)
        · have h5' : (c5 == 0) = false := beq_eq_false_iff_ne.2 h5
          have h5'' : (c5 == 1) = false := beq_eq_false_iff_ne.2 n1
          clear fa
          obtain ⟨y0, y1, y2, y3, y4, y5⟩ := lastC_cells (D.out.get 0 rfl : Own _ _ _ _ (lastC r5))
          obtain ⟨x0, x1, x2, x3, x4, x5⟩ := lastC_cells (D.out.get 6 rfl : Own _ _ _ _ (lastC p))
          obtain ⟨g0, g1, g2, g3, g4⟩ := gradeC_cells (D.out.get 5 rfl : Own _ _ _ _ (gradeC q))
          by_cases hm0 : -30 < m
          · have hm : decide (-30 < m) = true := decide_eq_true hm0
            have fb2 := fb hm0
            have hmw : IntKind.i64.wrap (m - 1) = m - 1 := IntWalk.i64_in _ (by omega)
            clear fb
            go_wp2_with (rw [← hwn.out])
            clear x0 x1 x2 x3 x4 x5
            clear g0 g1 g2 g3 g4
            clear y0 y1 y2 y3 y4 y5
            refine (k6.out _).mono ?_
            rintro e w2 ⟨rfl, hb⟩
            replace hB := Lib.hid (upw hB.out hb)
            replace D := Lib.hid (D.out.later hb)
            clear hb
            clear k6
            obtain ⟨wp, hwp⟩ : ∃ wn, wn = w2.alloc (.cells #[.string r6.Name, .int .i64 r6.Length, .int .i64 r6.Ball, .int .i64 r6.Instep, .int .i64 r6.Heel, .int .i64 r6.Pitch] 30) := ⟨_, rfl⟩
            replace D := Lib.hid (D.out.add (w' := wp) (by rw [hwp]; exact newB w2 _) (by rw [hwp]; exact own_lastC w2 30 r6))
            replace hB := Lib.hid (upw hB.out (w2 := wp) (by rw [hwp]; exact newB w2 _))
            replace hwp := Lib.hid hwp
            have y1 := (lastC_cells (D.out.get 0 rfl : Own _ _ _ _ (lastC r6))).2.1
            by_cases h6 : c6 = 0
            · subst h6
              have d6 : decide (n ≤ r6.Length) = false := decide_eq_false (by have := fb2 rfl; omega)
              go_wp2_with (rw [← hwp.out])
              exact slots_to (F := fun u' => #[u' 0, u' 1, u' 2, .pointer (some ⟨nx, 0, none⟩), .pointer (some ⟨ng, 0, none⟩), .int .i64 f, .int .i64 t, u' 7, .int .i64 c1, .slice ma R.length mc, u' 10, u' 11, u' 12, u' 13, u' 14, u' 15, u' 16, u' 17, u' 18, u' 19, u' 20, u' 21, u' 22, u' 23, u' 24, u' 25, u' 26, u' 27, u' 28, u' 29, u' 30, u' 31, u' 32, u' 33, u' 34, u' 35, u' 36, u' 37, u' 38, u' 39, u' 40, u' 41, u' 42, u' 43, u' 44, u' 45, u' 46, u' 47, u' 48, u' 49, u' 50, u' 51, u' 52, u' 53, u' 54, u' 55, u' 56, u' 57, u' 58, u' 59, u' 60, u' 61, u' 62, u' 63, u' 64, u' 65, u' 66, u' 67, u' 68, u' 69, u' 70, u' 71, u' 72, u' 73, u' 74, u' 75, u' 76, u' 77, u' 78, u' 79, u' 80, u' 81, u' 82, u' 83, u' 84, u' 85, u' 86, u' 87, u' 88, u' 89, u' 90, u' 91, u' 92, u' 93, u' 94, u' 95, u' 96, u' 97, u' 98, u' 99, u' 100, u' 101, u' 102, u' 103, u' 104, u' 105, u' 106, u' 107, u' 108, u' 109, u' 110, u' 111, u' 112, u' 113, u' 114, u' 115, u' 116, u' 117, u' 118, u' 119, u' 120, u' 121, u' 122, u' 123, u' 124, u' 125, u' 126, u' 127, u' 128, u' 129, u' 130, u' 131, u' 132, u' 133, u' 134, u' 135, u' 136, u' 137, u' 138, u' 139, u' 140, u' 141, u' 142, u' 143, u' 144, u' 145, u' 146, u' 147, u' 148, u' 149, u' 150, u' 151, u' 152, u' 153, u' 154, u' 155, u' 156, u' 157, u' 158, u' 159, u' 160, u' 161, u' 162, u' 163, u' 164, u' 165, u' 166, u' 167, u' 168, u' 169, u' 170, u' 171, u' 172, u' 173, u' 174, u' 175, u' 176, u' 177, u' 178, u' 179, u' 180, u' 181, u' 182, u' 183, u' 184, u' 185, u' 186, u' 187, u' 188, u' 189, u' 190, u' 191, u' 192, u' 193, u' 194, u' 195, u' 196, u' 197, u' 198, u' 199, u' 200, u' 201, u' 202, u' 203, u' 204, u' 205, u' 206, u' 207, u' 208, u' 209, u' 210, u' 211, u' 212, u' 213, u' 214, u' 215, u' 216, u' 217, u' 218, u' 219, u' 220, u' 221, u' 222, u' 223, u' 224, u' 225, u' 226, u' 227, u' 228, u' 229, u' 230, u' 231, u' 232, u' 233, u' 234, u' 235, u' 236, u' 237, u' 238, u' 239, u' 240, u' 241, u' 242, u' 243, u' 244, u' 245, u' 246, u' 247, u' 248, u' 249, u' 250, u' 251, u' 252, u' 253, u' 254, u' 255, u' 256, u' 257, u' 258, u' 259, u' 260, u' 261, u' 262, u' 263, u' 264, u' 265, u' 266, u' 267, u' 268, u' 269, u' 270, u' 271, u' 272, u' 273, u' 274, u' 275, u' 276, u' 277, u' 278, u' 279, undef, undef, undef, undef, undef, undef, undef, undef, undef, undef, undef, undef, undef, undef, undef, undef, undef, undef, undef, undef, undef, undef, undef, undef, undef, undef, undef, undef, undef, undef, undef, undef, undef, undef, undef, undef, undef, undef, undef, undef, undef, undef, undef, undef, undef, undef, undef, undef, undef, undef, undef, undef]) rfl (by kernel_rfl) (fun u' => hJ2.out u' _ hB.out)
            · have h6' : (c6 == 0) = false := beq_eq_false_iff_ne.2 h6
              go_wp2_with (rw [← hwp.out])
              exact slots_to (F := fun u' => #[u' 0, u' 1, u' 2, .pointer (some ⟨nx, 0, none⟩), .pointer (some ⟨ng, 0, none⟩), .int .i64 f, .int .i64 t, u' 7, .int .i64 c1, .slice ma R.length mc, u' 10, u' 11, u' 12, u' 13, u' 14, u' 15, u' 16, u' 17, u' 18, u' 19, u' 20, u' 21, u' 22, u' 23, u' 24, u' 25, u' 26, u' 27, u' 28, u' 29, u' 30, u' 31, u' 32, u' 33, u' 34, u' 35, u' 36, u' 37, u' 38, u' 39, u' 40, u' 41, u' 42, u' 43, u' 44, u' 45, u' 46, u' 47, u' 48, u' 49, u' 50, u' 51, u' 52, u' 53, u' 54, u' 55, u' 56, u' 57, u' 58, u' 59, u' 60, u' 61, u' 62, u' 63, u' 64, u' 65, u' 66, u' 67, u' 68, u' 69, u' 70, u' 71, u' 72, u' 73, u' 74, u' 75, u' 76, u' 77, u' 78, u' 79, u' 80, u' 81, u' 82, u' 83, u' 84, u' 85, u' 86, u' 87, u' 88, u' 89, u' 90, u' 91, u' 92, u' 93, u' 94, u' 95, u' 96, u' 97, u' 98, u' 99, u' 100, u' 101, u' 102, u' 103, u' 104, u' 105, u' 106, u' 107, u' 108, u' 109, u' 110, u' 111, u' 112, u' 113, u' 114, u' 115, u' 116, u' 117, u' 118, u' 119, u' 120, u' 121, u' 122, u' 123, u' 124, u' 125, u' 126, u' 127, u' 128, u' 129, u' 130, u' 131, u' 132, u' 133, u' 134, u' 135, u' 136, u' 137, u' 138, u' 139, u' 140, u' 141, u' 142, u' 143, u' 144, u' 145, u' 146, u' 147, u' 148, u' 149, u' 150, u' 151, u' 152, u' 153, u' 154, u' 155, u' 156, u' 157, u' 158, u' 159, u' 160, u' 161, u' 162, u' 163, u' 164, u' 165, u' 166, u' 167, u' 168, u' 169, u' 170, u' 171, u' 172, u' 173, u' 174, u' 175, u' 176, u' 177, u' 178, u' 179, u' 180, u' 181, u' 182, u' 183, u' 184, u' 185, u' 186, u' 187, u' 188, u' 189, u' 190, u' 191, u' 192, u' 193, u' 194, u' 195, u' 196, u' 197, u' 198, u' 199, u' 200, u' 201, u' 202, u' 203, u' 204, u' 205, u' 206, u' 207, u' 208, u' 209, u' 210, u' 211, u' 212, u' 213, u' 214, u' 215, u' 216, u' 217, u' 218, u' 219, u' 220, u' 221, u' 222, u' 223, u' 224, u' 225, u' 226, u' 227, u' 228, u' 229, u' 230, u' 231, u' 232, u' 233, u' 234, u' 235, u' 236, u' 237, u' 238, u' 239, u' 240, u' 241, u' 242, u' 243, u' 244, u' 245, u' 246, u' 247, u' 248, u' 249, u' 250, u' 251, u' 252, u' 253, u' 254, u' 255, u' 256, u' 257, u' 258, u' 259, u' 260, u' 261, u' 262, u' 263, u' 264, u' 265, u' 266, u' 267, u' 268, u' 269, u' 270, u' 271, u' 272, u' 273, u' 274, u' 275, u' 276, u' 277, u' 278, u' 279, undef, undef, undef, undef, undef, undef, undef, undef, undef, undef, undef, undef, undef, undef, undef, undef, undef, undef, undef, undef, undef, undef, undef, undef, undef, undef, undef, undef, undef, undef, undef, undef, undef, undef, undef, undef, undef, undef, undef, undef, undef, undef, undef, undef, undef, undef, undef, undef, undef, undef, undef, undef]) rfl (by kernel_rfl) (fun u' => hJ2.out u' _ hB.out)
          · have hm : decide (-30 < m) = false := decide_eq_false hm0
            go_wp2_with (rw [← hwn.out])
            exact slots_to (F := fun u' => #[u' 0, u' 1, u' 2, .pointer (some ⟨nx, 0, none⟩), .pointer (some ⟨ng, 0, none⟩), .int .i64 f, .int .i64 t, u' 7, .int .i64 c1, .slice ma R.length mc, u' 10, u' 11, u' 12, u' 13, u' 14, u' 15, u' 16, u' 17, u' 18, u' 19, u' 20, u' 21, u' 22, u' 23, u' 24, u' 25, u' 26, u' 27, u' 28, u' 29, u' 30, u' 31, u' 32, u' 33, u' 34, u' 35, u' 36, u' 37, u' 38, u' 39, u' 40, u' 41, u' 42, u' 43, u' 44, u' 45, u' 46, u' 47, u' 48, u' 49, u' 50, u' 51, u' 52, u' 53, u' 54, u' 55, u' 56, u' 57, u' 58, u' 59, u' 60, u' 61, u' 62, u' 63, u' 64, u' 65, u' 66, u' 67, u' 68, u' 69, u' 70, u' 71, u' 72, u' 73, u' 74, u' 75, u' 76, u' 77, u' 78, u' 79, u' 80, u' 81, u' 82, u' 83, u' 84, u' 85, u' 86, u' 87, u' 88, u' 89, u' 90, u' 91, u' 92, u' 93, u' 94, u' 95, u' 96, u' 97, u' 98, u' 99, u' 100, u' 101, u' 102, u' 103, u' 104, u' 105, u' 106, u' 107, u' 108, u' 109, u' 110, u' 111, u' 112, u' 113, u' 114, u' 115, u' 116, u' 117, u' 118, u' 119, u' 120, u' 121, u' 122, u' 123, u' 124, u' 125, u' 126, u' 127, u' 128, u' 129, u' 130, u' 131, u' 132, u' 133, u' 134, u' 135, u' 136, u' 137, u' 138, u' 139, u' 140, u' 141, u' 142, u' 143, u' 144, u' 145, u' 146, u' 147, u' 148, u' 149, u' 150, u' 151, u' 152, u' 153, u' 154, u' 155, u' 156, u' 157, u' 158, u' 159, u' 160, u' 161, u' 162, u' 163, u' 164, u' 165, u' 166, u' 167, u' 168, u' 169, u' 170, u' 171, u' 172, u' 173, u' 174, u' 175, u' 176, u' 177, u' 178, u' 179, u' 180, u' 181, u' 182, u' 183, u' 184, u' 185, u' 186, u' 187, u' 188, u' 189, u' 190, u' 191, u' 192, u' 193, u' 194, u' 195, u' 196, u' 197, u' 198, u' 199, u' 200, u' 201, u' 202, u' 203, u' 204, u' 205, u' 206, u' 207, u' 208, u' 209, u' 210, u' 211, u' 212, u' 213, u' 214, u' 215, u' 216, u' 217, u' 218, u' 219, u' 220, u' 221, u' 222, u' 223, u' 224, u' 225, u' 226, u' 227, u' 228, u' 229, u' 230, u' 231, u' 232, u' 233, u' 234, u' 235, u' 236, u' 237, u' 238, u' 239, u' 240, u' 241, u' 242, u' 243, u' 244, u' 245, u' 246, u' 247, u' 248, u' 249, u' 250, u' 251, u' 252, u' 253, u' 254, u' 255, u' 256, u' 257, u' 258, u' 259, u' 260, u' 261, u' 262, u' 263, u' 264, u' 265, u' 266, u' 267, u' 268, u' 269, u' 270, u' 271, u' 272, u' 273, u' 274, u' 275, u' 276, u' 277, u' 278, u' 279, undef, undef, undef, undef, undef, undef, undef, undef, undef, undef, undef, undef, undef, undef, undef, undef, undef, undef, undef, undef, undef, undef, undef, undef, undef, undef, undef, undef, undef, undef, undef, undef, undef, undef, undef, undef, undef, undef, undef, undef, undef, undef, undef, undef, undef, undef, undef, undef, undef, undef, undef, undef]) rfl (by kernel_rfl) (fun u' => hJ2.out u' _ hB.out)
      · have hB := Lib.hid (Below.refl w3.heap.size w3)
        have h4' : (c4 == 0) = false := beq_eq_false_iff_ne.2 h4
        clear fF k5 k6
        go_wp2_with fail
        exact slots_to (F := fun u' => #[u' 0, u' 1, u' 2, .pointer (some ⟨nx, 0, none⟩), .pointer (some ⟨ng, 0, none⟩), .int .i64 f, .int .i64 t, u' 7, .int .i64 c1, .slice ma R.length mc, u' 10, u' 11, u' 12, u' 13, u' 14, u' 15, u' 16, u' 17, u' 18, u' 19, u' 20, u' 21, u' 22, u' 23, u' 24, u' 25, u' 26, u' 27, u' 28, u' 29, u' 30, u' 31, u' 32, u' 33, u' 34, u' 35, u' 36, u' 37, u' 38, u' 39, u' 40, u' 41, u' 42, u' 43, u' 44, u' 45, u' 46, u' 47, u' 48, u' 49, u' 50, u' 51, u' 52, u' 53, u' 54, u' 55, u' 56, u' 57, u' 58, u' 59, u' 60, u' 61, u' 62, u' 63, u' 64, u' 65, u' 66, u' 67, u' 68, u' 69, u' 70, u' 71, u' 72, u' 73, u' 74, u' 75, u' 76, u' 77, u' 78, u' 79, u' 80, u' 81, u' 82, u' 83, u' 84, u' 85, u' 86, u' 87, u' 88, u' 89, u' 90, u' 91, u' 92, u' 93, u' 94, u' 95, u' 96, u' 97, u' 98, u' 99, u' 100, u' 101, u' 102, u' 103, u' 104, u' 105, u' 106, u' 107, u' 108, u' 109, u' 110, u' 111, u' 112, u' 113, u' 114, u' 115, u' 116, u' 117, u' 118, u' 119, u' 120, u' 121, u' 122, u' 123, u' 124, u' 125, u' 126, u' 127, u' 128, u' 129, u' 130, u' 131, u' 132, u' 133, u' 134, u' 135, u' 136, u' 137, u' 138, u' 139, u' 140, u' 141, u' 142, u' 143, u' 144, u' 145, u' 146, u' 147, u' 148, u' 149, u' 150, u' 151, u' 152, u' 153, u' 154, u' 155, u' 156, u' 157, u' 158, u' 159, u' 160, u' 161, u' 162, u' 163, u' 164, u' 165, u' 166, u' 167, u' 168, u' 169, u' 170, u' 171, u' 172, u' 173, u' 174, u' 175, u' 176, u' 177, u' 178, u' 179, u' 180, u' 181, u' 182, u' 183, u' 184, u' 185, u' 186, u' 187, u' 188, u' 189, u' 190, u' 191, u' 192, u' 193, u' 194, u' 195, u' 196, u' 197, u' 198, u' 199, u' 200, u' 201, u' 202, u' 203, u' 204, u' 205, u' 206, u' 207, u' 208, u' 209, u' 210, u' 211, u' 212, u' 213, u' 214, u' 215, u' 216, u' 217, u' 218, u' 219, u' 220, u' 221, u' 222, u' 223, u' 224, u' 225, u' 226, u' 227, u' 228, u' 229, u' 230, u' 231, u' 232, u' 233, u' 234, u' 235, u' 236, u' 237, u' 238, u' 239, u' 240, u' 241, u' 242, u' 243, u' 244, u' 245, u' 246, u' 247, u' 248, u' 249, u' 250, u' 251, u' 252, u' 253, u' 254, u' 255, u' 256, u' 257, u' 258, u' 259, u' 260, u' 261, u' 262, u' 263, u' 264, u' 265, u' 266, u' 267, u' 268, u' 269, u' 270, u' 271, u' 272, u' 273, u' 274, u' 275, u' 276, u' 277, u' 278, u' 279, undef, undef, undef, undef, undef, undef, undef, undef, undef, undef, undef, undef, undef, undef, undef, undef, undef, undef, undef, undef, undef, undef, undef, undef, undef, undef, undef, undef, undef, undef, undef, undef, undef, undef, undef, undef, undef, undef, undef, undef, undef, undef, undef, undef, undef, undef, undef, undef, undef, undef, undef, undef]) rfl (by kernel_rfl) (fun u' => hJ2.out u' _ hB.out)
    replace hJ := Lib.hid hJ
    clear hKA
    clear fS kL fF k5 k6
    by_cases h2 : c2 = 0
    · subst h2
      by_cases hs0 : s = 0
      · subst hs0
        have e := fZ.out rfl rfl
        rw [e] at D
        obtain ⟨y0, y1, y2, y3, y4, y5⟩ := lastC_cells (D.out.get 11 rfl : Own _ _ _ _ (lastC y))
        obtain ⟨x0, x1, x2, x3, x4, x5⟩ := lastC_cells (D.out.get 13 rfl : Own _ _ _ _ (lastC y))
        go_wp2_with fail
        exact slots_to (F := fun u' => #[u' 0, u' 1, u' 2, .pointer (some ⟨nx, 0, none⟩), .pointer (some ⟨ng, 0, none⟩), .int .i64 f, .int .i64 t, u' 7, .int .i64 c1, .slice ma R.length mc, u' 10, u' 11, u' 12, u' 13, u' 14, u' 15, u' 16, u' 17, u' 18, u' 19, u' 20, u' 21, u' 22, u' 23, u' 24, .pointer (some ⟨np, 0, none⟩), .pointer (some ⟨nq, 0, none⟩), .int .i64 n, .int .i64 m, .int .i64 c4, u' 30, u' 31, u' 32, u' 33, u' 34, u' 35, u' 36, u' 37, u' 38, u' 39, u' 40, u' 41, u' 42, u' 43, u' 44, u' 45, u' 46, u' 47, u' 48, u' 49, u' 50, u' 51, u' 52, u' 53, u' 54, u' 55, u' 56, u' 57, u' 58, u' 59, u' 60, u' 61, u' 62, u' 63, u' 64, u' 65, u' 66, u' 67, u' 68, u' 69, u' 70, u' 71, u' 72, u' 73, u' 74, u' 75, u' 76, u' 77, u' 78, u' 79, u' 80, u' 81, u' 82, u' 83, u' 84, u' 85, u' 86, u' 87, u' 88, u' 89, u' 90, u' 91, u' 92, u' 93, u' 94, u' 95, u' 96, u' 97, u' 98, u' 99, u' 100, u' 101, u' 102, u' 103, u' 104, u' 105, u' 106, u' 107, u' 108, u' 109, u' 110, u' 111, u' 112, u' 113, u' 114, u' 115, u' 116, u' 117, u' 118, u' 119, u' 120, u' 121, u' 122, u' 123, u' 124, u' 125, u' 126, u' 127, u' 128, u' 129, u' 130, u' 131, u' 132, u' 133, u' 134, u' 135, u' 136, u' 137, u' 138, u' 139, u' 140, u' 141, u' 142, u' 143, u' 144, u' 145, u' 146, u' 147, u' 148, u' 149, u' 150, u' 151, u' 152, u' 153, u' 154, u' 155, u' 156, u' 157, u' 158, u' 159, u' 160, u' 161, u' 162, u' 163, u' 164, u' 165, u' 166, u' 167, u' 168, u' 169, u' 170, u' 171, u' 172, u' 173, u' 174, u' 175, u' 176, u' 177, u' 178, u' 179, u' 180, u' 181, u' 182, u' 183, u' 184, u' 185, u' 186, u' 187, u' 188, u' 189, u' 190, u' 191, u' 192, u' 193, u' 194, u' 195, u' 196, u' 197, u' 198, u' 199, u' 200, u' 201, u' 202, u' 203, u' 204, u' 205, u' 206, u' 207, u' 208, u' 209, u' 210, u' 211, u' 212, u' 213, u' 214, u' 215, u' 216, u' 217, u' 218, u' 219, u' 220, u' 221, u' 222, u' 223, u' 224, u' 225, u' 226, u' 227, u' 228, u' 229, u' 230, u' 231, u' 232, u' 233, u' 234, u' 235, u' 236, u' 237, u' 238, u' 239, u' 240, undef, undef, undef, undef, undef, undef, undef, undef, undef, undef, undef, undef, undef, undef, undef, undef, undef, undef, undef, undef, undef, undef, undef, undef, undef, undef, undef, undef, undef, undef, undef, undef, undef, undef, undef, undef, undef, undef, undef, undef, undef, undef, undef, undef, undef, undef, undef, undef, undef, undef, undef, undef, undef, undef, undef, undef, undef, undef, undef, undef, undef, undef, undef, undef, undef, undef, undef, undef, undef, undef, undef, undef, undef, undef, undef, undef, undef, undef, undef, undef, undef, undef, undef, undef, undef, undef, undef, undef, undef, undef, undef]) rfl (by kernel_rfl) (fun u' => hJ.out u' _ (Below.refl _ _))
      · have hs' : (s == 0) = false := beq_eq_false_iff_ne.2 hs0
        go_wp2_with fail
        exact slots_to (F := fun u' => #[u' 0, u' 1, u' 2, .pointer (some ⟨nx, 0, none⟩), .pointer (some ⟨ng, 0, none⟩), .int .i64 f, .int .i64 t, u' 7, .int .i64 c1, .slice ma R.length mc, u' 10, u' 11, u' 12, u' 13, u' 14, u' 15, u' 16, u' 17, u' 18, u' 19, u' 20, u' 21, u' 22, u' 23, u' 24, .pointer (some ⟨np, 0, none⟩), .pointer (some ⟨nq, 0, none⟩), .int .i64 n, .int .i64 m, .int .i64 c4, u' 30, u' 31, u' 32, u' 33, u' 34, u' 35, u' 36, u' 37, u' 38, u' 39, u' 40, u' 41, u' 42, u' 43, u' 44, u' 45, u' 46, u' 47, u' 48, u' 49, u' 50, u' 51, u' 52, u' 53, u' 54, u' 55, u' 56, u' 57, u' 58, u' 59, u' 60, u' 61, u' 62, u' 63, u' 64, u' 65, u' 66, u' 67, u' 68, u' 69, u' 70, u' 71, u' 72, u' 73, u' 74, u' 75, u' 76, u' 77, u' 78, u' 79, u' 80, u' 81, u' 82, u' 83, u' 84, u' 85, u' 86, u' 87, u' 88, u' 89, u' 90, u' 91, u' 92, u' 93, u' 94, u' 95, u' 96, u' 97, u' 98, u' 99, u' 100, u' 101, u' 102, u' 103, u' 104, u' 105, u' 106, u' 107, u' 108, u' 109, u' 110, u' 111, u' 112, u' 113, u' 114, u' 115, u' 116, u' 117, u' 118, u' 119, u' 120, u' 121, u' 122, u' 123, u' 124, u' 125, u' 126, u' 127, u' 128, u' 129, u' 130, u' 131, u' 132, u' 133, u' 134, u' 135, u' 136, u' 137, u' 138, u' 139, u' 140, u' 141, u' 142, u' 143, u' 144, u' 145, u' 146, u' 147, u' 148, u' 149, u' 150, u' 151, u' 152, u' 153, u' 154, u' 155, u' 156, u' 157, u' 158, u' 159, u' 160, u' 161, u' 162, u' 163, u' 164, u' 165, u' 166, u' 167, u' 168, u' 169, u' 170, u' 171, u' 172, u' 173, u' 174, u' 175, u' 176, u' 177, u' 178, u' 179, u' 180, u' 181, u' 182, u' 183, u' 184, u' 185, u' 186, u' 187, u' 188, u' 189, u' 190, u' 191, u' 192, u' 193, u' 194, u' 195, u' 196, u' 197, u' 198, u' 199, u' 200, u' 201, u' 202, u' 203, u' 204, u' 205, u' 206, u' 207, u' 208, u' 209, u' 210, u' 211, u' 212, u' 213, u' 214, u' 215, u' 216, u' 217, u' 218, u' 219, u' 220, u' 221, u' 222, u' 223, u' 224, u' 225, u' 226, u' 227, u' 228, u' 229, u' 230, u' 231, u' 232, u' 233, u' 234, u' 235, u' 236, u' 237, u' 238, u' 239, u' 240, undef, undef, undef, undef, undef, undef, undef, undef, undef, undef, undef, undef, undef, undef, undef, undef, undef, undef, undef, undef, undef, undef, undef, undef, undef, undef, undef, undef, undef, undef, undef, undef, undef, undef, undef, undef, undef, undef, undef, undef, undef, undef, undef, undef, undef, undef, undef, undef, undef, undef, undef, undef, undef, undef, undef, undef, undef, undef, undef, undef, undef, undef, undef, undef, undef, undef, undef, undef, undef, undef, undef, undef, undef, undef, undef, undef, undef, undef, undef, undef, undef, undef, undef, undef, undef, undef, undef, undef, undef, undef, undef]) rfl (by kernel_rfl) (fun u' => hJ.out u' _ (Below.refl _ _))
    · have h2' : (c2 == 0) = false := beq_eq_false_iff_ne.2 h2
      go_wp2_with fail
      exact slots_to (F := fun u' => #[u' 0, u' 1, u' 2, .pointer (some ⟨nx, 0, none⟩), .pointer (some ⟨ng, 0, none⟩), .int .i64 f, .int .i64 t, u' 7, .int .i64 c1, .slice ma R.length mc, u' 10, u' 11, u' 12, u' 13, u' 14, u' 15, u' 16, u' 17, u' 18, u' 19, u' 20, u' 21, u' 22, u' 23, u' 24, .pointer (some ⟨np, 0, none⟩), .pointer (some ⟨nq, 0, none⟩), .int .i64 n, .int .i64 m, .int .i64 c4, u' 30, u' 31, u' 32, u' 33, u' 34, u' 35, u' 36, u' 37, u' 38, u' 39, u' 40, u' 41, u' 42, u' 43, u' 44, u' 45, u' 46, u' 47, u' 48, u' 49, u' 50, u' 51, u' 52, u' 53, u' 54, u' 55, u' 56, u' 57, u' 58, u' 59, u' 60, u' 61, u' 62, u' 63, u' 64, u' 65, u' 66, u' 67, u' 68, u' 69, u' 70, u' 71, u' 72, u' 73, u' 74, u' 75, u' 76, u' 77, u' 78, u' 79, u' 80, u' 81, u' 82, u' 83, u' 84, u' 85, u' 86, u' 87, u' 88, u' 89, u' 90, u' 91, u' 92, u' 93, u' 94, u' 95, u' 96, u' 97, u' 98, u' 99, u' 100, u' 101, u' 102, u' 103, u' 104, u' 105, u' 106, u' 107, u' 108, u' 109, u' 110, u' 111, u' 112, u' 113, u' 114, u' 115, u' 116, u' 117, u' 118, u' 119, u' 120, u' 121, u' 122, u' 123, u' 124, u' 125, u' 126, u' 127, u' 128, u' 129, u' 130, u' 131, u' 132, u' 133, u' 134, u' 135, u' 136, u' 137, u' 138, u' 139, u' 140, u' 141, u' 142, u' 143, u' 144, u' 145, u' 146, u' 147, u' 148, u' 149, u' 150, u' 151, u' 152, u' 153, u' 154, u' 155, u' 156, u' 157, u' 158, u' 159, u' 160, u' 161, u' 162, u' 163, u' 164, u' 165, u' 166, u' 167, u' 168, u' 169, u' 170, u' 171, u' 172, u' 173, u' 174, u' 175, u' 176, u' 177, u' 178, u' 179, u' 180, u' 181, u' 182, u' 183, u' 184, u' 185, u' 186, u' 187, u' 188, u' 189, u' 190, u' 191, u' 192, u' 193, u' 194, u' 195, u' 196, u' 197, u' 198, u' 199, u' 200, u' 201, u' 202, u' 203, u' 204, u' 205, u' 206, u' 207, u' 208, u' 209, u' 210, u' 211, u' 212, u' 213, u' 214, u' 215, u' 216, u' 217, u' 218, u' 219, u' 220, u' 221, u' 222, u' 223, u' 224, u' 225, u' 226, u' 227, u' 228, u' 229, u' 230, u' 231, u' 232, u' 233, u' 234, u' 235, u' 236, u' 237, u' 238, u' 239, u' 240, undef, undef, undef, undef, undef, undef, undef, undef, undef, undef, undef, undef, undef, undef, undef, undef, undef, undef, undef, undef, undef, undef, undef, undef, undef, undef, undef, undef, undef, undef, undef, undef, undef, undef, undef, undef, undef, undef, undef, undef, undef, undef, undef, undef, undef, undef, undef, undef, undef, undef, undef, undef, undef, undef, undef, undef, undef, undef, undef, undef, undef, undef, undef, undef, undef, undef, undef, undef, undef, undef, undef, undef, undef, undef, undef, undef, undef, undef, undef, undef, undef, undef, undef, undef, undef, undef, undef, undef, undef, undef, undef]) rfl (by kernel_rfl) (fun u' => hJ.out u' _ (Below.refl _ _))
end Go.Proofs.YtaeinllbjkjhlaaGreatDoor
