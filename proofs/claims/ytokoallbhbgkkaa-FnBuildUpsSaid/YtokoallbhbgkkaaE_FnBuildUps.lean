/- FnBuildUps: for all bytes the law returns true, and the bytes read behind the call as before. -/
import Derived.Test.YtokoallbhbgkkaaF05
import Derived.Test.YtokoallbhbgkkaaB06e
import Derived.Test.YtokoallbhbgkkaaL06r
namespace Go.Proofs.Ytokoallbhbgkkaa
open Go.ChangeShapes Go.WideShapes Go.ChangeAt Go.RowKit

theorem near_ok {f : Foot} {x : Last} (hf : DrawnF f) (hx : NearL derby f x) : okLast x = true := by
  have h1 := hf.length; have h2 := hf.ball; have h3 := hf.instep; have h4 := hf.heel
  have g1 := hx.length; have g2 := hx.ball; have g3 := hx.instep; have g4 := hx.heel; have g5 := hx.pitch
  refine okLast_iff.2 ⟨by rw [hx.name]; exact derby_name, ⟨?_, ?_, ?_, ?_⟩, ?_⟩ <;> omega
/-- The last when k girths have been built up. -/
def upL (x : Last) (s : Nat → Int) : Nat → Last
  | 0 => x
  | k + 1 => builtL (upL x s k) (k + 1) (s k)
structure Near4 (x : Last) : Prop where
  name : isName x.Name = true
  length : 500 ≤ x.Length ∧ x.Length ≤ 3100
  ball : 500 ≤ x.Ball ∧ x.Ball ≤ 4000
  instep : 500 ≤ x.Instep ∧ x.Instep ≤ 4000
  heel : 500 ≤ x.Heel ∧ x.Heel ≤ 4000
  pitch : 0 ≤ x.Pitch ∧ x.Pitch ≤ 1000
theorem near_four {f : Foot} {x : Last} (hf : DrawnF f) (hx : NearL derby f x) : Near4 x := by
  have h1 := hf.length; have h2 := hf.ball; have h3 := hf.instep; have h4 := hf.heel
  have g1 := hx.length; have g2 := hx.ball; have g3 := hx.instep; have g4 := hx.heel; have g5 := hx.pitch
  refine ⟨by rw [hx.name]; exact derby_name, ?_, ?_, ?_, ?_, ?_⟩ <;> omega
theorem up_ok {x : Last} {s : Nat → Int} (h : Near4 x) (hs : ∀ k, k < 3 → 0 ≤ s k ∧ s k ≤ 400) : ∀ k, k ≤ 3 → okLast (upL x s k) = true := by
  have a0 := hs 0 (by omega); have a1 := hs 1 (by omega); have a2 := hs 2 (by omega)
  have g1 := h.length; have g2 := h.ball; have g3 := h.instep; have g4 := h.heel; have g5 := h.pitch
  intro k hk
  rcases (by omega : k = 0 ∨ k = 1 ∨ k = 2 ∨ k = 3) with rfl | rfl | rfl | rfl <;> refine okLast_iff.2 ⟨h.name, ⟨?_, ?_, ?_, ?_⟩, ?_⟩ <;> simp [upL, builtL] <;> omega
theorem up_need {x : Last} {f : Foot} {s : Nat → Int} (h0 : ∀ k (h : k < (needL x f).length), (needL x f)[k] ≤ s k) : needL (upL x s 3) f = [0, 0, 0] := by
  have a0 : max 0 (f.Ball - x.Ball) ≤ s 0 := h0 0 (by show 0 < 3; omega)
  have a1 : max 0 (f.Instep - x.Instep) ≤ s 1 := h0 1 (by show 1 < 3; omega)
  have a2 : max 0 (f.Heel - x.Heel) ≤ s 2 := h0 2 (by show 2 < 3; omega)
  have e : needL (upL x s 3) f = [max 0 (f.Ball - (x.Ball + s 0)), max 0 (f.Instep - (x.Instep + s 1)), max 0 (f.Heel - (x.Heel + s 2))] := rfl
  rw [e]
  congr 1
  · omega
  · congr 1
    · omega
    · congr 1; omega
theorem need_near {f : Foot} {x : Last} (hx : NearL derby f x) : ∀ n ∈ needL x f, 0 ≤ n ∧ n ≤ 100 := by
  have g2 := hx.ball; have g3 := hx.instep; have g4 := hx.heel
  intro n hn
  simp [needL] at hn
  omega
theorem sum_two : ∀ (L : List Int), (∀ x ∈ L, 2 ≤ x) → 2 * (L.length : Int) ≤ sumI L
  | [], _ => by simp [sumI_nil]
  | x :: L, h => by
    have h1 := h x (by simp)
    have h2 := sum_two L fun y hy => h y (by simp [hy])
    rw [sumI_cons, List.length_cons]
    omega
/-- What a list of builds holds when all is well. -/
structure BuildsOk (ls N : List Int) (m : Nat) (LL : List (List Int)) : Prop where
  len : LL.length = 3
  nlen : N.length = 3
  sum : ∀ k (h : k < LL.length) (h' : k < N.length), N[k] ≤ sumI LL[k] ∧ sumI LL[k] ≤ N[k] + m
  mem : ∀ k (h : k < LL.length), ∀ x ∈ LL[k], x ∈ ls
  short : ∀ k (h : k < LL.length), LL[k].length ≤ 100
theorem builds_ok {ls N : List Int} {m : Nat} (hm : m ≤ 13) (hN : N.length = 3) (hn : ∀ n ∈ N, 0 ≤ n ∧ n ≤ 100) (hpos : ∀ l ∈ ls, 2 ≤ l) (h : N.all (fun n => (buF ls m n).isSome) = true) : BuildsOk ls N m (N.filterMap (buF ls m)) := by
  have hk : ∀ n ∈ N, ∃ L, buF ls m n = some L ∧ n ≤ sumI L ∧ sumI L ≤ n + m ∧ (∀ x ∈ L, x ∈ ls) ∧ L.length ≤ 100 := by
    intro n hn'
    have h1 := List.all_eq_true.1 h n hn'
    obtain ⟨L, hL⟩ := Option.isSome_iff_exists.1 h1
    obtain ⟨q, hq1, hq2, hs⟩ := withinB_is hL
    have h2 := hn n hn'
    have h3 := shortest_sum hs
    have h4 := sum_two L fun x hx => hpos x (shortest_mem hs x hx)
    exact ⟨L, hL, by omega, by omega, shortest_mem hs, by omega⟩
  obtain ⟨a, b, c, rfl⟩ : ∃ a b c, N = [a, b, c] := by
    match N, hN with
    | [a, b, c], _ => exact ⟨a, b, c, rfl⟩
  obtain ⟨A, hA, a1, a2, a3, a4⟩ := hk a (by simp)
  obtain ⟨B, hB, b1, b2, b3, b4⟩ := hk b (by simp)
  obtain ⟨C, hC, c1, c2, c3, c4⟩ := hk c (by simp)
  have e : [a, b, c].filterMap (buF ls m) = [A, B, C] := by simp [hA, hB, hC]
  rw [e]
  refine ⟨rfl, rfl, ?_, ?_, ?_⟩
  · intro k h h'
    rcases (by simp at h; omega : k = 0 ∨ k = 1 ∨ k = 2) with rfl | rfl | rfl
    · exact ⟨a1, a2⟩
    · exact ⟨b1, b2⟩
    · exact ⟨c1, c2⟩
  · intro k h
    rcases (by simp at h; omega : k = 0 ∨ k = 1 ∨ k = 2) with rfl | rfl | rfl
    · exact a3
    · exact b3
    · exact c3
  · intro k h
    rcases (by simp at h; omega : k = 0 ∨ k = 1 ∨ k = 2) with rfl | rfl | rfl
    · exact a4
    · exact b4
    · exact c4
/-- Of the builds: too full, too tight, or all is well. -/
theorem bu_cases {x : Last} {f : Foot} {ls : List Int} {m : Nat} (hx : okLast x = true) (hf : okFoot f = true) (hl : layOk ls = true) (hm : m ≤ 13) (hn : ∀ n ∈ needL x f, 0 ≤ n ∧ n ≤ 100) (hpos : ∀ l ∈ ls, 2 ≤ l) :
    buRes x f ls m = ([], 5) ∨ buRes x f ls m = ([], 10) ∨ ∃ LL, buRes x f ls m = (LL, 0) ∧ BuildsOk ls (needL x f) m LL := by
  unfold buRes
  rw [hx, hf, hl, inr_true.2 (by omega : (0 : Int) ≤ (m : Int) ∧ (m : Int) ≤ 1000), Int.toNat_natCast]
  simp only [Bool.and_self, if_true]
  split
  · exact Or.inl rfl
  · split
    · rename_i h
      exact Or.inr (Or.inr ⟨_, rfl, builds_ok hm rfl hn hpos h⟩)
    · exact Or.inr (Or.inl rfl)
set_option maxRecDepth 100000 in
set_option maxHeartbeats 8000000 in
theorem lawBuildUps (a : Option Addr) (L : List UInt8) (c : Nat) (a' : Option Addr) (M : List UInt8) (c' : Nat) (w : World) (hx : At w a L) (hlx : L.length ≤ 9223372036854775807) (hy : At w a' M) (hly : M.length ≤ 9223372036854775807) :
    Calls Try.prog 7 #[.slice a L.length c, .slice a' M.length c'] w fun e w' => e = .returned (.bool true) ∧ Below w.heap.size w w' := by
  have hlong := a2Long_c a a' L M c c' w
  by_cases hg : 3000 < L.length ∨ 3000 < M.length
  · have e : (decide (3000 < L.length) || decide (3000 < M.length)) = true := by simpa using hg
    rw [e] at hlong
    go_enter Try.func7, Try.ntmps7
    go_wp2_with (go_at_call 24; refine hlong.mono ?_; rintro e w1 ⟨rfl, rfl⟩)
    go_ret
    exact ⟨rfl, Below.refl _ _⟩
  · have e : (decide (3000 < L.length) || decide (3000 < M.length)) = false := by simp; omega
    rw [e] at hlong
    have hL3 : L.length ≤ 3000 := by omega
    have hM3 : M.length ≤ 3000 := by omega
    clear e hg
    have hF := footD_is L 0 0
    have A1 := Lib.hid (A2Foot_d a L c w hx hlx)
    have A2 := Lib.hid (fun w' hb => A2Last_c a L c w' (hx.below (w' := w') hb) hlx)
    generalize footD L 0 0 = f at *
    have hFok := hF.ok
    go_enter Try.func7, Try.ntmps7
    go_wp2_with fail
    refine hlong.mono ?_
    rintro e w1 ⟨rfl, rfl⟩
    go_wp2_with fail
    refine A1.out.mono ?_
    rintro e w1 ⟨rfl, hb1⟩
    obtain ⟨w2, hw2⟩ : ∃ w2, w2 = w1.alloc (.cells #[.int .i64 f.Length, .int .i64 f.Ball, .int .i64 f.Instep, .int .i64 f.Heel] 39) := ⟨_, rfl⟩
    have hb2 : Below w1.heap.size w1 w2 := by rw [hw2]; exact newB _ _
    have hFO := own_footC w1 39 f
    rw [← hw2] at hFO
    replace hFO := Lib.hid hFO
    replace hw2 := Lib.hid hw2
    go_wp2_with (rw [← hw2.out])
    refine (A2.out w2 (upw hb1 hb2)).mono ?_
    rintro e w3 ⟨x, rfl, hN, hb3⟩
    replace hFO := Lib.hid (hFO.out.later hb3)
    have hb := upw (upw hb1 hb2) hb3
    have hxok := near_ok hF hN
    have hx4 := Lib.hid (near_four hF hN)
    have hnn := Lib.hid (need_near hN)
    have hxn : x.Name.size ≤ 9223372036854775807 := by rw [hN.name]; decide
    have hF1 := hF.length; have hF2 := hF.ball; have hF3 := hF.instep; have hF4 := hF.heel
    have hX1 := hN.length; have hX2 := hN.ball; have hX3 := hN.instep; have hX4 := hN.heel
    clear hF hN A1 A2 hb1 hb2 hb3 hw2
    obtain ⟨w4, hw4⟩ : ∃ w4, w4 = w3.alloc (.cells #[.string x.Name, .int .i64 x.Length, .int .i64 x.Ball, .int .i64 x.Instep, .int .i64 x.Heel, .int .i64 x.Pitch] 37) := ⟨_, rfl⟩
    have hb4 : Below w3.heap.size w3 w4 := by rw [hw4]; exact newB _ _
    have hXO := own_last1 w3 37 x
    rw [← hw4] at hXO
    replace hXO := Lib.hid hXO
    have hfar1' : w1.heap.size < w3.heap.size := (hFO.out.lt _ rfl).2
    replace hFO := Lib.hid (hFO.out.later hb4)
    replace hw4 := Lib.hid hw4
    have hw3 := hb.size
    replace hb := upw hb hb4
    clear hb4
    go_wp2_with (rw [← hw4.out])
    refine (A2Layers_c a' M c' w4 (hy.below hb) hly).mono ?_
    rintro e w5 ⟨v1, ls, rfl, hO1, hD, hb5⟩
    obtain ⟨a1, c1, rfl, hA1⟩ := hO1.at
    have hlk := drawn_ok hD
    have hll := hD.len
    have hlp := Lib.hid hD.pos
    replace hFO := Lib.hid (hFO.out.later hb5)
    replace hXO := Lib.hid (hXO.out.later hb5)
    replace hb := upw hb hb5
    clear hb5 hO1 hw4 hD
    go_wp2_with fail
    refine (a2At_c a' M c' 30 14 w5 (hy.below hb) hM3 (by omega) (by omega) (by omega)).mono ?_
    rintro e w6 ⟨mm, rfl, m0, m1, rfl⟩
    obtain ⟨m, rfl⟩ : ∃ m : Nat, mm = m := ⟨mm.toNat, by omega⟩
    have hm : m ≤ 13 := by omega
    clear m0 m1
    have hfar5 : w3.heap.size < w5.heap.size := (hXO.out.lt _ rfl).2
    obtain ⟨f0, f1, f2, f3⟩ := footC_cells hFO.out
    obtain ⟨x0, x1, x2, x3, x4, x5⟩ := last1_cells hXO.out
    go_wp2_with fail
    refine (needOf_ok x f w5 hxn hxok hFok).mono ?_
    rintro e w6 ⟨g, rfl, hON, hb6⟩
    replace x0 := kept_cell x0 hb6
    replace x1 := kept_cell x1 hb6
    replace x2 := kept_cell x2 hb6
    replace x3 := kept_cell x3 hb6
    replace x4 := kept_cell x4 hb6
    replace x5 := kept_cell x5 hb6
    replace f0 := kept_cell f0 hb6
    replace f1 := kept_cell f1 hb6
    replace f2 := kept_cell f2 hb6
    replace f3 := kept_cell f3 hb6
    replace hA1 := hA1.below hb6
    replace hFO := Lib.hid (hFO.out.later hb6)
    replace hXO := Lib.hid (hXO.out.later hb6)
    replace hb := upw hb hb6
    clear hb6
    have hfarL : w3.heap.size < w6.heap.size := by have := hXO.out.lt _ rfl; omega
    have hfar1 : w1.heap.size < w3.heap.size := hfar1'
    have hfar6 : w3.heap.size < w5.heap.size := hfar5
    replace hON := Lib.hid hON
    go_wp2_with fail
    refine (implBU_good x f a1 ls c1 m w6 hxn hA1 (by omega) hxok hFok hlk (by omega)).mono ?_
    rintro e w7 ⟨v, rs, rfl, hOL, hb7⟩
    replace x0 := kept_cell x0 hb7
    replace x1 := kept_cell x1 hb7
    replace x2 := kept_cell x2 hb7
    replace x3 := kept_cell x3 hb7
    replace x4 := kept_cell x4 hb7
    replace x5 := kept_cell x5 hb7
    replace f0 := kept_cell f0 hb7
    replace f1 := kept_cell f1 hb7
    replace f2 := kept_cell f2 hb7
    replace f3 := kept_cell f3 hb7
    replace hA1 := hA1.below hb7
    replace hON := Lib.hid (hON.out.later hb7)
    have hAN := hON.out.at'
    replace hFO := Lib.hid (hFO.out.later hb7)
    replace hXO := Lib.hid (hXO.out.later hb7)
    replace hb := upw hb hb7
    clear hb7
    have n0 := hAN.int (i := 0) (by show 0 < 3; omega)
    have n1 := hAN.int (i := 1) (by show 1 < 3; omega)
    have n2 := hAN.int (i := 2) (by show 2 < 3; omega)
    have hbu := bu_cases hxok hFok hlk hm hnn.out (fun l hl => (hlp.out l hl).1)
    rw [Nat.zero_add] at n0 n1 n2
    replace n0 : w7.cell? ⟨g, 0, none⟩ = some (.int .i64 (max 0 (f.Ball - x.Ball))) := n0
    replace n1 : w7.cell? ⟨g, 1, none⟩ = some (.int .i64 (max 0 (f.Instep - x.Instep))) := n1
    replace n2 : w7.cell? ⟨g, 2, none⟩ = some (.int .i64 (max 0 (f.Heel - x.Heel))) := n2
    have hNl : Hid ((needL x f).length = 3) := Lib.hid rfl
    obtain ⟨q0, hq0⟩ : ∃ q, q = max 0 (f.Ball - x.Ball) := ⟨_, rfl⟩
    obtain ⟨q1, hq1⟩ : ∃ q, q = max 0 (f.Instep - x.Instep) := ⟨_, rfl⟩
    obtain ⟨q2, hq2⟩ : ∃ q, q = max 0 (f.Heel - x.Heel) := ⟨_, rfl⟩
    rw [← hq0] at n0
    rw [← hq1] at n1
    rw [← hq2] at n2
    have e0 : (if x.Ball < f.Ball then f.Ball - x.Ball else 0) = q0 := by rw [hq0]; split <;> omega
    have e1 : (if x.Instep < f.Instep then f.Instep - x.Instep else 0) = q1 := by rw [hq1]; split <;> omega
    have e2 : (if x.Heel < f.Heel then f.Heel - x.Heel else 0) = q2 := by rw [hq2]; split <;> omega
    replace hq0 := Lib.hid hq0
    replace hq1 := Lib.hid hq1
    replace hq2 := Lib.hid hq2
    replace hbu := Lib.hid hbu
    have g1 := rg x2
    have g2 := rg x3
    have g3 := rg x4
    have g4 := rg f1
    have g5 := rg f2
    have g6 := rg f3
    have g7 := rg n0
    have g8 := rg n1
    have g9 := rg n2
    go_wp2_with fail
    refine wp_region_quiet_below (by kernel_rfl) (by kernel_rfl) ?_
    repeat (go_big_quiet_step (fail))
    refine wpQuiet_nil ?_
    intro w2 hw'
    replace hb := upw hb (grown_of hw')
    have hw2 := grown_of hw'
    clear hw'
    replace hFO := Lib.hid (hFO.out.later hw2)
    replace hXO := Lib.hid (hXO.out.later hw2)
    replace hON := Lib.hid (hON.out.later hw2)
    replace hOL := hOL.later hw2
    clear hw2 g1 g2 g3 g4 g5 g6 g7 g8 g9 e0 e1 e2 n0 n1 n2 x0 x1 x2 x3 x4 x5 f0 f1 f2 f3
    obtain ⟨wl, hwl⟩ : ∃ wl : World, wl = w2 := ⟨_, rfl⟩
    subst hwl
    rcases hbu.out with hr | hr | ⟨LL, hr, hB⟩
    · rw [hr]
      go_wp2_with fail
      go_ret
      exact ⟨rfl, hb⟩
    · rw [hr]
      go_wp2_with fail
      go_ret
      exact ⟨rfl, hb⟩
    rw [hr] at hOL ⊢
    clear hr hbu hlk hll hA1
    have hL3 := hB.len
    obtain ⟨a2, c2, rfl, _⟩ := hOL.at
    rw [hL3] at hOL ⊢
    obtain ⟨s, hs⟩ : ∃ s : Nat → Int, s = fun k => sumI (LL.getD k []) := ⟨_, rfl⟩
    have hs1 : ∀ k (h : k < LL.length), s k = sumI LL[k] := fun k h => by rw [hs]; simp [h]
    have hs2 : ∀ k, k < 3 → 0 ≤ s k ∧ s k ≤ 113 := fun k hk => by
      have h1 : k < LL.length := by omega
      have h2 := hB.sum k h1 (by rw [hB.nlen]; exact hk)
      have h3 := hnn.out _ (List.getElem_mem (by rw [hB.nlen]; exact hk : k < (needL x f).length))
      rw [hs1 k h1]; omega
    have hok := Lib.hid (up_ok (s := s) hx4.out (fun k hk => by have := hs2 k hk; omega))
    have hnd := Lib.hid (up_need (x := x) (f := f) (s := s) (fun k hk => by
      have h1 : k < LL.length := by rw [hL3, ← hB.nlen]; exact hk
      have := (hB.sum k h1 hk).1
      rw [hs1 k h1]; exact this))
    have hnm : ∀ k, k ≤ 3 → (upL x s k).Name.size ≤ 9223372036854775807 := fun k hk => by
      have h1 := (okLast_iff.1 (hok.out k hk)).1
      have := isName_size h1
      omega
    replace hs1 := Lib.hid hs1
    replace hs2 := Lib.hid hs2
    replace hnm := Lib.hid hnm
    replace hs := Lib.hid hs
    replace hB := Lib.hid hB
    replace hxok := Lib.hid hxok
    replace hL3 := Lib.hid hL3
    clear hX1 hX2 hX3 hX4 hF1 hF2 hF3 hF4 hxn
    obtain ⟨b6, hb6⟩ : ∃ b, b = w3.heap.size := ⟨_, rfl⟩
    obtain ⟨b1, hb1⟩ : ∃ b, b = w1.heap.size := ⟨_, rfl⟩
    rw [← hb6] at hXO hfar6 hfarL hfar1 hw3 ⊢
    rw [← hb1] at hFO hfar1 ⊢
    clear hb6 hb1
    replace hOL := Lib.hid hOL
    go_wp2_with fail
    go_loopw [13] (fun i wr => ∃ k : Nat, k ≤ 3 ∧ i = .int .i64 k ∧ Hid (Own b6 wr 37 (.slice (some ⟨b6, 0, none⟩) 1 1) [upL x s k]) ∧ Hid (Own b1 wr 39 (.slice (some ⟨b1, 0, none⟩) 4 4) (footC f)) ∧ Hid (Own w5.heap.size wr 2 (.slice (some ⟨g, 0, none⟩) 3 3) (needL x f)) ∧ Hid (OwnLists w6.heap.size wr (.slice a2 3 c2) rs LL) ∧ Below w.heap.size w wr) (fun i _ => 3 - (intOf i).toNat)
    case atStart => exact ⟨0, by omega, rfl, hXO, hFO, hON, hOL, hb⟩
    case round =>
      clear hXO hFO hON hOL hb
      obtain ⟨k, hk, rfl, hXO, hFO, hON, hOL, hb⟩ := hrel
      by_cases hlt : k < 3
      · obtain ⟨wo, hwo⟩ : ∃ wo : World, wo = wr := ⟨_, rfl⟩
        subst hwo
        have hkL : k < LL.length := by rw [hL3.out]; exact hlt
        have hkN : k < (needL x f).length := by rw [hB.out.nlen]; exact hlt
        have hLA := hOL.out.at'
        obtain ⟨bl, ol, rfl⟩ := hLA.addr hkL
        obtain ⟨ak, ck, l0, hAk⟩ := hLA.ints hkL
        have n0 := hON.out.at'.int hkN
        rw [Nat.zero_add] at n0
        obtain ⟨x0, x1, x2, x3, x4, x5⟩ := last1_cells hXO.out
        have hSk := hs1.out k hkL
        have hr1 := hB.out.sum k hkL hkN
        have hm1 := hB.out.mem k hkL
        have hl1 := hB.out.short k hkL
        have hs3 := hs2.out k hlt
        have hX0 := hok.out k hk
        have hX1 := hok.out (k + 1) hlt
        have hXn := hnm.out k hk
        have hup : upL x s (k + 1) = builtL (upL x s k) (k + 1) (s k) := rfl
        rw [hSk] at hs3
        rw [hup, hSk] at hX1
        have hsumc := fun w' hb' => a2Sum_c ak LL[k] ck w' (hAk.below (w' := w') hb') (by omega) (fun y hy => by have := hlp.out y (hm1 y hy); omega)
        have hbuild := fun w' hb' => buildLast_ok (upL x s k) (k + 1) ak LL[k] ck w' hXn hX0 (by omega) (by omega) (hAk.below (w' := w') hb') hl1 (fun y hy => by have := hlp.out y (hm1 y hy); omega) hX1
        rw [Int.natCast_add] at hbuild
        have hY := Lib.hid (show upL x s (k + 1) = builtL (upL x s k) (k + 1) (sumI LL[k]) by rw [hup, hSk])
        clear hup hSk hX0 hX1 hXn hm1 hl1 hLA hAk
        generalize (needL x f)[k] = n at *
        generalize builtL (upL x s k) (k + 1) (sumI LL[k]) = Y at *
        generalize sumI LL[k] = q at *
        generalize LL[k].length = lk at *
        replace hbuild := Lib.hid hbuild
        replace hsumc := Lib.hid hsumc
        have t1 : ¬ q < n := by omega
        have t2 : ¬ n + (m : Int) < q := by omega
        have hlk3 : k < 3 := hlt
        go_wp2_with (go_at_call 27; refine (hsumc.out _ (Below.refl _ _)).mono ?_; rintro e w8 ⟨rfl, rfl⟩)
        have hkw : IntKind.i64.wrap ((k : Int) + 1) = (k : Int) + 1 := IntWalk.i64_in _ (by omega)
        refine wp_region_held_drew (S := (fun w' => w'.cell? ⟨b6, 0, none⟩ = some (.string (upL x s k).Name) ∧ w'.cell? ⟨b6, 1, none⟩ = some (.int .i64 (upL x s k).Length) ∧ w'.cell? ⟨b6, 2, none⟩ = some (.int .i64 (upL x s k).Ball) ∧ w'.cell? ⟨b6, 3, none⟩ = some (.int .i64 (upL x s k).Instep) ∧ w'.cell? ⟨b6, 4, none⟩ = some (.int .i64 (upL x s k).Heel) ∧ w'.cell? ⟨b6, 5, none⟩ = some (.int .i64 (upL x s k).Pitch) ∧ w'.cell? ⟨bl, ol + k, none⟩ = some (.slice ak lk ck))) (by kernel_rfl) ⟨x0, x1, x2, x3, x4, x5, l0⟩ (fun hHeld => ?_)
        have hdd : Below wo.heap.size wo wo.drew := (Below.refl _ _).drew
        have hbo := hdd
        refine wpAnyH_take (i := 0) (v := _) rfl (by kernel_rfl) (by kernel_rfl) (by kernel_rfl) (fun _ _ _ h => h) (Or.inl ⟨by rfl, (by intro w hSw; (try dsimp only at hSw); go_simp; try with_reducible rfl)⟩) (by assumption) ?_
        go_simp
        refine wpAnyH_take (i := 1) (v := _) rfl (by kernel_rfl) (by kernel_rfl) (by kernel_rfl) (fun _ _ _ h => h) (Or.inl ⟨by rfl, (by intro w hSw; (try dsimp only at hSw); go_simp; try with_reducible rfl)⟩) (by assumption) ?_
        go_simp
        refine wpAnyH_take (i := 2) (v := _) rfl (by kernel_rfl) (by kernel_rfl) (by kernel_rfl) (fun _ _ _ h => h) (Or.inl ⟨by rfl, (by intro w hSw; (try dsimp only at hSw); go_simp; try with_reducible rfl)⟩) (by assumption) ?_
        go_simp
        refine wpAnyH_take (i := 3) (v := _) rfl (by kernel_rfl) (by kernel_rfl) (by kernel_rfl) (fun _ _ _ h => h) (Or.inl ⟨by rfl, (by intro w hSw; (try dsimp only at hSw); go_simp; try with_reducible rfl)⟩) (by assumption) ?_
        go_simp
        refine wpAnyH_take (i := 4) (v := _) rfl (by kernel_rfl) (by kernel_rfl) (by kernel_rfl) (fun _ _ _ h => h) (Or.inl ⟨by rfl, (by intro w hSw; (try dsimp only at hSw); go_simp; try with_reducible rfl)⟩) (by assumption) ?_
        go_simp
        refine wpAnyH_take (i := 5) (v := _) rfl (by kernel_rfl) (by kernel_rfl) (by kernel_rfl) (fun _ _ _ h => h) (Or.inl ⟨by rfl, (by intro w hSw; (try dsimp only at hSw); go_simp; try with_reducible rfl)⟩) (by assumption) ?_
        go_simp
        refine wpAnyH_take (i := 6) (v := _) rfl (by kernel_rfl) (by kernel_rfl) (by kernel_rfl) (fun _ _ _ h => h) (Or.inl ⟨by rfl, (by intro w hSw; (try dsimp only at hSw); go_simp; try with_reducible rfl)⟩) (by assumption) ?_
        go_simp
        refine wpAnyH_ready (rs := [7, 11]) (by kernel_rfl) (by simp) ?_
        refine AllReadyH.cons rfl (fun K hK => ?_) (AllReadyH.cons rfl (fun K hK => ?_) AllReadyH.nil)
        · go_simp
          refine (hbuild.out _ hbo).mono ?_
          rintro e wb ⟨rfl, hbb⟩
          replace hbo := upw hbo hbb
          refine hK.out _ _ (by exact ⟨kept_cell x0 hbo, kept_cell x1 hbo, kept_cell x2 hbo, kept_cell x3 hbo, kept_cell x4 hbo, kept_cell x5 hbo, kept_cell l0 hbo⟩) (fun hHeld => ?_)
          clear hK K hbb
          go_simp
          refine wpAnyH_take (i := 8) (v := _) rfl (by kernel_rfl) (by kernel_rfl) (by kernel_rfl) (fun _ _ _ h => h) (Or.inl ⟨by rfl, (by intro w hSw; (try dsimp only at hSw); go_simp; try with_reducible rfl)⟩) (by assumption) ?_
          go_simp
          refine wpAnyH_take (i := 9) (v := _) rfl (by kernel_rfl) (by kernel_rfl) (by kernel_rfl) (fun _ _ _ h => h) (Or.inl ⟨by rfl, (by intro w hSw; (try dsimp only at hSw); go_simp; try with_reducible rfl)⟩) (by assumption) ?_
          go_simp
          refine wpAnyH_take (i := 10) (v := _) rfl (by kernel_rfl) (by kernel_rfl) (by kernel_rfl) (fun _ _ _ h => h) (Or.inl ⟨by rfl, (by intro w hSw; (try dsimp only at hSw); go_simp; try with_reducible rfl)⟩) (by assumption) ?_
          go_simp
          refine wpAnyH_ready (rs := [11]) (by kernel_rfl) (by simp) ?_
          refine AllReadyH.cons rfl (fun K hK => ?_) AllReadyH.nil
          go_simp
          obtain ⟨bx, hbx⟩ : ∃ bx, bx = wb.heap.size := ⟨_, rfl⟩
          have hV : Hid (Own bx (wb.alloc (.cells #[.string { data := #[] }, .int .i64 0, .int .i64 0, .int .i64 0, .int .i64 0, .int .i64 0] 37)) 37 (.slice (some ⟨bx, 0, none⟩) 1 1) ([⟨ByteArray.empty, 0, 0, 0, 0, 0⟩] : List Last)) := Lib.hid (by rw [hbx]; exact own_last1 wb 37 ⟨ByteArray.empty, 0, 0, 0, 0, 0⟩)
          have hwx : wo.heap.size ≤ bx := by rw [hbx]; exact hbo.size
          replace hbo := upw hbo (newB wb (.cells #[.string { data := #[] }, .int .i64 0, .int .i64 0, .int .i64 0, .int .i64 0, .int .i64 0] 37))
          refine hK.out _ _ (by exact ⟨kept_cell x0 hbo, kept_cell x1 hbo, kept_cell x2 hbo, kept_cell x3 hbo, kept_cell x4 hbo, kept_cell x5 hbo, kept_cell l0 hbo⟩) (fun hHeld => ?_)
          clear hK K
          go_simp
          refine wpAnyH_ready (rs := [12]) (by kernel_rfl) (by simp) ?_
          refine AllReadyH.cons rfl (fun K hK => ?_) AllReadyH.nil
          refine cast (if_pos (by rfl)).symm ?_
          refine wp_store_own 37 (.tmp 15) (.tmp 130) rfl bx 37 bx 1 1 ([⟨ByteArray.empty, 0, 0, 0, 0, 0⟩] : List Last) 0 _ Y (by rw [hbx]; rfl) rfl rfl (by kernel_rfl) rfl hV.out (by simp) ?_
          intro wq hVq hgq
          replace hVq : Own bx wq 37 (.slice (some ⟨bx, 0, none⟩) 1 1) [Y] := hVq
          have hbq := below_mark hbo hV.out hwx hgq
          refine hK.out _ _ (by exact ⟨kept_cell x0 hbq, kept_cell x1 hbq, kept_cell x2 hbq, kept_cell x3 hbq, kept_cell x4 hbq, kept_cell x5 hbq, kept_cell l0 hbq⟩) (fun hHeld => ?_)
          clear hK K hV hgq hbo
          go_simp
          refine wpAnyH_take (i := 13) (v := _) rfl (by kernel_rfl) (by kernel_rfl) (by kernel_rfl) (fun _ _ _ h => h) (Or.inl ⟨by rfl, (by intro w hSw; (try dsimp only at hSw); go_simp; try with_reducible rfl)⟩) (by assumption) ?_
          go_simp
          refine wpAnyH_done (by kernel_rfl) ?_ _
          rw [show wb.heap.size = bx from hbx.symm]
          replace hXO := Lib.hid (hXO.out.later hbq)
          replace hFO := Lib.hid (hFO.out.later hbq)
          replace hON := Lib.hid (hON.out.later hbq)
          replace hOL := Lib.hid (hOL.out.later hbq)
          replace hb := upw hb hbq
          clear hHeld hbx hbuild hsumc hbq hdd x0 x1 x2 x3 x4 x5 l0 n0
          obtain ⟨y0, y1, y2, y3, y4, y5⟩ := last1_cells hVq
          clear hVq
          have hne1 : b1 ≠ b6 := by omega
          have hlt6 : w.heap.size ≤ b6 := by omega
          go_wp2_with (refine wpList_store_own rfl 37 (.tmp 6) (.tmp 134) rfl b6 37 _ 1 1 ([upL x s k] : List Last) 0 _ Y rfl rfl rfl (by kernel_rfl) rfl hXO.out (by simp) ?_; intro wz hXz hgz)
          replace hXz : Own b6 wz 37 (.slice (some ⟨b6, 0, none⟩) 1 1) [Y] := hXz
          rw [← hY.out] at hXz
          have hFz := hFO.out.kept hgz (Or.inr (ne_blk hne1))
          have hNz := hON.out.kept hgz (Or.inr (ne_blk (by have h9 : w5.heap.size ≤ g := (hON.out.lt g rfl).1; omega)))
          have hLz := hOL.out.touched (S := fun j => j = b6) (touched_grown hgz (fun j hj => (Option.some.inj hj).symm)) hOL.out (fun j h1 _ h2 => by omega)
          have hbz := below_mark hb hXO.out hlt6 hgz
          clear y0 y1 y2 y3 y4 y5
          go_roundw
          case rel => exact ⟨k + 1, by omega, by go_num, Lib.hid hXz, Lib.hid hFz, Lib.hid hNz, Lib.hid hLz, hbz⟩
          case measure => simp [intOf]; omega
        · go_simp
          obtain ⟨bx, hbx⟩ : ∃ bx, bx = wo.heap.size := ⟨_, rfl⟩
          have hV : Hid (Own bx (wo.alloc (.cells #[.string { data := #[] }, .int .i64 0, .int .i64 0, .int .i64 0, .int .i64 0, .int .i64 0] 37)).drew 37 (.slice (some ⟨bx, 0, none⟩) 1 1) ([⟨ByteArray.empty, 0, 0, 0, 0, 0⟩] : List Last)) := Lib.hid (by rw [hbx]; exact (own_last1 wo 37 ⟨ByteArray.empty, 0, 0, 0, 0, 0⟩).later (Below.refl _ _).drew)
          have hwx : wo.heap.size ≤ bx := Nat.le_of_eq hbx.symm
          replace hbo : Below wo.heap.size wo (wo.alloc (.cells #[.string { data := #[] }, .int .i64 0, .int .i64 0, .int .i64 0, .int .i64 0, .int .i64 0] 37)).drew := (newB _ _).drew
          refine hK.out _ _ (by exact ⟨kept_cell x0 hbo, kept_cell x1 hbo, kept_cell x2 hbo, kept_cell x3 hbo, kept_cell x4 hbo, kept_cell x5 hbo, kept_cell l0 hbo⟩) (fun hHeld => ?_)
          clear hK K
          go_simp
          refine wpAnyH_ready (rs := [7]) (by kernel_rfl) (by simp) ?_
          refine AllReadyH.cons rfl (fun K hK => ?_) AllReadyH.nil
          go_simp
          refine (hbuild.out _ hbo).mono ?_
          rintro e wb ⟨rfl, hbb⟩
          replace hbo := upw hbo hbb
          replace hV := Lib.hid (hV.out.later hbb)
          refine hK.out _ _ (by exact ⟨kept_cell x0 hbo, kept_cell x1 hbo, kept_cell x2 hbo, kept_cell x3 hbo, kept_cell x4 hbo, kept_cell x5 hbo, kept_cell l0 hbo⟩) (fun hHeld => ?_)
          clear hK K hbb
          go_simp
          refine wpAnyH_take (i := 8) (v := _) rfl (by kernel_rfl) (by kernel_rfl) (by kernel_rfl) (fun _ _ _ h => h) (Or.inl ⟨by rfl, (by intro w hSw; (try dsimp only at hSw); go_simp; try with_reducible rfl)⟩) (by assumption) ?_
          go_simp
          refine wpAnyH_take (i := 9) (v := _) rfl (by kernel_rfl) (by kernel_rfl) (by kernel_rfl) (fun _ _ _ h => h) (Or.inl ⟨by rfl, (by intro w hSw; (try dsimp only at hSw); go_simp; try with_reducible rfl)⟩) (by assumption) ?_
          go_simp
          refine wpAnyH_take (i := 10) (v := _) rfl (by kernel_rfl) (by kernel_rfl) (by kernel_rfl) (fun _ _ _ h => h) (Or.inl ⟨by rfl, (by intro w hSw; (try dsimp only at hSw); go_simp; try with_reducible rfl)⟩) (by assumption) ?_
          go_simp
          refine wpAnyH_ready (rs := [12]) (by kernel_rfl) (by simp) ?_
          refine AllReadyH.cons rfl (fun K hK => ?_) AllReadyH.nil
          refine cast (if_pos (by rfl)).symm ?_
          refine wp_store_own 37 (.tmp 15) (.tmp 130) rfl bx 37 bx 1 1 ([⟨ByteArray.empty, 0, 0, 0, 0, 0⟩] : List Last) 0 _ Y (by rw [hbx]; rfl) rfl rfl (by kernel_rfl) rfl hV.out (by simp) ?_
          intro wq hVq hgq
          replace hVq : Own bx wq 37 (.slice (some ⟨bx, 0, none⟩) 1 1) [Y] := hVq
          have hbq := below_mark hbo hV.out hwx hgq
          refine hK.out _ _ (by exact ⟨kept_cell x0 hbq, kept_cell x1 hbq, kept_cell x2 hbq, kept_cell x3 hbq, kept_cell x4 hbq, kept_cell x5 hbq, kept_cell l0 hbq⟩) (fun hHeld => ?_)
          clear hK K hV hgq hbo
          go_simp
          refine wpAnyH_take (i := 13) (v := _) rfl (by kernel_rfl) (by kernel_rfl) (by kernel_rfl) (fun _ _ _ h => h) (Or.inl ⟨by rfl, (by intro w hSw; (try dsimp only at hSw); go_simp; try with_reducible rfl)⟩) (by assumption) ?_
          go_simp
          refine wpAnyH_done (by kernel_rfl) ?_ _
          rw [show wo.heap.size = bx from hbx.symm]
          replace hXO := Lib.hid (hXO.out.later hbq)
          replace hFO := Lib.hid (hFO.out.later hbq)
          replace hON := Lib.hid (hON.out.later hbq)
          replace hOL := Lib.hid (hOL.out.later hbq)
          replace hb := upw hb hbq
          clear hHeld hbx hbuild hsumc hbq hdd x0 x1 x2 x3 x4 x5 l0 n0
          obtain ⟨y0, y1, y2, y3, y4, y5⟩ := last1_cells hVq
          clear hVq
          have hne1 : b1 ≠ b6 := by omega
          have hlt6 : w.heap.size ≤ b6 := by omega
          go_wp2_with (refine wpList_store_own rfl 37 (.tmp 6) (.tmp 134) rfl b6 37 _ 1 1 ([upL x s k] : List Last) 0 _ Y rfl rfl rfl (by kernel_rfl) rfl hXO.out (by simp) ?_; intro wz hXz hgz)
          replace hXz : Own b6 wz 37 (.slice (some ⟨b6, 0, none⟩) 1 1) [Y] := hXz
          rw [← hY.out] at hXz
          have hFz := hFO.out.kept hgz (Or.inr (ne_blk hne1))
          have hNz := hON.out.kept hgz (Or.inr (ne_blk (by have h9 : w5.heap.size ≤ g := (hON.out.lt g rfl).1; omega)))
          have hLz := hOL.out.touched (S := fun j => j = b6) (touched_grown hgz (fun j hj => (Option.some.inj hj).symm)) hOL.out (fun j h1 _ h2 => by omega)
          have hbz := below_mark hb hXO.out hlt6 hgz
          clear y0 y1 y2 y3 y4 y5
          go_roundw
          case rel => exact ⟨k + 1, by omega, by go_num, Lib.hid hXz, Lib.hid hFz, Lib.hid hNz, Lib.hid hLz, hbz⟩
          case measure => simp [intOf]; omega
      · obtain rfl : k = 3 := by omega
        obtain ⟨x0, x1, x2, x3, x4, x5⟩ := last1_cells hXO.out
        obtain ⟨f0, f1, f2, f3⟩ := footC_cells hFO.out
        have hneed := needOf_ok (upL x s 3) f wr (hnm.out 3 (by omega)) (hok.out 3 (by omega)) hFok
        rw [hnd.out] at hneed
        replace hneed := Lib.hid hneed
        clear hXO hFO hON hOL
        go_wp2_with fail
        refine hneed.out.mono ?_
        rintro e w8 ⟨g2, rfl, hO8, hb8⟩
        have hz := a2Sum_c (some ⟨g2, 0, none⟩) [0, 0, 0] 3 w8 hO8.at' (by simp) (fun y hy => by simp at hy; subst hy; omega)
        replace hb := upw hb hb8
        go_wp2_with (go_at_call 27; refine hz.mono ?_; rintro e w9 ⟨rfl, rfl⟩)
        go_ret
        exact ⟨rfl, hb⟩
end Go.Proofs.Ytokoallbhbgkkaa
