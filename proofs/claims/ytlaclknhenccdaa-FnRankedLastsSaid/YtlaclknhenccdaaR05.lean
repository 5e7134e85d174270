/- Chapter 4, lasts ranked by their costs: the program. -/
import Derived.Test.YtlaclknhenccdaaR03
import Derived.Test.YtlaclknhenccdaaR04
import Derived.Test.YtlaclknhenccdaaMid6
namespace Go.Proofs.Ytlaclknhenccdaa
open Go.RowKit

set_option maxHeartbeats 1000000 in
theorem stable_c (B g cap : Nat) (xs : List Int) (K : Nat) (caps : Array Value) (C : Int → Int) (w : World) (hK : Enters Try.prog K) (hO : Own B w 2 (.slice (some ⟨g, 0, none⟩) xs.length cap) xs) (hup : xs.Pairwise (· < ·)) (hl : xs.length < 20)
    (hc : ∀ x ∈ xs, ∀ y ∈ xs, ∀ w', w.grownBy w' (some g) → Calls Try.prog K (#[.int .i64 x, .int .i64 y] ++ caps) w' fun e w'' => e = .returned (.int .i64 (cmpZ (C x) (C y))) ∧ Below w'.heap.size w' w'') :
    Calls Try.prog 162 #[.slice (some ⟨g, 0, none⟩) xs.length cap, .int .i64 xs.length, .func (.func K) #[] caps] w fun e w' => e = .returned (.tuple #[]) ∧ ∃ ys, ys.length = xs.length ∧ Ranked C xs ys ∧ Own B w' 2 (.slice (some ⟨g, 0, none⟩) xs.length cap) ys ∧ w.grownBy w' (some g) := by
  have hI := Lib.hid (insSort_c B g cap xs K caps C w hK hO hup (by omega) hc)
  obtain ⟨n, hn⟩ : ∃ n, n = xs.length := ⟨_, rfl⟩
  rw [← hn] at hI hl ⊢
  have hlI : ¬ (20 : Int) ≤ n := by omega
  have hlI2 : ¬ (20 : Int) < n := by omega
  clear hO hup hc hK hn
  go_enter Try.func162, Try.ntmps162
  go_wp2_with fail
  go_loopw [7, 8] (fun x y wr => x = .int .i64 0 ∧ y = .int .i64 20 ∧ wr = w) (fun _ _ _ => 0)
  case atStart => exact ⟨rfl, rfl, rfl⟩
  case round =>
    obtain ⟨rfl, rfl, rfl⟩ := hrel
    go_wp2_with fail
    refine hI.out.mono ?_
    rintro e w2 ⟨rfl, ys, h1, h2, h3, h4⟩
    replace h1 := Lib.hid h1
    replace h2 := Lib.hid h2
    replace h3 := Lib.hid h3
    replace h4 := Lib.hid h4
    go_wp2_with fail
    go_loopw [6, 7, 8, 9] (fun x _ _ _ wr => x = .int .i64 20 ∧ wr = w2) (fun _ _ _ _ _ => 0)
    case atStart => exact ⟨rfl, rfl⟩
    case round =>
      obtain ⟨rfl, rfl⟩ := hrel
      go_wp2_with fail
      go_end0
      exact ⟨rfl, ys, h1.out, h2.out, h3.out, h4.out⟩
theorem sortStable_c (B g cap : Nat) (xs : List Int) (K : Nat) (caps : Array Value) (C : Int → Int) (w : World) (hK : Enters Try.prog K) (hO : Own B w 2 (.slice (some ⟨g, 0, none⟩) xs.length cap) xs) (hup : xs.Pairwise (· < ·)) (hl : xs.length < 20)
    (hc : ∀ x ∈ xs, ∀ y ∈ xs, ∀ w', w.grownBy w' (some g) → Calls Try.prog K (#[.int .i64 x, .int .i64 y] ++ caps) w' fun e w'' => e = .returned (.int .i64 (cmpZ (C x) (C y))) ∧ Below w'.heap.size w' w'') :
    Calls Try.prog 117 #[.slice (some ⟨g, 0, none⟩) xs.length cap, .func (.func K) #[] caps] w fun e w' => e = .returned (.tuple #[]) ∧ ∃ ys, ys.length = xs.length ∧ Ranked C xs ys ∧ Own B w' 2 (.slice (some ⟨g, 0, none⟩) xs.length cap) ys ∧ w.grownBy w' (some g) := by
  have hI := Lib.hid (stable_c B g cap xs K caps C w hK hO hup hl hc)
  clear hO hup hc hK
  go_enter Try.func117, Try.ntmps117
  go_wp2_with fail
  refine hI.out.mono ?_
  rintro e w2 ⟨rfl, ys, h1, h2, h3, h4⟩
  replace h1 := Lib.hid h1
  replace h2 := Lib.hid h2
  replace h3 := Lib.hid h3
  replace h4 := Lib.hid h4
  go_wp2_with fail
  go_end0
  exact ⟨rfl, ys, h1.out, h2.out, h3.out, h4.out⟩
/-- What a last costs, by its place. -/
def costAt (xs : List Last) (f : Foot) (q : FitV) (z : Int) : Int := costL (lastAt xs z.toNat) f q
structure RankCells (w : World) (bl bf bq : Nat) (a : Option Addr) (n ca : Nat) (f : Foot) (q : FitV) (fa : Option Addr) (c : Nat) : Prop where
  l : w.cell? ⟨bl, 0, none⟩ = some (.slice a n ca)
  f0 : w.cell? ⟨bf, 0, none⟩ = some (.int .i64 f.Length)
  f1 : w.cell? ⟨bf, 1, none⟩ = some (.int .i64 f.Ball)
  f2 : w.cell? ⟨bf, 2, none⟩ = some (.int .i64 f.Instep)
  f3 : w.cell? ⟨bf, 3, none⟩ = some (.int .i64 f.Heel)
  q0 : w.cell? ⟨bq, 0, none⟩ = some (.int .i64 q.mn)
  q1 : w.cell? ⟨bq, 1, none⟩ = some (.int .i64 q.mx)
  q2 : w.cell? ⟨bq, 2, none⟩ = some (.int .i64 q.gi)
  q3 : w.cell? ⟨bq, 3, none⟩ = some (.slice fa 4 c)
set_option maxRecDepth 100000 in
set_option maxHeartbeats 4000000 in
theorem rank1_c (i j : Nat) (bl bf bq : Nat) (a : Option Addr) (xs : List Last) (ca : Nat) (f : Foot) (q : FitV) (fa : Option Addr) (c : Nat) (w : World) (hi : i < xs.length) (hj : j < xs.length) (hok : ∀ x ∈ xs, okLast x = true) (hf : okFoot f = true) (hq : OkFit q) (hx : At w a xs) (hW : At w fa q.ws) (hc : RankCells w bl bf bq a xs.length ca f q fa c) :
    Calls Try.prog 118 #[.int .i64 i, .int .i64 j, .pointer (some ⟨bl, 0, none⟩), .pointer (some ⟨bf, 0, none⟩), .pointer (some ⟨bq, 0, none⟩)] w fun e w' => e = .returned (.int .i64 (cmpZ (costAt xs f q i) (costAt xs f q j))) ∧ Below w.heap.size w w' := by
  have hiE : costAt xs f q i = costL xs[i] f q := by unfold costAt; rw [show (i : Int).toNat = i by omega, lastAt_get hi]
  have hjE : costAt xs f q j = costL xs[j] f q := by unfold costAt; rw [show (j : Int).toNat = j by omega, lastAt_get hj]
  rw [hiE, hjE]
  clear hiE hjE
  obtain ⟨g, off, rfl⟩ := hx.addr hi
  have hFi := Lib.hid (fun w' h => fitCost_c xs[i] f q fa c w' (hok _ (List.getElem_mem hi)) hf hq h)
  have hFj := Lib.hid (fun w' h => fitCost_c xs[j] f q fa c w' (hok _ (List.getElem_mem hj)) hf hq h)
  obtain ⟨x0, x1, x2, x3, x4, x5⟩ := hx.last hi
  obtain ⟨y0, y1, y2, y3, y4, y5⟩ := hx.last hj
  obtain ⟨l0, f0, f1, f2, f3, q0, q1, q2, q3⟩ := hc
  have hiI : (i : Int) < xs.length := by omega
  have hjI : (j : Int) < xs.length := by omega
  obtain ⟨X, hX⟩ : ∃ X, X = xs[i] := ⟨_, rfl⟩
  obtain ⟨Y, hY⟩ : ∃ Y, Y = xs[j] := ⟨_, rfl⟩
  rw [← hX] at x0 x1 x2 x3 x4 x5 hFi ⊢
  rw [← hY] at y0 y1 y2 y3 y4 y5 hFj ⊢
  replace hX := Lib.hid hX
  replace hY := Lib.hid hY
  replace hok := Lib.hid hok
  replace hf := Lib.hid hf
  replace hq := Lib.hid hq
  obtain ⟨cx, hcx⟩ : ∃ cx, cx = costL X f q := ⟨_, rfl⟩
  obtain ⟨cy, hcy⟩ : ∃ cy, cy = costL Y f q := ⟨_, rfl⟩
  rw [← hcx] at hFi ⊢
  rw [← hcy] at hFj ⊢
  replace hcx := Lib.hid hcx
  replace hcy := Lib.hid hcy
  obtain ⟨mx, hmx⟩ : ∃ mx, mx = mayL X f q := ⟨_, rfl⟩
  obtain ⟨my, hmy⟩ : ∃ my, my = mayL Y f q := ⟨_, rfl⟩
  rw [← hmx] at hFi
  rw [← hmy] at hFj
  replace hmx := Lib.hid hmx
  replace hmy := Lib.hid hmy
  have hb := Below.refl w.heap.size w
  go_enter Try.func118, Try.ntmps118
  go_wp2_with fail
  have W0 := hW
  have l0r := rg l0
  have f0r := rg f0
  have f1r := rg f1
  have f2r := rg f2
  have f3r := rg f3
  have q0r := rg q0
  have q1r := rg q1
  have q2r := rg q2
  have q3r := rg q3
  have x0r := rg x0
  have x1r := rg x1
  have x2r := rg x2
  have x3r := rg x3
  have x4r := rg x4
  have x5r := rg x5
  refine wp_region_quiet_below (by kernel_rfl) (by kernel_rfl) ?_
  repeat (go_big_quiet_step ((go_at_call 119; exact Calls.regrown_of (hFi.out _ (hW.below (grown_of ⟨⟨_, _⟩, rfl⟩))))))
  refine wpQuiet_nil ?_
  intro w2 hw'
  have hb2 := grown_of hw'
  replace hb := upw hb hb2
  clear hw' l0r f0r f1r f2r f3r q0r q1r q2r q3r x0r x1r x2r x3r x4r x5r
  replace l0 := kept_cell l0 hb2
  replace f0 := kept_cell f0 hb2
  replace f1 := kept_cell f1 hb2
  replace f2 := kept_cell f2 hb2
  replace f3 := kept_cell f3 hb2
  replace q0 := kept_cell q0 hb2
  replace q1 := kept_cell q1 hb2
  replace q2 := kept_cell q2 hb2
  replace q3 := kept_cell q3 hb2
  replace y0 := kept_cell y0 hb2
  replace y1 := kept_cell y1 hb2
  replace y2 := kept_cell y2 hb2
  replace y3 := kept_cell y3 hb2
  replace y4 := kept_cell y4 hb2
  replace y5 := kept_cell y5 hb2
  replace hW := hW.below hb2
  clear hb2 x0 x1 x2 x3 x4 x5
  go_wp2_with fail
  have l0r := rg l0
  have f0r := rg f0
  have f1r := rg f1
  have f2r := rg f2
  have f3r := rg f3
  have q0r := rg q0
  have q1r := rg q1
  have q2r := rg q2
  have q3r := rg q3
  have y0r := rg y0
  have y1r := rg y1
  have y2r := rg y2
  have y3r := rg y3
  have y4r := rg y4
  have y5r := rg y5
  refine wp_region_quiet_below (by kernel_rfl) (by kernel_rfl) ?_
  repeat (go_big_quiet_step ((go_at_call 119; exact Calls.regrown_of (hFj.out _ (hW.below (grown_of ⟨⟨_, _⟩, rfl⟩))))))
  refine wpQuiet_nil ?_
  intro w2 hw'
  have hb2 := grown_of hw'
  replace hb := upw hb hb2
  clear hw' l0r f0r f1r f2r f3r q0r q1r q2r q3r y0r y1r y2r y3r y4r y5r
  replace hW := hW.below hb2
  clear hb2 l0 f0 f1 f2 f3 q0 q1 q2 q3 y0 y1 y2 y3 y4 y5
  go_wp2_with fail
  refine (compareZ_c cx cy _).mono ?_
  rintro e w' ⟨rfl, rfl⟩
  go_wp2_with fail
  go_ret
  exact ⟨rfl, hb⟩
theorem rank1_enters : Enters Try.prog 118 := enters_of Try.func118 (by kernel_rfl) (by kernel_rfl)
end Go.Proofs.Ytlaclknhenccdaa
