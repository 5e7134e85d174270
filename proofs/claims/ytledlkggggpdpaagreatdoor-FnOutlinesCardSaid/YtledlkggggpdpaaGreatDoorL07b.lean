/- Chapter 7, outlines: boxes: the contracts of the program's functions and of the reference's. -/
import Derived.Test.YtledlkggggpdpaaGreatDoorL07s
import Derived.Test.YtledlkggggpdpaaGreatDoorSmall
namespace Go.Proofs.YtledlkggggpdpaaGreatDoor
open Go.RowKit

/-- The least places of two spots, the greatest ones. -/
def lo2 (p q : Spot) : Spot := ⟨min p.X q.X, min p.Y q.Y⟩
def hi2 (p q : Spot) : Spot := ⟨max p.X q.X, max p.Y q.Y⟩
def loTo (xs : List Spot) : Nat → Spot
  | 0 => nth xs 0
  | k + 1 => lo2 (loTo xs k) (nth xs k)
def hiTo (xs : List Spot) : Nat → Spot
  | 0 => nth xs 0
  | k + 1 => hi2 (hiTo xs k) (nth xs k)
/-- A variable that holds a spot. -/
structure Hold (w : World) (g : Nat) (p : Spot) : Prop where
  x : w.cell? ⟨g, 0, none⟩ = some (.int .i64 p.X)
  y : w.cell? ⟨g, 1, none⟩ = some (.int .i64 p.Y)
  fx : w.frozen? ⟨g, 0, none⟩ = false
  fy : w.frozen? ⟨g, 1, none⟩ = false
theorem Hold.lt {w : World} {g : Nat} {p : Spot} (h : Hold w g p) : g < w.heap.size := block_lt_of_cell h.x
theorem Hold.below {w w' : World} {g : Nat} {p : Spot} (h : Hold w g p) (hb : Below w.heap.size w w') : Hold w' g p :=
  ⟨by rw [hb.cell (p := ⟨g, 0, none⟩) h.lt]; exact h.x, by rw [hb.cell (p := ⟨g, 1, none⟩) h.lt]; exact h.y, by rw [hb.frozen (p := ⟨g, 0, none⟩) h.lt]; exact h.fx, by rw [hb.frozen (p := ⟨g, 1, none⟩) h.lt]; exact h.fy⟩
def setSpot (w : World) (g : Nat) (p : Spot) : World := (w.setCell ⟨g, 0, none⟩ (.int .i64 p.X)).setCell ⟨g, 1, none⟩ (.int .i64 p.Y)
theorem Hold.set {w : World} {g : Nat} {q : Spot} (h : Hold w g q) (p : Spot) : Hold (setSpot w g p) g p := by
  obtain ⟨a, b, c, d⟩ := h
  unfold setSpot
  constructor <;> go_simp
theorem Hold.far {w : World} {g g' : Nat} {q : Spot} (h : Hold w g q) (hne : g' ≠ g) (p : Spot) : Hold (setSpot w g' p) g q := by
  obtain ⟨a, b, c, d⟩ := h
  have hne' : g ≠ g' := fun h => hne h.symm
  unfold setSpot
  constructor <;> go_simp
theorem Hold.new {w : World} {g : Nat} {q : Spot} (h : Hold w g q) (o : Obj) : Hold (w.alloc o) g q := h.below ((Below.refl _ _).alloc (Nat.le_refl _) o)
theorem Below.spot {B g : Nat} {w w' : World} (h : Below B w w') (hg : B ≤ g) (p : Spot) : Below B w (setSpot w' g p) := (h.setCell (p := ⟨g, 0, none⟩) hg _).setCell (p := ⟨g, 1, none⟩) hg _
theorem past1 {w : World} {a : Addr} {v : Value} (h : w.cell? a = some v) : ∀ o, (w.alloc o).cell? a = some v := fun o => by
  rw [((Below.refl _ _).alloc (Nat.le_refl _) o : Below w.heap.size w (w.alloc o)).cell (block_lt_of_cell h)]; exact h
theorem past2 {w : World} {a : Addr} {v : Value} (h : w.cell? a = some v) : ∀ o o', ((w.alloc o).alloc o').cell? a = some v := fun o o' => past1 (past1 h o) o'
theorem two0 (w : World) : ∃ w1, (w.alloc (.cells #[.int .i64 0, .int .i64 0] 106)).alloc (.cells #[.int .i64 0, .int .i64 0] 106) = w1 ∧
    (Hold w1 w.heap.size ⟨0, 0⟩ ∧ Hold w1 (w.heap.size + 1) ⟨0, 0⟩) ∧ w1.heap.size = w.heap.size + 1 + 1 ∧ Below w.heap.size w w1 := by
  refine ⟨_, rfl, ⟨⟨?_, ?_, ?_, ?_⟩, ?_, ?_, ?_, ?_⟩, by simp, ((Below.refl _ _).alloc (by simp) _).alloc (by simp) _⟩ <;> go_simp
theorem loTo_one (xs : List Spot) : loTo xs 1 = nth xs 0 := by simp [loTo, lo2]
theorem hiTo_one (xs : List Spot) : hiTo xs 1 = nth xs 0 := by simp [hiTo, hi2]
set_option maxHeartbeats 1000000 in
theorem boxOf_c (a : Option Addr) (xs : List Spot) (c : Nat) (w : World) (hx : At w a xs) (hl : xs.length ≤ 24) (h0 : 0 < xs.length) :
    Calls Tryz.prog 174 #[.slice a xs.length c] w fun e w' => e = .returned (.tuple #[.agg #[.int .i64 (loTo xs xs.length).X, .int .i64 (loTo xs xs.length).Y], .agg #[.int .i64 (hiTo xs xs.length).X, .int .i64 (hiTo xs xs.length).Y]]) ∧ Below w.heap.size w w' := by
  obtain ⟨b, off, rfl⟩ := hx.addr h0
  go_enter Tryz.func174, Tryz.ntmps174
  go_wp2_with fail
  obtain ⟨w1, hw, ⟨⟨d0, d1, f0, f1⟩, d2, d3, f2, f3⟩, hs1, hb⟩ := two0 w
  rw [hw]
  clear hw
  have HX := hx
  replace hx := hx.below hb
  have hbl := hx.lt h0
  have hm : 0 % xs.length = 0 := Nat.zero_mod _
  obtain ⟨c0, c1⟩ := hx.nthc hm h0
  rw [Nat.zero_mul, Nat.add_zero] at c0 c1
  have c2 := past1 c0
  have c3 := past1 c1
  have c4 := past2 c0
  have c5 := past2 c1
  go_region
  · go_wp2_with fail
    go_loopw [16] (fun i wr => ∃ k : Nat, k ≤ xs.length ∧ i = .int .i64 k ∧ Hold wr (w.heap.size + 1 + 1) (loTo xs k) ∧ Hold wr (w.heap.size + 1 + 1 + 1) (hiTo xs k) ∧ Hold wr w.heap.size ⟨0, 0⟩ ∧ Hold wr (w.heap.size + 1) ⟨0, 0⟩ ∧ Below w.heap.size w wr) (fun i _ => xs.length - (intOf i).toNat)
    case atStart => exact ⟨0, Nat.zero_le _, rfl, ⟨by go_simp; rfl, by go_simp; rfl, by go_simp, by go_simp⟩, ⟨by go_simp; rfl, by go_simp; rfl, by go_simp, by go_simp⟩, ⟨by go_simp, by go_simp, by go_simp, by go_simp⟩, ⟨by go_simp, by go_simp, by go_simp, by go_simp⟩, ((hb.alloc (by omega) _).alloc (by simp; omega) _).drew⟩
    case round =>
      clear c0 c1 c2 c3 c4 c5 d0 d1 d2 d3 f0 f1 f2 f3
      obtain ⟨k, hk, rfl, h4, h5, h2, h3, hbr⟩ := hrel
      replace hx := HX.below hbr
      have hbl2 := HX.lt h0
      have hsz := hbr.size
      have t2 := h2.lt
      have t3 := h3.lt
      have t4 := h4.lt
      have t5 := h5.lt
      obtain ⟨d0, d1, f0, f1⟩ := id h4
      obtain ⟨d2, d3, f2, f3⟩ := id h5
      obtain ⟨d4, d5, f4, f5⟩ := id h2
      obtain ⟨d6, d7, f6, f7⟩ := id h3
      have H4 := Lib.hid h4
      have H5 := Lib.hid h5
      have H2 := Lib.hid h2
      have H3 := Lib.hid h3
      clear h4 h5 h2 h3
      by_cases hlt : k < xs.length
      · have hm0 : k % xs.length = k := Nat.mod_eq_of_lt hlt
        obtain ⟨c0, c1⟩ := hx.nthc hm0 hlt
        have m1 : (if (nth xs k).X < (loTo xs k).X then (nth xs k).X else (loTo xs k).X) = (loTo xs (k + 1)).X := by simp only [loTo, lo2]; omega
        have m2 : (if (nth xs k).Y < (loTo xs k).Y then (nth xs k).Y else (loTo xs k).Y) = (loTo xs (k + 1)).Y := by simp only [loTo, lo2]; omega
        have m3 : (if (hiTo xs k).X < (nth xs k).X then (nth xs k).X else (hiTo xs k).X) = (hiTo xs (k + 1)).X := by simp only [hiTo, hi2]; omega
        have m4 : (if (hiTo xs k).Y < (nth xs k).Y then (nth xs k).Y else (hiTo xs k).Y) = (hiTo xs (k + 1)).Y := by simp only [hiTo, hi2]; omega
        go_wp2_with fail
        go_roundw
        case rel => exact ⟨k + 1, by omega, by go_num, (((H4.out.set _).far (by omega) _).new _), (((H5.out.far (by omega) _).set _).new _), (((H2.out.far (by omega) _).far (by omega) _).new _), (((H3.out.far (by omega) _).far (by omega) _).new _), ((Below.spot (Below.spot hbr (by omega) _) (by omega) _).alloc (by simp [setSpot]; omega) _)⟩
        case measure => simp [intOf]; omega
      · obtain rfl : k = xs.length := by omega
        go_wp2_with fail
        go_region
        go_wp2_with fail
        refine bodyPost_ret (v := .tuple #[.agg #[.int .i64 (loTo xs xs.length).X, .int .i64 (loTo xs xs.length).Y], .agg #[.int .i64 (hiTo xs xs.length).X, .int .i64 (hiTo xs xs.length).Y]]) (by simp [results, Tryz.results174, go_sem, d4, d5, d6, d7]) rfl ⟨rfl, ?_⟩
        exact (Below.spot (Below.spot hbr (by omega) _) (by omega) _).drew
  · go_wp2_with fail
    go_loopw [16] (fun i wr => ∃ k : Nat, k ≤ xs.length ∧ i = .int .i64 k ∧ Hold wr (w.heap.size + 1 + 1 + 1) (loTo xs k) ∧ Hold wr (w.heap.size + 1 + 1) (hiTo xs k) ∧ Hold wr w.heap.size ⟨0, 0⟩ ∧ Hold wr (w.heap.size + 1) ⟨0, 0⟩ ∧ Below w.heap.size w wr) (fun i _ => xs.length - (intOf i).toNat)
    case atStart => exact ⟨0, Nat.zero_le _, rfl, ⟨by go_simp; rfl, by go_simp; rfl, by go_simp, by go_simp⟩, ⟨by go_simp; rfl, by go_simp; rfl, by go_simp, by go_simp⟩, ⟨by go_simp, by go_simp, by go_simp, by go_simp⟩, ⟨by go_simp, by go_simp, by go_simp, by go_simp⟩, ((hb.alloc (by omega) _).alloc (by simp; omega) _).drew⟩
    case round =>
      clear c0 c1 c2 c3 c4 c5 d0 d1 d2 d3 f0 f1 f2 f3
      obtain ⟨k, hk, rfl, h4, h5, h2, h3, hbr⟩ := hrel
      replace hx := HX.below hbr
      have hbl2 := HX.lt h0
      have hsz := hbr.size
      have t2 := h2.lt
      have t3 := h3.lt
      have t4 := h4.lt
      have t5 := h5.lt
      obtain ⟨d0, d1, f0, f1⟩ := id h4
      obtain ⟨d2, d3, f2, f3⟩ := id h5
      obtain ⟨d4, d5, f4, f5⟩ := id h2
      obtain ⟨d6, d7, f6, f7⟩ := id h3
      have H4 := Lib.hid h4
      have H5 := Lib.hid h5
      have H2 := Lib.hid h2
      have H3 := Lib.hid h3
      clear h4 h5 h2 h3
      by_cases hlt : k < xs.length
      · have hm0 : k % xs.length = k := Nat.mod_eq_of_lt hlt
        obtain ⟨c0, c1⟩ := hx.nthc hm0 hlt
        have m1 : (if (nth xs k).X < (loTo xs k).X then (nth xs k).X else (loTo xs k).X) = (loTo xs (k + 1)).X := by simp only [loTo, lo2]; omega
        have m2 : (if (nth xs k).Y < (loTo xs k).Y then (nth xs k).Y else (loTo xs k).Y) = (loTo xs (k + 1)).Y := by simp only [loTo, lo2]; omega
        have m3 : (if (hiTo xs k).X < (nth xs k).X then (nth xs k).X else (hiTo xs k).X) = (hiTo xs (k + 1)).X := by simp only [hiTo, hi2]; omega
        have m4 : (if (hiTo xs k).Y < (nth xs k).Y then (nth xs k).Y else (hiTo xs k).Y) = (hiTo xs (k + 1)).Y := by simp only [hiTo, hi2]; omega
        go_wp2_with fail
        go_roundw
        case rel => exact ⟨k + 1, by omega, by go_num, (((H4.out.set _).far (by omega) _).new _), (((H5.out.far (by omega) _).set _).new _), (((H2.out.far (by omega) _).far (by omega) _).new _), (((H3.out.far (by omega) _).far (by omega) _).new _), ((Below.spot (Below.spot hbr (by omega) _) (by omega) _).alloc (by simp [setSpot]; omega) _)⟩
        case measure => simp [intOf]; omega
      · obtain rfl : k = xs.length := by omega
        go_wp2_with fail
        go_region
        go_wp2_with fail
        refine bodyPost_ret (v := .tuple #[.agg #[.int .i64 (loTo xs xs.length).X, .int .i64 (loTo xs xs.length).Y], .agg #[.int .i64 (hiTo xs xs.length).X, .int .i64 (hiTo xs xs.length).Y]]) (by simp [results, Tryz.results174, go_sem, d4, d5, d6, d7]) rfl ⟨rfl, ?_⟩
        exact (Below.spot (Below.spot hbr (by omega) _) (by omega) _).drew
def box (xs : List Spot) : Spot × Spot × Int := if okOutline xs then (loTo xs xs.length, hiTo xs xs.length, 0) else (⟨0, 0⟩, ⟨0, 0⟩, 1)
set_option maxHeartbeats 1000000 in
theorem implBoxOf_c (a : Option Addr) (xs : List Spot) (c : Nat) (w : World) (hx : At w a xs) (hl : xs.length ≤ 9223372036854775807) :
    Calls Tryz.prog 80 #[.slice a xs.length c] w fun e w' => e = .returned (.tuple #[.agg #[.int .i64 (box xs).1.X, .int .i64 (box xs).1.Y], .agg #[.int .i64 (box xs).2.1.X, .int .i64 (box xs).2.1.Y], .int .i64 (box xs).2.2]) ∧ Below w.heap.size w w' := by
  cases h1 : okOutline xs
  · have ht : box xs = (⟨0, 0⟩, ⟨0, 0⟩, 1) := by simp [box, h1]
    rw [ht]
    go_enter Tryz.func80, Tryz.ntmps80
    go_wp2_with fail
    obtain ⟨w1, hw, ⟨h2, h3⟩, hs1, hb⟩ := two0 w
    rw [hw]
    clear hw
    refine (implValidOutline_c _ _ _ _ (hx.below hb) hl).mono ?_
    rintro e w2 ⟨rfl, hb2⟩
    replace h2 := h2.below hb2
    replace h3 := h3.below hb2
    replace hb := upw hb hb2
    have t2 := h2.lt
    have t3 := h3.lt
    obtain ⟨d4, d5, f4, f5⟩ := id h2
    obtain ⟨d6, d7, f6, f7⟩ := id h3
    go_wp2_with fail
    refine bodyPost_ret (v := .tuple #[.agg #[.int .i64 0, .int .i64 0], .agg #[.int .i64 0, .int .i64 0], .int .i64 1]) (by simp [results, Tryz.results80, go_sem, d4, d5, d6, d7]) rfl ⟨rfl, ?_⟩
    exact (Below.spot (Below.spot hb (Nat.le_refl _) ⟨0, 0⟩) (by omega) ⟨0, 0⟩)
  · have ht : box xs = (loTo xs xs.length, hiTo xs xs.length, 0) := by simp [box, h1]
    rw [ht]
    obtain ⟨hn, hn3, hok⟩ := okOutline_is h1
    clear hok
    go_enter Tryz.func80, Tryz.ntmps80
    go_wp2_with fail
    obtain ⟨w1, hw, ⟨h2, h3⟩, hs1, hb⟩ := two0 w
    rw [hw]
    clear hw
    refine (implValidOutline_c _ _ _ _ (hx.below hb) hl).mono ?_
    rintro e w2 ⟨rfl, hb2⟩
    replace h2 := h2.below hb2
    replace h3 := h3.below hb2
    replace hb := upw hb hb2
    go_wp2_with fail
    refine (boxOf_c _ _ _ _ (hx.below hb) hn (by omega)).mono ?_
    rintro e w3 ⟨rfl, hb3⟩
    replace h2 := h2.below hb3
    replace h3 := h3.below hb3
    replace hb := upw hb hb3
    have t2 := h2.lt
    have t3 := h3.lt
    obtain ⟨d4, d5, f4, f5⟩ := id h2
    obtain ⟨d6, d7, f6, f7⟩ := id h3
    have g2 := (((h2.set (loTo xs xs.length)).far (show w.heap.size + 1 ≠ w.heap.size by omega) (hiTo xs xs.length)).new (.cells #[.int .i64 (loTo xs xs.length).X, .int .i64 (loTo xs xs.length).Y] 106)).new (.cells #[.int .i64 (hiTo xs xs.length).X, .int .i64 (hiTo xs xs.length).Y] 106)
    have g3 := (((h3.far (show w.heap.size ≠ w.heap.size + 1 by omega) (loTo xs xs.length)).set (hiTo xs xs.length)).new (.cells #[.int .i64 (loTo xs xs.length).X, .int .i64 (loTo xs xs.length).Y] 106)).new (.cells #[.int .i64 (hiTo xs xs.length).X, .int .i64 (hiTo xs xs.length).Y] 106)
    unfold setSpot at g2 g3
    have G2 := Lib.hid g2
    have G3 := Lib.hid g3
    clear h2 h3 hs1 g2 g3
    go_wp2_with fail
    go_region
    go_wp2_with fail
    refine bodyPost_ret (v := .tuple #[.agg #[.int .i64 (loTo xs xs.length).X, .int .i64 (loTo xs xs.length).Y], .agg #[.int .i64 (hiTo xs xs.length).X, .int .i64 (hiTo xs xs.length).Y], .int .i64 0]) (by simp [results, Tryz.results80, go_sem, G2.out.x, G2.out.y, G3.out.x, G3.out.y]) rfl ⟨rfl, ?_⟩
    exact (((Below.spot (Below.spot hb (Nat.le_refl _) _) (by omega) _).alloc (by simp [setSpot]; omega) _).alloc (by simp [setSpot]; omega) _).drew
set_option maxHeartbeats 1600000 in
theorem specBoxOf_c (a : Option Addr) (xs : List Spot) (c : Nat) (w : World) (hx : At w a xs) (hl : xs.length ≤ 9223372036854775807) :
    Calls Tryz.prog 81 #[.slice a xs.length c] w fun e w' => e = .returned (.tuple #[.agg #[.int .i64 (box xs).1.X, .int .i64 (box xs).1.Y], .agg #[.int .i64 (box xs).2.1.X, .int .i64 (box xs).2.1.Y], .int .i64 (box xs).2.2]) ∧ Below w.heap.size w w' := by
  cases h1 : okOutline xs
  · have ht : box xs = (⟨0, 0⟩, ⟨0, 0⟩, 1) := by simp [box, h1]
    rw [ht]
    go_enter Tryz.func81, Tryz.ntmps81
    go_wp2_with fail
    obtain ⟨w1, hw, ⟨h2, h3⟩, hs1, hb⟩ := two0 w
    rw [hw]
    clear hw
    refine (l07Ok_c _ _ _ _ (hx.below hb) hl).mono ?_
    rintro e w2 ⟨rfl, hb2⟩
    replace h2 := h2.below hb2
    replace h3 := h3.below hb2
    replace hb := upw hb hb2
    have t2 := h2.lt
    have t3 := h3.lt
    obtain ⟨d4, d5, f4, f5⟩ := id h2
    obtain ⟨d6, d7, f6, f7⟩ := id h3
    go_wp2_with fail
    refine bodyPost_ret (v := .tuple #[.agg #[.int .i64 0, .int .i64 0], .agg #[.int .i64 0, .int .i64 0], .int .i64 1]) (by simp [results, Tryz.results81, go_sem, d4, d5, d6, d7]) rfl ⟨rfl, ?_⟩
    exact (Below.spot (Below.spot hb (Nat.le_refl _) ⟨0, 0⟩) (by omega) ⟨0, 0⟩)
  · have ht : box xs = (loTo xs xs.length, hiTo xs xs.length, 0) := by simp [box, h1]
    rw [ht]
    obtain ⟨hn, hn3, hok⟩ := okOutline_is h1
    clear hok
    have hlt0 : 0 < xs.length := by omega
    obtain ⟨b, off, rfl⟩ := hx.addr hlt0
    have hm : 0 % xs.length = 0 := Nat.zero_mod _
    go_enter Tryz.func81, Tryz.ntmps81
    go_wp2_with fail
    obtain ⟨w1, hw, ⟨h2, h3⟩, hs1, hb⟩ := two0 w
    rw [hw]
    clear hw
    refine (l07Ok_c _ _ _ _ (hx.below hb) hl).mono ?_
    rintro e w0 ⟨rfl, hb2⟩
    replace h2 := h2.below hb2
    replace h3 := h3.below hb2
    replace hb := upw hb hb2
    have hs2 := h3.lt
    clear hb2 hs1
    obtain ⟨c0, c1⟩ := (hx.below hb).nthc hm hlt0
    rw [Nat.zero_mul, Nat.add_zero] at c0 c1
    have hbl := hx.lt hlt0
    have hlt2 : b < w0.heap.size := by omega
    have k2 := (h2.new (.cells #[.int .i64 (nth xs 0).X, .int .i64 (nth xs 0).Y] 106)).new (.cells #[.int .i64 (nth xs 0).X, .int .i64 (nth xs 0).Y] 106)
    have k3 := (h3.new (.cells #[.int .i64 (nth xs 0).X, .int .i64 (nth xs 0).Y] 106)).new (.cells #[.int .i64 (nth xs 0).X, .int .i64 (nth xs 0).Y] 106)
    have K2 := Lib.hid k2
    have K3 := Lib.hid k3
    clear k2 k3
    go_wp2_with fail
    go_loopw [7] (fun i wr => ∃ k : Nat, 1 ≤ k ∧ k ≤ xs.length ∧ i = .int .i64 k ∧ Hold wr w0.heap.size (loTo xs k) ∧ Hold wr (w0.heap.size + 1) (hiTo xs k) ∧ Hold wr w.heap.size ⟨0, 0⟩ ∧ Hold wr (w.heap.size + 1) ⟨0, 0⟩ ∧ Below w.heap.size w wr) (fun i _ => xs.length - (intOf i).toNat)
    case atStart => exact ⟨1, Nat.le_refl _, by omega, rfl, by rw [loTo_one]; constructor <;> go_simp, by rw [hiTo_one]; constructor <;> go_simp, K2.out, K3.out, ((hb.alloc hb.size _).alloc (by simp; have := hb.size; omega) _)⟩
    case round =>
      clear c0 c1
      obtain ⟨k, hk1, hk, rfl, h4, h5, h2, h3, hbr⟩ := hrel
      have hxr := hx.below hbr
      have hsz := hbr.size
      have t2 := h2.lt
      have t3 := h3.lt
      have t4 := h4.lt
      have t5 := h5.lt
      by_cases hlt : k < xs.length
      · have hm0 : k % xs.length = k := Nat.mod_eq_of_lt hlt
        obtain ⟨c0, c1⟩ := hxr.nthc hm0 hlt
        replace c0 := rg c0
        replace c1 := rg c1
        have d0 := rg h4.x
        have d1 := rg h4.y
        go_wp2_with fail
        have hb' := hb
        clear hb
        have hb := hbr
        refine wp_region_tail_below 17 (by kernel_rfl) (by kernel_rfl) (by kernel_rfl) (by simp only [List.take_succ_cons, List.take_zero]; rfl) (by simp only [List.drop_succ_cons, List.drop_zero]; rfl) ?_
        repeat (go_big_quiet_step ((go_at_call 146; exact Calls.regrown_same (l00Min_c _ _ _))))
        refine wpQuiet_nil ?_
        intro w2 hw'
        replace hb := upw hb (grown_of hw')
        have hw2 := grown_of hw'
        clear hw'
        replace h4 := h4.below hw2
        replace h5 := h5.below hw2
        replace h2 := h2.below hw2
        replace h3 := h3.below hw2
        clear c0 c1 d0 d1 hxr hbr hw2
        obtain ⟨d0, d1, f0, f1⟩ := id h4
        go_wp2_with fail
        clear d0 d1 f0 f1
        obtain ⟨w5, hW⟩ : ∃ w5, w5 = (w2.setCell ⟨w0.heap.size, 0, none⟩ (.int .i64 (min (loTo xs k).X (nth xs k).X))).setCell ⟨w0.heap.size, 1, none⟩ (.int .i64 (min (loTo xs k).Y (nth xs k).Y)) := ⟨_, rfl⟩
        rw [← hW]
        replace h4 : Hold w5 w0.heap.size (loTo xs (k + 1)) := by rw [hW]; exact h4.set (loTo xs (k + 1))
        replace h5 : Hold w5 (w0.heap.size + 1) (hiTo xs k) := by rw [hW]; exact h5.far (by omega) (loTo xs (k + 1))
        replace h2 : Hold w5 w.heap.size ⟨0, 0⟩ := by rw [hW]; exact h2.far (by omega) (loTo xs (k + 1))
        replace h3 : Hold w5 (w.heap.size + 1) ⟨0, 0⟩ := by rw [hW]; exact h3.far (by omega) (loTo xs (k + 1))
        replace hb : Below w.heap.size w w5 := by rw [hW]; exact Below.spot hb (by omega) (loTo xs (k + 1))
        clear hW
        obtain ⟨c0, c1⟩ := (hx.below hb).nthc hm0 hlt
        replace c0 := rg c0
        replace c1 := rg c1
        have d0 := rg h5.x
        have d1 := rg h5.y
        refine wp_region_tail_below 17 (by kernel_rfl) (by kernel_rfl) (by kernel_rfl) (by simp only [List.take_succ_cons, List.take_zero]; rfl) (by simp only [List.drop_succ_cons, List.drop_zero]; rfl) ?_
        repeat (go_big_quiet_step ((go_at_call 147; exact Calls.regrown_same (l00Max_c _ _ _))))
        refine wpQuiet_nil ?_
        intro w2 hw'
        replace hb := upw hb (grown_of hw')
        have hw2 := grown_of hw'
        clear hw'
        replace h4 := h4.below hw2
        replace h5 := h5.below hw2
        replace h2 := h2.below hw2
        replace h3 := h3.below hw2
        clear c0 c1 d0 d1 hw2
        obtain ⟨d0, d1, f0, f1⟩ := id h5
        go_wp2_with fail
        go_roundw
        case rel => exact ⟨k + 1, by omega, by omega, by go_num, h4.far (by omega) (hiTo xs (k + 1)), h5.set (hiTo xs (k + 1)), h2.far (by omega) (hiTo xs (k + 1)), h3.far (by omega) (hiTo xs (k + 1)), Below.spot hb (by omega) (hiTo xs (k + 1))⟩
        case measure => simp [intOf]; omega
      · obtain rfl : k = xs.length := by omega
        have g2 := ((h2.set (loTo xs xs.length)).far (show w.heap.size + 1 ≠ w.heap.size by omega) (hiTo xs xs.length))
        have g3 := ((h3.far (show w.heap.size ≠ w.heap.size + 1 by omega) (loTo xs xs.length)).set (hiTo xs xs.length))
        unfold setSpot at g2 g3
        have G2 := Lib.hid g2
        have G3 := Lib.hid g3
        obtain ⟨d0, d1, f0, f1⟩ := id h4
        obtain ⟨d2, d3, f2, f3⟩ := id h5
        obtain ⟨d4, d5, f4, f5⟩ := id h2
        obtain ⟨d6, d7, f6, f7⟩ := id h3
        clear h2 h3 h4 h5 g2 g3
        go_wp2_with fail
        go_region
        go_wp2_with fail
        refine bodyPost_ret (v := .tuple #[.agg #[.int .i64 (loTo xs xs.length).X, .int .i64 (loTo xs xs.length).Y], .agg #[.int .i64 (hiTo xs xs.length).X, .int .i64 (hiTo xs xs.length).Y], .int .i64 0]) (by simp [results, Tryz.results81, go_sem, G2.out.x, G2.out.y, G3.out.x, G3.out.y]) rfl ⟨rfl, ?_⟩
        exact (Below.spot (Below.spot hbr (Nat.le_refl _) _) (by omega) _).drew
end Go.Proofs.YtledlkggggpdpaaGreatDoor
