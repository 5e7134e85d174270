/- Hulls: the hull of an outline is an outline, its own hull, and holds all that the outline holds. -/
import Derived.Test.YtlaclknhenccdaaHullLaw
import Derived.Test.YtlaclknhenccdaaOutLaw
namespace Go.Proofs.Ytlaclknhenccdaa
open Go.RowKit

/-- Neighbours on a way round: from each the next one. -/
structure Ways (xs : List Spot) (m : Nat) (v : Nat → Spot) : Prop where
  pos : 0 < m
  per : ∀ i, v (i + m) = v i
  way : ∀ i, Way xs (v i) (v (i + 1))
  mem : ∀ i, v i ∈ xs
  apart : ∀ i, 0 < i → i < m → v i ≠ v 0
theorem ways_of {xs C : List Spot} (R : Round xs C) : Ways xs C.dropLast.length (nth C.dropLast) ∧ nth C.dropLast 0 = firstTo xs xs.length := by
  have h2 := R.two
  have hl : C.dropLast.length = C.length - 1 := List.length_dropLast
  have h0 : 0 < C.dropLast.length := by omega
  have hne : C ≠ [] := by intro e; rw [e] at h2; simp at h2
  have hg : ∀ i (h : i < C.dropLast.length), nth C.dropLast i = C[i]'(by omega) := fun i h => by
    rw [nth_get h, List.getElem_dropLast]
  have hfirst : C[0]'(by omega) = firstTo xs xs.length := by
    have := R.head
    rw [List.head?_eq_getElem?, List.getElem?_eq_getElem (by omega)] at this
    exact Option.some.inj this
  have hlast : C[C.length - 1]'(by omega) = firstTo xs xs.length := by
    have := R.last
    rw [List.getLast?_eq_getElem?, List.getElem?_eq_getElem (by omega)] at this
    exact Option.some.inj this
  have hper := Pick.nth_per C.dropLast
  have hz : nth C.dropLast 0 = firstTo xs xs.length := by rw [hg 0 h0, hfirst]
  have hmod : ∀ i, nth C.dropLast i = nth C.dropLast (i % C.dropLast.length) := fun i => by
    have := Pick.nth_modr C.dropLast i 0
    simpa using this.symm
  have hmod1 : ∀ i, nth C.dropLast (i + 1) = nth C.dropLast (i % C.dropLast.length + 1) := fun i => (Pick.nth_modr C.dropLast i 1).symm
  refine ⟨⟨h0, hper, fun i => ?_, fun i => ?_, fun i hi him => ?_⟩, hz⟩
  · rw [hmod i, hmod1 i]
    have hlt := Nat.mod_lt i h0
    generalize i % C.dropLast.length = j at *
    have hw := R.way j (by omega)
    rw [hg j hlt]
    by_cases c : j + 1 < C.dropLast.length
    · rw [hg (j + 1) c]; exact hw
    · have e : nth C.dropLast (j + 1) = nth C.dropLast 0 := by
        have := hper 0
        rw [Nat.zero_add] at this
        rw [← this]; congr 1; omega
      have e2 : C[j + 1]'(by omega) = firstTo xs xs.length := by
        rw [← hlast]; congr 1; omega
      rw [e, hz, ← e2]; exact hw
  · rw [hmod i, hg _ (Nat.mod_lt i h0)]
    exact R.mem _ (List.getElem_mem _)
  · rw [hg i him, hz]
    exact R.apart i (by omega) hi
theorem way_one {xs : List Spot} {a b c : Spot} (h1 : Way xs a b) (h2 : Way xs a c) (hb : b ∈ xs) (hc : c ∈ xs) : b = c := by
  have g1 := h1.2 c hc
  have g2 := h2.2 b hb
  have e := crs_flip a b c
  have z : crs a b c = 0 := by omega
  exact (betw_both (g1.2 z) (g2.2 (by omega))).symm
/-- No two corners of the way are one. -/
theorem Ways.inj {xs : List Spot} {m : Nat} {v : Nat → Spot} (h : Ways xs m v) {i k : Nat} (hik : i < k) (hk : k < i + m) : v i ≠ v k := by
  intro e
  have step : ∀ d, v (i + d) = v (k + d) := fun d => by
    induction d with
    | zero => exact e
    | succ d ih =>
      have w1 := h.way (i + d)
      have w2 := h.way (k + d)
      rw [← ih] at w2
      exact way_one w1 w2 (h.mem _) (h.mem _)
  have key : ∀ q r, v (r + m * q) = v r := by
    intro q; induction q with
    | zero => intro r; rfl
    | succ q ih => intro r; rw [Nat.mul_succ, ← Nat.add_assoc, h.per, ih]
  -- go on to a multiple of m behind k
  obtain ⟨q, hq⟩ : ∃ q, k ≤ m * q := ⟨k, Nat.le_mul_of_pos_left k h.pos⟩
  have s := step (m * q - k)
  rw [show k + (m * q - k) = 0 + m * q by omega, key] at s
  -- i + (m q - k) = m q - (k - i)
  have e1 : i + (m * q - k) = m * q - (k - i) := by omega
  rw [e1] at s
  obtain ⟨q', rfl⟩ : ∃ q', q = q' + 1 := by
    cases q with
    | zero => have : k = 0 := by simpa using hq
              omega
    | succ q' => exact ⟨q', rfl⟩
  rw [Nat.mul_succ, show m * q' + m - (k - i) = m - (k - i) + m * q' by omega, key] at s
  exact h.apart (m - (k - i)) (by omega) (by omega) s
theorem crs_line {a b x y z : Spot} (hab : a ≠ b) (hx : crs a b x = 0) (hy : crs a b y = 0) (hz : crs a b z = 0) : crs x y z = 0 := by
  have hD := Pick.dot_pos hab
  have lx := Pick.line_X (u := Pick.sb b a) (w := Pick.sb x a) hx
  have ly := Pick.line_X (u := Pick.sb b a) (w := Pick.sb y a) hy
  have lz := Pick.line_X (u := Pick.sb b a) (w := Pick.sb z a) hz
  have mx := Pick.line_Y (u := Pick.sb b a) (w := Pick.sb x a) hx
  have my := Pick.line_Y (u := Pick.sb b a) (w := Pick.sb y a) hy
  have mz := Pick.line_Y (u := Pick.sb b a) (w := Pick.sb z a) hz
  generalize Pick.dot (Pick.sb b a) (Pick.sb b a) = D at *
  generalize Pick.dot (Pick.sb b a) (Pick.sb x a) = tx at *
  generalize Pick.dot (Pick.sb b a) (Pick.sb y a) = ty at *
  generalize Pick.dot (Pick.sb b a) (Pick.sb z a) = tz at *
  simp only [Pick.sb] at lx ly lz mx my mz
  have e : D * D * crs x y z = (D * (y.X - a.X) - D * (x.X - a.X)) * (D * (z.Y - a.Y) - D * (x.Y - a.Y)) - (D * (y.Y - a.Y) - D * (x.Y - a.Y)) * (D * (z.X - a.X) - D * (x.X - a.X)) := by unfold crs; grind
  rw [lx, ly, lz, mx, my, mz] at e
  have z0 : D * D * crs x y z = 0 := by rw [e]; grind
  rcases Int.mul_eq_zero.1 z0 with q | q
  · rcases Int.mul_eq_zero.1 q with q | q <;> omega
  · exact q
theorem betw_swap (a b p : Spot) : betw b a p = betw a b p := by unfold betw; rw [Int.min_comm, Int.max_comm, Int.min_comm b.Y, Int.max_comm b.Y]
/-- All corners turn to the left. -/
theorem Ways.left {xs : List Spot} {m : Nat} {v : Nat → Spot} (h : Ways xs m v) (hx : ∃ x y z, x ∈ xs ∧ y ∈ xs ∧ z ∈ xs ∧ crs x y z ≠ 0) (i : Nat) : 0 < crs (v i) (v (i + 1)) (v (i + 2)) := by
  have w1 := h.way i
  have w2 := h.way (i + 1)
  have g := w1.2 _ (h.mem (i + 2))
  rcases Int.lt_or_le 0 (crs (v i) (v (i + 1)) (v (i + 2))) with hp | hp
  · exact hp
  · exfalso
    have z : crs (v i) (v (i + 1)) (v (i + 2)) = 0 := by omega
    have b1 := g.2 z
    have g2 := w2.2 _ (h.mem i)
    rw [crs_turn] at g2
    have b2 := g2.2 z
    rw [betw_swap] at b1
    have e : v (i + 2) = v i := betw_both b1 b2
    rw [show i + 1 + 1 = i + 2 by omega, e] at w2
    obtain ⟨x, y, z', hx1, hy1, hz1, hn⟩ := hx
    have on : ∀ p ∈ xs, crs (v i) (v (i + 1)) p = 0 := fun p hp' => by
      have a1 := (w1.2 p hp').1
      have a2 := (w2.2 p hp').1
      have s : crs (v (i + 1)) (v i) p = -crs (v i) (v (i + 1)) p := by unfold crs; grind
      omega
    exact hn (crs_line w1.1 (on x hx1) (on y hy1) (on z' hz1))
theorem Ways.three {xs : List Spot} {m : Nat} {v : Nat → Spot} (h : Ways xs m v) (hx : ∃ x y z, x ∈ xs ∧ y ∈ xs ∧ z ∈ xs ∧ crs x y z ≠ 0) : 3 ≤ m := by
  have h0 := h.pos
  have l := h.left hx 0
  rcases Nat.lt_or_ge m 3 with hm | hm
  · exfalso
    have : m = 1 ∨ m = 2 := by omega
    rcases this with rfl | rfl
    · exact (h.way 0).1 (h.per 0).symm
    · have := h.per 0
      rw [this] at l
      rw [crs_start] at l; omega
  · exact hm
/-- A corner of the way lies on the line of a side only as one of its ends. -/
theorem Ways.strict {xs : List Spot} {m : Nat} {v : Nat → Spot} (h : Ways xs m v) (hx : ∃ x y z, x ∈ xs ∧ y ∈ xs ∧ z ∈ xs ∧ crs x y z ≠ 0) {i k : Nat} (h1 : i + 2 ≤ k) (h2 : k < i + m) : 0 < crs (v i) (v (i + 1)) (v k) := by
  have g := (h.way i).2 _ (h.mem k)
  rcases Int.lt_or_le 0 (crs (v i) (v (i + 1)) (v k)) with hp | hp
  · exact hp
  · exfalso
    have z : crs (v i) (v (i + 1)) (v k) = 0 := by omega
    have hb := g.2 z
    have hab := (h.way i).1
    have n1 : v i ≠ v k := h.inj (by omega) h2
    have n2 : v (i + 1) ≠ v k := h.inj (by omega) (by omega)
    -- the neighbours of v k
    obtain ⟨j, rfl⟩ : ∃ j, k = j + 1 := ⟨k - 1, by omega⟩
    have o1 := ((h.way j).2 _ (h.mem i)).1
    have o2 := ((h.way j).2 _ (h.mem (i + 1))).1
    have q1 := ((h.way (j + 1)).2 _ (h.mem i)).1
    have q2 := ((h.way (j + 1)).2 _ (h.mem (i + 1))).1
    have l := h.left hx j
    rw [show j + 2 = j + 1 + 1 by omega] at l
    generalize v (j + 1 + 1) = q at *
    generalize v (j + 1) = p at *
    generalize v j = o at *
    generalize v i = a at *
    generalize v (i + 1) = b at *
    -- p = a + t (b - a) / D, 0 < t < D
    have hD := Pick.dot_pos hab
    have lx := Pick.line_X (u := Pick.sb b a) (w := Pick.sb p a) z
    have ly := Pick.line_Y (u := Pick.sb b a) (w := Pick.sb p a) z
    have tb : 0 ≤ Pick.dot (Pick.sb b a) (Pick.sb p a) ∧ Pick.dot (Pick.sb b a) (Pick.sb p a) ≤ Pick.dot (Pick.sb b a) (Pick.sb b a) := by
      unfold betw at hb
      simp only [Bool.and_eq_true, inr_true] at hb
      have dx := Pick.between_dot (u := (Pick.sb b a).X) (w := (Pick.sb p a).X) (by simp only [Pick.sb]; omega)
      have dy := Pick.between_dot (u := (Pick.sb b a).Y) (w := (Pick.sb p a).Y) (by simp only [Pick.sb]; omega)
      unfold Pick.dot; omega
    generalize Pick.dot (Pick.sb b a) (Pick.sb b a) = D at *
    generalize Pick.dot (Pick.sb b a) (Pick.sb p a) = t at *
    simp only [Pick.sb] at lx ly
    have t0 : t ≠ 0 := by
      rintro rfl
      rw [Int.zero_mul] at lx ly
      apply n1
      have e1 : p.X - a.X = 0 := by rcases Int.mul_eq_zero.1 lx with q | q <;> omega
      have e2 : p.Y - a.Y = 0 := by rcases Int.mul_eq_zero.1 ly with q | q <;> omega
      cases a; cases p; simp only at e1 e2; simp only [Spot.mk.injEq]; omega
    have t1 : t ≠ D := by
      rintro rfl
      apply n2
      have e1 : t * ((p.X - a.X) - (b.X - a.X)) = 0 := by rw [Int.mul_sub]; omega
      have e2 : t * ((p.Y - a.Y) - (b.Y - a.Y)) = 0 := by rw [Int.mul_sub]; omega
      have e1 : p.X - a.X - (b.X - a.X) = 0 := by rcases Int.mul_eq_zero.1 e1 with q | q <;> omega
      have e2 : p.Y - a.Y - (b.Y - a.Y) = 0 := by rcases Int.mul_eq_zero.1 e2 with q | q <;> omega
      cases b; cases p; simp only at e1 e2; simp only [Spot.mk.injEq]; omega
    -- t (b - p) = (D - t) (p - a)
    have ex : t * (b.X - p.X) = (D - t) * (p.X - a.X) := by grind
    have ey : t * (b.Y - p.Y) = (D - t) * (p.Y - a.Y) := by grind
    have k1 : t * crs o p b = -((D - t) * crs o p a) := by
      have : t * crs o p b = (p.X - o.X) * (t * (b.Y - p.Y)) - (p.Y - o.Y) * (t * (b.X - p.X)) := by unfold crs; grind
      rw [this, ex, ey]; unfold crs; grind
    have k2 : t * crs p q b = -((D - t) * crs p q a) := by
      have : t * crs p q b = (q.X - p.X) * (t * (b.Y - p.Y)) - (q.Y - p.Y) * (t * (b.X - p.X)) := by unfold crs; grind
      rw [this, ex, ey]; unfold crs; grind
    have s1 := Int.mul_nonneg (show 0 ≤ t by omega) o2
    have s2 := Int.mul_nonneg (show 0 ≤ D - t by omega) o1
    have s3 := Int.mul_nonneg (show 0 ≤ t by omega) q2
    have s4 := Int.mul_nonneg (show 0 ≤ D - t by omega) q1
    have c1 : crs o p a = 0 := by
      have : (D - t) * crs o p a = 0 := by omega
      rcases Int.mul_eq_zero.1 this with q | q <;> omega
    have c2 : crs p q a = 0 := by
      have : (D - t) * crs p q a = 0 := by omega
      rcases Int.mul_eq_zero.1 this with q | q <;> omega
    -- o, q on the line through p and a
    have d1 : crs p a o = 0 := by have : crs p a o = crs o p a := by unfold crs; grind
                                  omega
    have d2 : crs p a q = 0 := by have : crs p a q = -crs p q a := by unfold crs; grind
                                  omega
    have := crs_line (fun e => n1 e.symm) d1 (crs_start p a) d2
    omega
theorem Ways.ring {xs : List Spot} {m : Nat} {v : Nat → Spot} (h : Ways xs m v) (hx : ∃ x y z, x ∈ xs ∧ y ∈ xs ∧ z ∈ xs ∧ crs x y z ≠ 0) : Pick.Ring m v where
  three := h.three hx
  per := h.per
  corner := fun i => by
    have l := h.left hx i
    exact Pick.half_of_cr (by
      have e : Pick.cr (Pick.sb (v (i + 1)) (v i)) (Pick.sb (v (i + 2)) (v (i + 1))) = crs (v i) (v (i + 1)) (v (i + 2)) := by unfold Pick.cr Pick.sb crs; grind
      omega)
  sep := fun i k h1 h2 => by
    have s1 := h.strict hx (i := i) (k := k) h1 (by omega)
    have s2 := h.strict hx (i := i) (k := k + 1) (by omega) (by omega)
    refine ⟨-(v (i + 1)).Y + (v i).Y, (v (i + 1)).X - (v i).X, ?_, ?_, ?_, ?_⟩
    all_goals unfold Pick.Half Pick.sb
    · rw [show (-(v (i + 1)).Y + (v i).Y) * ((v k).X - (v i).X) + ((v (i + 1)).X - (v i).X) * ((v k).Y - (v i).Y) = crs (v i) (v (i + 1)) (v k) by unfold crs; grind]; exact s1
    · rw [show (-(v (i + 1)).Y + (v i).Y) * ((v k).X - (v (i + 1)).X) + ((v (i + 1)).X - (v i).X) * ((v k).Y - (v (i + 1)).Y) = crs (v i) (v (i + 1)) (v k) by unfold crs; grind]; exact s1
    · rw [show (-(v (i + 1)).Y + (v i).Y) * ((v (k + 1)).X - (v i).X) + ((v (i + 1)).X - (v i).X) * ((v (k + 1)).Y - (v i).Y) = crs (v i) (v (i + 1)) (v (k + 1)) by unfold crs; grind]; exact s2
    · rw [show (-(v (i + 1)).Y + (v i).Y) * ((v (k + 1)).X - (v (i + 1)).X) + ((v (i + 1)).X - (v i).X) * ((v (k + 1)).Y - (v (i + 1)).Y) = crs (v i) (v (i + 1)) (v (k + 1)) by unfold crs; grind]; exact s2
/-- An outline has three spots that are not on one line. -/
theorem ok_three {xs : List Spot} (h : okOutline xs = true) : ∃ x y z, x ∈ xs ∧ y ∈ xs ∧ z ∈ xs ∧ crs x y z ≠ 0 := by
  obtain ⟨⟨⟨h3, _⟩, _⟩, hs⟩ := okOutline_iff.1 h
  have hm : ∀ i, nth xs i ∈ xs := fun i => by
    have e := Pick.nth_modr xs i 0
    simp only [Nat.add_zero] at e
    rw [← e]; exact nth_mem (Nat.mod_lt _ (by omega))
  refine ⟨nth xs 0, nth xs 1, nth xs 2, hm 0, hm 1, hm 2, ?_⟩
  have := Pick.cr_of hs h3 0
  rw [show Pick.cr (Pick.edge (nth xs) 0) (Pick.edge (nth xs) (0 + 1)) = crs (nth xs 0) (nth xs 1) (nth xs 2) by unfold Pick.cr Pick.edge Pick.sb crs; grind] at this
  exact this
end Go.Proofs.Ytlaclknhenccdaa
