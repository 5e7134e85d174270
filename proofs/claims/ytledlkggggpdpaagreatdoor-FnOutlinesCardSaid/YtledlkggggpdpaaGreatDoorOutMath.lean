/- Outlines: which lists are outlines; mirrored and turned ones; how great an area is. -/
import Derived.Test.YtledlkggggpdpaaGreatDoorPickMath
namespace Go.Proofs.YtledlkggggpdpaaGreatDoor
open Go.RowKit
namespace Pick

theorem between_dot {u w : Int} (h : (0 ≤ u → 0 ≤ w ∧ w ≤ u) ∧ (u ≤ 0 → u ≤ w ∧ w ≤ 0)) : 0 ≤ u * w ∧ u * w ≤ u * u := by
  rcases Int.le_total 0 u with c | c
  · have := h.1 c
    exact ⟨Int.mul_nonneg c this.1, Int.mul_le_mul_of_nonneg_left this.2 c⟩
  · have := h.2 c
    have p1 := Int.mul_nonneg (show 0 ≤ -u by omega) (show 0 ≤ -w by omega)
    have p2 := Int.mul_nonneg (show 0 ≤ -u by omega) (show 0 ≤ w - u by omega)
    rw [Int.neg_mul_neg] at p1
    have e : -u * (w - u) = u * u - u * w := by grind
    omega
/-- A spot that lies in a half of the plane of both ends is not on the side. -/
theorem not_on {A B : Int} {a b c : Spot} (h1 : Half A B (sb c a)) (h2 : Half A B (sb c b)) : onS a b c = false := by
  rw [Bool.eq_false_iff]
  intro hon
  unfold onS betw at hon
  simp only [Bool.and_eq_true, beq_iff_eq, inr_true] at hon
  obtain ⟨h0, hx, hy⟩ := hon
  rw [crs_cr] at h0
  by_cases hab : a = b
  · subst hab
    have : c = a := by cases a; cases c; simp only at hx hy; simp only [Spot.mk.injEq]; omega
    subst this
    unfold Half sb at h1; simp at h1
  · have hD := dot_pos hab
    have lx := line_X h0
    have ly := line_Y h0
    have dx := between_dot (u := (sb b a).X) (w := (sb c a).X) (by simp only [sb]; omega)
    have dy := between_dot (u := (sb b a).Y) (w := (sb c a).Y) (by simp only [sb]; omega)
    have t0 : 0 ≤ dot (sb b a) (sb c a) := by unfold dot; omega
    have t1 : dot (sb b a) (sb c a) ≤ dot (sb b a) (sb b a) := by unfold dot; omega
    unfold Half at h1 h2
    have f1 : dot (sb b a) (sb b a) * (A * (sb c a).X + B * (sb c a).Y) = dot (sb b a) (sb c a) * (A * (sb b a).X + B * (sb b a).Y) := by
      have : dot (sb b a) (sb b a) * (A * (sb c a).X + B * (sb c a).Y) = A * (dot (sb b a) (sb b a) * (sb c a).X) + B * (dot (sb b a) (sb b a) * (sb c a).Y) := by grind
      rw [this, lx, ly]; grind
    have f2 : A * (sb c b).X + B * (sb c b).Y = (A * (sb c a).X + B * (sb c a).Y) - (A * (sb b a).X + B * (sb b a).Y) := by unfold sb; grind
    rw [f2] at h2
    generalize A * (sb c a).X + B * (sb c a).Y = p at *
    generalize A * (sb b a).X + B * (sb b a).Y = q at *
    generalize dot (sb b a) (sb b a) = D at *
    generalize dot (sb b a) (sb c a) = t at *
    -- D p = t q, 0 < p, q < p, 0 ≤ t ≤ D
    have g1 := Int.mul_pos hD h1
    have g2 := Int.mul_pos hD h2
    rw [Int.mul_sub, f1] at g2
    rw [f1] at g1
    rcases Int.le_total 0 q with c | c
    · have := Int.mul_nonneg (show 0 ≤ D - t by omega) c
      rw [Int.sub_mul] at this; omega
    · have := Int.mul_nonneg t0 (show 0 ≤ -q by omega)
      rw [Int.mul_neg] at this; omega
theorem sgn_neg {p q : Int} (h : sgn p * sgn q < 0) : (0 < p ∧ q < 0) ∨ (p < 0 ∧ 0 < q) := by
  apply Classical.byContradiction; intro hc
  have : (0 ≤ p ∧ 0 ≤ q) ∨ (p ≤ 0 ∧ q ≤ 0) := by omega
  rcases this with ⟨a, b⟩ | ⟨a, b⟩
  · have := Int.mul_nonneg (show 0 ≤ sgn p by unfold sgn; omega) (show 0 ≤ sgn q by unfold sgn; omega); omega
  · have := Int.mul_nonneg (show 0 ≤ -sgn p by unfold sgn; omega) (show 0 ≤ -sgn q by unfold sgn; omega)
    rw [Int.neg_mul_neg] at this; omega
theorem not_meet {a b c d : Spot} (h : Apart a b c d) : meetS a b c d = false := by
  obtain ⟨A, B, h1, h2, h3, h4⟩ := h
  have n : ∀ {x y : Spot}, Half A B (sb x y) → Half (-A) (-B) (sb y x) := fun h => by have := half_ng h; rwa [sb_ng] at this
  unfold meetS
  rw [not_on h1 h2, not_on h3 h4, not_on (n h1) (n h3), not_on (n h2) (n h4)]
  simp only [Bool.or_self, Bool.false_or]
  rw [Bool.eq_false_iff]
  intro hs
  simp only [Bool.and_eq_true, decide_eq_true_eq] at hs
  have s1 := sgn_neg hs.1
  have s2 := sgn_neg hs.2
  unfold Half at h1 h2 h3 h4
  have e0 : crs a b c - crs a b d + (crs c d a - crs c d b) = 0 := by unfold crs; grind
  have key : ∀ p1 p2 q1 q2 : Int, p1 - p2 + (q1 - q2) = 0 → p1 * (A * (sb d a).X + B * (sb d a).Y) = p1 * (A * (sb d a).X + B * (sb d a).Y) := fun _ _ _ _ _ => rfl
  have e1 : A * (crs a b c * d.X - crs a b d * c.X + crs c d a * b.X - crs c d b * a.X) + B * (crs a b c * d.Y - crs a b d * c.Y + crs c d a * b.Y - crs c d b * a.Y) = 0 := by unfold crs; grind
  clear key
  generalize crs a b c = p1 at *
  generalize crs a b d = p2 at *
  generalize crs c d a = q1 at *
  generalize crs c d b = q2 at *
  have w1 := h1
  have comb : (p1 * -q1) * (A * (sb d b).X + B * (sb d b).Y) + (p1 * q2) * (A * (sb d a).X + B * (sb d a).Y) + (-p2 * -q1) * (A * (sb c b).X + B * (sb c b).Y) + (-p2 * q2) * (A * (sb c a).X + B * (sb c a).Y) = (p1 - p2) * 0 := by
    rw [← e1]
    have : q2 = p1 - p2 + q1 := by omega
    subst this
    unfold sb; grind
  rw [Int.mul_zero] at comb
  rcases s1 with ⟨x1, x2⟩ | ⟨x1, x2⟩ <;> rcases s2 with ⟨y1, y2⟩ | ⟨y1, y2⟩
  · omega
  · have g1 := Int.mul_pos (Int.mul_pos x1 (show 0 < -q1 by omega)) h4
    have g2 := Int.mul_pos (Int.mul_pos x1 y2) h3
    have g3 := Int.mul_pos (Int.mul_pos (show 0 < -p2 by omega) (show 0 < -q1 by omega)) h2
    have g4 := Int.mul_pos (Int.mul_pos (show 0 < -p2 by omega) y2) h1
    omega
  · have g1 := Int.mul_pos (Int.mul_pos (show 0 < -p1 by omega) y1) h4
    have g2 := Int.mul_pos (Int.mul_pos (show 0 < -p1 by omega) (show 0 < -q2 by omega)) h3
    have g3 := Int.mul_pos (Int.mul_pos x2 y1) h2
    have g4 := Int.mul_pos (Int.mul_pos x2 (show 0 < -q2 by omega)) h1
    have e1 : -p1 * q1 = p1 * -q1 := by grind
    have e2 : -p1 * -q2 = p1 * q2 := by grind
    have e3 : p2 * q1 = -p2 * -q1 := by grind
    have e4 : p2 * -q2 = -p2 * q2 := by grind
    rw [e1] at g1; rw [e2] at g2; rw [e3] at g3; rw [e4] at g4
    omega
  · omega
/-- A simple way round without straight corners is an outline. -/
theorem simple_of {xs : List Spot} (h : Ring xs.length (nth xs)) (hc : ∀ i, cr (edge (nth xs) i) (edge (nth xs) (i + 1)) ≠ 0) : simple xs = true := by
  unfold simple
  refine allUpto_iff.2 fun i hi => ?_
  unfold simpleAt
  rw [Bool.and_eq_true]
  constructor
  · unfold flatAt
    simp only [Bool.not_eq_true', beq_eq_false_iff_ne]
    have := hc i
    rw [show cr (edge (nth xs) i) (edge (nth xs) (i + 1)) = crs (nth xs i) (nth xs (i + 1)) (nth xs (i + 2)) by unfold crs cr edge sb; grind] at this
    exact this
  · refine allUpto_iff.2 fun k hk => ?_
    unfold meetAt
    rw [Bool.not_eq_true', Bool.and_eq_false_iff, Bool.and_eq_false_iff]
    by_cases c1 : i + 2 ≤ k
    · by_cases c2 : i = 0 ∧ k + 1 = xs.length
      · right; left; simp [c2.1, c2.2]
      · right; right
        obtain ⟨A, B, h1, h2, h3, h4⟩ := h.sep i k c1 (by omega)
        exact not_meet ⟨A, B, h1, h2, h3, h4⟩
    · left; simpa using c1
theorem cr_of {xs : List Spot} (hs : simple xs = true) (h3 : 3 ≤ xs.length) (i : Nat) : cr (edge (nth xs) i) (edge (nth xs) (i + 1)) ≠ 0 := by
  have hA := allUpto_iff.1 hs
  have := hA (i % xs.length) (Nat.mod_lt _ (by omega))
  unfold simpleAt flatAt at this
  simp only [Bool.and_eq_true, Bool.not_eq_true', beq_eq_false_iff_ne] at this
  have h1 := this.1
  have e0 := nth_modr xs i 0
  have e1 := nth_modr xs i 1
  have e2 := nth_modr xs i 2
  simp only [Nat.add_zero] at e0
  rw [e0, e1, e2] at h1
  rw [show cr (edge (nth xs) i) (edge (nth xs) (i + 1)) = crs (nth xs i) (nth xs (i + 1)) (nth xs (i + 2)) by unfold crs cr edge sb; grind]
  exact h1
/-- A way round whose corners are mapped. -/
theorem Ring.map {n : Nat} {v w : Nat → Spot} (h : Ring n v) (M : Spot → Spot) (hT : ∀ i k, sb (w i) (w k) = M (sb (v i) (v k))) (hp : ∀ i, w (i + n) = w i) (hM : ∀ A B, ∃ A' B', ∀ u, Half A B u → Half A' B' (M u)) : Ring n w where
  three := h.three
  per := hp
  corner := fun i => by
    obtain ⟨A, B, c1, c2⟩ := h.corner i
    obtain ⟨A', B', hm⟩ := hM A B
    exact ⟨A', B', by rw [hT]; exact hm _ c1, by rw [hT]; exact hm _ c2⟩
  sep := fun i k h1 h2 => by
    obtain ⟨A, B, c1, c2, c3, c4⟩ := h.sep i k h1 h2
    obtain ⟨A', B', hm⟩ := hM A B
    exact ⟨A', B', by rw [hT]; exact hm _ c1, by rw [hT]; exact hm _ c2, by rw [hT]; exact hm _ c3, by rw [hT]; exact hm _ c4⟩
/-- The other way round. -/
def back (n : Nat) (v : Nat → Spot) (i : Nat) : Spot := v (n - 1 - i % n)
theorem back_far {n : Nat} {v : Nat → Spot} (hp : ∀ i, v (i + n) = v i) {i : Nat} (hi : i < 3 * n) : back n v i = v (3 * n - 1 - i) := by
  unfold back
  by_cases c1 : i < n
  · rw [Nat.mod_eq_of_lt c1, show 3 * n - 1 - i = n - 1 - i + n + n by omega, hp, hp]
  · by_cases c2 : i < 2 * n
    · rw [show i % n = i - n by rw [Nat.mod_eq_sub_mod (by omega), Nat.mod_eq_of_lt (by omega)], show 3 * n - 1 - i = n - 1 - (i - n) + n by omega, hp]
    · rw [show i % n = i - n - n by rw [Nat.mod_eq_sub_mod (by omega), Nat.mod_eq_sub_mod (by omega), Nat.mod_eq_of_lt (by omega)], show 3 * n - 1 - i = n - 1 - (i - n - n) by omega]
theorem back_per (n : Nat) (v : Nat → Spot) (i : Nat) : back n v (i + n) = back n v i := by unfold back; rw [Nat.add_mod_right]
theorem back_add {n : Nat} (v : Nat → Spot) (i k : Nat) : back n v (i % n + k) = back n v (i + k) := by unfold back; rw [Nat.mod_add_mod]
theorem Ring.back {n : Nat} {v : Nat → Spot} (h : Ring n v) : Ring n (back n v) where
  three := h.three
  per := back_per n v
  corner := fun i => by
    have h3 := h.three
    have hlt := Nat.mod_lt i (show 0 < n by omega)
    have e0 := back_add (n := n) v i 0
    have e1 := back_add (n := n) v i 1
    have e2 := back_add (n := n) v i 2
    simp only [Nat.add_zero] at e0
    rw [← e0, ← e1, ← e2]
    generalize i % n = j at *
    rw [back_far h.per (by omega), back_far h.per (by omega), back_far h.per (by omega)]
    obtain ⟨A, B, c1, c2⟩ := h.corner (3 * n - 3 - j)
    rw [show 3 * n - 3 - j + 1 = 3 * n - 1 - (j + 1) by omega] at c1 c2
    rw [show 3 * n - 3 - j = 3 * n - 1 - (j + 2) by omega] at c1
    rw [show 3 * n - 3 - j + 2 = 3 * n - 1 - j by omega] at c2
    have g1 := half_ng c1
    have g2 := half_ng c2
    rw [sb_ng] at g1 g2
    exact ⟨-A, -B, g2, g1⟩
  sep := fun i k h1 h2 => by
    have h3 := h.three
    have hlt := Nat.mod_lt i (show 0 < n by omega)
    have di := Nat.mod_add_div i n
    obtain ⟨d, hd⟩ : ∃ d, k = i + d := ⟨k - i, by omega⟩
    have e0 := back_add (n := n) v i 0
    have e1 := back_add (n := n) v i 1
    have f0 := back_add (n := n) v i d
    have f1 := back_add (n := n) v i (d + 1)
    simp only [Nat.add_zero] at e0
    rw [hd, show i + d + 1 = i + (d + 1) by omega, ← e0, ← e1, ← f0, ← f1]
    generalize i % n = j at *
    rw [back_far h.per (by omega), back_far h.per (by omega), back_far h.per (by omega), back_far h.per (by omega)]
    obtain ⟨A, B, c1, c2, c3, c4⟩ := h.sep (3 * n - 2 - (j + d)) (3 * n - 2 - j) (by omega) (by omega)
    rw [show 3 * n - 2 - (j + d) + 1 = 3 * n - 1 - (j + d) by omega] at c2 c4
    rw [show 3 * n - 2 - j + 1 = 3 * n - 1 - j by omega] at c3 c4
    rw [show 3 * n - 2 - (j + d) = 3 * n - 1 - (j + (d + 1)) by omega] at c1 c3
    rw [show 3 * n - 2 - j = 3 * n - 1 - (j + 1) by omega] at c1 c2
    have n : ∀ {x y : Spot}, Half A B (sb x y) → Half (-A) (-B) (sb y x) := fun h => by have := half_ng h; rwa [sb_ng] at this
    exact ⟨-A, -B, n c4, n c2, n c3, n c1⟩
theorem back_edge {n : Nat} {v : Nat → Spot} (hp : ∀ i, v (i + n) = v i) (h0 : 0 < n) (i : Nat) : ∃ m, back n v i = v (m + 2) ∧ back n v (i + 1) = v (m + 1) ∧ back n v (i + 2) = v m := by
  have hlt := Nat.mod_lt i h0
  have e0 := back_add (n := n) v i 0
  have e1 := back_add (n := n) v i 1
  have e2 := back_add (n := n) v i 2
  simp only [Nat.add_zero] at e0
  rw [← e0, ← e1, ← e2]
  generalize i % n = j at *
  by_cases c : n = 1 ∧ j = 0
  · obtain ⟨rfl, rfl⟩ := c
    refine ⟨0, ?_, ?_, ?_⟩ <;> unfold back <;> simp only [Nat.mod_one]
    · rw [hp 1, hp 0]
    · rw [hp 0]
  · rw [back_far hp (by omega), back_far hp (by omega), back_far hp (by omega)]
    exact ⟨3 * n - 3 - j, by rw [show 3 * n - 3 - j + 2 = 3 * n - 1 - j by omega], by rw [show 3 * n - 3 - j + 1 = 3 * n - 1 - (j + 1) by omega], by rw [show 3 * n - 3 - j = 3 * n - 1 - (j + 2) by omega]⟩
theorem back_cr {n : Nat} {v : Nat → Spot} (hp : ∀ i, v (i + n) = v i) (h0 : 0 < n) (hc : ∀ i, cr (edge v i) (edge v (i + 1)) ≠ 0) (i : Nat) : cr (edge (back n v) i) (edge (back n v) (i + 1)) ≠ 0 := by
  obtain ⟨m, e1, e2, e3⟩ := back_edge hp h0 i
  have := hc m
  unfold edge at this ⊢
  rw [show i + 1 + 1 = i + 2 by omega, e1, e2, e3]
  rw [show m + 1 + 1 = m + 2 by omega] at this
  intro h
  apply this
  have e : ∀ a b c : Spot, cr (sb b a) (sb c b) = -cr (sb b c) (sb a b) := fun a b c => by unfold cr sb; grind
  rw [e, h]; rfl
theorem map_cr {v w : Nat → Spot} (M : Spot → Spot) (s : Int) (hs : s = 1 ∨ s = -1) (hT : ∀ i k, sb (w i) (w k) = M (sb (v i) (v k))) (hM : ∀ a b, cr (M a) (M b) = s * cr a b) (hc : ∀ i, cr (edge v i) (edge v (i + 1)) ≠ 0) (i : Nat) : cr (edge w i) (edge w (i + 1)) ≠ 0 := by
  have := hc i
  unfold edge at this ⊢
  rw [hT, hT, hM]
  rcases hs with rfl | rfl <;> omega
/-! Twice the area. -/
theorem area2_back {n : Nat} {v : Nat → Spot} (hp : ∀ i, v (i + n) = v i) : area2 n (back n v) = -area2 n v := by
  by_cases h0 : n = 0
  · subst h0; rfl
  · have s := sumUp_rev (fun i => (v (i + 1)).X * (v i).Y - (v i).X * (v (i + 1)).Y) n
    have hb : ∀ i, back n v i = v (3 * n - 1 - i) ∨ ¬ i < 3 * n := fun i => by
      by_cases c : i < 3 * n
      · exact Or.inl (back_far hp c)
      · exact Or.inr c
    unfold area2
    have e : sumUp (fun i => (back n v i).X * (back n v (i + 1)).Y - (back n v (i + 1)).X * (back n v i).Y) n = sumUp (fun i => (fun i => (v (i + 1)).X * (v i).Y - (v i).X * (v (i + 1)).Y) (n - 1 - i)) n := by
      have sh := sumUp_shift (f := fun i => (v (i + 1)).X * (v i).Y - (v i).X * (v (i + 1)).Y) (n := n) (fun i => by rw [show i + n + 1 = i + 1 + n by omega, hp, hp]) (n + n - 1)
      rw [s, ← sh, ← sumUp_rev (fun i => (v (i + (n + n - 1) + 1)).X * (v (i + (n + n - 1))).Y - (v (i + (n + n - 1))).X * (v (i + (n + n - 1) + 1)).Y) n]
      exact sumUp_congr fun i hi => by
        rw [back_far hp (by omega), back_far hp (by omega)]
        rw [show n - 1 - i + (n + n - 1) + 1 = 3 * n - 1 - i by omega, show n - 1 - i + (n + n - 1) = 3 * n - 1 - (i + 1) by omega]
    rw [e, s, ← sumUp_neg]
    exact sumUp_congr fun i _ => by omega
theorem area2_shift {n : Nat} {v w : Nat → Spot} (hp : ∀ i, v (i + n) = v i) (c : Spot) (hw : ∀ i, w i = ⟨(v i).X - c.X, (v i).Y - c.Y⟩) : area2 n w = area2 n v := by
  have t1 := sumUp_tele (fun i => (v i).X) n
  have t2 := sumUp_tele (fun i => (v i).Y) n
  have h0 := hp 0
  rw [Nat.zero_add] at h0
  rw [h0] at t1 t2
  unfold area2
  rw [sumUp_congr (g := fun i => ((v i).X * (v (i + 1)).Y - (v (i + 1)).X * (v i).Y) + (-c.X * ((v (i + 1)).Y - (v i).Y) + c.Y * ((v (i + 1)).X - (v i).X))) (fun i _ => by rw [hw, hw]; simp only; grind)]
  rw [sumUp_add, sumUp_add, sumUp_mul, sumUp_mul, t1, t2]
  omega
/-- No outline has more area than its box. -/
theorem area_box {n : Nat} {v : Nat → Spot} (h : Ring n v) {X0 Y0 : Int} {nx ny : Nat} (hb : ∀ i, X0 ≤ (v i).X ∧ (v i).X ≤ X0 + nx ∧ Y0 ≤ (v i).Y ∧ (v i).Y ≤ Y0 + ny) : turns n v * area2 n v ≤ 2 * (nx * ny) := by
  have hone := turns_one h
  -- the outline k times as great
  have key : ∀ k : Nat, 0 < k → (k : Int) * k * (turns n v * area2 n v) ≤ 2 * ((k * nx + 1) * (k * ny + 1)) + k * rim n v := by
    intro k hk
    have hr : Ring n (fun i => sc k (v i)) := h.map (sc k) (fun i j => by unfold sb sc; simp only [Spot.mk.injEq]; constructor <;> grind) (fun i => by rw [h.per]) (fun A B => ⟨A, B, fun u hu => by
      unfold Half sc at *
      have := Int.mul_pos (show 0 < (k : Int) by omega) hu
      rw [show A * (k * u.X) + B * (k * u.Y) = k * (A * u.X + B * u.Y) by grind]; exact this⟩)
    have he : ∀ i, edge (fun i => sc (k : Int) (v i)) i = sc k (edge v i) := fun i => by unfold edge sb sc; simp only [Spot.mk.injEq]; constructor <;> grind
    have ht : turns n (fun i => sc (k : Int) (v i)) = turns n v := by
      unfold turns
      exact sumUp_congr fun i _ => by rw [he, he, turn_sc (by omega)]
    have ha : area2 n (fun i => sc (k : Int) (v i)) = k * k * area2 n v := by
      unfold area2
      rw [← sumUp_mul]
      exact sumUp_congr fun i _ => by unfold sc; grind
    have hg : rim n (fun i => sc (k : Int) (v i)) = k * rim n v := by
      unfold rim
      rw [← sumUp_mul]
      refine sumUp_congr fun i _ => ?_
      unfold gl
      rw [he]
      unfold sc
      simp only [Int.natAbs_mul, Int.natAbs_natCast, Nat.gcd_mul_left]
      exact Int.natCast_mul _ _
    have hbk : ∀ i, InBox (k * X0) (k * Y0) (k * nx + 1) (k * ny + 1) (sc k (v i)) := fun i => by
      obtain ⟨b1, b2, b3, b4⟩ := hb i
      have m1 := Int.mul_le_mul_of_nonneg_left b1 (show (0 : Int) ≤ k by omega)
      have m2 := Int.mul_le_mul_of_nonneg_left b2 (show (0 : Int) ≤ k by omega)
      have m3 := Int.mul_le_mul_of_nonneg_left b3 (show (0 : Int) ≤ k by omega)
      have m4 := Int.mul_le_mul_of_nonneg_left b4 (show (0 : Int) ≤ k by omega)
      rw [Int.mul_add] at m2 m4
      have c1 : ((k * nx + 1 : Nat) : Int) = k * nx + 1 := by rw [Int.natCast_add, Int.natCast_mul]; rfl
      have c2 : ((k * ny + 1 : Nat) : Int) = k * ny + 1 := by rw [Int.natCast_add, Int.natCast_mul]; rfl
      unfold InBox sc
      rw [c1, c2]
      simp only
      omega
    obtain ⟨p1, p2⟩ := pick hr hbk
    rw [ht, ha, hg] at p1
    rw [hg] at p2
    -- counts are at most the box
    have hle : boxSum (inCount n (fun i => sc (k : Int) (v i))) (k * X0) (k * Y0) (k * nx + 1) (k * ny + 1) ≤ (k * nx + 1) * (k * ny + 1) := by
      have l : ∀ (F : Spot → Int) (X Y : Int) (a b : Nat), (∀ p, F p ≤ 1) → boxSum F X Y a b ≤ a * b := fun F X Y a b hF => by
        unfold boxSum
        have le1 : ∀ (f : Nat → Int) (c : Int), (∀ i, f i ≤ c) → ∀ m : Nat, sumUp f m ≤ c * m := fun f c hf m => by
          induction m with
          | zero => simp [sumUp]
          | succ m ih => simp only [sumUp]; have := hf m; rw [Int.natCast_add, Int.mul_add]; simp; omega
        have := le1 (fun i => sumUp (fun j => F ⟨X + i, Y + j⟩) b) b (fun i => by have := le1 (fun j => F ⟨X + i, Y + j⟩) 1 (fun j => hF _) b; omega) a
        rw [Int.mul_comm]; exact this
      have := l (inCount n (fun i => sc (k : Int) (v i))) (k * X0) (k * Y0) (k * nx + 1) (k * ny + 1) (fun p => by unfold inCount; split <;> omega)
      simpa using this
    rw [show turns n v * (k * k * area2 n v) = k * k * (turns n v * area2 n v) by grind] at p1
    omega
  -- for a great k
  apply Classical.byContradiction; intro hc
  have hr0 : 0 ≤ rim n v := sumUp_nonneg fun i _ => by omega
  obtain ⟨k, hk⟩ : ∃ k : Nat, (k : Int) = 2 * nx + 2 * ny + rim n v + 3 := ⟨(2 * nx + 2 * ny + rim n v + 3).toNat, by omega⟩
  have q := key k (by omega)
  have m1 := Int.mul_le_mul_of_nonneg_left (show 2 * ((nx : Int) * ny) + 1 ≤ turns n v * area2 n v by omega) (Int.mul_nonneg (show (0 : Int) ≤ k by omega) (show (0 : Int) ≤ k by omega))
  have e1 : (k : Int) * k * (2 * ((nx : Int) * ny) + 1) = 2 * ((k * nx) * (k * ny)) + k * k := by grind
  have e2 : 2 * (((k : Int) * nx + 1) * (k * ny + 1)) + k * rim n v = 2 * ((k * nx) * (k * ny)) + (k * (2 * nx + 2 * ny + rim n v) + 2) := by grind
  have e3 : (k : Int) * k = k * (2 * nx + 2 * ny + rim n v) + 3 * k := by
    have : (k : Int) * k = k * (2 * nx + 2 * ny + rim n v + 3) := by rw [← hk]
    rw [this]; grind
  omega
theorem area_pos {n : Nat} {v : Nat → Spot} (h : Ring n v) {X0 Y0 : Int} {nx ny : Nat} (hb : ∀ i, InBox X0 Y0 nx ny (v i)) : 0 < turns n v * area2 n v := by
  have h3 := h.three
  obtain ⟨p1, _⟩ := pick h hb
  have hi : 0 ≤ boxSum (inCount n v) X0 Y0 nx ny := by
    unfold boxSum
    exact sumUp_nonneg fun i _ => sumUp_nonneg fun j _ => by unfold inCount; split <;> omega
  have hr : 3 ≤ rim n v := by
    have l : ∀ m : Nat, (m : Int) ≤ sumUp (fun i => (gl v i : Int)) m := fun m => by
      induction m with
      | zero => simp [sumUp]
      | succ m ih => simp only [sumUp]; have := h.gl_pos m; omega
    have := l n
    unfold rim; omega
  omega
end Pick
end Go.Proofs.YtledlkggggpdpaaGreatDoor
