/- Outlines: mirrored and turned ones are outlines, with the same area; turned back they are the same up to a shift. -/
import Derived.Test.YtledlkggggpdpaaGreatDoorOutMath
namespace Go.Proofs.YtledlkggggpdpaaGreatDoor
open Go.RowKit

theorem area2_twice (xs : List Spot) : Pick.area2 xs.length (nth xs) = twice xs := rfl
theorem ring_ok {xs : List Spot} (h : okOutline xs = true) : Pick.Ring xs.length (nth xs) := by
  obtain ⟨⟨⟨h3, _⟩, _⟩, hs⟩ := okOutline_iff.1 h
  exact Pick.ring_of h3 hs
theorem loTo_le (xs : List Spot) : ∀ k i, i < k → (loTo xs k).X ≤ (nth xs i).X ∧ (loTo xs k).Y ≤ (nth xs i).Y
  | 0, _, h => absurd h (Nat.not_lt_zero _)
  | k + 1, i, h => by
    simp only [loTo, lo2]
    by_cases e : i = k
    · subst e; omega
    · have := loTo_le xs k i (by omega); omega
theorem hiTo_le (xs : List Spot) : ∀ k i, i < k → (nth xs i).X ≤ (hiTo xs k).X ∧ (nth xs i).Y ≤ (hiTo xs k).Y
  | 0, _, h => absurd h (Nat.not_lt_zero _)
  | k + 1, i, h => by
    simp only [hiTo, hi2]
    by_cases e : i = k
    · subst e; omega
    · have := hiTo_le xs k i (by omega); omega
theorem loTo_ge {xs : List Spot} {c d : Int} (h : ∀ i, c ≤ (nth xs i).X ∧ d ≤ (nth xs i).Y) : ∀ k, c ≤ (loTo xs k).X ∧ d ≤ (loTo xs k).Y
  | 0 => h 0
  | k + 1 => by
    have h1 := loTo_ge h k
    have h2 := h k
    simp only [loTo, lo2]; omega
theorem hiTo_ge {xs : List Spot} {c d : Int} (h : ∀ i, (nth xs i).X ≤ c ∧ (nth xs i).Y ≤ d) : ∀ k, (hiTo xs k).X ≤ c ∧ (hiTo xs k).Y ≤ d
  | 0 => h 0
  | k + 1 => by
    have h1 := hiTo_ge h k
    have h2 := h k
    simp only [hiTo, hi2]; omega
theorem nth_all {xs : List Spot} (h0 : 0 < xs.length) {P : Spot → Prop} (h : ∀ x ∈ xs, P x) (i : Nat) : P (nth xs i) := by
  have e := Pick.nth_modr xs i 0
  simp only [Nat.add_zero] at e
  rw [← e]
  rw [nth_get (Nat.mod_lt _ h0)]
  exact h _ (List.getElem_mem _)
theorem nth_map {xs : List Spot} (h0 : 0 < xs.length) (T : Spot → Spot) (i : Nat) : nth (xs.map T) i = T (nth xs i) := by
  have hi := Nat.mod_lt i h0
  unfold nth
  rw [List.length_map]
  simp [hi]
theorem nth_lay {xs : List Spot} (h0 : 0 < xs.length) (i : Nat) : nth (lay xs) i = ⟨(nth xs i).X - (loTo xs xs.length).X, (nth xs i).Y - (loTo xs xs.length).Y⟩ := nth_map h0 _ i
theorem nth_mirrored {xs : List Spot} (h0 : 0 < xs.length) (i : Nat) : nth (mirrored xs) i = mir (Pick.back xs.length (nth xs) i) := by
  have hi := Nat.mod_lt i h0
  have e := Pick.nth_modr (mirrored xs) i 0
  rw [mirrored_length] at e
  simp only [Nat.add_zero] at e
  rw [← e, nth_get (by rw [mirrored_length]; exact hi), mirrored_get _ _ _ (by omega)]
  rfl
theorem lay_spread {ys : List Spot} (h0 : 0 < ys.length) {c : Spot} (hs : ∀ x ∈ ys, (c.X ≤ x.X ∧ x.X ≤ c.X + 10000) ∧ c.Y ≤ x.Y ∧ x.Y ≤ c.Y + 10000) : ∀ x ∈ lay ys, okSpot x = true := by
  intro x hx
  unfold lay at hx
  obtain ⟨y, hy, rfl⟩ := List.mem_map.1 hx
  have g := loTo_ge (xs := ys) (c := c.X) (d := c.Y) (fun i => by have := nth_all h0 hs i; exact ⟨this.1.1, this.2.1⟩) ys.length
  obtain ⟨j, hj, rfl⟩ := List.mem_iff_getElem.1 hy
  have l := loTo_le ys ys.length j hj
  rw [nth_get hj] at l
  have := hs _ hy
  rw [okSpot_iff]; simp only; omega
theorem lay_ok {ys : List Spot} (h3 : 3 ≤ ys.length) (h24 : ys.length ≤ 24) (hr : Pick.Ring ys.length (nth ys)) (hc : ∀ i, Pick.cr (Pick.edge (nth ys) i) (Pick.edge (nth ys) (i + 1)) ≠ 0) {c : Spot} (hs : ∀ x ∈ ys, (c.X ≤ x.X ∧ x.X ≤ c.X + 10000) ∧ c.Y ≤ x.Y ∧ x.Y ≤ c.Y + 10000) : okOutline (lay ys) = true := by
  have h0 : 0 < ys.length := by omega
  have hT : ∀ i k, Pick.sb (nth (lay ys) i) (nth (lay ys) k) = Pick.sb (nth ys i) (nth ys k) := fun i k => by
    rw [nth_lay h0, nth_lay h0]; unfold Pick.sb; simp only [Spot.mk.injEq]; omega
  refine okOutline_iff.2 ⟨⟨by rw [lay_length]; exact ⟨h3, h24⟩, lay_spread h0 hs⟩, Pick.simple_of ?_ ?_⟩
  · rw [lay_length]
    exact hr.map id hT (fun i => by rw [nth_lay h0, nth_lay h0, hr.per]) (fun A B => ⟨A, B, fun u hu => hu⟩)
  · exact Pick.map_cr id 1 (Or.inl rfl) hT (fun a b => by rw [Int.one_mul]; rfl) hc
theorem mirror_ring {xs : List Spot} (h : okOutline xs = true) : Pick.Ring (mirrored xs).length (nth (mirrored xs)) ∧ ∀ i, Pick.cr (Pick.edge (nth (mirrored xs)) i) (Pick.edge (nth (mirrored xs)) (i + 1)) ≠ 0 := by
  obtain ⟨⟨⟨h3, _⟩, _⟩, hs⟩ := okOutline_iff.1 h
  have h0 : 0 < xs.length := by omega
  have hr := ring_ok h
  have hT : ∀ i k, Pick.sb (nth (mirrored xs) i) (nth (mirrored xs) k) = mir (Pick.sb (Pick.back xs.length (nth xs) i) (Pick.back xs.length (nth xs) k)) := fun i k => by
    rw [nth_mirrored h0, nth_mirrored h0]; unfold Pick.sb mir; simp only [Spot.mk.injEq, and_true]; omega
  constructor
  · rw [mirrored_length]
    exact hr.back.map mir hT (fun i => by rw [nth_mirrored h0, nth_mirrored h0, hr.back.per]) (fun A B => ⟨-A, B, fun u hu => by unfold Pick.Half mir at *; simp only [Int.neg_mul_neg]; exact hu⟩)
  · exact Pick.map_cr mir (-1) (Or.inr rfl) hT (fun a b => by unfold Pick.cr mir; grind) (Pick.back_cr hr.per h0 (Pick.cr_of hs h3))
theorem mirror_ok {xs : List Spot} (h : okOutline xs = true) : okOutline (lay (mirrored xs)) = true := by
  obtain ⟨⟨⟨h3, h24⟩, hok⟩, _⟩ := okOutline_iff.1 h
  obtain ⟨hr, hc⟩ := mirror_ring h
  refine lay_ok (by rw [mirrored_length]; exact h3) (by rw [mirrored_length]; exact h24) hr hc (c := ⟨-10000, 0⟩) fun x hx => ?_
  simp only [mirrored, List.mem_map, List.mem_reverse] at hx
  obtain ⟨y, hy, rfl⟩ := hx
  have := okSpot_iff.1 (hok y hy)
  simp only [mir]; omega
theorem twice_lay {ys : List Spot} (h0 : 0 < ys.length) : twice (lay ys) = twice ys := by
  rw [← area2_twice, ← area2_twice, lay_length]
  exact Pick.area2_shift (Pick.nth_per ys) (loTo ys ys.length) (nth_lay h0)
theorem twice_mirrored {xs : List Spot} (h0 : 0 < xs.length) : twice (mirrored xs) = twice xs := by
  rw [← area2_twice, ← area2_twice, mirrored_length]
  have hb := Pick.area2_back (n := xs.length) (v := nth xs) (Pick.nth_per xs)
  have : Pick.area2 xs.length (nth (mirrored xs)) = -Pick.area2 xs.length (Pick.back xs.length (nth xs)) := by
    unfold Pick.area2
    rw [← Pick.sumUp_neg]
    exact Pick.sumUp_congr fun i _ => by rw [nth_mirrored h0, nth_mirrored h0]; unfold mir; grind
  rw [this, hb]; omega
theorem twice_mirror {xs : List Spot} (h : okOutline xs = true) : twice (lay (mirrored xs)) = twice xs := by
  obtain ⟨⟨⟨h3, _⟩, _⟩, _⟩ := okOutline_iff.1 h
  rw [twice_lay (by rw [mirrored_length]; omega), twice_mirrored (by omega)]
theorem list_nth {xs ys : List Spot} (hl : xs.length = ys.length) (h : ∀ i, i < xs.length → nth xs i = nth ys i) : xs = ys :=
  List.ext_getElem hl fun i h1 h2 => by have := h i h1; rwa [nth_get h1, nth_get h2] at this
/-- Lists that are the same up to a shift lie the same. -/
theorem lay_shift {xs ys : List Spot} (hl : ys.length = xs.length) (h0 : 0 < xs.length) (c : Spot) (h : ∀ i, nth ys i = ⟨(nth xs i).X + c.X, (nth xs i).Y + c.Y⟩) : lay ys = lay xs := by
  have e : ∀ k, loTo ys k = ⟨(loTo xs k).X + c.X, (loTo xs k).Y + c.Y⟩ := fun k => by
    induction k with
    | zero => exact h 0
    | succ k ih => simp only [loTo, lo2]; rw [ih, h]; simp only [Spot.mk.injEq]; omega
  refine list_nth (by rw [lay_length, lay_length, hl]) fun i _ => ?_
  rw [nth_lay (by omega), nth_lay h0, h, hl, e]; simp only [Spot.mk.injEq]; omega
/-- Mirrored twice: as it was, laid against both axes. -/
theorem mirror_mirror {xs : List Spot} (h : okOutline xs = true) : lay (mirrored (lay (mirrored xs))) = lay xs := by
  obtain ⟨⟨⟨h3, _⟩, _⟩, _⟩ := okOutline_iff.1 h
  have h0 : 0 < xs.length := by omega
  have hl : (lay (mirrored xs)).length = xs.length := by rw [lay_length, mirrored_length]
  refine lay_shift (by rw [mirrored_length, hl]) h0 ⟨(loTo (mirrored xs) (mirrored xs).length).X, -(loTo (mirrored xs) (mirrored xs).length).Y⟩ fun i => ?_
  rw [nth_mirrored (by omega), hl]
  unfold Pick.back
  rw [nth_lay (by rw [mirrored_length]; exact h0), nth_mirrored h0]
  have e : Pick.back xs.length (nth xs) (xs.length - 1 - i % xs.length) = nth xs i := by
    unfold Pick.back
    have hi := Nat.mod_lt i h0
    rw [Nat.mod_eq_of_lt (by omega), show xs.length - 1 - (xs.length - 1 - i % xs.length) = i % xs.length by omega]
    have := Pick.nth_modr xs i 0
    simpa using this
  rw [e]; unfold mir; simp only [Spot.mk.injEq]; omega
/-! Turned ones. -/
def rotN : Nat → Spot → Spot
  | 0, p => p
  | q + 1, p => rot (rotN q p)
theorem nth_rotTo {xs : List Spot} (h0 : 0 < xs.length) (i : Nat) : ∀ q, nth (rotTo q xs) i = rotN q (nth xs i)
  | 0 => rfl
  | q + 1 => by simp only [rotTo, rotN]; rw [nth_map (by rw [rotTo_length]; exact h0), nth_rotTo h0 i q]
theorem rotN_sb (a b : Spot) : ∀ q, Pick.sb (rotN q a) (rotN q b) = rotN q (Pick.sb a b)
  | 0 => rfl
  | q + 1 => by simp only [rotN]; rw [← rotN_sb a b q]; unfold Pick.sb rot; simp only [Spot.mk.injEq, and_true]; omega
theorem rotN_half : ∀ (q : Nat) (A B : Int), ∃ A' B', ∀ u, Pick.Half A B u → Pick.Half A' B' (rotN q u)
  | 0, A, B => ⟨A, B, fun _ h => h⟩
  | q + 1, A, B => by
    obtain ⟨A', B', h⟩ := rotN_half q A B
    exact ⟨-B', A', fun u hu => by have := h u hu; simp only [rotN]; unfold Pick.Half rot at *; simp only [Int.neg_mul_neg]; omega⟩
theorem rotN_cr (a b : Spot) : ∀ q, Pick.cr (rotN q a) (rotN q b) = Pick.cr a b
  | 0 => rfl
  | q + 1 => by simp only [rotN]; rw [← rotN_cr a b q]; unfold Pick.cr rot; grind
theorem rotTo_spread {xs : List Spot} (h : ∀ x ∈ xs, okSpot x = true) : ∀ q, ∃ c : Spot, ∀ x ∈ rotTo q xs, (c.X ≤ x.X ∧ x.X ≤ c.X + 10000) ∧ c.Y ≤ x.Y ∧ x.Y ≤ c.Y + 10000
  | 0 => ⟨⟨0, 0⟩, fun x hx => by have := okSpot_iff.1 (h x hx); simp only; omega⟩
  | q + 1 => by
    obtain ⟨c, hc⟩ := rotTo_spread h q
    refine ⟨⟨-c.Y - 10000, c.X⟩, fun x hx => ?_⟩
    simp only [rotTo, List.mem_map] at hx
    obtain ⟨y, hy, rfl⟩ := hx
    have := hc y hy
    simp only [rot]; omega
theorem turn_ok {xs : List Spot} (h : okOutline xs = true) (q : Nat) : okOutline (lay (rotTo q xs)) = true := by
  obtain ⟨⟨⟨h3, h24⟩, hok⟩, hs⟩ := okOutline_iff.1 h
  have h0 : 0 < xs.length := by omega
  have hr := ring_ok h
  obtain ⟨c, hc⟩ := rotTo_spread hok q
  have hT : ∀ i k, Pick.sb (nth (rotTo q xs) i) (nth (rotTo q xs) k) = rotN q (Pick.sb (nth xs i) (nth xs k)) := fun i k => by
    rw [nth_rotTo h0, nth_rotTo h0, rotN_sb]
  refine lay_ok (by rw [rotTo_length]; exact h3) (by rw [rotTo_length]; exact h24) ?_ ?_ hc
  · rw [rotTo_length]
    exact hr.map (rotN q) hT (fun i => by rw [nth_rotTo h0, nth_rotTo h0, hr.per]) (rotN_half q)
  · exact Pick.map_cr (rotN q) 1 (Or.inl rfl) hT (fun a b => by rw [rotN_cr, Int.one_mul]) (Pick.cr_of hs h3)
theorem rotN_add (p : Spot) (a : Nat) : ∀ b, rotN b (rotN a p) = rotN (a + b) p
  | 0 => rfl
  | b + 1 => by rw [← Nat.add_assoc]; simp only [rotN]; rw [rotN_add p a b]
theorem rotN_four (p : Spot) : rotN 4 p = p := by simp [rotN, rot]
/-- Turned back: the same up to a shift. -/
theorem turn_back {xs : List Spot} (h0 : 0 < xs.length) (q : Nat) (hq : q ≤ 3) (i : Nat) :
    Pick.sb (nth (lay (rotTo ((4 - q) % 4) (lay (rotTo q xs)))) i) (nth (lay (rotTo ((4 - q) % 4) (lay (rotTo q xs)))) 0) = Pick.sb (nth xs i) (nth xs 0) := by
  have l1 : (rotTo q xs).length = xs.length := rotTo_length xs q
  have l2 : (lay (rotTo q xs)).length = xs.length := by rw [lay_length, l1]
  have l3 : (rotTo ((4 - q) % 4) (lay (rotTo q xs))).length = xs.length := by rw [rotTo_length, l2]
  have s : ∀ (ys : List Spot), 0 < ys.length → ∀ i k, Pick.sb (nth (lay ys) i) (nth (lay ys) k) = Pick.sb (nth ys i) (nth ys k) := fun ys h i k => by
    rw [nth_lay h, nth_lay h]; unfold Pick.sb; simp only [Spot.mk.injEq]; omega
  rw [s _ (by omega), nth_rotTo (by omega), nth_rotTo (by omega), rotN_sb, s _ (by omega), nth_rotTo h0, nth_rotTo h0, rotN_sb, rotN_add]
  have : q = 0 ∨ q = 1 ∨ q = 2 ∨ q = 3 := by omega
  rcases this with rfl | rfl | rfl | rfl
  · rfl
  · exact rotN_four _
  · exact rotN_four _
  · exact rotN_four _
/-- How great an area is. -/
theorem area_in {xs : List Spot} (h : okOutline xs = true) : 1 ≤ size (twice xs) ∧ size (twice xs) ≤ 2 * (((hiTo xs xs.length).X - (loTo xs xs.length).X) * ((hiTo xs xs.length).Y - (loTo xs xs.length).Y)) := by
  obtain ⟨⟨⟨h3, _⟩, hok⟩, _⟩ := okOutline_iff.1 h
  have h0 : 0 < xs.length := by omega
  have hr := ring_ok h
  have hb : ∀ i, (loTo xs xs.length).X ≤ (nth xs i).X ∧ (nth xs i).X ≤ (hiTo xs xs.length).X ∧ (loTo xs xs.length).Y ≤ (nth xs i).Y ∧ (nth xs i).Y ≤ (hiTo xs xs.length).Y := fun i => by
    have e := Pick.nth_modr xs i 0
    simp only [Nat.add_zero] at e
    rw [← e]
    have hi := Nat.mod_lt i h0
    have l1 := loTo_le xs xs.length _ hi
    have l2 := hiTo_le xs xs.length _ hi
    omega
  obtain ⟨nx, hnx⟩ : ∃ nx : Nat, (hiTo xs xs.length).X = (loTo xs xs.length).X + nx := ⟨((hiTo xs xs.length).X - (loTo xs xs.length).X).toNat, by have := hb 0; omega⟩
  obtain ⟨ny, hny⟩ : ∃ ny : Nat, (hiTo xs xs.length).Y = (loTo xs xs.length).Y + ny := ⟨((hiTo xs xs.length).Y - (loTo xs xs.length).Y).toNat, by have := hb 0; omega⟩
  have a1 := Pick.area_box hr (X0 := (loTo xs xs.length).X) (Y0 := (loTo xs xs.length).Y) (nx := nx) (ny := ny) (fun i => by have := hb i; omega)
  have a2 := Pick.area_pos hr (X0 := (loTo xs xs.length).X) (Y0 := (loTo xs xs.length).Y) (nx := nx + 1) (ny := ny + 1) (fun i => by
    have := hb i
    exact ⟨⟨by omega, by rw [Int.natCast_add]; omega⟩, by omega, by rw [Int.natCast_add]; omega⟩)
  rw [area2_twice] at a1 a2
  rw [hnx, hny, show (loTo xs xs.length).X + nx - (loTo xs xs.length).X = nx by omega, show (loTo xs xs.length).Y + ny - (loTo xs xs.length).Y = ny by omega]
  unfold size
  rcases Pick.turns_one hr with q | q <;> rw [q] at a1 a2 <;> omega
end Go.Proofs.YtledlkggggpdpaaGreatDoor
