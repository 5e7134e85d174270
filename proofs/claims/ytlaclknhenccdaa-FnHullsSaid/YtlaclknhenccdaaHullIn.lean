/- The hull of an outline: an outline, its own hull, and round all that is in the outline. -/
import Derived.Test.YtlaclknhenccdaaHullGeo
import Derived.Test.YtlaclknhenccdaaPlaceMath
namespace Go.Proofs.Ytlaclknhenccdaa
open Go.RowKit

theorem distinct_length : ∀ (hs xs : List Spot), hs.Pairwise (· ≠ ·) → (∀ x ∈ hs, x ∈ xs) → hs.length ≤ xs.length
  | [], _, _, _ => Nat.zero_le _
  | x :: hs, xs, hp, hm => by
    have hx := hm x (by simp)
    have hp' := List.pairwise_cons.1 hp
    have ih := distinct_length hs (xs.erase x) hp'.2 (fun y hy => by
      have hne : y ≠ x := fun e => hp'.1 y hy e.symm
      exact (List.mem_erase_of_ne hne).2 (hm y (by simp [hy])))
    rw [List.length_erase_of_mem hx] at ih
    have := List.length_pos_of_mem hx
    simp only [List.length_cons]; omega
theorem Ways.length_le {xs hs : List Spot} (h : Ways xs hs.length (nth hs)) : hs.length ≤ xs.length := by
  refine distinct_length hs xs ?_ ?_
  · rw [List.pairwise_iff_getElem]
    intro i j hi hj hij
    have := h.inj (i := i) (k := j) hij (by omega)
    rwa [nth_get hi, nth_get hj] at this
  · intro x hx
    obtain ⟨i, hi, rfl⟩ := List.mem_iff_getElem.1 hx
    have := h.mem i
    rwa [nth_get hi] at this
theorem hull_ways {xs : List Spot} (h : okOutline xs = true) : Ways xs (hullL xs).length (nth (hullL xs)) ∧ nth (hullL xs) 0 = firstTo xs xs.length := by
  obtain ⟨C, R, e⟩ := round_of h
  rw [← e]
  exact ways_of R
/-- The hull of an outline is an outline. -/
theorem hull_ok {xs : List Spot} (h : okOutline xs = true) : okOutline (hullL xs) = true ∧ (hullL xs).length ≤ xs.length := by
  obtain ⟨⟨⟨h3, h24⟩, hok⟩, _⟩ := okOutline_iff.1 h
  obtain ⟨W, _⟩ := hull_ways h
  have ht := ok_three h
  have hr := W.ring ht
  have hl := W.length_le
  refine ⟨okOutline_iff.2 ⟨⟨⟨hr.three, by omega⟩, fun x hx => hok x (hullL_mem x hx)⟩, Pick.simple_of hr fun i => ?_⟩, hl⟩
  have l := W.left ht i
  have e : Pick.cr (Pick.edge (nth (hullL xs)) i) (Pick.edge (nth (hullL xs)) (i + 1)) = crs (nth (hullL xs) i) (nth (hullL xs) (i + 1)) (nth (hullL xs) (i + 2)) := by unfold Pick.cr Pick.edge Pick.sb crs; grind
  omega
theorem ways_one {xs hs gs : List Spot} (h : Ways xs hs.length (nth hs)) (g : Ways xs gs.length (nth gs)) (e : nth hs 0 = nth gs 0) : hs = gs := by
  have all : ∀ i, nth hs i = nth gs i := fun i => by
    induction i with
    | zero => exact e
    | succ i ih =>
      have w1 := h.way i
      have w2 := g.way i
      rw [← ih] at w2
      exact way_one w1 w2 (h.mem _) (g.mem _)
  have hl : hs.length = gs.length := by
    rcases Nat.lt_trichotomy hs.length gs.length with c | c | c
    · exfalso
      have := h.per 0
      rw [Nat.zero_add, all, all] at this
      exact g.apart hs.length h.pos c this
    · exact c
    · exfalso
      have := g.per 0
      rw [Nat.zero_add, ← all, ← all] at this
      exact h.apart gs.length g.pos c this
  exact list_nth hl fun i _ => all i
/-- A hull is its own hull. -/
theorem hull_again {xs : List Spot} (h : okOutline xs = true) : hullL (hullL xs) = hullL xs := by
  obtain ⟨W, f⟩ := hull_ways h
  obtain ⟨oh, _⟩ := hull_ok h
  obtain ⟨W2, f2⟩ := hull_ways oh
  have hok := (okOutline_iff.1 h).1.2
  have h3 := (okOutline_iff.1 h).1.1.1
  have hokh := (okOutline_iff.1 oh).1.2
  have hsub : ∀ p, p ∈ hullL xs → p ∈ xs := fun p hp => hullL_mem p hp
  have hmem : ∀ i, nth (hullL xs) i ∈ hullL xs := fun i => by
    have e := Pick.nth_modr (hullL xs) i 0
    simp only [Nat.add_zero] at e
    rw [← e]; exact nth_mem (Nat.mod_lt _ W.pos)
  have W1 : Ways (hullL xs) (hullL xs).length (nth (hullL xs)) := ⟨W.pos, W.per, fun i => way_mem hsub (W.way i), hmem, W.apart⟩
  have q1 := firstTo_is (show 0 < xs.length by omega) (nth_ok hok) xs.length (Nat.le_refl _)
  have q2 := firstTo_is W.pos (nth_ok hokh) (hullL xs).length (Nat.le_refl _)
  refine (ways_one W1 W2 ?_).symm
  rw [f, f2]
  refine key_inj q1.2.1 q2.2.1 ?_
  have k1 : key (firstTo xs xs.length) ≤ key (firstTo (hullL xs) (hullL xs).length) := by
    obtain ⟨j, hj, e⟩ := List.mem_iff_getElem.1 (hsub _ q2.1)
    have := q1.2.2 j hj
    rwa [nth_get hj, e] at this
  have k2 : key (firstTo (hullL xs) (hullL xs).length) ≤ key (firstTo xs xs.length) := by
    have := q2.2.2 0 W.pos
    rwa [f] at this
  omega
theorem exists_max (f : Nat → Int) : ∀ n, 0 < n → ∃ k, k < n ∧ ∀ j, j < n → f j ≤ f k
  | 0, h => absurd h (Nat.lt_irrefl _)
  | 1, _ => ⟨0, by omega, fun j hj => by obtain rfl : j = 0 := by omega
                                         exact Int.le_refl _⟩
  | n + 2, _ => by
    obtain ⟨k, hk, h⟩ := exists_max f (n + 1) (by omega)
    by_cases c : f (n + 1) ≤ f k
    · refine ⟨k, by omega, fun j hj => ?_⟩
      by_cases e : j = n + 1
      · rw [e]; exact c
      · exact h j (by omega)
    · refine ⟨n + 1, by omega, fun j hj => ?_⟩
      by_cases e : j = n + 1
      · rw [e]; exact Int.le_refl _
      · have := h j (by omega); omega
/-- A spot to the left of all sides of a hull is not outside of it. -/
theorem hull_holds {xs : List Spot} (h : okOutline xs = true) {p : Spot} (hp : okSpot p = true) (hl : ∀ i, 0 ≤ crs (nth (hullL xs) i) (nth (hullL xs) (i + 1)) p) : placeOf (hullL xs) p ≠ (outB, 0) := by
  intro hout
  obtain ⟨oh, _⟩ := hull_ok h
  obtain ⟨W, _⟩ := hull_ways h
  have ht := ok_three h
  have hr := W.ring ht
  have h3 := hr.three
  have left := W.left ht
  have hplace := place_is oh hp
  generalize hullL xs = H at *
  -- outside: on no side, and the way does not go round
  have hcase : Pick.onCount H.length (nth H) p = 0 ∧ Pick.wind H.length (nth H) p = 0 := by
    rcases hplace with ⟨_, _, e⟩ | ⟨_, _, e⟩ | ⟨e1, _, e2, _⟩
    · rw [e] at hout; exact absurd hout (by decide)
    · rw [e] at hout; exact absurd hout (by decide)
    · exact ⟨e1, e2⟩
  obtain ⟨hno, hw⟩ := hcase
  have hpos : ∀ i, 0 < crs (nth H i) (nth H (i + 1)) p := by
    intro i
    rcases Int.lt_or_le 0 (crs (nth H i) (nth H (i + 1)) p) with c | c
    · exact c
    · exfalso
      have z : crs (nth H i) (nth H (i + 1)) p = 0 := by have := hl i; omega
      have hab := (W.way i).1
      have hD := Pick.dot_pos hab
      have lx := Pick.line_X (u := Pick.sb (nth H (i + 1)) (nth H i)) (w := Pick.sb p (nth H i)) z
      have ly := Pick.line_Y (u := Pick.sb (nth H (i + 1)) (nth H i)) (w := Pick.sb p (nth H i)) z
      -- the side ahead, the side behind
      have g1 := hl (i + (H.length - 1))
      have e1 : nth H (i + (H.length - 1) + 1) = nth H i := by rw [show i + (H.length - 1) + 1 = i + H.length by omega]; exact hr.per i
      have l1 := left (i + (H.length - 1))
      have e2 : nth H (i + (H.length - 1) + 2) = nth H (i + 1) := by rw [show i + (H.length - 1) + 2 = i + 1 + H.length by omega]; exact hr.per (i + 1)
      rw [e1] at g1 l1
      rw [e2] at l1
      have g2 := hl (i + 1)
      have l2 := left i
      rw [show i + 1 + 1 = i + 2 by omega] at g2
      generalize hD0 : Pick.dot (Pick.sb (nth H (i + 1)) (nth H i)) (Pick.sb (nth H (i + 1)) (nth H i)) = D at *
      generalize ht0 : Pick.dot (Pick.sb (nth H (i + 1)) (nth H i)) (Pick.sb p (nth H i)) = t at *
      have lx' := lx
      have ly' := ly
      simp only [Pick.sb] at lx' ly'
      have k1 : D * crs (nth H (i + (H.length - 1))) (nth H i) p = t * crs (nth H (i + (H.length - 1))) (nth H i) (nth H (i + 1)) := by
        generalize nth H (i + (H.length - 1)) = o
        have : D * crs o (nth H i) p = ((nth H i).X - o.X) * (D * (p.Y - (nth H i).Y)) - ((nth H i).Y - o.Y) * (D * (p.X - (nth H i).X)) := by unfold crs; grind
        rw [this, lx', ly']; unfold crs; grind
      have k2 : D * crs (nth H (i + 1)) (nth H (i + 2)) p = (D - t) * crs (nth H i) (nth H (i + 1)) (nth H (i + 2)) := by
        generalize nth H (i + 2) = q
        have : D * crs (nth H (i + 1)) q p = (q.X - (nth H (i + 1)).X) * (D * (p.Y - (nth H i).Y) - D * ((nth H (i + 1)).Y - (nth H i).Y)) - (q.Y - (nth H (i + 1)).Y) * (D * (p.X - (nth H i).X) - D * ((nth H (i + 1)).X - (nth H i).X)) := by unfold crs; grind
        rw [this, lx', ly']; unfold crs; grind
      have t0 : 0 ≤ t := by
        rcases Int.lt_or_le t 0 with c' | c'
        · have a1 := Int.mul_nonneg (Int.le_of_lt hD) g1
          have a2 := Int.mul_pos (show 0 < -t by omega) l1
          rw [Int.neg_mul] at a2; omega
        · exact c'
      have t1 : t ≤ D := by
        rcases Int.lt_or_le D t with c' | c'
        · have a1 := Int.mul_nonneg (Int.le_of_lt hD) g2
          have a2 := Int.mul_pos (show 0 < t - D by omega) l2
          have a3 : (t - D) * crs (nth H i) (nth H (i + 1)) (nth H (i + 2)) = -((D - t) * crs (nth H i) (nth H (i + 1)) (nth H (i + 2))) := by grind
          omega
        · exact c'
      have bx := Pick.line_in hD lx t0 t1
      have by' := Pick.line_in hD ly t0 t1
      simp only [Pick.sb] at bx by'
      obtain ⟨s, hs, e⟩ := hr.on_side i (p := p) (by rw [← crs_at]; exact z) (by omega) (by omega)
      have hmod := hr.mod i
      have hm1 := hr.mod1 i
      have he : edgeAt H p (i % H.length) = true := by
        unfold edgeAt onS betw
        rw [← hm1, ← hmod, z]
        have i1 : inr p.X (min (nth H i).X (nth H (i + 1)).X) (max (nth H i).X (nth H (i + 1)).X) = true := inr_true.2 (by omega)
        have i2 : inr p.Y (min (nth H i).Y (nth H (i + 1)).Y) (max (nth H i).Y (nth H (i + 1)).Y) = true := inr_true.2 (by omega)
        rw [i1, i2]; rfl
      have := (edge_on oh p).1 ⟨i % H.length, Nat.mod_lt _ (by omega), he⟩
      omega
  -- all turns are to the left, none is taken: all corners on one side of the row
  have hge : ∀ i, 0 ≤ Pick.windAt (nth H) p i := fun i => by
    unfold Pick.windAt Pick.turn
    have := hpos i
    rw [crs_at] at this
    split
    · decide
    · rw [if_neg (fun k => by have := k.2.2; omega)]; decide
  have hz : ∀ i, Pick.windAt (nth H) p i = 0 := by
    have key : ∀ k, (∀ i, i < k → Pick.windAt (nth H) p i = 0) ∨ 0 < sumUp (Pick.windAt (nth H) p) k := fun k => by
      induction k with
      | zero => left; intro i hi; omega
      | succ k ih =>
        rcases ih with ih | ih
        · have := hge k
          by_cases c : Pick.windAt (nth H) p k = 0
          · left; intro i hi
            by_cases e : i = k
            · rw [e]; exact c
            · exact ih i (by omega)
          · right
            simp only [sumUp]
            rw [Pick.sumUp_zero ih]; omega
        · right
          have := hge k
          simp only [sumUp]; omega
    have hlt : ∀ i, i < H.length → Pick.windAt (nth H) p i = 0 := by
      rcases key H.length with k | k
      · exact k
      · have : sumUp (Pick.windAt (nth H) p) H.length = 0 := hw
        omega
    intro i
    have := hlt (i % H.length) (Nat.mod_lt _ (by omega))
    unfold Pick.windAt at this ⊢
    rw [← hr.mod i, ← hr.mod1 i] at this
    exact this
  have hup : ∀ i, (nth H i).Y ≤ p.Y → (nth H (i + 1)).Y ≤ p.Y := fun i hi => by
    rcases Int.lt_or_le p.Y (nth H (i + 1)).Y with c | c
    · exfalso
      have e := hz i
      have q := hpos i
      rw [crs_at] at q
      unfold Pick.windAt Pick.turn at e
      rw [if_pos ⟨by simp only [Pick.sb]; omega, by simp only [Pick.sb]; omega, q⟩] at e
      omega
    · exact c
  -- three vectors
  have three : ∀ a b c : Spot, Pick.cr a b * c.Y + Pick.cr b c * a.Y + Pick.cr c a * b.Y = 0 := fun a b c => by unfold Pick.cr; grind
  have corner : ∀ j, 0 < Pick.cr (Pick.sb (nth H (j + 1)) (nth H j)) (Pick.sb (nth H (j + 2)) (nth H (j + 1))) ∧ 0 < Pick.cr (Pick.sb (nth H (j + 2)) (nth H (j + 1))) (Pick.sb p (nth H (j + 1))) ∧ Pick.cr (Pick.sb p (nth H (j + 1))) (Pick.sb (nth H (j + 1)) (nth H j)) < 0 := fun j => by
    have q1 := left j
    have q2 := hpos (j + 1)
    have q3 := hpos j
    rw [show j + 1 + 1 = j + 2 by omega] at q2
    generalize nth H j = a at *
    generalize nth H (j + 1) = b at *
    generalize nth H (j + 2) = c at *
    refine ⟨?_, ?_, ?_⟩
    · have : Pick.cr (Pick.sb b a) (Pick.sb c b) = crs a b c := by unfold Pick.cr Pick.sb crs; grind
      omega
    · have : Pick.cr (Pick.sb c b) (Pick.sb p b) = crs b c p := by unfold Pick.cr Pick.sb crs; grind
      omega
    · have : Pick.cr (Pick.sb p b) (Pick.sb b a) = -crs a b p := by unfold Pick.cr Pick.sb crs; grind
      omega
  have hmodY : ∀ i, (nth H i).Y = (nth H (i % H.length)).Y := fun i => by rw [← hr.mod i]
  by_cases hsome : ∃ i, (nth H i).Y ≤ p.Y
  · -- all at most p: the highest corner
    obtain ⟨i0, hi0⟩ := hsome
    have hall : ∀ d, (nth H (i0 + d)).Y ≤ p.Y := fun d => by
      induction d with
      | zero => exact hi0
      | succ d ih => exact hup _ ih
    obtain ⟨k, hk, hmax⟩ := exists_max (fun j => (nth H j).Y) H.length (by omega)
    have hmax' : ∀ j, (nth H j).Y ≤ (nth H k).Y := fun j => by rw [hmodY j]; exact hmax _ (Nat.mod_lt _ (by omega))
    -- the corner k as j + 1
    have ek : nth H (k + H.length - 1 + 1) = nth H k := by rw [show k + H.length - 1 + 1 = k + H.length by omega]; exact hr.per k
    obtain ⟨c1, c2, c3⟩ := corner (k + H.length - 1)
    have th := three (Pick.sb (nth H (k + H.length - 1 + 1)) (nth H (k + H.length - 1))) (Pick.sb (nth H (k + H.length - 1 + 2)) (nth H (k + H.length - 1 + 1))) (Pick.sb p (nth H (k + H.length - 1 + 1)))
    have m1 := hmax' (k + H.length - 1)
    have m2 := hmax' (k + H.length - 1 + 2)
    have m3 : (nth H k).Y ≤ p.Y := by
      have := hall (H.length * i0 + k - i0)
      have hle : i0 ≤ H.length * i0 := Nat.le_mul_of_pos_left i0 (by omega)
      rw [show i0 + (H.length * i0 + k - i0) = k + H.length * i0 by omega, hmodY, Nat.add_mul_mod_self_left, Nat.mod_eq_of_lt hk] at this
      exact this
    rw [← ek] at m1 m2 m3
    generalize nth H (k + H.length - 1) = a at *
    generalize nth H (k + H.length - 1 + 1) = b at *
    generalize nth H (k + H.length - 1 + 2) = c at *
    have y1 : 0 ≤ (Pick.sb b a).Y := by simp only [Pick.sb]; omega
    have y2 : (Pick.sb c b).Y ≤ 0 := by simp only [Pick.sb]; omega
    have y3 : 0 ≤ (Pick.sb p b).Y := by simp only [Pick.sb]; omega
    have p1 := Int.mul_nonneg (Int.le_of_lt c1) y3
    have p2 := Int.mul_nonneg (Int.le_of_lt c2) y1
    have p3 := Int.mul_nonneg (show 0 ≤ -Pick.cr (Pick.sb p b) (Pick.sb b a) by omega) (show 0 ≤ -(Pick.sb c b).Y by omega)
    rw [Int.neg_mul_neg] at p3
    have z2 : (Pick.sb b a).Y = 0 := by
      have : Pick.cr (Pick.sb c b) (Pick.sb p b) * (Pick.sb b a).Y = 0 := by omega
      rcases Int.mul_eq_zero.1 this with q | q <;> omega
    have z3 : (Pick.sb c b).Y = 0 := by
      have : Pick.cr (Pick.sb p b) (Pick.sb b a) * (Pick.sb c b).Y = 0 := by omega
      rcases Int.mul_eq_zero.1 this with q | q <;> omega
    have : Pick.cr (Pick.sb b a) (Pick.sb c b) = 0 := by unfold Pick.cr; rw [z2, z3]; simp
    omega
  · -- all above p: the lowest corner
    have hall : ∀ j, p.Y < (nth H j).Y := fun j => by
      rcases Int.lt_or_le p.Y (nth H j).Y with c | c
      · exact c
      · exact absurd ⟨j, c⟩ hsome
    obtain ⟨k, hk, hmax⟩ := exists_max (fun j => -(nth H j).Y) H.length (by omega)
    have hmax' : ∀ j, (nth H k).Y ≤ (nth H j).Y := fun j => by rw [hmodY j]; have := hmax (j % H.length) (Nat.mod_lt _ (by omega)); omega
    have ek : nth H (k + H.length - 1 + 1) = nth H k := by rw [show k + H.length - 1 + 1 = k + H.length by omega]; exact hr.per k
    obtain ⟨c1, c2, c3⟩ := corner (k + H.length - 1)
    have th := three (Pick.sb (nth H (k + H.length - 1 + 1)) (nth H (k + H.length - 1))) (Pick.sb (nth H (k + H.length - 1 + 2)) (nth H (k + H.length - 1 + 1))) (Pick.sb p (nth H (k + H.length - 1 + 1)))
    have m1 := hmax' (k + H.length - 1)
    have m2 := hmax' (k + H.length - 1 + 2)
    have m3 := hall k
    rw [← ek] at m1 m2 m3
    generalize nth H (k + H.length - 1) = a at *
    generalize nth H (k + H.length - 1 + 1) = b at *
    generalize nth H (k + H.length - 1 + 2) = c at *
    have y1 : 0 ≤ -(Pick.sb b a).Y := by simp only [Pick.sb]; omega
    have y2 : 0 ≤ (Pick.sb c b).Y := by simp only [Pick.sb]; omega
    have y3 : 0 < -(Pick.sb p b).Y := by simp only [Pick.sb]; omega
    have p1 := Int.mul_pos c1 y3
    have p2 := Int.mul_nonneg (Int.le_of_lt c2) y1
    have p3 := Int.mul_nonneg (show 0 ≤ -Pick.cr (Pick.sb p b) (Pick.sb b a) by omega) y2
    rw [Int.mul_neg] at p1 p2
    rw [Int.neg_mul] at p3
    omega
/-- What is in the outline is in the hull. -/
theorem hull_corner {xs : List Spot} (h : okOutline xs = true) {p : Spot} (hm : p ∈ xs) : placeOf (hullL xs) p ≠ (outB, 0) := by
  obtain ⟨W, _⟩ := hull_ways h
  exact hull_holds h ((okOutline_iff.1 h).1.2 p hm) fun i => ((W.way i).2 p hm).1
theorem hull_inside {xs : List Spot} (h : okOutline xs = true) {p : Spot} (hp : okSpot p = true) (hin : placeOf xs p ≠ (outB, 0)) : placeOf (hullL xs) p ≠ (outB, 0) := by
  obtain ⟨W, _⟩ := hull_ways h
  refine hull_holds h hp fun i => ?_
  rcases Int.lt_or_le (crs (nth (hullL xs) i) (nth (hullL xs) (i + 1)) p) 0 with c | c
  · exfalso
    apply hin
    have w := W.way i
    generalize nth (hullL xs) i = a at *
    generalize nth (hullL xs) (i + 1) = b at *
    refine place_far h hp (A := -(b.Y - a.Y)) (B := b.X - a.X) fun x hx => ?_
    have := (w.2 x hx).1
    unfold Pick.Half Pick.sb
    have e : -(b.Y - a.Y) * (x.X - p.X) + (b.X - a.X) * (x.Y - p.Y) = crs a b x - crs a b p := by unfold crs; grind
    rw [e]; omega
  · exact c
theorem place_code {xs : List Spot} (h : okOutline xs = true) {p : Spot} (hp : okSpot p = true) : (placeOf xs p).2 = 0 := by
  rcases place_is h hp with ⟨_, _, e⟩ | ⟨_, _, e⟩ | ⟨_, _, _, e⟩ <;> rw [e]
end Go.Proofs.Ytlaclknhenccdaa
