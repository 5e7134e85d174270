/- Chapter 7, hulls: the chain of sorted spots is the way of least turns; plain law, no program in sight. -/
import Derived.Test.YtlaclknhenccdaaL07v
namespace Go.Proofs.Ytlaclknhenccdaa
open Go.RowKit

/-- A spot's place in the order by X, then by Y. -/
def key (p : Spot) : Int := 20001 * p.X + p.Y
theorem key_inj {p q : Spot} (hp : okSpot p = true) (hq : okSpot q = true) (h : key p = key q) : p = q := by
  have hp := okSpot_iff.1 hp
  have hq := okSpot_iff.1 hq
  unfold key at h
  have h1 : p.X = q.X := by omega
  have h2 : p.Y = q.Y := by omega
  cases p; cases q; simp at h1 h2; simp [h1, h2]
theorem key_lt {p q : Spot} (hp : okSpot p = true) (hq : okSpot q = true) : key p < key q ↔ p.X < q.X ∨ p.X = q.X ∧ p.Y < q.Y := by
  have hp := okSpot_iff.1 hp
  have hq := okSpot_iff.1 hq
  unfold key; omega
theorem pos_of_mul {a b : Int} (ha : 0 < a) (h : 0 ≤ a * b) : 0 ≤ b := by
  by_cases hb : 0 ≤ b
  · exact hb
  · have := Int.mul_neg_of_pos_of_neg ha (by omega : b < 0); omega
theorem pos_of_mul' {a b : Int} (ha : 0 < a) (h : 0 < a * b) : 0 < b := by
  by_cases hb : 0 < b
  · exact hb
  · have := Int.mul_nonneg (Int.le_of_lt ha) (by omega : 0 ≤ -b)
    rw [Int.mul_neg] at this; omega
theorem crs_same (a p : Spot) : crs a a p = 0 := by unfold crs; simp
theorem crs_end (a b : Spot) : crs a b b = 0 := by unfold crs; grind
theorem crs_start (a b : Spot) : crs a b a = 0 := by unfold crs; simp
theorem crs_flip (a b p : Spot) : crs a p b = -crs a b p := by unfold crs; grind
theorem crs_turn (a b p : Spot) : crs b p a = crs a b p := by unfold crs; grind

/-- A direction: each of the two ways along the order. -/
def dir (s : Int) (p : Spot) : Int := s * key p
theorem fan (s : Int) (o a b c : Spot) : (dir s b - dir s o) * crs o a c = (dir s a - dir s o) * crs o b c + (dir s c - dir s o) * crs o a b := by
  unfold dir key crs; grind
theorem fan2 (s : Int) (u v w q : Spot) : (dir s w - dir s v) * crs u v q = (dir s v - dir s u) * crs v w q + (dir s q - dir s v) * crs u v w := by
  unfold dir key crs; grind
theorem fan3 (s : Int) (a b q p : Spot) : (dir s b - dir s a) * crs b q p = (dir s b - dir s p) * crs a b q + (dir s q - dir s b) * crs a b p := by
  unfold dir key crs; grind
theorem lineX (s : Int) (a b p : Spot) : (dir s b - dir s a) * (p.X - a.X) = (dir s p - dir s a) * (b.X - a.X) - s * crs a b p := by
  unfold dir key crs; grind
theorem lineY (s : Int) (a b p : Spot) : (dir s b - dir s a) * (p.Y - a.Y) = (dir s p - dir s a) * (b.Y - a.Y) + s * (20001 * crs a b p) := by
  unfold dir key crs; grind
theorem mid_of {A B x y : Int} (h0 : 0 < A) (h1 : 0 ≤ B) (h2 : B ≤ A) (h : A * x = B * y) : min 0 y ≤ x ∧ x ≤ max 0 y := by
  rcases Int.le_total 0 y with hy | hy
  · have h3 : 0 ≤ A * x := by rw [h]; exact Int.mul_nonneg h1 hy
    have h4 := pos_of_mul h0 h3
    have h5 : B * y ≤ A * y := Int.mul_le_mul_of_nonneg_right h2 hy
    have h6 : 0 ≤ A * (y - x) := by rw [Int.mul_sub]; omega
    have h7 := pos_of_mul h0 h6
    omega
  · have h3 : 0 ≤ A * (-x) := by
      rw [Int.mul_neg, h, ← Int.mul_neg]; exact Int.mul_nonneg h1 (by omega)
    have h4 := pos_of_mul h0 h3
    have h5 : B * (-y) ≤ A * (-y) := Int.mul_le_mul_of_nonneg_right h2 (by omega)
    have h6 : 0 ≤ A * (x - y) := by rw [Int.mul_sub, h]; rw [Int.mul_neg, Int.mul_neg] at h5; omega
    have h7 := pos_of_mul h0 h6
    omega
/-- On a line, between by the order is between by the places. -/
theorem betw_of {s : Int} {a b p : Spot} (h : crs a b p = 0) (hab : dir s a < dir s b) (h1 : dir s a ≤ dir s p) (h2 : dir s p ≤ dir s b) : betw a b p = true := by
  have hx := lineX s a b p
  have hy := lineY s a b p
  rw [h] at hx hy
  have ex := mid_of (A := dir s b - dir s a) (B := dir s p - dir s a) (x := p.X - a.X) (y := b.X - a.X) (by omega) (by omega) (by omega) (by simpa using hx)
  have ey := mid_of (A := dir s b - dir s a) (B := dir s p - dir s a) (x := p.Y - a.Y) (y := b.Y - a.Y) (by omega) (by omega) (by omega) (by simpa using hy)
  simp only [betw, inr, Bool.and_eq_true, decide_eq_true_eq]
  omega
theorem betw_both {a b p : Spot} (h1 : betw a b p = true) (h2 : betw a p b = true) : p = b := by
  simp only [betw, inr, Bool.and_eq_true, decide_eq_true_eq] at h1 h2
  have e1 : p.X = b.X := by omega
  have e2 : p.Y = b.Y := by omega
  cases p; cases b; simp at e1 e2; simp [e1, e2]

/-- The spots of a chain, the last one first, without those that a new spot hides. -/
def pop : List Spot → Spot → List Spot
  | b :: a :: r, q => if crs a b q ≤ 0 then pop (a :: r) q else b :: a :: r
  | l, _ => l
def push (st : List Spot) (q : Spot) : List Spot := q :: pop st q
def chainR (xs : List Spot) : List Spot := xs.foldl push []
def chain (xs : List Spot) : List Spot := (chainR xs).tail.reverse
/-- No spot lies to the right of a side; those on its line lie on the side. -/
def Side (s : Int) (D : List Spot) (a b : Spot) : Prop := dir s a < dir s b ∧ ∀ p ∈ D, 0 ≤ crs a b p ∧ (crs a b p = 0 → dir s a ≤ dir s p ∧ dir s p ≤ dir s b)
def Sides (s : Int) (D : List Spot) : List Spot → Prop
  | b :: a :: r => Side s D a b ∧ Sides s D (a :: r)
  | _ => True
theorem Sides.tail {s : Int} {D : List Spot} : ∀ {b : Spot} {r : List Spot}, Sides s D (b :: r) → Sides s D r
  | _, [], _ => trivial
  | _, _ :: _, h => h.2
/-- Behind b, no spot is to the right of the way to q. -/
def Clear (s : Int) (D : List Spot) (b q : Spot) : Prop := ∀ p ∈ D, dir s b < dir s p → 0 ≤ crs b q p
theorem pop_cases {s : Int} {D : List Spot} {q : Spot} (hq : ∀ p ∈ D, dir s p < dir s q) : ∀ (st : List Spot), (∀ p ∈ st, p ∈ D) → Sides s D st → (∀ b ∈ st.head?, Clear s D b q) → st ≠ [] →
    ∃ b r, pop st q = b :: r ∧ (∀ p ∈ b :: r, p ∈ D) ∧ (b :: r).getLast? = st.getLast? ∧ Sides s D (b :: r) ∧ Clear s D b q ∧ (∀ a ∈ r.head?, 0 < crs a b q)
  | [], _, _, _, h => absurd rfl h
  | [b], hD, hS, hc, _ => ⟨b, [], rfl, hD, rfl, hS, hc b rfl, by simp⟩
  | b :: a :: r, hD, hS, hc, _ => by
    by_cases h : crs a b q ≤ 0
    · have ih := pop_cases hq (a :: r) (fun p hp => hD p (List.mem_cons_of_mem _ hp)) hS.2 (fun a' ha => by
        simp only [List.head?_cons, Option.mem_def, Option.some.injEq] at ha
        subst ha
        intro p hp hlt
        obtain ⟨⟨hab, hside⟩, _⟩ := hS
        have h1 := (hside p hp).1
        have h2 := fan s a q b p
        rw [crs_flip a b q] at h2
        have hqa := hq a (hD a (by simp))
        have h3 : 0 ≤ (dir s q - dir s a) * crs a b p := Int.mul_nonneg (by omega) h1
        have h4 : 0 ≤ (dir s p - dir s a) * (-crs a b q) := Int.mul_nonneg (by omega) (by omega)
        exact pos_of_mul (a := dir s b - dir s a) (by omega) (by omega)) (by simp)
      obtain ⟨b', r', h1, h2, h3, h4⟩ := ih
      refine ⟨b', r', ?_, h2, ?_, h4⟩
      · simp only [pop, if_pos h]; exact h1
      · rw [h3]; simp
    · refine ⟨b, a :: r, ?_, hD, rfl, hS, hc b rfl, ?_⟩
      · simp only [pop, if_neg h]
      · intro a' ha
        simp only [List.head?_cons, Option.mem_def, Option.some.injEq] at ha
        subst ha; omega
/-- A new spot is to the left of all sides that stay. -/
theorem sides_push {s : Int} {D : List Spot} {q : Spot} (hq : ∀ p ∈ D, dir s p < dir s q) : ∀ (b : Spot) (r : List Spot), (∀ p ∈ b :: r, p ∈ D) → Sides s D (b :: r) → (∀ a ∈ r.head?, 0 < crs a b q) → Sides s (D ++ [q]) (b :: r)
  | _, [], _, _, _ => trivial
  | b, a :: r, hD, hS, hc => by
    have h0 : 0 < crs a b q := hc a rfl
    refine ⟨⟨hS.1.1, fun p hp => ?_⟩, sides_push hq a r (fun p hp => hD p (List.mem_cons_of_mem _ hp)) hS.2 fun u hu => ?_⟩
    · rcases List.mem_append.1 hp with hp | hp
      · exact hS.1.2 p hp
      · simp only [List.mem_singleton] at hp
        subst hp
        exact ⟨by omega, fun h => by omega⟩
    · cases r with
      | nil => simp at hu
      | cons v r =>
        simp only [List.head?_cons, Option.mem_def, Option.some.injEq] at hu
        subst hu
        obtain ⟨⟨hab, _⟩, ⟨⟨hua, hside⟩, _⟩⟩ := hS
        have hb := hside b (hD b (by simp))
        have hb' : 0 < crs v a b := by
          rcases Int.lt_or_eq_of_le hb.1 with h | h
          · exact h
          · have := hb.2 h.symm; omega
        have h2 := fan2 s v a b q
        have hqa := hq a (hD a (by simp))
        have h3 : 0 < (dir s a - dir s v) * crs a b q := Int.mul_pos (by omega) h0
        have h4 : 0 < (dir s q - dir s a) * crs v a b := Int.mul_pos (by omega) hb'
        exact pos_of_mul' (a := dir s b - dir s a) (by omega) (by omega)
/-- What holds of the chain of the spots so far. -/
structure Hull (s : Int) (D : List Spot) (st : List Spot) : Prop where
  mem : ∀ p ∈ st, p ∈ D
  sides : Sides s D st
  top : ∀ b ∈ st.head?, ∀ p ∈ D, dir s p ≤ dir s b
  bottom : ∀ b ∈ st.getLast?, ∀ p ∈ D, dir s b ≤ dir s p
  some : D ≠ [] → st ≠ []
theorem hull_push {s : Int} {D st : List Spot} {q : Spot} (hinj : ∀ p ∈ D, ∀ p' ∈ D, dir s p = dir s p' → p = p') (hq : ∀ p ∈ D, dir s p < dir s q) (h : Hull s D st) : Hull s (D ++ [q]) (push st q) ∧ (D ≠ [] → (push st q).getLast? = st.getLast?) ∧ (push st q).head? = some q := by
  by_cases hD : D = []
  · subst hD
    have hst : st = [] := by
      cases st with
      | nil => rfl
      | cons a r => exact absurd (h.mem a (by simp)) (by simp)
    subst hst
    refine ⟨⟨by simp [push, pop], trivial, by simp [push, pop], by simp [push, pop], by simp [push, pop]⟩, by simp, rfl⟩
  · have hne := h.some hD
    obtain ⟨b, r, h1, h2, h3, h4, h5, h6⟩ := pop_cases hq st h.mem h.sides (fun b hb p hp hlt => by have := h.top b hb p hp; omega) hne
    have hpush : push st q = q :: b :: r := by simp [push, h1]
    have hb : b ∈ D := h2 b (by simp)
    rw [hpush]
    refine ⟨⟨?_, ⟨⟨hq b hb, fun p hp => ?_⟩, sides_push hq b r h2 h4 h6⟩, ?_, ?_, by simp⟩, fun _ => by rw [← h3]; simp, rfl⟩
    · intro p hp
      rcases List.mem_cons.1 hp with rfl | hp
      · simp
      · exact List.mem_append_left _ (h2 p hp)
    · rcases List.mem_append.1 hp with hp | hp
      · rcases Int.lt_trichotomy (dir s b) (dir s p) with hlt | heq | hgt
        · exact ⟨h5 p hp hlt, fun _ => ⟨by omega, Int.le_of_lt (hq p hp)⟩⟩
        · obtain rfl := hinj b hb p hp heq
          exact ⟨by rw [crs_start]; omega, fun _ => ⟨by omega, Int.le_of_lt (hq b hb)⟩⟩
        · cases r with
          | nil =>
            have := h.bottom b (by rw [← h3]; rfl) p hp
            omega
          | cons a r =>
            have h0 : 0 < crs a b q := h6 a rfl
            obtain ⟨⟨hab, hside⟩, _⟩ := h4
            have h7 := (hside p hp).1
            have h8 := fan3 s a b q p
            have hqb := hq b hb
            have h9 : 0 < (dir s b - dir s p) * crs a b q := Int.mul_pos (by omega) h0
            have h10 : 0 ≤ (dir s q - dir s b) * crs a b p := Int.mul_nonneg (by omega) h7
            have := pos_of_mul' (a := dir s b - dir s a) (b := crs b q p) (by omega) (by omega)
            exact ⟨by omega, fun h => by omega⟩
      · simp only [List.mem_singleton] at hp
        subst hp
        exact ⟨by rw [crs_end]; omega, fun _ => ⟨Int.le_of_lt (hq b hb), Int.le_refl _⟩⟩
    · intro b' hb' p hp
      simp only [List.head?_cons, Option.mem_def, Option.some.injEq] at hb'
      subst hb'
      rcases List.mem_append.1 hp with hp | hp
      · exact Int.le_of_lt (hq p hp)
      · simp only [List.mem_singleton] at hp; subst hp; exact Int.le_refl _
    · intro b' hb' p hp
      have hb2 : st.getLast? = some b' := by rw [← h3]; simpa using hb'
      have hb3 : b' ∈ st := List.mem_of_getLast? hb2
      rcases List.mem_append.1 hp with hp | hp
      · exact h.bottom b' hb2 p hp
      · simp only [List.mem_singleton] at hp
        rw [hp]
        have := hb3
        exact Int.le_of_lt (hq b' (h.mem b' this))
/-- The chain so far. -/
def chTo (xs : List Spot) (k : Nat) : List Spot := chainR (xs.take k)
theorem chTo_zero (xs : List Spot) : chTo xs 0 = [] := by simp [chTo, chainR]
theorem chTo_succ (xs : List Spot) (k : Nat) (h : k < xs.length) : chTo xs (k + 1) = push (chTo xs k) xs[k] := by
  unfold chTo chainR; rw [List.take_succ_eq_append_getElem h, List.foldl_append]; rfl
theorem chTo_full (xs : List Spot) (k : Nat) (h : xs.length ≤ k) : chTo xs k = chainR xs := by unfold chTo; rw [List.take_of_length_le h]
theorem pop_length : ∀ (st : List Spot) (q : Spot), (pop st q).length ≤ st.length
  | [], _ => by simp [pop]
  | [_], _ => by simp [pop]
  | b :: a :: r, q => by
    simp only [pop]
    split
    · have := pop_length (a :: r) q; simp at *; omega
    · simp
theorem chTo_length (xs : List Spot) : ∀ k, (chTo xs k).length ≤ k
  | 0 => by simp [chTo_zero]
  | k + 1 => by
    have ih := chTo_length xs k
    by_cases h : k < xs.length
    · rw [chTo_succ _ _ h]; unfold push; have := pop_length (chTo xs k) xs[k]; simp; omega
    · rw [chTo_full _ _ (by omega), ← chTo_full xs k (by omega)]; omega
theorem chTo_pos (xs : List Spot) (k : Nat) (h : 0 < k) (hk : k ≤ xs.length) : 0 < (chTo xs k).length := by
  obtain ⟨j, rfl⟩ : ∃ j, k = j + 1 := ⟨k - 1, by omega⟩
  rw [chTo_succ _ _ (by omega)]; simp [push]
/-- Rising along the direction. -/
def Rising (s : Int) (xs : List Spot) : Prop := ∀ i j, (h : i < j) → (hj : j < xs.length) → dir s xs[i] < dir s xs[j]
theorem hull_chTo {s : Int} {xs : List Spot} (hr : Rising s xs) : ∀ k, k ≤ xs.length → Hull s (xs.take k) (chTo xs k) ∧ (∀ (h : 0 < k) (h' : 0 < xs.length), (chTo xs k).getLast? = some xs[0]) ∧ (∀ (h : 0 < k) (h' : k - 1 < xs.length), (chTo xs k).head? = some xs[k - 1])
  | 0, _ => by
    rw [chTo_zero, List.take_zero]
    exact ⟨⟨by simp, trivial, by simp, by simp, by simp⟩, fun h => absurd h (by omega), fun h => absurd h (by omega)⟩
  | k + 1, hk => by
    obtain ⟨ih, ih1, ih2⟩ := hull_chTo hr k (by omega)
    have hin : ∀ p ∈ xs.take k, ∃ i, ∃ (hi : i < xs.length), i < k ∧ p = xs[i] := fun p hp => by
      obtain ⟨i, hi, rfl⟩ := List.mem_iff_getElem.1 hp
      rw [List.length_take] at hi
      exact ⟨i, by omega, by omega, by simp⟩
    rw [chTo_succ _ _ (by omega), List.take_succ_eq_append_getElem (by omega)]
    have H := hull_push (q := xs[k]) (fun p hp p' hp' he => by
      obtain ⟨i, hi, hik, rfl⟩ := hin p hp
      obtain ⟨j, hj, hjk, rfl⟩ := hin p' hp'
      rcases Nat.lt_trichotomy i j with h | h | h
      · have := hr i j h hj; omega
      · subst h; rfl
      · have := hr j i h hi; omega) (fun p hp => by
      obtain ⟨i, hi, hik, rfl⟩ := hin p hp
      exact hr i k hik (by omega)) ih
    refine ⟨H.1, fun _ h' => ?_, fun _ _ => H.2.2⟩
    by_cases h0 : 0 < k
    · rw [H.2.1 (by intro e; have := congrArg List.length e; rw [List.length_take, List.length_nil] at this; omega)]
      exact ih1 h0 h'
    · obtain rfl : k = 0 := by omega
      rw [chTo_zero]; simp [push, pop]

/-- From a the way to b leaves all spots to the left; those on its line lie on the side. -/
def Way (xs : List Spot) (a b : Spot) : Prop := a ≠ b ∧ ∀ p ∈ xs, 0 ≤ crs a b p ∧ (crs a b p = 0 → betw a b p = true)
theorem way_of_side {s : Int} {D : List Spot} {a b : Spot} (h : Side s D a b) : Way D a b :=
  ⟨fun e => by have := h.1; rw [e] at this; omega, fun p hp => ⟨(h.2 p hp).1, fun h0 => betw_of h0 h.1 ((h.2 p hp).2 h0).1 ((h.2 p hp).2 h0).2⟩⟩
theorem way_mem {xs ys : List Spot} (hm : ∀ p, p ∈ xs → p ∈ ys) {a b : Spot} (h : Way ys a b) : Way xs a b := ⟨h.1, fun p hp => h.2 p (hm p hp)⟩
def Steps (xs : List Spot) : List Spot → Prop
  | b :: a :: r => Way xs a b ∧ Steps xs (a :: r)
  | _ => True
theorem steps_of_sides {s : Int} {D : List Spot} : ∀ {st : List Spot}, Sides s D st → Steps D st
  | [], _ => trivial
  | [_], _ => trivial
  | _ :: _ :: _, h => ⟨way_of_side h.1, steps_of_sides h.2⟩
theorem steps_append {D : List Spot} {m : Spot} {y : List Spot} (hy : Steps D (m :: y)) : ∀ {x : List Spot}, Steps D (x ++ [m]) → Steps D (x ++ m :: y)
  | [], _ => hy
  | [_], h => ⟨h.1, hy⟩
  | _ :: b :: r, h => ⟨h.1, steps_append hy (x := b :: r) h.2⟩
theorem steps_get {D : List Spot} : ∀ {l : List Spot}, Steps D l → ∀ i, (h : i + 1 < l.length) → Way D l[i + 1] l[i]
  | [], _, i, h => absurd h (by simp)
  | [_], _, i, h => absurd h (by simp)
  | b :: a :: r, h, 0, _ => h.1
  | b :: a :: r, h, i + 1, hi => steps_get (l := a :: r) h.2 i (by simpa using hi)
theorem sides_top {s : Int} {D : List Spot} : ∀ {b : Spot} {r : List Spot}, Sides s D (b :: r) → ∀ p ∈ r, dir s p < dir s b
  | b, [], _, p, hp => by simp at hp
  | b, a :: r, h, p, hp => by
    rcases List.mem_cons.1 hp with rfl | hp
    · exact h.1.1
    · have := sides_top h.2 p hp
      have := h.1.1
      omega
theorem sides_bottom {s : Int} {D : List Spot} {m : Spot} : ∀ {x : List Spot}, Sides s D (x ++ [m]) → ∀ p ∈ x, dir s m < dir s p
  | [], _, p, hp => by simp at hp
  | [b], h, p, hp => by
    simp only [List.mem_singleton] at hp; subst hp; exact h.1.1
  | b :: a :: r, h, p, hp => by
    rcases List.mem_cons.1 hp with rfl | hp
    · have := sides_bottom (x := a :: r) h.2 a (by simp)
      have := h.1.1
      omega
    · exact sides_bottom (x := a :: r) h.2 p hp
/-- The way round: up along the one chain, back along the other. -/
theorem hull_cycle {xs S : List Spot} (h2 : 2 ≤ S.length) (hr : Rising 1 S) (hm : ∀ p, p ∈ xs → p ∈ S) :
    ∃ C : List Spot, C.dropLast = chain S ++ chain S.reverse ∧ 2 ≤ C.length ∧ C.length ≤ 2 * S.length ∧ C.head? = some S[0] ∧ C.getLast? = some S[0] ∧ (∀ i (h : i + 1 < C.length), Way xs C[i] C[i + 1]) ∧ ∀ i (h : i + 1 < C.length), 0 < i → C[i] ≠ S[0] := by
  have hr' : Rising (-1) S.reverse := fun i j hij hj => by
    rw [List.length_reverse] at hj
    rw [List.getElem_reverse, List.getElem_reverse]
    have := hr (S.length - 1 - j) (S.length - 1 - i) (by omega) (by omega)
    unfold dir at *; omega
  obtain ⟨HL, hL1, hL2⟩ := hull_chTo hr S.length (Nat.le_refl _)
  obtain ⟨HU, hU1, hU2⟩ := hull_chTo hr' S.reverse.length (Nat.le_refl _)
  rw [chTo_full _ _ (Nat.le_refl _), List.take_length] at HL
  rw [chTo_full _ _ (Nat.le_refl _), List.take_length] at HU
  rw [chTo_full _ _ (Nat.le_refl _)] at hL1 hL2 hU1 hU2
  have lL := chTo_length S S.length
  have lU := chTo_length S.reverse S.reverse.length
  rw [chTo_full _ _ (Nat.le_refl _)] at lL lU
  rw [List.length_reverse] at lU
  have hL1 := hL1 (by omega) (by omega)
  have hL2 := hL2 (by omega) (by omega)
  have hU1 := hU1 (by rw [List.length_reverse]; omega) (by rw [List.length_reverse]; omega)
  have hU2 := hU2 (by rw [List.length_reverse]; omega) (by rw [List.length_reverse]; omega)
  rw [List.getElem_reverse] at hU1 hU2
  have e0 : S.length - 1 - (S.reverse.length - 1) = 0 := by rw [List.length_reverse]; omega
  simp only [Nat.sub_zero] at hU1
  simp only [e0] at hU2
  -- the two stacks
  obtain ⟨y, hy⟩ : ∃ y, chainR S = S[S.length - 1] :: y := by
    cases h : chainR S with
    | nil => rw [h] at hL2; simp at hL2
    | cons a y => rw [h] at hL2; simp at hL2; exact ⟨y, by rw [hL2]⟩
  obtain ⟨x, hx⟩ : ∃ x, chainR S.reverse = x ++ [S[S.length - 1]] := by
    obtain ⟨x, hx⟩ := List.getLast?_eq_some_iff.1 hU1
    exact ⟨x, hx⟩
  have hlt : key S[0] < key S[S.length - 1] := by
    have := hr 0 (S.length - 1) (by omega) (by omega)
    unfold dir at this; omega
  have hyne : y ≠ [] := by
    intro e; subst e
    rw [hy] at hL1; simp at hL1
    rw [hL1] at hlt; omega
  have hxne : x ≠ [] := by
    intro e; subst e
    rw [hx] at hU2; simp at hU2
    rw [hU2] at hlt; omega
  have hstep : Steps S (x ++ S[S.length - 1] :: y) := by
    refine steps_append (by rw [← hy]; exact steps_of_sides HL.sides) ?_
    have := steps_of_sides HU.sides
    rw [hx] at this
    have hrev : ∀ l, Steps S.reverse l → Steps S l := by
      intro l
      induction l with
      | nil => intro _; trivial
      | cons b r ih =>
        cases r with
        | nil => intro _; trivial
        | cons a r => intro h; exact ⟨way_mem (fun p hp => by simpa using hp) h.1, ih h.2⟩
    exact hrev _ this
  have lx : x.length + 1 ≤ S.length := by rw [hx] at lU; simpa using lU
  have ly : y.length + 1 ≤ S.length := by rw [hy] at lL; simpa using lL
  have lx0 : 0 < x.length := List.length_pos_iff.2 hxne
  have ly0 : 0 < y.length := List.length_pos_iff.2 hyne
  refine ⟨(x ++ S[S.length - 1] :: y).reverse, ?_, by simp; omega, by simp; omega, ?_, ?_, ?_, ?_⟩
  · unfold chain
    rw [List.dropLast_reverse, hy, hx]
    cases x with
    | nil => exact absurd rfl hxne
    | cons a x => simp
  · rw [List.head?_reverse]
    have : (x ++ S[S.length - 1] :: y).getLast? = y.getLast? := by
      cases y with
      | nil => exact absurd rfl hyne
      | cons a y => simp [List.getLast?_cons]
    rw [this]
    rw [hy] at hL1
    cases y with
    | nil => exact absurd rfl hyne
    | cons a y => simpa using hL1
  · rw [List.getLast?_reverse]
    rw [hx] at hU2
    cases x with
    | nil => exact absurd rfl hxne
    | cons a x => simpa using hU2
  · intro i hi
    rw [List.length_reverse] at hi
    rw [List.getElem_reverse, List.getElem_reverse]
    have := way_mem hm (steps_get hstep ((x ++ S[S.length - 1] :: y).length - 1 - (i + 1)) (by omega))
    have e : (x ++ S[S.length - 1] :: y).length - 1 - (i + 1) + 1 = (x ++ S[S.length - 1] :: y).length - 1 - i := by omega
    simp only [e] at this
    exact this
  · intro i hi h0 heq
    rw [List.length_reverse] at hi
    rw [List.getElem_reverse] at heq
    have hl : (x ++ S[S.length - 1] :: y).length = x.length + 1 + y.length := by simp; omega
    have hpos : (x ++ S[S.length - 1] :: y).length - 1 - i < (x ++ S[S.length - 1] :: y).length := by omega
    -- which part
    by_cases hin : (x ++ S[S.length - 1] :: y).length - 1 - i < x.length
    · rw [List.getElem_append_left hin] at heq
      have hsd := HU.sides
      rw [hx] at hsd
      cases x with
      | nil => exact absurd rfl hxne
      | cons a x =>
        rw [hx] at hU2
        simp at hU2
        have h1 := sides_top (b := a) (r := x ++ [S[S.length - 1]]) hsd
        obtain ⟨j, hj⟩ : ∃ j, (a :: x ++ S[S.length - 1] :: y).length - 1 - i = j + 1 := ⟨(a :: x ++ S[S.length - 1] :: y).length - 1 - i - 1, by omega⟩
        simp only [hj, List.getElem_cons_succ] at heq
        have h2 := h1 S[0] (by rw [← heq]; exact List.mem_append_left _ (List.getElem_mem _))
        rw [hU2] at h2; omega
    · rw [List.getElem_append_right (by omega)] at heq
      have hsd := HL.sides
      rw [hy] at hsd
      rw [hy] at hL1
      obtain ⟨z, hz⟩ := List.getLast?_eq_some_iff.1 hL1
      rw [hz] at hsd
      have h1 := sides_bottom hsd
      have hz' : z.length = y.length := by have := congrArg List.length hz; simp at this; omega
      have h2 := h1 S[0] (by
        rw [← heq]
        have h3 : (x ++ S[S.length - 1] :: y).length - 1 - i - x.length < z.length := by omega
        have h4 : (S[S.length - 1] :: y)[(x ++ S[S.length - 1] :: y).length - 1 - i - x.length]'(by simp; omega) = z[(x ++ S[S.length - 1] :: y).length - 1 - i - x.length] := by
          have hg : ∀ (l : List Spot), l = z ++ [S[0]] → ∀ (j : Nat) (h1 : j < l.length) (h2 : j < z.length), l[j] = z[j] := by
            intro l hl j h1 h2; subst hl; exact List.getElem_append_left h2
          exact hg _ hz _ _ h3
        rw [h4]; exact List.getElem_mem _)
      omega

/-- The next corner, by going round. -/
def wrapTo (xs : List Spot) (a : Spot) : Nat → Spot
  | 0 => nth xs 0
  | k + 1 => if wrapTo xs a k = a then nth xs k else if crs a (wrapTo xs a k) (nth xs k) < 0 then nth xs k else if crs a (wrapTo xs a k) (nth xs k) = 0 ∧ betw a (nth xs k) (wrapTo xs a k) = true then nth xs k else wrapTo xs a k
theorem nth_mem {xs : List Spot} {i : Nat} (h : i < xs.length) : nth xs i ∈ xs := by rw [nth_get h]; exact List.getElem_mem h
theorem wrapTo_mem {xs : List Spot} (h0 : 0 < xs.length) (a : Spot) : ∀ k, k ≤ xs.length → wrapTo xs a k ∈ xs
  | 0, _ => nth_mem h0
  | k + 1, hk => by
    have ih := wrapTo_mem h0 a k (by omega)
    have hm : nth xs k ∈ xs := nth_mem (by omega)
    simp only [wrapTo]
    repeat' split
    all_goals assumption
theorem wrap_way {xs : List Spot} {a t : Spot} (h0 : 0 < xs.length) (hW : Way xs a t) {j : Nat} (hj : j < xs.length) (ht : nth xs j = t) : ∀ k, k ≤ xs.length → j < k → wrapTo xs a k = t
  | 0, _, h => absurd h (Nat.not_lt_zero _)
  | k + 1, hk, hjk => by
    have hm := wrapTo_mem h0 a k (by omega)
    simp only [wrapTo]
    by_cases hjk' : j < k
    · have ih := wrap_way h0 hW hj ht k (by omega) hjk'
      rw [ih, if_neg (fun e => hW.1 e.symm)]
      obtain ⟨h1, h2⟩ := hW.2 (nth xs k) (nth_mem (by omega))
      rw [if_neg (by omega)]
      split
      · rename_i h3
        exact betw_both (h2 h3.1) h3.2
      · rfl
    · obtain rfl : j = k := by omega
      rw [ht]
      split
      · rfl
      · obtain ⟨h1, h2⟩ := hW.2 _ hm
        have e := crs_flip a t (wrapTo xs a j)
        split
        · rfl
        · rw [if_pos ⟨by omega, h2 (by omega)⟩]
/-- The first spot in the order. -/
def firstTo (xs : List Spot) : Nat → Spot
  | 0 => nth xs 0
  | k + 1 => if (nth xs k).X < (firstTo xs k).X ∨ (nth xs k).X = (firstTo xs k).X ∧ (nth xs k).Y < (firstTo xs k).Y then nth xs k else firstTo xs k
theorem firstTo_one (xs : List Spot) : firstTo xs 1 = nth xs 0 := by simp [firstTo]
theorem firstTo_is {xs : List Spot} (h0 : 0 < xs.length) (hok : ∀ i, okSpot (nth xs i) = true) : ∀ k, k ≤ xs.length → firstTo xs k ∈ xs ∧ okSpot (firstTo xs k) = true ∧ ∀ i, i < k → key (firstTo xs k) ≤ key (nth xs i)
  | 0, _ => ⟨nth_mem h0, hok 0, fun i h => absurd h (Nat.not_lt_zero _)⟩
  | k + 1, hk => by
    obtain ⟨h1, h2, h3⟩ := firstTo_is h0 hok k (by omega)
    have hkk := key_lt (hok k) h2
    simp only [firstTo]
    split
    · rename_i h
      have := hkk.2 h
      exact ⟨nth_mem (by omega), hok k, fun i hi => by
        rcases Nat.lt_succ_iff_lt_or_eq.1 hi with hi | hi
        · have := h3 i hi; omega
        · subst hi; omega⟩
    · rename_i h
      exact ⟨h1, h2, fun i hi => by
        rcases Nat.lt_succ_iff_lt_or_eq.1 hi with hi | hi
        · exact h3 i hi
        · subst hi
          by_cases hlt : key (nth xs i) < key (firstTo xs i)
          · exact absurd (hkk.1 hlt) h
          · omega⟩
/-- The corners of an outline are apart. -/
theorem outline_nodup {xs : List Spot} (h : okOutline xs = true) : ∀ i j, i < j → j < xs.length → nth xs i ≠ nth xs j := by
  obtain ⟨⟨⟨h3, _⟩, _⟩, hs⟩ := okOutline_iff.1 h
  have hfl : ∀ i, i < xs.length → crs (nth xs i) (nth xs (i + 1)) (nth xs (i + 2)) ≠ 0 ∧ ∀ k, k < xs.length → meetAt xs i k = false := fun i hi => by
    have := allUpto_iff.1 hs i hi
    simp only [simpleAt, Bool.and_eq_true, Bool.not_eq_true', flatAt, beq_eq_false_iff_ne] at this
    exact ⟨this.1, fun k hk => by simpa using allUpto_iff.1 this.2 k hk⟩
  intro i j hij hj he
  by_cases h1 : j = i + 1
  · subst h1
    apply (hfl i (by omega)).1
    rw [← he, crs_same]
  · by_cases h2 : i = 0 ∧ j + 1 = xs.length
    · obtain ⟨rfl, h2⟩ := h2
      apply (hfl j hj).1
      have e : nth xs (j + 1) = nth xs 0 := by rw [h2]; simp [nth]
      rw [e, he, crs_same]
    · have := (hfl i (by omega)).2 j hj
      rw [meetAt_is (by omega) h2] at this
      simp only [meetS, Bool.or_eq_false_iff] at this
      have h4 := this.1.1.1.1
      rw [← he] at h4
      have h5 : onS (nth xs i) (nth xs (i + 1)) (nth xs i) = true := by
        simp only [onS, crs_start, betw, inr, Bool.and_eq_true, decide_eq_true_eq, beq_iff_eq, true_and]
        omega
      rw [h5] at h4; cases h4
end Go.Proofs.Ytlaclknhenccdaa
