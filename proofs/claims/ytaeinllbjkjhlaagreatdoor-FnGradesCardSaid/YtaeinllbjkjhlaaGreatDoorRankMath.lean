/- Chapter 4, ranked lasts: the plain laws. -/
import Derived.Test.YtaeinllbjkjhlaaGreatDoorF02
import Derived.Test.YtaeinllbjkjhlaaGreatDoorNum
namespace Go.Proofs.YtaeinllbjkjhlaaGreatDoor
open Go.RowKit

theorem okLast_iff2 {x : Last} : okLast x = true ↔ isName x.Name = true ∧ ((500 ≤ x.Length ∧ x.Length ≤ 5000) ∧ (500 ≤ x.Ball ∧ x.Ball ≤ 5000) ∧ (500 ≤ x.Instep ∧ x.Instep ≤ 5000) ∧ (500 ≤ x.Heel ∧ x.Heel ≤ 5000)) ∧ (0 ≤ x.Pitch ∧ x.Pitch ≤ 1000) := by
  unfold okLast
  simp only [Bool.and_eq_true, okFoot_iff, inr_true, lastFoot, and_assoc]
/-- What is wanted of a last: the least and the greatest room, the greatest difference of a girth, four weights. -/
structure FitV where
  mn : Int
  mx : Int
  gi : Int
  w0 : Int
  w1 : Int
  w2 : Int
  w3 : Int
def FitV.ws (q : FitV) : List Int := [q.w0, q.w1, q.w2, q.w3]
structure OkFit (q : FitV) : Prop where
  mx : 0 ≤ q.mx ∧ q.mx ≤ 500
  mn : 0 ≤ q.mn ∧ q.mn ≤ q.mx
  gi : 0 ≤ q.gi ∧ q.gi ≤ 500
  w0 : 0 ≤ q.w0 ∧ q.w0 ≤ 100
  w1 : 0 ≤ q.w1 ∧ q.w1 ≤ 100
  w2 : 0 ≤ q.w2 ∧ q.w2 ≤ 100
  w3 : 0 ≤ q.w3 ∧ q.w3 ≤ 100
theorem apartI_range {a b : Int} (ha : 500 ≤ a ∧ a ≤ 5000) (hb : 500 ≤ b ∧ b ≤ 5000) : 0 ≤ size (a - b) ∧ size (a - b) ≤ 4500 := by unfold size; omega
theorem mul_range {a b : Int} {m : Int} (ha : 0 ≤ a ∧ a ≤ 100) (hb : 0 ≤ b ∧ b ≤ m) : 0 ≤ a * b ∧ a * b ≤ 100 * m :=
  ⟨Int.mul_nonneg ha.1 hb.1, Int.mul_le_mul ha.2 hb.2 hb.1 (by omega)⟩
def costL (x : Last) (f : Foot) (q : FitV) : Int := q.w0 * (x.Length - f.Length - q.mn) + q.w1 * size (x.Ball - f.Ball) + q.w2 * size (x.Instep - f.Instep) + q.w3 * size (x.Heel - f.Heel)
def mayL (x : Last) (f : Foot) (q : FitV) : Bool := inr (x.Length - f.Length) q.mn q.mx && decide (size (x.Ball - f.Ball) ≤ q.gi) && decide (size (x.Instep - f.Instep) ≤ q.gi) && decide (size (x.Heel - f.Heel) ≤ q.gi)
theorem mayL_room {x : Last} {f : Foot} {q : FitV} (h : mayL x f q = true) : q.mn ≤ x.Length - f.Length ∧ x.Length - f.Length ≤ q.mx := by
  unfold mayL at h
  simp only [Bool.and_eq_true] at h
  exact inr_true.1 h.1.1.1
structure Costs (x : Last) (f : Foot) (q : FitV) : Prop where
  len : -4500 - 500 ≤ x.Length - f.Length - q.mn ∧ x.Length - f.Length - q.mn ≤ 4500
  p0 : -500000 ≤ q.w0 * (x.Length - f.Length - q.mn) ∧ q.w0 * (x.Length - f.Length - q.mn) ≤ 450000
  p1 : 0 ≤ q.w1 * size (x.Ball - f.Ball) ∧ q.w1 * size (x.Ball - f.Ball) ≤ 450000
  p2 : 0 ≤ q.w2 * size (x.Instep - f.Instep) ∧ q.w2 * size (x.Instep - f.Instep) ≤ 450000
  p3 : 0 ≤ q.w3 * size (x.Heel - f.Heel) ∧ q.w3 * size (x.Heel - f.Heel) ≤ 450000
theorem costs_of {x : Last} {f : Foot} {q : FitV} (hx : okLast x = true) (hf : okFoot f = true) (hq : OkFit q) : Costs x f q := by
  obtain ⟨-, ⟨x0, x1, x2, x3⟩, -⟩ := okLast_iff2.1 hx
  obtain ⟨f0, f1, f2, f3⟩ := okFoot_iff.1 hf
  obtain ⟨hmx, hmn, hgi, h0, h1, h2, h3⟩ := hq
  refine ⟨by omega, ?_, mul_range h1 (apartI_range x1 f1), mul_range h2 (apartI_range x2 f2), mul_range h3 (apartI_range x3 f3)⟩
  have hr : -5000 ≤ x.Length - f.Length - q.mn ∧ x.Length - f.Length - q.mn ≤ 4500 := by omega
  generalize x.Length - f.Length - q.mn = r at *
  generalize q.w0 = a at *
  constructor
  · have h : a * (-5000) ≤ a * r := Int.mul_le_mul_of_nonneg_left hr.1 h0.1
    omega
  · have h : a * r ≤ a * 4500 := Int.mul_le_mul_of_nonneg_left hr.2 h0.1
    omega
theorem costL_range {x : Last} {f : Foot} {q : FitV} (h : Costs x f q) : -500000 ≤ costL x f q ∧ costL x f q ≤ 1800000 := by
  obtain ⟨-, h0, h1, h2, h3⟩ := h
  unfold costL; omega
theorem costL_may {x : Last} {f : Foot} {q : FitV} (h : Costs x f q) (hq : OkFit q) (hm : mayL x f q = true) : 0 ≤ costL x f q := by
  have hr := mayL_room hm
  have h0 : 0 ≤ q.w0 * (x.Length - f.Length - q.mn) := Int.mul_nonneg hq.w0.1 (by omega)
  have h1 := h.p1; have h2 := h.p2; have h3 := h.p3
  unfold costL; omega
/-- The cost, -1 if the last is not allowed. -/
def costS (x : Last) (f : Foot) (q : FitV) : Int := if mayL x f q then costL x f q else -1
/-- The numbers below n that are chosen, with a value each. -/
def alwTo (P : Nat → Bool) : Nat → List Int
  | 0 => []
  | k + 1 => alwTo P k ++ (if P k then [(k : Int)] else [])
def csTo (P : Nat → Bool) (C : Nat → Int) : Nat → List Int
  | 0 => []
  | k + 1 => csTo P C k ++ (if P k then [C k] else [])
theorem cs_length (P : Nat → Bool) (C : Nat → Int) : ∀ k, (csTo P C k).length = (alwTo P k).length
  | 0 => rfl
  | k + 1 => by
    simp only [csTo, alwTo, List.length_append, cs_length P C k]
    split <;> rfl
theorem alw_length (P : Nat → Bool) : ∀ k, (alwTo P k).length ≤ k
  | 0 => Nat.le_refl _
  | k + 1 => by
    have := alw_length P k
    simp only [alwTo, List.length_append]
    split <;> simp <;> omega
theorem alw_mem (P : Nat → Bool) {v : Int} : ∀ {k : Nat}, v ∈ alwTo P k ↔ ∃ j : Nat, j < k ∧ v = j ∧ P j = true
  | 0 => by simp [alwTo]
  | k + 1 => by
    simp only [alwTo, List.mem_append, alw_mem P (k := k)]
    constructor
    · rintro (⟨j, h1, h2, h3⟩ | h)
      · exact ⟨j, by omega, h2, h3⟩
      · cases hp : P k
        · simp [hp] at h
        · simp [hp] at h; exact ⟨k, by omega, h, hp⟩
    · rintro ⟨j, h1, h2, h3⟩
      by_cases hj : j = k
      · subst hj; right; simp [h3, h2]
      · exact Or.inl ⟨j, by omega, h2, h3⟩
theorem alw_has (P : Nat → Bool) {n k : Nat} (h : k < n) : decide ((k : Int) ∈ alwTo P n) = P k := by
  rw [Bool.eq_iff_iff]
  simp only [decide_eq_true_eq, alw_mem]
  constructor
  · rintro ⟨j, _, h2, h3⟩
    have : k = j := by omega
    subst this; exact h3
  · intro hp; exact ⟨k, h, rfl, hp⟩
theorem alw_range (P : Nat → Bool) {n : Nat} {v : Int} (h : v ∈ alwTo P n) : 0 ≤ v ∧ v < n := by
  obtain ⟨j, h1, h2, _⟩ := (alw_mem P).1 h
  omega
theorem alw_up (P : Nat → Bool) : ∀ n, (alwTo P n).Pairwise (· < ·)
  | 0 => List.Pairwise.nil
  | n + 1 => by
    unfold alwTo
    refine List.pairwise_append.2 ⟨alw_up P n, ?_, fun a ha b hb => ?_⟩
    · cases P n <;> simp
    · have h1 := alw_range P ha
      cases hp : P n
      · simp [hp] at hb
      · simp [hp] at hb; omega
/-- The first number with the least value: the number and the value. -/
def bestTo (P : Nat → Bool) (C : Nat → Int) : Nat → Int × Int
  | 0 => (-1, 0)
  | k + 1 => if P k && (decide ((bestTo P C k).1 < 0) || decide (C k < (bestTo P C k).2)) then ((k : Int), C k) else bestTo P C k
/-- What the first least one is, of a list of numbers and their values. -/
structure FirstLeast (out cs : List Int) (b : Int × Int) (j : Nat) : Prop where
  hj : j < out.length
  at' : out[j]? = some b.1
  val : cs[j]? = some b.2
  all : ∀ (t : Nat) (c : Int), cs[t]? = some c → b.2 ≤ c
  first : ∀ (t : Nat) (c : Int), t < j → cs[t]? = some c → b.2 < c
theorem best_is (P : Nat → Bool) (C : Nat → Int) : ∀ n, (alwTo P n = [] ∧ bestTo P C n = (-1, 0)) ∨ (∃ j, FirstLeast (alwTo P n) (csTo P C n) (bestTo P C n) j) ∧ 0 ≤ (bestTo P C n).1
  | 0 => Or.inl ⟨rfl, rfl⟩
  | n + 1 => by
    have hl := cs_length P C n
    cases hp : P n with
    | false =>
      have e1 : alwTo P (n + 1) = alwTo P n := by simp [alwTo, hp]
      have e2 : csTo P C (n + 1) = csTo P C n := by simp [csTo, hp]
      have e3 : bestTo P C (n + 1) = bestTo P C n := by simp [bestTo, hp]
      rw [e1, e2, e3]
      exact best_is P C n
    | true =>
      have e1 : alwTo P (n + 1) = alwTo P n ++ [(n : Int)] := by simp [alwTo, hp]
      have e2 : csTo P C (n + 1) = csTo P C n ++ [C n] := by simp [csTo, hp]
      rw [e1, e2]
      right
      rcases best_is P C n with ⟨h1, h2⟩ | ⟨⟨j, h1, h2, h3, h4, h5⟩, h6⟩
      · have e3 : bestTo P C (n + 1) = ((n : Int), C n) := by simp [bestTo, hp, h2]
        have e4 : csTo P C n = [] := List.eq_nil_of_length_eq_zero (by rw [hl, h1]; rfl)
        rw [e3, h1, e4]
        refine ⟨⟨0, by simp, rfl, rfl, fun t c h => ?_, fun t c h => absurd h (Nat.not_lt_zero _)⟩, by simp⟩
        cases t with
        | zero => simp at h; subst h; exact Int.le_refl _
        | succ t => simp at h
      · by_cases hc : C n < (bestTo P C n).2
        · have e3 : bestTo P C (n + 1) = ((n : Int), C n) := by simp [bestTo, hp, hc]
          rw [e3]
          refine ⟨⟨(alwTo P n).length, by simp, by simp, by rw [← hl]; simp, fun t c h => ?_, fun t c ht h => ?_⟩, by simp⟩
          · by_cases ht : t < (csTo P C n).length
            · rw [List.getElem?_append_left ht] at h
              exact Int.le_of_lt (Int.lt_of_lt_of_le hc (h4 t c h))
            · rw [List.getElem?_append_right (by omega)] at h
              cases hk : t - (csTo P C n).length with
              | zero => rw [hk] at h; simp at h; subst h; exact Int.le_refl _
              | succ k => rw [hk] at h; simp at h
          · rw [List.getElem?_append_left (by omega)] at h
            exact Int.lt_of_lt_of_le hc (h4 t c h)
        · have hb : ¬ (bestTo P C n).1 < 0 := by omega
          have e3 : bestTo P C (n + 1) = bestTo P C n := by simp [bestTo, hb, hc]
          rw [e3]
          refine ⟨⟨j, by simp; omega, by rw [List.getElem?_append_left h1]; exact h2, by rw [List.getElem?_append_left (by omega)]; exact h3, fun t c h => ?_, fun t c ht h => ?_⟩, h6⟩
          · by_cases ht : t < (csTo P C n).length
            · rw [List.getElem?_append_left ht] at h; exact h4 t c h
            · rw [List.getElem?_append_right (by omega)] at h
              cases hk : t - (csTo P C n).length with
              | zero => rw [hk] at h; simp at h; omega
              | succ k => rw [hk] at h; simp at h
          · rw [List.getElem?_append_left (by omega)] at h; exact h5 t c ht h
theorem best_no (P : Nat → Bool) (C : Nat → Int) {k : Nat} (h : P k = false) : bestTo P C (k + 1) = bestTo P C k := by simp [bestTo, h]
theorem best_new (P : Nat → Bool) (C : Nat → Int) {k : Nat} (h : P k = true) (h2 : (bestTo P C k).1 < 0 ∨ C k < (bestTo P C k).2) : bestTo P C (k + 1) = ((k : Int), C k) := by
  show (if P k && (decide ((bestTo P C k).1 < 0) || decide (C k < (bestTo P C k).2)) then _ else _) = _
  rw [if_pos (by simp [h, h2])]
theorem best_old (P : Nat → Bool) (C : Nat → Int) {k : Nat} (h2 : ¬ (bestTo P C k).1 < 0) (h3 : ¬ C k < (bestTo P C k).2) : bestTo P C (k + 1) = bestTo P C k := by
  show (if P k && (decide ((bestTo P C k).1 < 0) || decide (C k < (bestTo P C k).2)) then _ else _) = _
  rw [if_neg (by simp only [Bool.and_eq_true, Bool.or_eq_true, decide_eq_true_eq]; rintro ⟨-, h | h⟩ <;> contradiction)]
theorem best_lo (P : Nat → Bool) (C : Nat → Int) : ∀ k, -1 ≤ (bestTo P C k).1
  | 0 => by show (-1 : Int) ≤ -1; omega
  | k + 1 => by
    show -1 ≤ (if P k && (decide ((bestTo P C k).1 < 0) || decide (C k < (bestTo P C k).2)) then ((k : Int), C k) else bestTo P C k).1
    split
    · dsimp only; omega
    · exact best_lo P C k
/-- One number lies before another by their values, then by themselves. -/
def Before2 (C : Int → Int) (a b : Int) : Prop := C a < C b ∨ C a = C b ∧ a < b
theorem Before2.trans {C : Int → Int} {a b c : Int} (h1 : Before2 C a b) (h2 : Before2 C b c) : Before2 C a c := by
  unfold Before2 at *; omega
/-- What ranked numbers are. -/
structure Ranked (C : Int → Int) (xs ys : List Int) : Prop where
  len : ys.length = xs.length
  mem : ∀ y ∈ ys, y ∈ xs
  up : ys.Pairwise (Before2 C)
/-- While the number at j goes down: those up to i, but the one at j, are ranked. -/
structure Going (C : Int → Int) (xs ys : List Int) (i j : Nat) : Prop where
  len : ys.length = xs.length
  hj : j ≤ i
  mem : ∀ y ∈ ys, y ∈ xs
  rest : ∀ q : Nat, i < q → ys[q]? = xs[q]?
  far : ∀ (p q : Nat) (a b : Int), p ≤ i → i < q → ys[p]? = some a → xs[q]? = some b → a < b
  up : ∀ (p q : Nat) (a b : Int), p < q → q ≤ i → q ≠ j → ys[p]? = some a → ys[q]? = some b → Before2 C a b
  low : ∀ (p : Nat) (a b : Int), p < j → ys[p]? = some a → ys[j]? = some b → a < b
/-- When i numbers are ranked. -/
structure RankTo (C : Int → Int) (xs ys : List Int) (i : Nat) : Prop where
  len : ys.length = xs.length
  mem : ∀ y ∈ ys, y ∈ xs
  rest : ∀ q : Nat, i ≤ q → ys[q]? = xs[q]?
  far : ∀ (p q : Nat) (a b : Int), p < i → i ≤ q → ys[p]? = some a → xs[q]? = some b → a < b
  up : ∀ (p q : Nat) (a b : Int), p < q → q < i → ys[p]? = some a → ys[q]? = some b → Before2 C a b
theorem rank_start {C : Int → Int} {xs : List Int} (h : xs.Pairwise (· < ·)) : RankTo C xs xs 1 := by
  refine ⟨rfl, fun y hy => hy, fun q _ => rfl, fun p q a b hp hq h1 h2 => ?_, fun p q a b h1 h2 => by omega⟩
  obtain ⟨h3, rfl⟩ := List.getElem?_eq_some_iff.1 h1
  obtain ⟨h4, rfl⟩ := List.getElem?_eq_some_iff.1 h2
  exact (List.pairwise_iff_getElem.1 h) p q h3 h4 (by omega)
theorem rank_in {C : Int → Int} {xs ys : List Int} {i : Nat} (h : RankTo C xs ys i) (hx : xs.Pairwise (· < ·)) : Going C xs ys i i := by
  obtain ⟨h1, h2, h3, h4, h5⟩ := h
  refine ⟨h1, Nat.le_refl _, h2, fun q hq => h3 q (by omega), fun p q a b hp hq ha hb => ?_, fun p q a b h6 h7 h8 ha hb => h5 p q a b h6 (by omega) ha hb, fun p a b hp ha hb => ?_⟩
  · by_cases hpi : p = i
    · subst hpi
      rw [h3 p (by omega)] at ha
      obtain ⟨g3, rfl⟩ := List.getElem?_eq_some_iff.1 ha
      obtain ⟨g4, rfl⟩ := List.getElem?_eq_some_iff.1 hb
      exact (List.pairwise_iff_getElem.1 hx) p q g3 g4 hq
    · exact h4 p q a b (by omega) (by omega) ha hb
  · rw [h3 i (by omega)] at hb
    exact h4 p i a b hp (by omega) ha hb
theorem rank_out {C : Int → Int} {xs ys : List Int} {i j : Nat} (h : Going C xs ys i j) (hs : j = 0 ∨ ∀ a b, ys[j - 1]? = some a → ys[j]? = some b → C a ≤ C b) : RankTo C xs ys (i + 1) := by
  obtain ⟨h1, hj, h2, h3, h4, h5, h6⟩ := h
  refine ⟨h1, h2, fun q hq => h3 q (by omega), fun p q a b hp hq ha hb => h4 p q a b (by omega) (by omega) ha hb, fun p q a b hp hq ha hb => ?_⟩
  by_cases hqj : q = j
  · subst hqj
    rcases hs with rfl | hs
    · omega
    · have hlt : q - 1 < ys.length := by have := (List.getElem?_eq_some_iff.1 hb).1; omega
      have h7 := hs _ b (List.getElem?_eq_getElem hlt) hb
      have h8 := h6 (q - 1) _ b (by omega) (List.getElem?_eq_getElem hlt) hb
      have h9 : Before2 C ys[q - 1] b := by unfold Before2; omega
      by_cases hp1 : p = q - 1
      · subst hp1
        rw [List.getElem?_eq_getElem hlt] at ha
        cases ha; exact h9
      · exact (h5 p (q - 1) a _ (by omega) (by omega) (by omega) ha (List.getElem?_eq_getElem hlt)).trans h9
  · exact h5 p q a b hp (by omega) hqj ha hb
theorem swap_get {ys : List Int} {j : Nat} (h0 : 0 < j) (h1 : j < ys.length) (p : Nat) : ((ys.set j ys[j - 1]).set (j - 1) ys[j])[p]? = if p = j then ys[j - 1]? else if p = j - 1 then ys[j]? else ys[p]? := by
  rw [List.getElem?_set, List.getElem?_set]
  by_cases e1 : p = j
  · subst e1
    rw [if_neg (by omega), if_pos rfl, if_pos rfl, if_pos h1, List.getElem?_eq_getElem (by omega : p - 1 < ys.length)]
  · by_cases e2 : p = j - 1
    · subst e2
      rw [if_pos rfl, if_neg e1, if_pos rfl, if_pos (by simp; omega), List.getElem?_eq_getElem h1]
    · rw [if_neg (fun e => e2 e.symm), if_neg (fun e => e1 e.symm), if_neg e1, if_neg e2]
theorem rank_swap {C : Int → Int} {xs ys : List Int} {i j : Nat} (h : Going C xs ys i j) (h0 : 0 < j) (hl : j < ys.length) (hs : C ys[j] < C ys[j - 1]) : Going C xs ((ys.set j ys[j - 1]).set (j - 1) ys[j]) i (j - 1) := by
  obtain ⟨h1, hj, h2, h3, h4, h5, h6⟩ := h
  have hg := swap_get h0 hl
  have hl' : j - 1 < ys.length := by omega
  have ej : ys[j]? = some ys[j] := List.getElem?_eq_getElem hl
  have ej1 : ys[j - 1]? = some ys[j - 1] := List.getElem?_eq_getElem hl'
  refine ⟨by simp [h1], by omega, fun y hy => ?_, fun q hq => ?_, fun p q a b hp hq ha hb => ?_, fun p q a b hp hq hne ha hb => ?_, fun p a b hp ha hb => ?_⟩
  · rcases List.mem_or_eq_of_mem_set hy with hy | rfl
    · rcases List.mem_or_eq_of_mem_set hy with hy | rfl
      · exact h2 y hy
      · exact h2 _ (List.getElem_mem _)
    · exact h2 _ (List.getElem_mem _)
  · rw [hg, if_neg (by omega), if_neg (by omega)]; exact h3 q hq
  · rw [hg] at ha
    split at ha
    · exact h4 (j - 1) q a b (by omega) hq ha hb
    · split at ha
      · exact h4 j q a b hj hq ha hb
      · exact h4 p q a b hp hq ha hb
  · rw [hg] at ha hb
    by_cases e1 : p = j
    · rw [if_pos e1] at ha
      rw [if_neg (by omega), if_neg (by omega)] at hb
      exact h5 (j - 1) q a b (by omega) hq (by omega) ha hb
    · rw [if_neg e1] at ha
      by_cases e2 : p = j - 1
      · rw [if_pos e2, ej] at ha
        obtain rfl := Option.some.inj ha
        have key : Before2 C ys[j] ys[j - 1] := Or.inl hs
        by_cases e3 : q = j
        · rw [if_pos e3, ej1] at hb
          obtain rfl := Option.some.inj hb
          exact key
        · rw [if_neg e3, if_neg (by omega)] at hb
          exact key.trans (h5 (j - 1) q _ b (by omega) hq e3 ej1 hb)
      · rw [if_neg e2] at ha
        by_cases e3 : q = j
        · rw [if_pos e3] at hb
          exact h5 p (j - 1) a b (by omega) (by omega) (by omega) ha hb
        · rw [if_neg e3, if_neg hne] at hb
          exact h5 p q a b hp hq e3 ha hb
  · rw [hg, if_neg (by omega), if_neg (by omega)] at ha
    rw [hg, if_neg (by omega), if_pos rfl] at hb
    exact h6 p a b (by omega) ha hb
theorem rank_done {C : Int → Int} {xs ys : List Int} {i : Nat} (h : RankTo C xs ys i) (hi : xs.length ≤ i) : Ranked C xs ys := by
  refine ⟨h.len, h.mem, List.pairwise_iff_getElem.2 fun p q hp hq hpq => ?_⟩
  exact h.up p q _ _ hpq (by have := h.len; omega) (List.getElem?_eq_getElem hp) (List.getElem?_eq_getElem hq)
/-- The weights by their places. -/
def FitV.wt (q : FitV) (k : Nat) : Int := q.ws.getD k 0
/-- The cost of the first k measures. -/
def costK (x : Last) (f : Foot) (q : FitV) : Nat → Int
  | 0 => q.w0 * (x.Length - f.Length - q.mn)
  | k + 1 => if k = 0 then costK x f q k else costK x f q k + q.wt k * size ((fourOf (lastFoot x)).getD k 0 - (fourOf f).getD k 0)
def mayK (x : Last) (f : Foot) (q : FitV) : Nat → Bool
  | 0 => inr (x.Length - f.Length) q.mn q.mx
  | k + 1 => if k = 0 then mayK x f q k else mayK x f q k && decide (size ((fourOf (lastFoot x)).getD k 0 - (fourOf f).getD k 0) ≤ q.gi)
theorem costK_four (x : Last) (f : Foot) (q : FitV) : costK x f q 4 = costL x f q := rfl
theorem mayK_four (x : Last) (f : Foot) (q : FitV) : mayK x f q 4 = mayL x f q := rfl
theorem costK_zero (x : Last) (f : Foot) (q : FitV) : costK x f q 1 = costK x f q 0 := rfl
theorem mayK_zero (x : Last) (f : Foot) (q : FitV) : mayK x f q 1 = mayK x f q 0 := rfl
theorem costK_succ (x : Last) (f : Foot) (q : FitV) {k : Nat} (h : k ≠ 0) : costK x f q (k + 1) = costK x f q k + q.wt k * size ((fourOf (lastFoot x)).getD k 0 - (fourOf f).getD k 0) := if_neg h
theorem mayK_succ (x : Last) (f : Foot) (q : FitV) {k : Nat} (h : k ≠ 0) : mayK x f q (k + 1) = (mayK x f q k && decide (size ((fourOf (lastFoot x)).getD k 0 - (fourOf f).getD k 0) ≤ q.gi)) := if_neg h
theorem mayK_false {x : Last} {f : Foot} {q : FitV} {k : Nat} (h : mayK x f q k = false) : ∀ j, mayK x f q (k + j) = false
  | 0 => h
  | j + 1 => by
    have := mayK_false h j
    by_cases hz : k + j = 0
    · obtain ⟨rfl, rfl⟩ : k = 0 ∧ j = 0 := by omega
      exact this
    · rw [← Nat.add_assoc, mayK_succ x f q hz, this]; rfl
theorem wt_range {q : FitV} (h : OkFit q) {k : Nat} (hk : k < 4) : 0 ≤ q.wt k ∧ q.wt k ≤ 100 := by
  rcases (by omega : k = 0 ∨ k = 1 ∨ k = 2 ∨ k = 3) with rfl | rfl | rfl | rfl
  · exact h.w0
  · exact h.w1
  · exact h.w2
  · exact h.w3
theorem costK_range {x : Last} {f : Foot} {q : FitV} (h : Costs x f q) {k : Nat} (hk : k ≤ 4) : -500000 ≤ costK x f q k ∧ costK x f q k ≤ 1800000 := by
  obtain ⟨-, h0, h1, h2, h3⟩ := h
  have e0 : costK x f q 0 = q.w0 * (x.Length - f.Length - q.mn) := rfl
  have e1 : costK x f q 1 = q.w0 * (x.Length - f.Length - q.mn) := rfl
  have e2 : costK x f q 2 = q.w0 * (x.Length - f.Length - q.mn) + q.w1 * size (x.Ball - f.Ball) := rfl
  have e3 : costK x f q 3 = q.w0 * (x.Length - f.Length - q.mn) + q.w1 * size (x.Ball - f.Ball) + q.w2 * size (x.Instep - f.Instep) := rfl
  have e4 : costK x f q 4 = q.w0 * (x.Length - f.Length - q.mn) + q.w1 * size (x.Ball - f.Ball) + q.w2 * size (x.Instep - f.Instep) + q.w3 * size (x.Heel - f.Heel) := rfl
  rcases (by omega : k = 0 ∨ k = 1 ∨ k = 2 ∨ k = 3 ∨ k = 4) with rfl | rfl | rfl | rfl | rfl <;> omega
theorem four_range {f : Foot} (h : okFoot f = true) {k : Nat} (hk : k < 4) : 500 ≤ (fourOf f).getD k 0 ∧ (fourOf f).getD k 0 ≤ 5000 := by
  obtain ⟨h0, h1, h2, h3⟩ := okFoot_iff.1 h
  rcases (by omega : k = 0 ∨ k = 1 ∨ k = 2 ∨ k = 3) with rfl | rfl | rfl | rfl
  · exact h0
  · exact h1
  · exact h2
  · exact h3
theorem last_foot_ok {x : Last} (h : okLast x = true) : okFoot (lastFoot x) = true := by
  obtain ⟨-, h1, -⟩ := okLast_iff2.1 h
  exact okFoot_iff.2 h1
theorem four_get (f : Foot) {k : Nat} (h : k < (fourOf f).length) : (fourOf f)[k] = (fourOf f).getD k 0 := by
  rw [List.getD_eq_getElem?_getD, List.getElem?_eq_getElem h]; rfl
theorem four_lt {f : Foot} {k : Nat} (h : k < 4) : k < (fourOf f).length := h
theorem ws_lt {q : FitV} {k : Nat} (h : k < 4) : k < q.ws.length := h
theorem wt_get (q : FitV) {k : Nat} (h : k < q.ws.length) : q.ws[k] = q.wt k := by
  unfold FitV.wt
  rw [List.getD_eq_getElem?_getD, List.getElem?_eq_getElem h]; rfl
end Go.Proofs.YtaeinllbjkjhlaaGreatDoor
