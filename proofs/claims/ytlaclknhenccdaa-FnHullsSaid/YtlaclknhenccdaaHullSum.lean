/- FnHulls: the counts of the law's loops, and what its values are. -/
import Derived.Test.YtlaclknhenccdaaHullIn
namespace Go.Proofs.Ytlaclknhenccdaa
open Go.RowKit

/-- Counted up to a row of a column. -/
def cntTo (F : Spot → Int) (lo : Spot) (ny k j : Nat) : Int := sumUp (fun i => sumUp (fun j => F ⟨lo.X + i, lo.Y + j⟩) ny) k + sumUp (fun j => F ⟨lo.X + k, lo.Y + j⟩) j
theorem cntTo_zero (F : Spot → Int) (lo : Spot) (ny : Nat) : cntTo F lo ny 0 0 = 0 := rfl
theorem cntTo_succ (F : Spot → Int) (lo : Spot) (ny k j : Nat) : cntTo F lo ny k (j + 1) = cntTo F lo ny k j + F ⟨lo.X + k, lo.Y + j⟩ := by
  unfold cntTo; simp only [sumUp]; omega
theorem cntTo_row (F : Spot → Int) (lo : Spot) (ny k : Nat) : cntTo F lo ny (k + 1) 0 = cntTo F lo ny k ny := by
  unfold cntTo; simp only [sumUp]; omega
theorem cntTo_full (F : Spot → Int) (lo : Spot) (ny nx : Nat) : cntTo F lo ny nx 0 = Pick.boxSum F lo.X lo.Y nx ny := by
  unfold cntTo Pick.boxSum; simp only [sumUp]; omega
def inF (xs : List Spot) (p : Spot) : Int := Pick.inCount xs.length (nth xs) p
def onF (xs : List Spot) (p : Spot) : Int := Pick.onCount xs.length (nth xs) p
/-- Where a spot is, and what it counts. -/
theorem place_count {xs : List Spot} (h : okOutline xs = true) {p : Spot} (hp : okSpot p = true) :
    (placeOf xs p = (⟨#[101, 100, 103, 101]⟩, 0) ∧ inF xs p = 0 ∧ onF xs p = 1) ∨ (placeOf xs p = (⟨#[105, 110, 115, 105, 100, 101]⟩, 0) ∧ inF xs p = 1 ∧ onF xs p = 0) ∨ (placeOf xs p = (⟨#[111, 117, 116, 115, 105, 100, 101]⟩, 0) ∧ inF xs p = 0 ∧ onF xs p = 0) := by
  rcases place_is h hp with ⟨a, b, c⟩ | ⟨a, b, c⟩ | ⟨a, b, _, c⟩
  · exact Or.inl ⟨c, b, a⟩
  · exact Or.inr (Or.inl ⟨c, b, a⟩)
  · exact Or.inr (Or.inr ⟨c, b, a⟩)
theorem count_all {xs : List Spot} (h : okOutline xs = true) {nx ny : Nat} (hx : (hiTo xs xs.length).X - (loTo xs xs.length).X + 1 = nx) (hy : (hiTo xs xs.length).Y - (loTo xs xs.length).Y + 1 = ny) :
    cntTo (inF xs) (loTo xs xs.length) ny nx 0 = (spotsInside xs).1 ∧ cntTo (onF xs) (loTo xs xs.length) ny nx 0 = (spotsInside xs).2.1 := by
  rw [cntTo_full, cntTo_full]
  exact pick_place h hx hy
/-- What lies in the outline lies on a side of the hull or inside of it. -/
theorem hull_two {xs : List Spot} (h : okOutline xs = true) {p : Spot} (hp : okSpot p = true) (hin : placeOf (hullL xs) p ≠ (outB, 0)) : ∃ P : ByteArray, placeOf (hullL xs) p = (P, 0) ∧ (P = ⟨#[101, 100, 103, 101]⟩ ∨ P = ⟨#[105, 110, 115, 105, 100, 101]⟩) := by
  rcases place_count (hull_ok h).1 hp with ⟨a, _⟩ | ⟨a, _⟩ | ⟨a, _⟩
  · exact ⟨_, a, Or.inl rfl⟩
  · exact ⟨_, a, Or.inr rfl⟩
  · exact absurd a hin
theorem hullX_ok {xs : List Spot} (h : okOutline xs = true) : hullCode xs = 0 ∧ hullX xs = hullL xs ∧ hullCode (hullL xs) = 0 ∧ hullX (hullL xs) = hullL xs ∧ (hullL xs).length ≤ xs.length ∧ hollow xs = (decide ((hullL xs).length < xs.length), 0) := by
  obtain ⟨o, l⟩ := hull_ok h
  exact ⟨by simp [hullCode, h], by simp [hullX, h], by simp [hullCode, o], by rw [hullX, if_pos o, hull_again h], l, by simp [hollow, h]⟩
theorem box_lo {xs : List Spot} (h : okOutline xs = true) : box xs = (loTo xs xs.length, hiTo xs xs.length, 0) := by simp [box, h]
theorem box_range {xs : List Spot} (h : okOutline xs = true) : (0 ≤ (loTo xs xs.length).X ∧ (loTo xs xs.length).X ≤ (hiTo xs xs.length).X ∧ (hiTo xs xs.length).X ≤ 10000) ∧ 0 ≤ (loTo xs xs.length).Y ∧ (loTo xs xs.length).Y ≤ (hiTo xs xs.length).Y ∧ (hiTo xs xs.length).Y ≤ 10000 := by
  obtain ⟨⟨⟨h3, _⟩, hok⟩, _⟩ := okOutline_iff.1 h
  have hn := fun i => okSpot_iff.1 (nth_ok hok i)
  have g := loTo_ge (xs := xs) (c := 0) (d := 0) (fun i => by have := hn i; omega) xs.length
  have g2 := hiTo_ge (xs := xs) (c := 10000) (d := 10000) (fun i => by have := hn i; omega) xs.length
  have l := loTo_le xs xs.length 0 (by omega)
  have l2 := hiTo_le xs xs.length 0 (by omega)
  omega
end Go.Proofs.Ytlaclknhenccdaa
