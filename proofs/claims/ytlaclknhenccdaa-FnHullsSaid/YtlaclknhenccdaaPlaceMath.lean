/- Where a spot is, by how often the way goes round it; how many spots are inside. -/
import Derived.Test.YtlaclknhenccdaaOutLaw
namespace Go.Proofs.Ytlaclknhenccdaa
open Go.RowKit

def inB : ByteArray := ⟨#[105, 110, 115, 105, 100, 101]⟩
def outB : ByteArray := ⟨#[111, 117, 116, 115, 105, 100, 101]⟩
def edgeB : ByteArray := ⟨#[101, 100, 103, 101]⟩
theorem crs_at (a b p : Spot) : crs a b p = Pick.cr (Pick.sb a p) (Pick.sb b p) := by unfold crs Pick.cr Pick.sb; grind
/-- A way to the right crosses a side just where the way round turns. -/
theorem cross_turn (p a b : Spot) : (crossAt p a b = true ∧ (Pick.turn (Pick.sb a p) (Pick.sb b p) = 1 ∨ Pick.turn (Pick.sb a p) (Pick.sb b p) = -1)) ∨ (crossAt p a b = false ∧ Pick.turn (Pick.sb a p) (Pick.sb b p) = 0) := by
  unfold crossAt Pick.turn
  rw [crs_at]
  have ya : (Pick.sb a p).Y = a.Y - p.Y := rfl
  have yb : (Pick.sb b p).Y = b.Y - p.Y := rfl
  generalize Pick.cr (Pick.sb a p) (Pick.sb b p) = c
  generalize (Pick.sb a p).Y = u at *
  generalize (Pick.sb b p).Y = v at *
  by_cases h1 : a.Y ≤ p.Y ∧ p.Y < b.Y ∧ 0 < c
  · left
    rw [if_pos (by omega)]
    exact ⟨by simp [h1], Or.inl rfl⟩
  · by_cases h2 : b.Y ≤ p.Y ∧ p.Y < a.Y ∧ c < 0
    · left
      rw [if_neg (by omega), if_pos (by omega)]
      exact ⟨by simp [h2], Or.inr rfl⟩
    · right
      rw [if_neg (by omega), if_neg (by omega)]
      refine ⟨?_, rfl⟩
      rw [Bool.eq_false_iff]
      intro hc
      simp only [Bool.or_eq_true, Bool.and_eq_true, decide_eq_true_eq] at hc
      rcases hc with hc | hc
      · exact h1 ⟨hc.1.1, hc.1.2, hc.2⟩
      · exact h2 ⟨hc.1.1, hc.1.2, hc.2⟩
theorem inside_iff (xs : List Spot) (p : Spot) : ∀ k, insideTo xs p k = true ↔ sumUp (Pick.windAt (nth xs) p) k % 2 = 1
  | 0 => by simp [insideTo, sumUp]
  | k + 1 => by
    have ih := inside_iff xs p k
    have e : sumUp (Pick.windAt (nth xs) p) (k + 1) = sumUp (Pick.windAt (nth xs) p) k + Pick.turn (Pick.sb (nth xs k) p) (Pick.sb (nth xs (k + 1)) p) := rfl
    have e2 : insideTo xs p (k + 1) = if crossAt p (nth xs k) (nth xs (k + 1)) then !insideTo xs p k else insideTo xs p k := rfl
    rw [e, e2]
    rcases cross_turn p (nth xs k) (nth xs (k + 1)) with ⟨h1, h2⟩ | ⟨h1, h2⟩
    · rw [h1, if_pos rfl]
      cases hb : insideTo xs p k
      · rw [hb] at ih
        simp only [Bool.false_eq_true, false_iff] at ih
        simp; omega
      · rw [hb] at ih
        simp only [true_iff] at ih
        simp; omega
    · rw [h1, h2, if_neg (by decide), Int.add_zero]; exact ih
theorem inside_odd (xs : List Spot) (p : Spot) (k : Nat) : insideTo xs p k = decide (sumUp (Pick.windAt (nth xs) p) k % 2 = 1) := by
  rw [Bool.eq_iff_iff, inside_iff]; simp
theorem edge_on {xs : List Spot} (h : okOutline xs = true) (p : Spot) : (∃ i, i < xs.length ∧ edgeAt xs p i = true) ↔ Pick.onCount xs.length (nth xs) p = 1 := by
  have hr := ring_ok h
  have h3 := hr.three
  constructor
  · rintro ⟨i, hi, he⟩
    unfold edgeAt onS betw at he
    simp only [Bool.and_eq_true, beq_iff_eq, inr_true] at he
    obtain ⟨h0, hx, hy⟩ := he
    rw [crs_at] at h0
    obtain ⟨t, ht, e⟩ := hr.on_side i h0 hx hy
    by_cases c : t < Pick.gl (nth xs) i
    · exact Pick.onCount_yes hr hi c e
    · have ce : t = Pick.gl (nth xs) i := by omega
      rw [ce, Pick.pt_last] at e
      have hm := hr.mod (i + 1)
      exact Pick.onCount_yes hr (i := (i + 1) % xs.length) (t := 0) (Nat.mod_lt _ (by omega)) (hr.gl_pos _) (by rw [Pick.pt_zero, ← hm]; exact e)
  · intro hc
    rcases hr.onCount_or p with ⟨_, i, t, hi, ht, e⟩ | ⟨h0, _⟩
    · refine ⟨i, hi, ?_⟩
      have hg := hr.gl_pos i
      have x1 := Pick.pt_mulX (nth xs) i t
      have y1 := Pick.pt_mulY (nth xs) i t
      rw [← e] at x1 y1
      have b1 := Pick.mid_in (hi := max (nth xs i).X (nth xs (i + 1)).X + 1) (lo := min (nth xs i).X (nth xs (i + 1)).X) (by omega) (by omega) (by omega) x1 (by omega) (by omega) (by omega) (by omega)
      have b2 := Pick.mid_in (hi := max (nth xs i).Y (nth xs (i + 1)).Y + 1) (lo := min (nth xs i).Y (nth xs (i + 1)).Y) (by omega) (by omega) (by omega) y1 (by omega) (by omega) (by omega) (by omega)
      have c0 : crs (nth xs i) (nth xs (i + 1)) p = 0 := by
        have : (Pick.gl (nth xs) i : Int) * crs (nth xs i) (nth xs (i + 1)) p = ((nth xs (i + 1)).X - (nth xs i).X) * ((Pick.gl (nth xs) i : Int) * p.Y - Pick.gl (nth xs) i * (nth xs i).Y) - ((nth xs (i + 1)).Y - (nth xs i).Y) * ((Pick.gl (nth xs) i : Int) * p.X - Pick.gl (nth xs) i * (nth xs i).X) := by unfold crs; grind
        rw [x1, y1] at this
        have z : (Pick.gl (nth xs) i : Int) * crs (nth xs i) (nth xs (i + 1)) p = 0 := by rw [this]; grind
        rcases Int.mul_eq_zero.1 z with q | q <;> omega
      unfold edgeAt onS betw
      rw [c0]
      have i1 : inr p.X (min (nth xs i).X (nth xs (i + 1)).X) (max (nth xs i).X (nth xs (i + 1)).X) = true := inr_true.2 (by omega)
      have i2 : inr p.Y (min (nth xs i).Y (nth xs (i + 1)).Y) (max (nth xs i).Y (nth xs (i + 1)).Y) = true := inr_true.2 (by omega)
      rw [i1, i2]; rfl
    · omega
/-- Where a spot is. -/
theorem place_is {xs : List Spot} (h : okOutline xs = true) {p : Spot} (hp : okSpot p = true) :
    (Pick.onCount xs.length (nth xs) p = 1 ∧ Pick.inCount xs.length (nth xs) p = 0 ∧ placeOf xs p = (edgeB, 0)) ∨
    (Pick.onCount xs.length (nth xs) p = 0 ∧ Pick.inCount xs.length (nth xs) p = 1 ∧ placeOf xs p = (inB, 0)) ∨
    (Pick.onCount xs.length (nth xs) p = 0 ∧ Pick.inCount xs.length (nth xs) p = 0 ∧ Pick.wind xs.length (nth xs) p = 0 ∧ placeOf xs p = (outB, 0)) := by
  have hr := ring_ok h
  rcases hr.onCount_or p with ⟨e1, _⟩ | ⟨e1, e2⟩
  · left
    obtain ⟨i, hi, he⟩ := (edge_on h p).2 e1
    have hf : (allUpto xs.length fun i => !edgeAt xs p i) = false := allUpto_false hi (by simp [he])
    refine ⟨e1, by unfold Pick.inCount; rw [if_neg (by omega)], ?_⟩
    unfold placeOf
    rw [if_pos h, if_pos hp, hf]; rfl
  · have hno : (allUpto xs.length fun i => !edgeAt xs p i) = true := allUpto_true fun i hi => by
      cases hc : edgeAt xs p i
      · rfl
      · have := (edge_on h p).1 ⟨i, hi, hc⟩; omega
    have hpl : placeOf xs p = if insideTo xs p xs.length then (inB, 0) else (outB, 0) := by
      unfold placeOf
      rw [if_pos h, if_pos hp, hno]; rfl
    have hin := inside_odd xs p xs.length
    have hw : sumUp (Pick.windAt (nth xs) p) xs.length = Pick.wind xs.length (nth xs) p := rfl
    rw [hw] at hin
    right
    rcases Pick.wind_off hr p (hr.off_rows e2) with q | q
    · right
      refine ⟨e1, by unfold Pick.inCount; rw [if_neg (fun k => k.2 q)], q, ?_⟩
      rw [hpl, hin, q]; rfl
    · left
      have ht := Pick.turns_one hr
      refine ⟨e1, by unfold Pick.inCount; rw [if_pos ⟨e1, by rw [q]; omega⟩], ?_⟩
      have : decide (Pick.wind xs.length (nth xs) p % 2 = 1) = true := by rw [q]; simp; omega
      rw [hpl, hin, this]; rfl
/-- How many spots are inside, how many on sides: the spots of the box, counted. -/
theorem pick_place {xs : List Spot} (h : okOutline xs = true) {nx ny : Nat} (hx : (hiTo xs xs.length).X - (loTo xs xs.length).X + 1 = nx) (hy : (hiTo xs xs.length).Y - (loTo xs xs.length).Y + 1 = ny) :
    Pick.boxSum (Pick.inCount xs.length (nth xs)) (loTo xs xs.length).X (loTo xs xs.length).Y nx ny = (spotsInside xs).1 ∧ Pick.boxSum (Pick.onCount xs.length (nth xs)) (loTo xs xs.length).X (loTo xs xs.length).Y nx ny = (spotsInside xs).2.1 := by
  obtain ⟨⟨⟨h3, _⟩, hok⟩, _⟩ := okOutline_iff.1 h
  have hr := ring_ok h
  have hb : ∀ i, Pick.InBox (loTo xs xs.length).X (loTo xs xs.length).Y nx ny (nth xs i) := fun i => by
    have e := Pick.nth_modr xs i 0
    simp only [Nat.add_zero] at e
    rw [← e]
    have hi := Nat.mod_lt i (show 0 < xs.length by omega)
    have l1 := loTo_le xs xs.length _ hi
    have l2 := hiTo_le xs xs.length _ hi
    exact ⟨by omega, by omega⟩
  obtain ⟨p1, p2⟩ := Pick.pick hr hb
  have a := Pick.area_pos hr hb
  have hs : spotsInside xs = ((size (twice xs) - onSides xs + 2).tdiv 2, onSides xs, 0) := by simp [spotsInside, h]
  have hrim : Pick.rim xs.length (nth xs) = onSides xs := rfl
  rw [area2_twice] at p1 a
  rw [hrim] at p1 p2
  have hsz : size (twice xs) = Pick.turns xs.length (nth xs) * twice xs := by
    unfold size
    rcases Pick.turns_one hr with q | q <;> rw [q] at a ⊢ <;> omega
  rw [hs]
  refine ⟨?_, p2⟩
  simp only
  rw [hsz, ← p1, Int.mul_comm, Int.mul_tdiv_cancel _ (by decide)]
theorem box_spot {xs : List Spot} (h : okOutline xs = true) {p : Spot} (hx : (loTo xs xs.length).X ≤ p.X ∧ p.X ≤ (hiTo xs xs.length).X) (hy : (loTo xs xs.length).Y ≤ p.Y ∧ p.Y ≤ (hiTo xs xs.length).Y) : okSpot p = true := by
  obtain ⟨⟨⟨h3, _⟩, hok⟩, _⟩ := okOutline_iff.1 h
  have hn := fun i => okSpot_iff.1 (nth_ok hok i)
  have g := loTo_ge (xs := xs) (c := 0) (d := 0) (fun i => by have := hn i; omega) xs.length
  have g2 := hiTo_ge (xs := xs) (c := 10000) (d := 10000) (fun i => by have := hn i; omega) xs.length
  rw [okSpot_iff]; omega
/-- A spot from which all corners lie in one half of the plane is outside. -/
theorem place_far {xs : List Spot} (h : okOutline xs = true) {p : Spot} (hp : okSpot p = true) {A B : Int} (hA : ∀ x ∈ xs, Pick.Half A B (Pick.sb x p)) : placeOf xs p = (outB, 0) := by
  obtain ⟨⟨⟨h3, _⟩, hok⟩, _⟩ := okOutline_iff.1 h
  have hr := ring_ok h
  have hn : ∀ i, Pick.Half A B (Pick.sb (nth xs i) p) := nth_all (by omega) hA
  have hw : Pick.wind xs.length (nth xs) p = 0 := by
    unfold Pick.wind
    have t := Pick.sumUp_tele (fun i => if 0 < A then Pick.upw1 (Pick.sb (nth xs i) p) else 0) xs.length
    have e0 := hr.per 0
    rw [Nat.zero_add] at e0
    simp only [e0] at t
    rw [← show sumUp (fun i => (if 0 < A then Pick.upw1 (Pick.sb (nth xs (i + 1)) p) else 0) - (if 0 < A then Pick.upw1 (Pick.sb (nth xs i) p) else 0)) xs.length = 0 by rw [t]; omega]
    refine Pick.sumUp_congr fun i _ => ?_
    unfold Pick.windAt
    rw [Pick.turn_half (hn i) (hn (i + 1))]
    split <;> simp
  have hoff : ¬ Pick.onCount xs.length (nth xs) p = 1 := fun hc => by
    obtain ⟨i, hi, he⟩ := (edge_on h p).2 hc
    have g : ∀ i, Pick.Half (-A) (-B) (Pick.sb p (nth xs i)) := fun i => by have := Pick.half_ng (hn i); rwa [Pick.sb_ng] at this
    have := Pick.not_on (g i) (g (i + 1))
    unfold edgeAt at he
    rw [this] at he; cases he
  rcases place_is h hp with ⟨e, _⟩ | ⟨e, e2, _⟩ | ⟨_, _, _, e⟩
  · exact absurd e hoff
  · exfalso
    unfold Pick.inCount at e2
    rw [if_neg (fun k => k.2 hw)] at e2
    cases e2
  · exact e
end Go.Proofs.Ytlaclknhenccdaa
