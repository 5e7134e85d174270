/- Chapter 5, gradings: what is computed (plain), and how a grade lies in a variable. -/
import Derived.Test.YtaeinllbjkjhlaaGreatDoorGrade
import Derived.Test.YtaeinllbjkjhlaaGreatDoorLastsV
namespace Go.Proofs.YtaeinllbjkjhlaaGreatDoor
open Go.RowKit

def gNums (g : Grade) : List Int := [g.Length, g.Ball, g.Instep, g.Heel, g.Pitch]
def lNums (x : Last) : List Int := [x.Length, x.Ball, x.Instep, x.Heel, x.Pitch]
def okGrade (g : Grade) : Bool := !outs (gNums g) 0 20000
theorem okGrade_iff {g : Grade} : okGrade g = true ↔ (0 ≤ g.Length ∧ g.Length ≤ 20000) ∧ (0 ≤ g.Ball ∧ g.Ball ≤ 20000) ∧ (0 ≤ g.Instep ∧ g.Instep ≤ 20000) ∧ (0 ≤ g.Heel ∧ g.Heel ≤ 20000) ∧ (0 ≤ g.Pitch ∧ g.Pitch ≤ 20000) := by
  unfold okGrade
  rw [Bool.not_eq_true', outs_false]
  simp [gNums]
def addG (n each steps : Int) : Int := n + rnd (each * steps) 100
def gLast (x : Last) (g : Grade) (s : Int) : Last := ⟨x.Name, addG x.Length g.Length s, addG x.Ball g.Ball s, addG x.Instep g.Instep s, addG x.Heel g.Heel s, addG x.Pitch g.Pitch s⟩
def isSt (n : Int) : Bool := inr n (-30) 30
def lastZ : Last := ⟨ByteArray.empty, 0, 0, 0, 0, 0⟩
def gradeZ : Grade := ⟨0, 0, 0, 0, 0⟩
theorem mul_st {b s : Int} (hb : 0 ≤ b ∧ b ≤ 20000) (hs : -30 ≤ s ∧ s ≤ 30) : -600000 ≤ b * s ∧ b * s ≤ 600000 := by
  have h1 := Int.mul_le_mul_of_nonneg_left hs.2 hb.1
  have h2 := Int.mul_le_mul_of_nonneg_left hs.1 hb.1
  omega
theorem rnd_in {n : Int} (h : -600000 ≤ n ∧ n ≤ 600000) : -7000 ≤ rnd n 100 ∧ rnd n 100 ≤ 7000 := by unfold rnd; omega
theorem addG_zero (n b : Int) : addG n b 0 = n := by unfold addG rnd; simp
theorem gLast_zero (x : Last) (g : Grade) : gLast x g 0 = x := by unfold gLast; simp only [addG_zero]
theorem addG_mono {n b s : Int} (hb : 0 ≤ b) : addG n b s ≤ addG n b (s + 1) := by
  have h : b * s ≤ b * (s + 1) := Int.mul_le_mul_of_nonneg_left (by omega) hb
  unfold addG rnd
  generalize b * s = p at *
  generalize b * (s + 1) = q at *
  omega
/-- A last after half sizes: the code and the last. -/
def glOk (x : Last) (g : Grade) : Bool := okLast x && okGrade g
def glCode (x : Last) (g : Grade) (s : Int) : Int := if glOk x g then (if isSt s then (if okLast (gLast x g s) then 0 else 5) else 2) else 1
def glRes (x : Last) (g : Grade) (s : Int) : Last := if glCode x g s = 0 then gLast x g s else lastZ
theorem gl_bad {x : Last} {g : Grade} {s : Int} (h : glOk x g = false) : glCode x g s = 1 ∧ glRes x g s = lastZ := by
  have : glCode x g s = 1 := by unfold glCode; rw [h]; rfl
  exact ⟨this, by unfold glRes; rw [this]; rfl⟩
theorem gl_range {x : Last} {g : Grade} {s : Int} (h : glOk x g = true) (h2 : isSt s = false) : glCode x g s = 2 ∧ glRes x g s = lastZ := by
  have : glCode x g s = 2 := by unfold glCode; rw [h, h2]; rfl
  exact ⟨this, by unfold glRes; rw [this]; rfl⟩
theorem gl_full {x : Last} {g : Grade} {s : Int} (h : glOk x g = true) (h2 : isSt s = true) (h3 : okLast (gLast x g s) = false) : glCode x g s = 5 ∧ glRes x g s = lastZ := by
  have : glCode x g s = 5 := by unfold glCode; rw [h, h2, h3]; rfl
  exact ⟨this, by unfold glRes; rw [this]; rfl⟩
theorem gl_ok {x : Last} {g : Grade} {s : Int} (h : glOk x g = true) (h2 : isSt s = true) (h3 : okLast (gLast x g s) = true) : glCode x g s = 0 ∧ glRes x g s = gLast x g s := by
  have : glCode x g s = 0 := by unfold glCode; rw [h, h2, h3]; rfl
  exact ⟨this, by unfold glRes; rw [this]; rfl⟩
/-- The lasts after d half sizes from k on, if all are valid. -/
def gsTo (x : Last) (g : Grade) : Nat → Int → Option (List Last)
  | 0, _ => some []
  | d + 1, k => if okLast (gLast x g k) then (gsTo x g d (k + 1)).map (gLast x g k :: ·) else none
def gsRng (f t : Int) : Bool := isSt f && inr t f 30
def gsAll (x : Last) (g : Grade) (f t : Int) : Option (List Last) := gsTo x g (t + 1 - f).toNat f
def gsCode (x : Last) (g : Grade) (f t : Int) : Int := if glOk x g then (if gsRng f t then (if (gsAll x g f t).isSome then 0 else 5) else 2) else 1
def gsRow (x : Last) (g : Grade) (f t : Int) : List Last := if gsCode x g f t = 0 then (gsAll x g f t).getD [] else []
theorem gs_bad {x : Last} {g : Grade} {f t : Int} (h : glOk x g = false) : gsCode x g f t = 1 ∧ gsRow x g f t = [] := by
  have : gsCode x g f t = 1 := by unfold gsCode; rw [h]; rfl
  exact ⟨this, by unfold gsRow; rw [this]; rfl⟩
theorem gs_range {x : Last} {g : Grade} {f t : Int} (h : glOk x g = true) (h2 : gsRng f t = false) : gsCode x g f t = 2 ∧ gsRow x g f t = [] := by
  have : gsCode x g f t = 2 := by unfold gsCode; rw [h, h2]; rfl
  exact ⟨this, by unfold gsRow; rw [this]; rfl⟩
theorem gs_full {x : Last} {g : Grade} {f t : Int} (h : glOk x g = true) (h2 : gsRng f t = true) (h3 : gsAll x g f t = none) : gsCode x g f t = 5 ∧ gsRow x g f t = [] := by
  have : gsCode x g f t = 5 := by unfold gsCode; rw [h, h2, h3]; rfl
  exact ⟨this, by unfold gsRow; rw [this]; rfl⟩
theorem gs_ok {x : Last} {g : Grade} {f t : Int} {ys : List Last} (h : glOk x g = true) (h2 : gsRng f t = true) (h3 : gsAll x g f t = some ys) : gsCode x g f t = 0 ∧ gsRow x g f t = ys := by
  have : gsCode x g f t = 0 := by unfold gsCode; rw [h, h2, h3]; rfl
  exact ⟨this, by unfold gsRow; rw [this, h3]; rfl⟩
theorem gsTo_bad {x : Last} {g : Grade} {d : Nat} {k : Int} (h : okLast (gLast x g k) = false) : gsTo x g (d + 1) k = none := if_neg (by rw [h]; decide)
theorem gsTo_next {x : Last} {g : Grade} {d : Nat} {k : Int} (h : okLast (gLast x g k) = true) : gsTo x g (d + 1) k = (gsTo x g d (k + 1)).map (gLast x g k :: ·) := if_pos h
theorem gsTo_acc {x : Last} {g : Grade} {d : Nat} {k : Int} {acc : List Last} (h : okLast (gLast x g k) = true) : (gsTo x g (d + 1) k).map (acc ++ ·) = (gsTo x g d (k + 1)).map ((acc ++ [gLast x g k]) ++ ·) := by
  rw [gsTo_next h, Option.map_map]
  congr 1
  funext l
  simp
theorem gsTo_some {x : Last} {g : Grade} : ∀ (d : Nat) (k : Int) (ys : List Last), gsTo x g d k = some ys → ys.length = d ∧ ∀ i (h : i < ys.length), ys[i] = gLast x g (k + i) ∧ okLast ys[i] = true
  | 0, k, ys, e => by
    cases e
    exact ⟨rfl, fun i h => absurd h (Nat.not_lt_zero _)⟩
  | d + 1, k, ys, e => by
    unfold gsTo at e
    split at e
    · rename_i hk
      cases hr : gsTo x g d (k + 1) with
      | none => rw [hr] at e; cases e
      | some zs =>
        rw [hr] at e
        cases e
        obtain ⟨h1, h2⟩ := gsTo_some d (k + 1) zs hr
        refine ⟨by simp [h1], fun i hi => ?_⟩
        cases i with
        | zero => simp [hk]
        | succ i =>
          have hi' : i < zs.length := by simpa using hi
          obtain ⟨h3, h4⟩ := h2 i hi'
          simp only [List.getElem_cons_succ]
          refine ⟨?_, h4⟩
          rw [h3]
          congr 1
          omega
    · cases e
/-- What a law asks of graded lasts. -/
theorem gs_facts {x : Last} {g : Grade} {f t : Int} {R : List Last} (hR0 : R = gsRow x g f t) (e : gsCode x g f t = 0) : (-30 ≤ f ∧ f ≤ t ∧ t ≤ 30) ∧ glOk x g = true ∧ (R.length : Int) = t - f + 1 ∧ (∀ i (h : i < R.length), glCode x g (f + i) = 0 ∧ glRes x g (f + i) = R[i]) ∧ ∀ i (h : i + 1 < R.length), R[i].Length ≤ R[i + 1].Length := by
  cases h1 : glOk x g
  · rw [(gs_bad h1).1] at e; cases e
  cases h2 : gsRng f t
  · rw [(gs_range h1 h2).1] at e; cases e
  cases h3 : gsAll x g f t with
  | none => rw [(gs_full h1 h2 h3).1] at e; cases e
  | some ys =>
    obtain rfl : R = ys := hR0.trans (gs_ok h1 h2 h3).2
    have hr : (-30 ≤ f ∧ f ≤ 30) ∧ (f ≤ t ∧ t ≤ 30) := by
      unfold gsRng isSt at h2
      rw [Bool.and_eq_true, inr_true, inr_true] at h2
      exact h2
    clear hR0
    obtain ⟨hl, hy⟩ := gsTo_some _ _ _ h3
    refine ⟨⟨hr.1.1, hr.2.1, hr.2.2⟩, rfl, by omega, fun i hi => ?_, fun i hi => ?_⟩
    · obtain ⟨a, b⟩ := hy i hi
      rw [a] at b
      have := gl_ok h1 (s := f + i) (inr_true.2 ⟨by omega, by omega⟩) b
      rw [a]; exact this
    · rw [(hy i (by omega)).1, (hy (i + 1) hi).1]
      have hg : 0 ≤ g.Length := by
        unfold glOk at h1
        rw [Bool.and_eq_true] at h1
        exact (okGrade_iff.1 h1.2).1.1
      have := addG_mono (n := x.Length) (s := f + i) hg
      show addG x.Length g.Length (f + i) ≤ addG x.Length g.Length (f + ((i + 1 : Nat) : Int))
      rw [show f + ((i + 1 : Nat) : Int) = f + i + 1 by omega]
      exact this
/-- The grade between two lasts. -/
def gbG (a b : Last) (s : Int) : Grade := ⟨rnd (100 * (b.Length - a.Length)) s, rnd (100 * (b.Ball - a.Ball)) s, rnd (100 * (b.Instep - a.Instep)) s, rnd (100 * (b.Heel - a.Heel)) s, rnd (100 * (b.Pitch - a.Pitch)) s⟩
def gbOk (a b : Last) : Bool := okLast a && okLast b
def gbCode (a b : Last) (s : Int) : Int := if gbOk a b then (if inr s 1 30 then (if okGrade (gbG a b s) then 0 else 6) else 2) else 1
def gbRes (a b : Last) (s : Int) : Grade := if gbCode a b s = 0 then gbG a b s else gradeZ
theorem gb_bad {a b : Last} {s : Int} (h : gbOk a b = false) : gbCode a b s = 1 ∧ gbRes a b s = gradeZ := by
  have : gbCode a b s = 1 := by unfold gbCode; rw [h]; rfl
  exact ⟨this, by unfold gbRes; rw [this]; rfl⟩
theorem gb_range {a b : Last} {s : Int} (h : gbOk a b = true) (h2 : inr s 1 30 = false) : gbCode a b s = 2 ∧ gbRes a b s = gradeZ := by
  have : gbCode a b s = 2 := by unfold gbCode; rw [h, h2]; rfl
  exact ⟨this, by unfold gbRes; rw [this]; rfl⟩
theorem gb_state {a b : Last} {s : Int} (h : gbOk a b = true) (h2 : inr s 1 30 = true) (h3 : okGrade (gbG a b s) = false) : gbCode a b s = 6 ∧ gbRes a b s = gradeZ := by
  have : gbCode a b s = 6 := by unfold gbCode; rw [h, h2, h3]; rfl
  exact ⟨this, by unfold gbRes; rw [this]; rfl⟩
theorem gb_ok {a b : Last} {s : Int} (h : gbOk a b = true) (h2 : inr s 1 30 = true) (h3 : okGrade (gbG a b s) = true) : gbCode a b s = 0 ∧ gbRes a b s = gbG a b s := by
  have : gbCode a b s = 0 := by unfold gbCode; rw [h, h2, h3]; rfl
  exact ⟨this, by unfold gbRes; rw [this]; rfl⟩
theorem gb_in {m n s : Int} (hm : 0 ≤ m ∧ m ≤ 5000) (hn : 0 ≤ n ∧ n ≤ 5000) (hs : 1 ≤ s ∧ s ≤ 30) : -2000000 ≤ rnd (100 * (n - m)) s ∧ rnd (100 * (n - m)) s ≤ 2000000 := by
  unfold rnd
  have h1 : (2 * (100 * (n - m)) + s) / (2 * s) ≤ 2 * (100 * (n - m)) + s ∨ 2 * (100 * (n - m)) + s < 0 := by
    by_cases h : 0 ≤ 2 * (100 * (n - m)) + s
    · exact Or.inl (Int.ediv_le_self _ h)
    · exact Or.inr (by omega)
  have h2 : (2 * (100 * (n - m)) + s) / (2 * s) ≤ 2000000 := by
    rcases h1 with h | h
    · omega
    · have := Int.ediv_neg_of_neg_of_pos h (show 0 < 2 * s by omega)
      omega
  refine ⟨?_, h2⟩
  apply Int.le_ediv_of_mul_le (by omega)
  omega
/-- The least half sizes with a length. -/
def sfFrom (x : Last) (g : Grade) (n : Int) : Nat → Int → Option Int
  | 0, _ => none
  | d + 1, k => if n ≤ addG x.Length g.Length k then some k else sfFrom x g n d (k + 1)
def sfAll (x : Last) (g : Grade) (n : Int) : Option Int := sfFrom x g n 61 (-30)
def sfCode (x : Last) (g : Grade) (n : Int) : Int := if glOk x g then (if inr n 500 5000 then (if (sfAll x g n).isSome then 0 else 3) else 2) else 1
def sfRes (x : Last) (g : Grade) (n : Int) : Int := if sfCode x g n = 0 then (sfAll x g n).getD 0 else 0
theorem sf_bad {x : Last} {g : Grade} {n : Int} (h : glOk x g = false) : sfCode x g n = 1 ∧ sfRes x g n = 0 := by
  have : sfCode x g n = 1 := by unfold sfCode; rw [h]; rfl
  exact ⟨this, by unfold sfRes; rw [this]; rfl⟩
theorem sf_range {x : Last} {g : Grade} {n : Int} (h : glOk x g = true) (h2 : inr n 500 5000 = false) : sfCode x g n = 2 ∧ sfRes x g n = 0 := by
  have : sfCode x g n = 2 := by unfold sfCode; rw [h, h2]; rfl
  exact ⟨this, by unfold sfRes; rw [this]; rfl⟩
theorem sf_none {x : Last} {g : Grade} {n : Int} (h : glOk x g = true) (h2 : inr n 500 5000 = true) (h3 : sfAll x g n = none) : sfCode x g n = 3 ∧ sfRes x g n = 0 := by
  have : sfCode x g n = 3 := by unfold sfCode; rw [h, h2, h3]; rfl
  exact ⟨this, by unfold sfRes; rw [this]; rfl⟩
theorem sf_some {x : Last} {g : Grade} {n k : Int} (h : glOk x g = true) (h2 : inr n 500 5000 = true) (h3 : sfAll x g n = some k) : sfCode x g n = 0 ∧ sfRes x g n = k := by
  have : sfCode x g n = 0 := by unfold sfCode; rw [h, h2, h3]; rfl
  exact ⟨this, by unfold sfRes; rw [this, h3]; rfl⟩
theorem sfFrom_is {x : Last} {g : Grade} {n : Int} : ∀ (d : Nat) (h k : Int), sfFrom x g n d h = some k → n ≤ addG x.Length g.Length k ∧ h ≤ k ∧ k < h + d ∧ ∀ j, h ≤ j → j < k → addG x.Length g.Length j < n
  | 0, h, k, e => by cases e
  | d + 1, h, k, e => by
    unfold sfFrom at e
    split at e
    · rename_i hl
      cases e
      exact ⟨hl, by omega, by omega, fun j h1 h2 => by omega⟩
    · rename_i hl
      obtain ⟨h1, h2, h3, h4⟩ := sfFrom_is d (h + 1) k e
      refine ⟨h1, by omega, by omega, fun j j1 j2 => ?_⟩
      by_cases hj : j = h
      · subst hj; omega
      · exact h4 j (by omega) j2
/-- What a law asks of the least half sizes. -/
theorem sf_facts {x : Last} {g : Grade} {n : Int} (e : sfCode x g n = 0) : (-30 ≤ sfRes x g n ∧ sfRes x g n ≤ 30) ∧ glCode x g (sfRes x g n) ≠ 1 ∧ (glCode x g (sfRes x g n) = 0 → n ≤ (glRes x g (sfRes x g n)).Length) ∧ (-30 < sfRes x g n → glCode x g (sfRes x g n - 1) = 0 → (glRes x g (sfRes x g n - 1)).Length < n) := by
  cases h1 : glOk x g
  · rw [(sf_bad h1).1] at e; cases e
  cases h2 : inr n 500 5000
  · rw [(sf_range h1 h2).1] at e; cases e
  cases h3 : sfAll x g n with
  | none => rw [(sf_none h1 h2 h3).1] at e; cases e
  | some k =>
    rw [(sf_some h1 h2 h3).2]
    obtain ⟨a1, a2, a3, a4⟩ := sfFrom_is 61 (-30) k h3
    refine ⟨⟨a2, by omega⟩, ?_, fun hc => ?_, fun hk hc => ?_⟩
    · unfold glCode
      rw [h1]
      simp only [if_true]
      split
      · split <;> decide
      · decide
    · unfold glRes
      rw [if_pos hc]
      exact a1
    · unfold glRes
      rw [if_pos hc]
      exact a4 (k - 1) (by omega) (by omega)
/-- A variable that holds a grade, cell by cell. -/
def gradeC (x : Grade) : List OneCell := [⟨.int .i64 x.Length, rfl⟩, ⟨.int .i64 x.Ball, rfl⟩, ⟨.int .i64 x.Instep, rfl⟩, ⟨.int .i64 x.Heel, rfl⟩, ⟨.int .i64 x.Pitch, rfl⟩]
theorem own_gradeC (w : World) (t : TypeId) (x : Grade) : Own w.heap.size (w.alloc (.cells #[.int .i64 x.Length, .int .i64 x.Ball, .int .i64 x.Instep, .int .i64 x.Heel, .int .i64 x.Pitch] t)) t (.slice (some ⟨w.heap.size, 0, none⟩) 5 5) (gradeC x) :=
  ⟨rfl, .inr ⟨w.heap.size, 5, #[.int .i64 x.Length, .int .i64 x.Ball, .int .i64 x.Instep, .int .i64 x.Heel, .int .i64 x.Pitch], rfl, Nat.le_refl _, heap_alloc_new _ _, Nat.le_refl _, by unfold maxLen; omega, rfl, rfl⟩⟩
theorem gradeC_cells {B : Nat} {w : World} {e : TypeId} {g n c : Nat} {x : Grade} (h : Own B w e (.slice (some ⟨g, 0, none⟩) n c) (gradeC x)) :
    w.cell? ⟨g, 0, none⟩ = some (.int .i64 x.Length) ∧ w.cell? ⟨g, 1, none⟩ = some (.int .i64 x.Ball) ∧ w.cell? ⟨g, 2, none⟩ = some (.int .i64 x.Instep) ∧ w.cell? ⟨g, 3, none⟩ = some (.int .i64 x.Heel) ∧ w.cell? ⟨g, 4, none⟩ = some (.int .i64 x.Pitch) :=
  ⟨own_one h (i := 0) (by show 0 < 5; omega), own_one h (i := 1) (by show 1 < 5; omega), own_one h (i := 2) (by show 2 < 5; omega), own_one h (i := 3) (by show 3 < 5; omega), own_one h (i := 4) (by show 4 < 5; omega)⟩
theorem own_grade1 (w : World) (t : TypeId) (x : Grade) : Own w.heap.size (w.alloc (.cells #[.int .i64 x.Length, .int .i64 x.Ball, .int .i64 x.Instep, .int .i64 x.Heel, .int .i64 x.Pitch] t)) t (.slice (some ⟨w.heap.size, 0, none⟩) 1 1) [x] :=
  ⟨rfl, .inr ⟨w.heap.size, 1, #[.int .i64 x.Length, .int .i64 x.Ball, .int .i64 x.Instep, .int .i64 x.Heel, .int .i64 x.Pitch], rfl, Nat.le_refl _, heap_alloc_new _ _, Nat.le_refl _, by unfold maxLen; omega, rfl, rfl⟩⟩
theorem grade1_cells {B : Nat} {w : World} {e : TypeId} {g n c : Nat} {x : Grade} (h : Own B w e (.slice (some ⟨g, 0, none⟩) n c) [x]) :
    w.cell? ⟨g, 0, none⟩ = some (.int .i64 x.Length) ∧ w.cell? ⟨g, 1, none⟩ = some (.int .i64 x.Ball) ∧ w.cell? ⟨g, 2, none⟩ = some (.int .i64 x.Instep) ∧ w.cell? ⟨g, 3, none⟩ = some (.int .i64 x.Heel) ∧ w.cell? ⟨g, 4, none⟩ = some (.int .i64 x.Pitch) := by
  have := h.at'.grade (i := 0) (by simp)
  simpa using this
end Go.Proofs.YtaeinllbjkjhlaaGreatDoor
