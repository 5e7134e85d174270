/- Chapter 3, scales and the nearest half sizes: plain laws, and the program's and the reference's search. -/
import Derived.Test.YtaeinllbjkjhlaaDoorW03
namespace Go.Proofs.YtaeinllbjkjhlaaDoor
open Go.RowKit

structure Scl where
  name : ByteArray
  base : Int
  num : Int
  den : Int
instance : Flat Scl := ⟨4, by decide, fun x => [.string x.name, .int .i64 x.base, .int .i64 x.num, .int .i64 x.den], fun _ => rfl, fun x u h => by simp at h; rcases h with h | h | h | h <;> subst h <;> rfl, fun _ => True⟩
/-- A variable that holds a scale, cell by cell. -/
def sclC (x : Scl) : List OneCell := [⟨.string x.name, rfl⟩, ⟨.int .i64 x.base, rfl⟩, ⟨.int .i64 x.num, rfl⟩, ⟨.int .i64 x.den, rfl⟩]
theorem own_sclC (w : World) (t : TypeId) (x : Scl) : Own w.heap.size (w.alloc (.cells #[.string x.name, .int .i64 x.base, .int .i64 x.num, .int .i64 x.den] t)) t (.slice (some ⟨w.heap.size, 0, none⟩) 4 4) (sclC x) :=
  own_alloc w t _ (sclC x) rfl (by show 4 ≤ 1048576; omega)
theorem sclC_cells {B : Nat} {w : World} {e : TypeId} {g n c : Nat} {x : Scl} (h : Own B w e (.slice (some ⟨g, 0, none⟩) n c) (sclC x)) :
    w.cell? ⟨g, 0, none⟩ = some (.string x.name) ∧ w.cell? ⟨g, 1, none⟩ = some (.int .i64 x.base) ∧ w.cell? ⟨g, 2, none⟩ = some (.int .i64 x.num) ∧ w.cell? ⟨g, 3, none⟩ = some (.int .i64 x.den) :=
  ⟨own_one h (i := 0) (by show 0 < 4; omega), own_one h (i := 1) (by show 1 < 4; omega), own_one h (i := 2) (by show 2 < 4; omega), own_one h (i := 3) (by show 3 < 4; omega)⟩
theorem scl_new (w : World) (t : TypeId) (x : Scl) : ∃ w1, w1 = w.alloc (.cells #[.string x.name, .int .i64 x.base, .int .i64 x.num, .int .i64 x.den] t) ∧ Below w.heap.size w w1 ∧ w1.cell? ⟨w.heap.size, 0, none⟩ = some (.string x.name) ∧ w1.cell? ⟨w.heap.size, 1, none⟩ = some (.int .i64 x.base) ∧ w1.cell? ⟨w.heap.size, 2, none⟩ = some (.int .i64 x.num) ∧ w1.cell? ⟨w.heap.size, 3, none⟩ = some (.int .i64 x.den) := by
  obtain ⟨c0, c1, c2, c3⟩ := sclC_cells (own_sclC w t x)
  exact ⟨_, rfl, newB _ _, c0, c1, c2, c3⟩
def okScl (x : Scl) : Bool := isName x.name && inr x.base 0 100 && inr x.num 1 1000 && inr x.den 1 100
theorem okScl_iff {x : Scl} : okScl x = true ↔ isName x.name = true ∧ (0 ≤ x.base ∧ x.base ≤ 100) ∧ (1 ≤ x.num ∧ x.num ≤ 1000) ∧ (1 ≤ x.den ∧ x.den ≤ 100) := by
  unfold okScl
  rw [Bool.and_eq_true, Bool.and_eq_true, Bool.and_eq_true, inr_true, inr_true, inr_true, and_assoc, and_assoc]
theorem implValidScale_c (x : Scl) (w : World) (hs : x.name.size ≤ 9223372036854775807) :
    Calls Tryd.prog 22 #[.agg #[.string x.name, .int .i64 x.base, .int .i64 x.num, .int .i64 x.den]] w fun e w' => e = .returned (.bool (okScl x)) ∧ Below w.heap.size w w' := by
  obtain ⟨w1, hw1, hb, c0, c1, c2, c3⟩ := scl_new w 25 x
  replace hw1 := Lib.hid hw1
  have hI := Lib.hid (implIsName_c x.name w1 hs)
  clear hs
  unfold okScl
  cases h1 : isName x.name
  · go_enter Tryd.func22, Tryd.ntmps22
    go_wp2_with (first | rw [← hw1.out] | ((with_reducible refine (as_bool h1 hI.out).mono ?_); rintro e w' ⟨rfl, rfl⟩) | ((with_reducible refine (as_bool h2 (within_c _ _ _ _)).mono ?_); rintro e w' ⟨rfl, rfl⟩) | ((with_reducible refine (as_bool h3 (within_c _ _ _ _)).mono ?_); rintro e w' ⟨rfl, rfl⟩) | (refine (within_c _ _ _ _).mono ?_; rintro e w' ⟨rfl, rfl⟩))
    go_ret
    exact ⟨rfl, hb⟩
  · cases h2 : inr x.base 0 100
    · go_enter Tryd.func22, Tryd.ntmps22
      go_wp2_with (first | rw [← hw1.out] | ((with_reducible refine (as_bool h1 hI.out).mono ?_); rintro e w' ⟨rfl, rfl⟩) | ((with_reducible refine (as_bool h2 (within_c _ _ _ _)).mono ?_); rintro e w' ⟨rfl, rfl⟩) | ((with_reducible refine (as_bool h3 (within_c _ _ _ _)).mono ?_); rintro e w' ⟨rfl, rfl⟩) | (refine (within_c _ _ _ _).mono ?_; rintro e w' ⟨rfl, rfl⟩))
      go_ret
      exact ⟨rfl, hb⟩
    · cases h3 : inr x.num 1 1000
      · go_enter Tryd.func22, Tryd.ntmps22
        go_wp2_with (first | rw [← hw1.out] | ((with_reducible refine (as_bool h1 hI.out).mono ?_); rintro e w' ⟨rfl, rfl⟩) | ((with_reducible refine (as_bool h2 (within_c _ _ _ _)).mono ?_); rintro e w' ⟨rfl, rfl⟩) | ((with_reducible refine (as_bool h3 (within_c _ _ _ _)).mono ?_); rintro e w' ⟨rfl, rfl⟩) | (refine (within_c _ _ _ _).mono ?_; rintro e w' ⟨rfl, rfl⟩))
        go_ret
        exact ⟨rfl, hb⟩
      · go_enter Tryd.func22, Tryd.ntmps22
        go_wp2_with (first | rw [← hw1.out] | ((with_reducible refine (as_bool h1 hI.out).mono ?_); rintro e w' ⟨rfl, rfl⟩) | ((with_reducible refine (as_bool h2 (within_c _ _ _ _)).mono ?_); rintro e w' ⟨rfl, rfl⟩) | ((with_reducible refine (as_bool h3 (within_c _ _ _ _)).mono ?_); rintro e w' ⟨rfl, rfl⟩) | (refine (within_c _ _ _ _).mono ?_; rintro e w' ⟨rfl, rfl⟩))
        go_ret
        exact ⟨rfl, hb⟩
theorem l03Ok_c (x : Scl) (w : World) (hs : x.name.size ≤ 9223372036854775807) :
    Calls Tryd.prog 50 #[.agg #[.string x.name, .int .i64 x.base, .int .i64 x.num, .int .i64 x.den]] w fun e w' => e = .returned (.bool (okScl x)) ∧ Below w.heap.size w w' := by
  obtain ⟨w1, hw1, hb, c0, c1, c2, c3⟩ := scl_new w 25 x
  replace hw1 := Lib.hid hw1
  have hI := Lib.hid (specIsName_c x.name w1 hs)
  clear hs
  unfold okScl
  cases h1 : isName x.name
  · go_enter Tryd.func50, Tryd.ntmps50
    go_wp2_with (first | rw [← hw1.out] | ((with_reducible refine (as_bool h1 hI.out).mono ?_); rintro e w' ⟨rfl, rfl⟩) | ((with_reducible refine (as_bool h2 (l00In_c _ _ _ _)).mono ?_); rintro e w' ⟨rfl, rfl⟩) | ((with_reducible refine (as_bool h3 (l00In_c _ _ _ _)).mono ?_); rintro e w' ⟨rfl, rfl⟩) | (refine (l00In_c _ _ _ _).mono ?_; rintro e w' ⟨rfl, rfl⟩))
    go_ret
    exact ⟨rfl, hb⟩
  · cases h2 : inr x.base 0 100
    · go_enter Tryd.func50, Tryd.ntmps50
      go_wp2_with (first | rw [← hw1.out] | ((with_reducible refine (as_bool h1 hI.out).mono ?_); rintro e w' ⟨rfl, rfl⟩) | ((with_reducible refine (as_bool h2 (l00In_c _ _ _ _)).mono ?_); rintro e w' ⟨rfl, rfl⟩) | ((with_reducible refine (as_bool h3 (l00In_c _ _ _ _)).mono ?_); rintro e w' ⟨rfl, rfl⟩) | (refine (l00In_c _ _ _ _).mono ?_; rintro e w' ⟨rfl, rfl⟩))
      go_ret
      exact ⟨rfl, hb⟩
    · cases h3 : inr x.num 1 1000
      · go_enter Tryd.func50, Tryd.ntmps50
        go_wp2_with (first | rw [← hw1.out] | ((with_reducible refine (as_bool h1 hI.out).mono ?_); rintro e w' ⟨rfl, rfl⟩) | ((with_reducible refine (as_bool h2 (l00In_c _ _ _ _)).mono ?_); rintro e w' ⟨rfl, rfl⟩) | ((with_reducible refine (as_bool h3 (l00In_c _ _ _ _)).mono ?_); rintro e w' ⟨rfl, rfl⟩) | (refine (l00In_c _ _ _ _).mono ?_; rintro e w' ⟨rfl, rfl⟩))
        go_ret
        exact ⟨rfl, hb⟩
      · go_enter Tryd.func50, Tryd.ntmps50
        go_wp2_with (first | rw [← hw1.out] | ((with_reducible refine (as_bool h1 hI.out).mono ?_); rintro e w' ⟨rfl, rfl⟩) | ((with_reducible refine (as_bool h2 (l00In_c _ _ _ _)).mono ?_); rintro e w' ⟨rfl, rfl⟩) | ((with_reducible refine (as_bool h3 (l00In_c _ _ _ _)).mono ?_); rintro e w' ⟨rfl, rfl⟩) | (refine (l00In_c _ _ _ _).mono ?_; rintro e w' ⟨rfl, rfl⟩))
        go_ret
        exact ⟨rfl, hb⟩
/-- How far half sizes are from n / d, times what both divide by. -/
def tgt (x : Scl) (d h : Int) : Int := (h + x.base) * x.num * d
def dist (x : Scl) (n d h : Int) : Int := size (tgt x d h - n * x.den)
/-- The nearest of the half sizes 0 to k, the least of several. -/
def near (x : Scl) (n d : Int) : Nat → Nat
  | 0 => 0
  | k + 1 => if dist x n d ((k + 1 : Nat) : Int) < dist x n d ((near x n d k : Nat) : Int) then k + 1 else near x n d k
def nearest (x : Scl) (n d : Int) : Nat := near x n d 120
theorem near_le (x : Scl) (n d : Int) : ∀ k, near x n d k ≤ k
  | 0 => Nat.le_refl _
  | k + 1 => by
    unfold near
    split
    · exact Nat.le_refl _
    · exact Nat.le_succ_of_le (near_le x n d k)
theorem near_min (x : Scl) (n d : Int) : ∀ k j, j ≤ k → dist x n d (near x n d k : Nat) ≤ dist x n d (j : Nat) ∧ (j < near x n d k → dist x n d (near x n d k : Nat) < dist x n d (j : Nat))
  | 0, j, hj => by obtain rfl : j = 0 := by omega
                   exact ⟨Int.le_refl _, fun h => absurd h (Nat.not_lt_zero _)⟩
  | k + 1, j, hj => by
    have hl := near_le x n d k
    unfold near
    split
    · rename_i h
      rcases Nat.lt_or_eq_of_le hj with hlt | heq
      · have := (near_min x n d k j (by omega)).1
        exact ⟨by omega, fun _ => by omega⟩
      · subst heq; exact ⟨Int.le_refl _, fun h => absurd h (Nat.lt_irrefl _)⟩
    · rename_i h
      rcases Nat.lt_or_eq_of_le hj with hlt | heq
      · exact near_min x n d k j (by omega)
      · subst heq; exact ⟨by omega, fun h2 => by omega⟩
/-- A greater length has no fewer half sizes. -/
theorem nearest_mono {x : Scl} {n n' d : Int} (hd : 1 ≤ d) (ok : okScl x = true) (h : n ≤ n') : nearest x n d ≤ nearest x n' d := by
  obtain ⟨_, _, hnum, hden⟩ := okScl_iff.1 ok
  apply Classical.byContradiction
  intro hlt
  have hlt : nearest x n' d < nearest x n d := by omega
  have hl := near_le x n d 120
  have hl' := near_le x n' d 120
  have h1 := (near_min x n d 120 (nearest x n' d) hl').2 hlt
  have h2 := (near_min x n' d 120 (nearest x n d) hl).1
  unfold nearest at *
  generalize near x n d 120 = p at *
  generalize near x n' d 120 = q at *
  have hm : n * x.den ≤ n' * x.den := Int.mul_le_mul_of_nonneg_right h (by omega)
  have hf : tgt x d q < tgt x d p := by
    unfold tgt
    have a : ((q : Int) + x.base) * x.num < ((p : Int) + x.base) * x.num := Int.mul_lt_mul_of_pos_right (by omega) (by omega)
    exact Int.mul_lt_mul_of_pos_right a (by omega)
  unfold dist size at h1 h2
  omega
end Go.Proofs.YtaeinllbjkjhlaaDoor
