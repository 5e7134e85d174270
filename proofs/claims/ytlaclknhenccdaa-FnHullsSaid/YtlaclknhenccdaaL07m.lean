/- Chapter 7, outlines: mirrored and turned ones: the contracts of the program's functions and of the reference's. -/
import Derived.Test.YtlaclknhenccdaaL07b
import Derived.Test.YtlaclknhenccdaaSmall
namespace Go.Proofs.Ytlaclknhenccdaa
open Go.RowKit

theorem grown_by {w w' : World} (hb : Below w.heap.size w w') (row : Option Nat) : w.grownBy w' row := ⟨hb.os, hb.tape, hb.output, hb.size, fun k hk _ => hb.block k hk⟩
theorem Hold.grown {w w' : World} {b : Nat} {row : Option Nat} {p : Spot} (h : Hold w b p) (hg : w.grownBy w' row) (hne : some b ≠ row) : Hold w' b p := by
  have e : w'.heap[b]? = w.heap[b]? := hg.block b h.lt hne
  obtain ⟨h1, h2, h3, h4⟩ := h
  constructor
  · exact hg.cell h1 hne
  · exact hg.cell h2 hne
  · rw [← h3]; unfold World.frozen?; rw [e]
  · rw [← h4]; unfold World.frozen?; rw [e]
theorem set_two {β : Type} (A D : List β) (a b c d : β) (j : Nat) (h : A.length = j) : ((A ++ ([a, b] ++ D)).set j c).set (j + 1) d = A ++ ([c, d] ++ D) := by
  subst h
  rw [List.set_append_right _ _ (Nat.le_refl _), Nat.sub_self, List.set_append_right _ _ (by omega), Nat.add_sub_cancel_left]
  rfl
theorem Own.setSpot {B : Nat} {w : World} {e : TypeId} {g n c : Nat} {xs : List Spot} (h : Own B w e (.slice (some ⟨g, 0, none⟩) n c) xs) (i : Nat) (hi : i < xs.length) (z : Spot) :
    Own B ((w.setCell ⟨g, i * 2, none⟩ (.int .i64 z.X)).setCell ⟨g, i * 2 + 1, none⟩ (.int .i64 z.Y)) e (.slice (some ⟨g, 0, none⟩) n c) (xs.set i z) ∧
    w.grownBy ((w.setCell ⟨g, i * 2, none⟩ (.int .i64 z.X)).setCell ⟨g, i * 2 + 1, none⟩ (.int .i64 z.Y)) (some g) := by
  obtain ⟨a', c', he, _⟩ := h.at
  simp only [Value.slice.injEq] at he
  obtain ⟨_, rfl, _⟩ := he
  have h' : w.ownsRow B e 2 (.slice (some ⟨g, 0, none⟩) xs.length c) xs.length (flat xs) := h
  obtain ⟨h1, g1⟩ := h'.stored (i * 2) (.int .i64 z.X)
  obtain ⟨h2, g2⟩ := h1.stored (i * 2 + 1) (.int .i64 z.Y)
  refine ⟨?_, grownBy_trans g1 g2⟩
  unfold Own
  rw [List.length_set]
  have e1 : flat xs = (flat xs).take (i * 2) ++ (Flat.el xs[i] ++ (flat xs).drop ((i + 1) * 2)) := by
    have := flat_set xs xs[i] i hi
    rw [List.set_getElem_self, List.append_assoc] at this
    exact this
  have e2 : flat (xs.set i z) = (flat xs).take (i * 2) ++ (Flat.el z ++ (flat xs).drop ((i + 1) * 2)) := by
    have := flat_set xs z i hi
    rw [List.append_assoc] at this
    exact this
  have e3 : ((flat xs).set (i * 2) (.int .i64 z.X)).set (i * 2 + 1) (.int .i64 z.Y) = flat (xs.set i z) := by
    rw [e2]
    conv => lhs; rw [e1]
    refine set_two _ _ _ _ _ _ _ ?_
    rw [List.length_take, flat_length]
    have : i * 2 + 2 ≤ xs.length * 2 := by omega
    show min (i * 2) (xs.length * 2) = _
    omega
  rw [← e3]
  exact h2
theorem oneHold (w : World) (a : Spot) : ∃ w1, (w.alloc (.cells #[.int .i64 a.X, .int .i64 a.Y] 83)) = w1 ∧ Hold w1 w.heap.size a ∧ w1.heap.size = w.heap.size + 1 ∧ Below w.heap.size w w1 := by
  refine ⟨_, rfl, ⟨?_, ?_, ?_, ?_⟩, by simp, ((Below.refl _ _).alloc (by simp) _)⟩ <;> go_simp
theorem two_Hold (w : World) (a b : Spot) : ∃ w1, (w.alloc (.cells #[.int .i64 a.X, .int .i64 a.Y] 83)).alloc (.cells #[.int .i64 b.X, .int .i64 b.Y] 83) = w1 ∧ Hold w1 w.heap.size a ∧ Hold w1 (w.heap.size + 1) b ∧ Below w.heap.size w w1 := by
  refine ⟨_, rfl, ⟨?_, ?_, ?_, ?_⟩, ⟨?_, ?_, ?_, ?_⟩, ((Below.refl _ _).alloc (by simp) _).alloc (by simp) _⟩ <;> go_simp

/-- Places between -10000 and 10000. -/
def nearSpot (p : Spot) : Prop := (-10000 ≤ p.X ∧ p.X ≤ 10000) ∧ (-10000 ≤ p.Y ∧ p.Y ≤ 10000)
theorem near_ok {p : Spot} (h : okSpot p = true) : nearSpot p := by
  have := okSpot_iff.1 h
  unfold nearSpot; omega
def mir (p : Spot) : Spot := ⟨-p.X, p.Y⟩
def rot (p : Spot) : Spot := ⟨-p.Y, p.X⟩
theorem near_mir {p : Spot} (h : nearSpot p) : nearSpot (mir p) := by unfold nearSpot at h; simp only [nearSpot, mir]; omega
theorem near_rot {p : Spot} (h : nearSpot p) : nearSpot (rot p) := by unfold nearSpot at h; simp only [nearSpot, rot]; omega
def lay (xs : List Spot) : List Spot := xs.map fun p => ⟨p.X - (loTo xs xs.length).X, p.Y - (loTo xs xs.length).Y⟩
theorem lay_length (xs : List Spot) : (lay xs).length = xs.length := by simp [lay]
theorem lay_get (xs : List Spot) (i : Nat) (h : i < (lay xs).length) (h' : i < xs.length) : (lay xs)[i] = ⟨xs[i].X - (loTo xs xs.length).X, xs[i].Y - (loTo xs xs.length).Y⟩ := by simp [lay]
theorem near_nth {xs : List Spot} (h : ∀ x ∈ xs, nearSpot x) (i : Nat) : nearSpot (nth xs i) := by
  unfold nth
  by_cases hi : i % xs.length < xs.length
  · simp [hi]; exact h _ (List.getElem_mem hi)
  · simp [hi, nearSpot]
theorem loTo_near {xs : List Spot} (h : ∀ i, nearSpot (nth xs i)) : ∀ k, nearSpot (loTo xs k)
  | 0 => h 0
  | k + 1 => by
    have h1 := loTo_near h k
    have h2 := h k
    simp only [nearSpot, loTo, lo2] at *; omega
/-- The list the first k and the last k places of which have changed over. -/
def revTo (xs : List Spot) (k : Nat) : List Spot := gen xs.length fun p => if p < k ∨ xs.length ≤ p + k then xs.getD (xs.length - 1 - p) ⟨0, 0⟩ else xs.getD p ⟨0, 0⟩
theorem revTo_length (xs : List Spot) (k : Nat) : (revTo xs k).length = xs.length := gen_length _ _
theorem revTo_get (xs : List Spot) (k p : Nat) (h : p < (revTo xs k).length) : (revTo xs k)[p] = if p < k ∨ xs.length ≤ p + k then xs.getD (xs.length - 1 - p) ⟨0, 0⟩ else xs.getD p ⟨0, 0⟩ := gen_get _ _ _ _
theorem revTo_zero (xs : List Spot) : revTo xs 0 = xs := by
  refine List.ext_getElem (revTo_length _ _) fun i h1 h2 => ?_
  rw [revTo_get, if_neg (by omega)]; simp [h2]
theorem revTo_full (xs : List Spot) (k : Nat) (h : xs.length ≤ 2 * k + 1) : revTo xs k = xs.reverse := by
  refine List.ext_getElem (by rw [revTo_length, List.length_reverse]) fun i h1 h2 => ?_
  rw [revTo_length] at h1
  rw [revTo_get, List.getElem_reverse]
  split
  · rw [List.getD_eq_getElem?_getD, List.getElem?_eq_getElem (by omega)]; rfl
  · rw [List.getD_eq_getElem?_getD, List.getElem?_eq_getElem h1, Option.getD_some]
    congr 1; omega
theorem revTo_step (xs : List Spot) (k : Nat) (h : 2 * k + 1 < xs.length) (h1 : k < xs.length) (h2 : xs.length - 1 - k < xs.length) : ((revTo xs k).set k xs[xs.length - 1 - k]).set (xs.length - 1 - k) xs[k] = revTo xs (k + 1) := by
  refine List.ext_getElem (by simp [revTo_length]) fun i h3 h4 => ?_
  rw [revTo_length] at h4
  rw [List.getElem_set, List.getElem_set, revTo_get, revTo_get]
  by_cases e1 : xs.length - 1 - k = i
  · subst e1
    rw [if_pos rfl, if_pos (by omega), List.getD_eq_getElem?_getD, List.getElem?_eq_getElem (by omega), Option.getD_some]
    congr 1; omega
  · rw [if_neg e1]
    by_cases e2 : k = i
    · subst e2
      rw [if_pos rfl, if_pos (by omega), List.getD_eq_getElem?_getD, List.getElem?_eq_getElem (by omega), Option.getD_some]
    · rw [if_neg e2]
      by_cases e3 : i < k ∨ xs.length ≤ i + k
      · rw [if_pos e3, if_pos (by omega)]
      · rw [if_neg e3, if_neg (by omega)]
theorem revTo_at (xs : List Spot) (k p : Nat) (h0 : k ≤ p) (h1 : p + k < xs.length) (h : p < (revTo xs k).length) (h2 : p < xs.length) : (revTo xs k)[p] = xs[p] := by
  rw [revTo_get, if_neg (by omega), List.getD_eq_getElem?_getD, List.getElem?_eq_getElem h2, Option.getD_some]
set_option maxHeartbeats 1600000 in
theorem reverseSpots_c (B : Nat) (v : Value) (xs : List Spot) (w : World) (hO : Own B w 83 v xs) (hl : xs.length ≤ 4294967296) :
    Calls Try.prog 181 #[v] w fun e w' => e = .returned (.tuple #[]) ∧ Own B w' 83 v xs.reverse ∧ w.grownBy w' v.ownBlock := by
  rcases hO.cases with ⟨rfl, rfl⟩ | ⟨g, cap, rfl⟩
  · go_enter Try.func181, Try.ntmps181
    go_wp2
    refine wp_loop_rounds 1 ?_
    rw [rounds_succ]
    go_wp2
    go_end0
    exact ⟨rfl, hO, World.grownBy.refl _ _⟩
  · go_enter Try.func181, Try.ntmps181
    go_wp2
    go_loopw [2, 3] (fun i j wr => ∃ k : Nat, 2 * k ≤ xs.length + 1 ∧ i = .int .i64 k ∧ j = .int .i64 ((xs.length : Int) - 1 - k) ∧ Own B wr 83 (.slice (some ⟨g, 0, none⟩) xs.length cap) (revTo xs k) ∧ w.grownBy wr (some g)) (fun i _ _ => xs.length + 1 - (intOf i).toNat)
    case atStart => exact ⟨0, by omega, rfl, by simp, by rw [revTo_zero]; exact hO, World.grownBy.refl _ _⟩
    case round =>
      obtain ⟨k, hk, rfl, rfl, hO, hg⟩ := hrel
      by_cases hlt : 2 * k + 1 < xs.length
      · obtain ⟨m, hm⟩ : ∃ m : Nat, m = xs.length - 1 - k := ⟨_, rfl⟩
        have em : ((xs.length : Int) - 1 - k) = m := by omega
        rw [em]
        have h1 : k < xs.length := by omega
        have h2 : m < xs.length := by omega
        have h3 : k < m := by omega
        have hs : Hid (((revTo xs k).set k (xs[m]'h2)).set m (xs[k]'h1) = revTo xs (k + 1)) := by
          subst hm; exact Lib.hid (revTo_step xs k hlt h1 h2)
        have hl1 : k < (revTo xs k).length := by rw [revTo_length]; exact h1
        have hl2 : m < (revTo xs k).length := by rw [revTo_length]; exact h2
        have hc1 := hO.at'.spot hl1
        have hc2 := hO.at'.spot hl2
        rw [revTo_at xs k k (Nat.le_refl _) (by omega) hl1 h1] at hc1
        rw [revTo_at xs k m (by omega) (by omega) hl2 h2] at hc2
        simp only [Nat.zero_add] at hc1 hc2
        obtain ⟨c0, c1⟩ := hc1
        obtain ⟨c2, c3⟩ := hc2
        replace hm := Lib.hid hm
        have f0 := hO.frz (k * 2)
        have f1 := hO.frz (k * 2 + 1)
        have f2 := hO.frz (m * 2)
        have f3 := hO.frz (m * 2 + 1)
        have d1 : k * 2 ≠ m * 2 := by omega
        have d2 : k * 2 ≠ m * 2 + 1 := by omega
        have d3 : k * 2 + 1 ≠ m * 2 := by omega
        have d4 : k * 2 + 1 ≠ m * 2 + 1 := by omega
        go_wp2_with fail
        have hO6 := hO.setSpot k hl1 xs[m]
        have hO7 := hO6.1.setSpot m (by rw [List.length_set]; exact hl2) xs[k]
        go_region
        go_wp2_with fail
        go_roundw
        case rel => exact ⟨k + 1, by omega, by go_num, by have := hm.out; congr 1; omega, by rw [← hs.out]; exact (hO7.1).later (Below.refl _ _).drew, grownBy_trans (grownBy_trans (grownBy_trans hg hO6.2) hO7.2) (grown_by (Below.refl _ _).drew _)⟩
        case measure => simp [intOf]; omega
      · go_wp2
        go_end0
        exact ⟨rfl, by rw [← revTo_full xs k (by omega)]; exact hO, hg⟩
end Go.Proofs.Ytlaclknhenccdaa
