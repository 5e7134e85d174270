/- Chapter 7, outlines: mirrored and turned ones: the contracts of the program's functions and of the reference's. -/
import Derived.Test.YtledlkggggpdpaaGreatDoorL07b
import Derived.Test.YtledlkggggpdpaaGreatDoorSmall
namespace Go.Proofs.YtledlkggggpdpaaGreatDoor
open Go.RowKit

theorem grown_by {w w' : World} (hb : Below w.heap.size w w') (row : Option Nat) : w.grownBy w' row := ⟨hb.os, hb.tape, hb.output, hb.size, fun k hk _ => hb.block k hk⟩
theorem Hold.grown {w w' : World} {b : Nat} {row : Option Nat} {p : Spot} (h : Hold w b p) (hg : w.grownBy w' row) (hne : some b ≠ row) : Hold w' b p := by
  have e : w'.heap[b]? = w.heap[b]? := hg.block b h.lt hne
  obtain ⟨h1, h2, h3, h4⟩ := h
  constructor
  · exact hg.cell h1 hne
  · exact hg.cell h2 hne
  · rw [← h3]; unfold World.frozen?; rw [e]
  · rw [← h4]; unfold World.frozen?; rw [e]
theorem set_two {β : Type} (A D : List β) (a b c d : β) (j : Nat) (h : A.length = j) : ((A ++ ([a, b] ++ D)).set j c).set (j + 1) d = A ++ ([c, d] ++ D) := by
  subst h
  rw [List.set_append_right _ _ (Nat.le_refl _), Nat.sub_self, List.set_append_right _ _ (by omega), Nat.add_sub_cancel_left]
  rfl
theorem Own.setSpot {B : Nat} {w : World} {e : TypeId} {g n c : Nat} {xs : List Spot} (h : Own B w e (.slice (some ⟨g, 0, none⟩) n c) xs) (i : Nat) (hi : i < xs.length) (z : Spot) :
    Own B ((w.setCell ⟨g, i * 2, none⟩ (.int .i64 z.X)).setCell ⟨g, i * 2 + 1, none⟩ (.int .i64 z.Y)) e (.slice (some ⟨g, 0, none⟩) n c) (xs.set i z) ∧
    w.grownBy ((w.setCell ⟨g, i * 2, none⟩ (.int .i64 z.X)).setCell ⟨g, i * 2 + 1, none⟩ (.int .i64 z.Y)) (some g) := by
  obtain ⟨a', c', he, _⟩ := h.at
  simp only [Value.slice.injEq] at he
  obtain ⟨_, rfl, _⟩ := he
  have h' : w.ownsRow B e 2 (.slice (some ⟨g, 0, none⟩) xs.length c) xs.length (flat xs) := h
  obtain ⟨h1, g1⟩ := h'.stored (i * 2) (.int .i64 z.X)
  obtain ⟨h2, g2⟩ := h1.stored (i * 2 + 1) (.int .i64 z.Y)
  refine ⟨?_, grownBy_trans g1 g2⟩
  unfold Own
  rw [List.length_set]
  have e1 : flat xs = (flat xs).take (i * 2) ++ (Flat.el xs[i] ++ (flat xs).drop ((i + 1) * 2)) := by
    have := flat_set xs xs[i] i hi
    rw [List.set_getElem_self, List.append_assoc] at this
    exact this
  have e2 : flat (xs.set i z) = (flat xs).take (i * 2) ++ (Flat.el z ++ (flat xs).drop ((i + 1) * 2)) := by
    have := flat_set xs z i hi
    rw [List.append_assoc] at this
    exact this
  have e3 : ((flat xs).set (i * 2) (.int .i64 z.X)).set (i * 2 + 1) (.int .i64 z.Y) = flat (xs.set i z) := by
    rw [e2]
    conv => lhs; rw [e1]
    refine set_two _ _ _ _ _ _ _ ?_
    rw [List.length_take, flat_length]
    have : i * 2 + 2 ≤ xs.length * 2 := by omega
    show min (i * 2) (xs.length * 2) = _
    omega
  rw [← e3]
  exact h2
theorem oneHold (w : World) (a : Spot) : ∃ w1, (w.alloc (.cells #[.int .i64 a.X, .int .i64 a.Y] 106)) = w1 ∧ Hold w1 w.heap.size a ∧ w1.heap.size = w.heap.size + 1 ∧ Below w.heap.size w w1 := by
  refine ⟨_, rfl, ⟨?_, ?_, ?_, ?_⟩, by simp, ((Below.refl _ _).alloc (by simp) _)⟩ <;> go_simp
theorem two_Hold (w : World) (a b : Spot) : ∃ w1, (w.alloc (.cells #[.int .i64 a.X, .int .i64 a.Y] 106)).alloc (.cells #[.int .i64 b.X, .int .i64 b.Y] 106) = w1 ∧ Hold w1 w.heap.size a ∧ Hold w1 (w.heap.size + 1) b ∧ Below w.heap.size w w1 := by
  refine ⟨_, rfl, ⟨?_, ?_, ?_, ?_⟩, ⟨?_, ?_, ?_, ?_⟩, ((Below.refl _ _).alloc (by simp) _).alloc (by simp) _⟩ <;> go_simp

/-- Places between -10000 and 10000. -/
def nearSpot (p : Spot) : Prop := (-10000 ≤ p.X ∧ p.X ≤ 10000) ∧ (-10000 ≤ p.Y ∧ p.Y ≤ 10000)
theorem near_ok {p : Spot} (h : okSpot p = true) : nearSpot p := by
  have := okSpot_iff.1 h
  unfold nearSpot; omega
def mir (p : Spot) : Spot := ⟨-p.X, p.Y⟩
def rot (p : Spot) : Spot := ⟨-p.Y, p.X⟩
theorem near_mir {p : Spot} (h : nearSpot p) : nearSpot (mir p) := by unfold nearSpot at h; simp only [nearSpot, mir]; omega
theorem near_rot {p : Spot} (h : nearSpot p) : nearSpot (rot p) := by unfold nearSpot at h; simp only [nearSpot, rot]; omega
def lay (xs : List Spot) : List Spot := xs.map fun p => ⟨p.X - (loTo xs xs.length).X, p.Y - (loTo xs xs.length).Y⟩
theorem lay_length (xs : List Spot) : (lay xs).length = xs.length := by simp [lay]
theorem lay_get (xs : List Spot) (i : Nat) (h : i < (lay xs).length) (h' : i < xs.length) : (lay xs)[i] = ⟨xs[i].X - (loTo xs xs.length).X, xs[i].Y - (loTo xs xs.length).Y⟩ := by simp [lay]
theorem near_nth {xs : List Spot} (h : ∀ x ∈ xs, nearSpot x) (i : Nat) : nearSpot (nth xs i) := by
  unfold nth
  by_cases hi : i % xs.length < xs.length
  · simp [hi]; exact h _ (List.getElem_mem hi)
  · simp [hi, nearSpot]
theorem loTo_near {xs : List Spot} (h : ∀ i, nearSpot (nth xs i)) : ∀ k, nearSpot (loTo xs k)
  | 0 => h 0
  | k + 1 => by
    have h1 := loTo_near h k
    have h2 := h k
    simp only [nearSpot, loTo, lo2] at *; omega
/-- The list the first k and the last k places of which have changed over. -/
def revTo (xs : List Spot) (k : Nat) : List Spot := gen xs.length fun p => if p < k ∨ xs.length ≤ p + k then xs.getD (xs.length - 1 - p) ⟨0, 0⟩ else xs.getD p ⟨0, 0⟩
theorem revTo_length (xs : List Spot) (k : Nat) : (revTo xs k).length = xs.length := gen_length _ _
theorem revTo_get (xs : List Spot) (k p : Nat) (h : p < (revTo xs k).length) : (revTo xs k)[p] = if p < k ∨ xs.length ≤ p + k then xs.getD (xs.length - 1 - p) ⟨0, 0⟩ else xs.getD p ⟨0, 0⟩ := gen_get _ _ _ _
theorem revTo_zero (xs : List Spot) : revTo xs 0 = xs := by
  refine List.ext_getElem (revTo_length _ _) fun i h1 h2 => ?_
  rw [revTo_get, if_neg (by omega)]; simp [h2]
theorem revTo_full (xs : List Spot) (k : Nat) (h : xs.length ≤ 2 * k + 1) : revTo xs k = xs.reverse := by
  refine List.ext_getElem (by rw [revTo_length, List.length_reverse]) fun i h1 h2 => ?_
  rw [revTo_length] at h1
  rw [revTo_get, List.getElem_reverse]
  split
  · rw [List.getD_eq_getElem?_getD, List.getElem?_eq_getElem (by omega)]; rfl
  · rw [List.getD_eq_getElem?_getD, List.getElem?_eq_getElem h1, Option.getD_some]
    congr 1; omega
theorem revTo_step (xs : List Spot) (k : Nat) (h : 2 * k + 1 < xs.length) (h1 : k < xs.length) (h2 : xs.length - 1 - k < xs.length) : ((revTo xs k).set k xs[xs.length - 1 - k]).set (xs.length - 1 - k) xs[k] = revTo xs (k + 1) := by
  refine List.ext_getElem (by simp [revTo_length]) fun i h3 h4 => ?_
  rw [revTo_length] at h4
  rw [List.getElem_set, List.getElem_set, revTo_get, revTo_get]
  by_cases e1 : xs.length - 1 - k = i
  · subst e1
    rw [if_pos rfl, if_pos (by omega), List.getD_eq_getElem?_getD, List.getElem?_eq_getElem (by omega), Option.getD_some]
    congr 1; omega
  · rw [if_neg e1]
    by_cases e2 : k = i
    · subst e2
      rw [if_pos rfl, if_pos (by omega), List.getD_eq_getElem?_getD, List.getElem?_eq_getElem (by omega), Option.getD_some]
    · rw [if_neg e2]
      by_cases e3 : i < k ∨ xs.length ≤ i + k
      · rw [if_pos e3, if_pos (by omega)]
      · rw [if_neg e3, if_neg (by omega)]
theorem revTo_at (xs : List Spot) (k p : Nat) (h0 : k ≤ p) (h1 : p + k < xs.length) (h : p < (revTo xs k).length) (h2 : p < xs.length) : (revTo xs k)[p] = xs[p] := by
  rw [revTo_get, if_neg (by omega), List.getD_eq_getElem?_getD, List.getElem?_eq_getElem h2, Option.getD_some]
set_option maxHeartbeats 1600000 in
theorem reverseSpots_c (B : Nat) (v : Value) (xs : List Spot) (w : World) (hO : Own B w 106 v xs) (hl : xs.length ≤ 4294967296) :
    Calls Tryz.prog 169 #[v] w fun e w' => e = .returned (.tuple #[]) ∧ Own B w' 106 v xs.reverse ∧ w.grownBy w' v.ownBlock := by
  rcases hO.cases with ⟨rfl, rfl⟩ | ⟨g, cap, rfl⟩
  · go_enter Tryz.func169, Tryz.ntmps169
    go_wp2
    refine wp_loop_rounds 1 ?_
    rw [rounds_succ]
    go_wp2
    go_end0
    exact ⟨rfl, hO, World.grownBy.refl _ _⟩
  · go_enter Tryz.func169, Tryz.ntmps169
    go_wp2
    go_loopw [2, 3] (fun i j wr => ∃ k : Nat, 2 * k ≤ xs.length + 1 ∧ i = .int .i64 k ∧ j = .int .i64 ((xs.length : Int) - 1 - k) ∧ Own B wr 106 (.slice (some ⟨g, 0, none⟩) xs.length cap) (revTo xs k) ∧ w.grownBy wr (some g)) (fun i _ _ => xs.length + 1 - (intOf i).toNat)
    case atStart => exact ⟨0, by omega, rfl, by simp, by rw [revTo_zero]; exact hO, World.grownBy.refl _ _⟩
    case round =>
      obtain ⟨k, hk, rfl, rfl, hO, hg⟩ := hrel
      by_cases hlt : 2 * k + 1 < xs.length
      · obtain ⟨m, hm⟩ : ∃ m : Nat, m = xs.length - 1 - k := ⟨_, rfl⟩
        have em : ((xs.length : Int) - 1 - k) = m := by omega
        rw [em]
        have h1 : k < xs.length := by omega
        have h2 : m < xs.length := by omega
        have h3 : k < m := by omega
        have hs : Hid (((revTo xs k).set k (xs[m]'h2)).set m (xs[k]'h1) = revTo xs (k + 1)) := by
          subst hm; exact Lib.hid (revTo_step xs k hlt h1 h2)
        have hl1 : k < (revTo xs k).length := by rw [revTo_length]; exact h1
        have hl2 : m < (revTo xs k).length := by rw [revTo_length]; exact h2
        have hc1 := hO.at'.spot hl1
        have hc2 := hO.at'.spot hl2
        rw [revTo_at xs k k (Nat.le_refl _) (by omega) hl1 h1] at hc1
        rw [revTo_at xs k m (by omega) (by omega) hl2 h2] at hc2
        simp only [Nat.zero_add] at hc1 hc2
        obtain ⟨c0, c1⟩ := hc1
        obtain ⟨c2, c3⟩ := hc2
        replace hm := Lib.hid hm
        have f0 := hO.frz (k * 2)
        have f1 := hO.frz (k * 2 + 1)
        have f2 := hO.frz (m * 2)
        have f3 := hO.frz (m * 2 + 1)
        have d1 : k * 2 ≠ m * 2 := by omega
        have d2 : k * 2 ≠ m * 2 + 1 := by omega
        have d3 : k * 2 + 1 ≠ m * 2 := by omega
        have d4 : k * 2 + 1 ≠ m * 2 + 1 := by omega
        go_wp2_with fail
        have hO6 := hO.setSpot k hl1 xs[m]
        have hO7 := hO6.1.setSpot m (by rw [List.length_set]; exact hl2) xs[k]
        go_region
        go_wp2_with fail
        go_roundw
        case rel => exact ⟨k + 1, by omega, by go_num, by have := hm.out; congr 1; omega, by rw [← hs.out]; exact (hO7.1).later (Below.refl _ _).drew, grownBy_trans (grownBy_trans (grownBy_trans hg hO6.2) hO7.2) (grown_by (Below.refl _ _).drew _)⟩
        case measure => simp [intOf]; omega
      · go_wp2
        go_end0
        exact ⟨rfl, by rw [← revTo_full xs k (by omega)]; exact hO, hg⟩
set_option maxHeartbeats 1600000 in
theorem moved_c (B : Nat) (v : Value) (xs : List Spot) (w : World) (hO : Own B w 106 v xs) (hl : xs.length ≤ 24) (h0 : 0 < xs.length) (hok : ∀ i, nearSpot (nth xs i)) :
    Calls Tryz.prog 166 #[v] w fun e w' => e = .returned v ∧ Own B w' 106 v (lay xs) ∧ w.grownBy w' v.ownBlock := by
  have hlo := loTo_near hok xs.length
  replace hok := Lib.hid hok
  obtain ⟨g, cap, rfl⟩ := hO.row h0
  have hgB := (hO.lt g rfl).2
  go_enter Tryz.func166, Tryz.ntmps166
  go_wp2_with fail
  refine (boxOf_c _ _ _ _ hO.at' hl h0).mono ?_
  rintro e w5 ⟨rfl, hb5⟩
  go_wp2_with fail
  obtain ⟨w6, hw, D0, _, hb6⟩ := two_Hold w5 (loTo xs xs.length) (hiTo xs xs.length)
  rw [hw]
  clear hw
  have hne : some w5.heap.size ≠ some g := by have := hb5.size; simp; omega
  go_loopw [13] (fun i wr => ∃ k : Nat, k ≤ xs.length ∧ i = .int .i64 k ∧ Own B wr 106 (.slice (some ⟨g, 0, none⟩) xs.length cap) (over (lay xs) xs k) ∧ Hold wr w5.heap.size (loTo xs xs.length) ∧ w.grownBy wr (some g)) (fun i _ => xs.length - (intOf i).toNat)
  case atStart => exact ⟨0, Nat.zero_le _, rfl, by rw [over_zero]; exact (hO.later hb5).later hb6, D0, grownBy_trans (grown_by hb5 _) (grown_by hb6 _)⟩
  case round =>
    clear D0
    obtain ⟨k, hk, rfl, hO, D0, hg⟩ := hrel
    by_cases hlt : k < xs.length
    · have hlk : k < (over (lay xs) xs k).length := by rw [over_length _ _ _ (lay_length _)]; exact hlt
      have hO0 : Own B wr 106 (.slice (some ⟨g, 0, none⟩) xs.length cap) ((over (lay xs) xs k).set k xs[k]) := by rw [← over_at (lay xs) xs k (lay_length _) hlt hlk, List.set_getElem_self]; exact hO
      have hc := hO.at'.spot hlk
      rw [over_at (lay xs) xs k (lay_length _) hlt hlk] at hc
      simp only [Nat.zero_add] at hc
      have n1 := hok.out k
      rw [nth_get hlt] at n1
      obtain ⟨⟨n1, n2⟩, n3, n4⟩ := n1
      obtain ⟨⟨n5, n6⟩, n7, n8⟩ := hlo
      have c0 := rg hc.1
      have d0 := rg D0.x
      go_wp2_with fail
      have hb := Below.refl wr.heap.size wr
      refine wp_region_tail_below 8 (by kernel_rfl) (by kernel_rfl) (by kernel_rfl) (by simp only [List.take_succ_cons, List.take_zero]; rfl) (by simp only [List.drop_succ_cons, List.drop_zero]; rfl) ?_
      repeat (go_big_quiet_step ((fail)))
      refine wpQuiet_nil ?_
      intro w2 hw'
      replace hb := upw hb (grown_of hw')
      have hw2 := grown_of hw'
      clear hw'
      clear c0 d0
      go_wp2_with (refine wpList_store_field rfl 2 (.tmp 25) (.tmp 23) rfl B 106 _ _ _ (over (lay xs) xs k) k _ 0 xs[k] (⟨xs[k].X - (loTo xs xs.length).X, xs[k].Y⟩ : Spot) _ rfl (by simp [Flat.k]) (by decide) rfl rfl rfl (by kernel_rfl) (over_length _ _ _ (lay_length _)).symm (hO0.later hb) hlk ?_; intro w7 hO7 hg7)
      replace D0 := (D0.below hb).grown hg7 hne
      replace hg := grownBy_trans (grownBy_trans hg (grown_by hb _)) hg7
      clear hb hw2 hc hO0 hO hg7
      have hl7 : k < ((over (lay xs) xs k).set k (⟨xs[k].X - (loTo xs xs.length).X, xs[k].Y⟩ : Spot)).length := by rw [List.length_set]; exact hlk
      have hc := (Own.at' (n := xs.length) hO7).spot hl7
      rw [List.getElem_set_self] at hc
      simp only [Nat.zero_add] at hc
      have c0 := rg hc.2
      have d0 := rg D0.y
      have hb := Below.refl w7.heap.size w7
      go_frame
      refine wp_region_tail_below 8 (by kernel_rfl) (by kernel_rfl) (by kernel_rfl) (by simp only [List.take_succ_cons, List.take_zero]; rfl) (by simp only [List.drop_succ_cons, List.drop_zero]; rfl) ?_
      repeat (go_big_quiet_step ((fail)))
      refine wpQuiet_nil ?_
      intro w2 hw'
      replace hb := upw hb (grown_of hw')
      have hw2 := grown_of hw'
      clear hw'
      clear c0 d0
      go_wp2_with (refine wpList_store_field rfl 2 (.tmp 35) (.tmp 33) rfl B 106 _ _ _ (over (lay xs) xs k) k _ 1 (⟨xs[k].X - (loTo xs xs.length).X, xs[k].Y⟩ : Spot) (⟨xs[k].X - (loTo xs xs.length).X, xs[k].Y - (loTo xs xs.length).Y⟩ : Spot) _ rfl (by simp [Flat.k]) (by decide) rfl rfl rfl (by kernel_rfl) (over_length _ _ _ (lay_length _)).symm (hO7.later hb) hlk ?_; intro w8 hO8 hg8)
      go_roundw
      case rel => exact ⟨k + 1, by omega, by go_num, by rw [← over_succ _ _ _ (lay_length _) (by rw [lay_length]; exact hlt), lay_get _ _ _ hlt]; exact hO8, (D0.below hb).grown hg8 hne, grownBy_trans (grownBy_trans hg (grown_by hb _)) hg8⟩
      case measure => simp [intOf]; omega
    · obtain rfl : k = xs.length := by omega
      go_wp2_with fail
      go_ret
      exact ⟨rfl, by rw [over_full _ _ (lay_length _) (Nat.le_refl _)] at hO; exact hO, hg⟩
set_option maxRecDepth 100000 in
set_option maxHeartbeats 1600000 in
theorem l07Lay_c (a : Option Addr) (xs : List Spot) (c : Nat) (w : World) (hx : At w a xs) (hl : xs.length ≤ 24) (h0 : 0 < xs.length) (hok : ∀ i, nearSpot (nth xs i)) :
    Calls Tryz.prog 168 #[.slice a xs.length c] w fun e w' => ∃ v, e = .returned v ∧ Own w.heap.size w' 106 v (lay xs) ∧ Below w.heap.size w w' := by
  have hlo := loTo_near hok xs.length
  replace hok := Lib.hid hok
  obtain ⟨b, off, rfl⟩ := hx.addr h0
  have hm : 0 % xs.length = 0 := Nat.zero_mod _
  obtain ⟨c0, c1⟩ := hx.nthc hm h0
  rw [Nat.zero_mul, Nat.add_zero] at c0 c1
  go_enter Tryz.func168, Tryz.ntmps168
  go_wp2_with fail
  obtain ⟨w1, hw, D, hs1, hb⟩ := oneHold w (nth xs 0)
  rw [hw]
  clear hw c0 c1
  go_loopw [4] (fun i wr => ∃ k : Nat, 1 ≤ k ∧ k ≤ xs.length ∧ i = .int .i64 k ∧ Hold wr w.heap.size (loTo xs k) ∧ Below w.heap.size w wr) (fun i _ => xs.length - (intOf i).toNat)
  case atStart => exact ⟨1, Nat.le_refl _, by omega, rfl, by rw [loTo_one]; exact D, hb⟩
  case round =>
    clear D hb hs1
    obtain ⟨k, hk1, hk, rfl, D, hb⟩ := hrel
    by_cases hlt : k < xs.length
    · have hm0 : k % xs.length = k := Nat.mod_eq_of_lt hlt
      obtain ⟨c0, c1⟩ := (hx.below hb).nthc hm0 hlt
      replace c0 := rg c0
      replace c1 := rg c1
      have d0 := rg D.x
      have d1 := rg D.y
      go_wp2_with fail
      refine wp_region_tail_below 17 (by kernel_rfl) (by kernel_rfl) (by kernel_rfl) (by simp only [List.take_succ_cons, List.take_zero]; rfl) (by simp only [List.drop_succ_cons, List.drop_zero]; rfl) ?_
      repeat (go_big_quiet_step ((go_at_call 146; exact Calls.regrown_same (l00Min_c _ _ _))))
      refine wpQuiet_nil ?_
      intro w2 hw'
      replace hb := upw hb (grown_of hw')
      have hw2 := grown_of hw'
      clear hw'
      replace D := D.below hw2
      clear c0 c1 d0 d1 hw2
      obtain ⟨d0, d1, f0, f1⟩ := id D
      go_wp2_with fail
      go_roundw
      case rel => exact ⟨k + 1, by omega, by omega, by go_num, D.set (loTo xs (k + 1)), Below.spot hb (Nat.le_refl _) (loTo xs (k + 1))⟩
      case measure => simp [intOf]; omega
    · obtain rfl : k = xs.length := by omega
      obtain ⟨wo, rfl⟩ : ∃ wo : World, wo = wr := ⟨_, rfl⟩
      have hB0 := hb.size
      have hlt0 := D.lt
      go_wp2_with fail
      go_loopw [5, 6] (fun v i wq => ∃ k : Nat, k ≤ xs.length ∧ i = .int .i64 k ∧ Own wo.heap.size wq 106 v ((lay xs).take k) ∧ Hold wq w.heap.size (loTo xs xs.length) ∧ Below w.heap.size w wq ∧ wo.heap.size ≤ wq.heap.size) (fun _ i _ => xs.length - (intOf i).toNat)
      case atStart => exact ⟨0, Nat.zero_le _, rfl, own_new _ _, D.new _, hb.alloc hb.size _, by simp⟩
      case round =>
        clear D hb
        obtain ⟨k, hk, rfl, hO, D, hb, hsz⟩ := hrel
        by_cases hlt : k < xs.length
        · have hm0 : k % xs.length = k := Nat.mod_eq_of_lt hlt
          obtain ⟨c0, c1⟩ := (hx.below hb).nthc hm0 hlt
          have n1 := hok.out k
          obtain ⟨⟨n1, n2⟩, n3, n4⟩ := n1
          obtain ⟨⟨n5, n6⟩, n7, n8⟩ := hlo
          replace c0 := rg c0
          replace c1 := rg c1
          have d0 := rg D.x
          have d1 := rg D.y
          go_wp2_with fail
          refine wp_region_any (by kernel_rfl) ?_
          refine wpAny_take (i := 0) (v := _) rfl (by kernel_rfl) (by kernel_rfl) (by kernel_rfl) (fun _ _ _ h => h) (Or.inl ⟨by rfl, (by intro w; go_simp; try with_reducible rfl)⟩) ?_
          go_simp
          refine wp_any_tailq_below [1, 2, 3, 4, 5, 6, 7, 8, 9, 10, 11, 12, 13, 14, 15, 16, 17] [18, 19, 20] (by decide +kernel) (by kernel_rfl) (picked_cons rfl (picked_cons rfl (picked_cons rfl (picked_cons rfl (picked_cons rfl (picked_cons rfl (picked_cons rfl (picked_cons rfl (picked_cons rfl (picked_cons rfl (picked_cons rfl (picked_cons rfl (picked_cons rfl (picked_cons rfl (picked_cons rfl (picked_cons rfl (picked_cons rfl picked_nil))))))))))))))))) (picked_cons rfl (picked_cons rfl (picked_cons rfl picked_nil))) ?_
          repeat (go_big_quiet_step ((fail)))
          refine wpQuiet_nil ?_
          intro w2 hw'
          replace hb := upw hb (grown_of hw')
          have hw2 := grown_of hw'
          clear hw'
          replace D := D.below hw2
          clear c0 c1 d0 d1
          have hlk : ((lay xs).take k).length = k := by simp [lay_length]; omega
          replace hlk := Lib.hid hlk
          go_wp2_with (at_builtin; refine wpList_push rfl (.tmp 40) (.tmp 58) 96 rfl wo.heap.size 106 (.agg #[.int .i64 0, .int .i64 0]) 16 Tryz.underlying96 infoSpot rfl _ ((lay xs).take k) (⟨(nth xs k).X - (loTo xs xs.length).X, (nth xs k).Y - (loTo xs xs.length).Y⟩ : Spot) rfl ((hO.later hw2).later ((Below.refl _ _).alloc (Nat.le_refl _) _)) _ _ rfl 106 (heap_alloc_new _ _) (by rw [hlk.out]; omega) (by decide) (by have := hw2.size; simp; omega) ?_; intro v1 w3 hO1 hg1)
          go_roundw
          case rel => exact ⟨k + 1, by omega, by go_num, by rw [List.take_succ_eq_append_getElem (by rw [lay_length]; exact hlt), lay_get _ _ _ hlt, ← nth_get hlt]; exact hO1, (D.new _).grown hg1 (fun e => by have := (hO.lt _ e.symm).1; omega), below_mark (hb.alloc hb.size _) ((hO.later hw2).later ((Below.refl _ _).alloc (Nat.le_refl _) _)) hB0 hg1, by have := hg1.size; have := hw2.size; simp at *; omega⟩
          case measure => simp [intOf]; omega
        · obtain rfl : k = xs.length := by omega
          go_wp2_with fail
          go_ret
          exact ⟨_, rfl, by rw [List.take_of_length_le (by rw [lay_length]; exact Nat.le_refl _)] at hO; exact hO.base hB0, hb⟩
end Go.Proofs.YtledlkggggpdpaaGreatDoor
