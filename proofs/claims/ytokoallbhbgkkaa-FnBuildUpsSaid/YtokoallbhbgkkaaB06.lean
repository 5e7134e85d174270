/- Chapter 6: builds for all girths of a last: needs. -/
import Derived.Test.YtokoallbhbgkkaaF02
import Derived.Test.YtokoallbhbgkkaaL06o
import Derived.Test.YtokoallbhbgkkaaTailQ
namespace Go.Proofs.Ytokoallbhbgkkaa
open Go.RowKit

/-- By how much girths are less. -/
def needL (x : Last) (f : Foot) : List Int := [max 0 (f.Ball - x.Ball), max 0 (f.Instep - x.Instep), max 0 (f.Heel - x.Heel)]
theorem okLast_iff {x : Last} : okLast x = true ↔ isName x.Name = true ∧ ((500 ≤ x.Length ∧ x.Length ≤ 5000) ∧ (500 ≤ x.Ball ∧ x.Ball ≤ 5000) ∧ (500 ≤ x.Instep ∧ x.Instep ≤ 5000) ∧ (500 ≤ x.Heel ∧ x.Heel ≤ 5000)) ∧ (0 ≤ x.Pitch ∧ x.Pitch ≤ 1000) := by
  unfold okLast
  rw [Bool.and_eq_true, Bool.and_eq_true, okFoot_iff, inr_true, and_assoc]
  rfl
theorem needL_range {x : Last} {f : Foot} (hx : okLast x = true) (hf : okFoot f = true) : ∀ n ∈ needL x f, 0 ≤ n ∧ n ≤ 4500 := by
  have h1 := (okLast_iff.1 hx).2.1
  have h2 := okFoot_iff.1 hf
  intro n hn
  unfold needL at hn
  simp only [List.mem_cons, List.not_mem_nil, or_false] at hn
  omega
theorem new_foot (w : World) (f : Foot) : Below w.heap.size w (w.alloc (.cells #[.int .i64 f.Length, .int .i64 f.Ball, .int .i64 f.Instep, .int .i64 f.Heel] 39)) := (Below.refl _ _).alloc (Nat.le_refl _) _
theorem own3 {B : Nat} (W : World) (t : TypeId) {a b c : Int} {L : List Int} (hL : L = [a, b, c]) (hB : B ≤ W.heap.size) {g : Nat} (hg : g = W.heap.size) : Own B (W.alloc (.cells #[.int .i64 a, .int .i64 b, .int .i64 c] t)) t (.slice (some ⟨g, 0, none⟩) 3 3) L := by
  subst hL; subst hg; exact (own_row W t [a, b, c] (by simp)).base hB
set_option maxHeartbeats 1000000 in
theorem needOf_c (x : Last) (f : Foot) (w : World) (hx : okLast x = true) (hf : okFoot f = true) :
    Calls Try.prog 70 #[.agg #[.string x.Name, .int .i64 x.Length, .int .i64 x.Ball, .int .i64 x.Instep, .int .i64 x.Heel, .int .i64 x.Pitch], .agg #[.int .i64 f.Length, .int .i64 f.Ball, .int .i64 f.Instep, .int .i64 f.Heel]] w fun e w' => ∃ g, e = .returned (.slice (some ⟨g, 0, none⟩) 3 3) ∧ Own w.heap.size w' 2 (.slice (some ⟨g, 0, none⟩) 3 3) (needL x f) ∧ Below w.heap.size w w' := by
  have h1 := (okLast_iff.1 hx).2.1
  have h2 := okFoot_iff.1 hf
  have hb : Below w.heap.size w ((w.alloc (.cells #[.string x.Name, .int .i64 x.Length, .int .i64 x.Ball, .int .i64 x.Instep, .int .i64 x.Heel, .int .i64 x.Pitch] 37)).alloc (.cells #[.int .i64 f.Length, .int .i64 f.Ball, .int .i64 f.Instep, .int .i64 f.Heel] 39)) := ((Below.refl _ _).alloc (Nat.le_refl _) _).alloc (by simp) _
  have hsz := hb.size
  have hs2 : ((w.alloc (.cells #[.string x.Name, .int .i64 x.Length, .int .i64 x.Ball, .int .i64 x.Instep, .int .i64 x.Heel, .int .i64 x.Pitch] 37)).alloc (.cells #[.int .i64 f.Length, .int .i64 f.Ball, .int .i64 f.Instep, .int .i64 f.Heel] 39)).heap.size = w.heap.size + 1 + 1 := by simp
  replace hs2 := Lib.hid hs2
  clear hx hf
  go_enter Try.func70, Try.ntmps70
  go_wp2_with fail
  all_goals go_ret
  all_goals exact ⟨w.heap.size + 1 + 1, rfl, own3 _ _ (by unfold needL; congr 1; · omega
                                                          · congr 1; · omega
                                                            · congr 1; omega) hsz hs2.out.symm, hb.alloc hsz _⟩
theorem l02Four_c (f : Foot) (w : World) : Calls Try.prog 108 #[.agg #[.int .i64 f.Length, .int .i64 f.Ball, .int .i64 f.Instep, .int .i64 f.Heel]] w fun e w' => ∃ g, e = .returned (.slice (some ⟨g, 0, none⟩) 4 4) ∧ Own w.heap.size w' 2 (.slice (some ⟨g, 0, none⟩) 4 4) (fourOf f) ∧ Below w.heap.size w w' := by
  have hb := new_foot w f
  have hO := own_four (w.alloc (.cells #[.int .i64 f.Length, .int .i64 f.Ball, .int .i64 f.Instep, .int .i64 f.Heel] 39)) 2 f
  go_enter Try.func108, Try.ntmps108
  go_wp2_with fail
  go_ret
  refine ⟨w.heap.size + 1, rfl, ?_, hb.alloc hb.size _⟩
  have := hO.base hb.size
  simpa using this
theorem needL_step (x : Last) (f : Foot) (k : Nat) (h1 : 1 ≤ k) (h2 : k < 4) (h3 : k < (fourOf f).length) (h4 : k < (fourOf (lastFoot x)).length) : (needL x f).take k = (needL x f).take (k - 1) ++ [max 0 ((fourOf f)[k] - (fourOf (lastFoot x))[k])] := by
  rcases (by omega : k = 1 ∨ k = 2 ∨ k = 3) with rfl | rfl | rfl <;> rfl
set_option maxRecDepth 100000 in
set_option maxHeartbeats 2000000 in
theorem l06Need_c (x : Last) (f : Foot) (w : World) (hx : okLast x = true) (hf : okFoot f = true) :
    Calls Try.prog 67 #[.agg #[.string x.Name, .int .i64 x.Length, .int .i64 x.Ball, .int .i64 x.Instep, .int .i64 x.Heel, .int .i64 x.Pitch], .agg #[.int .i64 f.Length, .int .i64 f.Ball, .int .i64 f.Instep, .int .i64 f.Heel]] w fun e w' => ∃ v, e = .returned v ∧ Own w.heap.size w' 2 v (needL x f) ∧ Below w.heap.size w w' := by
  have h1 := (okLast_iff.1 hx).2.1
  have h2 := okFoot_iff.1 hf
  have hx4 : Hid (∀ n ∈ fourOf (lastFoot x), 500 ≤ n ∧ n ≤ 5000) := Lib.hid fun n hn => by simp [fourOf, lastFoot] at hn; omega
  have hf4 : Hid (∀ n ∈ fourOf f, 500 ≤ n ∧ n ≤ 5000) := Lib.hid fun n hn => by simp [fourOf] at hn; omega
  have HN := Lib.hid (needL_step x f)
  have hl4 := l02Four_c (lastFoot x)
  have hl5 : Hid ((fourOf (lastFoot x)).length = 4) := Lib.hid rfl
  have hl6 : Hid ((fourOf f).length = 4) := Lib.hid rfl
  simp only [lastFoot] at hl4
  replace hl4 := Lib.hid hl4
  have hxx := Lib.hid (show (⟨x.Length, x.Ball, x.Instep, x.Heel⟩ : Foot) = lastFoot x from rfl)
  obtain ⟨w1, hw1⟩ : ∃ w1, w1 = (w.alloc (.cells #[.string x.Name, .int .i64 x.Length, .int .i64 x.Ball, .int .i64 x.Instep, .int .i64 x.Heel, .int .i64 x.Pitch] 37)).alloc (.cells #[.int .i64 f.Length, .int .i64 f.Ball, .int .i64 f.Instep, .int .i64 f.Heel] 39) := ⟨_, rfl⟩
  have hb : Below w.heap.size w w1 := by rw [hw1]; exact ((Below.refl _ _).alloc (Nat.le_refl _) _).alloc (by simp) _
  obtain ⟨f0, f1, f2, f3⟩ : w1.cell? ⟨w.heap.size + 1, 0, none⟩ = some (.int .i64 f.Length) ∧ w1.cell? ⟨w.heap.size + 1, 1, none⟩ = some (.int .i64 f.Ball) ∧ w1.cell? ⟨w.heap.size + 1, 2, none⟩ = some (.int .i64 f.Instep) ∧ w1.cell? ⟨w.heap.size + 1, 3, none⟩ = some (.int .i64 f.Heel) := by rw [hw1]; refine ⟨?_, ?_, ?_, ?_⟩ <;> go_simp
  obtain ⟨x0, x1, x2, x3, x4, x5⟩ : w1.cell? ⟨w.heap.size, 0, none⟩ = some (.string x.Name) ∧ w1.cell? ⟨w.heap.size, 1, none⟩ = some (.int .i64 x.Length) ∧ w1.cell? ⟨w.heap.size, 2, none⟩ = some (.int .i64 x.Ball) ∧ w1.cell? ⟨w.heap.size, 3, none⟩ = some (.int .i64 x.Instep) ∧ w1.cell? ⟨w.heap.size, 4, none⟩ = some (.int .i64 x.Heel) ∧ w1.cell? ⟨w.heap.size, 5, none⟩ = some (.int .i64 x.Pitch) := by rw [hw1]; refine ⟨?_, ?_, ?_, ?_, ?_, ?_⟩ <;> go_simp
  replace hw1 := Lib.hid hw1
  clear h1 h2 hx hf
  go_enter Try.func67, Try.ntmps67
  go_wp2_with (rw [← hw1.out])
  refine (l04Foot_c x _).mono ?_
  rintro e w2 ⟨rfl, hb2⟩
  clear x0 x1 x2 x3 x4 x5
  go_wp2_with fail
  refine (hl4.out _).mono ?_
  rintro e w3 ⟨g1, rfl, hO1, hb3⟩
  rw [hxx.out] at hO1
  replace hb2 := upw hb2 hb3
  replace f0 := kept_cell f0 hb2
  replace f1 := kept_cell f1 hb2
  replace f2 := kept_cell f2 hb2
  replace f3 := kept_cell f3 hb2
  replace hb := upw hb hb2
  clear hb2 hb3
  have hA1 := hO1.at'
  go_wp2_with fail
  refine (l02Four_c f _).mono ?_
  rintro e w4 ⟨g2, rfl, hO2, hb4⟩
  have hA2 := hO2.at'
  replace hA1 := hA1.below hb4
  replace hb := upw hb hb4
  clear hO1 hO2 f0 f1 f2 f3 hb4
  have hN0 := own_new (α := Int) w4 2
  go_wp2_with fail
  go_loopw [7, 8] (fun v i wr => ∃ k : Nat, 1 ≤ k ∧ k ≤ 4 ∧ i = .int .i64 k ∧ Own w4.heap.size wr 2 v ((needL x f).take (k - 1)) ∧ Below w4.heap.size w4 wr) (fun _ i _ => 4 - (intOf i).toNat)
  case atStart => exact ⟨1, by omega, by omega, rfl, hN0, (Below.refl _ _).alloc (Nat.le_refl _) _⟩
  case round =>
    clear hN0
    obtain ⟨k, hk1, hk, rfl, hO, hbl⟩ := hrel
    by_cases hlt : k < 4
    · have hk4 : k < (fourOf f).length := by rw [hl6.out]; exact hlt
      have hk5 : k < (fourOf (lastFoot x)).length := by rw [hl5.out]; exact hlt
      have hst := Lib.hid (HN.out k hk1 hlt hk4 hk5)
      have hA1r := hA1.below hbl
      have hA2r := hA2.below hbl
      have c0 := hA1r.int hk5
      have c1 := hA2r.int hk4
      rw [Nat.zero_add] at c0 c1
      have b0 := hx4.out _ (List.getElem_mem hk5)
      have b1 := hf4.out _ (List.getElem_mem hk4)
      generalize hp : (fourOf (lastFoot x))[k] = p at c0 b0 hst
      generalize hq : (fourOf f)[k] = q at c1 b1 hst
      replace hp := Lib.hid hp
      replace hq := Lib.hid hq
      obtain ⟨wo, hwo⟩ : ∃ wo : World, wo = wr := ⟨_, rfl⟩
      subst hwo
      replace c0 := rg c0
      replace c1 := rg c1
      have hbx := upw hb hbl
      have hb := Below.refl wo.heap.size wo
      have htl : ((needL x f).take (k - 1)).length ≤ 3 := by rw [List.length_take]; show min (k - 1) 3 ≤ 3; omega
      generalize hTT : (needL x f).take (k - 1) = T at hO hst htl
      replace hTT := Lib.hid hTT
      obtain ⟨av, cv, rfl, _⟩ := hO.at
      go_wp2_with fail
      refine wp_region_any (by kernel_rfl) ?_
      refine wpAny_take (i := 0) (v := _) rfl (by kernel_rfl) (by kernel_rfl) (by kernel_rfl) (fun _ _ _ h => h) (Or.inl ⟨by rfl, (by intro w; go_simp; try with_reducible rfl)⟩) ?_
      go_simp
      refine wp_any_tailq_below [1, 2, 3, 4, 5, 6, 7, 8, 9, 10] [11, 12, 13] (by decide +kernel) (by kernel_rfl) (picked_cons rfl (picked_cons rfl (picked_cons rfl (picked_cons rfl (picked_cons rfl (picked_cons rfl (picked_cons rfl (picked_cons rfl (picked_cons rfl (picked_cons rfl picked_nil)))))))))) (picked_cons rfl (picked_cons rfl (picked_cons rfl picked_nil))) ?_
      repeat (go_big_quiet_step ((go_at_call 109; exact Calls.regrown_same (l00Max_c _ _ _))))
      refine wpQuiet_nil ?_
      intro w2 hw'
      replace hb := upw hb (grown_of hw')
      have hw2 := grown_of hw'
      clear hw'
      replace hO := hO.later hw2
      replace hbl := upw hbl hw2
      have hsz := hbl.size
      clear hw2 c0 c1 hA1r hA2r hbx
      go_wp2_with (at_builtin; refine wpList_push rfl (.tmp 19) (.tmp 30) 22 rfl w4.heap.size 2 (.int .i64 0) 8 Try.underlying22 infoInt rfl _ T _ rfl (hO.later ((Below.refl _ _).alloc (Nat.le_refl _) _)) _ _ rfl 2 (heap_alloc_new _ _) (by omega) (by decide) (by simp; omega) ?_; intro v1 w6 hO6 hg6)
      go_roundw
      case rel => exact ⟨k + 1, by omega, by omega, by go_num, by rw [show k + 1 - 1 = k by omega, hst.out]; exact hO6, below_mark (hbl.alloc hsz _) (hO.later ((Below.refl _ _).alloc (Nat.le_refl _) _)) (Nat.le_refl _) hg6⟩
      case measure => simp [intOf]; omega
    · obtain rfl : k = 4 := by omega
      go_wp2_with fail
      go_ret
      exact ⟨_, rfl, hO.base hb.size, upw hb hbl⟩
end Go.Proofs.Ytokoallbhbgkkaa
