/- Chapter 9: what is drawn for notches. -/
import Derived.Test.YtokoallbhbgkkaaSrc
import Derived.Test.YtokoallbhbgkkaaL09e
import Derived.Test.YtokoallbhbgkkaaL09m
import Derived.Deep.RegionHeld3
namespace Go.Proofs.Ytokoallbhbgkkaa
open Go.RowKit

/-- Of Go's int64. -/
def I64 (v : Int) : Prop := -9223372036854775808 ≤ v ∧ v ≤ 9223372036854775807
theorem drawLength_c (g M : Nat) (w : World) (hS : SrcAt w g (M + 4)) :
    Calls Try.prog 86 #[.pointer (some ⟨g, 0, none⟩)] w fun e w' => ∃ v : Int, e = .returned (.int .i64 v) ∧ -1 ≤ v ∧ v ≤ 5001 ∧ SrcAt w' g M ∧ w.grownBy w' (some g) := by
  go_enter Try.func86, Try.ntmps86
  go_wp2_with fail
  refine (one_c g (M + 2) 10 w hS (by omega) (by omega)).mono ?_
  rintro e w2 ⟨b, rfl, hS2, hg2⟩
  cases b
  · go_wp2_with fail
    refine (pick_c g M 600 w2 hS2 (by omega) (by omega)).mono ?_
    rintro e w3 ⟨v, rfl, v0, v1, hS3, hg3⟩
    go_wp2_with fail
    go_ret
    exact ⟨_, rfl, by omega, by omega, hS3, grownBy_trans hg2 hg3⟩
  · have hb : Below w2.heap.size w2 (w2.alloc (.cells #[.int .i64 (-1), .int .i64 0, .int .i64 1, .int .i64 5000, .int .i64 5001] 2)) := (Below.refl _ _).alloc (Nat.le_refl _) _
    have hA := at_lits w2 2 [-1, 0, 1, 5000, 5001]
    go_wp2_with fail
    refine (among_c g M _ [-1, 0, 1, 5000, 5001] _ _ (hS2.later hb) hA (off_new hS2.lt) (by simp) (by simp)).mono ?_
    rintro e w3 ⟨v, rfl, hv, hS3, hg3⟩
    go_wp2_with fail
    go_ret
    simp at hv
    exact ⟨_, rfl, by omega, by omega, hS3, grownBy_trans (grownBy_trans hg2 (drew_below g hb)) hg3⟩
theorem drew_mark {α : Type} [Flat α] {B' g : Nat} {w wn w' : World} {e : TypeId} {v : Value} {xs : List α} (hG : w.grownBy wn (some g)) (hO : Own B' wn e v xs) (hB : w.heap.size ≤ B') (hg : wn.grownBy w' v.ownBlock) : w.grownBy w' (some g) := by
  refine ⟨hg.os.trans hG.os, hg.tape.trans hG.tape, hg.output.trans hG.output, Nat.le_trans hG.size hg.size, fun k hk hne => ?_⟩
  rw [hg.block k (Nat.lt_of_lt_of_le hk hG.size) (fun e => by have := hO.lt k e.symm; omega)]
  exact hG.block k hk hne
theorem SrcAt.mark {α : Type} [Flat α] {B' g M : Nat} {wn w' : World} {e : TypeId} {v : Value} {xs : List α} (hS : SrcAt wn g M) (hO : Own B' wn e v xs) (hB : g < B') (hg : wn.grownBy w' v.ownBlock) : SrcAt w' g M :=
  SrcAt.kept (row := v.ownBlock) hS hg (fun k hk => Nat.lt_of_lt_of_le hB (Own.lt (α := α) (xs := xs) hO k hk).1)
set_option maxHeartbeats 3200000 in
theorem drawShares_c (g M : Nat) (w : World) (hS : SrcAt w g (M + 14)) :
    Calls Try.prog 87 #[.pointer (some ⟨g, 0, none⟩)] w fun e w' => ∃ (v : Value) (xs : List Int), e = .returned v ∧ Own w.heap.size w' 2 v xs ∧ xs.length ≤ 16 ∧ SrcAt w' g M ∧ w.grownBy w' (some g) := by
  have hgl := hS.lt
  have hb0 : Below w.heap.size w (w.alloc (.cells #[] 2)) := (Below.refl _ _).alloc (Nat.le_refl _) _
  have hO0 := Lib.hid (own_new (α := Int) w 2)
  have hS0 := Lib.hid ((hS.later hb0).less (show M + 12 + 2 ≤ M + 14 by omega))
  have hG0 := Lib.hid (drew_below g hb0)
  go_enter Try.func87, Try.ntmps87
  go_wp2_with fail
  refine (pick_c g (M + 12) 5 _ hS0.out (by omega) (by omega)).mono ?_
  rintro e w2 ⟨k0, rfl, k1, k2, hS2, hg2⟩
  obtain ⟨j0, rfl⟩ : ∃ j : Nat, k0 = j := ⟨k0.toNat, by omega⟩
  have hj0 : j0 ≤ 4 := by omega
  replace hO0 := Lib.hid (hO0.out.drew hgl hg2)
  replace hG0 := Lib.hid (grownBy_trans hG0.out hg2)
  replace hS2 := Lib.hid (hS2.less (show M + 4 + 2 * j0 ≤ M + 12 by omega))
  clear hS0 hg2 k2
  go_wp2_with fail
  go_loopw [3, 4, 5] (fun v z k wr => ∃ (j : Nat) (x : Int) (xs : List Int), j ≤ 4 ∧ k = .int .i64 j ∧ z = .int .i64 x ∧ 0 ≤ x ∧ x ≤ 200 * (4 - (j : Int)) ∧ xs.length + j ≤ 4 ∧ Hid (Own w.heap.size wr 2 v xs) ∧ Hid (SrcAt wr g (M + 4 + 2 * j)) ∧ Hid (w.grownBy wr (some g))) (fun _ _ k _ => (intOf k).toNat)
  case atStart => exact ⟨j0, 0, [], hj0, rfl, rfl, Int.le_refl 0, by omega, by simpa using hj0, hO0, hS2, hG0⟩
  case round =>
    obtain ⟨j, x, xs, hj, rfl, rfl, x0, x1, hl, hO, hS3, hG⟩ := hrel
    clear hO0 hS2 hG0
    by_cases hpos : 0 < j
    · have hposI : (0 : Int) < j := by omega
      go_wp2_with fail
      refine (pick_c g (M + 4 + 2 * (j - 1)) 180 wr (hS3.out.less (by omega)) (by omega) (by omega)).mono ?_
      rintro e w3 ⟨y, rfl, y0, y1, hS4, hg4⟩
      replace hS4 := Lib.hid hS4
      have hsz : w.heap.size ≤ w3.heap.size := Nat.le_trans hG.out.size hg4.size
      have hO4 := Lib.hid (hO.out.drew hgl hg4)
      have hG4 := Lib.hid (grownBy_trans hG.out hg4)
      have hb5 : Below w3.heap.size w3 (w3.alloc (.cells #[.int .i64 (x + (1 + y))] 2)) := (Below.refl _ _).alloc (Nat.le_refl _) _
      go_wp2_with (at_builtin; refine wpList_push rfl (.tmp 19) (.tmp 21) 22 rfl w.heap.size 2 (.int .i64 0) 8 Try.underlying22 infoInt rfl _ _ (x + (1 + y)) rfl (hO4.out.later hb5) _ _ rfl 2 (heap_alloc_new _ _) (by omega) (by decide) (by simp; omega) ?_; intro v1 w7 hO1 hg1)
      have hO5 := hO4.out.later hb5
      go_roundw
      case rel => exact ⟨j - 1, x + (1 + y), xs ++ [x + (1 + y)], by omega, by go_num, rfl, by omega, by omega, by simp; omega, Lib.hid hO1, Lib.hid ((hS4.out.later hb5).mark hO5 hgl hg1), Lib.hid (drew_mark (grownBy_trans hG4.out (drew_below g hb5)) hO5 (Nat.le_refl _) hg1)⟩
      case measure => simp [intOf]; omega
    · obtain rfl : j = 0 := by omega
      replace hS3 := Lib.hid (hS3.out.less (show M + 2 + 2 ≤ M + 4 + 2 * 0 by omega))
      go_wp2_with fail
      refine (pick_c g (M + 2) 16 wr hS3.out (by omega) (by omega)).mono ?_
      rintro e w3 ⟨y, rfl, y0, y1, hS4, hg4⟩
      replace hO := Lib.hid (hO.out.drew hgl hg4)
      replace hG := Lib.hid (grownBy_trans hG.out hg4)
      have hsz := hG.out.size
      clear hS3 hg4
      by_cases e0 : y = 0
      · subst e0
        have hb5 : Below w3.heap.size w3 (w3.alloc (.cells #[.int .i64 0, .int .i64 999, .int .i64 1000] 2)) := (Below.refl _ _).alloc (Nat.le_refl _) _
        have hA := at_lits w3 2 [0, 999, 1000]
        have hO5 := Lib.hid (hO.out.later hb5)
        have hG5 := Lib.hid (grownBy_trans hG.out (drew_below g hb5))
        go_wp2_with fail
        refine (among_c g M _ [0, 999, 1000] _ _ (hS4.later hb5) hA (off_new hS4.lt) (by simp) (by simp)).mono ?_
        rintro e w6 ⟨z, rfl, hz, hS6, hg6⟩
        replace hO5 := Lib.hid (hO5.out.drew hgl hg6)
        replace hG5 := Lib.hid (grownBy_trans hG5.out hg6)
        replace hS6 := Lib.hid hS6
        have hsz6 := hG5.out.size
        have hb7 : Below w6.heap.size w6 (w6.alloc (.cells #[.int .i64 z] 2)) := (Below.refl _ _).alloc (Nat.le_refl _) _
        clear hz
        go_wp2_with (at_builtin; refine wpList_push rfl (.tmp 27) (.tmp 31) 22 rfl w.heap.size 2 (.int .i64 0) 8 Try.underlying22 infoInt rfl _ _ z rfl (hO5.out.later hb7) _ _ rfl 2 (heap_alloc_new _ _) (by omega) (by decide) (by simp; omega) ?_; intro v1 w8 hO1 hg1)
        have hO7 := hO5.out.later hb7
        go_ret
        exact ⟨_, xs ++ [z], rfl, hO1, by simp; omega, (hS6.out.later hb7).mark hO7 hgl hg1, drew_mark (grownBy_trans hG5.out (drew_below g hb7)) hO7 (Nat.le_refl _) hg1⟩
      · by_cases e1 : y = 1
        · subst e1
          have hO5 := Lib.hid ((own_new (α := Int) w3 2).base hsz)
          have hb5 : Below w3.heap.size w3 (w3.alloc (.cells #[] 2)) := (Below.refl _ _).alloc (Nat.le_refl _) _
          have hG5 := Lib.hid (grownBy_trans hG.out (drew_below g hb5))
          go_wp2_with fail
          refine (pick_c g M 2 _ (hS4.later hb5) (by omega) (by omega)).mono ?_
          rintro e w6 ⟨z, rfl, z0, z1, hS6, hg6⟩
          replace hO5 := Lib.hid (hO5.out.drew hgl hg6)
          replace hG5 := Lib.hid (grownBy_trans hG5.out hg6)
          replace hS6 := Lib.hid hS6
          clear hO hG hS4 hg6 hb5 hsz
          obtain ⟨jz, hjz, hjl⟩ : ∃ jz : Nat, 10 + z = jz ∧ jz ≤ 11 := ⟨(10 + z).toNat, by omega, by omega⟩
          go_wp2_with fail
          go_loopw [3, 6] (fun v k wr => ∃ (j : Nat) (xs : List Int), j ≤ 11 ∧ k = .int .i64 j ∧ xs.length + j ≤ 11 ∧ Hid (Own w.heap.size wr 2 v xs) ∧ Hid (SrcAt wr g M) ∧ Hid (w.grownBy wr (some g))) (fun _ k _ => (intOf k).toNat)
          case atStart => exact ⟨jz, [], hjl, by go_num, by simpa using hjl, hO5, hS6, hG5⟩
          case round =>
            obtain ⟨j, ys, hj, rfl, hl, hO, hS3, hG⟩ := hrel
            clear hO5 hS6 hG5
            have hsz := hG.out.size
            obtain ⟨a, cc, hv⟩ : ∃ a cc, u3 = .slice a ys.length cc := by
              rcases hO.out.cases with ⟨hv, hL⟩ | ⟨g, cap, hv⟩
              · exact ⟨none, 0, by rw [hv, hL]; rfl⟩
              · exact ⟨_, cap, hv⟩
            rw [hv] at hO ⊢
            by_cases hpos : 0 < j
            · have hposI : (0 : Int) < j := by omega
              have hb7 : Below wr.heap.size wr (wr.alloc (.cells #[.int .i64 (20 * (ys.length : Int) + 20)] 2)) := (Below.refl _ _).alloc (Nat.le_refl _) _
              go_wp2_with (at_builtin; refine wpList_push rfl (.tmp 43) (.tmp 48) 22 rfl w.heap.size 2 (.int .i64 0) 8 Try.underlying22 infoInt rfl _ _ (20 * (ys.length : Int) + 20) rfl (hO.out.later hb7) _ _ rfl 2 (heap_alloc_new _ _) (by omega) (by decide) (by simp; omega) ?_; intro v1 w7 hO1 hg1)
              have hO7 := hO.out.later hb7
              go_roundw
              case rel => exact ⟨j - 1, ys ++ [20 * (ys.length : Int) + 20], by omega, by go_num, by simp; omega, Lib.hid hO1, Lib.hid ((hS3.out.later hb7).mark hO7 hgl hg1), Lib.hid (drew_mark (grownBy_trans hG.out (drew_below g hb7)) hO7 (Nat.le_refl _) hg1)⟩
              case measure => simp [intOf]; omega
            · obtain rfl : j = 0 := by omega
              go_wp2_with fail
              go_ret
              exact ⟨_, ys, rfl, hO.out, by omega, hS3.out, hG.out⟩
        · go_wp2_with fail
          go_ret
          exact ⟨_, xs, rfl, hO.out, by omega, hS4.less (by omega), hG.out⟩
section
variable {P : Program} {o : Oper} {a : Act} {w : World} {K : Act → World → Prop} {Q : Exit → Act → World → Prop}
/-- A store of a whole element into a row that the call owns. -/
theorem wp_store_own {α : Type} [Flat α] (ty : TypeId) (x y : Operand) (ho : o.op = .store ty x y) (B : Nat) (e : TypeId) (g cap n : Nat) (ys : List α) (i j : Nat) (z : α)
    (hx : a.eval x = .pointer (some ⟨g, j, none⟩)) (hj : j = i * Flat.k α) (hy : (a.eval y).cells.toList = Flat.el z) (hi : (P.info? ty).map (·.size) = some (Flat.k α))
    (hn : n = ys.length) (hown : Own B w e (.slice (some ⟨g, 0, none⟩) n cap) ys) (hlt : i < ys.length)
    (h : ∀ w', Own B w' e (.slice (some ⟨g, 0, none⟩) n cap) (ys.set i z) → w.grownBy w' (some g) → K (a.put o.dst undef) w') : Oper.wp P o a w K Q := by
  subst hn
  subst hj
  have hown' := hown
  rcases hown'.2 with ⟨h', _⟩ | ⟨g', cap', cur, h', hb, hg, hnc, hcm, hcs, htake⟩
  · simp at h'
  · simp only [Value.slice.injEq, Option.some.injEq, Addr.mk.injEq, and_true, true_and] at h'
    obtain ⟨rfl, rfl⟩ := h'
    have hk : (i + 1) * Flat.k α ≤ ys.length * Flat.k α := Nat.mul_le_mul_right _ hlt
    have hk2 : ys.length * Flat.k α ≤ cap * Flat.k α := Nat.mul_le_mul_right _ hnc
    have hk3 : (i + 1) * Flat.k α = i * Flat.k α + Flat.k α := by rw [Nat.add_mul]; omega
    have hlz : (a.eval y).cells.toList.length = Flat.k α := by rw [hy, Flat.len]
    have hst := run_storeCells_at P g (i * Flat.k α) e (a.eval y).cells.toList 0 cur w hg (by rw [hlz]; omega) (by rw [hy]; exact Flat.one z)
    simp only [Nat.add_zero] at hst
    cases hq : P.info? ty with
    | none => simp [hq] at hi
    | some ti =>
      have hs : (a.eval y).cells.size = ti.size := by rw [← Array.length_toList, hlz]; simp [hq] at hi; omega
      have hrun : (storeVar ty ⟨g, i * Flat.k α, none⟩ (a.eval y)).run P w = .ok () (w.setRow g (cur.toList.take (i * Flat.k α) ++ (a.eval y).cells.toList ++ cur.toList.drop (i * Flat.k α + (a.eval y).cells.toList.length)).toArray) := by
        simp [storeVar, sizeOf, typeInfo, hq, hs, hst]
      unfold Oper.wp execOp
      simp only [ho, hx, Instr.storeAt, Instr.sureAddr, Sem.run_bind, Sem.run_pure, Result.andThen_ok, hrun]
      refine (h _ ?_ ⟨rfl, rfl, rfl, by simp, fun k _ hk => setRow_other w g k _ (fun e => hk (by simp [e]))⟩)
      unfold Own
      rw [List.length_set]
      refine ⟨?_, .inr ⟨g, cap, _, rfl, hb, setRow_heap w g cur _ e _ hg, hnc, hcm, ?_, ?_⟩⟩
      · rw [flat_length, List.length_set]
      · simp only [List.size_toArray, List.length_append, List.length_take, List.length_drop, Array.length_toList] at *
        omega
      · rw [flat_set ys z i hlt, hy, ← htake, Flat.len, hk3, List.toList_toArray]
        exact take_splice _ _ _ _ _ (Flat.len z) (by omega) (by rw [Array.length_toList]; show ys.length * Flat.k α ≤ cur.size; omega)
end
theorem own_slice {B : Nat} {w : World} {e : TypeId} {v : Value} {xs : List Int} (h : Own B w e v xs) : ∃ a c, v = .slice a xs.length c := by
  rcases h.cases with ⟨hv, hL⟩ | ⟨g, cap, hv⟩
  · exact ⟨none, 0, by rw [hv, hL]; rfl⟩
  · exact ⟨_, cap, hv⟩
theorem drawEaseOf_c (ca : Option Addr) (L : List UInt8) (cc : Nat) (w : World) (hx : At w ca L) (hl : L.length ≤ 9223372036854775807) :
    Calls Try.prog 43 #[.slice ca L.length cc] w fun e w' => ∃ (x y : Int) (v : Value) (xs : List Int), e = .returned (.tuple #[.int .i64 x, .int .i64 y, v]) ∧ (-1 ≤ x ∧ x ≤ 5001) ∧ (-1 ≤ y ∧ y ≤ 5001) ∧ Own w.heap.size w' 2 v xs ∧ xs.length ≤ 16 ∧ Below w.heap.size w w' := by
  go_enter Try.func43, Try.ntmps43
  go_wp2_with fail
  refine (l00From_c ca L cc w hx hl).mono ?_
  rintro e w1 ⟨rfl, hS1, hb1⟩
  go_wp2_with fail
  refine (drawLength_c w.heap.size 100 w1 (hS1.less (by omega))).mono ?_
  rintro e w2 ⟨x, rfl, x0, x1, hS2, hg2⟩
  replace hb1 := drew_up hb1 hg2 (Nat.le_refl _)
  go_wp2_with fail
  refine (drawLength_c w.heap.size 96 w2 hS2).mono ?_
  rintro e w3 ⟨y, rfl, y0, y1, hS3, hg3⟩
  replace hb1 := drew_up hb1 hg3 (Nat.le_refl _)
  go_wp2_with fail
  refine (drawShares_c w.heap.size 80 w3 (hS3.less (by omega))).mono ?_
  rintro e w4 ⟨v, xs, rfl, hO, hlx, hS4, hg4⟩
  have hsz := hb1.size
  replace hb1 := drew_up hb1 hg4 (Nat.le_refl _)
  go_wp2_with fail
  go_ret3
  exact ⟨x, y, v, xs, rfl, ⟨x0, x1⟩, ⟨y0, y1⟩, hO.base hsz, hlx, hb1⟩
theorem drawNotchesOf_c (ca : Option Addr) (L : List UInt8) (cc : Nat) (w : World) (hx : At w ca L) (hl : L.length ≤ 9223372036854775807) :
    Calls Try.prog 46 #[.slice ca L.length cc] w fun e w' => ∃ (x : Int) (v : Value) (xs : List Int), e = .returned (.tuple #[.int .i64 x, v]) ∧ (-1 ≤ x ∧ x ≤ 5001) ∧ Own w.heap.size w' 2 v xs ∧ xs.length ≤ 16 ∧ Below w.heap.size w w' := by
  go_enter Try.func46, Try.ntmps46
  go_wp2_with fail
  refine (l00From_c ca L cc w hx hl).mono ?_
  rintro e w1 ⟨rfl, hS1, hb1⟩
  go_wp2_with fail
  refine (drawLength_c w.heap.size 100 w1 (hS1.less (by omega))).mono ?_
  rintro e w2 ⟨x, rfl, x0, x1, hS2, hg2⟩
  replace hb1 := drew_up hb1 hg2 (Nat.le_refl _)
  go_wp2_with fail
  refine (drawShares_c w.heap.size 80 w2 (hS2.less (by omega))).mono ?_
  rintro e w4 ⟨v, xs, rfl, hO, hlx, hS4, hg4⟩
  have hsz := hb1.size
  replace hb1 := drew_up hb1 hg4 (Nat.le_refl _)
  go_wp2_with fail
  go_ret2
  exact ⟨x, v, xs, rfl, ⟨x0, x1⟩, hO.base hsz, hlx, hb1⟩
set_option maxRecDepth 100000 in
set_option maxHeartbeats 3200000 in
theorem drawFoldLength_c (ca : Option Addr) (L : List UInt8) (cc : Nat) (w : World) (hx : At w ca L) (hl : L.length ≤ 9223372036854775807) :
    Calls Try.prog 52 #[.slice ca L.length cc] w fun e w' => ∃ (x : Int) (v : Value) (xs : List Int) (y : Int), e = .returned (.tuple #[.int .i64 x, v, .int .i64 y]) ∧ (-1 ≤ x ∧ x ≤ 5001) ∧ (-1 ≤ y ∧ y ≤ 101) ∧ Own w.heap.size w' 2 v xs ∧ xs.length ≤ 16 ∧ Below w.heap.size w w' := by
  obtain ⟨i0, hi, hz0, hz1, hz2⟩ := info_parts infoInt
  go_enter Try.func52, Try.ntmps52
  go_wp2_with fail
  refine (l00From_c ca L cc w hx hl).mono ?_
  rintro e w1 ⟨rfl, hS1, hb1⟩
  go_wp2_with fail
  refine (drawLength_c w.heap.size 100 w1 (hS1.less (by omega))).mono ?_
  rintro e w2 ⟨x, rfl, x0, x1, hS2, hg2⟩
  replace hb1 := drew_up hb1 hg2 (Nat.le_refl _)
  have hg1 : w.heap.size < w2.heap.size := hS2.lt
  clear hS1 hg2
  have hb3 : Below w2.heap.size w2 (w2.alloc (.cells #[] 2)) := (Below.refl _ _).alloc (Nat.le_refl _) _
  replace hS2 := hS2.later hb3
  replace hb1 := upw hb1 hb3
  obtain ⟨B, hB⟩ : ∃ B, B = w2.heap.size := ⟨_, rfl⟩
  have hO3 := Lib.hid ((own_new (α := Int) w2 2).base (Nat.le_of_eq hB))
  rw [← hB] at hg1
  go_wp2_with fail
  refine (pick_c w.heap.size 98 5 _ hS2 (by omega) (by omega)).mono ?_
  rintro e w4 ⟨k0, rfl, k1, k2, hS4, hg4⟩
  obtain ⟨j0, rfl⟩ : ∃ j : Nat, k0 = j := ⟨k0.toNat, by omega⟩
  have hj0 : j0 ≤ 4 := by omega
  have hBw : B ≤ w4.heap.size := by have := hg4.size; have := hb3.size; rw [hB]; omega
  replace hO3 := Lib.hid (hO3.out.drew hg1 hg4)
  replace hb1 := drew_up hb1 hg4 (Nat.le_refl _)
  replace hS4 := Lib.hid (hS4.less (show 50 + 2 * j0 ≤ 98 by omega))
  clear hS2 hg4 k2 hb3
  replace hB := Lib.hid hB
  go_wp2_with fail
  go_loopw [7, 8] (fun v k wr => ∃ (j : Nat) (xs : List Int), j ≤ 4 ∧ k = .int .i64 j ∧ xs.length + j ≤ 4 ∧ Hid (Own B wr 2 v xs) ∧ Hid (SrcAt wr w.heap.size (50 + 2 * j)) ∧ Hid (Below w.heap.size w wr) ∧ B ≤ wr.heap.size) (fun _ k _ => (intOf k).toNat)
  case atStart => exact ⟨j0, [], hj0, rfl, by simpa using hj0, hO3, hS4, Lib.hid hb1, hBw⟩
  case round =>
    obtain ⟨j, xs, hj, rfl, hlx, hO, hS, hb, hBr⟩ := hrel
    clear hO3 hS4 hb1 hBw
    by_cases hpos : 0 < j
    · have hposI : (0 : Int) < j := by omega
      go_wp2_with fail
      refine (pick_c w.heap.size (50 + 2 * (j - 1)) 90 wr (hS.out.less (by omega)) (by omega) (by omega)).mono ?_
      rintro e w3 ⟨y, rfl, y0, y1, hS4, hg4⟩
      replace hS4 := Lib.hid hS4
      have hsz : B ≤ w3.heap.size := Nat.le_trans hBr hg4.size
      have hO4 := Lib.hid (hO.out.drew hg1 hg4)
      have hb4 := Lib.hid (drew_up hb.out hg4 (Nat.le_refl _))
      have hbp : Below w3.heap.size w3 (w3.alloc (.cells #[.int .i64 y] 2)) := (Below.refl _ _).alloc (Nat.le_refl _) _
      go_wp2_with (at_builtin; refine wpList_push rfl (.tmp 20) (.tmp 23) 22 rfl B 2 (.int .i64 0) 8 Try.underlying22 infoInt rfl _ _ y rfl (hO4.out.later hbp) _ _ rfl 2 (heap_alloc_new _ _) (by omega) (by decide) (by simp; omega) ?_; intro v1 wp hOp hgp)
      have hO5 := hO4.out.later hbp
      go_roundw
      case rel => exact ⟨j - 1, xs ++ [y], by omega, by go_num, by simp; omega, Lib.hid hOp, Lib.hid ((hS4.out.later hbp).mark hO5 hg1 hgp), Lib.hid (below_mark (upw hb4.out hbp) hO5 (Nat.le_of_lt hg1) hgp), Nat.le_trans hsz (Nat.le_trans hbp.size hgp.size)⟩
      case measure => simp [intOf]; omega
    · obtain rfl : j = 0 := by omega
      replace hS := Lib.hid (hS.out.less (show 40 + 2 ≤ 50 + 2 * 0 by omega))
      go_wp2_with fail
      refine (pick_c w.heap.size 40 16 wr hS.out (by omega) (by omega)).mono ?_
      rintro e w3 ⟨y, rfl, y0, y1, hS4, hg4⟩
      replace hO := Lib.hid (hO.out.drew hg1 hg4)
      replace hb := Lib.hid (drew_up hb.out hg4 (Nat.le_refl _))
      replace hBr := Nat.le_trans hBr hg4.size
      clear hS hg4
      replace hS4 := Lib.hid hS4
      by_cases e0 : y = 0
      · subst e0
        have hb5 : Below w3.heap.size w3 (w3.alloc (.cells #[.int .i64 (-1), .int .i64 0, .int .i64 200, .int .i64 201] 2)) := (Below.refl _ _).alloc (Nat.le_refl _) _
        have hA := at_lits w3 2 [-1, 0, 200, 201]
        have hO5 := Lib.hid (hO.out.later hb5)
        have hB5 := Lib.hid (upw hb.out hb5)
        go_wp2_with fail
        refine (among_c w.heap.size 38 _ [-1, 0, 200, 201] _ _ (hS4.out.later hb5) hA (off_new hS4.out.lt) (by simp) (by simp)).mono ?_
        rintro e w6 ⟨z, rfl, hz, hS6, hg6⟩
        replace hO5 := Lib.hid (hO5.out.drew hg1 hg6)
        replace hB5 := Lib.hid (drew_up hB5.out hg6 (Nat.le_refl _))
        have hBr6 : B ≤ w6.heap.size := Nat.le_trans (Nat.le_trans hBr hb5.size) hg6.size
        replace hS6 := Lib.hid hS6
        have hbp : Below w6.heap.size w6 (w6.alloc (.cells #[.int .i64 z] 2)) := (Below.refl _ _).alloc (Nat.le_refl _) _
        clear hz
        go_wp2_with (at_builtin; refine wpList_push rfl (.tmp 29) (.tmp 33) 22 rfl B 2 (.int .i64 0) 8 Try.underlying22 infoInt rfl _ _ z rfl (hO5.out.later hbp) _ _ rfl 2 (heap_alloc_new _ _) (by omega) (by decide) (by simp; omega) ?_; intro v1 wp hOp hgp)
        have hO7 := hO5.out.later hbp
        have hSF := (hS6.out.later hbp).mark hO7 hg1 hgp
        have hBF := below_mark (upw hB5.out hbp) hO7 (Nat.le_of_lt hg1) hgp
        have hlF : (xs ++ [z]).length ≤ 16 := by simp; omega
        have hOF := Lib.hid hOp
        generalize xs ++ [z] = ys at *
        clear hO hb hS4 hO5 hB5 hS6 hO7 hOp
        go_wp2_with fail
        refine (one_c w.heap.size 34 10 wp (hSF.less (by omega)) (by omega) (by omega)).mono ?_
        rintro e wq ⟨b, rfl, hSq, hgq⟩
        have hOq := Lib.hid (hOF.out.drew hg1 hgq)
        have hBq := drew_up hBF hgq (Nat.le_refl _)
        clear hSF hBF hOF hgq
        cases b
        · go_wp2_with fail
          refine (pick_c w.heap.size 32 20 wq hSq (by omega) (by omega)).mono ?_
          rintro e wf ⟨y, rfl, y0, y1, hSf, hgf⟩
          have hOf := hOq.out.drew hg1 hgf
          have hBf := drew_up hBq hgf (Nat.le_refl _)
          go_wp2_with fail
          go_ret3
          exact ⟨x, _, ys, y, rfl, ⟨x0, x1⟩, by omega, hOf.base (Nat.le_of_lt hg1), hlF, hBf⟩
        · have hb8 : Below wq.heap.size wq (wq.alloc (.cells #[.int .i64 (-1), .int .i64 0, .int .i64 100, .int .i64 101] 2)) := (Below.refl _ _).alloc (Nat.le_refl _) _
          have hA8 := at_lits wq 2 [-1, 0, 100, 101]
          have hO8 := Lib.hid (hOq.out.later hb8)
          have hB8 := upw hBq hb8
          go_wp2_with fail
          refine (among_c w.heap.size 32 _ [-1, 0, 100, 101] _ _ (hSq.later hb8) hA8 (off_new hSq.lt) (by simp) (by simp)).mono ?_
          rintro e wf ⟨y, rfl, hy, hSf, hgf⟩
          have hOf := hO8.out.drew hg1 hgf
          have hBf := drew_up hB8 hgf (Nat.le_refl _)
          simp at hy
          go_wp2_with fail
          go_ret3
          exact ⟨x, _, ys, y, rfl, ⟨x0, x1⟩, by omega, hOf.base (Nat.le_of_lt hg1), hlF, hBf⟩
      · by_cases e1 : y = 1
        · subst e1
          go_wp2_with fail
          refine (pick_c w.heap.size 38 2 _ hS4.out (by omega) (by omega)).mono ?_
          rintro e w6 ⟨z, rfl, z0, z1, hS6, hg6⟩
          replace hb := Lib.hid (drew_up hb.out hg6 (Nat.le_refl _))
          replace hBr := Nat.le_trans hBr hg6.size
          obtain ⟨n, hn, hnl⟩ : ∃ n : Nat, 10 + z = n ∧ n ≤ 11 := ⟨(10 + z).toNat, by omega, by omega⟩
          go_wp2_with (at_make; refine wpList_make_full _ rfl (.tmp 39) (.tmp 39) 22 rfl w6.heap.size 2 i0 (.int .i64 0) 1 Try.underlying22 hi hz0 hz1 .i64 .i64 _ _ n (by rw [← hn]; rfl) (by rw [← hn]; rfl) rfl rfl (by rw [hz2]; omega) (by unfold maxLen; omega) (Nat.le_refl _) ?_; intro wp hown hgm)
          have hOF : Hid (Own B wp 2 (.slice (some ⟨w6.heap.size, 0, none⟩) n n) (List.replicate n (0 : Int))) := Lib.hid (by
            have k : Own w6.heap.size wp 2 (.slice (some ⟨w6.heap.size, 0, none⟩) n n) (List.replicate n (0 : Int)) := by
              unfold Own; rw [List.length_replicate, ← made_flat (0 : Int) _ rfl]; exact hown
            exact k.base hBr)
          have hbm : Below w6.heap.size w6 wp := (Below.refl _ _).grown hgm (Nat.le_refl _) (by simp)
          have hSF := hS6.later hbm
          have hBF := upw hb.out hbm
          have hlF : (List.replicate n (0 : Int)).length ≤ 16 := by simp; omega
          generalize List.replicate n (0 : Int) = ys at *
          clear hO hb hS4 hown hgm hbm hS6 hg6
          go_wp2_with fail
          refine (one_c w.heap.size 34 10 wp (hSF.less (by omega)) (by omega) (by omega)).mono ?_
          rintro e wq ⟨b, rfl, hSq, hgq⟩
          have hOq := Lib.hid (hOF.out.drew hg1 hgq)
          have hBq := drew_up hBF hgq (Nat.le_refl _)
          clear hSF hBF hOF hgq
          cases b
          · go_wp2_with fail
            refine (pick_c w.heap.size 32 20 wq hSq (by omega) (by omega)).mono ?_
            rintro e wf ⟨y, rfl, y0, y1, hSf, hgf⟩
            have hOf := hOq.out.drew hg1 hgf
            have hBf := drew_up hBq hgf (Nat.le_refl _)
            go_wp2_with fail
            go_ret3
            exact ⟨x, _, ys, y, rfl, ⟨x0, x1⟩, by omega, hOf.base (Nat.le_of_lt hg1), hlF, hBf⟩
          · have hb8 : Below wq.heap.size wq (wq.alloc (.cells #[.int .i64 (-1), .int .i64 0, .int .i64 100, .int .i64 101] 2)) := (Below.refl _ _).alloc (Nat.le_refl _) _
            have hA8 := at_lits wq 2 [-1, 0, 100, 101]
            have hO8 := Lib.hid (hOq.out.later hb8)
            have hB8 := upw hBq hb8
            go_wp2_with fail
            refine (among_c w.heap.size 32 _ [-1, 0, 100, 101] _ _ (hSq.later hb8) hA8 (off_new hSq.lt) (by simp) (by simp)).mono ?_
            rintro e wf ⟨y, rfl, hy, hSf, hgf⟩
            have hOf := hO8.out.drew hg1 hgf
            have hBf := drew_up hB8 hgf (Nat.le_refl _)
            simp at hy
            go_wp2_with fail
            go_ret3
            exact ⟨x, _, ys, y, rfl, ⟨x0, x1⟩, by omega, hOf.base (Nat.le_of_lt hg1), hlF, hBf⟩
        · have hSF := hS4.out
          have hBF := hb.out
          have hlF : xs.length ≤ 16 := by omega
          have hOF := hO
          generalize xs = ys at *
          clear hO hb hS4
          go_wp2_with fail
          refine (one_c w.heap.size 34 10 w3 (hSF.less (by omega)) (by omega) (by omega)).mono ?_
          rintro e wq ⟨b, rfl, hSq, hgq⟩
          have hOq := Lib.hid (hOF.out.drew hg1 hgq)
          have hBq := drew_up hBF hgq (Nat.le_refl _)
          clear hSF hBF hOF hgq
          cases b
          · go_wp2_with fail
            refine (pick_c w.heap.size 32 20 wq hSq (by omega) (by omega)).mono ?_
            rintro e wf ⟨y, rfl, y0, y1, hSf, hgf⟩
            have hOf := hOq.out.drew hg1 hgf
            have hBf := drew_up hBq hgf (Nat.le_refl _)
            go_wp2_with fail
            go_ret3
            exact ⟨x, _, ys, y, rfl, ⟨x0, x1⟩, by omega, hOf.base (Nat.le_of_lt hg1), hlF, hBf⟩
          · have hb8 : Below wq.heap.size wq (wq.alloc (.cells #[.int .i64 (-1), .int .i64 0, .int .i64 100, .int .i64 101] 2)) := (Below.refl _ _).alloc (Nat.le_refl _) _
            have hA8 := at_lits wq 2 [-1, 0, 100, 101]
            have hO8 := Lib.hid (hOq.out.later hb8)
            have hB8 := upw hBq hb8
            go_wp2_with fail
            refine (among_c w.heap.size 32 _ [-1, 0, 100, 101] _ _ (hSq.later hb8) hA8 (off_new hSq.lt) (by simp) (by simp)).mono ?_
            rintro e wf ⟨y, rfl, hy, hSf, hgf⟩
            have hOf := hO8.out.drew hg1 hgf
            have hBf := drew_up hB8 hgf (Nat.le_refl _)
            simp at hy
            go_wp2_with fail
            go_ret3
            exact ⟨x, _, ys, y, rfl, ⟨x0, x1⟩, by omega, hOf.base (Nat.le_of_lt hg1), hlF, hBf⟩
theorem results_tmp5 {fn : Func} {t u v x y : Tmp} (h : fn.results = #[.tmp t, .tmp u, .tmp v, .tmp x, .tmp y]) (tmps : Array Value) (P : Program) (w : World) :
    (results fn tmps).run P w = .ok (.tuple #[tmps.getD t undef, tmps.getD u undef, tmps.getD v undef, tmps.getD x undef, tmps.getD y undef]) w := by
  simp [results, h]
theorem Own.offA {α : Type} [Flat α] {B g : Nat} {w : World} {e : TypeId} {a : Option Addr} {n c : Nat} {xs : List α} (h : Own B w e (.slice a n c) xs) (hB : g < B) : xs = [] ∨ Off a g := by
  refine Or.inr fun b o e => ?_
  subst e
  have := h.lt b rfl
  omega
theorem notches_len (n : Int) (xs : List Int) : (notches n xs).length ≤ xs.length := by
  unfold notches; split <;> simp
theorem own_cap3 {α : Type} [Flat α] {B : Nat} {w : World} {e : TypeId} {g n c : Nat} {xs : List α} (h : Own B w e (.slice (some ⟨g, 0, none⟩) n c) xs) : xs.length ≤ c ∧ c ≤ maxLen := by
  rcases h.2 with ⟨h', _⟩ | ⟨g', cap', cur, h', hb, hg, hnc, hcm, hcs, htake⟩
  · simp at h'
  · simp only [Value.slice.injEq, Option.some.injEq, Addr.mk.injEq, and_true] at h'
    obtain ⟨rfl, _, rfl⟩ := h'
    exact ⟨hnc, hcm⟩
set_option maxRecDepth 100000 in
set_option maxHeartbeats 6400000 in
theorem drawNotchFault_c (ca : Option Addr) (L : List UInt8) (cc : Nat) (w : World) (hx : At w ca L) (hl : L.length ≤ 9223372036854775807) :
    Calls Try.prog 49 #[.slice ca L.length cc] w fun e w' => ∃ (x y : Int) (a : Option Addr) (c : Nat) (ps : List Int) (a' : Option Addr) (qs : List Int) (c' : Nat) (m : Int), e = .returned (.tuple #[.int .i64 x, .int .i64 y, .slice a ps.length c, .slice a' qs.length c', .int .i64 m]) ∧ (-1 ≤ x ∧ x ≤ 5001) ∧ (-1 ≤ y ∧ y ≤ 5021) ∧ At w' a ps ∧ At w' a' qs ∧ ps.length ≤ 16 ∧ qs.length ≤ 16 ∧ (-1 ≤ m ∧ m ≤ 5001) ∧ Below w.heap.size w w' := by
  go_enter Try.func49, Try.ntmps49
  go_wp2_with fail
  refine (l00From_c ca L cc w hx hl).mono ?_
  rintro e w1 ⟨rfl, hS1, hb1⟩
  go_wp2_with fail
  refine (drawLength_c w.heap.size 100 w1 (hS1.less (by omega))).mono ?_
  rintro e w2 ⟨x, rfl, x0, x1, hS2, hg2⟩
  replace hb1 := drew_up hb1 hg2 (Nat.le_refl _)
  clear hS1 hg2
  go_wp2_with fail
  refine (pick_c w.heap.size 98 20 w2 hS2 (by omega) (by omega)).mono ?_
  rintro e w3 ⟨z, rfl, z0, z1, hS3, hg3⟩
  replace hb1 := drew_up hb1 hg3 (Nat.le_refl _)
  clear hS2 hg3
  go_wp2_with fail
  refine (drawShares_c w.heap.size 80 w3 (hS3.less (by omega))).mono ?_
  rintro e w4 ⟨v, X, rfl, hX, hXl, hS4, hg4⟩
  have hg1 : w.heap.size < w3.heap.size := hS3.lt
  replace hb1 := drew_up hb1 hg4 (Nat.le_refl _)
  have hBw : w3.heap.size ≤ w4.heap.size := hg4.size
  clear hS3 hg4
  obtain ⟨xa, xc, rfl⟩ := own_slice hX
  have hXa := hX.at'
  have hXo := hX.offA hg1
  clear hX
  have h1 := notches_len x X
  have h2 := notches_len (x + z) X
  have C1 := Lib.hid (specNotchesOf_c x xa X xc w4 (by omega) hXa (by omega))
  have C2 := Lib.hid (fun w' hb => specNotchesOf_c (x + z) xa X xc w' (by omega) (hXa.below (w' := w') hb) (by omega))
  generalize notches x X = PS at *
  generalize notches (x + z) X = QS at *
  go_wp2_with fail
  refine C1.out.mono ?_
  rintro e w5 ⟨v1, rfl, hP, hb5⟩
  go_wp2_with fail
  refine (C2.out _ hb5).mono ?_
  rintro e w6 ⟨v2, rfl, hQ, hb6⟩
  have hapart := own_apart hP hQ (Nat.le_refl _)
  replace hP := Lib.hid ((hP.later hb6).base (Nat.le_refl w4.heap.size |> fun _ => hBw))
  have hQb := hQ.base (Nat.le_trans hBw hb5.size)
  replace hQ := Lib.hid hQ
  have hS6 := (hS4.later hb5).later hb6
  replace hb1 := upw (upw hb1 hb5) hb6
  clear hS4 C1 C2 hXa hXo hBw hb5 hb6
  replace hapart := Lib.hid hapart
  obtain ⟨B, hB⟩ : ∃ B, B = w3.heap.size := ⟨_, rfl⟩
  rw [← hB] at hP hQb hg1
  replace hB := Lib.hid hB
  replace hQ := Lib.hid hQb
  clear hQb
  obtain ⟨ap, cp, rfl⟩ := own_slice hP.out
  obtain ⟨aq, cq, rfl⟩ := own_slice hQ.out
  by_cases hne : 0 < QS.length ∧ 0 < PS.length
  · obtain ⟨hq0, hp0⟩ := hne
    have hq0' : 0 < (QS.length : Int) := by omega
    have hp0' : 0 < (PS.length : Int) := by omega
    obtain ⟨gp, cap1, hv⟩ := hP.out.row hp0
    simp only [Value.slice.injEq] at hv
    obtain ⟨rfl, -, rfl⟩ := hv
    obtain ⟨gq, cap2, hv⟩ := hQ.out.row hq0
    simp only [Value.slice.injEq] at hv
    obtain ⟨rfl, -, rfl⟩ := hv
    have hpo := hP.out.offA hg1
    have hqo := hQ.out.offA hg1
    go_wp2_with fail
    refine (pick_c w.heap.size 78 8 w6 (hS6.less (by omega)) (by omega) (by omega)).mono ?_
    rintro e w7 ⟨y, rfl, y0, y1, hS7, hg7⟩
    replace hP := Lib.hid (hP.out.drew hg1 hg7)
    replace hQ := Lib.hid (hQ.out.drew hg1 hg7)
    replace hb1 := drew_up hb1 hg7 (Nat.le_refl _)
    clear hS6 hg7
    by_cases e0 : y = 0
    · subst e0
      have hQc := hQ.out.at'
      go_wp2_with fail
      refine wp_region_held_drew (S := (fun _ => True)) (by kernel_rfl) trivial (fun hHeld => ?_)
      refine wpAnyH_take (i := 0) (v := _) rfl (by kernel_rfl) (by kernel_rfl) (by kernel_rfl) (fun _ _ _ h => h) (Or.inl ⟨by rfl, (by intro w hSw; (try dsimp only at hSw); go_simp; try with_reducible rfl)⟩) (by assumption) ?_
      go_simp
      refine wpAnyH_take (i := 1) (v := _) rfl (by kernel_rfl) (by kernel_rfl) (by kernel_rfl) (fun _ _ _ h => h) (Or.inl ⟨by rfl, (by intro w hSw; (try dsimp only at hSw); go_simp; try with_reducible rfl)⟩) (by assumption) ?_
      go_simp
      refine wpAnyH_take (i := 2) (v := _) rfl (by kernel_rfl) (by kernel_rfl) (by kernel_rfl) (fun _ _ _ h => h) (Or.inl ⟨by rfl, (by intro w hSw; (try dsimp only at hSw); go_simp; try with_reducible rfl)⟩) (by assumption) ?_
      go_simp
      refine wpAnyH_take (i := 3) (v := _) rfl (by kernel_rfl) (by kernel_rfl) (by kernel_rfl) (fun _ _ _ h => h) (Or.inl ⟨by rfl, (by intro w hSw; (try dsimp only at hSw); go_simp; try with_reducible rfl)⟩) (by assumption) ?_
      go_simp
      refine wpAnyH_take (i := 7) (v := _) rfl (by kernel_rfl) (by kernel_rfl) (by kernel_rfl) (fun _ _ _ h => h) (Or.inl ⟨by rfl, (by intro w hSw; (try dsimp only at hSw); go_simp; try with_reducible rfl)⟩) (by assumption) ?_
      go_simp
      refine wpAnyH_ready (rs := [4]) (by kernel_rfl) (by simp) ?_
      refine AllReadyH.cons rfl (fun K hK => ?_) AllReadyH.nil
      go_simp
      refine (pick_c w.heap.size 76 QS.length _ ((hS7.less (by omega)).later (Below.refl _ _).drew) (by omega) (by omega)).mono ?_
      rintro e w8 ⟨u, rfl, u0, u1, hS8, hg8⟩
      have hP8 := Lib.hid ((hP.out.later (Below.refl _ _).drew).drew hg1 hg8)
      have hQ8 := Lib.hid ((hQ.out.later (Below.refl _ _).drew).drew hg1 hg8)
      have hB8 := drew_up (upw hb1 (Below.refl _ _).drew) hg8 (Nat.le_refl _)
      obtain ⟨k, rfl⟩ : ∃ k : Nat, u = k := ⟨u.toNat, by omega⟩
      have hk : k < QS.length := by omega
      have hkI : (k : Int) < QS.length := by omega
      clear hS7 hb1 hP hQ hg8 hQc
      go_simp
      refine hK.out _ _ trivial (fun hHeld => ?_)
      clear hK K
      go_simp
      refine wpAnyH_take (i := 5) (v := _) rfl (by kernel_rfl) (by kernel_rfl) (by kernel_rfl) (fun _ _ _ h => h) (Or.inl ⟨by rfl, (by intro w hSw; (try dsimp only at hSw); go_simp; try with_reducible rfl)⟩) (by assumption) ?_
      go_simp
      refine wpAnyH_ready (rs := [6, 8]) (by kernel_rfl) (by simp) ?_
      refine AllReadyH.cons rfl (fun K hK => ?_) (AllReadyH.cons rfl (fun K hK => ?_) AllReadyH.nil)
      · have d0 := hQ8.out.at'.int hk
        rw [Nat.zero_add] at d0
        go_simp
        refine hK.out _ _ trivial (fun hHeld => ?_)
        clear hK K
        go_simp
        refine wpAnyH_ready (rs := [8]) (by kernel_rfl) (by simp) ?_
        refine AllReadyH.cons rfl (fun K hK => ?_) AllReadyH.nil
        go_simp
        refine (pick_c w.heap.size 74 9 _ hS8 (by omega) (by omega)).mono ?_
        rintro e w9 ⟨t, rfl, t0, t1, hS9, hg9⟩
        replace hP8 := Lib.hid (hP8.out.drew hg1 hg9)
        replace hQ8 := Lib.hid (hQ8.out.drew hg1 hg9)
        replace hB8 := drew_up hB8 hg9 (Nat.le_refl _)
        clear hS8 hg9 d0
        go_simp
        refine hK.out _ _ trivial (fun hHeld => ?_)
        clear hK K
        go_simp
        refine wpAnyH_take (i := 9) (v := _) rfl (by kernel_rfl) (by kernel_rfl) (by kernel_rfl) (fun _ _ _ h => h) (Or.inl ⟨by rfl, (by intro w hSw; (try dsimp only at hSw); go_simp; try with_reducible rfl)⟩) (by assumption) ?_
        go_simp
        refine wpAnyH_take (i := 10) (v := _) rfl (by kernel_rfl) (by kernel_rfl) (by kernel_rfl) (fun _ _ _ h => h) (Or.inl ⟨by rfl, (by intro w hSw; (try dsimp only at hSw); go_simp; try with_reducible rfl)⟩) (by assumption) ?_
        go_simp
        refine wpAnyH_take (i := 11) (v := _) rfl (by kernel_rfl) (by kernel_rfl) (by kernel_rfl) (fun _ _ _ h => h) (Or.inl ⟨by rfl, (by intro w hSw; (try dsimp only at hSw); go_simp; try with_reducible rfl)⟩) (by assumption) ?_
        go_simp
        refine wpAnyH_ready (rs := [12]) (by kernel_rfl) (by simp) ?_
        refine AllReadyH.cons rfl (fun K hK => ?_) AllReadyH.nil
        refine cast (if_pos (by rfl)).symm ?_
        refine wp_store_own 2 (.tmp 60) (.tmp 59) rfl B 2 gq cq QS.length QS k k _ rfl (by simp [Flat.k]) rfl (by kernel_rfl) rfl hQ8.out hk ?_
        intro wp hQQ hgp
        obtain ⟨qs, hQd, hQQ⟩ : ∃ qs : List Int, QS.length = qs.length ∧ Own B wp 2 (.slice (some ⟨gq, 0, none⟩) QS.length cq) qs := ⟨_, (List.length_set ..).symm, hQQ⟩
        refine hK.out _ _ trivial (fun hHeld => ?_)
        clear hK K
        go_simp
        refine wpAnyH_done (by kernel_rfl) ?_ _
        have hSF := hS9.kept hgp (fun k' hk' => by have := hQ8.out.lt k' hk'; omega)
        have hBF := below_mark hB8 hQ8.out (Nat.le_of_lt hg1) hgp
        have hQF := hQQ.at_n
        have hPF := (hP8.out.kept hgp (by
          rcases hapart.out with h | h
          · exact absurd h (by simp [Value.ownBlock])
          · exact Or.inr (fun e => h (by simp only [Value.ownBlock] at e ⊢; exact e.symm)))).at'
        have hQo : qs = [] ∨ Off (some ⟨gq, 0, none⟩) w.heap.size := hqo.elim (fun h => absurd hq0 (by rw [h]; simp)) Or.inr
        have hPo := hpo
        have hPl : PS.length ≤ 16 := by omega
        have hQl : qs.length ≤ 16 := by omega
        clear hS9 hP8 hQ8 hB8 hQQ hapart hpo hqo
        generalize PS = ps at *
        go_wp2_with fail
        refine (one_c w.heap.size 34 10 wp (hSF.less (by omega)) (by omega) (by omega)).mono ?_
        rintro e wq ⟨b, rfl, hSq, hgq⟩
        have hPq := hPF.offF hPo hgq
        have hQq := hQF.offF hQo hgq
        have hBq := drew_up hBF hgq (Nat.le_refl _)
        clear hSF hBF hPF hQF hgq
        cases b
        · go_wp2_with fail
          refine (pick_c w.heap.size 32 4 wq hSq (by omega) (by omega)).mono ?_
          rintro e wf ⟨y, rfl, y0, y1, hSf, hgf⟩
          have hPf := hPq.offF hPo hgf
          have hQf := hQq.offF hQo hgf
          have hBf := drew_up hBq hgf (Nat.le_refl _)
          go_wp2_with fail
          (try simp only [Exit.inBlock, Exit.then])
          refine bodyPost_ret (results_tmp5 rfl _ _ _) rfl ?_
          exact ⟨x, x + z, _, _, ps, _, qs, _, y, rfl, by omega, by omega, hPf, hQf, hPl, hQl, by omega, hBf⟩
        · have hb8 : Below wq.heap.size wq (wq.alloc (.cells #[.int .i64 (-1), .int .i64 0, .int .i64 5000, .int .i64 5001] 2)) := (Below.refl _ _).alloc (Nat.le_refl _) _
          have hA8 := at_lits wq 2 [-1, 0, 5000, 5001]
          have hB8 := upw hBq hb8
          go_wp2_with fail
          refine (among_c w.heap.size 32 _ [-1, 0, 5000, 5001] _ _ (hSq.later hb8) hA8 (off_new hSq.lt) (by simp) (by simp)).mono ?_
          rintro e wf ⟨y, rfl, hy, hSf, hgf⟩
          have hPf := (hPq.below hb8).offF hPo hgf
          have hQf := (hQq.below hb8).offF hQo hgf
          have hBf := drew_up hB8 hgf (Nat.le_refl _)
          simp at hy
          go_wp2_with fail
          (try simp only [Exit.inBlock, Exit.then])
          refine bodyPost_ret (results_tmp5 rfl _ _ _) rfl ?_
          exact ⟨x, x + z, _, _, ps, _, qs, _, y, rfl, by omega, by omega, hPf, hQf, hPl, hQl, by omega, hBf⟩
      · go_simp
        refine (pick_c w.heap.size 74 9 _ hS8 (by omega) (by omega)).mono ?_
        rintro e w9 ⟨t, rfl, t0, t1, hS9, hg9⟩
        replace hP8 := Lib.hid (hP8.out.drew hg1 hg9)
        replace hQ8 := Lib.hid (hQ8.out.drew hg1 hg9)
        replace hB8 := drew_up hB8 hg9 (Nat.le_refl _)
        clear hS8 hg9
        go_simp
        refine hK.out _ _ trivial (fun hHeld => ?_)
        clear hK K
        go_simp
        have d0 := hQ8.out.at'.int hk
        rw [Nat.zero_add] at d0
        refine wpAnyH_take (i := 9) (v := _) rfl (by kernel_rfl) (by kernel_rfl) (by kernel_rfl) (fun _ _ _ h => h) (Or.inl ⟨by rfl, (by intro w hSw; (try dsimp only at hSw); go_simp; try with_reducible rfl)⟩) (by assumption) ?_
        go_simp
        refine wpAnyH_ready (rs := [6]) (by kernel_rfl) (by simp) ?_
        refine AllReadyH.cons rfl (fun K hK => ?_) AllReadyH.nil
        go_simp
        refine hK.out _ _ trivial (fun hHeld => ?_)
        clear hK K
        go_simp
        clear d0
        refine wpAnyH_take (i := 10) (v := _) rfl (by kernel_rfl) (by kernel_rfl) (by kernel_rfl) (fun _ _ _ h => h) (Or.inl ⟨by rfl, (by intro w hSw; (try dsimp only at hSw); go_simp; try with_reducible rfl)⟩) (by assumption) ?_
        go_simp
        refine wpAnyH_take (i := 11) (v := _) rfl (by kernel_rfl) (by kernel_rfl) (by kernel_rfl) (fun _ _ _ h => h) (Or.inl ⟨by rfl, (by intro w hSw; (try dsimp only at hSw); go_simp; try with_reducible rfl)⟩) (by assumption) ?_
        go_simp
        refine wpAnyH_ready (rs := [12]) (by kernel_rfl) (by simp) ?_
        refine AllReadyH.cons rfl (fun K hK => ?_) AllReadyH.nil
        refine cast (if_pos (by rfl)).symm ?_
        refine wp_store_own 2 (.tmp 60) (.tmp 59) rfl B 2 gq cq QS.length QS k k _ rfl (by simp [Flat.k]) rfl (by kernel_rfl) rfl hQ8.out hk ?_
        intro wp hQQ hgp
        obtain ⟨qs, hQd, hQQ⟩ : ∃ qs : List Int, QS.length = qs.length ∧ Own B wp 2 (.slice (some ⟨gq, 0, none⟩) QS.length cq) qs := ⟨_, (List.length_set ..).symm, hQQ⟩
        refine hK.out _ _ trivial (fun hHeld => ?_)
        clear hK K
        go_simp
        refine wpAnyH_done (by kernel_rfl) ?_ _
        have hSF := hS9.kept hgp (fun k' hk' => by have := hQ8.out.lt k' hk'; omega)
        have hBF := below_mark hB8 hQ8.out (Nat.le_of_lt hg1) hgp
        have hQF := hQQ.at_n
        have hPF := (hP8.out.kept hgp (by
          rcases hapart.out with h | h
          · exact absurd h (by simp [Value.ownBlock])
          · exact Or.inr (fun e => h (by simp only [Value.ownBlock] at e ⊢; exact e.symm)))).at'
        have hQo : qs = [] ∨ Off (some ⟨gq, 0, none⟩) w.heap.size := hqo.elim (fun h => absurd hq0 (by rw [h]; simp)) Or.inr
        have hPo := hpo
        have hPl : PS.length ≤ 16 := by omega
        have hQl : qs.length ≤ 16 := by omega
        clear hS9 hP8 hQ8 hB8 hQQ hapart hpo hqo
        generalize PS = ps at *
        go_wp2_with fail
        refine (one_c w.heap.size 34 10 wp (hSF.less (by omega)) (by omega) (by omega)).mono ?_
        rintro e wq ⟨b, rfl, hSq, hgq⟩
        have hPq := hPF.offF hPo hgq
        have hQq := hQF.offF hQo hgq
        have hBq := drew_up hBF hgq (Nat.le_refl _)
        clear hSF hBF hPF hQF hgq
        cases b
        · go_wp2_with fail
          refine (pick_c w.heap.size 32 4 wq hSq (by omega) (by omega)).mono ?_
          rintro e wf ⟨y, rfl, y0, y1, hSf, hgf⟩
          have hPf := hPq.offF hPo hgf
          have hQf := hQq.offF hQo hgf
          have hBf := drew_up hBq hgf (Nat.le_refl _)
          go_wp2_with fail
          (try simp only [Exit.inBlock, Exit.then])
          refine bodyPost_ret (results_tmp5 rfl _ _ _) rfl ?_
          exact ⟨x, x + z, _, _, ps, _, qs, _, y, rfl, by omega, by omega, hPf, hQf, hPl, hQl, by omega, hBf⟩
        · have hb8 : Below wq.heap.size wq (wq.alloc (.cells #[.int .i64 (-1), .int .i64 0, .int .i64 5000, .int .i64 5001] 2)) := (Below.refl _ _).alloc (Nat.le_refl _) _
          have hA8 := at_lits wq 2 [-1, 0, 5000, 5001]
          have hB8 := upw hBq hb8
          go_wp2_with fail
          refine (among_c w.heap.size 32 _ [-1, 0, 5000, 5001] _ _ (hSq.later hb8) hA8 (off_new hSq.lt) (by simp) (by simp)).mono ?_
          rintro e wf ⟨y, rfl, hy, hSf, hgf⟩
          have hPf := (hPq.below hb8).offF hPo hgf
          have hQf := (hQq.below hb8).offF hQo hgf
          have hBf := drew_up hB8 hgf (Nat.le_refl _)
          simp at hy
          go_wp2_with fail
          (try simp only [Exit.inBlock, Exit.then])
          refine bodyPost_ret (results_tmp5 rfl _ _ _) rfl ?_
          exact ⟨x, x + z, _, _, ps, _, qs, _, y, rfl, by omega, by omega, hPf, hQf, hPl, hQl, by omega, hBf⟩
    · by_cases e1 : y = 1
      · subst e1
        have hcap0 := own_cap3 hQ.out
        by_cases hc1 : cq = 1
        · have hnil : QS.drop 1 = [] := List.drop_eq_nil_of_le (by omega)
          subst hc1
          have hSF := hS7
          have hBF := hb1
          have hPF := hP.out.at'
          have hQF : At w7 (some ⟨gq, 0, none⟩) (QS.drop 1) := Or.inl hnil
          have hPo := hpo
          have hQo : QS.drop 1 = [] ∨ Off (some ⟨gq, 0, none⟩) w.heap.size := Or.inl hnil
          have hPl : PS.length ≤ 16 := by omega
          have hQl : (QS.drop 1).length ≤ 16 := by simp; omega
          have hQd : (QS.drop 1).length = 0 := by rw [hnil]; rfl
          have hcap := own_cap3 hQ.out
          have hQ1 : 1 ≤ QS.length := hq0
          clear hS7 hb1 hapart hP hqo hpo hQ
          generalize PS = ps at *
          generalize hqs : QS.drop 1 = qs at *
          go_wp2_with fail
          refine (one_c w.heap.size 34 10 w7 (hSF.less (by omega)) (by omega) (by omega)).mono ?_
          rintro e wq ⟨b, rfl, hSq, hgq⟩
          have hPq := hPF.offF hPo hgq
          have hQq := hQF.offF hQo hgq
          have hBq := drew_up hBF hgq (Nat.le_refl _)
          clear hSF hBF hPF hQF hgq
          cases b
          · go_wp2_with fail
            refine (pick_c w.heap.size 32 4 wq hSq (by omega) (by omega)).mono ?_
            rintro e wf ⟨y, rfl, y0, y1, hSf, hgf⟩
            have hPf := hPq.offF hPo hgf
            have hQf := hQq.offF hQo hgf
            have hBf := drew_up hBq hgf (Nat.le_refl _)
            go_wp2_with fail
            (try simp only [Exit.inBlock, Exit.then])
            refine bodyPost_ret (results_tmp5 rfl _ _ _) rfl ?_
            exact ⟨x, x + z, _, _, ps, _, qs, _, y, (by rw [hQd]; rfl), by omega, by omega, hPf, hQf, hPl, hQl, by omega, hBf⟩
          · have hb8 : Below wq.heap.size wq (wq.alloc (.cells #[.int .i64 (-1), .int .i64 0, .int .i64 5000, .int .i64 5001] 2)) := (Below.refl _ _).alloc (Nat.le_refl _) _
            have hA8 := at_lits wq 2 [-1, 0, 5000, 5001]
            have hB8 := upw hBq hb8
            go_wp2_with fail
            refine (among_c w.heap.size 32 _ [-1, 0, 5000, 5001] _ _ (hSq.later hb8) hA8 (off_new hSq.lt) (by simp) (by simp)).mono ?_
            rintro e wf ⟨y, rfl, hy, hSf, hgf⟩
            have hPf := (hPq.below hb8).offF hPo hgf
            have hQf := (hQq.below hb8).offF hQo hgf
            have hBf := drew_up hB8 hgf (Nat.le_refl _)
            simp at hy
            go_wp2_with fail
            (try simp only [Exit.inBlock, Exit.then])
            refine bodyPost_ret (results_tmp5 rfl _ _ _) rfl ?_
            exact ⟨x, x + z, _, _, ps, _, qs, _, y, (by rw [hQd]; rfl), by omega, by omega, hPf, hQf, hPl, hQl, by omega, hBf⟩
        · have hc2 : 2 ≤ cq := by omega
          have hSF := hS7
          have hBF := hb1
          have hPF := hP.out.at'
          have hQF : At w7 (some ⟨gq, 1, none⟩) (QS.drop 1) := hQ.out.at'.tail
          have hPo := hpo
          have hQo : QS.drop 1 = [] ∨ Off (some ⟨gq, 1, none⟩) w.heap.size := by
            rcases hqo with h | h
            · exact Or.inl (by rw [h]; rfl)
            · refine Or.inr fun b o e => ?_
              simp only [Option.some.injEq, Addr.mk.injEq, and_true] at e
              obtain ⟨rfl, rfl⟩ := e
              exact h gq 0 rfl
          have hPl : PS.length ≤ 16 := by omega
          have hQl : (QS.drop 1).length ≤ 16 := by simp; omega
          have hQd : (QS.drop 1).length = QS.length - 1 := by simp
          have hcap := own_cap3 hQ.out
          have hQ1 : 1 ≤ QS.length := hq0
          clear hS7 hb1 hapart hP hqo hpo hQ
          generalize PS = ps at *
          generalize hqs : QS.drop 1 = qs at *
          go_wp2_with fail
          refine (one_c w.heap.size 34 10 w7 (hSF.less (by omega)) (by omega) (by omega)).mono ?_
          rintro e wq ⟨b, rfl, hSq, hgq⟩
          have hPq := hPF.offF hPo hgq
          have hQq := hQF.offF hQo hgq
          have hBq := drew_up hBF hgq (Nat.le_refl _)
          clear hSF hBF hPF hQF hgq
          cases b
          · go_wp2_with fail
            refine (pick_c w.heap.size 32 4 wq hSq (by omega) (by omega)).mono ?_
            rintro e wf ⟨y, rfl, y0, y1, hSf, hgf⟩
            have hPf := hPq.offF hPo hgf
            have hQf := hQq.offF hQo hgf
            have hBf := drew_up hBq hgf (Nat.le_refl _)
            go_wp2_with fail
            (try simp only [Exit.inBlock, Exit.then])
            refine bodyPost_ret (results_tmp5 rfl _ _ _) rfl ?_
            exact ⟨x, x + z, _, _, ps, _, qs, _, y, (by rw [hQd]; rfl), by omega, by omega, hPf, hQf, hPl, hQl, by omega, hBf⟩
          · have hb8 : Below wq.heap.size wq (wq.alloc (.cells #[.int .i64 (-1), .int .i64 0, .int .i64 5000, .int .i64 5001] 2)) := (Below.refl _ _).alloc (Nat.le_refl _) _
            have hA8 := at_lits wq 2 [-1, 0, 5000, 5001]
            have hB8 := upw hBq hb8
            go_wp2_with fail
            refine (among_c w.heap.size 32 _ [-1, 0, 5000, 5001] _ _ (hSq.later hb8) hA8 (off_new hSq.lt) (by simp) (by simp)).mono ?_
            rintro e wf ⟨y, rfl, hy, hSf, hgf⟩
            have hPf := (hPq.below hb8).offF hPo hgf
            have hQf := (hQq.below hb8).offF hQo hgf
            have hBf := drew_up hB8 hgf (Nat.le_refl _)
            simp at hy
            go_wp2_with fail
            (try simp only [Exit.inBlock, Exit.then])
            refine bodyPost_ret (results_tmp5 rfl _ _ _) rfl ?_
            exact ⟨x, x + z, _, _, ps, _, qs, _, y, (by rw [hQd]; rfl), by omega, by omega, hPf, hQf, hPl, hQl, by omega, hBf⟩
      · by_cases e2 : y = 2
        · subst e2
          have hb8 : Below w7.heap.size w7 (w7.alloc (.cells #[.int .i64 (-1), .int .i64 0, .int .i64 x, .int .i64 (x + 1)] 2)) := (Below.refl _ _).alloc (Nat.le_refl _) _
          have hA8 := at_lits w7 2 [-1, 0, x, x + 1]
          have hP8 := Lib.hid (hP.out.later hb8)
          have hQ8 := Lib.hid (hQ.out.later hb8)
          have hB8 := upw hb1 hb8
          go_wp2_with fail
          refine (among_c w.heap.size 70 _ [-1, 0, x, x + 1] _ _ ((hS7.less (by omega)).later hb8) hA8 (off_new hS7.lt) (by simp) (by simp)).mono ?_
          rintro e w9 ⟨u, rfl, hu, hS9, hg9⟩
          clear hu hA8
          replace hP8 := Lib.hid (hP8.out.drew hg1 hg9)
          replace hQ8 := Lib.hid (hQ8.out.drew hg1 hg9)
          replace hB8 := drew_up hB8 hg9 (Nat.le_refl _)
          replace hS9 := Lib.hid hS9
          go_wp2_with (refine wpList_store_own rfl 2 (.tmp 74) (.tmp 73) rfl B 2 _ _ _ PS 0 _ u rfl (by simp [Flat.k]) rfl (by kernel_rfl) rfl hP8.out hp0 ?_; intro wp hPP hgp)
          have hSF := hS9.out.kept hgp (fun k hk => by have := hP8.out.lt k hk; omega)
          have hBF := below_mark hB8 hP8.out (Nat.le_of_lt hg1) hgp
          have hPF := hPP.at_n
          have hQF := (hQ8.out.kept hgp hapart.out).at'
          have hPo : PS.set 0 u = [] ∨ Off (some ⟨gp, 0, none⟩) w.heap.size := by
            rcases hpo with h | h
            · rw [h] at hp0; simp at hp0
            · exact Or.inr h
          have hQo := hqo
          have hPl : (PS.set 0 u).length ≤ 16 := by simp; omega
          have hQl : QS.length ≤ 16 := by omega
          have hPd : (PS.set 0 u).length = PS.length := by simp
          clear hS7 hb1 hapart hP hQ hpo hqo hP8 hQ8 hB8 hS9 hPP
          generalize PS.set 0 u = ps at *
          generalize QS = qs at *
          go_wp2_with fail
          refine (one_c w.heap.size 34 10 wp (hSF.less (by omega)) (by omega) (by omega)).mono ?_
          rintro e wq ⟨b, rfl, hSq, hgq⟩
          have hPq := hPF.offF hPo hgq
          have hQq := hQF.offF hQo hgq
          have hBq := drew_up hBF hgq (Nat.le_refl _)
          clear hSF hBF hPF hQF hgq
          cases b
          · go_wp2_with fail
            refine (pick_c w.heap.size 32 4 wq hSq (by omega) (by omega)).mono ?_
            rintro e wf ⟨y, rfl, y0, y1, hSf, hgf⟩
            have hPf := hPq.offF hPo hgf
            have hQf := hQq.offF hQo hgf
            have hBf := drew_up hBq hgf (Nat.le_refl _)
            go_wp2_with fail
            (try simp only [Exit.inBlock, Exit.then])
            refine bodyPost_ret (results_tmp5 rfl _ _ _) rfl ?_
            exact ⟨x, x + z, _, _, ps, _, qs, _, y, by rw [hPd]; rfl, by omega, by omega, hPf, hQf, hPl, hQl, by omega, hBf⟩
          · have hb8 : Below wq.heap.size wq (wq.alloc (.cells #[.int .i64 (-1), .int .i64 0, .int .i64 5000, .int .i64 5001] 2)) := (Below.refl _ _).alloc (Nat.le_refl _) _
            have hA8 := at_lits wq 2 [-1, 0, 5000, 5001]
            have hB8 := upw hBq hb8
            go_wp2_with fail
            refine (among_c w.heap.size 32 _ [-1, 0, 5000, 5001] _ _ (hSq.later hb8) hA8 (off_new hSq.lt) (by simp) (by simp)).mono ?_
            rintro e wf ⟨y, rfl, hy, hSf, hgf⟩
            have hPf := (hPq.below hb8).offF hPo hgf
            have hQf := (hQq.below hb8).offF hQo hgf
            have hBf := drew_up hB8 hgf (Nat.le_refl _)
            simp at hy
            go_wp2_with fail
            (try simp only [Exit.inBlock, Exit.then])
            refine bodyPost_ret (results_tmp5 rfl _ _ _) rfl ?_
            exact ⟨x, x + z, _, _, ps, _, qs, _, y, by rw [hPd]; rfl, by omega, by omega, hPf, hQf, hPl, hQl, by omega, hBf⟩
        · have hSF := hS7
          have hBF := hb1
          have hPF := hP.out.at'
          have hQF := hQ.out.at'
          have hPo := hpo
          have hQo := hqo
          have hPl : PS.length ≤ 16 := by omega
          have hQl : QS.length ≤ 16 := by omega
          clear hS7 hb1 hapart hP hQ hpo hqo
          generalize PS = ps at *
          generalize QS = qs at *
          go_wp2_with fail
          refine (one_c w.heap.size 34 10 w7 (hSF.less (by omega)) (by omega) (by omega)).mono ?_
          rintro e wq ⟨b, rfl, hSq, hgq⟩
          have hPq := hPF.offF hPo hgq
          have hQq := hQF.offF hQo hgq
          have hBq := drew_up hBF hgq (Nat.le_refl _)
          clear hSF hBF hPF hQF hgq
          cases b
          · go_wp2_with fail
            refine (pick_c w.heap.size 32 4 wq hSq (by omega) (by omega)).mono ?_
            rintro e wf ⟨y, rfl, y0, y1, hSf, hgf⟩
            have hPf := hPq.offF hPo hgf
            have hQf := hQq.offF hQo hgf
            have hBf := drew_up hBq hgf (Nat.le_refl _)
            go_wp2_with fail
            (try simp only [Exit.inBlock, Exit.then])
            refine bodyPost_ret (results_tmp5 rfl _ _ _) rfl ?_
            exact ⟨x, x + z, _, _, ps, _, qs, _, y, rfl, by omega, by omega, hPf, hQf, hPl, hQl, by omega, hBf⟩
          · have hb8 : Below wq.heap.size wq (wq.alloc (.cells #[.int .i64 (-1), .int .i64 0, .int .i64 5000, .int .i64 5001] 2)) := (Below.refl _ _).alloc (Nat.le_refl _) _
            have hA8 := at_lits wq 2 [-1, 0, 5000, 5001]
            have hB8 := upw hBq hb8
            go_wp2_with fail
            refine (among_c w.heap.size 32 _ [-1, 0, 5000, 5001] _ _ (hSq.later hb8) hA8 (off_new hSq.lt) (by simp) (by simp)).mono ?_
            rintro e wf ⟨y, rfl, hy, hSf, hgf⟩
            have hPf := (hPq.below hb8).offF hPo hgf
            have hQf := (hQq.below hb8).offF hQo hgf
            have hBf := drew_up hB8 hgf (Nat.le_refl _)
            simp at hy
            go_wp2_with fail
            (try simp only [Exit.inBlock, Exit.then])
            refine bodyPost_ret (results_tmp5 rfl _ _ _) rfl ?_
            exact ⟨x, x + z, _, _, ps, _, qs, _, y, rfl, by omega, by omega, hPf, hQf, hPl, hQl, by omega, hBf⟩
  · have hne' : ¬ (0 < (QS.length : Int) ∧ 0 < (PS.length : Int)) := by omega
    have hSF := hS6
    have hBF := hb1
    have hPF := hP.out.at'
    have hQF := hQ.out.at'
    have hPo := hP.out.offA hg1
    have hQo := hQ.out.offA hg1
    have hPl : PS.length ≤ 16 := by omega
    have hQl : QS.length ≤ 16 := by omega
    clear hS6 hb1 hapart hP hQ
    generalize PS = ps at *
    generalize QS = qs at *
    by_cases hq0 : 0 < qs.length
    · have hq0' : 0 < (qs.length : Int) := by omega
      have hp0' : ¬ 0 < (ps.length : Int) := by omega
      go_wp2_with fail
      refine (one_c w.heap.size 34 10 w6 (hSF.less (by omega)) (by omega) (by omega)).mono ?_
      rintro e wq ⟨b, rfl, hSq, hgq⟩
      have hPq := hPF.offF hPo hgq
      have hQq := hQF.offF hQo hgq
      have hBq := drew_up hBF hgq (Nat.le_refl _)
      clear hSF hBF hPF hQF hgq
      cases b
      · go_wp2_with fail
        refine (pick_c w.heap.size 32 4 wq hSq (by omega) (by omega)).mono ?_
        rintro e wf ⟨y, rfl, y0, y1, hSf, hgf⟩
        have hPf := hPq.offF hPo hgf
        have hQf := hQq.offF hQo hgf
        have hBf := drew_up hBq hgf (Nat.le_refl _)
        go_wp2_with fail
        (try simp only [Exit.inBlock, Exit.then])
        refine bodyPost_ret (results_tmp5 rfl _ _ _) rfl ?_
        exact ⟨x, x + z, _, _, ps, _, qs, _, y, rfl, by omega, by omega, hPf, hQf, hPl, hQl, by omega, hBf⟩
      · have hb8 : Below wq.heap.size wq (wq.alloc (.cells #[.int .i64 (-1), .int .i64 0, .int .i64 5000, .int .i64 5001] 2)) := (Below.refl _ _).alloc (Nat.le_refl _) _
        have hA8 := at_lits wq 2 [-1, 0, 5000, 5001]
        have hB8 := upw hBq hb8
        go_wp2_with fail
        refine (among_c w.heap.size 32 _ [-1, 0, 5000, 5001] _ _ (hSq.later hb8) hA8 (off_new hSq.lt) (by simp) (by simp)).mono ?_
        rintro e wf ⟨y, rfl, hy, hSf, hgf⟩
        have hPf := (hPq.below hb8).offF hPo hgf
        have hQf := (hQq.below hb8).offF hQo hgf
        have hBf := drew_up hB8 hgf (Nat.le_refl _)
        simp at hy
        go_wp2_with fail
        (try simp only [Exit.inBlock, Exit.then])
        refine bodyPost_ret (results_tmp5 rfl _ _ _) rfl ?_
        exact ⟨x, x + z, _, _, ps, _, qs, _, y, rfl, by omega, by omega, hPf, hQf, hPl, hQl, by omega, hBf⟩
    · have hq0' : ¬ 0 < (qs.length : Int) := by omega
      go_wp2_with fail
      refine (one_c w.heap.size 34 10 w6 (hSF.less (by omega)) (by omega) (by omega)).mono ?_
      rintro e wq ⟨b, rfl, hSq, hgq⟩
      have hPq := hPF.offF hPo hgq
      have hQq := hQF.offF hQo hgq
      have hBq := drew_up hBF hgq (Nat.le_refl _)
      clear hSF hBF hPF hQF hgq
      cases b
      · go_wp2_with fail
        refine (pick_c w.heap.size 32 4 wq hSq (by omega) (by omega)).mono ?_
        rintro e wf ⟨y, rfl, y0, y1, hSf, hgf⟩
        have hPf := hPq.offF hPo hgf
        have hQf := hQq.offF hQo hgf
        have hBf := drew_up hBq hgf (Nat.le_refl _)
        go_wp2_with fail
        (try simp only [Exit.inBlock, Exit.then])
        refine bodyPost_ret (results_tmp5 rfl _ _ _) rfl ?_
        exact ⟨x, x + z, _, _, ps, _, qs, _, y, rfl, by omega, by omega, hPf, hQf, hPl, hQl, by omega, hBf⟩
      · have hb8 : Below wq.heap.size wq (wq.alloc (.cells #[.int .i64 (-1), .int .i64 0, .int .i64 5000, .int .i64 5001] 2)) := (Below.refl _ _).alloc (Nat.le_refl _) _
        have hA8 := at_lits wq 2 [-1, 0, 5000, 5001]
        have hB8 := upw hBq hb8
        go_wp2_with fail
        refine (among_c w.heap.size 32 _ [-1, 0, 5000, 5001] _ _ (hSq.later hb8) hA8 (off_new hSq.lt) (by simp) (by simp)).mono ?_
        rintro e wf ⟨y, rfl, hy, hSf, hgf⟩
        have hPf := (hPq.below hb8).offF hPo hgf
        have hQf := (hQq.below hb8).offF hQo hgf
        have hBf := drew_up hB8 hgf (Nat.le_refl _)
        simp at hy
        go_wp2_with fail
        (try simp only [Exit.inBlock, Exit.then])
        refine bodyPost_ret (results_tmp5 rfl _ _ _) rfl ?_
        exact ⟨x, x + z, _, _, ps, _, qs, _, y, rfl, by omega, by omega, hPf, hQf, hPl, hQl, by omega, hBf⟩
end Go.Proofs.Ytokoallbhbgkkaa
