/- Chapter 6: what is drawn: layers and builds. -/
import Derived.Test.YtokoallbhbgkkaaA2
import Derived.Test.YtokoallbhbgkkaaBuildLaw
import Derived.Test.YtokoallbhbgkkaaLists
namespace Go.Proofs.Ytokoallbhbgkkaa
open Go.RowKit

/-- Layers as they are drawn. -/
structure DrawnL (ls : List Int) : Prop where
  len : 1 ≤ ls.length ∧ ls.length ≤ 4
  pos : ∀ x ∈ ls, 2 ≤ x ∧ x ≤ 36
  rises : RisesL ls
theorem rises_push {ls : List Int} {x : Int} (h : RisesL ls) (hx : ∀ y ∈ ls, y < x) : RisesL (ls ++ [x]) := by
  intro i j hij hj
  rw [List.length_append, List.length_singleton] at hj
  by_cases h1 : j < ls.length
  · rw [List.getElem_append_left (by omega), List.getElem_append_left h1]; exact h i j hij h1
  · rw [List.getElem_append_left (by omega), List.getElem_append_right (by omega)]
    simp only [List.getElem_singleton]
    exact hx _ (List.getElem_mem _)
/-- A row of the call's own has changed: of what was there only the source has turned. -/
theorem drew_push {α : Type} [Flat α] {w w3 w3' w4 : World} {g B : Nat} {e : TypeId} {v : Value} {xs : List α} (hgw : w.grownBy w3 (some g)) (hb : Below w3.heap.size w3 w3') (hO : Own B w3 e v xs) (hB : w.heap.size ≤ B) (hg : w3'.grownBy w4 v.ownBlock) : w.grownBy w4 (some g) := by
  have hA := grownBy_trans hgw (drew_below g hb)
  refine ⟨hg.os.trans hA.os, hg.tape.trans hA.tape, hg.output.trans hA.output, Nat.le_trans hA.size hg.size, fun i hi hr => ?_⟩
  refine (hg.block i (Nat.lt_of_lt_of_le hi hA.size) ?_).trans (hA.block i hi hr)
  intro e
  have := (hO.lt i e.symm).1
  omega
theorem SrcAt.pushed {α : Type} [Flat α] {w3 w3' w4 : World} {g B M : Nat} {e : TypeId} {v : Value} {xs : List α} (h : SrcAt w3 g M) (hb : Below w3.heap.size w3 w3') (hO : Own B w3 e v xs) (hB : g < B) (hg : w3'.grownBy w4 v.ownBlock) : SrcAt w4 g M :=
  (h.later hb).kept hg (fun k hk => by have := (hO.lt k hk).1; omega)
set_option maxHeartbeats 2000000 in
theorem l06Draw_c (g M : Nat) (w : World) (hS : SrcAt w g (M + 12)) :
    Calls Try.prog 72 #[.pointer (some ⟨g, 0, none⟩)] w fun e w' => ∃ v ls, e = .returned v ∧ Own w.heap.size w' 2 v ls ∧ DrawnL ls ∧ SrcAt w' g M ∧ w.grownBy w' (some g) := by
  have hgl := hS.lt
  have hb0 : Below w.heap.size w (w.alloc (.cells #[] 2)) := (Below.refl _ _).alloc (Nat.le_refl _) _
  have hN0 := own_new (α := Int) w 2
  replace hS := hS.later hb0
  go_enter Try.func72, Try.ntmps72
  go_wp2_with fail
  refine (pick_c g (M + 10) 4 _ hS (by omega) (by omega)).mono ?_
  rintro e w2 ⟨n, rfl, n0, n1, hS2, hg2⟩
  replace hN0 := hN0.drew hgl hg2
  have hgw := grownBy_trans (drew_below g hb0) hg2
  obtain ⟨m, rfl⟩ : ∃ m : Nat, n = m := ⟨n.toNat, by omega⟩
  clear hS hb0 hg2
  go_wp2_with fail
  go_loopw [3, 4, 5] (fun v z i wr => ∃ (k : Nat) (ls : List Int) (q : Int), i = .int .i64 k ∧ z = .int .i64 q ∧ ls.length + k = m + 1 ∧ 0 ≤ q ∧ q ≤ 9 * ls.length ∧ Hid ((∀ x ∈ ls, 2 ≤ x ∧ x ≤ q) ∧ RisesL ls) ∧ Own w.heap.size wr 2 v ls ∧ SrcAt wr g (M + 2 * k) ∧ w.grownBy wr (some g)) (fun _ _ i _ => (intOf i).toNat)
  case atStart => exact ⟨m + 1, [], 0, by go_num, rfl, by simp, by omega, by simp, Lib.hid ⟨by simp, fun i j _ hj => absurd hj (Nat.not_lt_zero _)⟩, hN0, hS2.less (by omega), hgw⟩
  case round =>
    clear hN0 hS2 hgw
    obtain ⟨k, ls, q, rfl, rfl, hlk, q0, q1, hH, hO, hS, hgw⟩ := hrel
    by_cases hk : 0 < k
    · have hll : ls.length ≤ 4 := by omega
      have hkb : k ≤ 5 := by omega
      obtain ⟨wo, hwo⟩ : ∃ wo : World, wo = wr := ⟨_, rfl⟩
      subst hwo
      go_wp2_with fail
      refine (pick_c g (M + 2 * (k - 1)) 8 _ (hS.less (by omega)) (by omega) (by omega)).mono ?_
      rintro e w3 ⟨y, rfl, y0, y1, hS3, hg3⟩
      have hy : y < 8 := by omega
      clear y1
      replace hO := hO.drew hgl hg3
      replace hgw := grownBy_trans hgw hg3
      have hsz := hgw.size
      obtain ⟨av, cv, rfl, _⟩ := hO.at
      replace hlk := Lib.hid hlk
      go_wp2_with (at_builtin; refine wpList_push rfl (.tmp 19) (.tmp 21) 22 rfl w.heap.size 2 (.int .i64 0) 8 Try.underlying22 infoInt rfl _ ls _ rfl (hO.later ((Below.refl _ _).alloc (Nat.le_refl _) _)) _ _ rfl 2 (heap_alloc_new _ _) (by omega) (by decide) (by simp; omega) ?_; intro v1 w4 hO1 hg1)
      go_roundw
      case rel =>
        have hlk' := hlk.out
        refine ⟨k - 1, ls ++ [q + (2 + y)], q + (2 + y), by go_num, rfl, by simp; omega, by omega, by simp; omega, Lib.hid ⟨fun x hx => ?_, ?_⟩, hO1, ?_, ?_⟩
        · rcases List.mem_append.1 hx with hx | hx
          · have := hH.out.1 x hx; omega
          · rw [List.mem_singleton] at hx; omega
        · exact rises_push hH.out.2 fun x hx => by have := hH.out.1 x hx; omega
        · exact SrcAt.pushed hS3 ((Below.refl _ _).alloc (Nat.le_refl _) _) hO hgl hg1
        · exact drew_push hgw ((Below.refl _ _).alloc (Nat.le_refl _) _) hO (Nat.le_refl _) hg1
      case measure => simp [intOf]; omega
    · obtain rfl : k = 0 := by omega
      go_wp2_with fail
      go_ret
      refine ⟨_, ls, rfl, hO, ⟨by omega, fun x hx => ?_, hH.out.2⟩, hS.less (by omega), hgw⟩
      have := hH.out.1 x hx
      omega
theorem A2Layers_c (a : Option Addr) (L : List UInt8) (c : Nat) (w : World) (hx : At w a L) (hl : L.length ≤ 9223372036854775807) :
    Calls Try.prog 25 #[.slice a L.length c] w fun e w' => ∃ v ls, e = .returned v ∧ Own w.heap.size w' 2 v ls ∧ DrawnL ls ∧ Below w.heap.size w w' := by
  go_enter Try.func25, Try.ntmps25
  go_wp2_with fail
  refine (l00From_c a L c w hx hl).mono ?_
  rintro e w1 ⟨rfl, hS, hb⟩
  go_wp2_with fail
  refine (l06Draw_c _ 0 _ (hS.less (by omega))).mono ?_
  rintro e w2 ⟨v, ls, rfl, hO, hD, _, hg⟩
  go_wp2_with fail
  go_ret
  exact ⟨v, ls, rfl, hO.base hb.size, hD, drew_up hb hg (Nat.le_refl _)⟩
theorem At.offSrc {α : Type} [Flat α] {w : World} {a : Option Addr} {xs : List α} {g : Nat} (h : At w a xs) (hg : w.heap.size ≤ g) : xs = [] ∨ Ahead a g := by
  rcases h with h | ⟨b, o, rfl, hlt, _⟩
  · exact Or.inl h
  · refine Or.inr fun b' o' e => ?_
    simp only [Option.some.injEq, Addr.mk.injEq] at e
    omega
set_option maxHeartbeats 4000000 in
theorem A2Build_c (a : Option Addr) (L : List UInt8) (c : Nat) (a' : Option Addr) (ls : List Int) (c' : Nat) (w : World) (hx : At w a L) (hl : L.length ≤ 9223372036854775807) (hy : At w a' ls) (hD : DrawnL ls) :
    Calls Try.prog 26 #[.slice a L.length c, .slice a' ls.length c'] w fun e w' => ∃ v D, e = .returned v ∧ Own w.heap.size w' 2 v D ∧ (∀ x ∈ D, x ∈ ls) ∧ D.length ≤ 12 ∧ Below w.heap.size w w' := by
  have hlen := hD.len
  have hoff := (hy.offSrc (Nat.le_refl w.heap.size)).imp_right fun h => h.off (Nat.le_refl _)
  go_enter Try.func26, Try.ntmps26
  go_wp2_with fail
  refine (l00From_c a L c w hx hl).mono ?_
  rintro e w1 ⟨rfl, hS, hb⟩
  have hsz := hb.size
  have hb0 : Below w1.heap.size w1 (w1.alloc (.cells #[] 2)) := (Below.refl _ _).alloc (Nat.le_refl _) _
  have hN0 := (own_new (α := Int) w1 2)
  have hgl := hS.lt
  replace hS := hS.later hb0
  have hgw := drew_below w.heap.size hb0
  obtain ⟨w2, hw2⟩ : ∃ w2, w2 = w1.alloc (.cells #[] 2) := ⟨_, rfl⟩
  rw [← hw2] at hb0 hN0 hS hgw
  have hy2 := hy.below hb
  have hsz2 : w1.heap.size < w2.heap.size := by rw [hw2]; simp
  replace hw2 := Lib.hid hw2
  clear hb0
  go_wp2_with fail
  rw [← hw2.out]
  go_loopw [6, 7] (fun v i wr => ∃ (j : Nat) (D : List Int), j ≤ ls.length ∧ i = .int .i64 ((j : Int) - 1) ∧ Hid ((∀ x ∈ D, x ∈ ls) ∧ D.length ≤ 3 * (ls.length - j)) ∧ Own w1.heap.size wr 2 v D ∧ SrcAt wr w.heap.size (8 * j) ∧ w1.grownBy wr (some w.heap.size)) (fun _ i _ => ((intOf i) + 1).toNat)
  case atStart => exact ⟨ls.length, [], Nat.le_refl _, rfl, Lib.hid ⟨by simp, by simp⟩, hN0, hS.less (by omega), hgw⟩
  case round =>
    clear hN0 hS hgw
    obtain ⟨j, D, hj, rfl, hH, hO, hS, hgw⟩ := hrel
    by_cases hj0 : j = 0
    · subst hj0
      have hDl := hH.out.2
      go_wp2_with fail
      go_ret
      exact ⟨_, D, rfl, hO.base hsz, hH.out.1, by omega, drew_up hb hgw (Nat.le_refl _)⟩
    · have hjl : j - 1 < ls.length := by omega
      have hji : (j : Int) - 1 = ((j - 1 : Nat) : Int) := by omega
      rw [hji]
      have hy3 := hy2.offF hoff hgw
      have hDl0 := hH.out.2
      have hDl : D.length ≤ 12 := by omega
      clear hDl0
      obtain ⟨wo, hwo⟩ : ∃ wo : World, wo = wr := ⟨_, rfl⟩
      subst hwo
      go_wp2_with fail
      refine (pick_c w.heap.size (8 * (j - 1)) 4 _ (hS.less (by omega)) (by omega) (by omega)).mono ?_
      rintro e w3 ⟨y, rfl, y0, y1, hS3, hg3⟩
      obtain ⟨m, rfl⟩ : ∃ m : Nat, y = m := ⟨y.toNat, by omega⟩
      have hm : m ≤ 3 := by omega
      clear y1 y0 hS
      replace hO := hO.drew hgl hg3
      replace hgw := grownBy_trans hgw hg3
      clear hg3 hy3
      go_wp2_with fail
      go_loopw [6, 8] (fun v i wr => ∃ (k : Nat) (E : List Int), k ≤ m ∧ i = .int .i64 k ∧ Hid ((∀ x ∈ E, x ∈ ls) ∧ E.length + k ≤ D.length + m) ∧ Own w1.heap.size wr 2 v E ∧ SrcAt wr w.heap.size (8 * (j - 1)) ∧ w1.grownBy wr (some w.heap.size)) (fun _ i _ => (intOf i).toNat)
      case atStart => exact ⟨m, D, Nat.le_refl _, rfl, Lib.hid ⟨hH.out.1, Nat.le_refl _⟩, hO, hS3, hgw⟩
      case round =>
        clear hO hS3 hgw
        obtain ⟨k, E, hk, rfl, hE, hO, hS, hgw⟩ := hrel
        by_cases hk0 : 0 < k
        · have hy3 := hy2.offF hoff hgw
          obtain ⟨b, o, rfl⟩ := hy3.addr hjl
          have c0 := hy3.int hjl
          have hEl0 := hE.out.2
          have hEl : E.length ≤ 15 := by omega
          have hsr := hgw.size
          obtain ⟨av, cv, rfl, _⟩ := hO.at
          clear hEl0
          go_wp2_with (at_builtin; refine wpList_push rfl (.tmp 25) (.tmp 30) 22 rfl w1.heap.size 2 (.int .i64 0) 8 Try.underlying22 infoInt rfl _ E _ rfl (hO.later ((Below.refl _ _).alloc (Nat.le_refl _) _)) _ _ rfl 2 (heap_alloc_new _ _) (by omega) (by decide) (by simp; omega) ?_; intro v1 w4 hO1 hg1)
          go_roundw
          case rel =>
            refine ⟨k - 1, E ++ [ls[j - 1]], by omega, by go_num, Lib.hid ⟨fun x hx => ?_, by have := hE.out.2; simp; omega⟩, hO1, SrcAt.pushed hS ((Below.refl _ _).alloc (Nat.le_refl _) _) hO hgl hg1, ?_⟩
            · rcases List.mem_append.1 hx with hx | hx
              · exact hE.out.1 x hx
              · rw [List.mem_singleton] at hx; rw [hx]; exact List.getElem_mem _
            · exact drew_push hgw ((Below.refl _ _).alloc (Nat.le_refl _) _) hO (Nat.le_refl _) hg1
          case measure => simp [intOf]; omega
        · obtain rfl : k = 0 := by omega
          have h3 := hE.out.2
          have h4 := hH.out.2
          have hH2 : Hid ((∀ x ∈ E, x ∈ ls) ∧ E.length ≤ 3 * (ls.length - (j - 1))) := Lib.hid ⟨hE.out.1, by omega⟩
          clear h3 h4
          go_wp2_with fail
          go_roundw
          case rel => exact ⟨j - 1, E, by omega, by go_num, hH2, hO, hS, hgw⟩
          case measure => simp [intOf]
end Go.Proofs.Ytokoallbhbgkkaa
