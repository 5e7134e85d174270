/- The source of choices, with what it holds: the same bytes give the same choices. -/
import Derived.Test.YtaeinllbjkjhlaaGreatDoorSrc
namespace Go.Proofs.YtaeinllbjkjhlaaGreatDoor
open Go.RowKit

/-- A source lies behind g, k bytes of L have been drawn, its seed is sd. -/
def SrcIs (w : World) (g M : Nat) (L : List UInt8) (k : Nat) (sd : Int) : Prop := ∃ (ca : Option Addr) (cc : Nat), Own g w 104 (.slice (some ⟨g, 0, none⟩) 3 3) (srcCells ca L.length cc k sd) ∧ At w ca L ∧ (L = [] ∨ Ahead ca g) ∧ L.length ≤ 9223372036854775807 ∧ k + M ≤ 4611686018427387904 ∧ 0 ≤ sd ∧ sd < 18446744073709551616
theorem SrcIs.src {w : World} {g M : Nat} {L : List UInt8} {k : Nat} {sd : Int} (h : SrcIs w g M L k sd) : SrcAt w g M := by
  obtain ⟨ca, cc, h1, h2, h3, h4, h5, h6, h7⟩ := h
  exact ⟨ca, L, cc, k, sd, h1, h2, h3, h4, by omega, by omega, h6, h7⟩
theorem SrcIs.less {w : World} {g M M' : Nat} {L : List UInt8} {k : Nat} {sd : Int} (h : SrcIs w g M L k sd) (hm : M' ≤ M) : SrcIs w g M' L k sd := by
  obtain ⟨ca, cc, h1, h2, h3, h4, h5, h6, h7⟩ := h
  exact ⟨ca, cc, h1, h2, h3, h4, by omega, h6, h7⟩
theorem SrcIs.later {w w' : World} {g M : Nat} {L : List UInt8} {k : Nat} {sd : Int} (h : SrcIs w g M L k sd) (hb : Below w.heap.size w w') : SrcIs w' g M L k sd := by
  obtain ⟨ca, cc, h1, h2, h3⟩ := h
  exact ⟨ca, cc, h1.later hb, h2.below hb, h3⟩
theorem SrcIs.lt {w : World} {g M : Nat} {L : List UInt8} {k : Nat} {sd : Int} (h : SrcIs w g M L k sd) : g < w.heap.size := h.src.lt
theorem SrcIs.kept {w w' : World} {g M : Nat} {L : List UInt8} {q : Nat} {sd : Int} {row : Option Nat} (h : SrcIs w g M L q sd) (hg : w.grownBy w' row) (hr : ∀ k, row = some k → g < k) : SrcIs w' g M L q sd := by
  obtain ⟨ca, cc, h1, h2, h3, h4⟩ := h
  have hne : some g ≠ row := fun e => by have := hr g e.symm; omega
  refine ⟨ca, cc, h1.kept hg (Or.inr hne), ?_, h3, h4⟩
  cases row with
  | none => exact h2.below ⟨hg.os, hg.tape, hg.output, hg.size, fun k hk => hg.block k hk (by simp)⟩
  | some k => exact h2.offF (h3.imp_right fun h => h.off (Nat.le_of_lt (hr k rfl))) hg
theorem SrcIs.mark {α : Type} [Flat α] {B' g M : Nat} {L : List UInt8} {q : Nat} {sd : Int} {wn w' : World} {e : TypeId} {v : Value} {xs : List α} (hS : SrcIs wn g M L q sd) (hO : Own B' wn e v xs) (hB : g < B') (hg : wn.grownBy w' v.ownBlock) : SrcIs w' g M L q sd :=
  hS.kept hg fun k hk => by have := (hO.lt k hk).1; omega
theorem SrcAt.is {w : World} {g M : Nat} (h : SrcAt w g M) : ∃ L q sd, SrcIs w g M L q sd := by
  obtain ⟨ca, L, cc, p, sd, h1, h2, h3, h4, h5, h6, h7⟩ := h
  obtain ⟨k, rfl⟩ : ∃ k : Nat, p = k := ⟨p.toNat, by omega⟩
  exact ⟨L, k, sd, ca, cc, h1, h2, h3, h4, by omega, h7⟩
theorem marked_up {α : Type} [Flat α] {B' g : Nat} {w wn w' : World} {e : TypeId} {v : Value} {xs : List α} (hG : w.grownBy wn (some g)) (hO : Own B' wn e v xs) (hB : w.heap.size ≤ B') (hg : wn.grownBy w' v.ownBlock) : w.grownBy w' (some g) :=
  ⟨hg.os.trans hG.os, hg.tape.trans hG.tape, hg.output.trans hG.output, Nat.le_trans hG.size hg.size, fun k hk hne => (hg.block k (Nat.lt_of_lt_of_le hk hG.size) fun e => by have := (hO.lt k e.symm).1; omega).trans (hG.block k hk hne)⟩
def nextS (L : List UInt8) (k : Nat) (sd : Int) : Int := if h : k < L.length then IntKind.u64.wrap (IntKind.u64.wrap (IntKind.u64.wrap (sd * 6364136223846793005) + (L[k].toNat : Int)) + 1442695040888963407) else IntKind.u64.wrap (IntKind.u64.wrap (IntKind.u64.wrap (sd * 6364136223846793005)) + 1442695040888963407)
def nextV (L : List UInt8) (k : Nat) (sd : Int) : Int := if h : k < L.length then (L[k].toNat : Int) else wrap64 (bits .and .u64 (nextS L k sd / 1099511627776) 255)
theorem nextS_in {L : List UInt8} {k : Nat} {sd : Int} (h : k < L.length) : nextS L k sd = IntKind.u64.wrap (IntKind.u64.wrap (IntKind.u64.wrap (sd * 6364136223846793005) + (L[k].toNat : Int)) + 1442695040888963407) := by unfold nextS; rw [dif_pos h]
theorem nextS_out {L : List UInt8} {k : Nat} {sd : Int} (h : ¬ k < L.length) : nextS L k sd = IntKind.u64.wrap (IntKind.u64.wrap (IntKind.u64.wrap (sd * 6364136223846793005)) + 1442695040888963407) := by unfold nextS; rw [dif_neg h]
theorem nextV_in {L : List UInt8} {k : Nat} {sd : Int} (h : k < L.length) : nextV L k sd = (L[k].toNat : Int) := by unfold nextV; rw [dif_pos h]
theorem nextV_out {L : List UInt8} {k : Nat} {sd : Int} (h : ¬ k < L.length) : nextV L k sd = wrap64 (bits .and .u64 (nextS L k sd / 1099511627776) 255) := by unfold nextV; rw [dif_neg h]
set_option maxRecDepth 100000 in
set_option maxHeartbeats 3200000 in
theorem next_d (g M : Nat) (L : List UInt8) (k : Nat) (sd : Int) (w : World) (hS : SrcIs w g (M + 1) L k sd) :
    Calls Tryz.prog 103 #[.pointer (some ⟨g, 0, none⟩)] w fun e w' => e = .returned (.int .i64 (nextV L k sd)) ∧ 0 ≤ nextV L k sd ∧ nextV L k sd ≤ 255 ∧ SrcIs w' g M L (k + 1) (nextS L k sd) ∧ w.grownBy w' (some g) := by
  obtain ⟨ca, cc, hO, hA, hoff, hL, p1, s0, s1⟩ := hS
  have p0 : 0 ≤ (k : Int) := by omega
  have hgl := hO.lt g rfl
  have hb : Below w.heap.size w w := Below.refl _ _
  obtain ⟨d0, d1, d2⟩ := src_cells hO
  have c0 := rg d0
  have c1 := rg d1
  clear d0 d1 d2
  replace hO := Lib.hid hO
  go_enter Tryz.func103, Tryz.ntmps103
  by_cases hp : k < L.length
  · have hS1 : nextS L k sd = _ := nextS_in hp
    have hV1 : nextV L k sd = _ := nextV_in hp
    replace hS1 := Lib.hid hS1
    replace hV1 := Lib.hid hV1
    go_wp2_with fail
    refine wp_region_quiet_below (by kernel_rfl) (by kernel_rfl) ?_
    repeat (go_big_quiet_step (fail))
    refine wpQuiet_nil ?_
    intro w2 hw'
    replace hb := upw hb (grown_of hw')
    have hw2 := grown_of hw'
    clear hw'
    replace hO := Lib.hid (hO.out.later hw2)
    replace hA := hA.below hw2
    clear hw2 c0 c1
    obtain ⟨b, o, rfl⟩ := hA.addr hp
    have hL3 := hA.byte hp
    obtain ⟨x, hx⟩ : ∃ x, x = L[k] := ⟨_, rfl⟩
    rw [← hx] at hL3 hS1 hV1
    replace hx := Lib.hid hx
    have hxn : x.toNat < 256 := x.toNat_lt
    obtain ⟨y, hy⟩ : ∃ y : Int, y = x.toNat := ⟨_, rfl⟩
    rw [← hy] at hL3 hS1 hV1
    have y0 : 0 ≤ y := by omega
    have y1 : y ≤ 255 := by omega
    clear hxn hy
    have hyw : IntKind.i64.wrap y = y := IntWalk.i64_in _ (by omega)
    obtain ⟨d0, d1, d2⟩ := src_cells hO.out
    have c0 := rg d0
    have c1 := rg d1
    have c3 := rg hL3
    clear d0 d1 d2 hL3
    go_wp2_with fail
    refine wp_region_quiet_below (by kernel_rfl) (by kernel_rfl) ?_
    repeat (go_big_quiet_step (fail))
    refine wpQuiet_nil ?_
    intro w3 hw'
    replace hb := upw hb (grown_of hw')
    have hw2 := grown_of hw'
    clear hw'
    replace hO := Lib.hid (hO.out.later hw2)
    replace hA := hA.below hw2
    clear hw2 c0 c1 c3
    have hsz := hb.size
    obtain ⟨d0, d1, d2⟩ := src_cells hO.out
    clear d0 d2
    go_wp2_with (first | (refine wpList_store_own rfl 3 (.tmp 31) (.tmp 29) rfl g 104 _ 3 3 _ 1 _ ⟨.int .i64 ((k : Int) + 1), rfl⟩ rfl rfl rfl (by kernel_rfl) rfl hO.out (by show 1 < 3; omega) ?_; intro w4 hO4 hg4; replace hO4 : Own g w4 104 (.slice (some ⟨g, 0, none⟩) 3 3) (srcCells (some ⟨b, o, none⟩) L.length cc ((k : Int) + 1) sd) := hO4; clear d1; obtain ⟨e0, e1, e2⟩ := src_cells hO4; clear e0 e1; replace hO4 := Lib.hid hO4) | (refine wpList_store_own rfl 102 (.tmp 43) (.tmp 41) rfl g 104 _ 3 3 _ 2 _ ⟨.int .u64 _, rfl⟩ rfl rfl rfl (by kernel_rfl) rfl hO4.out (by show 2 < 3; omega) ?_; intro w5 hO5 hg5))
    obtain ⟨sd2, hO6, s2, s3, hS2⟩ : ∃ sd2, Own g w5 104 (.slice (some ⟨g, 0, none⟩) 3 3) (srcCells (some ⟨b, o, none⟩) L.length cc ((k : Int) + 1) sd2) ∧ 0 ≤ sd2 ∧ sd2 < 18446744073709551616 ∧ Hid (nextS L k sd = sd2) := ⟨_, hO5, u64_lo _, u64_hi _, Lib.hid hS1.out⟩
    have hoff2 := hoff.imp_right fun h => h.off (Nat.le_refl g)
    replace hA := (hA.offF hoff2 hg4).offF hoff2 hg5
    clear hoff2
    have hG := grownBy_trans (grownBy_trans (drew_below g hb) hg4) hg5
    clear hO5 e2 hO4 hg4 hg5 hsz
    generalize IntKind.u64.wrap (sd * 6364136223846793005) = X1
    generalize IntKind.u64.wrap (X1 + y) = X2
    generalize IntKind.u64.wrap (X2 + 1442695040888963407) = X3
    obtain ⟨d0, d1, d2⟩ := src_cells hO6
    have c0 := rg d0
    have c1 := rg d1
    clear d0 d1 d2
    have hb := Below.refl w5.heap.size w5
    replace hO6 := Lib.hid hO6
    have hle : ((k : Int) + 1 ≤ (L.length : Int)) := by omega
    have hpw : IntKind.i64.wrap ((k : Int) + 1) = (k : Int) + 1 := IntWalk.i64_in _ (by omega)
    go_simp
    go_wp2_with fail
    refine wp_region_quiet_below (by kernel_rfl) (by kernel_rfl) ?_
    repeat (go_big_quiet_step (fail))
    refine wpQuiet_nil ?_
    intro w6 hw'
    replace hb := upw hb (grown_of hw')
    clear hw'
    have hG2 := grownBy_trans hG (drew_below g hb)
    replace hO6 := Lib.hid (hO6.out.later hb)
    replace hA := hA.below hb
    clear c0 c1
    go_wp2_with fail
    go_ret
    rw [hV1.out]
    exact ⟨rfl, y0, y1, by rw [hS2.out]; exact ⟨_, cc, by rw [Int.natCast_add]; exact hO6.out, hA, hoff, hL, by omega, s2, s3⟩, hG2⟩
  · have hS1 : nextS L k sd = _ := nextS_out hp
    have hV1 : nextV L k sd = _ := nextV_out hp
    replace hS1 := Lib.hid hS1
    replace hV1 := Lib.hid hV1
    have hpH := Lib.hid hp
    go_wp2_with fail
    refine wp_region_quiet_below (by kernel_rfl) (by kernel_rfl) ?_
    repeat (go_big_quiet_step (fail))
    refine wpQuiet_nil ?_
    intro w2 hw'
    replace hb := upw hb (grown_of hw')
    have hw2 := grown_of hw'
    clear hw'
    replace hO := Lib.hid (hO.out.later hw2)
    replace hA := hA.below hw2
    clear hw2 c0 c1
    have hsz := hb.size
    obtain ⟨d0, d1, d2⟩ := src_cells hO.out
    clear d0 d2
    go_wp2_with (first | (refine wpList_store_own rfl 3 (.tmp 31) (.tmp 29) rfl g 104 _ 3 3 _ 1 _ ⟨.int .i64 ((k : Int) + 1), rfl⟩ rfl rfl rfl (by kernel_rfl) rfl hO.out (by show 1 < 3; omega) ?_; intro w4 hO4 hg4; replace hO4 : Own g w4 104 (.slice (some ⟨g, 0, none⟩) 3 3) (srcCells ca L.length cc ((k : Int) + 1) sd) := hO4; clear d1; obtain ⟨e0, e1, e2⟩ := src_cells hO4; clear e0 e1; replace hO4 := Lib.hid hO4) | (refine wpList_store_own rfl 102 (.tmp 43) (.tmp 41) rfl g 104 _ 3 3 _ 2 _ ⟨.int .u64 _, rfl⟩ rfl rfl rfl (by kernel_rfl) rfl hO4.out (by show 2 < 3; omega) ?_; intro w5 hO5 hg5))
    obtain ⟨sd2, hO6, s2, s3, hS2⟩ : ∃ sd2, Own g w5 104 (.slice (some ⟨g, 0, none⟩) 3 3) (srcCells ca L.length cc ((k : Int) + 1) sd2) ∧ 0 ≤ sd2 ∧ sd2 < 18446744073709551616 ∧ Hid (nextS L k sd = sd2) := ⟨_, hO5, u64_lo _, u64_hi _, Lib.hid hS1.out⟩
    have hoff2 := hoff.imp_right fun h => h.off (Nat.le_refl g)
    replace hA := (hA.offF hoff2 hg4).offF hoff2 hg5
    clear hoff2
    have hG := grownBy_trans (grownBy_trans (drew_below g hb) hg4) hg5
    clear hO5 e2 hO4 hg4 hg5 hsz
    generalize IntKind.u64.wrap (sd * 6364136223846793005) = X1
    generalize IntKind.u64.wrap X1 = X2
    generalize IntKind.u64.wrap (X2 + 1442695040888963407) = X3
    obtain ⟨d0, d1, d2⟩ := src_cells hO6
    have c0 := rg d0
    have c1 := rg d1
    clear d0 d1 d2
    have hb := Below.refl w5.heap.size w5
    replace hO6 := Lib.hid hO6
    have hle : ¬ ((k : Int) + 1 ≤ (L.length : Int)) := by omega
    have hpw : IntKind.i64.wrap ((k : Int) + 1) = (k : Int) + 1 := IntWalk.i64_in _ (by omega)
    go_simp
    go_wp2_with fail
    refine wp_region_quiet_below (by kernel_rfl) (by kernel_rfl) ?_
    repeat (go_big_quiet_step (fail))
    refine wpQuiet_nil ?_
    intro w6 hw'
    replace hb := upw hb (grown_of hw')
    clear hw'
    have hG2 := grownBy_trans hG (drew_below g hb)
    replace hO6 := Lib.hid (hO6.out.later hb)
    replace hA := hA.below hb
    clear c0 c1
    obtain ⟨d0, d1, d2⟩ := src_cells hO6.out
    clear d0 d1 hpw
    obtain ⟨q, hq⟩ : ∃ q, q = sd2 / 1099511627776 := ⟨_, rfl⟩
    have q0 : 0 ≤ q := by omega
    have q1 : q < 18446744073709551616 := by omega
    obtain ⟨z, hz⟩ : ∃ z, z = bits .and .u64 q 255 := ⟨_, rfl⟩
    have hz2 : 0 ≤ z ∧ z ≤ 255 := by
      rw [hz, u64_and q 255 q0 q1 (by omega) (by omega)]
      have : q.toNat &&& (255 : Int).toNat ≤ 255 := Nat.and_le_right
      omega
    have hzw : wrap64 z = z := by unfold wrap64; omega
    replace hq := Lib.hid hq.symm
    replace hz := Lib.hid hz.symm
    have hend : Hid (SrcIs w6 g M L (k + 1) (nextS L k sd) ∧ w.grownBy w6 (some g)) := Lib.hid ⟨by rw [hS2.out]; exact ⟨_, cc, by rw [Int.natCast_add]; exact hO6.out, hA, hoff, hL, by omega, s2, s3⟩, hG2⟩
    have hV2 : Hid (nextV L k sd = z) := Lib.hid (by rw [hV1.out, hS2.out, hq.out, hz.out]; exact hzw)
    clear hle hp hb hA hoff hL p0 p1 s0 s1 s2 s3 q0 q1 hgl hG hG2 hO6
    replace hzw := Lib.hid hzw
    replace hz2 := Lib.hid hz2
    go_wp2_with fail
    · go_ret
      exfalso
      have := hpH.out
      omega
    · go_ret
      have ez : wrap64 (bits .and .u64 (sd2 / 1099511627776) 255) = z := by rw [hq.out, hz.out]; exact hzw.out
      rw [hV2.out]
      exact ⟨by rw [ez]; rfl, hz2.out.1, hz2.out.2, hend.out⟩
theorem l00From_d (ca : Option Addr) (L : List UInt8) (cc : Nat) (w : World) (hx : At w ca L) (hl : L.length ≤ 9223372036854775807) :
    Calls Tryz.prog 38 #[.slice ca L.length cc] w fun e w' => e = .returned (.pointer (some ⟨w.heap.size, 0, none⟩)) ∧ SrcIs w' w.heap.size 4611686018427387904 L 0 0 ∧ Below w.heap.size w w' := by
  have hb : Below w.heap.size w (w.alloc (.cells #[.slice ca L.length cc, .int .i64 0, .int .u64 0] 104)) := (Below.refl _ _).alloc (Nat.le_refl _) _
  have hO : Own w.heap.size (w.alloc (.cells #[.slice ca L.length cc, .int .i64 0, .int .u64 0] 104)) 104 (.slice (some ⟨w.heap.size, 0, none⟩) 3 3) (srcCells ca L.length cc 0 0) :=
    ⟨rfl, .inr ⟨w.heap.size, 3, #[.slice ca L.length cc, .int .i64 0, .int .u64 0], rfl, Nat.le_refl _, heap_alloc_new _ _, Nat.le_refl _, by unfold maxLen; omega, rfl, rfl⟩⟩
  have hoff : L = [] ∨ Ahead ca w.heap.size := by
    rcases hx with h | ⟨b, o, rfl, hlt, _⟩
    · exact Or.inl h
    · refine Or.inr fun b' o' e => ?_
      simp only [Option.some.injEq, Addr.mk.injEq] at e
      omega
  go_enter Tryz.func38, Tryz.ntmps38
  go_wp2_with fail
  go_ret
  exact ⟨rfl, ⟨ca, cc, hO, hx.below hb, hoff, hl, by omega, by omega, by omega⟩, hb⟩
theorem pick_d (g M : Nat) (n : Int) (L : List UInt8) (k : Nat) (sd : Int) (w : World) (hS : SrcIs w g (M + 1) L k sd) (hn0 : 1 < n) (hn1 : n ≤ 200) :
    Calls Tryz.prog 62 #[.pointer (some ⟨g, 0, none⟩), .int .i64 n] w fun e w' => e = .returned (.int .i64 (nextV L k sd % n)) ∧ (0 ≤ nextV L k sd % n ∧ nextV L k sd % n < n) ∧ SrcIs w' g M L (k + 1) (nextS L k sd) ∧ w.grownBy w' (some g) := by
  have hne : ¬ n = 0 := by omega
  have hnd := next_d g M L k sd w hS
  generalize nextV L k sd = v at hnd
  replace hnd := Lib.hid hnd
  go_enter Tryz.func62, Tryz.ntmps62
  go_wp2_with fail
  refine hnd.out.mono ?_
  rintro e w2 ⟨rfl, x0, x1, hS2, hg2⟩
  replace hS2 := Lib.hid hS2
  go_wp2_with fail
  go_ret
  exact ⟨rfl, ⟨Int.emod_nonneg _ hne, Int.emod_lt_of_pos _ (by omega)⟩, hS2.out, hg2⟩
end Go.Proofs.YtaeinllbjkjhlaaGreatDoor
