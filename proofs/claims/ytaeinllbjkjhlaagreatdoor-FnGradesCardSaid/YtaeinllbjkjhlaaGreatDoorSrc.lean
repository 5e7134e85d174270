/- The source of choices: what its functions answer. -/
import Derived.Test.YtaeinllbjkjhlaaGreatDoorInts
import Derived.Test.YtaeinllbjkjhlaaGreatDoorSmall
import Derived.Test.YtaeinllbjkjhlaaGreatDoorNum
import Derived.Laws.BitsAllLaws
namespace Go.Proofs.YtaeinllbjkjhlaaGreatDoor
open Go.RowKit

instance : Flat UInt8 := ⟨1, by decide, fun x => [.int .u8 (x.toNat : Int)], fun _ => rfl, fun x u h => by simp at h; subst h; rfl, fun _ => True⟩
theorem At.byte {w : World} {b off : Nat} {xs : List UInt8} (h : At w (some ⟨b, off, none⟩) xs) {i : Nat} (hi : i < xs.length) : w.cell? ⟨b, off + i, none⟩ = some (.int .u8 (xs[i].toNat : Int)) := by
  obtain ⟨cs, hr, hc⟩ := h.elem hi
  have h0 := hc 0 (.int .u8 (xs[i].toNat : Int)) (by rw [hr]; rfl)
  simpa [Rep.k, Flat.k] using h0
/-- A value of one cell. -/
def OneCell := { v : Value // v.oneCell' = true }
instance : Flat OneCell := ⟨1, by decide, fun x => [x.1], fun _ => rfl, fun x u h => by simp at h; subst h; exact x.2, fun _ => True⟩
/-- A source's cells. -/
def srcCells (ca : Option Addr) (n cc : Nat) (p sd : Int) : List OneCell := [⟨.slice ca n cc, rfl⟩, ⟨.int .i64 p, rfl⟩, ⟨.int .u64 sd, rfl⟩]
theorem own_one {B : Nat} {w : World} {e : TypeId} {g n c : Nat} {xs : List OneCell} (h : Own B w e (.slice (some ⟨g, 0, none⟩) n c) xs) {i : Nat} (hi : i < xs.length) : w.cell? ⟨g, i, none⟩ = some xs[i].1 := by
  obtain ⟨cs, hr, hc⟩ := h.at'.elem hi
  have h0 := hc 0 xs[i].1 (by rw [hr]; rfl)
  simpa [Rep.k, Flat.k] using h0
theorem src_cells {B : Nat} {w : World} {e : TypeId} {g n c : Nat} {ca : Option Addr} {k cc : Nat} {p sd : Int} (h : Own B w e (.slice (some ⟨g, 0, none⟩) n c) (srcCells ca k cc p sd)) :
    w.cell? ⟨g, 0, none⟩ = some (.slice ca k cc) ∧ w.cell? ⟨g, 1, none⟩ = some (.int .i64 p) ∧ w.cell? ⟨g, 2, none⟩ = some (.int .u64 sd) :=
  ⟨own_one h (i := 0) (by show 0 < 3; omega), own_one h (i := 1) (by show 1 < 3; omega), own_one h (i := 2) (by show 2 < 3; omega)⟩
/-- An address lies in another block. -/
def Off (a : Option Addr) (g : Nat) : Prop := ∀ b o, a = some ⟨b, o, none⟩ → b ≠ g
theorem At.off {α : Type} [Rep α] {w w' : World} {a : Option Addr} {xs : List α} {g : Nat} (h : At w a xs) (ho : xs = [] ∨ Off a g) (hf : ∀ {w w' : World} {x : α} {cs}, Rep.rep w x cs → Rep.rep w' x cs) (hg : w.grownBy w' (some g)) : At w' a xs := by
  rcases h with h | ⟨b, off, ha, hlt, h⟩
  · exact Or.inl h
  · refine Or.inr ⟨b, off, ha, Nat.lt_of_lt_of_le hlt hg.size, fun i hi => ?_⟩
    replace ho : Off a g := ho.resolve_left (fun k => by rw [k] at hi; simp at hi)
    obtain ⟨cs, hr, hc⟩ := h i hi
    refine ⟨cs, hf hr, fun j v hv => ?_⟩
    have hk := hc j v hv
    have hb := hg.block b hlt (by simpa using ho b off ha)
    unfold World.cell? at hk ⊢
    simp only [hb]
    exact hk
theorem At.offF {α : Type} [Flat α] {w w' : World} {a : Option Addr} {xs : List α} {g : Nat} (h : At w a xs) (ho : xs = [] ∨ Off a g) (hg : w.grownBy w' (some g)) : At w' a xs := h.off ho (fun h => h) hg
/-- An address lies in an elder block. -/
def Ahead (a : Option Addr) (g : Nat) : Prop := ∀ b o, a = some ⟨b, o, none⟩ → b < g
theorem Ahead.off {a : Option Addr} {g k : Nat} (h : Ahead a g) (hk : g ≤ k) : Off a k := fun b o e => by have := h b o e; omega
/-- A source lies behind g, from which M more bytes may be drawn. -/
def SrcAt (w : World) (g M : Nat) : Prop := ∃ (ca : Option Addr) (L : List UInt8) (cc : Nat) (p sd : Int), Own g w 104 (.slice (some ⟨g, 0, none⟩) 3 3) (srcCells ca L.length cc p sd) ∧ At w ca L ∧ (L = [] ∨ Ahead ca g) ∧ L.length ≤ 9223372036854775807 ∧ 0 ≤ p ∧ p + M ≤ 4611686018427387904 ∧ 0 ≤ sd ∧ sd < 18446744073709551616
theorem SrcAt.less {w : World} {g M M' : Nat} (h : SrcAt w g M) (hm : M' ≤ M) : SrcAt w g M' := by
  obtain ⟨ca, L, cc, p, sd, h1, h2, h3, h4, h5, h6, h7⟩ := h
  exact ⟨ca, L, cc, p, sd, h1, h2, h3, h4, h5, by omega, h7⟩
theorem SrcAt.later {w w' : World} {g M : Nat} (h : SrcAt w g M) (hb : Below w.heap.size w w') : SrcAt w' g M := by
  obtain ⟨ca, L, cc, p, sd, h1, h2, h3⟩ := h
  exact ⟨ca, L, cc, p, sd, h1.later hb, h2.below hb, h3⟩
theorem SrcAt.lt {w : World} {g M : Nat} (h : SrcAt w g M) : g < w.heap.size := by
  obtain ⟨ca, L, cc, p, sd, h1, _⟩ := h
  exact (h1.lt g rfl).2
theorem SrcAt.kept {w w' : World} {g M : Nat} {row : Option Nat} (h : SrcAt w g M) (hg : w.grownBy w' row) (hr : ∀ k, row = some k → g < k) : SrcAt w' g M := by
  obtain ⟨ca, L, cc, p, sd, h1, h2, h3, h4⟩ := h
  have hne : some g ≠ row := fun e => by have := hr g e.symm; omega
  refine ⟨ca, L, cc, p, sd, h1.kept hg (Or.inr hne), ?_, h3, h4⟩
  cases row with
  | none => exact h2.below ⟨hg.os, hg.tape, hg.output, hg.size, fun k hk => hg.block k hk (by simp)⟩
  | some k => exact h2.offF (h3.imp_right fun h => h.off (Nat.le_of_lt (hr k rfl))) hg
/-- What the call owns behind the source stays when something is drawn. -/
theorem Own.drew {α : Type} [Flat α] {B g : Nat} {w w' : World} {e : TypeId} {v : Value} {xs : List α} (h : Own B w e v xs) (hB : g < B) (hg : w.grownBy w' (some g)) : Own B w' e v xs := by
  refine h.kept hg ?_
  cases hv : v.ownBlock with
  | none => exact Or.inl rfl
  | some k => have := h.lt k hv; refine Or.inr fun e => ?_; simp at e; omega
/-- Only the source's block has turned; the rest has grown. -/
theorem drew_below {w w' : World} (g : Nat) (hb : Below w.heap.size w w') : w.grownBy w' (some g) := ⟨hb.os, hb.tape, hb.output, hb.size, fun k hk _ => hb.block k hk⟩
theorem drew_up {w0 w w' : World} {g : Nat} (h : Below w0.heap.size w0 w) (hg : w.grownBy w' (some g)) (h0 : w0.heap.size ≤ g) : Below w0.heap.size w0 w' := h.grown hg h.size (fun k hk => by simp at hk; omega)
theorem u64_lo (z : Int) : 0 ≤ IntKind.u64.wrap z := by
  have : IntKind.u64.wrap z = z % 18446744073709551616 := by simp [IntKind.wrap, IntKind.bits, IntKind.signed]
  omega
theorem u64_hi (z : Int) : IntKind.u64.wrap z < 18446744073709551616 := by
  have : IntKind.u64.wrap z = z % 18446744073709551616 := by simp [IntKind.wrap, IntKind.bits, IntKind.signed]
  omega
set_option maxRecDepth 100000 in
set_option maxHeartbeats 3200000 in
theorem next_c (g M : Nat) (w : World) (hS : SrcAt w g (M + 1)) :
    Calls Tryz.prog 103 #[.pointer (some ⟨g, 0, none⟩)] w fun e w' => ∃ v : Int, e = .returned (.int .i64 v) ∧ 0 ≤ v ∧ v ≤ 255 ∧ SrcAt w' g M ∧ w.grownBy w' (some g) := by
  obtain ⟨ca, L, cc, p, sd, hO, hA, hoff, hL, p0, p1, s0, s1⟩ := hS
  obtain ⟨k, rfl⟩ : ∃ k : Nat, p = k := ⟨p.toNat, by omega⟩
  have hgl := hO.lt g rfl
  have hb : Below w.heap.size w w := Below.refl _ _
  obtain ⟨d0, d1, d2⟩ := src_cells hO
  have c0 := rg d0
  have c1 := rg d1
  clear d0 d1 d2
  replace hO := Lib.hid hO
  go_enter Tryz.func103, Tryz.ntmps103
  by_cases hp : k < L.length
  · go_wp2_with fail
    refine wp_region_quiet_below (by kernel_rfl) (by kernel_rfl) ?_
    repeat (go_big_quiet_step (fail))
    refine wpQuiet_nil ?_
    intro w2 hw'
    replace hb := upw hb (grown_of hw')
    have hw2 := grown_of hw'
    clear hw'
    replace hO := Lib.hid (hO.out.later hw2)
    replace hA := hA.below hw2
    clear hw2 c0 c1
    obtain ⟨b, o, rfl⟩ := hA.addr hp
    have hL3 := hA.byte hp
    obtain ⟨x, hx⟩ : ∃ x, x = L[k] := ⟨_, rfl⟩
    rw [← hx] at hL3
    replace hx := Lib.hid hx
    have hxn : x.toNat < 256 := x.toNat_lt
    obtain ⟨y, hy⟩ : ∃ y : Int, y = x.toNat := ⟨_, rfl⟩
    rw [← hy] at hL3
    have y0 : 0 ≤ y := by omega
    have y1 : y ≤ 255 := by omega
    clear hxn hy
    have hyw : IntKind.i64.wrap y = y := IntWalk.i64_in _ (by omega)
    obtain ⟨d0, d1, d2⟩ := src_cells hO.out
    have c0 := rg d0
    have c1 := rg d1
    have c3 := rg hL3
    clear d0 d1 d2 hL3
    go_wp2_with fail
    refine wp_region_quiet_below (by kernel_rfl) (by kernel_rfl) ?_
    repeat (go_big_quiet_step (fail))
    refine wpQuiet_nil ?_
    intro w3 hw'
    replace hb := upw hb (grown_of hw')
    have hw2 := grown_of hw'
    clear hw'
    replace hO := Lib.hid (hO.out.later hw2)
    replace hA := hA.below hw2
    clear hw2 c0 c1 c3
    have hsz := hb.size
    obtain ⟨d0, d1, d2⟩ := src_cells hO.out
    clear d0 d2
    go_wp2_with (first | (refine wpList_store_own rfl 3 (.tmp 31) (.tmp 29) rfl g 104 _ 3 3 _ 1 _ ⟨.int .i64 ((k : Int) + 1), rfl⟩ rfl rfl rfl (by kernel_rfl) rfl hO.out (by show 1 < 3; omega) ?_; intro w4 hO4 hg4; replace hO4 : Own g w4 104 (.slice (some ⟨g, 0, none⟩) 3 3) (srcCells (some ⟨b, o, none⟩) L.length cc ((k : Int) + 1) sd) := hO4; clear d1; obtain ⟨e0, e1, e2⟩ := src_cells hO4; clear e0 e1; replace hO4 := Lib.hid hO4) | (refine wpList_store_own rfl 102 (.tmp 43) (.tmp 41) rfl g 104 _ 3 3 _ 2 _ ⟨.int .u64 _, rfl⟩ rfl rfl rfl (by kernel_rfl) rfl hO4.out (by show 2 < 3; omega) ?_; intro w5 hO5 hg5))
    obtain ⟨sd2, hO6, s2, s3⟩ : ∃ sd2, Own g w5 104 (.slice (some ⟨g, 0, none⟩) 3 3) (srcCells (some ⟨b, o, none⟩) L.length cc ((k : Int) + 1) sd2) ∧ 0 ≤ sd2 ∧ sd2 < 18446744073709551616 := ⟨_, hO5, u64_lo _, u64_hi _⟩
    have hoff2 := hoff.imp_right fun h => h.off (Nat.le_refl g)
    replace hA := (hA.offF hoff2 hg4).offF hoff2 hg5
    clear hoff2
    have hG := grownBy_trans (grownBy_trans (drew_below g hb) hg4) hg5
    clear hO5 e2 hO4 hg4 hg5 hsz
    generalize IntKind.u64.wrap (sd * 6364136223846793005) = X1
    generalize IntKind.u64.wrap (X1 + y) = X2
    generalize IntKind.u64.wrap (X2 + 1442695040888963407) = X3
    obtain ⟨d0, d1, d2⟩ := src_cells hO6
    have c0 := rg d0
    have c1 := rg d1
    clear d0 d1 d2
    have hb := Below.refl w5.heap.size w5
    replace hO6 := Lib.hid hO6
    have hle : ((k : Int) + 1 ≤ (L.length : Int)) := by omega
    have hpw : IntKind.i64.wrap ((k : Int) + 1) = (k : Int) + 1 := IntWalk.i64_in _ (by omega)
    go_simp
    go_wp2_with fail
    refine wp_region_quiet_below (by kernel_rfl) (by kernel_rfl) ?_
    repeat (go_big_quiet_step (fail))
    refine wpQuiet_nil ?_
    intro w6 hw'
    replace hb := upw hb (grown_of hw')
    clear hw'
    have hG2 := grownBy_trans hG (drew_below g hb)
    replace hO6 := Lib.hid (hO6.out.later hb)
    replace hA := hA.below hb
    clear c0 c1
    go_wp2_with fail
    go_ret
    exact ⟨y, rfl, y0, y1, ⟨_, L, cc, (k : Int) + 1, sd2, hO6.out, hA, hoff, hL, by omega, by omega, s2, s3⟩, hG2⟩
  · go_wp2_with fail
    refine wp_region_quiet_below (by kernel_rfl) (by kernel_rfl) ?_
    repeat (go_big_quiet_step (fail))
    refine wpQuiet_nil ?_
    intro w2 hw'
    replace hb := upw hb (grown_of hw')
    have hw2 := grown_of hw'
    clear hw'
    replace hO := Lib.hid (hO.out.later hw2)
    replace hA := hA.below hw2
    clear hw2 c0 c1
    have hsz := hb.size
    obtain ⟨d0, d1, d2⟩ := src_cells hO.out
    clear d0 d2
    go_wp2_with (first | (refine wpList_store_own rfl 3 (.tmp 31) (.tmp 29) rfl g 104 _ 3 3 _ 1 _ ⟨.int .i64 ((k : Int) + 1), rfl⟩ rfl rfl rfl (by kernel_rfl) rfl hO.out (by show 1 < 3; omega) ?_; intro w4 hO4 hg4; replace hO4 : Own g w4 104 (.slice (some ⟨g, 0, none⟩) 3 3) (srcCells ca L.length cc ((k : Int) + 1) sd) := hO4; clear d1; obtain ⟨e0, e1, e2⟩ := src_cells hO4; clear e0 e1; replace hO4 := Lib.hid hO4) | (refine wpList_store_own rfl 102 (.tmp 43) (.tmp 41) rfl g 104 _ 3 3 _ 2 _ ⟨.int .u64 _, rfl⟩ rfl rfl rfl (by kernel_rfl) rfl hO4.out (by show 2 < 3; omega) ?_; intro w5 hO5 hg5))
    obtain ⟨sd2, hO6, s2, s3⟩ : ∃ sd2, Own g w5 104 (.slice (some ⟨g, 0, none⟩) 3 3) (srcCells ca L.length cc ((k : Int) + 1) sd2) ∧ 0 ≤ sd2 ∧ sd2 < 18446744073709551616 := ⟨_, hO5, u64_lo _, u64_hi _⟩
    have hoff2 := hoff.imp_right fun h => h.off (Nat.le_refl g)
    replace hA := (hA.offF hoff2 hg4).offF hoff2 hg5
    clear hoff2
    have hG := grownBy_trans (grownBy_trans (drew_below g hb) hg4) hg5
    clear hO5 e2 hO4 hg4 hg5 hsz
    generalize IntKind.u64.wrap (sd * 6364136223846793005) = X1
    generalize IntKind.u64.wrap X1 = X2
    generalize IntKind.u64.wrap (X2 + 1442695040888963407) = X3
    obtain ⟨d0, d1, d2⟩ := src_cells hO6
    have c0 := rg d0
    have c1 := rg d1
    clear d0 d1 d2
    have hb := Below.refl w5.heap.size w5
    replace hO6 := Lib.hid hO6
    have hle : ¬ ((k : Int) + 1 ≤ (L.length : Int)) := by omega
    have hpw : IntKind.i64.wrap ((k : Int) + 1) = (k : Int) + 1 := IntWalk.i64_in _ (by omega)
    go_simp
    go_wp2_with fail
    refine wp_region_quiet_below (by kernel_rfl) (by kernel_rfl) ?_
    repeat (go_big_quiet_step (fail))
    refine wpQuiet_nil ?_
    intro w6 hw'
    replace hb := upw hb (grown_of hw')
    clear hw'
    have hG2 := grownBy_trans hG (drew_below g hb)
    replace hO6 := Lib.hid (hO6.out.later hb)
    replace hA := hA.below hb
    clear c0 c1
    obtain ⟨d0, d1, d2⟩ := src_cells hO6.out
    clear d0 d1 hpw
    obtain ⟨q, hq⟩ : ∃ q, q = sd2 / 1099511627776 := ⟨_, rfl⟩
    have q0 : 0 ≤ q := by omega
    have q1 : q < 18446744073709551616 := by omega
    obtain ⟨z, hz⟩ : ∃ z, z = bits .and .u64 q 255 := ⟨_, rfl⟩
    have hz2 : 0 ≤ z ∧ z ≤ 255 := by
      rw [hz, u64_and q 255 q0 q1 (by omega) (by omega)]
      have : q.toNat &&& (255 : Int).toNat ≤ 255 := Nat.and_le_right
      omega
    have hzw : wrap64 z = z := by unfold wrap64; omega
    replace hq := Lib.hid hq.symm
    replace hz := Lib.hid hz.symm
    have hend : Hid (SrcAt w6 g M ∧ w.grownBy w6 (some g)) := Lib.hid ⟨⟨_, L, cc, (k : Int) + 1, sd2, hO6.out, hA, hoff, hL, by omega, by omega, s2, s3⟩, hG2⟩
    clear hle hp hb hA hoff hL p0 p1 s0 s1 s2 s3 q0 q1 hgl hG hG2 hO6
    replace hzw := Lib.hid hzw
    replace hz2 := Lib.hid hz2
    go_wp2_with fail
    · go_ret
      exact ⟨0, rfl, by omega, by omega, hend.out⟩
    · go_ret
      have ez : wrap64 (bits .and .u64 (sd2 / 1099511627776) 255) = z := by rw [hq.out, hz.out]; exact hzw.out
      exact ⟨_, rfl, by rw [ez]; exact hz2.out.1, by rw [ez]; exact hz2.out.2, hend.out⟩
theorem l00From_c (ca : Option Addr) (L : List UInt8) (cc : Nat) (w : World) (hx : At w ca L) (hl : L.length ≤ 9223372036854775807) :
    Calls Tryz.prog 38 #[.slice ca L.length cc] w fun e w' => e = .returned (.pointer (some ⟨w.heap.size, 0, none⟩)) ∧ SrcAt w' w.heap.size 4611686018427387904 ∧ Below w.heap.size w w' := by
  have hb : Below w.heap.size w (w.alloc (.cells #[.slice ca L.length cc, .int .i64 0, .int .u64 0] 104)) := (Below.refl _ _).alloc (Nat.le_refl _) _
  have hO : Own w.heap.size (w.alloc (.cells #[.slice ca L.length cc, .int .i64 0, .int .u64 0] 104)) 104 (.slice (some ⟨w.heap.size, 0, none⟩) 3 3) (srcCells ca L.length cc 0 0) :=
    ⟨rfl, .inr ⟨w.heap.size, 3, #[.slice ca L.length cc, .int .i64 0, .int .u64 0], rfl, Nat.le_refl _, heap_alloc_new _ _, Nat.le_refl _, by unfold maxLen; omega, rfl, rfl⟩⟩
  have hoff : L = [] ∨ Ahead ca w.heap.size := by
    rcases hx with h | ⟨b, o, rfl, hlt, _⟩
    · exact Or.inl h
    · refine Or.inr fun b' o' e => ?_
      simp only [Option.some.injEq, Addr.mk.injEq] at e
      omega
  go_enter Tryz.func38, Tryz.ntmps38
  go_wp2_with fail
  go_ret
  exact ⟨rfl, ⟨ca, L, cc, 0, 0, hO, hx.below hb, hoff, hl, by omega, by omega, by omega, by omega⟩, hb⟩
theorem pick_c (g M : Nat) (n : Int) (w : World) (hS : SrcAt w g (M + 2)) (hn0 : -9223372036854775808 ≤ n) (hn1 : n ≤ 9223372036854775807) :
    Calls Tryz.prog 62 #[.pointer (some ⟨g, 0, none⟩), .int .i64 n] w fun e w' => ∃ v : Int, e = .returned (.int .i64 v) ∧ 0 ≤ v ∧ (v = 0 ∨ v < n) ∧ SrcAt w' g M ∧ w.grownBy w' (some g) := by
  by_cases h1 : n ≤ 1
  · go_enter Tryz.func62, Tryz.ntmps62
    go_wp2_with fail
    go_ret
    exact ⟨0, rfl, Int.le_refl 0, Or.inl rfl, hS.less (by omega), World.grownBy.refl _ _⟩
  · have hne : ¬ n = 0 := by omega
    by_cases h2 : 200 < n
    · go_enter Tryz.func62, Tryz.ntmps62
      go_wp2_with fail
      refine (next_c g (M + 1) w hS).mono ?_
      rintro e w2 ⟨x, rfl, x0, x1, hS2, hg2⟩
      go_wp2_with fail
      refine (next_c g M w2 hS2).mono ?_
      rintro e w3 ⟨y, rfl, y0, y1, hS3, hg3⟩
      go_wp2_with fail
      go_ret
      exact ⟨_, rfl, Int.emod_nonneg _ hne, Or.inr (Int.emod_lt_of_pos _ (by omega)), hS3, grownBy_trans hg2 hg3⟩
    · go_enter Tryz.func62, Tryz.ntmps62
      go_wp2_with fail
      refine (next_c g (M + 1) w hS).mono ?_
      rintro e w2 ⟨x, rfl, x0, x1, hS2, hg2⟩
      go_wp2_with fail
      go_ret
      exact ⟨_, rfl, Int.emod_nonneg _ hne, Or.inr (Int.emod_lt_of_pos _ (by omega)), hS2.less (by omega), hg2⟩
theorem one_c (g M : Nat) (n : Int) (w : World) (hS : SrcAt w g (M + 2)) (hn0 : -9223372036854775808 ≤ n) (hn1 : n ≤ 9223372036854775807) :
    Calls Tryz.prog 59 #[.pointer (some ⟨g, 0, none⟩), .int .i64 n] w fun e w' => ∃ v : Bool, e = .returned (.bool v) ∧ SrcAt w' g M ∧ w.grownBy w' (some g) := by
  go_enter Tryz.func59, Tryz.ntmps59
  go_wp2_with fail
  refine (pick_c g M n w hS hn0 hn1).mono ?_
  rintro e w2 ⟨v, rfl, v0, v1, hS2, hg2⟩
  go_wp2_with fail
  go_ret
  exact ⟨_, rfl, hS2, hg2⟩
theorem among_c (g M : Nat) (a : Option Addr) (xs : List Int) (c : Nat) (w : World) (hS : SrcAt w g (M + 2)) (hx : At w a xs) (ho : Off a g) (h0 : 0 < xs.length) (hl : xs.length ≤ 9223372036854775807) :
    Calls Tryz.prog 76 #[.pointer (some ⟨g, 0, none⟩), .slice a xs.length c] w fun e w' => ∃ v : Int, e = .returned (.int .i64 v) ∧ v ∈ xs ∧ SrcAt w' g M ∧ w.grownBy w' (some g) := by
  go_enter Tryz.func76, Tryz.ntmps76
  go_wp2_with fail
  refine (pick_c g M xs.length w hS (by omega) (by omega)).mono ?_
  rintro e w2 ⟨v, rfl, v0, v1, hS2, hg2⟩
  obtain ⟨k, rfl⟩ : ∃ k : Nat, v = k := ⟨v.toNat, by omega⟩
  have hk : k < xs.length := by omega
  have hx2 := hx.offF (Or.inr ho) hg2
  obtain ⟨b, off, rfl⟩ := hx2.addr hk
  have c0 := hx2.int hk
  go_wp2_with fail
  go_ret
  exact ⟨_, rfl, List.getElem_mem hk, hS2, hg2⟩
/-- A list of written numbers. -/
theorem at_lits (w : World) (t : TypeId) (xs : List Int) : At (w.alloc (.cells (xs.map (Value.int .i64)).toArray t)) (some ⟨w.heap.size, 0, none⟩) xs := by
  refine Or.inr ⟨w.heap.size, 0, rfl, by simp, fun i hi => ⟨_, rfl, fun j v hv => ?_⟩⟩
  obtain rfl : j = 0 := by
    have h1 : j < 1 := (List.getElem?_eq_some_iff.1 hv).1
    omega
  have hv' : v = .int .i64 xs[i] := by
    have h2 : ([Value.int .i64 xs[i]] : List Value)[0]? = some v := hv
    simpa using h2.symm
  subst hv'
  rw [cell_of_row _ _ _ _ t (0, 0) (heap_alloc_new _ _)]
  simp [Rep.k, Flat.k, hi]
theorem off_new {w : World} {g : Nat} (h : g < w.heap.size) : Off (some ⟨w.heap.size, 0, none⟩) g := fun b o e => by simp at e; omega
theorem At.tail {w : World} {b : Nat} {xs : List Int} (h : At w (some ⟨b, 0, none⟩) xs) : At w (some ⟨b, 1, none⟩) (xs.drop 1) := by
  cases xs with
  | nil => exact Or.inl rfl
  | cons x xs =>
    rcases h with h | ⟨b', off, e, hlt, h⟩
    · cases h
    · simp only [Option.some.injEq, Addr.mk.injEq, and_true] at e
      obtain ⟨rfl, rfl⟩ := e
      refine Or.inr ⟨b, 1, rfl, hlt, fun i hi => ?_⟩
      obtain ⟨cs, hr, hc⟩ := h (i + 1) (by simpa using hi)
      refine ⟨cs, by simpa using hr, fun j v hv => ?_⟩
      have := hc j v hv
      simpa [Rep.k, Flat.k, Nat.add_comm, Nat.add_left_comm] using this
end Go.Proofs.YtaeinllbjkjhlaaGreatDoor
