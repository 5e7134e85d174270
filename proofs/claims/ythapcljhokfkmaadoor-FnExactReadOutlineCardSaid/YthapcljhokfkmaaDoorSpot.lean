/- Spot: the type, how it lies in cells, and what the functions on it and on lists of it compute. (Printed by wip/genflat.py.) -/
import Derived.Test.YthapcljhokfkmaaDoorRows
import Derived.Test.YthapcljhokfkmaaDoorBase
namespace Go.Proofs.YthapcljhokfkmaaDoor
open Go.RowKit

@[ext] structure Spot where
  X : Int
  Y : Int
deriving DecidableEq

instance : Flat Spot := ⟨2, by decide, fun s => [.int .i64 s.X, .int .i64 s.Y], fun _ => rfl, fun x u h => by simp at h; rcases h with h | h <;> subst h <;> rfl, fun s => (-9223372036854775808 ≤ s.X ∧ s.X ≤ 9223372036854775807) ∧ (-9223372036854775808 ≤ s.Y ∧ s.Y ≤ 9223372036854775807)⟩

theorem At.spot {w : World} {b off : Nat} {xs : List Spot} (h : At w (some ⟨b, off, none⟩) xs) {i : Nat} (hi : i < xs.length) :
    w.cell? ⟨b, off + i * 2, none⟩ = some (.int .i64 xs[i].X) ∧ w.cell? ⟨b, off + i * 2 + 1, none⟩ = some (.int .i64 xs[i].Y) := by
  obtain ⟨cs, hr, hc⟩ := h.elem hi
  have h0 := hc 0 (.int .i64 xs[i].X) (by rw [hr]; rfl)
  have h1 := hc 1 (.int .i64 xs[i].Y) (by rw [hr]; rfl)
  exact ⟨by simpa [Rep.k, Flat.k] using h0, by simpa [Rep.k, Flat.k] using h1⟩

theorem spot_eq (p q : Spot) : (p == q) = (p.X == q.X && p.Y == q.Y) := by
  cases p; cases q; rw [Bool.eq_iff_iff]; simp [Spot.mk.injEq]

theorem spot_neq (x1 x2 : Int) (y1 y2 : Int) (w : World) : (binOp .neq 57 (.agg #[.int .i64 x1, .int .i64 y1]) (.agg #[.int .i64 x2, .int .i64 y2])).run Tryd.prog w = .ok (.bool (!((⟨x1, y1⟩ : Spot) == ⟨x2, y2⟩))) w := by
  by_cases h0 : x1 = x2 <;> by_cases h1 : y1 = y2 <;> simp [go_sem, h0, h1, spot_eq]
theorem spot_eql (x1 x2 : Int) (y1 y2 : Int) (w : World) : (binOp .eql 57 (.agg #[.int .i64 x1, .int .i64 y1]) (.agg #[.int .i64 x2, .int .i64 y2])).run Tryd.prog w = .ok (.bool (((⟨x1, y1⟩ : Spot) == ⟨x2, y2⟩))) w := by
  by_cases h0 : x1 = x2 <;> by_cases h1 : y1 = y2 <;> simp [go_sem, h0, h1, spot_eq]

/-- The cells of a new variable. -/
theorem newSpot_cells (w : World) (t : TypeId) (s : Spot) : (w.alloc (.cells #[.int .i64 s.X, .int .i64 s.Y] t)).cell? ⟨w.heap.size, 0, none⟩ = some (.int .i64 s.X) ∧ (w.alloc (.cells #[.int .i64 s.X, .int .i64 s.Y] t)).cell? ⟨w.heap.size, 1, none⟩ = some (.int .i64 s.Y) := by
  refine ⟨?_, ?_⟩ <;> go_simp

theorem toSpot_any (x : Int) (y : Int) (w : World) :
    Calls Tryd.prog 35 #[.agg #[.int .i64 x, .int .i64 y]] w fun e w' => e = .returned (.agg #[.int .i64 x, .int .i64 y]) ∧ Below w.heap.size w w' := by
  go_enter Tryd.func35, Tryd.ntmps35
  go_wp2
  refine bodyPost_ret (v := .agg #[.int .i64 x, .int .i64 y]) (by simp [results, Tryd.results35, go_sem]) rfl ⟨rfl, ?_⟩
  exact (((Below.refl _ _).alloc (by simp) _).alloc (by simp) _).alloc (by simp; omega) _

theorem eqSpot_any (p q : Spot) (w : World) :
    Calls Tryd.prog 38 #[.agg #[.int .i64 p.X, .int .i64 p.Y], .agg #[.int .i64 q.X, .int .i64 q.Y]] w fun e w' => e = .returned (.bool (p == q)) ∧ Below w.heap.size w w' := by
  rw [spot_eq]
  go_enter Tryd.func38, Tryd.ntmps38
  go_wp2
  all_goals go_ret
  all_goals refine ⟨?_, ((Below.refl _ _).alloc (by simp) _).alloc (by simp) _⟩
  all_goals simp_all

theorem eqSpot_same (p : Spot) (w : World) :
    Calls Tryd.prog 38 #[.agg #[.int .i64 p.X, .int .i64 p.Y], .agg #[.int .i64 p.X, .int .i64 p.Y]] w fun e w' => e = .returned (.bool true) ∧ Below w.heap.size w w' := by
  simpa using eqSpot_any p p w

theorem szSpotS_ok (a : Option Addr) (n c : Nat) (l : Int) (w : World) (hn : (n : Int) ≤ l) (hl' : l ≤ 1048576) :
    Calls Tryd.prog 11 #[.slice a n c, .int .i64 l] w fun e w' => e = .returned (.int .i64 (l - n)) ∧ Below w.heap.size w w' := by
  go_enter Tryd.func11, Tryd.ntmps11
  go_wp2
  go_ret
  exact ⟨rfl, Below.refl _ _⟩
theorem szSpotS_no (a : Option Addr) (n c : Nat) (l : Int) (w : World) (hn : n ≤ 9223372036854775807) (h : l < n) (h0 : 0 ≤ l) :
    Calls Tryd.prog 11 #[.slice a n c, .int .i64 l] w fun e w' => e = .returned (.int .i64 (-1)) ∧ Below w.heap.size w w' := by
  go_enter Tryd.func11, Tryd.ntmps11
  go_wp2
  go_ret
  exact ⟨rfl, Below.refl _ _⟩

set_option maxHeartbeats 400000 in
theorem eqSpotS_any (a a' : Option Addr) (xs ys : List Spot) (c c' : Nat) (w : World) (hx : At w a xs) (hy : At w a' ys)
   (hlx : xs.length ≤ 9223372036854775807) (_hly : ys.length ≤ 9223372036854775807) :
    Calls Tryd.prog 15 #[.slice a xs.length c, .slice a' ys.length c'] w fun e w' => e = .returned (.bool (xs == ys)) ∧ Below w.heap.size w w' := by
  by_cases hl : xs.length = ys.length
  · have hne : ((xs.length : Int) != ys.length) = false := by simp [hl]
    have HL := Lib.hid hl
    clear hl _hly
    go_enter Tryd.func15, Tryd.ntmps15
    go_wp2
    go_loopw [5] (fun i wr => ∃ k : Nat, k ≤ xs.length ∧ i = .int .i64 k ∧ Upto xs ys k ∧ Below w.heap.size w wr) (fun i _ => xs.length - (intOf i).toNat)
    case atStart => exact ⟨0, Nat.zero_le _, rfl, upto_zero, Below.refl _ _⟩
    case round =>
      obtain ⟨k, hk, rfl, heq, hb⟩ := hrel
      have HE := Lib.hid heq
      clear heq
      have hx := hx.below hb
      have hy := hy.below hb
      by_cases hlt : k < xs.length
      · have hlt' : k < ys.length := by rw [← HL.out]; exact hlt
        obtain ⟨b, off, rfl⟩ := hx.addr hlt
        obtain ⟨b', off', rfl⟩ := hy.addr hlt'
        obtain ⟨c0, c1⟩ := hx.spot hlt
        obtain ⟨d0, d1⟩ := hy.spot hlt'
        have c0 := rg c0
        have d0 := rg d0
        have c1 := rg c1
        have d1 := rg d1
        go_wp2
        refine wp_region_quiet_below (by kernel_rfl) (by kernel_rfl) ?_
        repeat (go_big_quiet_step ((go_at_call 38; exact Calls.regrown_of (eqSpot_any _ _ _))))
        refine wpQuiet_nil ?_
        intro w2 hw'
        have hb := upw hb (grown_of hw')
        clear hw'
        go_wp2
        · have he : (!xs[k] == ys[k]) = true := by assumption
          go_ret
          exact ⟨ret_bool (beq_of_ne hlt hlt' (by simpa using he)).symm, hb⟩
        · have he : (!xs[k] == ys[k]) = false := by assumption
          go_roundw
          case rel => exact ⟨k + 1, by omega, by go_num, upto_succ HE.out (by simpa using he), hb⟩
          case measure => simp [intOf]; omega
      · go_wp2
        go_ret
        exact ⟨ret_bool (beq_of_upto HL.out (by omega) HE.out).symm, hb⟩
  · have hne : ((xs.length : Int) != ys.length) = true := by simp; omega
    go_enter Tryd.func15, Tryd.ntmps15
    go_wp2
    go_ret
    exact ⟨ret_bool (beq_of_len hl).symm, Below.refl _ _⟩

theorem eqSpotS_same (a a' : Option Addr) (xs : List Spot) (c c' : Nat) (w : World) (hx : At w a xs) (hy : At w a' xs) (hl : xs.length ≤ 9223372036854775807) :
    Calls Tryd.prog 15 #[.slice a xs.length c, .slice a' xs.length c'] w fun e w' => e = .returned (.bool true) ∧ Below w.heap.size w w' := by
  simpa using eqSpotS_any a a' xs xs c c' w hx hy hl hl
set_option maxHeartbeats 400000 in
theorem indexSpots_any (a : Option Addr) (xs : List Spot) (c : Nat) (K : Nat) (cap : Array Value) (p : Spot → Bool) (w : World) (hK : Enters Tryd.prog K) (hx : At w a xs) (hl : xs.length ≤ 9223372036854775807)
    (hf : ∀ x ∈ xs, ∀ w', Below w.heap.size w w' → Calls Tryd.prog K (#[.agg #[.int .i64 x.X, .int .i64 x.Y]] ++ cap) w' fun e w'' => e = .returned (.bool (p x)) ∧ Below w'.heap.size w' w'') :
    Calls Tryd.prog 79 #[.slice a xs.length c, .func (.func K) #[] cap] w fun e w' => e = .returned (.int .i64 (firstIdx p xs)) ∧ Below w.heap.size w w' := by
  have HF := Lib.hid hf
  clear hf
  unfold Enters at hK
  go_enter Tryd.func79, Tryd.ntmps79
  go_wp2
  go_loopw [8] (fun i wr => ∃ k : Nat, k ≤ xs.length ∧ i = .int .i64 k ∧ Nosofar p xs k ∧ Below w.heap.size w wr) (fun i _ => xs.length - (intOf i).toNat)
  case atStart => exact ⟨0, Nat.zero_le _, rfl, nosofar_zero, Below.refl _ _⟩
  case round =>
    obtain ⟨k, hk, rfl, hs, hb⟩ := hrel
    have HS := Lib.hid hs
    clear hs
    replace hx := hx.below hb
    by_cases hlt : k < xs.length
    · obtain ⟨b, off, rfl⟩ := hx.addr hlt
      obtain ⟨c0, c1⟩ := hx.spot hlt
      cases hp : p xs[k]
      · go_wp2_with fail
        refine (HF.out _ (List.getElem_mem hlt) _ hb).mono ?_
        rintro e w2 ⟨rfl, hb2⟩
        replace hb := upw hb hb2
        go_wp2_with fail
        go_roundw
        case rel => exact ⟨k + 1, by omega, by go_num, nosofar_succ HS.out hp, hb⟩
        case measure => simp [intOf]; omega
      · go_wp2_with fail
        refine (HF.out _ (List.getElem_mem hlt) _ hb).mono ?_
        rintro e w2 ⟨rfl, hb2⟩
        replace hb := upw hb hb2
        go_wp2_with fail
        go_ret
        exact ⟨ret_int (firstIdx_some hlt HS.out hp).symm, hb⟩
    · go_wp2
      go_ret
      exact ⟨ret_int (firstIdx_none (by omega) HS.out).symm, hb⟩
theorem containsSpots_any (a : Option Addr) (xs : List Spot) (c : Nat) (K : Nat) (cap : Array Value) (p : Spot → Bool) (w : World) (hK : Enters Tryd.prog K) (hx : At w a xs) (hl : xs.length ≤ 9223372036854775807)
    (hf : ∀ x ∈ xs, ∀ w', Below w.heap.size w w' → Calls Tryd.prog K (#[.agg #[.int .i64 x.X, .int .i64 x.Y]] ++ cap) w' fun e w'' => e = .returned (.bool (p x)) ∧ Below w'.heap.size w' w'') :
    Calls Tryd.prog 58 #[.slice a xs.length c, .func (.func K) #[] cap] w fun e w' => e = .returned (.bool (xs.any p)) ∧ Below w.heap.size w w' := by
  have HF := Lib.hid hf
  clear hf
  go_enter Tryd.func58, Tryd.ntmps58
  go_wp2_with fail
  refine (indexSpots_any _ _ _ _ _ _ _ hK hx hl HF.out).mono ?_
  rintro e w2 ⟨rfl, hb⟩
  go_wp2_with fail
  go_ret
  exact ⟨ret_bool (firstIdx_pos p xs), hb⟩

theorem infoSpot : (Tryd.prog.info? 57).map (fun i => (i.zero, i.size, i.bytes)) = some (some (.agg #[.int .i64 0, .int .i64 0]), 2, 16) := by kernel_rfl

set_option maxHeartbeats 400000 in
theorem toSpotS_any (a : Option Addr) (xs : List Spot) (c : Nat) (w : World) (hx : At w a xs) (hlx : xs.length ≤ 1048576) :
    Calls Tryd.prog 13 #[.slice a xs.length c] w fun e w' => ∃ v, e = .returned v ∧ Own w.heap.size w' 57 v xs ∧ Below w.heap.size w w' := by
  obtain ⟨i0, hi, hz0, hz1, hz2⟩ := info_parts infoSpot
  go_enter Tryd.func13, Tryd.ntmps13
  go_wp2_with (at_make; refine wpList_make_full _ rfl (.tmp 6) (.tmp 6) 31 rfl w.heap.size 57 i0 (.agg #[.int .i64 0, .int .i64 0]) 2 Tryd.underlying31 hi hz0 hz1 .i64 .i64 _ _ xs.length rfl rfl rfl rfl (by rw [hz2]; omega) (by unfold maxLen; omega) (Nat.le_refl _) ?_; intro w1 hown hg)
  have hb1 : Below w.heap.size w w1 := (Below.refl _ _).grown hg (Nat.le_refl _) (by simp)
  have HO : Own w.heap.size w1 57 (.slice (some ⟨w.heap.size, 0, none⟩) xs.length xs.length) (filled ⟨0, 0⟩ xs 0) := by
    rw [filled_zero]; unfold Own; rw [List.length_replicate, ← made_flat (⟨0, 0⟩ : Spot) _ rfl]; exact hown
  clear hown hg
  go_loopw [4] (fun i wr => ∃ k : Nat, k ≤ xs.length ∧ i = .int .i64 k ∧ Own w.heap.size wr 57 (.slice (some ⟨w.heap.size, 0, none⟩) xs.length xs.length) (filled ⟨0, 0⟩ xs k) ∧ Below w.heap.size w wr) (fun i _ => xs.length - (intOf i).toNat)
  case atStart => exact ⟨0, Nat.zero_le _, rfl, HO, hb1⟩
  case round =>
    obtain ⟨k, hk, rfl, hO, hb⟩ := hrel
    by_cases hlt : k < xs.length
    · have hx := hx.below hb
      obtain ⟨b, off, rfl⟩ := hx.addr hlt
      obtain ⟨c0, c1⟩ := hx.spot hlt
      go_wp2_with (first | (go_at_call 35; refine (toSpot_any _ _ _).mono ?_; rintro e w2 ⟨rfl, hb2⟩) | (refine wpList_store_own rfl 57 (.tmp 21) (.tmp 20) rfl w.heap.size 57 _ _ _ (filled (⟨0, 0⟩ : Spot) xs k) k _ xs[k] rfl rfl rfl (by kernel_rfl) (filled_length _ _ _ hk).symm (hO.later hb2) (by rw [filled_length _ _ _ hk]; exact hlt) ?_; intro w3 hO3 hg3))
      go_roundw
      case rel => exact ⟨k + 1, by omega, by go_num, by rw [← filled_succ _ _ _ hlt]; exact hO3, (upw hb hb2).grown hg3 (upw hb hb2).size (by simp)⟩
      case measure => simp [intOf]; omega
    · go_wp2
      go_ret
      exact ⟨_, rfl, by rw [filled_full _ _ (by omega)] at hO; exact hO, hb⟩

theorem spot_marks (m : Int) (c i : Nat) (h : i < (gen c fun i => (⟨m + 2 * (i : Int), m + 2 * (i : Int) + 1⟩ : Spot)).length) : (gen c fun i => (⟨m + 2 * (i : Int), m + 2 * (i : Int) + 1⟩ : Spot))[i] = ⟨m + 2 * (i : Int), m + 2 * (i : Int) + 1⟩ := gen_get _ _ _ _
/-- Spot that bear the marks m, m + 1, .. -/
def marksSpot (m : Int) (c : Nat) : List Spot := gen c fun i => ⟨m + 2 * (i : Int), m + 2 * (i : Int) + 1⟩
theorem marksSpot_length (m : Int) (c : Nat) : (marksSpot m c).length = c := gen_length _ _
theorem marksSpot_get (m : Int) (c i : Nat) (h : i < (marksSpot m c).length) : (marksSpot m c)[i] = ⟨m + 2 * (i : Int), m + 2 * (i : Int) + 1⟩ := gen_get _ _ _ _
set_option maxRecDepth 100000 in
set_option maxHeartbeats 1000000 in
theorem markSpotS_any (B : Nat) (v : Value) (xs : List Spot) (m : Int) (w : World) (hO : Own B w 57 v xs) (hlx : xs.length ≤ 4294967296) (h0 : 0 ≤ m) (h1 : m ≤ 4294967296) :
    Calls Tryd.prog 26 #[v, .int .i64 m] w fun e w' => e = .returned (.int .i64 (m + 2 * xs.length)) ∧ Own B w' 57 v (marksSpot m xs.length) ∧ w.grownBy w' v.ownBlock := by
  rcases hO.cases with ⟨rfl, rfl⟩ | ⟨g, cap, rfl⟩
  · go_enter Tryd.func26, Tryd.ntmps26
    go_wp2
    refine wp_loop_rounds 1 ?_
    rw [rounds_succ]
    go_wp2
    go_ret
    exact ⟨ret_int (by simp), hO, World.grownBy.refl _ _⟩
  · go_enter Tryd.func26, Tryd.ntmps26
    go_wp2
    go_loopw [1, 5] (fun q i wr => ∃ k : Nat, k ≤ xs.length ∧ i = .int .i64 k ∧ q = .int .i64 (m + 2 * k) ∧ Own B wr 57 (.slice (some ⟨g, 0, none⟩) xs.length cap) (over (marksSpot m xs.length) xs k) ∧ w.grownBy wr (some g)) (fun _ i _ => xs.length - (intOf i).toNat)
    case atStart => exact ⟨0, Nat.zero_le _, rfl, by go_num, by rw [over_zero]; exact hO, World.grownBy.refl _ _⟩
    case round =>
      obtain ⟨k, hk, rfl, rfl, hO, hg⟩ := hrel
      by_cases hlt : k < xs.length
      · have hlt' : k < (over (marksSpot m xs.length) xs k).length := by rw [over_length _ _ _ (marksSpot_length _ _)]; exact hlt
        have hO0 : Own B wr 57 (.slice (some ⟨g, 0, none⟩) xs.length cap) ((over (marksSpot m xs.length) xs k).set k (over (marksSpot m xs.length) xs k)[k]) := by rw [List.set_getElem_self]; exact hO
        go_wp2_with (first | (refine wpList_store_field rfl 2 (.tmp 16) (.tmp 14) rfl B 57 _ _ _ (over (marksSpot m xs.length) xs k) k _ 0 (⟨(over (marksSpot m xs.length) xs k)[k].X, (over (marksSpot m xs.length) xs k)[k].Y⟩ : Spot) (⟨m + 2 * (k : Int), (over (marksSpot m xs.length) xs k)[k].Y⟩ : Spot) _ rfl (by simp [Flat.k]) (by decide) rfl rfl rfl (by kernel_rfl) (over_length _ _ _ (marksSpot_length _ _)).symm hO0 hlt' ?_; intro w1 hO1 hg1) | (refine wpList_store_field rfl 2 (.tmp 23) (.tmp 21) rfl B 57 _ _ _ (over (marksSpot m xs.length) xs k) k _ 1 (⟨m + 2 * (k : Int), (over (marksSpot m xs.length) xs k)[k].Y⟩ : Spot) (⟨m + 2 * (k : Int), m + 2 * (k : Int) + 1⟩ : Spot) _ rfl (by simp [Flat.k]) (by decide) rfl rfl rfl (by kernel_rfl) (over_length _ _ _ (marksSpot_length _ _)).symm hO1 hlt' ?_; intro w2 hO2 hg2))
        go_roundw
        case rel => exact ⟨k + 1, by omega, by go_num, by go_num, by rw [← over_succ _ _ _ (marksSpot_length _ _) (by rw [marksSpot_length]; exact hlt), marksSpot_get]; exact hO2, grownBy_trans (grownBy_trans (hg) hg1) hg2⟩
        case measure => simp [intOf]; omega
      · go_wp2
        go_ret
        obtain rfl : k = xs.length := by omega
        exact ⟨rfl, by rw [over_full _ _ (marksSpot_length _ _) (Nat.le_refl _)] at hO; exact hO, hg⟩

set_option maxRecDepth 100000 in
set_option maxHeartbeats 1000000 in
theorem heldSpotS_any (a : Option Addr) (c0 c : Nat) (m : Int) (w : World) (hx : At w a (marksSpot m c0)) (hn : c0 ≤ 4294967296) (h0 : 0 ≤ m) (h1 : m ≤ 4294967296) :
    Calls Tryd.prog 27 #[.slice a c0 c, .int .i64 m] w fun e w' => e = .returned (.int .i64 (m + 2 * c0)) ∧ Below w.heap.size w w' := by
  go_enter Tryd.func27, Tryd.ntmps27
  go_wp2
  go_loopw [1, 5] (fun q i wr => ∃ k : Nat, k ≤ c0 ∧ i = .int .i64 k ∧ q = .int .i64 (m + 2 * k) ∧ Below w.heap.size w wr) (fun _ i _ => c0 - (intOf i).toNat)
  case atStart => exact ⟨0, Nat.zero_le _, rfl, by go_num, Below.refl _ _⟩
  case round =>
    obtain ⟨k, hk, rfl, rfl, hb⟩ := hrel
    by_cases hlt : k < c0
    · have hlt' : k < (marksSpot m c0).length := by rw [marksSpot_length]; exact hlt
      have hx := hx.below hb
      obtain ⟨b, off, rfl⟩ := hx.addr hlt'
      have cc := hx.spot hlt'
      rw [marksSpot_get] at cc
      obtain ⟨c0, c1⟩ := cc
      go_wp2
      go_roundw
      case rel => exact ⟨k + 1, by omega, by go_num, by go_num, hb⟩
      case measure => simp [intOf]; omega
    · go_wp2
      go_ret
      obtain rfl : k = c0 := by omega
      exact ⟨rfl, hb⟩

theorem opens_lspot : Opens Tryd.prog 59 Spot := by
  intro H enc w fuel cs x h
  obtain ⟨hl, n, hf⟩ := trod_fields Tryd.underlying59 (by kernel_rfl) h
  match cs, hl with
  | [v0, v1], _ =>
    obtain ⟨y0, g0⟩ := hf 0 _ v0 rfl rfl
    obtain ⟨z0, r0, k0⟩ := opens_int Tryd.underlying2 g0
    obtain ⟨y1, g1⟩ := hf 1 _ v1 rfl rfl
    obtain ⟨z1, r1, k1⟩ := opens_int Tryd.underlying2 g1
    cases r0; cases r1
    exact ⟨⟨z0, z1⟩, rfl, k0, k1⟩
set_option maxRecDepth 100000 in
theorem open_lspot {H : Type} {enc : TypeId × Value → H} {w : World} {r : Reach} {b0 : Nat} {v : Value} {d : DataW H} {p : List MemPlace} (hv : Value.okWide Tryd.prog w r b0 59 v) (h : DataW.Trod enc Tryd.prog w 0 (fun _ => true) true 59 v d p) :
    ∃ x : Spot, v = .agg #[.int .i64 x.X, .int .i64 x.Y] ∧ Rep.ok x := by
  obtain ⟨cs, rfl, _⟩ := Go.WideShapes.okWide_struct Tryd.underlying59 hv
  obtain ⟨fuel, hf⟩ := h
  obtain ⟨x, hr, hk⟩ := opens_lspot hf
  have hr' : cs.toList = Flat.el x := hr
  have : cs = (Flat.el x).toArray := by rw [← hr']
  subst this
  exact ⟨x, rfl, hk⟩
theorem opens_lspots : Opens Tryd.prog 28 (List Spot) := opens_slice Tryd.underlying28 (by kernel_rfl) opens_lspot
end Go.Proofs.YthapcljhokfkmaaDoor
