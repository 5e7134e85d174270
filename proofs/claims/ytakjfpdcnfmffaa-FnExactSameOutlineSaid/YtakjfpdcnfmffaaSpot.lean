/- Spots: what the functions on spots and on lists of spots compute, by their contracts. -/
import Derived.Test.YtakjfpdcnfmffaaRows
import Derived.Test.YtakjfpdcnfmffaaBase
namespace Go.Proofs.Ytakjfpdcnfmffaa
open Go.RowKit

structure Spot where
  X : Int
  Y : Int
deriving DecidableEq

instance : Flat Spot := ⟨2, Nat.two_pos, fun s => [.int .i64 s.X, .int .i64 s.Y], fun _ => rfl, fun x u h => by simp at h; rcases h with h | h <;> subst h <;> rfl, fun s => (-9223372036854775808 ≤ s.X ∧ s.X ≤ 9223372036854775807) ∧ -9223372036854775808 ≤ s.Y ∧ s.Y ≤ 9223372036854775807⟩

theorem At.spot {w : World} {b off : Nat} {xs : List Spot} (h : At w (some ⟨b, off, none⟩) xs) {i : Nat} (hi : i < xs.length) :
    w.cell? ⟨b, off + i * 2, none⟩ = some (.int .i64 xs[i].X) ∧ w.cell? ⟨b, off + i * 2 + 1, none⟩ = some (.int .i64 xs[i].Y) := by
  obtain ⟨cs, hr, hc⟩ := h.elem hi
  have h0 := hc 0 (.int .i64 xs[i].X) (by rw [hr]; rfl)
  have h1 := hc 1 (.int .i64 xs[i].Y) (by rw [hr]; rfl)
  exact ⟨by simpa [Rep.k, Flat.k] using h0, by simpa [Rep.k, Flat.k] using h1⟩

theorem spot_eq (p q : Spot) : (p == q) = (p.X == q.X && p.Y == q.Y) := by
  cases p; cases q; rw [Bool.eq_iff_iff]; simp [Spot.mk.injEq]

theorem spot_neq (x y x' y' : Int) (w : World) : (binOp .neq 56 (.agg #[.int .i64 x, .int .i64 y]) (.agg #[.int .i64 x', .int .i64 y'])).run Try.prog w = .ok (.bool !((⟨x, y⟩ : Spot) == ⟨x', y'⟩)) w := by
  by_cases h : x = x' <;> by_cases h' : y = y' <;> simp [go_sem, h, h', spot_eq]
attribute [local go_sem ↓] spot_neq

theorem toSpot_any (x y : Int) (w : World) :
    Calls Try.prog 37 #[.agg #[.int .i64 x, .int .i64 y]] w fun e w' => e = .returned (.agg #[.int .i64 x, .int .i64 y]) ∧ Below w.heap.size w w' := by
  go_enter Try.func37, Try.ntmps37
  go_wp2
  refine bodyPost_ret (v := .agg #[.int .i64 x, .int .i64 y]) (by simp [results, Try.results37, go_sem]) rfl ⟨rfl, ?_⟩
  exact (((Below.refl _ _).alloc (by simp) _).alloc (by simp) _).alloc (by simp; omega) _

theorem eqSpot_any (p q : Spot) (w : World) :
    Calls Try.prog 39 #[.agg #[.int .i64 p.X, .int .i64 p.Y], .agg #[.int .i64 q.X, .int .i64 q.Y]] w fun e w' => e = .returned (.bool (p == q)) ∧ Below w.heap.size w w' := by
  rw [spot_eq]
  go_enter Try.func39, Try.ntmps39
  go_wp2
  all_goals go_ret
  all_goals refine ⟨?_, ((Below.refl _ _).alloc (by simp) _).alloc (by simp) _⟩
  all_goals simp_all

theorem szSpotS_ok (a : Option Addr) (n c : Nat) (l : Int) (w : World) (hn : (n : Int) ≤ l) (hl' : l ≤ 1048576) :
    Calls Try.prog 10 #[.slice a n c, .int .i64 l] w fun e w' => e = .returned (.int .i64 (l - n)) ∧ Below w.heap.size w w' := by
  go_enter Try.func10, Try.ntmps10
  go_wp2
  go_ret
  exact ⟨rfl, Below.refl _ _⟩
theorem szSpotS_no (a : Option Addr) (n c : Nat) (l : Int) (w : World) (hn : n ≤ 9223372036854775807) (h : l < n) (h0 : 0 ≤ l) :
    Calls Try.prog 10 #[.slice a n c, .int .i64 l] w fun e w' => e = .returned (.int .i64 (-1)) ∧ Below w.heap.size w w' := by
  go_enter Try.func10, Try.ntmps10
  go_wp2
  go_ret
  exact ⟨rfl, Below.refl _ _⟩

set_option maxHeartbeats 400000 in
theorem eqSpotS_any (a a' : Option Addr) (xs ys : List Spot) (c c' : Nat) (w : World) (hx : At w a xs) (hy : At w a' ys)
   (hlx : xs.length ≤ 1048576) (hly : ys.length ≤ 1048576) :
    Calls Try.prog 14 #[.slice a xs.length c, .slice a' ys.length c'] w fun e w' => e = .returned (.bool (xs == ys)) ∧ Below w.heap.size w w' := by
  by_cases hl : xs.length = ys.length
  · have hne : ((xs.length : Int) != ys.length) = false := by simp [hl]
    have HL := Lib.hid hl
    clear hl
    go_enter Try.func14, Try.ntmps14
    go_wp2
    go_loopw [5] (fun i wr => ∃ k : Nat, k ≤ xs.length ∧ i = .int .i64 k ∧ Upto xs ys k ∧ Below w.heap.size w wr) (fun i _ => xs.length - (intOf i).toNat)
    case atStart => exact ⟨0, Nat.zero_le _, rfl, upto_zero, Below.refl _ _⟩
    case round =>
      obtain ⟨k, hk, rfl, heq, hb⟩ := hrel
      have HE := Lib.hid heq
      clear heq
      have hx := hx.below hb
      have hy := hy.below hb
      by_cases hlt : k < xs.length
      · have hlt' : k < ys.length := by rw [← HL.out]; exact hlt
        obtain ⟨b, off, rfl⟩ := hx.addr hlt
        obtain ⟨b', off', rfl⟩ := hy.addr hlt'
        obtain ⟨c1, c3⟩ := hx.spot hlt
        obtain ⟨c2, c4⟩ := hy.spot hlt'
        have c1 := rg c1
        have c2 := rg c2
        have c3 := rg c3
        have c4 := rg c4
        go_wp2
        refine wp_region_quiet_below (by kernel_rfl) (by kernel_rfl) ?_
        repeat (go_big_quiet_step ((go_at_call 39; exact Calls.regrown_of (eqSpot_any _ _ _))))
        refine wpQuiet_nil ?_
        intro w2 hw'
        have hb := upw hb (grown_of hw')
        clear hw'
        go_wp2
        · have he : (!xs[k] == ys[k]) = true := by assumption
          go_ret
          exact ⟨ret_bool (beq_of_ne hlt hlt' (by simpa using he)).symm, hb⟩
        · have he : (!xs[k] == ys[k]) = false := by assumption
          go_roundw
          case rel => exact ⟨k + 1, by omega, by go_num, upto_succ HE.out (by simpa using he), hb⟩
          case measure => simp [intOf]; omega
      · go_wp2
        go_ret
        exact ⟨ret_bool (beq_of_upto HL.out (by omega) HE.out).symm, hb⟩
  · have hne : ((xs.length : Int) != ys.length) = true := by simp; omega
    go_enter Try.func14, Try.ntmps14
    go_wp2
    go_ret
    exact ⟨ret_bool (beq_of_len hl).symm, Below.refl _ _⟩
theorem infoSpot : (Try.prog.info? 56).map (fun i => (i.zero, i.size, i.bytes)) = some (some (.agg #[.int .i64 0, .int .i64 0]), 2, 16) := by kernel_rfl

set_option maxHeartbeats 400000 in
theorem toSpotS_any (a : Option Addr) (xs : List Spot) (c : Nat) (w : World) (hx : At w a xs) (hlx : xs.length ≤ 1048576) :
    Calls Try.prog 12 #[.slice a xs.length c] w fun e w' => ∃ v, e = .returned v ∧ Own w.heap.size w' 56 v xs ∧ Below w.heap.size w w' := by
  obtain ⟨i0, hi, hz0, hz1, hz2⟩ := info_parts infoSpot
  go_enter Try.func12, Try.ntmps12
  go_wp2_with (at_make; refine wpList_make_full _ rfl (.tmp 6) (.tmp 6) 25 rfl w.heap.size 56 i0 (.agg #[.int .i64 0, .int .i64 0]) 2 Try.underlying25 hi hz0 hz1 .i64 .i64 _ _ xs.length rfl rfl rfl rfl (by rw [hz2]; omega) (by unfold maxLen; omega) (Nat.le_refl _) ?_; intro w1 hown hg)
  have hb1 : Below w.heap.size w w1 := (Below.refl _ _).grown hg (Nat.le_refl _) (by simp)
  have HO : Own w.heap.size w1 56 (.slice (some ⟨w.heap.size, 0, none⟩) xs.length xs.length) (filled ⟨0, 0⟩ xs 0) := by
    rw [filled_zero]; unfold Own; rw [List.length_replicate, ← made_flat (⟨0, 0⟩ : Spot) _ rfl]; exact hown
  clear hown hg
  go_loopw [4] (fun i wr => ∃ k : Nat, k ≤ xs.length ∧ i = .int .i64 k ∧ Own w.heap.size wr 56 (.slice (some ⟨w.heap.size, 0, none⟩) xs.length xs.length) (filled ⟨0, 0⟩ xs k) ∧ Below w.heap.size w wr) (fun i _ => xs.length - (intOf i).toNat)
  case atStart => exact ⟨0, Nat.zero_le _, rfl, HO, hb1⟩
  case round =>
    obtain ⟨k, hk, rfl, hO, hb⟩ := hrel
    by_cases hlt : k < xs.length
    · have hx := hx.below hb
      obtain ⟨b, off, rfl⟩ := hx.addr hlt
      obtain ⟨c1, c2⟩ := hx.spot hlt
      go_wp2_with (first | (go_at_call 37; refine (toSpot_any _ _ _).mono ?_; rintro e w2 ⟨rfl, hb2⟩) | (refine wpList_store_own rfl 56 (.tmp 21) (.tmp 20) rfl w.heap.size 56 _ _ _ (filled (⟨0, 0⟩ : Spot) xs k) k _ xs[k] rfl rfl rfl (by kernel_rfl) (filled_length _ _ _ hk).symm (hO.later hb2) (by rw [filled_length _ _ _ hk]; exact hlt) ?_; intro w3 hO3 hg3))
      go_roundw
      case rel => exact ⟨k + 1, by omega, by go_num, by rw [← filled_succ _ _ _ hlt]; exact hO3, (upw hb hb2).grown hg3 (upw hb hb2).size (by simp)⟩
      case measure => simp [intOf]; omega
    · go_wp2
      go_ret
      exact ⟨_, rfl, by rw [filled_full _ _ (by omega)] at hO; exact hO, hb⟩

set_option maxHeartbeats 400000 in
theorem specSameOutline_any (a a' : Option Addr) (xs ys : List Spot) (c c' : Nat) (w : World) (hx : At w a xs) (hy : At w a' ys)
   (hlx : xs.length ≤ 1048576) (hly : ys.length ≤ 1048576) :
    Calls Try.prog 11 #[.slice a xs.length c, .slice a' ys.length c'] w fun e w' => e = .returned (.bool (xs == ys)) ∧ Below w.heap.size w w' := by
  by_cases hl : xs.length = ys.length
  · have hne : ((xs.length : Int) != ys.length) = false := by simp [hl]
    have HL := Lib.hid hl
    clear hl
    go_enter Try.func11, Try.ntmps11
    go_wp2
    go_loopw [5] (fun i wr => ∃ k : Nat, k ≤ xs.length ∧ i = .int .i64 k ∧ Upto xs ys k ∧ Below w.heap.size w wr) (fun i _ => xs.length - (intOf i).toNat)
    case atStart => exact ⟨0, Nat.zero_le _, rfl, upto_zero, Below.refl _ _⟩
    case round =>
      obtain ⟨k, hk, rfl, heq, hb⟩ := hrel
      have HE := Lib.hid heq
      clear heq
      have hx := hx.below hb
      have hy := hy.below hb
      by_cases hlt : k < xs.length
      · have hlt' : k < ys.length := by rw [← HL.out]; exact hlt
        obtain ⟨b, off, rfl⟩ := hx.addr hlt
        obtain ⟨b', off', rfl⟩ := hy.addr hlt'
        obtain ⟨c1, c3⟩ := hx.spot hlt
        obtain ⟨c2, c4⟩ := hy.spot hlt'
        have c1 := rg c1
        have c2 := rg c2
        have c3 := rg c3
        have c4 := rg c4
        go_wp2
        refine wp_region_quiet_below (by kernel_rfl) (by kernel_rfl) ?_
        repeat (go_big_quiet_step (fail))
        refine wpQuiet_nil ?_
        intro w2 hw'
        have hb := upw hb (grown_of hw')
        clear hw'
        go_wp2
        · have he : (!xs[k] == ys[k]) = true := by assumption
          go_ret
          exact ⟨ret_bool (beq_of_ne hlt hlt' (by simpa using he)).symm, hb⟩
        · have he : (!xs[k] == ys[k]) = false := by assumption
          go_roundw
          case rel => exact ⟨k + 1, by omega, by go_num, upto_succ HE.out (by simpa using he), hb⟩
          case measure => simp [intOf]; omega
      · go_wp2
        go_ret
        exact ⟨ret_bool (beq_of_upto HL.out (by omega) HE.out).symm, hb⟩
  · have hne : ((xs.length : Int) != ys.length) = true := by simp; omega
    go_enter Try.func11, Try.ntmps11
    go_wp2
    go_ret
    exact ⟨ret_bool (beq_of_len hl).symm, Below.refl _ _⟩

set_option maxHeartbeats 400000 in
theorem equalSpots_any (a a' : Option Addr) (xs ys : List Spot) (c c' : Nat) (w : World) (hx : At w a xs) (hy : At w a' ys)
   (hlx : xs.length ≤ 1048576) (hly : ys.length ≤ 1048576) :
    Calls Try.prog 38 #[.slice a xs.length c, .slice a' ys.length c'] w fun e w' => e = .returned (.bool (xs == ys)) ∧ Below w.heap.size w w' := by
  by_cases hl : xs.length = ys.length
  · have hne : ((xs.length : Int) != ys.length) = false := by simp [hl]
    have HL := Lib.hid hl
    clear hl
    go_enter Try.func38, Try.ntmps38
    go_wp2
    go_loopw [13, 5] (fun i _ wr => ∃ k : Nat, k ≤ xs.length ∧ i = .int .i64 k ∧ Upto xs ys k ∧ Below w.heap.size w wr) (fun i _ _ => xs.length - (intOf i).toNat)
    case atStart => exact ⟨0, Nat.zero_le _, rfl, upto_zero, Below.refl _ _⟩
    case round =>
      obtain ⟨k, hk, rfl, heq, hb⟩ := hrel
      have HE := Lib.hid heq
      clear heq
      have hx := hx.below hb
      have hy := hy.below hb
      by_cases hlt : k < xs.length
      · have hlt' : k < ys.length := by rw [← HL.out]; exact hlt
        obtain ⟨b, off, rfl⟩ := hx.addr hlt
        obtain ⟨b', off', rfl⟩ := hy.addr hlt'
        obtain ⟨c1, c3⟩ := hx.spot hlt
        obtain ⟨c2, c4⟩ := hy.spot hlt'
        have c1 := rg c1
        have c2 := rg c2
        have c3 := rg c3
        have c4 := rg c4
        go_wp2
        refine wp_region_quiet_below (by kernel_rfl) (by kernel_rfl) ?_
        repeat (go_big_quiet_step (fail))
        refine wpQuiet_nil ?_
        intro w2 hw'
        have hb := upw hb (grown_of hw')
        clear hw'
        go_wp2
        · have he : (!xs[k] == ys[k]) = true := by assumption
          go_ret
          exact ⟨ret_bool (beq_of_ne hlt hlt' (by simpa using he)).symm, hb⟩
        · have he : (!xs[k] == ys[k]) = false := by assumption
          go_roundw
          case rel => exact ⟨k + 1, by omega, by go_num, upto_succ HE.out (by simpa using he), hb⟩
          case measure => simp [intOf]; omega
      · go_wp2
        go_ret
        exact ⟨ret_bool (beq_of_upto HL.out (by omega) HE.out).symm, hb⟩
  · have hne : ((xs.length : Int) != ys.length) = true := by simp; omega
    go_enter Try.func38, Try.ntmps38
    go_wp2
    go_ret
    exact ⟨ret_bool (beq_of_len hl).symm, Below.refl _ _⟩

theorem implSameOutline_any (a a' : Option Addr) (xs ys : List Spot) (c c' : Nat) (w : World) (hx : At w a xs) (hy : At w a' ys)
   (hlx : xs.length ≤ 1048576) (hly : ys.length ≤ 1048576) :
    Calls Try.prog 13 #[.slice a xs.length c, .slice a' ys.length c'] w fun e w' => e = .returned (.bool (xs == ys)) ∧ Below w.heap.size w w' := by
  go_enter Try.func13, Try.ntmps13
  go_wp2_with (go_at_call 38; refine (equalSpots_any _ _ _ _ _ _ _ hx hy hlx hly).mono ?_; rintro e w2 ⟨rfl, hb2⟩)
  go_ret
  exact ⟨rfl, hb2⟩

theorem opens_lspot : Opens Try.prog 58 Spot := by
  intro H enc w fuel cs x h
  obtain ⟨hl, n, hf⟩ := trod_fields Try.underlying58 (by kernel_rfl) h
  match cs, hl with
  | [v0, v1], _ =>
    obtain ⟨y0, g0⟩ := hf 0 _ v0 rfl rfl
    obtain ⟨z0, r0, k0⟩ := opens_int Try.underlying2 g0
    obtain ⟨y1, g1⟩ := hf 1 _ v1 rfl rfl
    obtain ⟨z1, r1, k1⟩ := opens_int Try.underlying2 g1
    cases r0; cases r1
    exact ⟨⟨z0, z1⟩, rfl, k0, k1⟩
theorem opens_lspots : Opens Try.prog 22 (List Spot) := opens_slice Try.underlying22 (by kernel_rfl) opens_lspot
end Go.Proofs.Ytakjfpdcnfmffaa
