/- Seam: the type, how it lies in cells, and what the functions on it and on lists of it compute. (Printed by wip/genflat.py.) -/
import Derived.Test.YtlmhiocmldhkhaaRows
import Derived.Test.YtlmhiocmldhkhaaBase
namespace Go.Proofs.Ytlmhiocmldhkhaa
open Go.RowKit

@[ext] structure Seam where
  A : Int
  EdgeA : Int
  B : Int
  EdgeB : Int
deriving DecidableEq

instance : Flat Seam := ⟨4, by decide, fun s => [.int .i64 s.A, .int .i64 s.EdgeA, .int .i64 s.B, .int .i64 s.EdgeB], fun _ => rfl, fun x u h => by simp at h; rcases h with h | h | h | h <;> subst h <;> rfl, fun s => (-9223372036854775808 ≤ s.A ∧ s.A ≤ 9223372036854775807) ∧ (-9223372036854775808 ≤ s.EdgeA ∧ s.EdgeA ≤ 9223372036854775807) ∧ (-9223372036854775808 ≤ s.B ∧ s.B ≤ 9223372036854775807) ∧ (-9223372036854775808 ≤ s.EdgeB ∧ s.EdgeB ≤ 9223372036854775807)⟩

theorem At.seam {w : World} {b off : Nat} {xs : List Seam} (h : At w (some ⟨b, off, none⟩) xs) {i : Nat} (hi : i < xs.length) :
    w.cell? ⟨b, off + i * 4, none⟩ = some (.int .i64 xs[i].A) ∧ w.cell? ⟨b, off + i * 4 + 1, none⟩ = some (.int .i64 xs[i].EdgeA) ∧ w.cell? ⟨b, off + i * 4 + 2, none⟩ = some (.int .i64 xs[i].B) ∧ w.cell? ⟨b, off + i * 4 + 3, none⟩ = some (.int .i64 xs[i].EdgeB) := by
  obtain ⟨cs, hr, hc⟩ := h.elem hi
  have h0 := hc 0 (.int .i64 xs[i].A) (by rw [hr]; rfl)
  have h1 := hc 1 (.int .i64 xs[i].EdgeA) (by rw [hr]; rfl)
  have h2 := hc 2 (.int .i64 xs[i].B) (by rw [hr]; rfl)
  have h3 := hc 3 (.int .i64 xs[i].EdgeB) (by rw [hr]; rfl)
  exact ⟨by simpa [Rep.k, Flat.k] using h0, by simpa [Rep.k, Flat.k] using h1, by simpa [Rep.k, Flat.k] using h2, by simpa [Rep.k, Flat.k] using h3⟩

theorem seam_eq (p q : Seam) : (p == q) = (p.A == q.A && p.EdgeA == q.EdgeA && p.B == q.B && p.EdgeB == q.EdgeB) := by
  cases p; cases q; rw [Bool.eq_iff_iff]; simp [Seam.mk.injEq, and_assoc]

theorem seam_neq (a1 a2 : Int) (edgea1 edgea2 : Int) (b1 b2 : Int) (edgeb1 edgeb2 : Int) (w : World) : (binOp .neq 36 (.agg #[.int .i64 a1, .int .i64 edgea1, .int .i64 b1, .int .i64 edgeb1]) (.agg #[.int .i64 a2, .int .i64 edgea2, .int .i64 b2, .int .i64 edgeb2])).run Try.prog w = .ok (.bool (!((⟨a1, edgea1, b1, edgeb1⟩ : Seam) == ⟨a2, edgea2, b2, edgeb2⟩))) w := by
  by_cases h0 : a1 = a2 <;> by_cases h1 : edgea1 = edgea2 <;> by_cases h2 : b1 = b2 <;> by_cases h3 : edgeb1 = edgeb2 <;> simp [go_sem, h0, h1, h2, h3, seam_eq]
theorem seam_eql (a1 a2 : Int) (edgea1 edgea2 : Int) (b1 b2 : Int) (edgeb1 edgeb2 : Int) (w : World) : (binOp .eql 36 (.agg #[.int .i64 a1, .int .i64 edgea1, .int .i64 b1, .int .i64 edgeb1]) (.agg #[.int .i64 a2, .int .i64 edgea2, .int .i64 b2, .int .i64 edgeb2])).run Try.prog w = .ok (.bool (((⟨a1, edgea1, b1, edgeb1⟩ : Seam) == ⟨a2, edgea2, b2, edgeb2⟩))) w := by
  by_cases h0 : a1 = a2 <;> by_cases h1 : edgea1 = edgea2 <;> by_cases h2 : b1 = b2 <;> by_cases h3 : edgeb1 = edgeb2 <;> simp [go_sem, h0, h1, h2, h3, seam_eq]

/-- The cells of a new variable. -/
theorem newSeam_cells (w : World) (t : TypeId) (s : Seam) : (w.alloc (.cells #[.int .i64 s.A, .int .i64 s.EdgeA, .int .i64 s.B, .int .i64 s.EdgeB] t)).cell? ⟨w.heap.size, 0, none⟩ = some (.int .i64 s.A) ∧ (w.alloc (.cells #[.int .i64 s.A, .int .i64 s.EdgeA, .int .i64 s.B, .int .i64 s.EdgeB] t)).cell? ⟨w.heap.size, 1, none⟩ = some (.int .i64 s.EdgeA) ∧ (w.alloc (.cells #[.int .i64 s.A, .int .i64 s.EdgeA, .int .i64 s.B, .int .i64 s.EdgeB] t)).cell? ⟨w.heap.size, 2, none⟩ = some (.int .i64 s.B) ∧ (w.alloc (.cells #[.int .i64 s.A, .int .i64 s.EdgeA, .int .i64 s.B, .int .i64 s.EdgeB] t)).cell? ⟨w.heap.size, 3, none⟩ = some (.int .i64 s.EdgeB) := by
  refine ⟨?_, ?_, ?_, ?_⟩ <;> go_simp

theorem toSeam_any (a : Int) (edgea : Int) (b : Int) (edgeb : Int) (w : World) :
    Calls Try.prog 9 #[.agg #[.int .i64 a, .int .i64 edgea, .int .i64 b, .int .i64 edgeb]] w fun e w' => e = .returned (.agg #[.int .i64 a, .int .i64 edgea, .int .i64 b, .int .i64 edgeb]) ∧ Below w.heap.size w w' := by
  go_enter Try.func9, Try.ntmps9
  go_wp2
  refine bodyPost_ret (v := .agg #[.int .i64 a, .int .i64 edgea, .int .i64 b, .int .i64 edgeb]) (by simp [results, Try.results9, go_sem]) rfl ⟨rfl, ?_⟩
  exact (((Below.refl _ _).alloc (by simp) _).alloc (by simp) _).alloc (by simp; omega) _

theorem eqSeam_any (p q : Seam) (w : World) :
    Calls Try.prog 73 #[.agg #[.int .i64 p.A, .int .i64 p.EdgeA, .int .i64 p.B, .int .i64 p.EdgeB], .agg #[.int .i64 q.A, .int .i64 q.EdgeA, .int .i64 q.B, .int .i64 q.EdgeB]] w fun e w' => e = .returned (.bool (p == q)) ∧ Below w.heap.size w w' := by
  rw [seam_eq]
  go_enter Try.func73, Try.ntmps73
  go_wp2
  all_goals go_ret
  all_goals refine ⟨?_, ((Below.refl _ _).alloc (by simp) _).alloc (by simp) _⟩
  all_goals simp_all

theorem eqSeam_same (p : Seam) (w : World) :
    Calls Try.prog 73 #[.agg #[.int .i64 p.A, .int .i64 p.EdgeA, .int .i64 p.B, .int .i64 p.EdgeB], .agg #[.int .i64 p.A, .int .i64 p.EdgeA, .int .i64 p.B, .int .i64 p.EdgeB]] w fun e w' => e = .returned (.bool true) ∧ Below w.heap.size w w' := by
  simpa using eqSeam_any p p w

theorem szSeamS_ok (a : Option Addr) (n c : Nat) (l : Int) (w : World) (hn : (n : Int) ≤ l) (hl' : l ≤ 1048576) :
    Calls Try.prog 27 #[.slice a n c, .int .i64 l] w fun e w' => e = .returned (.int .i64 (l - n)) ∧ Below w.heap.size w w' := by
  go_enter Try.func27, Try.ntmps27
  go_wp2
  go_ret
  exact ⟨rfl, Below.refl _ _⟩
theorem szSeamS_no (a : Option Addr) (n c : Nat) (l : Int) (w : World) (hn : n ≤ 9223372036854775807) (h : l < n) (h0 : 0 ≤ l) :
    Calls Try.prog 27 #[.slice a n c, .int .i64 l] w fun e w' => e = .returned (.int .i64 (-1)) ∧ Below w.heap.size w w' := by
  go_enter Try.func27, Try.ntmps27
  go_wp2
  go_ret
  exact ⟨rfl, Below.refl _ _⟩

set_option maxHeartbeats 400000 in
theorem eqSeamS_any (a a' : Option Addr) (xs ys : List Seam) (c c' : Nat) (w : World) (hx : At w a xs) (hy : At w a' ys)
   (hlx : xs.length ≤ 9223372036854775807) (_hly : ys.length ≤ 9223372036854775807) :
    Calls Try.prog 39 #[.slice a xs.length c, .slice a' ys.length c'] w fun e w' => e = .returned (.bool (xs == ys)) ∧ Below w.heap.size w w' := by
  by_cases hl : xs.length = ys.length
  · have hne : ((xs.length : Int) != ys.length) = false := by simp [hl]
    have HL := Lib.hid hl
    clear hl _hly
    go_enter Try.func39, Try.ntmps39
    go_wp2
    go_loopw [5] (fun i wr => ∃ k : Nat, k ≤ xs.length ∧ i = .int .i64 k ∧ Upto xs ys k ∧ Below w.heap.size w wr) (fun i _ => xs.length - (intOf i).toNat)
    case atStart => exact ⟨0, Nat.zero_le _, rfl, upto_zero, Below.refl _ _⟩
    case round =>
      obtain ⟨k, hk, rfl, heq, hb⟩ := hrel
      have HE := Lib.hid heq
      clear heq
      have hx := hx.below hb
      have hy := hy.below hb
      by_cases hlt : k < xs.length
      · have hlt' : k < ys.length := by rw [← HL.out]; exact hlt
        obtain ⟨b, off, rfl⟩ := hx.addr hlt
        obtain ⟨b', off', rfl⟩ := hy.addr hlt'
        obtain ⟨c0, c1, c2, c3⟩ := hx.seam hlt
        obtain ⟨d0, d1, d2, d3⟩ := hy.seam hlt'
        have c0 := rg c0
        have d0 := rg d0
        have c1 := rg c1
        have d1 := rg d1
        have c2 := rg c2
        have d2 := rg d2
        have c3 := rg c3
        have d3 := rg d3
        go_wp2
        refine wp_region_quiet_below (by kernel_rfl) (by kernel_rfl) ?_
        repeat (go_big_quiet_step ((go_at_call 73; exact Calls.regrown_of (eqSeam_any _ _ _))))
        refine wpQuiet_nil ?_
        intro w2 hw'
        have hb := upw hb (grown_of hw')
        clear hw'
        go_wp2
        · have he : (!xs[k] == ys[k]) = true := by assumption
          go_ret
          exact ⟨ret_bool (beq_of_ne hlt hlt' (by simpa using he)).symm, hb⟩
        · have he : (!xs[k] == ys[k]) = false := by assumption
          go_roundw
          case rel => exact ⟨k + 1, by omega, by go_num, upto_succ HE.out (by simpa using he), hb⟩
          case measure => simp [intOf]; omega
      · go_wp2
        go_ret
        exact ⟨ret_bool (beq_of_upto HL.out (by omega) HE.out).symm, hb⟩
  · have hne : ((xs.length : Int) != ys.length) = true := by simp; omega
    go_enter Try.func39, Try.ntmps39
    go_wp2
    go_ret
    exact ⟨ret_bool (beq_of_len hl).symm, Below.refl _ _⟩

theorem eqSeamS_same (a a' : Option Addr) (xs : List Seam) (c c' : Nat) (w : World) (hx : At w a xs) (hy : At w a' xs) (hl : xs.length ≤ 9223372036854775807) :
    Calls Try.prog 39 #[.slice a xs.length c, .slice a' xs.length c'] w fun e w' => e = .returned (.bool true) ∧ Below w.heap.size w w' := by
  simpa using eqSeamS_any a a' xs xs c c' w hx hy hl hl
set_option maxHeartbeats 400000 in
theorem indexSeams_any (a : Option Addr) (xs : List Seam) (c : Nat) (K : Nat) (cap : Array Value) (p : Seam → Bool) (w : World) (hK : Enters Try.prog K) (hx : At w a xs) (hl : xs.length ≤ 9223372036854775807)
    (hf : ∀ x ∈ xs, ∀ w', Below w.heap.size w w' → Calls Try.prog K (#[.agg #[.int .i64 x.A, .int .i64 x.EdgeA, .int .i64 x.B, .int .i64 x.EdgeB]] ++ cap) w' fun e w'' => e = .returned (.bool (p x)) ∧ Below w'.heap.size w' w'') :
    Calls Try.prog 95 #[.slice a xs.length c, .func (.func K) #[] cap] w fun e w' => e = .returned (.int .i64 (firstIdx p xs)) ∧ Below w.heap.size w w' := by
  have HF := Lib.hid hf
  clear hf
  unfold Enters at hK
  go_enter Try.func95, Try.ntmps95
  go_wp2
  go_loopw [8] (fun i wr => ∃ k : Nat, k ≤ xs.length ∧ i = .int .i64 k ∧ Nosofar p xs k ∧ Below w.heap.size w wr) (fun i _ => xs.length - (intOf i).toNat)
  case atStart => exact ⟨0, Nat.zero_le _, rfl, nosofar_zero, Below.refl _ _⟩
  case round =>
    obtain ⟨k, hk, rfl, hs, hb⟩ := hrel
    have HS := Lib.hid hs
    clear hs
    replace hx := hx.below hb
    by_cases hlt : k < xs.length
    · obtain ⟨b, off, rfl⟩ := hx.addr hlt
      obtain ⟨c0, c1, c2, c3⟩ := hx.seam hlt
      cases hp : p xs[k]
      · go_wp2_with fail
        refine (HF.out _ (List.getElem_mem hlt) _ hb).mono ?_
        rintro e w2 ⟨rfl, hb2⟩
        replace hb := upw hb hb2
        go_wp2_with fail
        go_roundw
        case rel => exact ⟨k + 1, by omega, by go_num, nosofar_succ HS.out hp, hb⟩
        case measure => simp [intOf]; omega
      · go_wp2_with fail
        refine (HF.out _ (List.getElem_mem hlt) _ hb).mono ?_
        rintro e w2 ⟨rfl, hb2⟩
        replace hb := upw hb hb2
        go_wp2_with fail
        go_ret
        exact ⟨ret_int (firstIdx_some hlt HS.out hp).symm, hb⟩
    · go_wp2
      go_ret
      exact ⟨ret_int (firstIdx_none (by omega) HS.out).symm, hb⟩
theorem containsSeams_any (a : Option Addr) (xs : List Seam) (c : Nat) (K : Nat) (cap : Array Value) (p : Seam → Bool) (w : World) (hK : Enters Try.prog K) (hx : At w a xs) (hl : xs.length ≤ 9223372036854775807)
    (hf : ∀ x ∈ xs, ∀ w', Below w.heap.size w w' → Calls Try.prog K (#[.agg #[.int .i64 x.A, .int .i64 x.EdgeA, .int .i64 x.B, .int .i64 x.EdgeB]] ++ cap) w' fun e w'' => e = .returned (.bool (p x)) ∧ Below w'.heap.size w' w'') :
    Calls Try.prog 67 #[.slice a xs.length c, .func (.func K) #[] cap] w fun e w' => e = .returned (.bool (xs.any p)) ∧ Below w.heap.size w w' := by
  have HF := Lib.hid hf
  clear hf
  go_enter Try.func67, Try.ntmps67
  go_wp2_with fail
  refine (indexSeams_any _ _ _ _ _ _ _ hK hx hl HF.out).mono ?_
  rintro e w2 ⟨rfl, hb⟩
  go_wp2_with fail
  go_ret
  exact ⟨ret_bool (firstIdx_pos p xs), hb⟩

theorem infoSeam : (Try.prog.info? 36).map (fun i => (i.zero, i.size, i.bytes)) = some (some (.agg #[.int .i64 0, .int .i64 0, .int .i64 0, .int .i64 0]), 4, 32) := by kernel_rfl

set_option maxHeartbeats 400000 in
theorem toSeamS_any (a : Option Addr) (xs : List Seam) (c : Nat) (w : World) (hx : At w a xs) (hlx : xs.length ≤ 1048576) :
    Calls Try.prog 33 #[.slice a xs.length c] w fun e w' => ∃ v, e = .returned v ∧ Own w.heap.size w' 36 v xs ∧ Below w.heap.size w w' := by
  obtain ⟨i0, hi, hz0, hz1, hz2⟩ := info_parts infoSeam
  go_enter Try.func33, Try.ntmps33
  go_wp2_with (at_make; refine wpList_make_full _ rfl (.tmp 6) (.tmp 6) 30 rfl w.heap.size 36 i0 (.agg #[.int .i64 0, .int .i64 0, .int .i64 0, .int .i64 0]) 4 Try.underlying30 hi hz0 hz1 .i64 .i64 _ _ xs.length rfl rfl rfl rfl (by rw [hz2]; omega) (by unfold maxLen; omega) (Nat.le_refl _) ?_; intro w1 hown hg)
  have hb1 : Below w.heap.size w w1 := (Below.refl _ _).grown hg (Nat.le_refl _) (by simp)
  have HO : Own w.heap.size w1 36 (.slice (some ⟨w.heap.size, 0, none⟩) xs.length xs.length) (filled ⟨0, 0, 0, 0⟩ xs 0) := by
    rw [filled_zero]; unfold Own; rw [List.length_replicate, ← made_flat (⟨0, 0, 0, 0⟩ : Seam) _ rfl]; exact hown
  clear hown hg
  go_loopw [4] (fun i wr => ∃ k : Nat, k ≤ xs.length ∧ i = .int .i64 k ∧ Own w.heap.size wr 36 (.slice (some ⟨w.heap.size, 0, none⟩) xs.length xs.length) (filled ⟨0, 0, 0, 0⟩ xs k) ∧ Below w.heap.size w wr) (fun i _ => xs.length - (intOf i).toNat)
  case atStart => exact ⟨0, Nat.zero_le _, rfl, HO, hb1⟩
  case round =>
    obtain ⟨k, hk, rfl, hO, hb⟩ := hrel
    by_cases hlt : k < xs.length
    · have hx := hx.below hb
      obtain ⟨b, off, rfl⟩ := hx.addr hlt
      obtain ⟨c0, c1, c2, c3⟩ := hx.seam hlt
      go_wp2_with (first | (go_at_call 9; refine (toSeam_any _ _ _ _ _).mono ?_; rintro e w2 ⟨rfl, hb2⟩) | (refine wpList_store_own rfl 36 (.tmp 21) (.tmp 20) rfl w.heap.size 36 _ _ _ (filled (⟨0, 0, 0, 0⟩ : Seam) xs k) k _ xs[k] rfl rfl rfl (by kernel_rfl) (filled_length _ _ _ hk).symm (hO.later hb2) (by rw [filled_length _ _ _ hk]; exact hlt) ?_; intro w3 hO3 hg3))
      go_roundw
      case rel => exact ⟨k + 1, by omega, by go_num, by rw [← filled_succ _ _ _ hlt]; exact hO3, (upw hb hb2).grown hg3 (upw hb hb2).size (by simp)⟩
      case measure => simp [intOf]; omega
    · go_wp2
      go_ret
      exact ⟨_, rfl, by rw [filled_full _ _ (by omega)] at hO; exact hO, hb⟩

theorem seam_marks (m : Int) (c i : Nat) (h : i < (gen c fun i => (⟨m + 4 * (i : Int), m + 4 * (i : Int) + 1, m + 4 * (i : Int) + 1 + 1, m + 4 * (i : Int) + 1 + 1 + 1⟩ : Seam)).length) : (gen c fun i => (⟨m + 4 * (i : Int), m + 4 * (i : Int) + 1, m + 4 * (i : Int) + 1 + 1, m + 4 * (i : Int) + 1 + 1 + 1⟩ : Seam))[i] = ⟨m + 4 * (i : Int), m + 4 * (i : Int) + 1, m + 4 * (i : Int) + 1 + 1, m + 4 * (i : Int) + 1 + 1 + 1⟩ := gen_get _ _ _ _
/-- Seam that bear the marks m, m + 1, .. -/
def marksSeam (m : Int) (c : Nat) : List Seam := gen c fun i => ⟨m + 4 * (i : Int), m + 4 * (i : Int) + 1, m + 4 * (i : Int) + 1 + 1, m + 4 * (i : Int) + 1 + 1 + 1⟩
theorem marksSeam_length (m : Int) (c : Nat) : (marksSeam m c).length = c := gen_length _ _
theorem marksSeam_get (m : Int) (c i : Nat) (h : i < (marksSeam m c).length) : (marksSeam m c)[i] = ⟨m + 4 * (i : Int), m + 4 * (i : Int) + 1, m + 4 * (i : Int) + 1 + 1, m + 4 * (i : Int) + 1 + 1 + 1⟩ := gen_get _ _ _ _
set_option maxRecDepth 100000 in
set_option maxHeartbeats 1000000 in
theorem markSeamS_any (B : Nat) (v : Value) (xs : List Seam) (m : Int) (w : World) (hO : Own B w 36 v xs) (hlx : xs.length ≤ 4294967296) (h0 : 0 ≤ m) (h1 : m ≤ 4294967296) :
    Calls Try.prog 41 #[v, .int .i64 m] w fun e w' => e = .returned (.int .i64 (m + 4 * xs.length)) ∧ Own B w' 36 v (marksSeam m xs.length) ∧ w.grownBy w' v.ownBlock := by
  rcases hO.cases with ⟨rfl, rfl⟩ | ⟨g, cap, rfl⟩
  · go_enter Try.func41, Try.ntmps41
    go_wp2
    refine wp_loop_rounds 1 ?_
    rw [rounds_succ]
    go_wp2
    go_ret
    exact ⟨ret_int (by simp), hO, World.grownBy.refl _ _⟩
  · go_enter Try.func41, Try.ntmps41
    go_wp2
    go_loopw [1, 5] (fun q i wr => ∃ k : Nat, k ≤ xs.length ∧ i = .int .i64 k ∧ q = .int .i64 (m + 4 * k) ∧ Own B wr 36 (.slice (some ⟨g, 0, none⟩) xs.length cap) (over (marksSeam m xs.length) xs k) ∧ w.grownBy wr (some g)) (fun _ i _ => xs.length - (intOf i).toNat)
    case atStart => exact ⟨0, Nat.zero_le _, rfl, by go_num, by rw [over_zero]; exact hO, World.grownBy.refl _ _⟩
    case round =>
      obtain ⟨k, hk, rfl, rfl, hO, hg⟩ := hrel
      by_cases hlt : k < xs.length
      · have hlt' : k < (over (marksSeam m xs.length) xs k).length := by rw [over_length _ _ _ (marksSeam_length _ _)]; exact hlt
        have hO0 : Own B wr 36 (.slice (some ⟨g, 0, none⟩) xs.length cap) ((over (marksSeam m xs.length) xs k).set k (over (marksSeam m xs.length) xs k)[k]) := by rw [List.set_getElem_self]; exact hO
        go_wp2_with (first | (refine wpList_store_field rfl 2 (.tmp 16) (.tmp 14) rfl B 36 _ _ _ (over (marksSeam m xs.length) xs k) k _ 0 (⟨(over (marksSeam m xs.length) xs k)[k].A, (over (marksSeam m xs.length) xs k)[k].EdgeA, (over (marksSeam m xs.length) xs k)[k].B, (over (marksSeam m xs.length) xs k)[k].EdgeB⟩ : Seam) (⟨m + 4 * (k : Int), (over (marksSeam m xs.length) xs k)[k].EdgeA, (over (marksSeam m xs.length) xs k)[k].B, (over (marksSeam m xs.length) xs k)[k].EdgeB⟩ : Seam) _ rfl (by simp [Flat.k]) (by decide) rfl rfl rfl (by kernel_rfl) (over_length _ _ _ (marksSeam_length _ _)).symm hO0 hlt' ?_; intro w1 hO1 hg1) | (refine wpList_store_field rfl 2 (.tmp 23) (.tmp 21) rfl B 36 _ _ _ (over (marksSeam m xs.length) xs k) k _ 1 (⟨m + 4 * (k : Int), (over (marksSeam m xs.length) xs k)[k].EdgeA, (over (marksSeam m xs.length) xs k)[k].B, (over (marksSeam m xs.length) xs k)[k].EdgeB⟩ : Seam) (⟨m + 4 * (k : Int), m + 4 * (k : Int) + 1, (over (marksSeam m xs.length) xs k)[k].B, (over (marksSeam m xs.length) xs k)[k].EdgeB⟩ : Seam) _ rfl (by simp [Flat.k]) (by decide) rfl rfl rfl (by kernel_rfl) (over_length _ _ _ (marksSeam_length _ _)).symm hO1 hlt' ?_; intro w2 hO2 hg2) | (refine wpList_store_field rfl 2 (.tmp 30) (.tmp 28) rfl B 36 _ _ _ (over (marksSeam m xs.length) xs k) k _ 2 (⟨m + 4 * (k : Int), m + 4 * (k : Int) + 1, (over (marksSeam m xs.length) xs k)[k].B, (over (marksSeam m xs.length) xs k)[k].EdgeB⟩ : Seam) (⟨m + 4 * (k : Int), m + 4 * (k : Int) + 1, m + 4 * (k : Int) + 1 + 1, (over (marksSeam m xs.length) xs k)[k].EdgeB⟩ : Seam) _ rfl (by simp [Flat.k]) (by decide) rfl rfl rfl (by kernel_rfl) (over_length _ _ _ (marksSeam_length _ _)).symm hO2 hlt' ?_; intro w3 hO3 hg3) | (refine wpList_store_field rfl 2 (.tmp 37) (.tmp 35) rfl B 36 _ _ _ (over (marksSeam m xs.length) xs k) k _ 3 (⟨m + 4 * (k : Int), m + 4 * (k : Int) + 1, m + 4 * (k : Int) + 1 + 1, (over (marksSeam m xs.length) xs k)[k].EdgeB⟩ : Seam) (⟨m + 4 * (k : Int), m + 4 * (k : Int) + 1, m + 4 * (k : Int) + 1 + 1, m + 4 * (k : Int) + 1 + 1 + 1⟩ : Seam) _ rfl (by simp [Flat.k]) (by decide) rfl rfl rfl (by kernel_rfl) (over_length _ _ _ (marksSeam_length _ _)).symm hO3 hlt' ?_; intro w4 hO4 hg4))
        go_roundw
        case rel => exact ⟨k + 1, by omega, by go_num, by go_num, by rw [← over_succ _ _ _ (marksSeam_length _ _) (by rw [marksSeam_length]; exact hlt), marksSeam_get]; exact hO4, grownBy_trans (grownBy_trans (grownBy_trans (grownBy_trans (hg) hg1) hg2) hg3) hg4⟩
        case measure => simp [intOf]; omega
      · go_wp2
        go_ret
        obtain rfl : k = xs.length := by omega
        exact ⟨rfl, by rw [over_full _ _ (marksSeam_length _ _) (Nat.le_refl _)] at hO; exact hO, hg⟩

set_option maxRecDepth 100000 in
set_option maxHeartbeats 1000000 in
theorem heldSeamS_any (a : Option Addr) (c0 c : Nat) (m : Int) (w : World) (hx : At w a (marksSeam m c0)) (hn : c0 ≤ 4294967296) (h0 : 0 ≤ m) (h1 : m ≤ 4294967296) :
    Calls Try.prog 43 #[.slice a c0 c, .int .i64 m] w fun e w' => e = .returned (.int .i64 (m + 4 * c0)) ∧ Below w.heap.size w w' := by
  go_enter Try.func43, Try.ntmps43
  go_wp2
  go_loopw [1, 5] (fun q i wr => ∃ k : Nat, k ≤ c0 ∧ i = .int .i64 k ∧ q = .int .i64 (m + 4 * k) ∧ Below w.heap.size w wr) (fun _ i _ => c0 - (intOf i).toNat)
  case atStart => exact ⟨0, Nat.zero_le _, rfl, by go_num, Below.refl _ _⟩
  case round =>
    obtain ⟨k, hk, rfl, rfl, hb⟩ := hrel
    by_cases hlt : k < c0
    · have hlt' : k < (marksSeam m c0).length := by rw [marksSeam_length]; exact hlt
      have hx := hx.below hb
      obtain ⟨b, off, rfl⟩ := hx.addr hlt'
      have cc := hx.seam hlt'
      rw [marksSeam_get] at cc
      obtain ⟨c0, c1, c2, c3⟩ := cc
      go_wp2
      go_roundw
      case rel => exact ⟨k + 1, by omega, by go_num, by go_num, hb⟩
      case measure => simp [intOf]; omega
    · go_wp2
      go_ret
      obtain rfl : k = c0 := by omega
      exact ⟨rfl, hb⟩

theorem cloneSeams_any (a : Option Addr) (xs : List Seam) (c : Nat) (w : World) (hx : At w a xs) (hl : xs.length ≤ 4294967296) (hc : a = none → c = 0) :
    Calls Try.prog 36 #[.slice a xs.length c] w fun e w' => ∃ v, e = .returned v ∧ Own w.heap.size w' 36 v xs ∧ Below w.heap.size w w' := by
  have hq := fun w a n c => Lib.run_eql_slice_nil (P := Try.prog) w 30 36 a n c 0 0 Try.underlying30
  cases a with
  | none =>
    have hy : xs = [] := by
      rcases hx with h | ⟨b, off, h, _⟩
      · exact h
      · cases h
    subst hy
    go_enter Try.func36, Try.ntmps36
    go_wp2
    go_ret
    exact ⟨_, rfl, World.ownsRow_nil _ _ _ _, Below.refl _ _⟩
  | some ad =>
    go_enter Try.func36, Try.ntmps36
    go_wp2_with (at_builtin; refine wpList_pushall rfl (.tmp 5) (.tmp 6) 30 rfl w.heap.size 36 (.agg #[.int .i64 0, .int .i64 0, .int .i64 0, .int .i64 0]) 32 Try.underlying30 infoSeam rfl _ [] xs rfl (own_new _ _) _ _ rfl (fun h => by cases h) (hx.below ((Below.refl _ _).alloc (Nat.le_refl _) _)) (by simp; omega) (by decide) (by simp) ?_; intro v1 w1 hO1 hg1)
    go_ret
    exact ⟨_, rfl, by simpa using hO1, ((Below.refl _ _).alloc (Nat.le_refl _) _).grown hg1 (by simp) (fun k hk => by have : w.heap.size = k := Option.some.inj hk; omega)⟩

theorem opens_lseam : Opens Try.prog 27 Seam := by
  intro H enc w fuel cs x h
  obtain ⟨hl, n, hf⟩ := trod_fields Try.underlying27 (by kernel_rfl) h
  match cs, hl with
  | [v0, v1, v2, v3], _ =>
    obtain ⟨y0, g0⟩ := hf 0 _ v0 rfl rfl
    obtain ⟨z0, r0, k0⟩ := opens_int Try.underlying2 g0
    obtain ⟨y1, g1⟩ := hf 1 _ v1 rfl rfl
    obtain ⟨z1, r1, k1⟩ := opens_int Try.underlying2 g1
    obtain ⟨y2, g2⟩ := hf 2 _ v2 rfl rfl
    obtain ⟨z2, r2, k2⟩ := opens_int Try.underlying2 g2
    obtain ⟨y3, g3⟩ := hf 3 _ v3 rfl rfl
    obtain ⟨z3, r3, k3⟩ := opens_int Try.underlying2 g3
    cases r0; cases r1; cases r2; cases r3
    exact ⟨⟨z0, z1, z2, z3⟩, rfl, k0, k1, k2, k3⟩
set_option maxRecDepth 100000 in
theorem open_lseam {H : Type} {enc : TypeId × Value → H} {w : World} {r : Reach} {b0 : Nat} {v : Value} {d : DataW H} {p : List MemPlace} (hv : Value.okWide Try.prog w r b0 27 v) (h : DataW.Trod enc Try.prog w 0 (fun _ => true) true 27 v d p) :
    ∃ x : Seam, v = .agg #[.int .i64 x.A, .int .i64 x.EdgeA, .int .i64 x.B, .int .i64 x.EdgeB] ∧ Rep.ok x := by
  obtain ⟨cs, rfl, _⟩ := Go.WideShapes.okWide_struct Try.underlying27 hv
  obtain ⟨fuel, hf⟩ := h
  obtain ⟨x, hr, hk⟩ := opens_lseam hf
  have hr' : cs.toList = Flat.el x := hr
  have : cs = (Flat.el x).toArray := by rw [← hr']
  subst this
  exact ⟨x, rfl, hk⟩
theorem opens_lseams : Opens Try.prog 23 (List Seam) := opens_slice Try.underlying23 (by kernel_rfl) opens_lseam
end Go.Proofs.Ytlmhiocmldhkhaa
