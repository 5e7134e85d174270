/- Strip: the type, how it lies in cells, and what the functions on it and on lists of it compute. (Printed by wip/genflat.py.) -/
import Derived.Test.YtmpjdijmihnadaaRows
import Derived.Test.YtmpjdijmihnadaaBase
namespace Go.Proofs.Ytmpjdijmihnadaa
open Go.RowKit

@[ext] structure Strip where
  Length : Int
  Allow : Int
  Left : Int
  Right : Int
deriving DecidableEq

instance : Flat Strip := ⟨4, by decide, fun s => [.int .i64 s.Length, .int .i64 s.Allow, .int .i64 s.Left, .int .i64 s.Right], fun _ => rfl, fun x u h => by simp at h; rcases h with h | h | h | h <;> subst h <;> rfl, fun s => (-9223372036854775808 ≤ s.Length ∧ s.Length ≤ 9223372036854775807) ∧ (-9223372036854775808 ≤ s.Allow ∧ s.Allow ≤ 9223372036854775807) ∧ (-9223372036854775808 ≤ s.Left ∧ s.Left ≤ 9223372036854775807) ∧ (-9223372036854775808 ≤ s.Right ∧ s.Right ≤ 9223372036854775807)⟩

theorem At.strip {w : World} {b off : Nat} {xs : List Strip} (h : At w (some ⟨b, off, none⟩) xs) {i : Nat} (hi : i < xs.length) :
    w.cell? ⟨b, off + i * 4, none⟩ = some (.int .i64 xs[i].Length) ∧ w.cell? ⟨b, off + i * 4 + 1, none⟩ = some (.int .i64 xs[i].Allow) ∧ w.cell? ⟨b, off + i * 4 + 2, none⟩ = some (.int .i64 xs[i].Left) ∧ w.cell? ⟨b, off + i * 4 + 3, none⟩ = some (.int .i64 xs[i].Right) := by
  obtain ⟨cs, hr, hc⟩ := h.elem hi
  have h0 := hc 0 (.int .i64 xs[i].Length) (by rw [hr]; rfl)
  have h1 := hc 1 (.int .i64 xs[i].Allow) (by rw [hr]; rfl)
  have h2 := hc 2 (.int .i64 xs[i].Left) (by rw [hr]; rfl)
  have h3 := hc 3 (.int .i64 xs[i].Right) (by rw [hr]; rfl)
  exact ⟨by simpa [Rep.k, Flat.k] using h0, by simpa [Rep.k, Flat.k] using h1, by simpa [Rep.k, Flat.k] using h2, by simpa [Rep.k, Flat.k] using h3⟩

theorem strip_eq (p q : Strip) : (p == q) = (p.Length == q.Length && p.Allow == q.Allow && p.Left == q.Left && p.Right == q.Right) := by
  cases p; cases q; rw [Bool.eq_iff_iff]; simp [Strip.mk.injEq, and_assoc]

theorem strip_neq (length1 length2 : Int) (allow1 allow2 : Int) (left1 left2 : Int) (right1 right2 : Int) (w : World) : (binOp .neq 60 (.agg #[.int .i64 length1, .int .i64 allow1, .int .i64 left1, .int .i64 right1]) (.agg #[.int .i64 length2, .int .i64 allow2, .int .i64 left2, .int .i64 right2])).run Try.prog w = .ok (.bool (!((⟨length1, allow1, left1, right1⟩ : Strip) == ⟨length2, allow2, left2, right2⟩))) w := by
  by_cases h0 : length1 = length2 <;> by_cases h1 : allow1 = allow2 <;> by_cases h2 : left1 = left2 <;> by_cases h3 : right1 = right2 <;> simp [go_sem, h0, h1, h2, h3, strip_eq]
theorem strip_eql (length1 length2 : Int) (allow1 allow2 : Int) (left1 left2 : Int) (right1 right2 : Int) (w : World) : (binOp .eql 60 (.agg #[.int .i64 length1, .int .i64 allow1, .int .i64 left1, .int .i64 right1]) (.agg #[.int .i64 length2, .int .i64 allow2, .int .i64 left2, .int .i64 right2])).run Try.prog w = .ok (.bool (((⟨length1, allow1, left1, right1⟩ : Strip) == ⟨length2, allow2, left2, right2⟩))) w := by
  by_cases h0 : length1 = length2 <;> by_cases h1 : allow1 = allow2 <;> by_cases h2 : left1 = left2 <;> by_cases h3 : right1 = right2 <;> simp [go_sem, h0, h1, h2, h3, strip_eq]

/-- The cells of a new variable. -/
theorem newStrip_cells (w : World) (t : TypeId) (s : Strip) : (w.alloc (.cells #[.int .i64 s.Length, .int .i64 s.Allow, .int .i64 s.Left, .int .i64 s.Right] t)).cell? ⟨w.heap.size, 0, none⟩ = some (.int .i64 s.Length) ∧ (w.alloc (.cells #[.int .i64 s.Length, .int .i64 s.Allow, .int .i64 s.Left, .int .i64 s.Right] t)).cell? ⟨w.heap.size, 1, none⟩ = some (.int .i64 s.Allow) ∧ (w.alloc (.cells #[.int .i64 s.Length, .int .i64 s.Allow, .int .i64 s.Left, .int .i64 s.Right] t)).cell? ⟨w.heap.size, 2, none⟩ = some (.int .i64 s.Left) ∧ (w.alloc (.cells #[.int .i64 s.Length, .int .i64 s.Allow, .int .i64 s.Left, .int .i64 s.Right] t)).cell? ⟨w.heap.size, 3, none⟩ = some (.int .i64 s.Right) := by
  refine ⟨?_, ?_, ?_, ?_⟩ <;> go_simp

theorem toStrip_any (length : Int) (allow : Int) (left : Int) (right : Int) (w : World) :
    Calls Try.prog 43 #[.agg #[.int .i64 length, .int .i64 allow, .int .i64 left, .int .i64 right]] w fun e w' => e = .returned (.agg #[.int .i64 length, .int .i64 allow, .int .i64 left, .int .i64 right]) ∧ Below w.heap.size w w' := by
  go_enter Try.func43, Try.ntmps43
  go_wp2
  refine bodyPost_ret (v := .agg #[.int .i64 length, .int .i64 allow, .int .i64 left, .int .i64 right]) (by simp [results, Try.results43, go_sem]) rfl ⟨rfl, ?_⟩
  exact (((Below.refl _ _).alloc (by simp) _).alloc (by simp) _).alloc (by simp; omega) _

theorem eqStrip_any (p q : Strip) (w : World) :
    Calls Try.prog 46 #[.agg #[.int .i64 p.Length, .int .i64 p.Allow, .int .i64 p.Left, .int .i64 p.Right], .agg #[.int .i64 q.Length, .int .i64 q.Allow, .int .i64 q.Left, .int .i64 q.Right]] w fun e w' => e = .returned (.bool (p == q)) ∧ Below w.heap.size w w' := by
  rw [strip_eq]
  go_enter Try.func46, Try.ntmps46
  go_wp2
  all_goals go_ret
  all_goals refine ⟨?_, ((Below.refl _ _).alloc (by simp) _).alloc (by simp) _⟩
  all_goals simp_all

theorem szStripS_ok (a : Option Addr) (n c : Nat) (l : Int) (w : World) (hn : (n : Int) ≤ l) (hl' : l ≤ 1048576) :
    Calls Try.prog 9 #[.slice a n c, .int .i64 l] w fun e w' => e = .returned (.int .i64 (l - n)) ∧ Below w.heap.size w w' := by
  go_enter Try.func9, Try.ntmps9
  go_wp2
  go_ret
  exact ⟨rfl, Below.refl _ _⟩
theorem szStripS_no (a : Option Addr) (n c : Nat) (l : Int) (w : World) (hn : n ≤ 9223372036854775807) (h : l < n) (h0 : 0 ≤ l) :
    Calls Try.prog 9 #[.slice a n c, .int .i64 l] w fun e w' => e = .returned (.int .i64 (-1)) ∧ Below w.heap.size w w' := by
  go_enter Try.func9, Try.ntmps9
  go_wp2
  go_ret
  exact ⟨rfl, Below.refl _ _⟩

set_option maxHeartbeats 400000 in
theorem eqStripS_any (a a' : Option Addr) (xs ys : List Strip) (c c' : Nat) (w : World) (hx : At w a xs) (hy : At w a' ys)
   (hlx : xs.length ≤ 9223372036854775807) (hly : ys.length ≤ 9223372036854775807) :
    Calls Try.prog 13 #[.slice a xs.length c, .slice a' ys.length c'] w fun e w' => e = .returned (.bool (xs == ys)) ∧ Below w.heap.size w w' := by
  by_cases hl : xs.length = ys.length
  · have hne : ((xs.length : Int) != ys.length) = false := by simp [hl]
    have HL := Lib.hid hl
    clear hl hly
    go_enter Try.func13, Try.ntmps13
    go_wp2
    go_loopw [5] (fun i wr => ∃ k : Nat, k ≤ xs.length ∧ i = .int .i64 k ∧ Upto xs ys k ∧ Below w.heap.size w wr) (fun i _ => xs.length - (intOf i).toNat)
    case atStart => exact ⟨0, Nat.zero_le _, rfl, upto_zero, Below.refl _ _⟩
    case round =>
      obtain ⟨k, hk, rfl, heq, hb⟩ := hrel
      have HE := Lib.hid heq
      clear heq
      have hx := hx.below hb
      have hy := hy.below hb
      by_cases hlt : k < xs.length
      · have hlt' : k < ys.length := by rw [← HL.out]; exact hlt
        obtain ⟨b, off, rfl⟩ := hx.addr hlt
        obtain ⟨b', off', rfl⟩ := hy.addr hlt'
        obtain ⟨c0, c1, c2, c3⟩ := hx.strip hlt
        obtain ⟨d0, d1, d2, d3⟩ := hy.strip hlt'
        have c0 := rg c0
        have d0 := rg d0
        have c1 := rg c1
        have d1 := rg d1
        have c2 := rg c2
        have d2 := rg d2
        have c3 := rg c3
        have d3 := rg d3
        go_wp2
        refine wp_region_quiet_below (by kernel_rfl) (by kernel_rfl) ?_
        repeat (go_big_quiet_step ((go_at_call 46; exact Calls.regrown_of (eqStrip_any _ _ _))))
        refine wpQuiet_nil ?_
        intro w2 hw'
        have hb := upw hb (grown_of hw')
        clear hw'
        go_wp2
        · have he : (!xs[k] == ys[k]) = true := by assumption
          go_ret
          exact ⟨ret_bool (beq_of_ne hlt hlt' (by simpa using he)).symm, hb⟩
        · have he : (!xs[k] == ys[k]) = false := by assumption
          go_roundw
          case rel => exact ⟨k + 1, by omega, by go_num, upto_succ HE.out (by simpa using he), hb⟩
          case measure => simp [intOf]; omega
      · go_wp2
        go_ret
        exact ⟨ret_bool (beq_of_upto HL.out (by omega) HE.out).symm, hb⟩
  · have hne : ((xs.length : Int) != ys.length) = true := by simp; omega
    go_enter Try.func13, Try.ntmps13
    go_wp2
    go_ret
    exact ⟨ret_bool (beq_of_len hl).symm, Below.refl _ _⟩

theorem eqStripS_same (a a' : Option Addr) (xs : List Strip) (c c' : Nat) (w : World) (hx : At w a xs) (hy : At w a' xs) (hl : xs.length ≤ 9223372036854775807) :
    Calls Try.prog 13 #[.slice a xs.length c, .slice a' xs.length c'] w fun e w' => e = .returned (.bool true) ∧ Below w.heap.size w w' := by
  simpa using eqStripS_any a a' xs xs c c' w hx hy hl hl
set_option maxHeartbeats 400000 in
theorem indexStrips_any (a : Option Addr) (xs : List Strip) (c : Nat) (K : Nat) (cap : Array Value) (p : Strip → Bool) (w : World) (hK : Enters Try.prog K) (hx : At w a xs) (hl : xs.length ≤ 9223372036854775807)
    (hf : ∀ x ∈ xs, ∀ w', Below w.heap.size w w' → Calls Try.prog K (#[.agg #[.int .i64 x.Length, .int .i64 x.Allow, .int .i64 x.Left, .int .i64 x.Right]] ++ cap) w' fun e w'' => e = .returned (.bool (p x)) ∧ Below w'.heap.size w' w'') :
    Calls Try.prog 78 #[.slice a xs.length c, .func (.func K) #[] cap] w fun e w' => e = .returned (.int .i64 (firstIdx p xs)) ∧ Below w.heap.size w w' := by
  have HF := Lib.hid hf
  clear hf
  unfold Enters at hK
  go_enter Try.func78, Try.ntmps78
  go_wp2
  go_loopw [8] (fun i wr => ∃ k : Nat, k ≤ xs.length ∧ i = .int .i64 k ∧ Nosofar p xs k ∧ Below w.heap.size w wr) (fun i _ => xs.length - (intOf i).toNat)
  case atStart => exact ⟨0, Nat.zero_le _, rfl, nosofar_zero, Below.refl _ _⟩
  case round =>
    obtain ⟨k, hk, rfl, hs, hb⟩ := hrel
    have HS := Lib.hid hs
    clear hs
    replace hx := hx.below hb
    by_cases hlt : k < xs.length
    · obtain ⟨b, off, rfl⟩ := hx.addr hlt
      obtain ⟨c0, c1, c2, c3⟩ := hx.strip hlt
      cases hp : p xs[k]
      · go_wp2_with fail
        refine (HF.out _ (List.getElem_mem hlt) _ hb).mono ?_
        rintro e w2 ⟨rfl, hb2⟩
        replace hb := upw hb hb2
        go_wp2_with fail
        go_roundw
        case rel => exact ⟨k + 1, by omega, by go_num, nosofar_succ HS.out hp, hb⟩
        case measure => simp [intOf]; omega
      · go_wp2_with fail
        refine (HF.out _ (List.getElem_mem hlt) _ hb).mono ?_
        rintro e w2 ⟨rfl, hb2⟩
        replace hb := upw hb hb2
        go_wp2_with fail
        go_ret
        exact ⟨ret_int (firstIdx_some hlt HS.out hp).symm, hb⟩
    · go_wp2
      go_ret
      exact ⟨ret_int (firstIdx_none (by omega) HS.out).symm, hb⟩
theorem containsStrips_any (a : Option Addr) (xs : List Strip) (c : Nat) (K : Nat) (cap : Array Value) (p : Strip → Bool) (w : World) (hK : Enters Try.prog K) (hx : At w a xs) (hl : xs.length ≤ 9223372036854775807)
    (hf : ∀ x ∈ xs, ∀ w', Below w.heap.size w w' → Calls Try.prog K (#[.agg #[.int .i64 x.Length, .int .i64 x.Allow, .int .i64 x.Left, .int .i64 x.Right]] ++ cap) w' fun e w'' => e = .returned (.bool (p x)) ∧ Below w'.heap.size w' w'') :
    Calls Try.prog 71 #[.slice a xs.length c, .func (.func K) #[] cap] w fun e w' => e = .returned (.bool (xs.any p)) ∧ Below w.heap.size w w' := by
  have HF := Lib.hid hf
  clear hf
  go_enter Try.func71, Try.ntmps71
  go_wp2_with fail
  refine (indexStrips_any _ _ _ _ _ _ _ hK hx hl HF.out).mono ?_
  rintro e w2 ⟨rfl, hb⟩
  go_wp2_with fail
  go_ret
  exact ⟨ret_bool (firstIdx_pos p xs), hb⟩

theorem infoStrip : (Try.prog.info? 60).map (fun i => (i.zero, i.size, i.bytes)) = some (some (.agg #[.int .i64 0, .int .i64 0, .int .i64 0, .int .i64 0]), 4, 32) := by kernel_rfl

set_option maxHeartbeats 400000 in
theorem toStripS_any (a : Option Addr) (xs : List Strip) (c : Nat) (w : World) (hx : At w a xs) (hlx : xs.length ≤ 1048576) :
    Calls Try.prog 11 #[.slice a xs.length c] w fun e w' => ∃ v, e = .returned v ∧ Own w.heap.size w' 60 v xs ∧ Below w.heap.size w w' := by
  obtain ⟨i0, hi, hz0, hz1, hz2⟩ := info_parts infoStrip
  go_enter Try.func11, Try.ntmps11
  go_wp2_with (at_make; refine wpList_make_full _ rfl (.tmp 6) (.tmp 6) 26 rfl w.heap.size 60 i0 (.agg #[.int .i64 0, .int .i64 0, .int .i64 0, .int .i64 0]) 4 Try.underlying26 hi hz0 hz1 .i64 .i64 _ _ xs.length rfl rfl rfl rfl (by rw [hz2]; omega) (by unfold maxLen; omega) (Nat.le_refl _) ?_; intro w1 hown hg)
  have hb1 : Below w.heap.size w w1 := (Below.refl _ _).grown hg (Nat.le_refl _) (by simp)
  have HO : Own w.heap.size w1 60 (.slice (some ⟨w.heap.size, 0, none⟩) xs.length xs.length) (filled ⟨0, 0, 0, 0⟩ xs 0) := by
    rw [filled_zero]; unfold Own; rw [List.length_replicate, ← made_flat (⟨0, 0, 0, 0⟩ : Strip) _ rfl]; exact hown
  clear hown hg
  go_loopw [4] (fun i wr => ∃ k : Nat, k ≤ xs.length ∧ i = .int .i64 k ∧ Own w.heap.size wr 60 (.slice (some ⟨w.heap.size, 0, none⟩) xs.length xs.length) (filled ⟨0, 0, 0, 0⟩ xs k) ∧ Below w.heap.size w wr) (fun i _ => xs.length - (intOf i).toNat)
  case atStart => exact ⟨0, Nat.zero_le _, rfl, HO, hb1⟩
  case round =>
    obtain ⟨k, hk, rfl, hO, hb⟩ := hrel
    by_cases hlt : k < xs.length
    · have hx := hx.below hb
      obtain ⟨b, off, rfl⟩ := hx.addr hlt
      obtain ⟨c0, c1, c2, c3⟩ := hx.strip hlt
      go_wp2_with (first | (go_at_call 43; refine (toStrip_any _ _ _ _ _).mono ?_; rintro e w2 ⟨rfl, hb2⟩) | (refine wpList_store_own rfl 60 (.tmp 21) (.tmp 20) rfl w.heap.size 60 _ _ _ (filled (⟨0, 0, 0, 0⟩ : Strip) xs k) k _ xs[k] rfl rfl rfl (by kernel_rfl) (filled_length _ _ _ hk).symm (hO.later hb2) (by rw [filled_length _ _ _ hk]; exact hlt) ?_; intro w3 hO3 hg3))
      go_roundw
      case rel => exact ⟨k + 1, by omega, by go_num, by rw [← filled_succ _ _ _ hlt]; exact hO3, (upw hb hb2).grown hg3 (upw hb hb2).size (by simp)⟩
      case measure => simp [intOf]; omega
    · go_wp2
      go_ret
      exact ⟨_, rfl, by rw [filled_full _ _ (by omega)] at hO; exact hO, hb⟩

theorem strip_marks (m : Int) (c i : Nat) (h : i < (gen c fun i => (⟨m + 4 * (i : Int), m + 4 * (i : Int) + 1, m + 4 * (i : Int) + 1 + 1, m + 4 * (i : Int) + 1 + 1 + 1⟩ : Strip)).length) : (gen c fun i => (⟨m + 4 * (i : Int), m + 4 * (i : Int) + 1, m + 4 * (i : Int) + 1 + 1, m + 4 * (i : Int) + 1 + 1 + 1⟩ : Strip))[i] = ⟨m + 4 * (i : Int), m + 4 * (i : Int) + 1, m + 4 * (i : Int) + 1 + 1, m + 4 * (i : Int) + 1 + 1 + 1⟩ := gen_get _ _ _ _
/-- Strip that bear the marks m, m + 1, .. -/
def marksStrip (m : Int) (c : Nat) : List Strip := gen c fun i => ⟨m + 4 * (i : Int), m + 4 * (i : Int) + 1, m + 4 * (i : Int) + 1 + 1, m + 4 * (i : Int) + 1 + 1 + 1⟩
theorem marksStrip_length (m : Int) (c : Nat) : (marksStrip m c).length = c := gen_length _ _
theorem marksStrip_get (m : Int) (c i : Nat) (h : i < (marksStrip m c).length) : (marksStrip m c)[i] = ⟨m + 4 * (i : Int), m + 4 * (i : Int) + 1, m + 4 * (i : Int) + 1 + 1, m + 4 * (i : Int) + 1 + 1 + 1⟩ := gen_get _ _ _ _
set_option maxHeartbeats 1000000 in
theorem markStripS_any (B : Nat) (v : Value) (xs : List Strip) (m : Int) (w : World) (hO : Own B w 60 v xs) (hlx : xs.length ≤ 4294967296) (h0 : 0 ≤ m) (h1 : m ≤ 4294967296) :
    Calls Try.prog 24 #[v, .int .i64 m] w fun e w' => e = .returned (.int .i64 (m + 4 * xs.length)) ∧ Own B w' 60 v (marksStrip m xs.length) ∧ w.grownBy w' v.ownBlock := by
  rcases hO.cases with ⟨rfl, rfl⟩ | ⟨g, cap, rfl⟩
  · go_enter Try.func24, Try.ntmps24
    go_wp2
    refine wp_loop_rounds 1 ?_
    rw [rounds_succ]
    go_wp2
    go_ret
    exact ⟨ret_int (by simp), hO, World.grownBy.refl _ _⟩
  · go_enter Try.func24, Try.ntmps24
    go_wp2
    go_loopw [1, 5] (fun q i wr => ∃ k : Nat, k ≤ xs.length ∧ i = .int .i64 k ∧ q = .int .i64 (m + 4 * k) ∧ Own B wr 60 (.slice (some ⟨g, 0, none⟩) xs.length cap) (over (marksStrip m xs.length) xs k) ∧ w.grownBy wr (some g)) (fun _ i _ => xs.length - (intOf i).toNat)
    case atStart => exact ⟨0, Nat.zero_le _, rfl, by go_num, by rw [over_zero]; exact hO, World.grownBy.refl _ _⟩
    case round =>
      obtain ⟨k, hk, rfl, rfl, hO, hg⟩ := hrel
      by_cases hlt : k < xs.length
      · have hlt' : k < (over (marksStrip m xs.length) xs k).length := by rw [over_length _ _ _ (marksStrip_length _ _)]; exact hlt
        have hO0 : Own B wr 60 (.slice (some ⟨g, 0, none⟩) xs.length cap) ((over (marksStrip m xs.length) xs k).set k (over (marksStrip m xs.length) xs k)[k]) := by rw [List.set_getElem_self]; exact hO
        go_wp2_with (first | (refine wpList_store_field rfl 2 (.tmp 16) (.tmp 14) rfl B 60 _ _ _ (over (marksStrip m xs.length) xs k) k _ 0 (⟨(over (marksStrip m xs.length) xs k)[k].Length, (over (marksStrip m xs.length) xs k)[k].Allow, (over (marksStrip m xs.length) xs k)[k].Left, (over (marksStrip m xs.length) xs k)[k].Right⟩ : Strip) (⟨m + 4 * (k : Int), (over (marksStrip m xs.length) xs k)[k].Allow, (over (marksStrip m xs.length) xs k)[k].Left, (over (marksStrip m xs.length) xs k)[k].Right⟩ : Strip) _ rfl (by simp [Flat.k]) (by decide) rfl rfl rfl (by kernel_rfl) (over_length _ _ _ (marksStrip_length _ _)).symm hO0 hlt' ?_; intro w1 hO1 hg1) | (refine wpList_store_field rfl 2 (.tmp 23) (.tmp 21) rfl B 60 _ _ _ (over (marksStrip m xs.length) xs k) k _ 1 (⟨m + 4 * (k : Int), (over (marksStrip m xs.length) xs k)[k].Allow, (over (marksStrip m xs.length) xs k)[k].Left, (over (marksStrip m xs.length) xs k)[k].Right⟩ : Strip) (⟨m + 4 * (k : Int), m + 4 * (k : Int) + 1, (over (marksStrip m xs.length) xs k)[k].Left, (over (marksStrip m xs.length) xs k)[k].Right⟩ : Strip) _ rfl (by simp [Flat.k]) (by decide) rfl rfl rfl (by kernel_rfl) (over_length _ _ _ (marksStrip_length _ _)).symm hO1 hlt' ?_; intro w2 hO2 hg2) | (refine wpList_store_field rfl 2 (.tmp 30) (.tmp 28) rfl B 60 _ _ _ (over (marksStrip m xs.length) xs k) k _ 2 (⟨m + 4 * (k : Int), m + 4 * (k : Int) + 1, (over (marksStrip m xs.length) xs k)[k].Left, (over (marksStrip m xs.length) xs k)[k].Right⟩ : Strip) (⟨m + 4 * (k : Int), m + 4 * (k : Int) + 1, m + 4 * (k : Int) + 1 + 1, (over (marksStrip m xs.length) xs k)[k].Right⟩ : Strip) _ rfl (by simp [Flat.k]) (by decide) rfl rfl rfl (by kernel_rfl) (over_length _ _ _ (marksStrip_length _ _)).symm hO2 hlt' ?_; intro w3 hO3 hg3) | (refine wpList_store_field rfl 2 (.tmp 37) (.tmp 35) rfl B 60 _ _ _ (over (marksStrip m xs.length) xs k) k _ 3 (⟨m + 4 * (k : Int), m + 4 * (k : Int) + 1, m + 4 * (k : Int) + 1 + 1, (over (marksStrip m xs.length) xs k)[k].Right⟩ : Strip) (⟨m + 4 * (k : Int), m + 4 * (k : Int) + 1, m + 4 * (k : Int) + 1 + 1, m + 4 * (k : Int) + 1 + 1 + 1⟩ : Strip) _ rfl (by simp [Flat.k]) (by decide) rfl rfl rfl (by kernel_rfl) (over_length _ _ _ (marksStrip_length _ _)).symm hO3 hlt' ?_; intro w4 hO4 hg4))
        go_roundw
        case rel => exact ⟨k + 1, by omega, by go_num, by go_num, by rw [← over_succ _ _ _ (marksStrip_length _ _) (by rw [marksStrip_length]; exact hlt), marksStrip_get]; exact hO4, grownBy_trans (grownBy_trans (grownBy_trans (grownBy_trans (hg) hg1) hg2) hg3) hg4⟩
        case measure => simp [intOf]; omega
      · go_wp2
        go_ret
        obtain rfl : k = xs.length := by omega
        exact ⟨rfl, by rw [over_full _ _ (marksStrip_length _ _) (Nat.le_refl _)] at hO; exact hO, hg⟩

set_option maxHeartbeats 1000000 in
theorem heldStripS_any (a : Option Addr) (c0 c : Nat) (m : Int) (w : World) (hx : At w a (marksStrip m c0)) (hn : c0 ≤ 4294967296) (h0 : 0 ≤ m) (h1 : m ≤ 4294967296) :
    Calls Try.prog 25 #[.slice a c0 c, .int .i64 m] w fun e w' => e = .returned (.int .i64 (m + 4 * c0)) ∧ Below w.heap.size w w' := by
  go_enter Try.func25, Try.ntmps25
  go_wp2
  go_loopw [1, 5] (fun q i wr => ∃ k : Nat, k ≤ c0 ∧ i = .int .i64 k ∧ q = .int .i64 (m + 4 * k) ∧ Below w.heap.size w wr) (fun _ i _ => c0 - (intOf i).toNat)
  case atStart => exact ⟨0, Nat.zero_le _, rfl, by go_num, Below.refl _ _⟩
  case round =>
    obtain ⟨k, hk, rfl, rfl, hb⟩ := hrel
    by_cases hlt : k < c0
    · have hlt' : k < (marksStrip m c0).length := by rw [marksStrip_length]; exact hlt
      have hx := hx.below hb
      obtain ⟨b, off, rfl⟩ := hx.addr hlt'
      have cc := hx.strip hlt'
      rw [marksStrip_get] at cc
      obtain ⟨c0, c1, c2, c3⟩ := cc
      go_wp2
      go_roundw
      case rel => exact ⟨k + 1, by omega, by go_num, by go_num, hb⟩
      case measure => simp [intOf]; omega
    · go_wp2
      go_ret
      obtain rfl : k = c0 := by omega
      exact ⟨rfl, hb⟩

theorem cloneStrips_any (a : Option Addr) (xs : List Strip) (c : Nat) (w : World) (hx : At w a xs) (hl : xs.length ≤ 4294967296) (hc : a = none → c = 0) :
    Calls Try.prog 58 #[.slice a xs.length c] w fun e w' => ∃ v, e = .returned v ∧ Own w.heap.size w' 60 v xs ∧ Below w.heap.size w w' := by
  have hq := fun w a n c => Lib.run_eql_slice_nil (P := Try.prog) w 26 60 a n c 0 0 Try.underlying26
  cases a with
  | none =>
    have hy : xs = [] := by
      rcases hx with h | ⟨b, off, h, _⟩
      · exact h
      · cases h
    subst hy
    go_enter Try.func58, Try.ntmps58
    go_wp2
    go_ret
    exact ⟨_, rfl, World.ownsRow_nil _ _ _ _, Below.refl _ _⟩
  | some ad =>
    go_enter Try.func58, Try.ntmps58
    go_wp2_with (at_builtin; refine wpList_pushall rfl (.tmp 5) (.tmp 6) 26 rfl w.heap.size 60 (.agg #[.int .i64 0, .int .i64 0, .int .i64 0, .int .i64 0]) 32 Try.underlying26 infoStrip rfl _ [] xs rfl (own_new _ _) _ _ rfl (fun h => by cases h) (hx.below ((Below.refl _ _).alloc (Nat.le_refl _) _)) (by simp; omega) (by decide) (by simp) ?_; intro v1 w1 hO1 hg1)
    go_ret
    exact ⟨_, rfl, by simpa using hO1, ((Below.refl _ _).alloc (Nat.le_refl _) _).grown hg1 (by simp) (fun k hk => by have : w.heap.size = k := Option.some.inj hk; omega)⟩

theorem opens_lstrip : Opens Try.prog 64 Strip := by
  intro H enc w fuel cs x h
  obtain ⟨hl, n, hf⟩ := trod_fields Try.underlying64 (by kernel_rfl) h
  match cs, hl with
  | [v0, v1, v2, v3], _ =>
    obtain ⟨y0, g0⟩ := hf 0 _ v0 rfl rfl
    obtain ⟨z0, r0, k0⟩ := opens_int Try.underlying2 g0
    obtain ⟨y1, g1⟩ := hf 1 _ v1 rfl rfl
    obtain ⟨z1, r1, k1⟩ := opens_int Try.underlying2 g1
    obtain ⟨y2, g2⟩ := hf 2 _ v2 rfl rfl
    obtain ⟨z2, r2, k2⟩ := opens_int Try.underlying2 g2
    obtain ⟨y3, g3⟩ := hf 3 _ v3 rfl rfl
    obtain ⟨z3, r3, k3⟩ := opens_int Try.underlying2 g3
    cases r0; cases r1; cases r2; cases r3
    exact ⟨⟨z0, z1, z2, z3⟩, rfl, k0, k1, k2, k3⟩
theorem opens_lstrips : Opens Try.prog 22 (List Strip) := opens_slice Try.underlying22 (by kernel_rfl) opens_lstrip
end Go.Proofs.Ytmpjdijmihnadaa
