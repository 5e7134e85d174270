/- Lists of numbers: what the functions on them compute. -/
import Derived.Test.YtlmhiocmldhkhaaRows
import Derived.Test.YtlmhiocmldhkhaaBase
namespace Go.Proofs.Ytlmhiocmldhkhaa
open Go.RowKit

/-- The marks k, k + 1, .. -/
def marks (k : Int) : Nat → List Int
  | 0 => []
  | n + 1 => k :: marks (k + 1) n
theorem marks_length (k : Int) (n : Nat) : (marks k n).length = n := by
  induction n generalizing k with
  | zero => rfl
  | succ n ih => simp [marks, ih]
theorem marks_get (k : Int) (n i : Nat) (h : i < (marks k n).length) : (marks k n)[i] = k + i := by
  induction n generalizing k i with
  | zero => simp [marks] at h
  | succ n ih =>
    cases i with
    | zero => simp [marks]
    | succ i => simp only [marks, List.getElem_cons_succ]; rw [ih]; omega

/-- The first i numbers are marks, the others as they were. -/
def marked (k : Int) (xs : List Int) (i : Nat) : List Int := (marks k xs.length).take i ++ xs.drop i
theorem marked_length (k : Int) (xs : List Int) (i : Nat) : (marked k xs i).length = xs.length := by simp [marked, marks_length]; omega
theorem marked_zero (k : Int) (xs : List Int) : marked k xs 0 = xs := by simp [marked]
theorem marked_full (k : Int) (xs : List Int) {i : Nat} (h : xs.length ≤ i) : marked k xs i = marks k xs.length := by
  unfold marked; rw [List.take_of_length_le (by rw [marks_length]; exact h), List.drop_of_length_le h]; simp
theorem marked_succ (k : Int) (xs : List Int) (i : Nat) (h : i < xs.length) : (marked k xs i).set i (k + i) = marked k xs (i + 1) := by
  have hm : i < (marks k xs.length).length := by rw [marks_length]; exact h
  have hk : ((marks k xs.length).take i).length = i := by simp [marks_length]; omega
  unfold marked
  rw [List.set_append_right _ _ (by omega), hk, Nat.sub_self, List.drop_eq_getElem_cons h, List.set_cons_zero, List.take_succ_eq_append_getElem hm, marks_get, List.append_assoc]
  rfl

theorem szInt64S_ok (a : Option Addr) (n c : Nat) (l : Int) (w : World) (hn : (n : Int) ≤ l) (hl' : l ≤ 1048576) :
    Calls Try.prog 89 #[.slice a n c, .int .i64 l] w fun e w' => e = .returned (.int .i64 (l - n)) ∧ Below w.heap.size w w' := by
  go_enter Try.func89, Try.ntmps89
  go_wp2
  go_ret
  exact ⟨rfl, Below.refl _ _⟩
theorem szInt64S_no (a : Option Addr) (n c : Nat) (l : Int) (w : World) (hn : n ≤ 9223372036854775807) (h : l < n) (h0 : 0 ≤ l) :
    Calls Try.prog 89 #[.slice a n c, .int .i64 l] w fun e w' => e = .returned (.int .i64 (-1)) ∧ Below w.heap.size w w' := by
  go_enter Try.func89, Try.ntmps89
  go_wp2
  go_ret
  exact ⟨rfl, Below.refl _ _⟩

set_option maxHeartbeats 400000 in
theorem eqInt64S_any (a a' : Option Addr) (xs ys : List Int) (c c' : Nat) (w : World) (hx : At w a xs) (hy : At w a' ys)
   (hlx : xs.length ≤ 9223372036854775807) (_hly : ys.length ≤ 9223372036854775807) :
    Calls Try.prog 96 #[.slice a xs.length c, .slice a' ys.length c'] w fun e w' => e = .returned (.bool (xs == ys)) ∧ Below w.heap.size w w' := by
  by_cases hl : xs.length = ys.length
  · have hne : ((xs.length : Int) != ys.length) = false := by simp [hl]
    have HL := Lib.hid hl
    clear hl _hly
    go_enter Try.func96, Try.ntmps96
    go_wp2
    go_loopw [5] (fun i wr => ∃ k : Nat, k ≤ xs.length ∧ i = .int .i64 k ∧ Upto xs ys k ∧ Below w.heap.size w wr) (fun i _ => xs.length - (intOf i).toNat)
    case atStart => exact ⟨0, Nat.zero_le _, rfl, upto_zero, Below.refl _ _⟩
    case round =>
      obtain ⟨k, hk, rfl, heq, hb⟩ := hrel
      have HE := Lib.hid heq
      clear heq
      have hx := hx.below hb
      have hy := hy.below hb
      by_cases hlt : k < xs.length
      · have hlt' : k < ys.length := by rw [← HL.out]; exact hlt
        obtain ⟨b, off, rfl⟩ := hx.addr hlt
        obtain ⟨b', off', rfl⟩ := hy.addr hlt'
        have c0 := rg (hx.int hlt)
        have d0 := rg (hy.int hlt')
        go_wp2
        refine wp_region_quiet_below (by kernel_rfl) (by kernel_rfl) ?_
        repeat (go_big_quiet_step (fail))
        refine wpQuiet_nil ?_
        intro w2 hw'
        have hb := upw hb (grown_of hw')
        clear hw'
        go_wp2
        · have he : (xs[k] != ys[k]) = true := by assumption
          go_ret
          exact ⟨ret_bool (beq_of_ne hlt hlt' (by simpa using he)).symm, hb⟩
        · have he : (xs[k] != ys[k]) = false := by assumption
          go_roundw
          case rel => exact ⟨k + 1, by omega, by go_num, upto_succ HE.out (by simpa using he), hb⟩
          case measure => simp [intOf]; omega
      · go_wp2
        go_ret
        exact ⟨ret_bool (beq_of_upto HL.out (by omega) HE.out).symm, hb⟩
  · have hne : ((xs.length : Int) != ys.length) = true := by simp; omega
    go_enter Try.func96, Try.ntmps96
    go_wp2
    go_ret
    exact ⟨ret_bool (beq_of_len hl).symm, Below.refl _ _⟩

theorem eqInt64S_same (a a' : Option Addr) (xs : List Int) (c c' : Nat) (w : World) (hx : At w a xs) (hy : At w a' xs) (hl : xs.length ≤ 9223372036854775807) :
    Calls Try.prog 96 #[.slice a xs.length c, .slice a' xs.length c'] w fun e w' => e = .returned (.bool true) ∧ Below w.heap.size w w' := by
  simpa using eqInt64S_any a a' xs xs c c' w hx hy hl hl
theorem infoInt : (Try.prog.info? 2).map (fun i => (i.zero, i.size, i.bytes)) = some (some (.int .i64 0), 1, 8) := by kernel_rfl

set_option maxHeartbeats 400000 in
theorem toInt64S_any (a : Option Addr) (xs : List Int) (c : Nat) (w : World) (hx : At w a xs) (hlx : xs.length ≤ 1048576) :
    Calls Try.prog 91 #[.slice a xs.length c] w fun e w' => ∃ v, e = .returned v ∧ Own w.heap.size w' 2 v xs ∧ Below w.heap.size w w' := by
  obtain ⟨i0, hi, hz0, hz1, hz2⟩ := info_parts infoInt
  go_enter Try.func91, Try.ntmps91
  go_wp2_with (at_make; refine wpList_make_full _ rfl (.tmp 6) (.tmp 6) 49 rfl w.heap.size 2 i0 (.int .i64 0) 1 Try.underlying49 hi hz0 hz1 .i64 .i64 _ _ xs.length rfl rfl rfl rfl (by rw [hz2]; omega) (by unfold maxLen; omega) (Nat.le_refl _) ?_; intro w1 hown hg)
  have hb1 : Below w.heap.size w w1 := (Below.refl _ _).grown hg (Nat.le_refl _) (by simp)
  have HO : Own w.heap.size w1 2 (.slice (some ⟨w.heap.size, 0, none⟩) xs.length xs.length) (filled 0 xs 0) := by
    rw [filled_zero]; unfold Own; rw [List.length_replicate, ← made_flat (0 : Int) _ rfl]; exact hown
  clear hown hg
  go_loopw [4] (fun i wr => ∃ k : Nat, k ≤ xs.length ∧ i = .int .i64 k ∧ Own w.heap.size wr 2 (.slice (some ⟨w.heap.size, 0, none⟩) xs.length xs.length) (filled 0 xs k) ∧ Below w.heap.size w wr) (fun i _ => xs.length - (intOf i).toNat)
  case atStart => exact ⟨0, Nat.zero_le _, rfl, HO, hb1⟩
  case round =>
    obtain ⟨k, hk, rfl, hO, hb⟩ := hrel
    by_cases hlt : k < xs.length
    · have hx := hx.below hb
      obtain ⟨b, off, rfl⟩ := hx.addr hlt
      have c0 := hx.int hlt
      go_wp2_with (refine wpList_store_own rfl 2 (.tmp 20) (.tmp 19) rfl w.heap.size 2 _ _ _ (filled (0 : Int) xs k) k _ xs[k] rfl (by simp [Flat.k]) rfl (by kernel_rfl) (filled_length _ _ _ hk).symm hO (by rw [filled_length _ _ _ hk]; exact hlt) ?_; intro w3 hO3 hg3)
      go_roundw
      case rel => exact ⟨k + 1, by omega, by go_num, by rw [← filled_succ _ _ _ hlt]; exact hO3, hb.grown hg3 hb.size (by simp)⟩
      case measure => simp [intOf]; omega
    · go_wp2
      go_ret
      exact ⟨_, rfl, by rw [filled_full _ _ (by omega)] at hO; exact hO, hb⟩

set_option maxHeartbeats 400000 in
theorem markInt64S_any (B : Nat) (v : Value) (xs : List Int) (m : Int) (w : World) (hO : Own B w 2 v xs) (hlx : xs.length ≤ 4294967296) (h0 : 0 ≤ m) (h1 : m ≤ 4294967296) :
    Calls Try.prog 75 #[v, .int .i64 m] w fun e w' => e = .returned (.int .i64 (m + xs.length)) ∧ Own B w' 2 v (marks m xs.length) ∧ w.grownBy w' v.ownBlock := by
  rcases hO.cases with ⟨rfl, rfl⟩ | ⟨g, cap, rfl⟩
  · go_enter Try.func75, Try.ntmps75
    go_wp2
    refine wp_loop_rounds 1 ?_
    rw [rounds_succ]
    go_wp2
    go_ret
    exact ⟨ret_int (by simp), hO, World.grownBy.refl _ _⟩
  · go_enter Try.func75, Try.ntmps75
    go_wp2
    go_loopw [1, 5] (fun q i wr => ∃ k : Nat, k ≤ xs.length ∧ i = .int .i64 k ∧ q = .int .i64 (m + k) ∧ Own B wr 2 (.slice (some ⟨g, 0, none⟩) xs.length cap) (marked m xs k) ∧ w.grownBy wr (some g)) (fun _ i _ => xs.length - (intOf i).toNat)
    case atStart => exact ⟨0, Nat.zero_le _, rfl, by go_num, by rw [marked_zero]; exact hO, World.grownBy.refl _ _⟩
    case round =>
      obtain ⟨k, hk, rfl, rfl, hO, hg⟩ := hrel
      by_cases hlt : k < xs.length
      · go_wp2_with (refine wpList_store_own rfl 2 (.tmp 15) (.tmp 14) rfl B 2 _ _ _ (marked m xs k) k _ (m + k) rfl (by simp [Flat.k]) rfl (by kernel_rfl) (marked_length _ _ _).symm hO (by rw [marked_length]; exact hlt) ?_; intro w3 hO3 hg3)
        go_roundw
        case rel => exact ⟨k + 1, by omega, by go_num, by go_num, by rw [← marked_succ _ _ _ hlt]; exact hO3, grownBy_trans hg hg3⟩
        case measure => simp [intOf]; omega
      · go_wp2
        go_ret
        obtain rfl : k = xs.length := by omega
        exact ⟨rfl, by rw [marked_full _ _ (Nat.le_refl _)] at hO; exact hO, hg⟩

set_option maxHeartbeats 400000 in
theorem heldInt64S_any (a : Option Addr) (n c : Nat) (m : Int) (w : World) (hx : At w a (marks m n)) (hn : n ≤ 4294967296) (h0 : 0 ≤ m) (h1 : m ≤ 4294967296) :
    Calls Try.prog 76 #[.slice a n c, .int .i64 m] w fun e w' => e = .returned (.int .i64 (m + n)) ∧ Below w.heap.size w w' := by
  go_enter Try.func76, Try.ntmps76
  go_wp2
  go_loopw [1, 5] (fun q i wr => ∃ k : Nat, k ≤ n ∧ i = .int .i64 k ∧ q = .int .i64 (m + k) ∧ Below w.heap.size w wr) (fun _ i _ => n - (intOf i).toNat)
  case atStart => exact ⟨0, Nat.zero_le _, rfl, by go_num, Below.refl _ _⟩
  case round =>
    obtain ⟨k, hk, rfl, rfl, hb⟩ := hrel
    by_cases hlt : k < n
    · have hlt' : k < (marks m n).length := by rw [marks_length]; exact hlt
      have hx := hx.below hb
      obtain ⟨b, off, rfl⟩ := hx.addr hlt'
      have c0 := hx.int hlt'
      rw [marks_get] at c0
      have hne : (m + (k : Int) != m + (k : Int)) = false := by simp
      go_wp2
      go_roundw
      case rel => exact ⟨k + 1, by omega, by go_num, by go_num, hb⟩
      case measure => simp [intOf]; omega
    · go_wp2
      go_ret
      obtain rfl : k = n := by omega
      exact ⟨rfl, hb⟩

theorem opens_int64 : Opens Try.prog 2 Int := opens_int Try.underlying2
theorem opens_int64s : Opens Try.prog 49 (List Int) := opens_slice Try.underlying49 (by kernel_rfl) opens_int64
end Go.Proofs.Ytlmhiocmldhkhaa
