/- Lists of texts: what the functions on them compute. -/
import Derived.Test.YtgjgfmbaajoahaaDoorRows
import Derived.Test.YtgjgfmbaajoahaaDoorBase
namespace Go.Proofs.YtgjgfmbaajoahaaDoor
open Go.RowKit

/-- How many bytes the first k texts have. -/
def bytesTo (xs : List ByteArray) (k : Nat) : Nat := ((xs.take k).map ByteArray.size).sum
theorem bytesTo_zero (xs : List ByteArray) : bytesTo xs 0 = 0 := rfl
theorem bytesTo_succ (xs : List ByteArray) (k : Nat) (h : k < xs.length) : bytesTo xs (k + 1) = bytesTo xs k + xs[k].size := by
  unfold bytesTo
  rw [List.take_succ_eq_append_getElem h, List.map_append, List.sum_append]
  simp
theorem bytesTo_le (xs : List ByteArray) : ∀ k j, k ≤ j → j ≤ xs.length → bytesTo xs k ≤ bytesTo xs j
  | k, 0, h, _ => by obtain rfl : k = 0 := by omega
                     exact Nat.le_refl _
  | k, j + 1, h, hj => by
    by_cases e : k = j + 1
    · rw [e]; exact Nat.le_refl _
    · have := bytesTo_le xs k j (by omega) (by omega)
      rw [bytesTo_succ xs j (by omega)]
      omega
theorem bytesTo_mem (xs : List ByteArray) (k : Nat) (h : k < xs.length) : xs[k].size ≤ bytesTo xs xs.length := by
  have h1 := bytesTo_succ xs k h
  have h2 := bytesTo_le xs (k + 1) xs.length (by omega) (Nat.le_refl _)
  omega
/-- The size that the law counts. -/
def totStrs (xs : List ByteArray) : Nat := xs.length + bytesTo xs xs.length
theorem totStrs_mem {xs : List ByteArray} {n : Nat} (h : totStrs xs ≤ n) : ∀ x ∈ xs, x.size ≤ n := by
  intro x hx
  obtain ⟨k, hk, rfl⟩ := List.getElem_of_mem hx
  have := bytesTo_mem xs k hk
  unfold totStrs at h
  omega
set_option maxHeartbeats 800000 in
theorem szStringS_ok (a : Option Addr) (xs : List ByteArray) (c : Nat) (l : Int) (w : World) (hx : At w a xs) (hn : (totStrs xs : Int) ≤ l) (hl : l ≤ 1048576) :
    Calls Tryd.prog 5 #[.slice a xs.length c, .int .i64 l] w fun e w' => e = .returned (.int .i64 (l - totStrs xs)) ∧ Below w.heap.size w w' := by
  unfold totStrs at hn ⊢
  have hle := Lib.hid (bytesTo_le xs)
  have r0 : Hid (l - (xs.length : Int) = l - ((xs.length + bytesTo xs 0 : Nat) : Int)) := Lib.hid (by rw [bytesTo_zero]; rfl)
  have h1' : ¬ l - (xs.length : Int) < 0 := by omega
  go_enter Tryd.func5, Tryd.ntmps5
  go_wp2_with fail
  go_loopw [1, 5] (fun s i wr => ∃ (k : Nat) (z : Int), k ≤ xs.length ∧ i = .int .i64 k ∧ s = .int .i64 z ∧ Hid (z = l - ((xs.length + bytesTo xs k : Nat) : Int)) ∧ Below w.heap.size w wr) (fun _ i _ => xs.length - (intOf i).toNat)
  case atStart => exact ⟨0, _, Nat.zero_le _, rfl, rfl, r0, Below.refl _ _⟩
  case round =>
    obtain ⟨k, z, hk, rfl, rfl, hz, hb⟩ := hrel
    by_cases hlt : k < xs.length
    · have hx2 := hx.below hb
      obtain ⟨b, off, rfl⟩ := hx2.addr hlt
      have c0 := hx2.str hlt
      obtain ⟨n, hn1⟩ : ∃ n, n = xs[k].size := ⟨_, rfl⟩
      have e1 : Hid (z - (n : Int) = l - ((xs.length + bytesTo xs (k + 1) : Nat) : Int)) := Lib.hid (by rw [bytesTo_succ xs k hlt, hz.out, hn1]; omega)
      have h2 : ¬ z - (n : Int) < 0 := by
        have h3 := e1.out
        have h4 := hle.out (k + 1) xs.length (by omega) (Nat.le_refl _)
        omega
      have hzl : z ≤ 1048576 := by have h3 := hz.out; omega
      have hz0 : 0 ≤ z := by omega
      have hnn := hn1.symm
      clear hx2 hn1
      go_wp2_with fail
      go_roundw
      case rel => exact ⟨k + 1, _, by omega, by go_num, rfl, e1, hb⟩
      case measure => simp [intOf]; omega
    · obtain rfl : k = xs.length := by omega
      go_wp2_with fail
      go_ret
      exact ⟨ret_int hz.out, hb⟩
set_option maxHeartbeats 800000 in
theorem szStringS_no (a : Option Addr) (xs : List ByteArray) (c : Nat) (l : Int) (w : World) (hx : At w a xs) (hs : ∀ x ∈ xs, x.size ≤ 9223372036854775807) (hn9 : xs.length ≤ 9223372036854775807) (hn : l < (totStrs xs : Int)) (h0 : 0 ≤ l) (hl : l ≤ 1048576) :
    Calls Tryd.prog 5 #[.slice a xs.length c, .int .i64 l] w fun e w' => e = .returned (.int .i64 (-1)) ∧ Below w.heap.size w w' := by
  by_cases h1 : l < xs.length
  · have h1' : l - (xs.length : Int) < 0 := by omega
    go_enter Tryd.func5, Tryd.ntmps5
    go_wp2
    go_ret
    exact ⟨rfl, Below.refl _ _⟩
  · have h1' : ¬ l - (xs.length : Int) < 0 := by omega
    unfold totStrs at hn
    replace hs := Lib.hid hs
    have r0 : Hid (l - (xs.length : Int) = l - ((xs.length + bytesTo xs 0 : Nat) : Int)) := Lib.hid (by rw [bytesTo_zero]; rfl)
    replace hn := Lib.hid hn
    go_enter Tryd.func5, Tryd.ntmps5
    go_wp2_with fail
    go_loopw [1, 5] (fun s i wr => ∃ (k : Nat) (z : Int), k ≤ xs.length ∧ i = .int .i64 k ∧ s = .int .i64 z ∧ 0 ≤ z ∧ z ≤ l ∧ Hid (z = l - ((xs.length + bytesTo xs k : Nat) : Int)) ∧ Below w.heap.size w wr) (fun _ i _ => xs.length - (intOf i).toNat)
    case atStart => exact ⟨0, _, Nat.zero_le _, rfl, rfl, by omega, by omega, r0, Below.refl _ _⟩
    case round =>
      obtain ⟨k, z, hk, rfl, rfl, hz0, hzl, hz, hb⟩ := hrel
      by_cases hlt : k < xs.length
      · have hx2 := hx.below hb
        obtain ⟨b, off, rfl⟩ := hx2.addr hlt
        have c0 := hx2.str hlt
        have hs1 := hs.out _ (List.getElem_mem hlt)
        obtain ⟨n, hn1⟩ : ∃ n, n = xs[k].size := ⟨_, rfl⟩
        rw [← hn1] at hs1
        have e1 : Hid (z - (n : Int) = l - ((xs.length + bytesTo xs (k + 1) : Nat) : Int)) := Lib.hid (by rw [bytesTo_succ xs k hlt, hz.out, hn1]; omega)
        have hnn := hn1.symm
        clear hx2 hn1
        by_cases h2 : z - (n : Int) < 0
        · go_wp2_with fail
          go_ret
          exact ⟨rfl, hb⟩
        · go_wp2_with fail
          go_roundw
          case rel => exact ⟨k + 1, _, by omega, by go_num, rfl, by omega, by omega, e1, hb⟩
          case measure => simp [intOf]; omega
      · obtain rfl : k = xs.length := by omega
        have h3 := hn.out
        have h4 := hz.out
        omega
set_option maxHeartbeats 400000 in
theorem eqStringS_same (a a' : Option Addr) (xs : List ByteArray) (c c' : Nat) (w : World) (hx : At w a xs) (hy : At w a' xs) (hlx : xs.length ≤ 9223372036854775807) :
    Calls Tryd.prog 9 #[.slice a xs.length c, .slice a' xs.length c'] w fun e w' => e = .returned (.bool true) ∧ Below w.heap.size w w' := by
  have hne : ((xs.length : Int) != xs.length) = false := by simp
  go_enter Tryd.func9, Tryd.ntmps9
  go_wp2
  go_loopw [5] (fun i wr => ∃ k : Nat, k ≤ xs.length ∧ i = .int .i64 k ∧ Below w.heap.size w wr) (fun i _ => xs.length - (intOf i).toNat)
  case atStart => exact ⟨0, Nat.zero_le _, rfl, Below.refl _ _⟩
  case round =>
    obtain ⟨k, hk, rfl, hb⟩ := hrel
    have hx := hx.below hb
    have hy := hy.below hb
    by_cases hlt : k < xs.length
    · obtain ⟨b, off, rfl⟩ := hx.addr hlt
      obtain ⟨b', off', rfl⟩ := hy.addr hlt
      have c0 := rg (hx.str hlt)
      have d0 := rg (hy.str hlt)
      go_wp2
      refine wp_region_quiet_below (by kernel_rfl) (by kernel_rfl) ?_
      repeat (go_big_quiet_step ((fail)))
      refine wpQuiet_nil ?_
      intro w2 hw'
      replace hb := upw hb (grown_of hw')
      clear hw'
      go_wp2
      go_roundw
      case rel => exact ⟨k + 1, by omega, by go_num, hb⟩
      case measure => simp [intOf]; omega
    · go_wp2
      go_ret
      exact ⟨rfl, hb⟩
theorem infoStrs : (Tryd.prog.info? 9).map (fun i => (i.zero, i.size, i.bytes)) = some (some (.string ⟨#[]⟩), 1, 16) := by kernel_rfl
set_option maxHeartbeats 400000 in
theorem toStringS_any (a : Option Addr) (xs : List ByteArray) (c : Nat) (w : World) (hx : At w a xs) (hlx : totStrs xs ≤ 1048576) :
    Calls Tryd.prog 7 #[.slice a xs.length c] w fun e w' => ∃ v, e = .returned v ∧ Own w.heap.size w' 9 v xs ∧ Below w.heap.size w w' := by
  replace hlx : xs.length ≤ 1048576 := by unfold totStrs at hlx; omega
  obtain ⟨i0, hi, hz0, hz1, hz2⟩ := info_parts infoStrs
  go_enter Tryd.func7, Tryd.ntmps7
  go_wp2_with (at_make; refine wpList_make_full _ rfl (.tmp 6) (.tmp 6) 22 rfl w.heap.size 9 i0 (.string ⟨#[]⟩) 1 Tryd.underlying22 hi hz0 hz1 .i64 .i64 _ _ xs.length rfl rfl rfl rfl (by rw [hz2]; omega) (by unfold maxLen; omega) (Nat.le_refl _) ?_; intro w1 hown hg)
  have hb1 : Below w.heap.size w w1 := (Below.refl _ _).grown hg (Nat.le_refl _) (by simp)
  have HO : Own w.heap.size w1 9 (.slice (some ⟨w.heap.size, 0, none⟩) xs.length xs.length) (filled (⟨#[]⟩ : ByteArray) xs 0) := by
    rw [filled_zero]; unfold Own; rw [List.length_replicate, ← made_flat (⟨#[]⟩ : ByteArray) _ rfl]; exact hown
  clear hown hg
  go_loopw [4] (fun i wr => ∃ k : Nat, k ≤ xs.length ∧ i = .int .i64 k ∧ Own w.heap.size wr 9 (.slice (some ⟨w.heap.size, 0, none⟩) xs.length xs.length) (filled (⟨#[]⟩ : ByteArray) xs k) ∧ Below w.heap.size w wr) (fun i _ => xs.length - (intOf i).toNat)
  case atStart => exact ⟨0, Nat.zero_le _, rfl, HO, hb1⟩
  case round =>
    obtain ⟨k, hk, rfl, hO, hb⟩ := hrel
    by_cases hlt : k < xs.length
    · have hx := hx.below hb
      obtain ⟨b, off, rfl⟩ := hx.addr hlt
      have c0 := hx.str hlt
      go_wp2_with (refine wpList_store_own rfl 9 (.tmp 20) (.tmp 19) rfl w.heap.size 9 _ _ _ (filled (⟨#[]⟩ : ByteArray) xs k) k _ xs[k] rfl (by simp [Flat.k]) rfl (by kernel_rfl) (filled_length _ _ _ hk).symm hO (by rw [filled_length _ _ _ hk]; exact hlt) ?_; intro w3 hO3 hg3)
      go_roundw
      case rel => exact ⟨k + 1, by omega, by go_num, by rw [← filled_succ _ _ _ hlt]; exact hO3, hb.grown hg3 hb.size (by simp)⟩
      case measure => simp [intOf]; omega
    · go_wp2
      go_ret
      exact ⟨_, rfl, by rw [filled_full _ _ (by omega)] at hO; exact hO, hb⟩
theorem opens_strings : Opens Tryd.prog 22 (List ByteArray) := opens_slice Tryd.underlying22 (by kernel_rfl) (opens_string Tryd.underlying9)
end Go.Proofs.YtgjgfmbaajoahaaDoor
