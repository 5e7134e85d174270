/- FnNotches: what is said of notches, ease and folds, in plain words; and the law's own small functions. -/
import Derived.Test.YtokoallbhbgkkaaSrcN
import Derived.Test.YtokoallbhbgkkaaL09n
namespace Go.Proofs.Ytokoallbhbgkkaa
open Go.RowKit

theorem fold_short {n : Int} {xs : List Int} {t : Int} (h : (foldRes n xs t).2 = 0) : (foldRes n xs t).1 ≤ n ∧ (xs = [] → (foldRes n xs t).1 = n) := by
  unfold foldRes at h ⊢
  cases hk : foldOk n xs t
  · rw [hk] at h; simp at h
  · rw [hk] at h
    simp only [if_true] at h ⊢
    unfold foldOk at hk
    simp only [Bool.and_eq_true, Bool.not_eq_true', decide_eq_true_eq] at hk
    obtain ⟨⟨⟨h1, h2⟩, h3⟩, h4⟩ := hk
    have h4 := inr_true.1 h4
    have h5 := outs_false.1 h3
    by_cases hl : foldLeft n xs t < 1
    · rw [if_pos hl] at h; simp at h
    · rw [if_neg hl]
      have hs : 0 ≤ sumI xs := by
        clear h2 h3 hl h
        induction xs with
        | nil => simp [sumI_nil]
        | cons x xs ih =>
          rw [sumI_cons]
          have := h5 x (by simp)
          have := ih (fun y hy => h5 y (by simp [hy]))
          omega
      have hm : 0 ≤ t * (xs.length : Int) := Int.mul_nonneg h4.1 (by omega)
      refine ⟨by show foldLeft n xs t ≤ n; unfold foldLeft; omega, fun e => ?_⟩
      subst e
      show foldLeft n [] t = n
      unfold foldLeft; rw [sumI_nil]; simp
theorem rnd1000 (n : Int) : rnd n 1000 = (2 * n + 1000) / 2000 := rfl
theorem notches_at {n : Int} {xs : List Int} (h : notchOk n xs = true) {i : Nat} (hi : i < (notches n xs).length) : ∃ h' : i < xs.length, (notches n xs)[i] = rnd (n * xs[i]) 1000 ∧ (1 ≤ n ∧ n ≤ 5000) ∧ (1 ≤ xs[i] ∧ xs[i] ≤ 999) := by
  have e : notches n xs = xs.map fun s => rnd (n * s) 1000 := by unfold notches; rw [if_pos h]
  have hl : i < xs.length := by rw [e] at hi; simpa using hi
  unfold notchOk okShares at h
  simp only [Bool.and_eq_true] at h
  refine ⟨hl, ?_, inr_true.1 h.1, rises_in h.2.2 hl⟩
  simp only [e, List.getElem_map]
theorem notches_rise {n : Int} {xs : List Int} (h : notchOk n xs = true) : (∀ i (hi : i < (notches n xs).length), 0 ≤ (notches n xs)[i] ∧ (notches n xs)[i] ≤ n) ∧ ∀ i (hi : i + 1 < (notches n xs).length), (notches n xs)[i] ≤ (notches n xs)[i + 1] := by
  refine ⟨fun i hi => ?_, fun i hi => ?_⟩
  · obtain ⟨hl, e, hn, hx⟩ := notches_at h hi
    rw [e, rnd1000]
    have h1 : 0 ≤ n * xs[i] := Int.mul_nonneg (by omega) (by omega)
    have h2 : n * xs[i] ≤ n * 999 := Int.mul_le_mul_of_nonneg_left hx.2 (by omega)
    omega
  · obtain ⟨hl, e, hn, hx⟩ := notches_at h (show i < (notches n xs).length by omega)
    obtain ⟨hl2, e2, _, hx2⟩ := notches_at h hi
    have hr : xs[i] < xs[i + 1] := by
      unfold notchOk okShares at h
      simp only [Bool.and_eq_true] at h
      have := rises_iff.1 h.2.2 (i + 1) hl2
      simp [riseAt, hl2, hl] at this
      omega
    rw [e, e2, rnd1000, rnd1000]
    have h2 : n * xs[i] ≤ n * xs[i + 1] := Int.mul_le_mul_of_nonneg_left (by omega) (by omega)
    omega
theorem notches_len' {n : Int} {xs : List Int} (h : notchOk n xs = true) : (notches n xs).length ≤ 10 ∧ (1 ≤ n ∧ n ≤ 5000) := by
  have h1 := notches_len n xs
  unfold notchOk okShares at h
  simp only [Bool.and_eq_true, decide_eq_true_eq] at h
  have := inr_true.1 h.1
  omega
theorem notches_meet {n : Int} {xs : List Int} (hl : xs.length ≤ 10) (hn : 1 ≤ n ∧ n ≤ 5000) (h0 : ∀ i (hi : i < xs.length), 0 ≤ xs[i] ∧ xs[i] ≤ n) (h1 : ∀ i (hi : i + 1 < xs.length), xs[i] < xs[i + 1]) : nfRes n n xs xs 0 = (-1, 0) := by
  have hr : rises xs 0 n = true := rises_iff.2 fun i hi => by
    have a := h0 i hi
    cases i with
    | zero => simp [riseAt, hi, inr]; omega
    | succ i => have b := h1 i hi; simp [riseAt, hi, inr, show i < xs.length by omega]; omega
  have hk : nfOk n n xs xs 0 = true := by
    unfold nfOk
    rw [hr]
    simp [inr]
    omega
  have hnone : firstAt xs.length (nfBad n n xs xs 0) = -1 := firstAt_none (Nat.le_refl _) (fun j hj => by
    rw [nfBad_eq hj hj]
    simp [size])
  unfold nfRes
  rw [if_pos hk, if_pos rfl, hnone]
theorem ease_sum {a b : Int} {xs : List Int} (h : easeOk a b xs = true) : (∀ k, k ≤ (ease a b xs).length → 0 ≤ sumI ((ease a b xs).take k) ∧ sumI ((ease a b xs).take k) ≤ 5000001) ∧ sumI (ease a b xs) = max (a - b) (b - a) ∧ (ease a b xs).length = xs.length + 1 := by
  have e : ease a b xs = gen (xs.length + 1) (easeStep a b xs) := by unfold ease; rw [if_pos h]
  unfold easeOk okShares at h
  simp only [Bool.and_eq_true] at h
  have ha := inr_true.1 h.1.1
  have hb := inr_true.1 h.1.2
  have hp : ∀ k, k ≤ xs.length + 1 → sumI ((ease a b xs).take k) = easeBefore a b xs k := by
    intro k
    induction k with
    | zero => intro _; rw [List.take_zero, sumI_nil, easeBefore_zero]
    | succ k ih =>
      intro hk
      have hl : k < (ease a b xs).length := by rw [e, gen_length]; omega
      rw [sumI_take _ _ hl, ih (by omega), easeBefore_succ]
      have : (ease a b xs)[k] = easeStep a b xs k := by simp only [e]; exact gen_get _ _ _ _
      rw [this]; unfold easeStep; omega
  have hlen : (ease a b xs).length = xs.length + 1 := by rw [e, gen_length]
  refine ⟨fun k hk => ?_, ?_, hlen⟩
  · rw [hp k (by omega)]; exact easeBefore_in ha hb h.2.2 k
  · have h1 := hp (xs.length + 1) (Nat.le_refl _)
    rw [List.take_of_length_le (by omega), easeBefore_succ] at h1
    rw [h1]
    unfold easeAt
    rw [shareAt_end (by omega), rnd1000]
    unfold size
    omega
theorem f6big_c (a : Option Addr) (n c : Nat) (w : World) : Calls Try.prog 42 #[.slice a n c] w fun e w' => e = .returned (.bool (decide (4096 < n))) ∧ w = w' := by
  by_cases h : 4096 < n
  · have h' : 4096 < (n : Int) := by omega
    go_enter Try.func42, Try.ntmps42
    go_wp2_with fail
    go_ret
    exact ⟨by simp [h], rfl⟩
  · have h' : ¬ 4096 < (n : Int) := by omega
    go_enter Try.func42, Try.ntmps42
    go_wp2_with fail
    go_ret
    exact ⟨by simp [h], rfl⟩
set_option maxHeartbeats 400000 in
theorem f6ints_any (a a' : Option Addr) (xs ys : List Int) (c c' : Nat) (w : World) (hx : At w a xs) (hy : At w a' ys)
   (hlx : xs.length ≤ 9223372036854775807) (_hly : ys.length ≤ 9223372036854775807) :
    Calls Try.prog 55 #[.slice a xs.length c, .slice a' ys.length c'] w fun e w' => e = .returned (.bool (xs == ys)) ∧ Below w.heap.size w w' := by
  by_cases hl : xs.length = ys.length
  · have hne : ((xs.length : Int) != ys.length) = false := by simp [hl]
    have HL := Lib.hid hl
    clear hl _hly
    go_enter Try.func55, Try.ntmps55
    go_wp2
    go_loopw [5] (fun i wr => ∃ k : Nat, k ≤ xs.length ∧ i = .int .i64 k ∧ Upto xs ys k ∧ Below w.heap.size w wr) (fun i _ => xs.length - (intOf i).toNat)
    case atStart => exact ⟨0, Nat.zero_le _, rfl, upto_zero, Below.refl _ _⟩
    case round =>
      obtain ⟨k, hk, rfl, heq, hb⟩ := hrel
      have HE := Lib.hid heq
      clear heq
      have hx := hx.below hb
      have hy := hy.below hb
      by_cases hlt : k < xs.length
      · have hlt' : k < ys.length := by rw [← HL.out]; exact hlt
        obtain ⟨b, off, rfl⟩ := hx.addr hlt
        obtain ⟨b', off', rfl⟩ := hy.addr hlt'
        have c0 := rg (hx.int hlt)
        have d0 := rg (hy.int hlt')
        go_wp2
        refine wp_region_quiet_below (by kernel_rfl) (by kernel_rfl) ?_
        repeat (go_big_quiet_step (fail))
        refine wpQuiet_nil ?_
        intro w2 hw'
        have hb := upw hb (grown_of hw')
        clear hw'
        go_wp2
        · have he : (xs[k] != ys[k]) = true := by assumption
          go_ret
          exact ⟨ret_bool (beq_of_ne hlt hlt' (by simpa using he)).symm, hb⟩
        · have he : (xs[k] != ys[k]) = false := by assumption
          go_roundw
          case rel => exact ⟨k + 1, by omega, by go_num, upto_succ HE.out (by simpa using he), hb⟩
          case measure => simp [intOf]; omega
      · go_wp2
        go_ret
        exact ⟨ret_bool (beq_of_upto HL.out (by omega) HE.out).symm, hb⟩
  · have hne : ((xs.length : Int) != ys.length) = true := by simp; omega
    go_enter Try.func55, Try.ntmps55
    go_wp2
    go_ret
    exact ⟨ret_bool (beq_of_len hl).symm, Below.refl _ _⟩
theorem f6ints_same (a a' : Option Addr) (xs : List Int) (c c' : Nat) (w : World) (hx : At w a xs) (hy : At w a' xs) (hl : xs.length ≤ 9223372036854775807) :
    Calls Try.prog 55 #[.slice a xs.length c, .slice a' xs.length c'] w fun e w' => e = .returned (.bool true) ∧ Below w.heap.size w w' := by
  simpa using f6ints_any a a' xs xs c c' w hx hy hl hl
theorem f6sum_c (a : Option Addr) (xs : List Int) (c : Nat) (w : World) (hx : At w a xs) (hl : xs.length ≤ 9223372036854775807) (hs : ∀ k, k ≤ xs.length → 0 ≤ sumI (xs.take k) ∧ sumI (xs.take k) ≤ 5000001) :
    Calls Try.prog 56 #[.slice a xs.length c] w fun e w' => e = .returned (.int .i64 (sumI xs)) ∧ Below w.heap.size w w' := by
  replace hs := Lib.hid hs
  go_enter Try.func56, Try.ntmps56
  go_wp2_with fail
  go_loopw [3, 4] (fun s i wr => ∃ k : Nat, k ≤ xs.length ∧ i = .int .i64 k ∧ s = .int .i64 (sumI (xs.take k)) ∧ wr = w) (fun _ i _ => xs.length - (intOf i).toNat)
  case atStart => exact ⟨0, Nat.zero_le _, rfl, rfl, rfl⟩
  case round =>
    obtain ⟨k, hk, rfl, rfl, rfl⟩ := hrel
    by_cases hlt : k < xs.length
    · obtain ⟨b, off, rfl⟩ := hx.addr hlt
      have c1 := hx.int hlt
      have b0 := hs.out k hk
      have b1 := hs.out (k + 1) hlt
      have E := sumI_take xs k hlt
      rw [E] at b1
      replace E := Lib.hid E
      generalize sumI (xs.take k) = S at *
      go_wp2_with fail
      go_roundw
      case rel => exact ⟨k + 1, by omega, by go_num, by rw [E.out], trivial⟩
      case measure => simp [intOf]; omega
    · obtain rfl : k = xs.length := by omega
      rw [List.take_length]
      go_wp2_with fail
      go_ret
      exact ⟨rfl, Below.refl _ _⟩
end Go.Proofs.Ytokoallbhbgkkaa
