/- Chapter 9, the ease of the parts of an edge: the contracts of the program's function and of the reference's. -/
import Derived.Test.YtokoallbhbgkkaaL09m
namespace Go.Proofs.Ytokoallbhbgkkaa
open Go.RowKit

theorem gen_succ {α : Type} (n : Nat) (f : Nat → α) : gen n f ++ [f n] = gen (n + 1) f := by
  unfold gen; rw [List.range_succ, List.map_append]; rfl
/-- The share at which part i ends. -/
def shareAt (xs : List Int) (i : Nat) : Int := xs.getD i 1000
theorem shareAt_lt {xs : List Int} {i : Nat} (h : i < xs.length) : shareAt xs i = xs[i] := by simp [shareAt, h]
theorem shareAt_end {xs : List Int} {i : Nat} (h : ¬ i < xs.length) : shareAt xs i = 1000 := by simp [shareAt]; rw [List.getElem?_eq_none (by omega)]; rfl
def easeAt (a b : Int) (xs : List Int) (i : Nat) : Int := rnd (size (a - b) * shareAt xs i) 1000
def easeBefore (a b : Int) (xs : List Int) (i : Nat) : Int := if i = 0 then 0 else easeAt a b xs (i - 1)
def easeStep (a b : Int) (xs : List Int) (i : Nat) : Int := easeAt a b xs i - easeBefore a b xs i
theorem easeBefore_zero (a b : Int) (xs : List Int) : easeBefore a b xs 0 = 0 := rfl
theorem easeBefore_succ (a b : Int) (xs : List Int) (i : Nat) : easeBefore a b xs (i + 1) = easeAt a b xs i := by simp [easeBefore]
def easeOk (a b : Int) (xs : List Int) : Bool := inr a 1 5000 && inr b 1 5000 && okShares xs
def ease (a b : Int) (xs : List Int) : List Int := if easeOk a b xs then gen (xs.length + 1) (easeStep a b xs) else []
def easeCode (a b : Int) (xs : List Int) : Int := if easeOk a b xs then 0 else 2
theorem EaseOf_len (a b : Int) (xs : List Int) : (ease a b xs).length ≤ 11 := by
  unfold ease
  split
  · rename_i h
    simp [easeOk, okShares] at h
    rw [gen_length]; omega
  · simp
theorem rnd_in {n N : Int} (h0 : 0 ≤ n) (h : n ≤ N) : 0 ≤ rnd n 1000 ∧ rnd n 1000 ≤ N + 1 := by
  have e : rnd n 1000 = (2 * n + 1000) / 2000 := rfl
  rw [e]; omega
theorem ease_facts {a b : Int} {xs : List Int} (ha : 1 ≤ a ∧ a ≤ 5000) (hb : 1 ≤ b ∧ b ≤ 5000) (hs : rises xs 1 999 = true) (i : Nat) :
    (0 ≤ size (a - b) ∧ size (a - b) ≤ 5000) ∧ (1 ≤ shareAt xs i ∧ shareAt xs i ≤ 1000) ∧ (0 ≤ size (a - b) * shareAt xs i ∧ size (a - b) * shareAt xs i ≤ 5000000) ∧ (0 ≤ easeAt a b xs i ∧ easeAt a b xs i ≤ 5000001) := by
  have h1 : 0 ≤ size (a - b) ∧ size (a - b) ≤ 5000 := by unfold size; omega
  have h2 : 1 ≤ shareAt xs i ∧ shareAt xs i ≤ 1000 := by
    by_cases h : i < xs.length
    · rw [shareAt_lt h]; have := rises_in hs h; omega
    · rw [shareAt_end h]; omega
  have h3 := mul_in (a := size (a - b)) (b := shareAt xs i) (A := 5000) (B := 1000) h1.1 h1.2 (by omega) h2.2
  have h4 := rnd_in h3.1 h3.2
  exact ⟨h1, h2, by omega, by unfold easeAt; omega⟩
theorem easeBefore_in {a b : Int} {xs : List Int} (ha : 1 ≤ a ∧ a ≤ 5000) (hb : 1 ≤ b ∧ b ≤ 5000) (hs : rises xs 1 999 = true) (i : Nat) : 0 ≤ easeBefore a b xs i ∧ easeBefore a b xs i ≤ 5000001 := by
  unfold easeBefore; split
  · omega
  · exact (ease_facts ha hb hs _).2.2.2
set_option maxHeartbeats 2000000 in
theorem implEaseOf_c (p q : Int) (a : Option Addr) (xs : List Int) (c : Nat) (w : World) (_hp : -9223372036854775808 ≤ p ∧ p ≤ 9223372036854775807) (_hq : -9223372036854775808 ≤ q ∧ q ≤ 9223372036854775807) (hx : At w a xs) (hl : xs.length ≤ 9223372036854775807) :
    Calls Try.prog 44 #[.int .i64 p, .int .i64 q, .slice a xs.length c] w fun e w' => ∃ v, e = .returned (.tuple #[v, .int .i64 (easeCode p q xs)]) ∧ Own w.heap.size w' 2 v (ease p q xs) ∧ Below w.heap.size w w' := by
  have hb := Below.refl w.heap.size w
  cases h1 : inr p 1 5000
  · have hr : easeCode p q xs = 2 := by simp [easeCode, easeOk, h1]
    have hr' : ease p q xs = [] := by simp [ease, easeOk, h1]
    rw [hr, hr']
    go_enter Try.func44, Try.ntmps44
    go_wp2_with (first | (go_at_call 88; refine (isStripLength_c _ _).mono ?_; rintro e w' ⟨rfl, rfl⟩) | (go_at_call 89; refine (areShares_c _ _ _ _ hx hl).mono ?_; rintro e w' ⟨rfl, rfl⟩))
    go_ret2
    exact ⟨_, rfl, World.ownsRow_nil _ _ _ _, hb⟩
  · cases h2 : inr q 1 5000
    · have hr : easeCode p q xs = 2 := by simp [easeCode, easeOk, h1, h2]
      have hr' : ease p q xs = [] := by simp [ease, easeOk, h1, h2]
      rw [hr, hr']
      go_enter Try.func44, Try.ntmps44
      go_wp2_with (first | (go_at_call 88; refine (isStripLength_c _ _).mono ?_; rintro e w' ⟨rfl, rfl⟩) | (go_at_call 89; refine (areShares_c _ _ _ _ hx hl).mono ?_; rintro e w' ⟨rfl, rfl⟩))
      go_ret2
      exact ⟨_, rfl, World.ownsRow_nil _ _ _ _, hb⟩
    · cases h3 : okShares xs
      · have hr : easeCode p q xs = 2 := by simp [easeCode, easeOk, h1, h2, h3]
        have hr' : ease p q xs = [] := by simp [ease, easeOk, h1, h2, h3]
        rw [hr, hr']
        go_enter Try.func44, Try.ntmps44
        go_wp2_with (first | (go_at_call 88; refine (isStripLength_c _ _).mono ?_; rintro e w' ⟨rfl, rfl⟩) | (go_at_call 89; refine (areShares_c _ _ _ _ hx hl).mono ?_; rintro e w' ⟨rfl, rfl⟩))
        go_ret2
        exact ⟨_, rfl, World.ownsRow_nil _ _ _ _, hb⟩
      · have hr : easeCode p q xs = 0 := by simp [easeCode, easeOk, h1, h2, h3]
        have hr' : ease p q xs = gen (xs.length + 1) (easeStep p q xs) := by simp [ease, easeOk, h1, h2, h3]
        rw [hr, hr']
        have h1' := inr_true.1 h1
        have h2' := inr_true.1 h2
        have h4 : rises xs 1 999 = true := by simp [okShares] at h3; exact h3.2
        have h5 : xs.length ≤ 10 := by simp [okShares] at h3; omega
        go_enter Try.func44, Try.ntmps44
        go_wp2_with fail
        refine (isStripLength_c _ _).mono ?_
        rintro e w' ⟨rfl, rfl⟩
        go_wp2_with fail
        refine (isStripLength_c _ _).mono ?_
        rintro e w' ⟨rfl, rfl⟩
        go_wp2_with fail
        refine (areShares_c _ _ _ _ hx hl).mono ?_
        rintro e w' ⟨rfl, rfl⟩
        go_wp2_with fail
        go_loopw [8, 9, 30] (fun v s i wr => ∃ k : Nat, k ≤ xs.length + 1 ∧ i = .int .i64 k ∧ s = .int .i64 (easeBefore p q xs k) ∧ Own w.heap.size wr 2 v (gen k (easeStep p q xs)) ∧ Below w.heap.size w wr) (fun _ _ i _ => xs.length + 1 - (intOf i).toNat)
        case atStart => exact ⟨0, Nat.zero_le _, rfl, rfl, (own_new _ _).base hb.size, hb.alloc hb.size _⟩
        case round =>
          obtain ⟨k, hk, rfl, rfl, hO, hb⟩ := hrel
          have hlen : (gen k (easeStep p q xs)).length = k := gen_length _ _
          obtain ⟨f1, f2, f3, f4⟩ := ease_facts h1' h2' h4 k
          have f5 := easeBefore_in h1' h2' h4 k
          have E1 := Lib.hid (easeBefore_succ p q xs k)
          by_cases hlt : k < xs.length
          · replace hx := hx.below hb
            obtain ⟨b, off, rfl⟩ := hx.addr hlt
            have c0 := hx.int hlt
            have es := shareAt_lt hlt
            rw [es] at f3
            have ea : easeAt p q xs k = rnd (size (p - q) * xs[k]) 1000 := by unfold easeAt; rw [es]
            rw [ea] at f4
            have EA := Lib.hid ea
            clear es ea
            have HLEN := Lib.hid hlen
            clear hlen
            go_wp2_with (first | (go_at_call 90; refine (apart_c _ _ _ (by omega) (by omega)).mono ?_; rintro e w' ⟨rfl, rfl⟩) | (go_at_call 85; refine (rounded_c _ _ _ (by omega) (by omega)).mono ?_; rintro e w' ⟨rfl, rfl⟩) | (at_builtin; refine wpList_push rfl (.tmp 47) (.tmp 51) 22 rfl w.heap.size 2 (.int .i64 0) 8 Try.underlying22 infoInt rfl _ _ (rnd (size (p - q) * xs[k]) 1000 - easeBefore p q xs k) rfl (hO.later ((Below.refl _ _).alloc (Nat.le_refl _) _)) _ _ rfl 2 (heap_alloc_new _ _) (by rw [HLEN.out]; omega) (by decide) (by have := hb.size; simp; omega) ?_; intro v1 w1 hO1 hg1))
            go_roundw
            case rel => exact ⟨k + 1, by omega, by go_num, by rw [E1.out, EA.out], by rw [← gen_succ, easeStep, EA.out]; exact hO1, below_mark (hb.alloc hb.size _) (hO.later ((Below.refl _ _).alloc (Nat.le_refl _) _)) (Nat.le_refl _) hg1⟩
            case measure => simp [intOf]; omega
          · by_cases hle : k < xs.length + 1
            · have es := shareAt_end hlt
              rw [es] at f3
              have ea : easeAt p q xs k = rnd (size (p - q) * 1000) 1000 := by unfold easeAt; rw [es]
              rw [ea] at f4
              have EA := Lib.hid ea
              clear es ea
              have HLEN := Lib.hid hlen
              clear hlen
              go_wp2_with (first | (go_at_call 90; refine (apart_c _ _ _ (by omega) (by omega)).mono ?_; rintro e w' ⟨rfl, rfl⟩) | (go_at_call 85; refine (rounded_c _ _ _ (by omega) (by omega)).mono ?_; rintro e w' ⟨rfl, rfl⟩) | (at_builtin; refine wpList_push rfl (.tmp 47) (.tmp 51) 22 rfl w.heap.size 2 (.int .i64 0) 8 Try.underlying22 infoInt rfl _ _ (rnd (size (p - q) * 1000) 1000 - easeBefore p q xs k) rfl (hO.later ((Below.refl _ _).alloc (Nat.le_refl _) _)) _ _ rfl 2 (heap_alloc_new _ _) (by rw [HLEN.out]; omega) (by decide) (by have := hb.size; simp; omega) ?_; intro v1 w1 hO1 hg1))
              go_roundw
              case rel => exact ⟨k + 1, by omega, by go_num, by rw [E1.out, EA.out], by rw [← gen_succ, easeStep, EA.out]; exact hO1, below_mark (hb.alloc hb.size _) (hO.later ((Below.refl _ _).alloc (Nat.le_refl _) _)) (Nat.le_refl _) hg1⟩
              case measure => simp [intOf]; omega
            · go_wp2_with fail
              go_ret2
              obtain rfl : k = xs.length + 1 := by omega
              exact ⟨_, rfl, hO, hb⟩
set_option maxHeartbeats 2000000 in
theorem specEaseOf_c (p q : Int) (a : Option Addr) (xs : List Int) (c : Nat) (w : World) (_hp : -9223372036854775808 ≤ p ∧ p ≤ 9223372036854775807) (_hq : -9223372036854775808 ≤ q ∧ q ≤ 9223372036854775807) (hx : At w a xs) (hl : xs.length ≤ 9223372036854775807) :
    Calls Try.prog 45 #[.int .i64 p, .int .i64 q, .slice a xs.length c] w fun e w' => ∃ v, e = .returned (.tuple #[v, .int .i64 (easeCode p q xs)]) ∧ Own w.heap.size w' 2 v (ease p q xs) ∧ Below w.heap.size w w' := by
  have hb := Below.refl w.heap.size w
  cases h1 : inr p 1 5000
  · have hr : easeCode p q xs = 2 := by simp [easeCode, easeOk, h1]
    have hr' : ease p q xs = [] := by simp [ease, easeOk, h1]
    rw [hr, hr']
    go_enter Try.func45, Try.ntmps45
    go_wp2_with (first | (go_at_call 91; refine (l09Length_c _ _).mono ?_; rintro e w' ⟨rfl, rfl⟩) | (go_at_call 92; refine (l09Shares_c _ _ _ _ hx hl).mono ?_; rintro e w2 ⟨rfl, hb⟩))
    go_ret2
    exact ⟨_, rfl, World.ownsRow_nil _ _ _ _, hb⟩
  · cases h2 : inr q 1 5000
    · have hr : easeCode p q xs = 2 := by simp [easeCode, easeOk, h1, h2]
      have hr' : ease p q xs = [] := by simp [ease, easeOk, h1, h2]
      rw [hr, hr']
      go_enter Try.func45, Try.ntmps45
      go_wp2_with (first | (go_at_call 91; refine (l09Length_c _ _).mono ?_; rintro e w' ⟨rfl, rfl⟩) | (go_at_call 92; refine (l09Shares_c _ _ _ _ hx hl).mono ?_; rintro e w2 ⟨rfl, hb⟩))
      go_ret2
      exact ⟨_, rfl, World.ownsRow_nil _ _ _ _, hb⟩
    · cases h3 : okShares xs
      · have hr : easeCode p q xs = 2 := by simp [easeCode, easeOk, h1, h2, h3]
        have hr' : ease p q xs = [] := by simp [ease, easeOk, h1, h2, h3]
        rw [hr, hr']
        go_enter Try.func45, Try.ntmps45
        go_wp2_with (first | (go_at_call 91; refine (l09Length_c _ _).mono ?_; rintro e w' ⟨rfl, rfl⟩) | (go_at_call 92; refine (l09Shares_c _ _ _ _ hx hl).mono ?_; rintro e w2 ⟨rfl, hb⟩))
        go_ret2
        exact ⟨_, rfl, World.ownsRow_nil _ _ _ _, hb⟩
      · have hr : easeCode p q xs = 0 := by simp [easeCode, easeOk, h1, h2, h3]
        have hr' : ease p q xs = gen (xs.length + 1) (easeStep p q xs) := by simp [ease, easeOk, h1, h2, h3]
        rw [hr, hr']
        have h1' := inr_true.1 h1
        have h2' := inr_true.1 h2
        have h4 : rises xs 1 999 = true := by simp [okShares] at h3; exact h3.2
        have h5 : xs.length ≤ 10 := by simp [okShares] at h3; omega
        go_enter Try.func45, Try.ntmps45
        go_wp2_with fail
        refine (l09Length_c _ _).mono ?_
        rintro e w' ⟨rfl, rfl⟩
        go_wp2_with fail
        refine (l09Length_c _ _).mono ?_
        rintro e w' ⟨rfl, rfl⟩
        go_wp2_with fail
        refine (l09Shares_c _ _ _ _ hx hl).mono ?_
        rintro e w2 ⟨rfl, hb2⟩
        replace hb := upw hb hb2
        go_wp2_with fail
        go_loopw [8, 9, 10] (fun v s i wr => ∃ k : Nat, k ≤ xs.length + 1 ∧ i = .int .i64 k ∧ s = .int .i64 (easeBefore p q xs k) ∧ Own w.heap.size wr 2 v (gen k (easeStep p q xs)) ∧ Below w.heap.size w wr) (fun _ _ i _ => xs.length + 1 - (intOf i).toNat)
        case atStart => exact ⟨0, Nat.zero_le _, rfl, rfl, (own_new _ _).base hb.size, hb.alloc hb.size _⟩
        case round =>
          obtain ⟨k, hk, rfl, rfl, hO, hb⟩ := hrel
          have hlen : (gen k (easeStep p q xs)).length = k := gen_length _ _
          obtain ⟨f1, f2, f3, f4⟩ := ease_facts h1' h2' h4 k
          have f5 := easeBefore_in h1' h2' h4 k
          have E1 := Lib.hid (easeBefore_succ p q xs k)
          by_cases hlt : k < xs.length
          · replace hx := hx.below hb
            obtain ⟨b, off, rfl⟩ := hx.addr hlt
            have c0 := hx.int hlt
            have es := shareAt_lt hlt
            rw [es] at f3
            have ea : easeAt p q xs k = rnd (size (p - q) * xs[k]) 1000 := by unfold easeAt; rw [es]
            rw [ea] at f4
            have EA := Lib.hid ea
            clear es ea
            have HLEN := Lib.hid hlen
            clear hlen
            go_wp2_with (first | (go_at_call 94; refine (l02Size_c _ _ (by omega)).mono ?_; rintro e w' ⟨rfl, rfl⟩) | (go_at_call 93; refine (l02Round_c _ _ _ (by omega) (by omega)).mono ?_; rintro e w' ⟨rfl, rfl⟩) | (at_builtin; refine wpList_push rfl (.tmp 48) (.tmp 52) 22 rfl w.heap.size 2 (.int .i64 0) 8 Try.underlying22 infoInt rfl _ _ (rnd (size (p - q) * xs[k]) 1000 - easeBefore p q xs k) rfl (hO.later ((Below.refl _ _).alloc (Nat.le_refl _) _)) _ _ rfl 2 (heap_alloc_new _ _) (by rw [HLEN.out]; omega) (by decide) (by have := hb.size; simp; omega) ?_; intro v1 w1 hO1 hg1))
            go_roundw
            case rel => exact ⟨k + 1, by omega, by go_num, by rw [E1.out, EA.out], by rw [← gen_succ, easeStep, EA.out]; exact hO1, below_mark (hb.alloc hb.size _) (hO.later ((Below.refl _ _).alloc (Nat.le_refl _) _)) (Nat.le_refl _) hg1⟩
            case measure => simp [intOf]; omega
          · by_cases hle : k < xs.length + 1
            · have es := shareAt_end hlt
              rw [es] at f3
              have ea : easeAt p q xs k = rnd (size (p - q) * 1000) 1000 := by unfold easeAt; rw [es]
              rw [ea] at f4
              have EA := Lib.hid ea
              clear es ea
              have HLEN := Lib.hid hlen
              clear hlen
              go_wp2_with (first | (go_at_call 94; refine (l02Size_c _ _ (by omega)).mono ?_; rintro e w' ⟨rfl, rfl⟩) | (go_at_call 93; refine (l02Round_c _ _ _ (by omega) (by omega)).mono ?_; rintro e w' ⟨rfl, rfl⟩) | (at_builtin; refine wpList_push rfl (.tmp 48) (.tmp 52) 22 rfl w.heap.size 2 (.int .i64 0) 8 Try.underlying22 infoInt rfl _ _ (rnd (size (p - q) * 1000) 1000 - easeBefore p q xs k) rfl (hO.later ((Below.refl _ _).alloc (Nat.le_refl _) _)) _ _ rfl 2 (heap_alloc_new _ _) (by rw [HLEN.out]; omega) (by decide) (by have := hb.size; simp; omega) ?_; intro v1 w1 hO1 hg1))
              go_roundw
              case rel => exact ⟨k + 1, by omega, by go_num, by rw [E1.out, EA.out], by rw [← gen_succ, easeStep, EA.out]; exact hO1, below_mark (hb.alloc hb.size _) (hO.later ((Below.refl _ _).alloc (Nat.le_refl _) _)) (Nat.le_refl _) hg1⟩
              case measure => simp [intOf]; omega
            · go_wp2_with fail
              go_ret2
              obtain rfl : k = xs.length + 1 := by omega
              exact ⟨_, rfl, hO, hb⟩
end Go.Proofs.Ytokoallbhbgkkaa
