/- Chapter 5, lengths that are graded: the program's and the reference's. -/
import Derived.Test.YtlaclknhenccdaaGradMath
import Derived.Test.YtlaclknhenccdaaLists
import Derived.Test.YtlaclknhenccdaaSep
import Derived.Test.YtlaclknhenccdaaL09m
namespace Go.Proofs.Ytlaclknhenccdaa
open Go.RowKit

theorem l02Sum_c (a : Option Addr) (xs : List Int) (c : Nat) (w : World) (hx : At w a xs) (hl : xs.length ≤ 9223372036854775807) (hs : ∀ k, k ≤ xs.length → -9223372036854775808 ≤ sumI (xs.take k) ∧ sumI (xs.take k) ≤ 9223372036854775807) :
    Calls Try.prog 70 #[.slice a xs.length c] w fun e w' => e = .returned (.int .i64 (sumI xs)) ∧ w = w' := by
  go_enter Try.func70, Try.ntmps70
  go_wp2
  go_loop [3, 4] (fun s i => ∃ k : Nat, k ≤ xs.length ∧ i = .int .i64 k ∧ s = .int .i64 (sumI (xs.take k))) (fun _ i => xs.length - (intOf i).toNat)
  case atStart => exact ⟨0, Nat.zero_le _, rfl, rfl⟩
  case round =>
    obtain ⟨k, hk, rfl, rfl⟩ := hrel
    by_cases hlt : k < xs.length
    · obtain ⟨b, off, rfl⟩ := hx.addr hlt
      have c0 := hx.int hlt
      have hs1 := hs (k + 1) (by omega)
      have e := sumI_take xs k hlt
      rw [e] at hs1
      have E := Lib.hid e
      clear e hs
      go_wp2
      go_round
      case rel => exact ⟨k + 1, by omega, by go_num, by rw [E.out]⟩
      case measure => simp [intOf]; omega
    · have e : xs.take k = xs := List.take_of_length_le (by omega)
      have E := Lib.hid e
      clear e
      go_wp2
      go_ret
      exact ⟨by rw [E.out]; rfl, rfl⟩
theorem areLengths_c (a : Option Addr) (xs : List Int) (c : Nat) (w : World) (hx : At w a xs) (hl : xs.length ≤ 9223372036854775807) :
    Calls Try.prog 72 #[.slice a xs.length c] w fun e w' => e = .returned (.bool (okLens xs)) ∧ Below w.heap.size w w' := by
  have hO := outside_c a xs c 1 10000 w hx hl
  unfold okLens
  cases h1 : inr xs.length 1 20
  · go_enter Try.func72, Try.ntmps72
    go_wp2_with fail
    refine (as_bool h1 (within_c _ _ _ _)).mono ?_
    rintro e w' ⟨rfl, rfl⟩
    go_wp2_with fail
    go_ret
    exact ⟨rfl, Below.refl _ _⟩
  · go_enter Try.func72, Try.ntmps72
    go_wp2_with fail
    refine (as_bool h1 (within_c _ _ _ _)).mono ?_
    rintro e w' ⟨rfl, rfl⟩
    go_wp2_with fail
    refine hO.mono ?_
    rintro e w2 ⟨rfl, hb2⟩
    go_wp2_with fail
    go_ret
    exact ⟨rfl, hb2⟩
theorem l05Lengths_c (a : Option Addr) (xs : List Int) (c : Nat) (w : World) (hx : At w a xs) (hl : xs.length ≤ 9223372036854775807) :
    Calls Try.prog 76 #[.slice a xs.length c] w fun e w' => e = .returned (.bool (okLens xs)) ∧ Below w.heap.size w w' := by
  go_enter Try.func76, Try.ntmps76
  go_wp2_with fail
  go_loopw [3] (fun i wr => ∃ k : Nat, k ≤ xs.length ∧ i = .int .i64 k ∧ Hid (∀ x ∈ xs.take k, 1 ≤ x ∧ x ≤ 10000) ∧ Below w.heap.size w wr) (fun i _ => xs.length - (intOf i).toNat)
  case atStart => exact ⟨0, Nat.zero_le _, rfl, Lib.hid (fun x h => by simp at h), Below.refl _ _⟩
  case round =>
    obtain ⟨k, hk, rfl, hin, hb⟩ := hrel
    by_cases hlt : k < xs.length
    · replace hx := hx.below hb
      obtain ⟨b, off, rfl⟩ := hx.addr hlt
      have c0 := hx.int hlt
      cases h1 : inr xs[k] 1 10000
      · go_wp2_with (go_at_call 77; refine (as_bool h1 (l00In_c _ _ _ _)).mono ?_; rintro e w' ⟨rfl, rfl⟩)
        go_ret
        refine ⟨ret_bool ?_, hb⟩
        unfold okLens
        have : outs xs 1 10000 = true := by
          unfold outs; rw [List.any_eq_true]; exact ⟨_, List.getElem_mem hlt, by simp [h1]⟩
        rw [this]; simp
      · have h2 := inr_true.1 h1
        have hin2 := Lib.hid (show ∀ x ∈ xs.take (k + 1), 1 ≤ x ∧ x ≤ 10000 from fun x hx => by
          rw [List.take_succ_eq_append_getElem hlt, List.mem_append] at hx
          rcases hx with hx | hx
          · exact hin.out x hx
          · rw [List.mem_singleton.1 hx]; exact h2)
        clear h2
        go_wp2_with (go_at_call 77; refine (as_bool h1 (l00In_c _ _ _ _)).mono ?_; rintro e w' ⟨rfl, rfl⟩)
        go_roundw
        case rel => exact ⟨k + 1, by omega, by go_num, hin2, hb⟩
        case measure => simp [intOf]; omega
    · have hf : outs xs 1 10000 = false := by
        rw [outs_false]
        have := hin.out
        rw [List.take_of_length_le (by omega)] at this
        exact this
      have e : okLens xs = inr xs.length 1 20 := by unfold okLens; rw [hf]; simp
      replace e := Lib.hid e
      clear hf
      go_wp2_with (go_at_call 77; refine (l00In_c _ _ _ _).mono ?_; rintro e w' ⟨rfl, rfl⟩)
      go_ret
      exact ⟨ret_bool e.out.symm, hb⟩
set_option maxHeartbeats 1600000 in
theorem shared_c (a : Option Addr) (xs : List Int) (c : Nat) (s : Int) (w : World) (hx : At w a xs) (hok : okLens xs = true) (hs : 0 ≤ s ∧ s ≤ 1000000) :
    Calls Try.prog 75 #[.slice a xs.length c, .int .i64 s] w fun e w' => ∃ v, e = .returned v ∧ Own w.heap.size w' 2 v (shares s xs) ∧ Below w.heap.size w w' := by
  have hl20 : xs.length ≤ 20 := (okLens_iff.1 hok).1.2
  have hA := lens_all hok
  obtain ⟨w1, hw1⟩ : ∃ w1, w1 = w.alloc (.cells #[] 2) := ⟨_, rfl⟩
  have hb1 : Below w.heap.size w w1 := by rw [hw1]; exact newB _ _
  have hO1 := Lib.hid (show Own w.heap.size w1 2 (.slice (some ⟨w.heap.size, 0, none⟩) 0 0) ([] : List Int) by rw [hw1]; exact own_new w _)
  replace hw1 := Lib.hid hw1
  have hS := Lib.hid (sumOf_c a xs c w1 (hx.below hb1) (by omega) (fun k _ => by have := lens_take hok k; omega))
  have hok' := Lib.hid hok
  clear hok
  obtain ⟨A, hAe⟩ : ∃ A, A = sumI xs := ⟨_, rfl⟩
  rw [← hAe] at hA hS
  replace hAe := Lib.hid hAe
  go_enter Try.func75, Try.ntmps75
  go_wp2_with (rw [← hw1.out])
  refine hS.out.mono ?_
  rintro e w2 ⟨rfl, rfl⟩
  go_wp2_with fail
  go_loopw [5, 7, 9, 15] (fun v b _ i wr => ∃ k : Nat, k ≤ xs.length ∧ i = .int .i64 k ∧ b = .int .i64 (sumI (xs.take k)) ∧ Hid (Own w.heap.size wr 2 v (gen k (share s xs))) ∧ Below w.heap.size w wr) (fun _ _ _ i _ => xs.length - (intOf i).toNat)
  case atStart => exact ⟨0, Nat.zero_le _, rfl, rfl, hO1, hb1⟩
  case round =>
    clear hO1 hb1 hS hw1
    obtain ⟨k, hk, rfl, rfl, hO, hb⟩ := hrel
    by_cases hlt : k < xs.length
    · replace hx := hx.below hb
      obtain ⟨b, off, rfl⟩ := hx.addr hlt
      have c0 := hx.int hlt
      have t0 := lens_take hok'.out k
      have t1 := lens_take hok'.out (k + 1)
      have e1 := sumI_take xs k hlt
      have b0 := till_bound hs hok'.out k
      have b1 := till_bound hs hok'.out (k + 1)
      have m0 := mul_small hs t0
      have m1 := mul_small hs t1
      have E1 := Lib.hid (show till s xs k = rnd (s * sumI (xs.take k)) A by rw [hAe.out]; rfl)
      have E2 := Lib.hid (show till s xs (k + 1) = rnd (s * (sumI (xs.take k) + xs[k])) A by rw [hAe.out, ← e1]; rfl)
      rw [e1] at t1 m1
      have E3 := Lib.hid e1
      have hx1 := (okLens_iff.1 hok'.out).2 _ (List.getElem_mem hlt)
      have hgl : (gen k (share s xs)).length = k := gen_length _ _
      have hgs := Lib.hid (gen_succ k (share s xs))
      have hsh := Lib.hid (show share s xs k = till s xs (k + 1) - till s xs k from rfl)
      clear e1
      obtain ⟨T, hT⟩ : ∃ T, T = sumI (xs.take k) := ⟨_, rfl⟩
      rw [← hT] at t0 t1 m0 m1 E1 E2 E3 ⊢
      obtain ⟨X, hX⟩ : ∃ X, X = xs[k] := ⟨_, rfl⟩
      rw [← hX] at t1 m1 E2 E3 hx1 c0
      replace hT := Lib.hid hT
      replace hX := Lib.hid hX
      rw [E1.out] at b0
      rw [E2.out] at b1
      have hR1 := Lib.hid (fun w' => rounded_c (s * (T + X)) A w' (by omega) (by omega))
      have hR2 := Lib.hid (fun w' => rounded_c (s * T) A w' (by omega) (by omega))
      obtain ⟨P, hP⟩ : ∃ P, P = rnd (s * (T + X)) A := ⟨_, rfl⟩
      obtain ⟨Q, hQ⟩ : ∃ Q, Q = rnd (s * T) A := ⟨_, rfl⟩
      rw [← hP] at b1 hR1 E2
      rw [← hQ] at b0 hR2 E1
      replace hP := Lib.hid hP
      replace hQ := Lib.hid hQ
      obtain ⟨L, hL⟩ : ∃ L, L = gen k (share s xs) := ⟨_, rfl⟩
      rw [← hL] at hO hgl hgs
      replace hL := Lib.hid hL
      have hLl : L.length + 1 ≤ 4294967296 := by omega
      clear hgl
      go_wp2_with (first | ((with_reducible refine (hR1.out _).mono ?_); rintro e w' ⟨rfl, rfl⟩) | ((with_reducible refine (hR2.out _).mono ?_); rintro e w' ⟨rfl, rfl⟩) | (at_builtin; refine wpList_push rfl (.tmp 19) (.tmp 33) 24 rfl w.heap.size 2 (.int .i64 0) 8 Try.underlying24 infoInt rfl _ _ (P - Q) rfl (hO.out.later ((Below.refl _ _).alloc (Nat.le_refl _) _)) _ _ rfl 2 (heap_alloc_new _ _) hLl (by decide) (by have := hb.size; simp; omega) ?_; intro v1 w1 hO1 hg1))
      go_roundw
      case rel => exact ⟨k + 1, by omega, by go_num, by rw [E3.out], Lib.hid (by rw [hgs.out, hsh.out, E1.out, E2.out]; exact hO1), below_mark (hb.alloc hb.size _) (hO.out.later ((Below.refl _ _).alloc (Nat.le_refl _) _)) (Nat.le_refl _) hg1⟩
      case measure => simp [intOf]; omega
    · have e : k = xs.length := by omega
      subst e
      go_wp2_with fail
      go_ret
      exact ⟨_, rfl, hO.out, hb⟩
set_option maxHeartbeats 1600000 in
theorem l05Grow_c (a : Option Addr) (xs : List Int) (c : Nat) (s : Int) (w : World) (hx : At w a xs) (hok : okLens xs = true) (hs : 0 ≤ s ∧ s ≤ 1000000) :
    Calls Try.prog 78 #[.slice a xs.length c, .int .i64 s] w fun e w' => ∃ v, e = .returned v ∧ Own w.heap.size w' 2 v (shares s xs) ∧ Below w.heap.size w w' := by
  have hl20 : xs.length ≤ 20 := (okLens_iff.1 hok).1.2
  have hA := lens_all hok
  have hb1 : Below w.heap.size w (w.alloc (.cells #[] 2)) := newB _ _
  have hO1 := Lib.hid (own_new (α := Int) w 2)
  have hS := Lib.hid (l02Sum_c a xs c w hx (by omega) (fun k _ => by have := lens_take hok k; omega))
  have hok' := Lib.hid hok
  have h0 := Lib.hid (till_zero s hok)
  clear hok
  obtain ⟨A, hAe⟩ : ∃ A, A = sumI xs := ⟨_, rfl⟩
  rw [← hAe] at hA hS
  replace hAe := Lib.hid hAe
  go_enter Try.func78, Try.ntmps78
  go_wp2_with fail
  refine hS.out.mono ?_
  rintro e w2 ⟨rfl, rfl⟩
  go_wp2_with fail
  go_loopw [6, 7, 8, 9, 10] (fun v b d i _ wr => ∃ k : Nat, k ≤ xs.length ∧ i = .int .i64 k ∧ b = .int .i64 (sumI (xs.take k)) ∧ d = .int .i64 (till s xs k) ∧ Hid (Own w.heap.size wr 2 v (gen k (share s xs))) ∧ Below w.heap.size w wr) (fun _ _ _ i _ _ => xs.length - (intOf i).toNat)
  case atStart => exact ⟨0, Nat.zero_le _, rfl, rfl, by rw [h0.out], hO1, hb1⟩
  case round =>
    clear hO1 hb1 hS h0
    obtain ⟨k, hk, rfl, rfl, rfl, hO, hb⟩ := hrel
    by_cases hlt : k < xs.length
    · replace hx := hx.below hb
      obtain ⟨b, off, rfl⟩ := hx.addr hlt
      have c0 := hx.int hlt
      have t0 := lens_take hok'.out k
      have t1 := lens_take hok'.out (k + 1)
      have e1 := sumI_take xs k hlt
      have b0 := till_bound hs hok'.out k
      have b1 := till_bound hs hok'.out (k + 1)
      have m1 := mul_small hs t1
      have E2 := Lib.hid (show till s xs (k + 1) = rnd (s * (sumI (xs.take k) + xs[k])) A by rw [hAe.out, ← e1]; rfl)
      rw [e1] at t1 m1
      have E3 := Lib.hid e1
      have hx1 := (okLens_iff.1 hok'.out).2 _ (List.getElem_mem hlt)
      have hgl : (gen k (share s xs)).length = k := gen_length _ _
      have hgs := Lib.hid (gen_succ k (share s xs))
      have hsh := Lib.hid (show share s xs k = till s xs (k + 1) - till s xs k from rfl)
      clear e1
      obtain ⟨T, hT⟩ : ∃ T, T = sumI (xs.take k) := ⟨_, rfl⟩
      rw [← hT] at t0 t1 m1 E2 E3 ⊢
      obtain ⟨X, hX⟩ : ∃ X, X = xs[k] := ⟨_, rfl⟩
      rw [← hX] at t1 m1 E2 E3 hx1 c0
      replace hT := Lib.hid hT
      replace hX := Lib.hid hX
      have hR1 := Lib.hid (fun w' => l02Round_c (s * (T + X)) A w' (by omega) (by omega))
      rw [E2.out] at b1
      obtain ⟨P, hP⟩ : ∃ P, P = rnd (s * (T + X)) A := ⟨_, rfl⟩
      obtain ⟨Q, hQ⟩ : ∃ Q, Q = till s xs k := ⟨_, rfl⟩
      rw [← hP] at b1 hR1 E2
      rw [← hQ] at b0 hsh ⊢
      replace hP := Lib.hid hP
      replace hQ := Lib.hid hQ
      obtain ⟨L, hL⟩ : ∃ L, L = gen k (share s xs) := ⟨_, rfl⟩
      rw [← hL] at hO hgl hgs
      replace hL := Lib.hid hL
      have hLl : L.length + 1 ≤ 4294967296 := by omega
      clear hgl
      go_wp2_with (first | ((with_reducible refine (hR1.out _).mono ?_); rintro e w' ⟨rfl, rfl⟩) | (at_builtin; refine wpList_push rfl (.tmp 31) (.tmp 35) 24 rfl w.heap.size 2 (.int .i64 0) 8 Try.underlying24 infoInt rfl _ _ (P - Q) rfl (hO.out.later ((Below.refl _ _).alloc (Nat.le_refl _) _)) _ _ rfl 2 (heap_alloc_new _ _) hLl (by decide) (by have := hb.size; simp; omega) ?_; intro v1 w1 hO1 hg1))
      go_roundw
      case rel => exact ⟨k + 1, by omega, by go_num, by rw [E3.out], by rw [E2.out], Lib.hid (by rw [hgs.out, hsh.out, E2.out]; exact hO1), below_mark (hb.alloc hb.size _) (hO.out.later ((Below.refl _ _).alloc (Nat.le_refl _) _)) (Nat.le_refl _) hg1⟩
      case measure => simp [intOf]; omega
    · have e : k = xs.length := by omega
      subst e
      go_wp2_with fail
      go_ret
      exact ⟨_, rfl, hO.out, hb⟩
end Go.Proofs.Ytlaclknhenccdaa
