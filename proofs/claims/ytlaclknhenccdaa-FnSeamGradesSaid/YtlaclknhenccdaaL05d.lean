/- Chapter 5: how lengths, sums and proportions are drawn. -/
import Derived.Test.YtlaclknhenccdaaSep
import Derived.Test.YtlaclknhenccdaaLists
import Derived.Test.YtlaclknhenccdaaGradMath
import Derived.Test.YtlaclknhenccdaaL05
namespace Go.Proofs.Ytlaclknhenccdaa
open Go.RowKit

theorem drawSum_c (g M : Nat) (w : World) (hS : SrcAt w g (M + 4)) :
    Calls Try.prog 69 #[.pointer (some ⟨g, 0, none⟩)] w fun e w' => ∃ v : Int, e = .returned (.int .i64 v) ∧ -1 ≤ v ∧ v ≤ 1000001 ∧ SrcAt w' g M ∧ w.grownBy w' (some g) := by
  go_enter Try.func69, Try.ntmps69
  go_wp2_with fail
  refine (one_c g (M + 2) 8 w hS (by omega) (by omega)).mono ?_
  rintro e w2 ⟨b, rfl, hS2, hg2⟩
  cases b
  · go_wp2_with fail
    refine (pick_c g M 3000 w2 hS2 (by omega) (by omega)).mono ?_
    rintro e w3 ⟨v, rfl, v0, v1, hS3, hg3⟩
    go_wp2_with fail
    go_ret
    exact ⟨_, rfl, by omega, by omega, hS3, grownBy_trans hg2 hg3⟩
  · have hb : Below w2.heap.size w2 (w2.alloc (.cells #[.int .i64 (-1), .int .i64 0, .int .i64 1, .int .i64 1000000, .int .i64 1000001] 2)) := newB _ _
    have hA := at_lits w2 2 [-1, 0, 1, 1000000, 1000001]
    go_wp2_with fail
    refine (among_c g M _ [-1, 0, 1, 1000000, 1000001] _ _ (hS2.later hb) hA (off_new hS2.lt) (by simp) (by simp)).mono ?_
    rintro e w3 ⟨v, rfl, hv, hS3, hg3⟩
    go_wp2_with fail
    go_ret
    simp at hv
    exact ⟨_, rfl, by omega, by omega, hS3, grownBy_trans (grownBy_trans hg2 (drew_below g hb)) hg3⟩
def LensIn (xs : List Int) : Prop := ∀ x ∈ xs, -1 ≤ x ∧ x ≤ 10001
theorem LensIn.snoc {xs : List Int} {x : Int} (h : LensIn xs) (hx : -1 ≤ x ∧ x ≤ 10001) : LensIn (xs ++ [x]) := fun y hy => by
  rcases List.mem_append.1 hy with hy | hy
  · exact h y hy
  · rw [List.mem_singleton.1 hy]; exact hx
theorem LensIn.set {xs : List Int} {x : Int} (h : LensIn xs) (i : Nat) (hx : -1 ≤ x ∧ x ≤ 10001) : LensIn (xs.set i x) := fun y hy => by
  rcases List.mem_or_eq_of_mem_set hy with hy | hy
  · exact h y hy
  · rw [hy]; exact hx
set_option maxHeartbeats 3200000 in
theorem drawLengths_c (g M : Nat) (w : World) (hS : SrcAt w g (M + 24)) :
    Calls Try.prog 67 #[.pointer (some ⟨g, 0, none⟩)] w fun e w' => ∃ (v : Value) (xs : List Int), e = .returned v ∧ Own w.heap.size w' 2 v xs ∧ xs.length ≤ 21 ∧ LensIn xs ∧ SrcAt w' g M ∧ w.grownBy w' (some g) := by
  have hD0 := Lib.hid ((Dr.start hS).add (newB w (.cells #[] 2)) (own_new (α := Int) w 2))
  obtain ⟨w1, hw1⟩ : ∃ w1, w1 = w.alloc (.cells #[] 2) := ⟨_, rfl⟩
  rw [← hw1] at hD0
  replace hw1 := Lib.hid hw1
  go_enter Try.func67, Try.ntmps67
  go_wp2_with (rw [← hw1.out])
  refine (pick_c g (M + 22) 7 w1 (hD0.out.src.less (by omega)) (by omega) (by omega)).mono ?_
  rintro e w2 ⟨T, rfl, t0, t1, hS2, hg2⟩
  replace hD0 := Lib.hid (hD0.out.drew hS2 hg2)
  clear hS2 hg2 hw1
  obtain ⟨T, rfl⟩ : ∃ q : Nat, T = q := ⟨T.toNat, by omega⟩
  have hT : T ≤ 6 := by omega
  clear t0 t1
  go_wp2_with fail
  go_loopw [3, 4] (fun v i wr => ∃ (j : Nat) (xs : List Int), i = .int .i64 j ∧ j + xs.length = 1 + T ∧ Hid (LensIn xs) ∧ Hid (Dr w wr g (M + 8 + 2 * j) [ite' 2 v xs])) (fun _ i _ => (intOf i).toNat)
  case atStart => exact ⟨1 + T, [], by first | rfl | go_num, by simp, Lib.hid (fun x hx => by simp at hx), Lib.hid (hD0.out.less (by omega))⟩
  case round =>
    clear hD0
    obtain ⟨j, xs, rfl, hj, hin, hD⟩ := hrel
    cases j with
    | succ j =>
      have hj1 : ((j + 1 : Nat) : Int) - 1 = j := by omega
      have hjp : (0 : Int) < ((j + 1 : Nat) : Int) := by omega
      go_wp2_with fail
      refine (pick_c g (M + 8 + 2 * j) 500 wr (hD.out.src.less (by omega)) (by omega) (by omega)).mono ?_
      rintro e w3 ⟨y, rfl, y0, y1, hS3, hg3⟩
      replace hD := Lib.hid (hD.out.drew hS3 hg3)
      clear hS3 hg3
      go_wp2_with (at_builtin; refine wpList_pushTo rfl (.tmp 14) (.tmp 18) 24 rfl w.heap.size 2 (.int .i64 0) 8 Try.underlying24 infoInt rfl _ xs (1 + y) rfl ((hD.out.get 0 rfl).later (newB _ _)) _ _ rfl 2 (heap_alloc_new _ _) (by omega) (by decide) (by have := hD.out.up.size; simp; omega) ?_; intro g' cap w5 hO5 hg5 hl5)
      have hD5 := Lib.hid ((hD.out.later (newB _ _)).push 0 rfl hO5 hg5 hl5)
      go_roundw
      case rel => exact ⟨j, xs ++ [1 + y], by first | rfl | go_num, by rw [List.length_append, List.length_singleton]; omega, Lib.hid (hin.out.snoc (by omega)), hD5⟩
      case measure => first | (simp [intOf]; done) | (simp [intOf]; omega)
    | zero =>
      obtain ⟨gb, cap, hv⟩ := (hD.out.get 0 rfl).row (by omega)
      rw [hv] at hD ⊢
      clear hv
      go_wp2_with fail
      refine (pick_c g (M + 6) 16 wr (hD.out.src.less (by omega)) (by omega) (by omega)).mono ?_
      rintro e w3 ⟨y, rfl, y0, y1, hS3, hg3⟩
      replace hD := Lib.hid (hD.out.drew hS3 hg3)
      clear hS3 hg3
      by_cases e0 : y = 0
      · subst e0
        have hA := at_lits w3 2 [-1, 0, 1, 10000, 10001]
        obtain ⟨w4, hw4⟩ : ∃ w4, w4 = w3.alloc (.cells #[.int .i64 (-1), .int .i64 0, .int .i64 1, .int .i64 10000, .int .i64 10001] 2) := ⟨_, rfl⟩
        have hb4 : Below w3.heap.size w3 w4 := by rw [hw4]; exact newB _ _
        have hA' : At w4 (some ⟨w3.heap.size, 0, none⟩) [-1, 0, 1, 10000, 10001] := by rw [hw4]; exact hA
        have ho := off_new hD.out.src.lt
        replace hw4 := Lib.hid hw4
        replace hD := Lib.hid (hD.out.later hb4)
        clear hb4 hA
        go_wp2_with (rw [← hw4.out])
        refine (among_c g (M + 4) _ [-1, 0, 1, 10000, 10001] _ _ (hD.out.src.less (by omega)) hA' ho (by simp) (by simp)).mono ?_
        rintro e w5 ⟨z, rfl, hz, hS5, hg5⟩
        have hz' : -1 ≤ z ∧ z ≤ 10001 := by simp at hz; omega
        replace hD := Lib.hid (hD.out.drew hS5 hg5)
        clear hS5 hg5 hz hA' ho
        have hx0 : 0 < xs.length := by omega
        go_wp2_with ((with_reducible refine at_st 2 (.tmp 28) (.tmp 27) ?_); refine wpList_store_own rfl 2 (.tmp 28) (.tmp 27) rfl w.heap.size 2 gb cap xs.length xs 0 0 z rfl rfl rfl (by kernel_rfl) rfl (hD.out.get 0 rfl) hx0 ?_; intro w6 hO6 hg6)
        have hD6 := Lib.hid (hD.out.set 0 rfl hO6 hg6 (Or.inl rfl))
        go_ret
        exact ⟨_, xs.set 0 z, rfl, hD6.out.get 0 rfl, by simp; omega, hin.out.set 0 hz', hD6.out.src.less (by omega), hD6.out.up⟩
      · by_cases e1 : y = 1
        · subst e1
          obtain ⟨w4, hw4⟩ : ∃ w4, w4 = w3.alloc (.cells #[] 2) := ⟨_, rfl⟩
          have hD4 := Lib.hid ((hD.out.add (newB w3 (.cells #[] 2)) (own_new (α := Int) w3 2)).sub (js := [ite' 2 (.slice (some ⟨w3.heap.size, 0, none⟩) 0 0) ([] : List Int)]) (by simp))
          rw [← hw4] at hD4
          have hA := at_lits w4 2 [0, 20, 21]
          obtain ⟨w5, hw5⟩ : ∃ w5, w5 = w4.alloc (.cells #[.int .i64 0, .int .i64 20, .int .i64 21] 2) := ⟨_, rfl⟩
          have hb5 : Below w4.heap.size w4 w5 := by rw [hw5]; exact newB _ _
          have hA' : At w5 (some ⟨w4.heap.size, 0, none⟩) ([0, 20, 21] : List Int) := by rw [hw5]; exact hA
          have ho := off_new hD4.out.src.lt
          replace hw4 := Lib.hid hw4
          replace hw5 := Lib.hid hw5
          replace hD4 := Lib.hid (hD4.out.later hb5)
          clear hb5 hA hD hin
          go_wp2_with (first | rw [← hw4.out] | rw [← hw5.out])
          refine (among_c g (M + 4) _ [0, 20, 21] _ _ (hD4.out.src.less (by omega)) hA' ho (by simp) (by simp)).mono ?_
          rintro e w6 ⟨z, rfl, hz, hS6, hg6⟩
          obtain ⟨q, rfl⟩ : ∃ q : Nat, z = q := ⟨z.toNat, by simp at hz; omega⟩
          have hq : q ≤ 21 := by simp at hz; omega
          replace hD4 := Lib.hid (hD4.out.drew hS6 hg6)
          clear hS6 hg6 hz hA' ho hw4 hw5
          obtain ⟨n3, hn3⟩ : ∃ n3, n3 = w3.heap.size := ⟨_, rfl⟩
          rw [← hn3] at hD4
          go_wp2_with fail
          rw [← hn3]
          clear hn3
          go_loopw [3, 5] (fun v i wr => ∃ (j : Nat) (xs : List Int), i = .int .i64 j ∧ j + xs.length ≤ 21 ∧ Hid (LensIn xs) ∧ Hid (Dr w wr g M [ite' 2 v xs])) (fun _ i _ => (intOf i).toNat)
          case atStart => exact ⟨q, [], rfl, by simpa using hq, Lib.hid (fun x hx => by simp at hx), Lib.hid (hD4.out.less (by omega))⟩
          case round =>
            clear hD4
            obtain ⟨j, ys, rfl, hj, hin, hD⟩ := hrel
            cases j with
            | succ j =>
              have hj1 : ((j + 1 : Nat) : Int) - 1 = j := by omega
              have hjp : (0 : Int) < ((j + 1 : Nat) : Int) := by omega
              go_wp2_with (at_builtin; refine wpList_pushTo rfl (.tmp 39) (.tmp 41) 24 rfl w.heap.size 2 (.int .i64 0) 8 Try.underlying24 infoInt rfl _ ys ((j + 1 : Nat) : Int) rfl ((hD.out.get 0 rfl).later (newB _ _)) _ _ rfl 2 (heap_alloc_new _ _) (by omega) (by decide) (by have := hD.out.up.size; simp; omega) ?_; intro g' cap w5 hO5 hg5 hl5)
              have hD5 := Lib.hid ((hD.out.later (newB _ _)).push 0 rfl hO5 hg5 hl5)
              go_roundw
              case rel => exact ⟨j, ys ++ [((j + 1 : Nat) : Int)], by first | rfl | go_num, by simp; omega, Lib.hid (hin.out.snoc (by omega)), hD5⟩
              case measure => first | (simp [intOf]; done) | (simp [intOf]; omega)
            | zero =>
              go_wp2_with fail
              go_ret
              exact ⟨_, ys, rfl, hD.out.get 0 rfl, by omega, hin.out, hD.out.src, hD.out.up⟩
        · go_wp2_with fail
          go_ret
          exact ⟨_, xs, rfl, hD.out.get 0 rfl, by omega, hin.out, hD.out.src.less (by omega), hD.out.up⟩
theorem l05Both_c (ca : Option Addr) (L : List UInt8) (cc : Nat) (w : World) (hx : At w ca L) (hl : L.length ≤ 9223372036854775807) :
    Calls Try.prog 79 #[.slice ca L.length cc] w fun e w' => ∃ (v : Value) (xs : List Int) (n d : Int), e = .returned (.tuple #[v, .int .i64 n, .int .i64 d]) ∧ Own w.heap.size w' 2 v xs ∧ xs.length ≤ 21 ∧ (-1 ≤ n ∧ n ≤ 1001) ∧ (-1 ≤ d ∧ d ≤ 1001) ∧ Below w.heap.size w w' := by
  go_enter Try.func79, Try.ntmps79
  go_wp2_with fail
  refine (l00From_c ca L cc w hx hl).mono ?_
  rintro e w1 ⟨rfl, hS1, hb1⟩
  go_wp2_with fail
  refine (drawLengths_c w.heap.size 20 w1 (hS1.less (by omega))).mono ?_
  rintro e w2 ⟨v, xs, rfl, hO, hxl, _, hS2, hg2⟩
  have hsz := hb1.size
  replace hO := Lib.hid hO
  have D := Lib.hid ((Dr.start (hS1.less (M' := 0) (by omega))).made hS2 hg2 hO.out)
  clear hS2 hg2 hS1 hO
  go_wp2_with fail
  refine (pick_c w.heap.size 18 20 w2 D.out.src (by omega) (by omega)).mono ?_
  rintro e w3 ⟨p, rfl, p0, p1, hS3, hg3⟩
  replace D := Lib.hid (D.out.drew hS3 hg3)
  clear hS3 hg3
  go_wp2_with fail
  refine (pick_c w.heap.size 16 20 w3 D.out.src (by omega) (by omega)).mono ?_
  rintro e w4 ⟨q, rfl, q0, q1, hS4, hg4⟩
  replace D := Lib.hid (D.out.drew hS4 hg4)
  clear hS4 hg4
  go_wp2_with fail
  refine (pick_c w.heap.size 14 12 w4 D.out.src (by omega) (by omega)).mono ?_
  rintro e w5 ⟨y, rfl, y0, y1, hS5, hg5⟩
  replace D := Lib.hid (D.out.drew hS5 hg5)
  clear hS5 hg5
  by_cases e0 : y = 0
  · subst e0
    have hA := at_lits w5 2 [-1, 0, 1, 1000, 1001]
    have hb6 : Below w5.heap.size w5 (w5.alloc (.cells #[.int .i64 (-1), .int .i64 0, .int .i64 1, .int .i64 1000, .int .i64 1001] 2)) := newB _ _
    go_wp2_with fail
    refine (among_c w.heap.size 10 _ [-1, 0, 1, 1000, 1001] _ _ ((D.out.src.less (by omega)).later hb6) hA (off_new D.out.src.lt) (by simp) (by simp)).mono ?_
    rintro e w7 ⟨z, rfl, hz, hS7, hg7⟩
    have D7 := Lib.hid ((D.out.later hb6).drew hS7 hg7)
    simp at hz
    go_wp2_with fail
    go_ret3
    exact ⟨v, xs, z, 20 + q, rfl, (D7.out.get 0 rfl).base hsz, hxl, by omega, by omega, drew_up hb1 D7.out.up (Nat.le_refl _)⟩
  · by_cases e1 : y = 1
    · subst e1
      have hA := at_lits w5 2 [-1, 0, 1, 1000, 1001]
      have hb6 : Below w5.heap.size w5 (w5.alloc (.cells #[.int .i64 (-1), .int .i64 0, .int .i64 1, .int .i64 1000, .int .i64 1001] 2)) := newB _ _
      go_wp2_with fail
      refine (among_c w.heap.size 10 _ [-1, 0, 1, 1000, 1001] _ _ ((D.out.src.less (by omega)).later hb6) hA (off_new D.out.src.lt) (by simp) (by simp)).mono ?_
      rintro e w7 ⟨z, rfl, hz, hS7, hg7⟩
      have D7 := Lib.hid ((D.out.later hb6).drew hS7 hg7)
      simp at hz
      go_wp2_with fail
      go_ret3
      exact ⟨v, xs, 20 + p, z, rfl, (D7.out.get 0 rfl).base hsz, hxl, by omega, by omega, drew_up hb1 D7.out.up (Nat.le_refl _)⟩
    · go_wp2_with fail
      go_ret3
      exact ⟨v, xs, 20 + p, 20 + q, rfl, (D.out.get 0 rfl).base hsz, hxl, by omega, by omega, drew_up hb1 D.out.up (Nat.le_refl _)⟩
theorem drawScaleLengths_c (ca : Option Addr) (L : List UInt8) (cc : Nat) (w : World) (hx : At w ca L) (hl : L.length ≤ 9223372036854775807) :
    Calls Try.prog 15 #[.slice ca L.length cc] w fun e w' => ∃ (v : Value) (xs : List Int) (n d : Int), e = .returned (.tuple #[v, .int .i64 n, .int .i64 d]) ∧ Own w.heap.size w' 2 v xs ∧ xs.length ≤ 21 ∧ (-1 ≤ n ∧ n ≤ 1001) ∧ (-1 ≤ d ∧ d ≤ 1001) ∧ Below w.heap.size w w' := by
  go_enter Try.func15, Try.ntmps15
  go_wp2_with fail
  refine (l05Both_c ca L cc w hx hl).mono ?_
  rintro e w1 ⟨v, xs, n, d, rfl, hO, hxl, hn, hd, hb⟩
  go_wp2_with fail
  go_ret3
  exact ⟨v, xs, n, d, rfl, hO, hxl, hn, hd, hb⟩
theorem drawGradeLengths_c (ca : Option Addr) (L : List UInt8) (cc : Nat) (w : World) (hx : At w ca L) (hl : L.length ≤ 9223372036854775807) :
    Calls Try.prog 12 #[.slice ca L.length cc] w fun e w' => ∃ (v : Value) (xs : List Int) (s : Int), e = .returned (.tuple #[v, .int .i64 s]) ∧ Own w.heap.size w' 2 v xs ∧ xs.length ≤ 21 ∧ (-1 ≤ s ∧ s ≤ 1000001) ∧ Below w.heap.size w w' := by
  go_enter Try.func12, Try.ntmps12
  go_wp2_with fail
  refine (l00From_c ca L cc w hx hl).mono ?_
  rintro e w1 ⟨rfl, hS1, hb1⟩
  go_wp2_with fail
  refine (drawLengths_c w.heap.size 20 w1 (hS1.less (by omega))).mono ?_
  rintro e w2 ⟨v, xs, rfl, hO, hxl, _, hS2, hg2⟩
  have hsz := hb1.size
  have D := Lib.hid ((Dr.start (hS1.less (M' := 0) (by omega))).made hS2 hg2 hO)
  clear hS2 hg2 hS1 hO
  go_wp2_with fail
  refine (drawSum_c w.heap.size 16 w2 D.out.src).mono ?_
  rintro e w3 ⟨s, rfl, s0, s1, hS3, hg3⟩
  replace D := Lib.hid (D.out.drew hS3 hg3)
  clear hS3 hg3
  go_wp2_with fail
  go_ret2
  exact ⟨v, xs, s, rfl, (D.out.get 0 rfl).base hsz, hxl, by omega, drew_up hb1 D.out.up (Nat.le_refl _)⟩
theorem lensIn_sum {xs : List Int} (h : LensIn xs) (hl : xs.length ≤ 21) (k : Nat) : -21 ≤ sumI (xs.take k) ∧ sumI (xs.take k) ≤ 210021 := by
  have key : ∀ ys : List Int, (∀ y ∈ ys, -1 ≤ y ∧ y ≤ 10001) → -(ys.length : Int) ≤ sumI ys ∧ sumI ys ≤ 10001 * ys.length := by
    intro ys
    induction ys with
    | nil => intro _; simp [sumI_nil]
    | cons y ys ih =>
      intro hy
      have h1 := hy y (by simp)
      have h2 := ih fun z hz => hy z (by simp [hz])
      rw [sumI_cons]; simp only [List.length_cons]; omega
  have h1 := key (xs.take k) fun x hx => h x (List.mem_of_mem_take hx)
  have h2 : (xs.take k).length ≤ xs.length := by simp; omega
  omega
set_option maxHeartbeats 3200000 in
theorem drawGradeSeam_c (ca : Option Addr) (L : List UInt8) (cc : Nat) (w : World) (hx : At w ca L) (hl : L.length ≤ 9223372036854775807) :
    Calls Try.prog 9 #[.slice ca L.length cc] w fun e w' => ∃ (v u : Value) (xs ys : List Int) (s : Int), e = .returned (.tuple #[v, u, .int .i64 s]) ∧ Own w.heap.size w' 2 v xs ∧ xs.length ≤ 21 ∧ Own w.heap.size w' 2 u ys ∧ ys.length ≤ 21 ∧ (-1 ≤ s ∧ s ≤ 1000001) ∧ Below w.heap.size w w' := by
  go_enter Try.func9, Try.ntmps9
  go_wp2_with fail
  refine (l00From_c ca L cc w hx hl).mono ?_
  rintro e w1 ⟨rfl, hS1, hb1⟩
  obtain ⟨g, hg⟩ : ∃ g, g = w.heap.size := ⟨_, rfl⟩
  rw [← hg] at hS1 ⊢
  replace hg := Lib.hid hg
  go_wp2_with fail
  refine (drawLengths_c g 60 w1 (hS1.less (by omega))).mono ?_
  rintro e w2 ⟨v, xs, rfl, hO, hxl, hin, hS2, hg2⟩
  have hsz := hb1.size
  have D := Lib.hid ((Dr.start (hS1.less (M' := 0) (by omega))).made hS2 hg2 hO)
  clear hS2 hg2 hS1 hO
  go_wp2_with fail
  refine (drawLengths_c g 36 w2 (D.out.src.less (by omega))).mono ?_
  rintro e w3 ⟨u, ys, rfl, hO, hyl, _, hS3, hg3⟩
  replace D := Lib.hid (D.out.made hS3 hg3 hO)
  clear hS3 hg3 hO
  have hgl : g < w1.heap.size := D.out.lt
  go_wp2_with fail
  refine (one_c g 34 4 w3 (D.out.src.less (by omega)) (by omega) (by omega)).mono ?_
  rintro e w4 ⟨b, rfl, hS4, hg4⟩
  replace D := Lib.hid (D.out.drew hS4 hg4)
  clear hS4 hg4
  obtain ⟨a0, c0, rfl⟩ := own_slice (D.out.get 1 rfl)
  have fin : b = true ∨ xs.length = 0 → ∀ (Q : Exit → Act → World → Prop), True := fun _ _ => trivial
  clear fin
  by_cases hq : b = true ∨ (b = false ∧ xs.length = 0)
  · have hq' : (b || decide (xs.length = 0)) = true := by rcases hq with h | h <;> simp [h]
    rcases hq with h | ⟨h, h0⟩
    · subst h
      clear hq'
      go_wp2_with fail
      refine (drawSum_c g 30 w4 D.out.src).mono ?_
      rintro e w5 ⟨s, rfl, s0, s1, hS5, hg5⟩
      replace D := Lib.hid (D.out.drew hS5 hg5)
      clear hS5 hg5
      go_wp2_with fail
      go_ret3
      exact ⟨_, u, xs, ys, s, rfl, (D.out.get 1 rfl).base hsz, hxl, (D.out.get 0 rfl).base hsz, hyl, by omega, drew_up hb1 D.out.up (by rw [hg.out]; exact Nat.le_refl _)⟩
    · subst h
      obtain rfl : xs = [] := List.eq_nil_of_length_eq_zero h0
      clear hq' h0
      go_wp2_with fail
      refine (drawSum_c g 30 w4 D.out.src).mono ?_
      rintro e w5 ⟨s, rfl, s0, s1, hS5, hg5⟩
      replace D := Lib.hid (D.out.drew hS5 hg5)
      clear hS5 hg5
      go_wp2_with fail
      go_ret3
      exact ⟨_, u, [], ys, s, rfl, (D.out.get 1 rfl).base hsz, hxl, (D.out.get 0 rfl).base hsz, hyl, by omega, drew_up hb1 D.out.up (by rw [hg.out]; exact Nat.le_refl _)⟩
  · have hbf : b = false := by cases b <;> simp_all
    have hx0 : ¬ (xs.length : Int) = 0 := by intro h; apply hq; exact Or.inr ⟨hbf, by omega⟩
    subst hbf
    clear hq
    have hsum : -21 ≤ sumI xs ∧ sumI xs ≤ 210021 := by have := lensIn_sum hin hxl xs.length; rw [List.take_length] at this; exact this
    have hSum := Lib.hid (l02Sum_c a0 xs c0 w4 (D.out.get 1 rfl).at' (by omega) (fun k _ => by have := lensIn_sum hin hxl k; omega))
    obtain ⟨A, hA⟩ : ∃ A, A = sumI xs := ⟨_, rfl⟩
    rw [← hA] at hsum hSum
    clear hA
    go_wp2_with fail
    refine hSum.out.mono ?_
    rintro e w5 ⟨rfl, rfl⟩
    obtain ⟨w5, hw5⟩ : ∃ w5, w5 = w4.alloc (.cells #[] 2) := ⟨_, rfl⟩
    have D5 := Lib.hid ((D.out.add (newB w4 (.cells #[] 2)) (own_new (α := Int) w4 2)).sub (js := [ite' 2 (.slice (some ⟨w4.heap.size, 0, none⟩) 0 0) ([] : List Int), ite' 2 (.slice a0 xs.length c0) xs]) (by simp))
    rw [← hw5] at D5
    replace hw5 := Lib.hid hw5
    obtain ⟨n4, hn4⟩ : ∃ n4, n4 = w4.heap.size := ⟨_, rfl⟩
    rw [← hn4] at D5
    clear D hSum
    go_wp2_with (rw [← hw5.out])
    rw [← hn4]
    clear hn4 hw5
    refine (pick_c g 32 4 w5 (D5.out.src.less (by omega)) (by omega) (by omega)).mono ?_
    rintro e w6 ⟨T, rfl, t0, t1, hS6, hg6⟩
    replace D5 := Lib.hid (D5.out.drew hS6 hg6)
    obtain ⟨T, rfl⟩ : ∃ q : Nat, T = q := ⟨T.toNat, by omega⟩
    have hT : T ≤ 3 := by omega
    clear hS6 hg6 t0 t1
    go_wp2_with fail
    go_loopw [7, 8, 9, 10] (fun v z i _ wr => ∃ (j : Nat) (zs : List Int) (B : Int), i = .int .i64 j ∧ z = .int .i64 B ∧ j + zs.length ≤ 3 ∧ (-21 ≤ B ∧ B ≤ 210021) ∧ Hid (Dr w1 wr g (20 + 2 * j) [ite' 2 v zs, ite' 2 (.slice a0 xs.length c0) xs])) (fun _ _ i _ _ => (intOf i).toNat)
    case atStart => exact ⟨T, [], A, rfl, rfl, by simpa using hT, hsum, Lib.hid (D5.out.less (by omega))⟩
    case round =>
      clear D5 hsum
      obtain ⟨j, zs, B, rfl, rfl, hj, hB, D⟩ := hrel
      by_cases hgo : 0 < j ∧ 50 < B
      · obtain ⟨j, rfl⟩ : ∃ q, j = q + 1 := ⟨j - 1, by omega⟩
        have hj1 : ((j + 1 : Nat) : Int) - 1 = j := by omega
        have hjp : (0 : Int) < ((j + 1 : Nat) : Int) := by omega
        have hB5 := hgo.2
        clear hgo
        go_wp2_with fail
        refine (pick_c g (20 + 2 * j) 40 wr (D.out.src.less (by omega)) (by omega) (by omega)).mono ?_
        rintro e w7 ⟨y, rfl, y0, y1, hS7, hg7⟩
        replace D := Lib.hid (D.out.drew hS7 hg7)
        clear hS7 hg7
        go_wp2_with (at_builtin; refine wpList_pushTo rfl (.tmp 44) (.tmp 46) 24 rfl w1.heap.size 2 (.int .i64 0) 8 Try.underlying24 infoInt rfl _ zs (1 + y) rfl ((D.out.get 0 rfl).later (newB _ _)) _ _ rfl 2 (heap_alloc_new _ _) (by omega) (by decide) (by have := D.out.up.size; simp; omega) ?_; intro g' cap w8 hO8 hg8 hl8)
        have D8 := Lib.hid ((D.out.later (newB _ _)).push 0 rfl hO8 hg8 hl8)
        go_roundw
        case rel => exact ⟨j, zs ++ [1 + y], B - (1 + y), by first | rfl | go_num, rfl, by simp; omega, by omega, D8⟩
        case measure => first | (simp [intOf]; done) | (simp [intOf]; omega)
      · obtain ⟨w9, hw9⟩ : ∃ w9 : World, w9 = wr := ⟨_, rfl⟩
        subst hw9
        have fin : ∀ (w8 : World) (g' cap : Nat), Dr w1 w8 g 20 [ite' 2 (.slice (some ⟨g', 0, none⟩) (zs.length + 1) cap) (zs ++ [B]), ite' 2 (.slice a0 xs.length c0) xs] → ∀ (wz : World) (s : Int), -1 ≤ s → s ≤ 1000001 → SrcAt wz g 16 → w8.grownBy wz (some g) →
            ∃ (v u : Value) (xs' ys' : List Int) (s' : Int), Ending.returned (.tuple #[.slice a0 xs.length c0, .slice (some ⟨g', 0, none⟩) (zs.length + 1) cap, .int .i64 s]) = .returned (.tuple #[v, u, .int .i64 s']) ∧ Own w.heap.size wz 2 v xs' ∧ xs'.length ≤ 21 ∧ Own w.heap.size wz 2 u ys' ∧ ys'.length ≤ 21 ∧ (-1 ≤ s' ∧ s' ≤ 1000001) ∧ Below w.heap.size w wz := fun w8 g' cap D8 wz s s0 s1 hS5 hg5 => by
          have D9 := D8.drew hS5 hg5
          exact ⟨_, _, xs, zs ++ [B], s, rfl, (D9.get 1 rfl).base hsz, hxl, (D9.get 0 rfl).base hsz, by simp; omega, ⟨s0, s1⟩, drew_up hb1 D9.up (by rw [hg.out]; exact Nat.le_refl _)⟩
        replace fin := Lib.hid fin
        have hbB : w1.heap.size ≤ w9.heap.size := D.out.up.size
        have hzl : zs.length + 1 ≤ 4294967296 := by omega
        by_cases hj0 : 0 < j
        · have hB5 : ¬ 50 < B := fun h => hgo ⟨hj0, h⟩
          clear hgo
          go_wp2_with (at_builtin; refine wpList_pushTo rfl (.tmp 51) (.tmp 53) 24 rfl w1.heap.size 2 (.int .i64 0) 8 Try.underlying24 infoInt rfl _ zs B rfl ((D.out.get 0 rfl).later (newB _ _)) _ _ rfl 2 (heap_alloc_new _ _) hzl (by decide) (by simp; omega) ?_; intro g' cap w8 hO8 hg8 hl8)
          have D8 := Lib.hid ((D.out.later (newB _ _)).push 0 rfl hO8 hg8 hl8)
          refine (drawSum_c g 16 w8 (D8.out.src.less (by omega))).mono ?_
          rintro e wz ⟨s, rfl, s0, s1, hS5, hg5⟩
          go_wp2_with fail
          go_ret3
          exact fin.out w8 g' cap (D8.out.less (by omega)) _ _ s0 s1 hS5 hg5
        · clear hgo
          go_wp2_with (at_builtin; refine wpList_pushTo rfl (.tmp 51) (.tmp 53) 24 rfl w1.heap.size 2 (.int .i64 0) 8 Try.underlying24 infoInt rfl _ zs B rfl ((D.out.get 0 rfl).later (newB _ _)) _ _ rfl 2 (heap_alloc_new _ _) hzl (by decide) (by simp; omega) ?_; intro g' cap w8 hO8 hg8 hl8)
          have D8 := Lib.hid ((D.out.later (newB _ _)).push 0 rfl hO8 hg8 hl8)
          refine (drawSum_c g 16 w8 (D8.out.src.less (by omega))).mono ?_
          rintro e wz ⟨s, rfl, s0, s1, hS5, hg5⟩
          go_wp2_with fail
          go_ret3
          exact fin.out w8 g' cap (D8.out.less (by omega)) _ _ s0 s1 hS5 hg5
end Go.Proofs.Ytlaclknhenccdaa
