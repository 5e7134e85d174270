/- Chapter 5, lengths that are scaled, and their errors: what the program and the reference answer. -/
import Derived.Test.YtlaclknhenccdaaL05b
namespace Go.Proofs.Ytlaclknhenccdaa
open Go.RowKit

def slCode (xs : List Int) (num den : Int) : Int := if okScale xs num den then 0 else 2
def slRes (xs : List Int) (num den : Int) : List Int := if okScale xs num den then xs.map (scaledOne num den) else []
def seRes (xs : List Int) (num den : Int) : List Frac := if okScale xs num den then xs.map (errFrac num den) else []
theorem slRes_len (xs : List Int) (num den : Int) : (slRes xs num den).length ≤ 20 ∧ (seRes xs num den).length ≤ 20 := by
  unfold slRes seRes
  split
  · rename_i h
    have := (okLens_iff.1 (okScale_iff.1 h).1).1.2
    simp; exact this
  · simp
theorem scaled_bound {num den x : Int} (hn : 1 ≤ num ∧ num ≤ 1000) (hd : 1 ≤ den ∧ den ≤ 1000) (hx : 1 ≤ x ∧ x ≤ 10000) : (1 ≤ x * num ∧ x * num ≤ 10000000) ∧ (-1 ≤ scaledOne num den x ∧ scaledOne num den x ≤ 10000001) ∧ (-1000 ≤ errOf num den x ∧ errOf num den x ≤ 1000) ∧ (0 ≤ scaledOne num den x * den ∧ scaledOne num den x * den ≤ 10001000) := by
  have h1 : 1 * 1 ≤ x * num := Int.mul_le_mul hx.1 hn.1 (by omega) (by omega)
  have h2 : x * num ≤ 10000 * 1000 := Int.mul_le_mul hx.2 hn.2 (by omega) (by omega)
  have h3 := err_near (num := num) (x := x) hd.1
  have h4 := rnd_bound (x * num) den hd.1
  have h5 : size (x * num) ≤ 10000000 := by unfold size; omega
  have e : errOf num den x = scaledOne num den x * den - x * num := rfl
  have h6 : -1 ≤ scaledOne num den x := by
    rcases Int.lt_or_le (scaledOne num den x) (-1) with h | h
    · have := Int.mul_le_mul_of_nonneg_right (show scaledOne num den x ≤ -2 by omega) (show 0 ≤ den by omega)
      omega
    · exact h
  have h7 : 0 ≤ scaledOne num den x := by
    rcases Int.lt_or_le (scaledOne num den x) 0 with h | h
    · have h8 : scaledOne num den x = -1 := by omega
      rw [h8] at e; omega
    · exact h
  have h8 : 0 ≤ scaledOne num den x * den := Int.mul_nonneg h7 (by omega)
  unfold scaledOne at *
  omega
theorem isScaled_c (a : Option Addr) (xs : List Int) (c : Nat) (num den : Int) (w : World) (hx : At w a xs) (hl : xs.length ≤ 9223372036854775807) :
    Calls Try.prog 80 #[.slice a xs.length c, .int .i64 num, .int .i64 den] w fun e w' => e = .returned (.bool (okScale xs num den)) ∧ Below w.heap.size w w' := by
  have hb := Below.refl w.heap.size w
  unfold okScale
  cases h1 : okLens xs
  · go_enter Try.func80, Try.ntmps80
    go_wp2_with fail
    refine (as_boolB h1 (areLengths_c _ _ _ _ hx hl)).mono ?_
    rintro e w2 ⟨rfl, hb2⟩
    replace hb := upw hb hb2
    go_wp2_with (first | ((with_reducible refine (as_bool h2 (within_c _ _ _ _)).mono ?_); rintro e w' ⟨rfl, rfl⟩) | (refine (within_c _ _ _ _).mono ?_; rintro e w' ⟨rfl, rfl⟩))
    go_ret
    exact ⟨rfl, hb⟩
  · cases h2 : inr num 1 1000
    · go_enter Try.func80, Try.ntmps80
      go_wp2_with fail
      refine (as_boolB h1 (areLengths_c _ _ _ _ hx hl)).mono ?_
      rintro e w2 ⟨rfl, hb2⟩
      replace hb := upw hb hb2
      go_wp2_with (first | ((with_reducible refine (as_bool h2 (within_c _ _ _ _)).mono ?_); rintro e w' ⟨rfl, rfl⟩) | (refine (within_c _ _ _ _).mono ?_; rintro e w' ⟨rfl, rfl⟩))
      go_ret
      exact ⟨rfl, hb⟩
    · go_enter Try.func80, Try.ntmps80
      go_wp2_with fail
      refine (as_boolB h1 (areLengths_c _ _ _ _ hx hl)).mono ?_
      rintro e w2 ⟨rfl, hb2⟩
      replace hb := upw hb hb2
      go_wp2_with (first | ((with_reducible refine (as_bool h2 (within_c _ _ _ _)).mono ?_); rintro e w' ⟨rfl, rfl⟩) | (refine (within_c _ _ _ _).mono ?_; rintro e w' ⟨rfl, rfl⟩))
      go_ret
      exact ⟨rfl, hb⟩
theorem l05Ratio_c (a : Option Addr) (xs : List Int) (c : Nat) (num den : Int) (w : World) (hx : At w a xs) (hl : xs.length ≤ 9223372036854775807) :
    Calls Try.prog 82 #[.slice a xs.length c, .int .i64 num, .int .i64 den] w fun e w' => e = .returned (.int .i64 (slCode xs num den)) ∧ Below w.heap.size w w' := by
  have hb := Below.refl w.heap.size w
  cases h1 : okLens xs
  · have hr : slCode xs num den = 2 := by simp [slCode, okScale, h1]
    rw [hr]
    go_enter Try.func82, Try.ntmps82
    go_wp2_with fail
    refine (as_boolB h1 (l05Lengths_c _ _ _ _ hx hl)).mono ?_
    rintro e w2 ⟨rfl, hb2⟩
    replace hb := upw hb hb2
    go_wp2_with fail
    go_ret
    exact ⟨rfl, hb⟩
  · cases h2 : inr num 1 1000
    · have hr : slCode xs num den = 2 := by simp [slCode, okScale, h2]
      rw [hr]
      go_enter Try.func82, Try.ntmps82
      go_wp2_with fail
      refine (as_boolB h1 (l05Lengths_c _ _ _ _ hx hl)).mono ?_
      rintro e w2 ⟨rfl, hb2⟩
      replace hb := upw hb hb2
      go_wp2_with fail
      refine (as_bool h2 (l00In_c _ _ _ _)).mono ?_
      rintro e w' ⟨rfl, rfl⟩
      go_wp2_with fail
      go_ret
      exact ⟨rfl, hb⟩
    · cases h3 : inr den 1 1000
      · have hr : slCode xs num den = 2 := by simp [slCode, okScale, h3]
        rw [hr]
        go_enter Try.func82, Try.ntmps82
        go_wp2_with fail
        refine (as_boolB h1 (l05Lengths_c _ _ _ _ hx hl)).mono ?_
        rintro e w2 ⟨rfl, hb2⟩
        replace hb := upw hb hb2
        go_wp2_with fail
        refine (as_bool h2 (l00In_c _ _ _ _)).mono ?_
        rintro e w' ⟨rfl, rfl⟩
        go_wp2_with fail
        refine (as_bool h3 (l00In_c _ _ _ _)).mono ?_
        rintro e w' ⟨rfl, rfl⟩
        go_wp2_with fail
        go_ret
        exact ⟨rfl, hb⟩
      · have hr : slCode xs num den = 0 := by simp [slCode, okScale, h1, h2, h3]
        rw [hr]
        go_enter Try.func82, Try.ntmps82
        go_wp2_with fail
        refine (as_boolB h1 (l05Lengths_c _ _ _ _ hx hl)).mono ?_
        rintro e w2 ⟨rfl, hb2⟩
        replace hb := upw hb hb2
        go_wp2_with fail
        refine (as_bool h2 (l00In_c _ _ _ _)).mono ?_
        rintro e w' ⟨rfl, rfl⟩
        go_wp2_with fail
        refine (as_bool h3 (l00In_c _ _ _ _)).mono ?_
        rintro e w' ⟨rfl, rfl⟩
        go_wp2_with fail
        go_ret
        exact ⟨rfl, hb⟩
set_option maxHeartbeats 1600000 in
theorem implScaleLengths_c (a : Option Addr) (xs : List Int) (c : Nat) (num den : Int) (w : World) (hx : At w a xs) (hl : xs.length ≤ 9223372036854775807) :
    Calls Try.prog 16 #[.slice a xs.length c, .int .i64 num, .int .i64 den] w fun e w' => ∃ v, e = .returned (.tuple #[v, .int .i64 (slCode xs num den)]) ∧ Own w.heap.size w' 2 v (slRes xs num den) ∧ Below w.heap.size w w' := by
  have hb := Below.refl w.heap.size w
  cases h1 : okScale xs num den
  · have hr : slCode xs num den = 2 := by simp [slCode, h1]
    have hr' : slRes xs num den = [] := by simp [slRes, h1]
    rw [hr, hr']
    go_enter Try.func16, Try.ntmps16
    go_wp2_with fail
    refine (as_boolB h1 (isScaled_c _ _ _ _ _ _ hx hl)).mono ?_
    rintro e w2 ⟨rfl, hb2⟩
    replace hb := upw hb hb2
    go_wp2_with fail
    go_ret2
    exact ⟨_, rfl, World.ownsRow_nil _ _ _ _, hb⟩
  · have hr : slCode xs num den = 0 := by simp [slCode, h1]
    have hr' : slRes xs num den = xs.map (scaledOne num den) := by simp [slRes, h1]
    rw [hr, hr']
    clear hr hr'
    obtain ⟨g1, g2, g3⟩ := okScale_iff.1 h1
    obtain ⟨g4, g5⟩ := okLens_iff.1 g1
    replace g1 := Lib.hid g1
    replace g5 := Lib.hid g5
    go_enter Try.func16, Try.ntmps16
    go_wp2_with fail
    refine (as_boolB h1 (isScaled_c _ _ _ _ _ _ hx hl)).mono ?_
    rintro e w2 ⟨rfl, hb2⟩
    replace hb := upw hb hb2
    have hO0 := Lib.hid ((own_new (α := Int) w2 2).base hb.size)
    replace hb := hb.alloc hb.size (.cells #[] 2)
    go_wp2_with fail
    go_loopw [8, 10, 19] (fun v _ i wr => ∃ k : Nat, k ≤ xs.length ∧ i = .int .i64 k ∧ Hid (Own w.heap.size wr 2 v ((xs.take k).map (scaledOne num den))) ∧ Below w.heap.size w wr) (fun _ _ i _ => xs.length - (intOf i).toNat)
    case atStart => exact ⟨0, Nat.zero_le _, rfl, hO0, hb⟩
    case round =>
      clear hO0 hb
      obtain ⟨k, hk, rfl, hO, hb⟩ := hrel
      by_cases hlt : k < xs.length
      · replace hx := hx.below hb
        obtain ⟨b, off, rfl⟩ := hx.addr hlt
        have c0 := hx.int hlt
        obtain ⟨m1, m2, m3, m4⟩ := scaled_bound g2 g3 (g5.out _ (List.getElem_mem hlt))
        have hE := Lib.hid (map_take_succ (scaledOne num den) xs k hlt)
        have hLl : ((xs.take k).map (scaledOne num den)).length + 1 ≤ 4294967296 := by simp; omega
        obtain ⟨X, hX⟩ : ∃ X, X = xs[k] := ⟨_, rfl⟩
        rw [← hX] at m1 m2 m3 m4 c0 hE
        replace hX := Lib.hid hX
        have hR := Lib.hid (fun w' => rounded_c (X * num) den w' (by omega) (by omega))
        obtain ⟨P, hP⟩ : ∃ P, P = scaledOne num den X := ⟨_, rfl⟩
        rw [show rnd (X * num) den = scaledOne num den X from rfl, ← hP] at hR
        rw [← hP] at m2 m4 hE
        replace hP := Lib.hid hP
        obtain ⟨L, hL⟩ : ∃ L, L = (xs.take k).map (scaledOne num den) := ⟨_, rfl⟩
        rw [← hL] at hO hE hLl
        replace hL := Lib.hid hL
        go_wp2_with (first | ((with_reducible refine (hR.out _).mono ?_); rintro e w' ⟨rfl, rfl⟩) | (at_builtin; refine wpList_push rfl (.tmp 23) (.tmp 29) 24 rfl w.heap.size 2 (.int .i64 0) 8 Try.underlying24 infoInt rfl _ _ P rfl (hO.out.later ((Below.refl _ _).alloc (Nat.le_refl _) _)) _ _ rfl 2 (heap_alloc_new _ _) hLl (by decide) (by have := hb.size; simp; omega) ?_; intro v1 w1 hO1 hg1))
        go_roundw
        case rel => exact ⟨k + 1, by omega, by go_num, Lib.hid (by rw [← hE.out]; exact hO1), below_mark (hb.alloc hb.size _) (hO.out.later ((Below.refl _ _).alloc (Nat.le_refl _) _)) (Nat.le_refl _) hg1⟩
        case measure => simp [intOf]; omega
      · have e := Lib.hid (List.take_of_length_le (l := xs) (i := k) (by omega))
        go_wp2_with fail
        go_ret2
        exact ⟨_, rfl, by rw [← e.out]; exact hO.out, hb⟩
set_option maxHeartbeats 1600000 in
theorem specScaleLengths_c (a : Option Addr) (xs : List Int) (c : Nat) (num den : Int) (w : World) (hx : At w a xs) (hl : xs.length ≤ 9223372036854775807) :
    Calls Try.prog 17 #[.slice a xs.length c, .int .i64 num, .int .i64 den] w fun e w' => ∃ v, e = .returned (.tuple #[v, .int .i64 (slCode xs num den)]) ∧ Own w.heap.size w' 2 v (slRes xs num den) ∧ Below w.heap.size w w' := by
  have hb := Below.refl w.heap.size w
  have hC := l05Ratio_c a xs c num den w hx hl
  cases h1 : okScale xs num den
  · have hr : slCode xs num den = 2 := by simp [slCode, h1]
    have hr' : slRes xs num den = [] := by simp [slRes, h1]
    rw [hr] at hC ⊢
    rw [hr']
    replace hC := Lib.hid hC
    clear hr hr'
    go_enter Try.func17, Try.ntmps17
    go_wp2_with fail
    refine (hC.out).mono ?_
    rintro e w2 ⟨rfl, hb2⟩
    replace hb := upw hb hb2
    go_wp2_with fail
    go_ret2
    exact ⟨_, rfl, World.ownsRow_nil _ _ _ _, hb⟩
  · have hr : slCode xs num den = 0 := by simp [slCode, h1]
    have hr' : slRes xs num den = xs.map (scaledOne num den) := by simp [slRes, h1]
    rw [hr] at hC ⊢
    rw [hr']
    replace hC := Lib.hid hC
    clear hr hr'
    obtain ⟨g1, g2, g3⟩ := okScale_iff.1 h1
    obtain ⟨g4, g5⟩ := okLens_iff.1 g1
    replace g1 := Lib.hid g1
    replace g5 := Lib.hid g5
    go_enter Try.func17, Try.ntmps17
    go_wp2_with fail
    refine (hC.out).mono ?_
    rintro e w2 ⟨rfl, hb2⟩
    replace hb := upw hb hb2
    have hO0 := Lib.hid ((own_new (α := Int) w2 2).base hb.size)
    replace hb := hb.alloc hb.size (.cells #[] 2)
    go_wp2_with fail
    go_loopw [9, 10] (fun v i wr => ∃ k : Nat, k ≤ xs.length ∧ i = .int .i64 k ∧ Hid (Own w.heap.size wr 2 v ((xs.take k).map (scaledOne num den))) ∧ Below w.heap.size w wr) (fun _ i _ => xs.length - (intOf i).toNat)
    case atStart => exact ⟨0, Nat.zero_le _, rfl, hO0, hb⟩
    case round =>
      clear hO0 hb hC
      obtain ⟨k, hk, rfl, hO, hb⟩ := hrel
      by_cases hlt : k < xs.length
      · replace hx := hx.below hb
        obtain ⟨b, off, rfl⟩ := hx.addr hlt
        have c0 := hx.int hlt
        obtain ⟨m1, m2, m3, m4⟩ := scaled_bound g2 g3 (g5.out _ (List.getElem_mem hlt))
        have hE := Lib.hid (map_take_succ (scaledOne num den) xs k hlt)
        have hLl : ((xs.take k).map (scaledOne num den)).length + 1 ≤ 4294967296 := by simp; omega
        obtain ⟨X, hX⟩ : ∃ X, X = xs[k] := ⟨_, rfl⟩
        rw [← hX] at m1 m2 m3 m4 c0 hE
        replace hX := Lib.hid hX
        have hR := Lib.hid (fun w' => l02Round_c (X * num) den w' (by omega) (by omega))
        obtain ⟨P, hP⟩ : ∃ P, P = scaledOne num den X := ⟨_, rfl⟩
        rw [show rnd (X * num) den = scaledOne num den X from rfl, ← hP] at hR
        rw [← hP] at m2 m4 hE
        replace hP := Lib.hid hP
        obtain ⟨L, hL⟩ : ∃ L, L = (xs.take k).map (scaledOne num den) := ⟨_, rfl⟩
        rw [← hL] at hO hE hLl
        replace hL := Lib.hid hL
        go_wp2_with (first | ((with_reducible refine (hR.out _).mono ?_); rintro e w' ⟨rfl, rfl⟩) | (at_builtin; refine wpList_push rfl (.tmp 25) (.tmp 34) 24 rfl w.heap.size 2 (.int .i64 0) 8 Try.underlying24 infoInt rfl _ _ P rfl (hO.out.later ((Below.refl _ _).alloc (Nat.le_refl _) _)) _ _ rfl 2 (heap_alloc_new _ _) hLl (by decide) (by have := hb.size; simp; omega) ?_; intro v1 w1 hO1 hg1))
        go_roundw
        case rel => exact ⟨k + 1, by omega, by go_num, Lib.hid (by rw [← hE.out]; exact hO1), below_mark (hb.alloc hb.size _) (hO.out.later ((Below.refl _ _).alloc (Nat.le_refl _) _)) (Nat.le_refl _) hg1⟩
        case measure => simp [intOf]; omega
      · have e := Lib.hid (List.take_of_length_le (l := xs) (i := k) (by omega))
        go_wp2_with fail
        go_ret2
        exact ⟨_, rfl, by rw [← e.out]; exact hO.out, hb⟩
theorem l02Gcd_c (a b : Int) (w : World) (ha : 0 ≤ a ∧ a ≤ 1000000000) (hb : 0 ≤ b ∧ b ≤ 1000000000) :
    Calls Try.prog 140 #[.int .i64 a, .int .i64 b] w fun e w' => e = .returned (.int .i64 (gcdI a b)) ∧ Below w.heap.size w w' := by
  go_enter Try.func140, Try.ntmps140
  go_wp2_with fail
  go_loopw [0, 1, 5] (fun p q _ wr => ∃ x y : Int, p = .int .i64 x ∧ q = .int .i64 y ∧ gcdI x y = gcdI a b ∧ (0 ≤ x ∧ x ≤ 1000000000) ∧ (0 ≤ y ∧ y ≤ 1000000000) ∧ Below w.heap.size w wr) (fun _ q _ _ => (intOf q).natAbs)
  case atStart => exact ⟨a, b, rfl, rfl, rfl, ha, hb, Below.refl _ _⟩
  case round =>
    clear ha hb
    obtain ⟨x, y, rfl, rfl, hg, hx, hy, hb⟩ := hrel
    have HG := Lib.hid hg
    clear hg
    by_cases h0 : y = 0
    · subst h0
      go_wp2_with fail
      all_goals go_ret
      all_goals exact ⟨ret_int (by rw [← HG.out, gcdI_zero]; unfold size; omega), hb⟩
    · have hm := tmod_in (a := x) h0
      have hm1 : 0 ≤ x.tmod y := Int.tmod_nonneg y hx.1
      have hm2 : x.tmod y ≤ 1000000000 := by omega
      obtain ⟨z, hz⟩ : ∃ z, z = x.tmod y := ⟨_, rfl⟩
      have hE := Lib.hid (gcdI_step x y)
      rw [← hz] at hm hm1 hm2 hE
      have hz2 := hz.symm
      clear hz
      go_wp2_with fail
      all_goals go_roundw
      case rel => exact ⟨y, z, rfl, by first | rfl | rw [hz2], by rw [hE.out]; exact HG.out, hy, by omega, hb⟩
      case measure => simp [intOf]; omega
theorem l02Make_c (num den : Int) (w : World) (hn : -1000000000 ≤ num ∧ num ≤ 1000000000) (hd : 1 ≤ den ∧ den ≤ 1000000000) :
    Calls Try.prog 85 #[.int .i64 num, .int .i64 den] w fun e w' => e = .returned (.agg #[.int .i64 (lowN num den), .int .i64 (lowD num den)]) ∧ Below w.heap.size w w' := by
  have hg := gcdI_pos (a := num) hd.1
  have hgb := (gcdI_bound (M := 1000000000) hn (by omega : -1000000000 ≤ den ∧ den ≤ 1000000000)).2
  have q1 := tdiv_bound num (gcdI num den)
  have q2 := tdiv_bound den (gcdI num den)
  have hss : 0 ≤ size num ∧ size num ≤ 1000000000 := by unfold size; omega
  have hC := fun w' => l02Gcd_c (size num) den w' hss (by omega)
  have eg : gcdI (size num) den = gcdI num den := by
    have := gcdI_size num den
    rw [show size den = den from by unfold size; omega] at this
    exact this
  rw [eg] at hC
  clear eg
  obtain ⟨x, hx⟩ : ∃ x, x = lowN num den := ⟨_, rfl⟩
  obtain ⟨y, hy⟩ : ∃ y, y = lowD num den := ⟨_, rfl⟩
  rw [← hx, ← hy]
  unfold lowN at hx
  unfold lowD at hy
  generalize gcdI num den = g at *
  rw [← hx] at q1
  rw [← hy] at q2
  unfold size at q1 q2
  have hxw : IntKind.i64.wrap x = x := IntWalk.i64_in _ (by omega)
  have hyw : IntKind.i64.wrap y = y := IntWalk.i64_in _ (by omega)
  have hg0 : ¬ g = 0 := by omega
  have hx2 := hx.symm
  have hy2 := hy.symm
  clear hx hy q1 q2
  obtain ⟨w1, hw1⟩ : ∃ w1, w1 = w.alloc (.cells #[.int .i64 0, .int .i64 0] 39) := ⟨_, rfl⟩
  have hb : Below w.heap.size w w1 := by rw [hw1]; exact newB _ _
  have hR : Own w.heap.size w1 39 (.slice (some ⟨w.heap.size, 0, none⟩) 1 1) [(⟨0, 0⟩ : Frac)] := by rw [hw1]; exact own_frac w _ ⟨0, 0⟩
  replace hw1 := Lib.hid hw1
  replace hR := Lib.hid hR
  replace hC := Lib.hid hC
  obtain ⟨sz, hsz⟩ : ∃ sz, sz = size num := ⟨_, rfl⟩
  have hZ := Lib.hid (fun w' => l02Size_c num w' (by omega))
  rw [← hsz] at hZ hC
  clear hsz hss
  go_enter Try.func85, Try.ntmps85
  go_wp2_with (rw [← hw1.out])
  refine (hZ.out _).mono ?_
  rintro e w2 ⟨rfl, rfl⟩
  go_wp2_with fail
  refine (hC.out _).mono ?_
  rintro e w2 ⟨rfl, hb2⟩
  replace hR := Lib.hid (hR.out.later hb2)
  replace hb := upw hb hb2
  clear hb2 hw1 hC
  go_wp2_with fail
  refine wp_region_tail_below 7 (by kernel_rfl) (by kernel_rfl) (by kernel_rfl) (by simp only [List.take_succ_cons, List.take_zero]; rfl) (by simp only [List.drop_succ_cons, List.drop_zero]; rfl) ?_
  repeat (go_big_quiet_step ((fail)))
  refine wpQuiet_nil ?_
  intro w2 hw'
  replace hb := upw hb (grown_of hw')
  have hw2 := grown_of hw'
  clear hw'
  replace hR := Lib.hid (hR.out.later hw2)
  go_wp2_with ((with_reducible refine at_st 39 (.tmp 4) (.tmp 16) ?_); refine wpList_store_own rfl 39 (.tmp 4) (.tmp 16) rfl w.heap.size 39 _ 1 1 [(⟨0, 0⟩ : Frac)] 0 _ (⟨x, y⟩ : Frac) rfl rfl rfl (by kernel_rfl) rfl hR.out (by simp) ?_; intro wz hRz hgz)
  obtain ⟨q0, q1⟩ := frac_cells hRz
  have hbz := below_mark hb hR.out (Nat.le_refl _) hgz
  refine bodyPost_ret (v := .agg #[.int .i64 x, .int .i64 y]) (by simp [results, Try.results85, go_sem, q0, q1]) rfl ?_
  exact ⟨rfl, hbz⟩
theorem infoFrac : (Try.prog.info? 39).map (fun i => (i.zero, i.size, i.bytes)) = some (some (.agg #[.int .i64 0, .int .i64 0]), 2, 16) := by kernel_rfl
set_option maxHeartbeats 1600000 in
theorem implScaleErrors_c (a : Option Addr) (xs : List Int) (c : Nat) (num den : Int) (w : World) (hx : At w a xs) (hl : xs.length ≤ 9223372036854775807) :
    Calls Try.prog 18 #[.slice a xs.length c, .int .i64 num, .int .i64 den] w fun e w' => ∃ v, e = .returned (.tuple #[v, .int .i64 (slCode xs num den)]) ∧ Own w.heap.size w' 39 v (seRes xs num den) ∧ Below w.heap.size w w' := by
  have hb := Below.refl w.heap.size w
  cases h1 : okScale xs num den
  · have hr : slCode xs num den = 2 := by simp [slCode, h1]
    have hr' : seRes xs num den = [] := by simp [seRes, h1]
    rw [hr, hr']
    go_enter Try.func18, Try.ntmps18
    go_wp2_with fail
    refine (as_boolB h1 (isScaled_c _ _ _ _ _ _ hx hl)).mono ?_
    rintro e w2 ⟨rfl, hb2⟩
    replace hb := upw hb hb2
    go_wp2_with fail
    go_ret2
    exact ⟨_, rfl, World.ownsRow_nil _ _ _ _, hb⟩
  · have hr : slCode xs num den = 0 := by simp [slCode, h1]
    have hr' : seRes xs num den = xs.map (errFrac num den) := by simp [seRes, h1]
    rw [hr, hr']
    clear hr hr'
    obtain ⟨g1, g2, g3⟩ := okScale_iff.1 h1
    obtain ⟨g4, g5⟩ := okLens_iff.1 g1
    replace g1 := Lib.hid g1
    replace g5 := Lib.hid g5
    go_enter Try.func18, Try.ntmps18
    go_wp2_with fail
    refine (as_boolB h1 (isScaled_c _ _ _ _ _ _ hx hl)).mono ?_
    rintro e w2 ⟨rfl, hb2⟩
    replace hb := upw hb hb2
    have hO0 := Lib.hid ((own_new (α := Frac) w2 39).base hb.size)
    replace hb := hb.alloc hb.size (.cells #[] 39)
    go_wp2_with fail
    go_loopw [8, 10, 19] (fun v _ i wr => ∃ k : Nat, k ≤ xs.length ∧ i = .int .i64 k ∧ Hid (Own w.heap.size wr 39 v ((xs.take k).map (errFrac num den))) ∧ Below w.heap.size w wr) (fun _ _ i _ => xs.length - (intOf i).toNat)
    case atStart => exact ⟨0, Nat.zero_le _, rfl, hO0, hb⟩
    case round =>
      clear hO0 hb
      obtain ⟨k, hk, rfl, hO, hb⟩ := hrel
      by_cases hlt : k < xs.length
      · replace hx := hx.below hb
        obtain ⟨b, off, rfl⟩ := hx.addr hlt
        have c0 := hx.int hlt
        obtain ⟨m1, m2, m3, m4⟩ := scaled_bound g2 g3 (g5.out _ (List.getElem_mem hlt))
        have hE := Lib.hid (map_take_succ (errFrac num den) xs k hlt)
        have hLl : ((xs.take k).map (errFrac num den)).length + 1 ≤ 4294967296 := by simp; omega
        obtain ⟨X, hX⟩ : ∃ X, X = xs[k] := ⟨_, rfl⟩
        rw [← hX] at m1 m2 m3 m4 c0 hE
        replace hX := Lib.hid hX
        have hR := Lib.hid (fun w' => rounded_c (X * num) den w' (by omega) (by omega))
        have hQ := Lib.hid (fun w' => lowest_c (errOf num den X) den w' (by omega) (by omega))
        obtain ⟨F, hF⟩ : ∃ F, F = errFrac num den X := ⟨_, rfl⟩
        have f1 : lowN (errOf num den X) den = F.num := by rw [hF]; rfl
        have f2 : lowD (errOf num den X) den = F.den := by rw [hF]; rfl
        rw [f1, f2] at hQ
        rw [← hF] at hE
        clear hF f1 f2
        obtain ⟨P, hP⟩ : ∃ P, P = scaledOne num den X := ⟨_, rfl⟩
        rw [show rnd (X * num) den = scaledOne num den X from rfl, ← hP] at hR
        rw [show errOf num den X = scaledOne num den X * den - X * num from rfl, ← hP] at hQ m3
        rw [← hP] at m2 m4
        replace hP := Lib.hid hP
        obtain ⟨L, hL⟩ : ∃ L, L = (xs.take k).map (errFrac num den) := ⟨_, rfl⟩
        rw [← hL] at hO hE hLl
        replace hL := Lib.hid hL
        go_wp2_with ((with_reducible refine (hR.out _).mono ?_); rintro e w' ⟨rfl, rfl⟩)
        refine (hQ.out _).mono ?_
        rintro e w3 ⟨rfl, hb3⟩
        replace hO := Lib.hid (hO.out.later hb3)
        replace hb := upw hb hb3
        go_wp2_with (at_builtin; refine wpList_push rfl (.tmp 23) (.tmp 37) 34 rfl w.heap.size 39 (.agg #[.int .i64 0, .int .i64 0]) 16 Try.underlying34 infoFrac rfl _ _ F rfl (hO.out.later ((Below.refl _ _).alloc (Nat.le_refl _) _)) _ _ rfl 39 (heap_alloc_new _ _) hLl (by decide) (by have := hb.size; simp; omega) ?_; intro v1 w1 hO1 hg1)
        go_roundw
        case rel => exact ⟨k + 1, by omega, by go_num, Lib.hid (by rw [← hE.out]; exact hO1), below_mark (hb.alloc hb.size _) (hO.out.later ((Below.refl _ _).alloc (Nat.le_refl _) _)) (Nat.le_refl _) hg1⟩
        case measure => simp [intOf]; omega
      · have e := Lib.hid (List.take_of_length_le (l := xs) (i := k) (by omega))
        go_wp2_with fail
        go_ret2
        exact ⟨_, rfl, by rw [← e.out]; exact hO.out, hb⟩
set_option maxHeartbeats 1600000 in
theorem specScaleErrors_c (a : Option Addr) (xs : List Int) (c : Nat) (num den : Int) (w : World) (hx : At w a xs) (hl : xs.length ≤ 9223372036854775807) :
    Calls Try.prog 19 #[.slice a xs.length c, .int .i64 num, .int .i64 den] w fun e w' => ∃ v, e = .returned (.tuple #[v, .int .i64 (slCode xs num den)]) ∧ Own w.heap.size w' 39 v (seRes xs num den) ∧ Below w.heap.size w w' := by
  have hb := Below.refl w.heap.size w
  have hC := l05Ratio_c a xs c num den w hx hl
  cases h1 : okScale xs num den
  · have hr : slCode xs num den = 2 := by simp [slCode, h1]
    have hr' : seRes xs num den = [] := by simp [seRes, h1]
    rw [hr] at hC ⊢
    rw [hr']
    replace hC := Lib.hid hC
    clear hr hr'
    go_enter Try.func19, Try.ntmps19
    go_wp2_with fail
    refine (hC.out).mono ?_
    rintro e w2 ⟨rfl, hb2⟩
    replace hb := upw hb hb2
    go_wp2_with fail
    go_ret2
    exact ⟨_, rfl, World.ownsRow_nil _ _ _ _, hb⟩
  · have hr : slCode xs num den = 0 := by simp [slCode, h1]
    have hr' : seRes xs num den = xs.map (errFrac num den) := by simp [seRes, h1]
    rw [hr] at hC ⊢
    rw [hr']
    replace hC := Lib.hid hC
    clear hr hr'
    obtain ⟨g1, g2, g3⟩ := okScale_iff.1 h1
    obtain ⟨g4, g5⟩ := okLens_iff.1 g1
    replace g1 := Lib.hid g1
    replace g5 := Lib.hid g5
    go_enter Try.func19, Try.ntmps19
    go_wp2_with fail
    refine (hC.out).mono ?_
    rintro e w2 ⟨rfl, hb2⟩
    replace hb := upw hb hb2
    have hO0 := Lib.hid ((own_new (α := Frac) w2 39).base hb.size)
    replace hb := hb.alloc hb.size (.cells #[] 39)
    go_wp2_with fail
    go_loopw [9, 10, 11] (fun v i _ wr => ∃ k : Nat, k ≤ xs.length ∧ i = .int .i64 k ∧ Hid (Own w.heap.size wr 39 v ((xs.take k).map (errFrac num den))) ∧ Below w.heap.size w wr) (fun _ i _ _ => xs.length - (intOf i).toNat)
    case atStart => exact ⟨0, Nat.zero_le _, rfl, hO0, hb⟩
    case round =>
      clear hO0 hb hC
      obtain ⟨k, hk, rfl, hO, hb⟩ := hrel
      by_cases hlt : k < xs.length
      · replace hx := hx.below hb
        obtain ⟨b, off, rfl⟩ := hx.addr hlt
        have c0 := hx.int hlt
        obtain ⟨m1, m2, m3, m4⟩ := scaled_bound g2 g3 (g5.out _ (List.getElem_mem hlt))
        have hE := Lib.hid (map_take_succ (errFrac num den) xs k hlt)
        have hLl : ((xs.take k).map (errFrac num den)).length + 1 ≤ 4294967296 := by simp; omega
        obtain ⟨X, hX⟩ : ∃ X, X = xs[k] := ⟨_, rfl⟩
        rw [← hX] at m1 m2 m3 m4 c0 hE
        replace hX := Lib.hid hX
        have hR := Lib.hid (fun w' => l02Round_c (X * num) den w' (by omega) (by omega))
        have hQ := Lib.hid (fun w' => l02Make_c (errOf num den X) den w' (by omega) (by omega))
        obtain ⟨F, hF⟩ : ∃ F, F = errFrac num den X := ⟨_, rfl⟩
        have f1 : lowN (errOf num den X) den = F.num := by rw [hF]; rfl
        have f2 : lowD (errOf num den X) den = F.den := by rw [hF]; rfl
        rw [f1, f2] at hQ
        rw [← hF] at hE
        clear hF f1 f2
        obtain ⟨P, hP⟩ : ∃ P, P = scaledOne num den X := ⟨_, rfl⟩
        rw [show rnd (X * num) den = scaledOne num den X from rfl, ← hP] at hR
        rw [show errOf num den X = scaledOne num den X * den - X * num from rfl, ← hP] at hQ m3
        rw [← hP] at m2 m4
        replace hP := Lib.hid hP
        obtain ⟨L, hL⟩ : ∃ L, L = (xs.take k).map (errFrac num den) := ⟨_, rfl⟩
        rw [← hL] at hO hE hLl
        replace hL := Lib.hid hL
        go_wp2_with ((with_reducible refine (hR.out _).mono ?_); rintro e w' ⟨rfl, rfl⟩)
        refine (hQ.out _).mono ?_
        rintro e w3 ⟨rfl, hb3⟩
        replace hO := Lib.hid (hO.out.later hb3)
        replace hb := upw hb hb3
        go_wp2_with (at_builtin; refine wpList_push rfl (.tmp 32) (.tmp 42) 34 rfl w.heap.size 39 (.agg #[.int .i64 0, .int .i64 0]) 16 Try.underlying34 infoFrac rfl _ _ F rfl (hO.out.later ((Below.refl _ _).alloc (Nat.le_refl _) _)) _ _ rfl 39 (heap_alloc_new _ _) hLl (by decide) (by have := hb.size; simp; omega) ?_; intro v1 w1 hO1 hg1)
        go_roundw
        case rel => exact ⟨k + 1, by omega, by go_num, Lib.hid (by rw [← hE.out]; exact hO1), below_mark (hb.alloc hb.size _) (hO.out.later ((Below.refl _ _).alloc (Nat.le_refl _) _)) (Nat.le_refl _) hg1⟩
        case measure => simp [intOf]; omega
      · have e := Lib.hid (List.take_of_length_le (l := xs) (i := k) (by omega))
        go_wp2_with fail
        go_ret2
        exact ⟨_, rfl, by rw [← e.out]; exact hO.out, hb⟩
end Go.Proofs.Ytlaclknhenccdaa
