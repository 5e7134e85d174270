/- The middle of numbers, by the reference's own sort; the middle of feet. -/
import Derived.Test.YtlaclknhenccdaaMid7
namespace Go.Proofs.Ytlaclknhenccdaa
open Go.RowKit

theorem l00OwnI_c (a : Option Addr) (xs : List Int) (c : Nat) (w : World) (hx : At w a xs) (hn : 0 < xs.length) (hl : xs.length ≤ 1048576) :
    Calls Try.prog 191 #[.slice a xs.length c] w fun e w' => ∃ v, e = .returned v ∧ Own w.heap.size w' 2 v xs ∧ Below w.heap.size w w' := by
  have hc : a = none → c = 0 := fun e => by obtain ⟨b, o, h⟩ := hx.addr hn; rw [h] at e; cases e
  replace hn := Lib.hid hn
  go_enter Try.func191, Try.ntmps191
  go_wp2_with (at_builtin; refine wpList_pushall rfl (.tmp 3) (.tmp 4) 24 rfl w.heap.size 2 (.int .i64 0) 8 Try.underlying24 infoInt rfl _ [] xs rfl (own_new _ _) _ _ rfl hc (hx.below ((Below.refl _ _).alloc (Nat.le_refl _) _)) (by simp; omega) (by decide) (by simp) ?_; intro v1 w1 hO1 hg1)
  have hO1' : Own w.heap.size w1 2 v1 xs := by simpa using hO1
  go_ret
  exact ⟨_, rfl, hO1', ((Below.refl _ _).alloc (Nat.le_refl _) _).grown hg1 (by simp) (fun k hk => by have : w.heap.size = k := Option.some.inj hk; omega)⟩
set_option maxHeartbeats 3200000 in
theorem l02Middle_c (a : Option Addr) (xs : List Int) (c : Nat) (w : World) (hx : At w a xs) (hn : 0 < xs.length) (hl : xs.length ≤ 1000) :
    Calls Try.prog 157 #[.slice a xs.length c] w fun e w' => e = .returned (.int .i64 (midOf xs)) ∧ Below w.heap.size w w' := by
  obtain ⟨n, hne⟩ : ∃ n, n = xs.length := ⟨_, rfl⟩
  have hC := Lib.hid (l00OwnI_c a xs c w hx hn (by omega))
  rw [← hne] at hC hn hl ⊢
  replace hne := Lib.hid hne
  clear hx
  go_enter Try.func157, Try.ntmps157
  go_wp2_with fail
  refine hC.out.mono ?_
  rintro e w1 ⟨v1, rfl, hO1, hb1⟩
  obtain ⟨gb, cap, hv⟩ := hO1.row (by rw [← hne.out]; exact hn)
  rw [← hne.out] at hv
  subst hv
  have h1 := Lib.hid (show Own w.heap.size w1 2 (.slice (some ⟨gb, 0, none⟩) n cap) (srt (xs.take 1) ++ xs.drop 1) by rw [srt_one, List.take_append_drop]; exact hO1)
  clear hO1 hC
  go_wp2_with fail
  go_loopw [4, 5, 6] (fun i _ _ wr => ∃ k : Nat, 1 ≤ k ∧ k ≤ n ∧ i = .int .i64 k ∧ Hid (Own w.heap.size wr 2 (.slice (some ⟨gb, 0, none⟩) n cap) (srt (xs.take k) ++ xs.drop k)) ∧ Below w.heap.size w wr) (fun i _ _ _ => n - (intOf i).toNat)
  case atStart => exact ⟨1, Nat.le_refl _, hn, rfl, h1, hb1⟩
  case round =>
    clear h1 hb1
    obtain ⟨i, hi1, hi, rfl, hO, hb⟩ := hrel
    obtain ⟨wa, hwa⟩ : ∃ wo : World, wo = wr := ⟨_, rfl⟩
    subst hwa
    by_cases hlt : i < n
    · have hix : i < xs.length := by rw [← hne.out]; exact hlt
      have hsl : (srt (xs.take i)).length = i := by rw [srt_length, List.length_take]; omega
      have hss := Lib.hid (srt_sorted (xs.take i))
      have hfin := Lib.hid (fun k h1 h2 => sunk_srt (k := k) hix h1 h2)
      have hd : xs.drop i = xs[i] :: xs.drop (i + 1) := List.drop_eq_getElem_cons hix
      obtain ⟨s, hs⟩ : ∃ s, s = srt (xs.take i) := ⟨_, rfl⟩
      obtain ⟨X, hX⟩ : ∃ X, X = xs[i] := ⟨_, rfl⟩
      obtain ⟨R, hR⟩ : ∃ R, R = xs.drop (i + 1) := ⟨_, rfl⟩
      have hRl : i + 1 + R.length = n := by rw [hR, List.length_drop, hne.out]; omega
      rw [← hX, ← hR] at hd
      rw [← hs, hd] at hO
      rw [← hs] at hsl hss
      simp only [← hs, ← hX] at hfin
      have hO2 : Hid (Own w.heap.size wa 2 (.slice (some ⟨gb, 0, none⟩) n cap) (sunk s X i ++ R)) := Lib.hid (by
        have e := sunk_end s X
        rw [hsl] at e
        rw [e, List.append_assoc]; exact hO.out)
      replace hs := Lib.hid hs
      replace hR := Lib.hid hR
      replace hd := Lib.hid hd
      clear hO
      clear hX hix
      replace hsl := Lib.hid hsl
      replace hRl := Lib.hid hRl
      go_wp2_with fail
      go_loopw [5, 6] (fun q _ wr => ∃ k : Nat, k ≤ i ∧ q = .int .i64 k ∧ Hid (∀ y ∈ s.drop k, X < y) ∧ Hid (Own w.heap.size wr 2 (.slice (some ⟨gb, 0, none⟩) n cap) (sunk s X k ++ R)) ∧ Below w.heap.size w wr) (fun q _ _ => (intOf q).toNat)
      case atStart => exact ⟨i, Nat.le_refl _, rfl, Lib.hid (fun y hy => by rw [List.drop_of_length_le (by rw [hsl.out]; exact Nat.le_refl _)] at hy; simp at hy), hO2, hb⟩
      case round =>
        clear hO2 hb
        obtain ⟨k, hk, rfl, hgt, hO, hb⟩ := hrel
        obtain ⟨wb, hwb⟩ : ∃ wo : World, wo = wr := ⟨_, rfl⟩
        subst hwb
        have hLn : (sunk s X k ++ R).length = n := by rw [List.length_append, sunk_length, hsl.out]; exact hRl.out
        cases k with
        | zero =>
          have hend := hfin.out 0 hgt.out (fun y hy => by simp at hy)
          have hO5 : Hid (Own w.heap.size wb 2 (.slice (some ⟨gb, 0, none⟩) n cap) (srt (xs.take (i + 1)) ++ xs.drop (i + 1))) := Lib.hid (by rw [← hend, ← hR.out]; exact hO.out)
          clear hend hO hLn
          go_wp2_with fail
          refine wp_region_quiet_below (by kernel_rfl) (by kernel_rfl) ?_
          repeat (go_big_quiet_step (fail))
          refine wpQuiet_nil ?_
          intro wq hw'
          have hG := grown_of hw'
          have hO6 := Lib.hid (hO5.out.later hG)
          have hb6 := upw hb hG
          clear hw' hG hO5
          go_wp2_with fail
          go_roundw
          case rel => exact ⟨i + 1, by omega, by omega, by first | rfl | go_num, hO6, hb6⟩
          case measure => first | (simp [intOf]; done) | (simp [intOf]; omega)
        | succ q =>
          have hqs : q + 1 ≤ s.length := by rw [hsl.out]; exact hk
          have hq1 : ((q + 1 : Nat) : Int) - 1 = q := by omega
          have hqp : (0 : Int) < ((q + 1 : Nat) : Int) := by omega
          have hqn : q + 1 < n := by omega
          have hqnI : ((q : Int)) < n := by omega
          have A := hO.out.at'
          have hL1 : q < (sunk s X (q + 1) ++ R).length := by rw [hLn]; omega
          have hL2 : q + 1 < (sunk s X (q + 1) ++ R).length := by rw [hLn]; exact hqn
          have d0 := A.int hL1
          have d1 := A.int hL2
          have l1 : q < (sunk s X (q + 1)).length := by rw [sunk_length]; omega
          have l2 : q + 1 < (sunk s X (q + 1)).length := by rw [sunk_length]; omega
          rw [List.getElem_append_left l1, sunk_before hqs, Nat.zero_add] at d0
          rw [List.getElem_append_left l2, sunk_at (by omega), Nat.zero_add] at d1
          have hstep := Lib.hid (sunk_step (x := X) hqs)
          have hle := Lib.hid (sunk_le (x := X) hss.out hqs)
          have hlt2 := Lib.hid (fun h => sunk_lt (x := X) hqs hgt.out h)
          have hend := Lib.hid (fun h2 => hfin.out (q + 1) hgt.out h2)
          obtain ⟨Y, hY⟩ : ∃ Y, Y = s[q] := ⟨_, rfl⟩
          rw [← hY] at d0 hstep hle hlt2
          clear hY A l1 l2
          have d0r := rg d0
          have d1r := rg d1
          have hn1 : ((q + 1 : Nat) : Int) < n := by omega
          by_cases hXY : X < Y
          · have t1 : decide (X < Y) = true := by simpa using hXY
            have hgt2 := Lib.hid (hlt2.out hXY)
            replace hXY := Lib.hid hXY
            clear hle hlt2 hend hgt
            go_wp2_with fail
            refine wp_region_quiet_below (by kernel_rfl) (by kernel_rfl) ?_
            repeat (go_big_quiet_step (fail))
            refine wpQuiet_nil ?_
            intro wq hw'
            have hG := grown_of hw'
            have hO6 := Lib.hid (hO.out.later hG)
            have hb6 := upw hb hG
            replace d0 := kept_cell d0 hG
            replace d1 := kept_cell d1 hG
            clear hw' hG hO hb d0r d1r t1
            have hset := Lib.hid (show (((sunk s X (q + 1) ++ R).set (q + 1) Y).set q X) = sunk s X q ++ R by
              rw [List.set_append_left _ _ (by rw [sunk_length]; omega), List.set_append_left _ _ (by rw [List.length_set, sunk_length]; omega), hstep.out])
            obtain ⟨L, hL⟩ : ∃ L, L = sunk s X (q + 1) ++ R := ⟨_, rfl⟩
            rw [← hL] at hO6 hset hL1 hL2 hLn
            have hLn' := Lib.hid hLn.symm
            have hLs : q < (L.set (q + 1) Y).length := by rw [List.length_set]; exact hL1
            have hLn2 := Lib.hid (show n = (L.set (q + 1) Y).length by rw [List.length_set]; exact hLn.symm)
            clear hL hstep hss hsl hRl hLn
            go_wp2_with (first | ((with_reducible refine at_st 2 (.tmp 43) (.tmp 42) ?_); refine wpList_store_own rfl 2 (.tmp 43) (.tmp 42) rfl w.heap.size 2 gb cap n L (q + 1) _ Y rfl (by simp [Flat.k]) rfl (by kernel_rfl) hLn'.out hO6.out hL2 ?_; intro w8 hO8 hg8) | ((with_reducible refine at_st 2 (.tmp 48) (.tmp 47) ?_); refine wpList_store_own rfl 2 (.tmp 48) (.tmp 47) rfl w.heap.size 2 gb cap n (L.set (q + 1) Y) q _ X rfl (by simp [Flat.k]) rfl (by kernel_rfl) hLn2.out hO8 hLs ?_; intro w9 hO9 hg9))
            have hb9 := below_mark (below_mark hb6 hO6.out (Nat.le_refl _) hg8) hO8 (Nat.le_refl _) hg9
            go_roundw
            case rel => exact ⟨q, by omega, by first | rfl | go_num, hgt2, Lib.hid (by rw [← hset.out]; exact hO9), hb9⟩
            case measure => first | (simp [intOf]; done) | (simp [intOf]; omega)
          · have t1 : decide (X < Y) = false := by simpa using hXY
            have hend2 := hend.out (hle.out (by omega))
            have hO5 : Hid (Own w.heap.size wb 2 (.slice (some ⟨gb, 0, none⟩) n cap) (srt (xs.take (i + 1)) ++ xs.drop (i + 1))) := Lib.hid (by rw [← hend2, ← hR.out]; exact hO.out)
            replace hXY := Lib.hid hXY
            clear hend hend2 hle hlt2 hstep hO
            go_wp2_with fail
            refine wp_region_quiet_below (by kernel_rfl) (by kernel_rfl) ?_
            repeat (go_big_quiet_step (fail))
            refine wpQuiet_nil ?_
            intro wq hw'
            have hG := grown_of hw'
            have hO6 := Lib.hid (hO5.out.later hG)
            have hb6 := upw hb hG
            clear hw' hG hO5
            go_wp2_with fail
            go_roundw
            case rel => exact ⟨i + 1, by omega, by omega, by first | rfl | go_num, hO6, hb6⟩
            case measure => first | (simp [intOf]; done) | (simp [intOf]; omega)
    · obtain rfl : i = n := by omega
      have hO3 : Hid (Own w.heap.size wa 2 (.slice (some ⟨gb, 0, none⟩) i cap) (srt xs)) := Lib.hid (by
        have h := hO.out
        rw [List.take_of_length_le (by rw [hne.out]; exact Nat.le_refl _), List.drop_of_length_le (by rw [hne.out]; exact Nat.le_refl _), List.append_nil] at h
        exact h)
      obtain ⟨m, hm⟩ : ∃ m, m = (i - 1) / 2 := ⟨_, rfl⟩
      have hmi : ((i : Int) - 1) / 2 = ((m : Nat) : Int) := by omega
      have hml : m < (srt xs).length := by rw [srt_length, ← hne.out]; omega
      have hmlI : (m : Int) < i := by omega
      have d0 := hO3.out.at'.int hml
      rw [Nat.zero_add] at d0
      have hE := Lib.hid (show midOf xs = (srt xs)[m] by
        obtain ⟨h', e⟩ := mid_get (xs := xs) (by rw [← hne.out]; exact hn)
        rw [e]; congr 1; rw [hm, hne.out])
      obtain ⟨Z, hZ⟩ : ∃ Z, Z = (srt xs)[m] := ⟨_, rfl⟩
      rw [← hZ] at d0 hE
      clear hZ hm hml hO
      go_wp2_with fail
      go_ret
      exact ⟨ret_int hE.out.symm, hb⟩
set_option maxHeartbeats 800000 in
theorem l02Mid_c (a : Option Addr) (fs : List Foot) (c : Nat) (w : World) (hx : At w a fs) (hl : fs.length ≤ 1000) (hn : 0 < fs.length) :
    Calls Try.prog 110 #[.slice a fs.length c] w fun e w' => e = .returned (.agg #[.int .i64 (midFoot fs).Length, .int .i64 (midFoot fs).Ball, .int .i64 (midFoot fs).Instep, .int .i64 (midFoot fs).Heel]) ∧ Below w.heap.size w w' := by
  obtain ⟨w1, hw1⟩ : ∃ w1, w1 = w.alloc (.cells #[.int .i64 0, .int .i64 0, .int .i64 0, .int .i64 0] 62) := ⟨_, rfl⟩
  have D1 := (Sp.refl w).alloc 62 #[.int .i64 0, .int .i64 0, .int .i64 0, .int .i64 0] [(⟨0, 0, 0, 0⟩ : Foot)] rfl (by simp)
  rw [← hw1] at D1
  simp only [List.length_singleton] at D1
  obtain ⟨w2, hw2⟩ : ∃ w2, w2 = w1.alloc (.cells #[] 2) := ⟨_, rfl⟩
  have D := D1.add (newB w1 (.cells #[] 2)) (own_new (α := Int) w1 2)
  rw [← hw2] at D
  replace D := Lib.hid D
  replace hw1 := Lib.hid hw1
  replace hw2 := Lib.hid hw2
  clear D1
  obtain ⟨n1, hn1⟩ : ∃ n1, n1 = w1.heap.size := ⟨_, rfl⟩
  rw [← hn1] at D
  go_enter Try.func110, Try.ntmps110
  go_wp2_with (first | rw [← hw1.out] | rw [← hw2.out])
  rw [← hn1]
  clear hn1 hw1 hw2
  go_loopw [3, 4] (fun v i wr => ∃ k : Nat, k ≤ 4 ∧ i = .int .i64 k ∧ Hid (Sp w wr [ite' 2 v (gen k fun j => midOf (col j fs)), ite' 62 (.slice (some ⟨w.heap.size, 0, none⟩) 1 1) [(⟨0, 0, 0, 0⟩ : Foot)]])) (fun _ i _ => 4 - (intOf i).toNat)
  case atStart => exact ⟨0, by omega, rfl, D⟩
  case round =>
    clear D
    obtain ⟨k, hk, rfl, D⟩ := hrel
    obtain ⟨wa, hwa⟩ : ∃ wo : World, wo = wr := ⟨_, rfl⟩
    subst hwa
    by_cases hlt : k < 4
    · have hlt4 : (k : Int) < 4 := by omega
      have hgs := Lib.hid (show gen (k + 1) (fun j => midOf (col j fs)) = gen k (fun j => midOf (col j fs)) ++ [midOf (col k fs)] by simp [gen, List.range_succ])
      have hgl : (gen k fun j => midOf (col j fs)).length = k := gen_length _ _
      have hcl := Lib.hid (col_length k fs)
      obtain ⟨G, hG⟩ : ∃ G, G = gen k fun j => midOf (col j fs) := ⟨_, rfl⟩
      rw [← hG] at D hgs hgl
      clear hG
      have hGl : G.length + 1 ≤ 4294967296 := by omega
      clear hgl
      go_wp2_with fail
      refine (l02Column_c a fs c k wa (hx.below D.out.up) hl hlt).mono ?_
      rintro e w5 ⟨v5, rfl, hO5, hb5⟩
      obtain ⟨a5, c5, rfl⟩ := own_slice hO5
      have hMid := Lib.hid (l02Middle_c a5 (col k fs) c5 w5 hO5.at' (by rw [hcl.out]; exact hn) (by rw [hcl.out]; exact hl))
      replace D := Lib.hid (D.out.later hb5)
      obtain ⟨C, hC⟩ : ∃ C, C = col k fs := ⟨_, rfl⟩
      rw [← hC] at hMid hgs ⊢
      clear hC hO5 hb5 hcl
      go_wp2_with fail
      refine hMid.out.mono ?_
      rintro e w6 ⟨rfl, hb6⟩
      replace D := Lib.hid (D.out.later hb6)
      obtain ⟨z, hz⟩ : ∃ z, z = midOf C := ⟨_, rfl⟩
      rw [← hz] at hgs
      rw [← hz]
      clear hz hMid hb6
      have hsz := D.out.up.size
      go_wp2_with (at_builtin; refine wpList_pushTo rfl (.tmp 10) (.tmp 15) 24 rfl w.heap.size 2 (.int .i64 0) 8 Try.underlying24 infoInt rfl _ G z rfl ((D.out.get 0 rfl).later (newB _ _)) _ _ rfl 2 (heap_alloc_new _ _) hGl (by decide) (by simp; omega) ?_; intro g' cap w7 hO7 hg7 hl7)
      have D7 := Lib.hid ((D.out.later (newB _ _)).push 0 rfl hO7 hg7 hl7)
      go_roundw
      case rel => exact ⟨k + 1, by omega, by first | rfl | go_num, Lib.hid (by rw [hgs.out]; exact D7.out)⟩
      case measure => first | (simp [intOf]; done) | (simp [intOf]; omega)
    · obtain rfl : k = 4 := by omega
      have hA := (D.out.get 0 rfl).at
      obtain ⟨a4, c4, hv4, hA4⟩ := hA
      have e4 : (gen 4 fun j => midOf (col j fs)) = [midOf (col 0 fs), midOf (col 1 fs), midOf (col 2 fs), midOf (col 3 fs)] := rfl
      rw [e4] at hA4 hv4
      have hv4' : u3 = .slice a4 4 c4 := hv4
      subst hv4'
      have hOf := Lib.hid (l02Of_c a4 (midOf (col 0 fs)) (midOf (col 1 fs)) (midOf (col 2 fs)) (midOf (col 3 fs)) 4 c4 wa hA4 rfl)
      clear hv4 hA4
      obtain ⟨F, hF⟩ : ∃ F, F = midFoot fs := ⟨_, rfl⟩
      rw [show midOf (col 0 fs) = F.Length by rw [hF]; rfl, show midOf (col 1 fs) = F.Ball by rw [hF]; rfl, show midOf (col 2 fs) = F.Instep by rw [hF]; rfl, show midOf (col 3 fs) = F.Heel by rw [hF]; rfl] at hOf
      replace hF := Lib.hid hF
      replace D := Lib.hid D.out.tail
      clear e4
      go_wp2_with fail
      refine hOf.out.mono ?_
      rintro e w5 ⟨rfl, hb5⟩
      replace D := Lib.hid (D.out.later hb5)
      go_wp2_with ((with_reducible refine at_st 62 (.tmp 2) (.tmp 18) ?_); refine wpList_store_own rfl 62 (.tmp 2) (.tmp 18) rfl w.heap.size 62 _ 1 1 [(⟨0, 0, 0, 0⟩ : Foot)] 0 _ F rfl rfl rfl (by kernel_rfl) rfl (D.out.get 0 rfl) (by simp) ?_; intro wz hRz hgz)
      have Dz := Lib.hid (D.out.set 0 rfl hRz hgz (Or.inl rfl))
      obtain ⟨q0, q1, q2, q3⟩ := foot1_cells (Dz.out.get 0 rfl)
      refine bodyPost_ret (v := .agg #[.int .i64 F.Length, .int .i64 F.Ball, .int .i64 F.Instep, .int .i64 F.Heel]) (by simp [results, Try.results110, go_sem, q0, q1, q2, q3]) rfl ?_
      exact ⟨by rw [hF.out], Dz.out.up⟩
theorem specMiddleFoot_ok (a : Option Addr) (fs : List Foot) (c : Nat) (w : World) (hx : At w a fs) (hl : fs.length ≤ 30) (hn : 0 < fs.length) (hv : ∀ f ∈ fs, okFoot f = true) :
    Calls Try.prog 46 #[.slice a fs.length c] w fun e w' => e = .returned (.tuple #[.agg #[.int .i64 (midFoot fs).Length, .int .i64 (midFoot fs).Ball, .int .i64 (midFoot fs).Instep, .int .i64 (midFoot fs).Heel], .int .i64 0]) ∧ Below w.heap.size w w' := by
  obtain ⟨w1, hw1⟩ : ∃ w1, w1 = w.alloc (.cells #[.int .i64 0, .int .i64 0, .int .i64 0, .int .i64 0] 62) := ⟨_, rfl⟩
  have hb : Below w.heap.size w w1 := by rw [hw1]; exact newB _ _
  have hR : Own w.heap.size w1 62 (.slice (some ⟨w.heap.size, 0, none⟩) 1 1) [(⟨0, 0, 0, 0⟩ : Foot)] := by rw [hw1]; exact own_foot1 w _ ⟨0, 0, 0, 0⟩
  have hC1 := Lib.hid (l02Code_ok a fs c 0 w1 (hx.below hb) hl hn hv (by omega))
  have hC := Lib.hid (fun w' h => l02Mid_c a fs c w' h (by omega) hn)
  replace hw1 := Lib.hid hw1
  replace hR := Lib.hid hR
  obtain ⟨F, hF⟩ : ∃ F, F = midFoot fs := ⟨_, rfl⟩
  rw [← hF] at hC ⊢
  clear hF
  replace hv := Lib.hid hv
  go_enter Try.func46, Try.ntmps46
  go_wp2_with (rw [← hw1.out])
  refine hC1.out.mono ?_
  rintro e w2 ⟨rfl, hb2⟩
  replace hR := Lib.hid (hR.out.later hb2)
  replace hb := upw hb hb2
  go_wp2_with fail
  refine (hC.out _ (hx.below hb)).mono ?_
  rintro e w3 ⟨rfl, hb3⟩
  replace hR := Lib.hid (hR.out.later hb3)
  replace hb := upw hb hb3
  go_wp2_with ((with_reducible refine at_st 62 (.tmp 2) (.tmp 12) ?_); refine wpList_store_own rfl 62 (.tmp 2) (.tmp 12) rfl w.heap.size 62 _ 1 1 [(⟨0, 0, 0, 0⟩ : Foot)] 0 _ F rfl rfl rfl (by kernel_rfl) rfl hR.out (by simp) ?_; intro wz hRz hgz)
  obtain ⟨q0, q1, q2, q3⟩ := foot1_cells hRz
  have hbz := below_mark hb hR.out (Nat.le_refl _) hgz
  refine bodyPost_ret (v := .tuple #[.agg #[.int .i64 F.Length, .int .i64 F.Ball, .int .i64 F.Instep, .int .i64 F.Heel], .int .i64 0]) (by simp [results, Try.results46, go_sem, q0, q1, q2, q3]) rfl ?_
  exact ⟨rfl, hbz⟩
end Go.Proofs.Ytlaclknhenccdaa
