/- Measures of feet, each kind for itself: eachMeasure. -/
import Derived.Test.YtledlkggggpdpaaGreatDoorMid2
namespace Go.Proofs.YtledlkggggpdpaaGreatDoor
open Go.RowKit

theorem col_take_succ (k : Nat) (fs : List Foot) (j : Nat) (h : j < fs.length) : col k (fs.take (j + 1)) = col k (fs.take j) ++ [kindOf k fs[j]] := by
  unfold col; rw [List.take_succ_eq_append_getElem h, List.map_append]; rfl
/-- What the four kinds give. -/
def each (val : List Int → Int) (fs : List Foot) : List Int := (List.range 4).map fun k => val (srt (col k fs))
theorem each_length (val : List Int → Int) (fs : List Foot) : (each val fs).length = 4 := by simp [each]
theorem each_get (val : List Int → Int) (fs : List Foot) (k : Nat) (h : k < (each val fs).length) : (each val fs)[k] = val (srt (col k fs)) := by simp [each]
theorem each_four (val : List Int → Int) (fs : List Foot) : each val fs = [val (srt (col 0 fs)), val (srt (col 1 fs)), val (srt (col 2 fs)), val (srt (col 3 fs))] := rfl
set_option maxHeartbeats 3200000 in
theorem eachMeasure_c (a : Option Addr) (fs : List Foot) (c K : Nat) (val : List Int → Int) (w : World) (hK : Enters Tryz.prog K) (hx : At w a fs) (hl : fs.length ≤ 1000) (hn : 0 < fs.length)
    (hv : ∀ (g c : Nat) (xs : List Int) (w' : World), xs.length = fs.length → At w' (some ⟨g, 0, none⟩) xs → Calls Tryz.prog K #[.slice (some ⟨g, 0, none⟩) xs.length c] w' fun e w'' => e = .returned (.int .i64 (val xs)) ∧ Below w'.heap.size w' w'') :
    Calls Tryz.prog 137 #[.slice a fs.length c, .func (.func K) #[] #[]] w fun e w' => e = .returned (.agg #[.int .i64 (val (srt (col 0 fs))), .int .i64 (val (srt (col 1 fs))), .int .i64 (val (srt (col 2 fs))), .int .i64 (val (srt (col 3 fs)))]) ∧ Below w.heap.size w w' := by
  unfold Enters at hK
  have HV := Lib.hid hv
  clear hv
  obtain ⟨i0, hi, hz0, hz1, hz2⟩ := info_parts infoInt
  obtain ⟨w1, hw1⟩ : ∃ w1, w1 = w.alloc (.cells #[.int .i64 0, .int .i64 0, .int .i64 0, .int .i64 0] 25) := ⟨_, rfl⟩
  have D := Lib.hid ((Sp.refl w).add (newB w (.cells #[.int .i64 0, .int .i64 0, .int .i64 0, .int .i64 0] 25)) (own_foot1 w 25 ⟨0, 0, 0, 0⟩))
  rw [← hw1] at D
  replace hw1 := Lib.hid hw1
  go_enter Tryz.func137, Tryz.ntmps137
  go_wp2_with (first | rw [← hw1.out] | (at_make; refine wpList_make_full _ rfl (.const (.int .i64 4)) (.const (.int .i64 4)) 47 rfl w1.heap.size 2 i0 (.int .i64 0) 1 Tryz.underlying47 hi hz0 hz1 .i64 .i64 _ _ 4 rfl rfl rfl rfl (by rw [hz2]; omega) (by unfold maxLen; omega) (Nat.le_refl _) ?_; intro w2 hown hg; refine Hid.out ?_))
  have hb2 : Below w1.heap.size w1 w2 := (Below.refl _ _).grown hg (Nat.le_refl _) (by simp)
  have hO2 : Own w1.heap.size w2 2 (.slice (some ⟨w1.heap.size, 0, none⟩) 4 4) (filled (0 : Int) (each val fs) 0) := by
    rw [filled_zero, each_length]
    unfold Own; rw [List.length_replicate, ← made_flat (0 : Int) _ rfl]; exact hown
  replace D := Lib.hid (D.out.add hb2 hO2)
  clear hown hg hb2 hO2 hi hz0 hz1 hz2 hw1
  obtain ⟨o, ho⟩ : ∃ o, o = w1.heap.size := ⟨_, rfl⟩
  rw [← ho] at D
  refine Lib.hid ?_
  go_wp2_with fail
  rw [← ho]
  clear ho
  go_loopw [6, 7, 9, 13, 19] (fun _ _ _ i _ wr => ∃ k : Nat, k ≤ 4 ∧ i = .int .i64 k ∧ Hid (Sp w wr [ite' 2 (.slice (some ⟨o, 0, none⟩) 4 4) (filled (0 : Int) (each val fs) k), ite' 25 (.slice (some ⟨w.heap.size, 0, none⟩) 1 1) [(⟨0, 0, 0, 0⟩ : Foot)]])) (fun _ _ _ i _ _ => 4 - (intOf i).toNat)
  case atStart => exact ⟨0, by omega, rfl, D⟩
  case round =>
    clear D
    obtain ⟨k, hk, rfl, D⟩ := hrel
    obtain ⟨wa, hwa⟩ : ∃ wo : World, wo = wr := ⟨_, rfl⟩
    subst hwa
    by_cases hlt : k < 4
    · have hlt4 : (k : Int) < 4 := by omega
      obtain ⟨w3, hw3⟩ : ∃ w3, w3 = wa.alloc (.cells #[] 2) := ⟨_, rfl⟩
      have D3 := Lib.hid (D.out.add (newB wa (.cells #[] 2)) (own_new (α := Int) wa 2))
      rw [← hw3] at D3
      replace hw3 := Lib.hid hw3
      obtain ⟨n3, hn3⟩ : ∃ n3, n3 = wa.heap.size := ⟨_, rfl⟩
      rw [← hn3] at D3
      clear D
      go_wp2_with (rw [← hw3.out])
      rw [← hn3]
      clear hn3 hw3
      go_loopw [7, 9, 19] (fun v _ i wr => ∃ j : Nat, j ≤ fs.length ∧ i = .int .i64 j ∧ Hid (Sp w wr [ite' 2 v (col k (fs.take j)), ite' 2 (.slice (some ⟨o, 0, none⟩) 4 4) (filled (0 : Int) (each val fs) k), ite' 25 (.slice (some ⟨w.heap.size, 0, none⟩) 1 1) [(⟨0, 0, 0, 0⟩ : Foot)]])) (fun _ _ i _ => fs.length - (intOf i).toNat)
      case atStart => exact ⟨0, by omega, rfl, D3⟩
      case round =>
        clear D3
        obtain ⟨j, hj, rfl, D⟩ := hrel
        obtain ⟨wb, hwb⟩ : ∃ wo : World, wo = wr := ⟨_, rfl⟩
        subst hwb
        have hxb := hx.below D.out.up
        by_cases hjl : j < fs.length
        · obtain ⟨b, off, ha⟩ := hxb.addr hjl
          subst ha
          obtain ⟨x0, x1, x2, x3⟩ := hxb.foot hjl
          have hE := Lib.hid (col_take_succ k fs j hjl)
          have hLl : (col k (fs.take j)).length + 1 ≤ 4294967296 := by rw [col_length]; simp; omega
          obtain ⟨f, hf⟩ : ∃ f, f = fs[j] := ⟨_, rfl⟩
          rw [← hf] at x0 x1 x2 x3 hE
          clear hf
          obtain ⟨L, hL⟩ : ∃ L, L = col k (fs.take j) := ⟨_, rfl⟩
          rw [← hL] at D hE hLl
          replace hL := Lib.hid hL
          obtain ⟨w5, hw5⟩ : ∃ w5, w5 = wb.alloc (.cells #[.int .i64 f.Length, .int .i64 f.Ball, .int .i64 f.Instep, .int .i64 f.Heel] 25) := ⟨_, rfl⟩
          have hb5 : Below wb.heap.size wb w5 := by rw [hw5]; exact newB _ _
          have V : Own wb.heap.size w5 25 (.slice (some ⟨wb.heap.size, 0, none⟩) 4 4) (footC f) := by rw [hw5]; exact own_footC wb _ f
          obtain ⟨y0, y1, y2, y3⟩ := footC_cells V
          replace D := Lib.hid (D.out.later hb5)
          replace hw5 := Lib.hid hw5
          clear hb5 V hxb
          go_wp2_with (rw [← hw5.out])
          refine (measures_c f w5).mono ?_
          rintro e w6 ⟨gm, rfl, hM, hb6⟩
          have d0 := hM.at'.int (i := k) (by rw [four_length]; exact hlt)
          rw [kindOf_get, Nat.zero_add] at d0
          replace D := Lib.hid (D.out.later hb6)
          clear hb6 hM x0 x1 x2 x3 y0 y1 y2 y3 hw5
          obtain ⟨z, hz⟩ : ∃ z, z = kindOf k f := ⟨_, rfl⟩
          rw [← hz] at d0 hE
          clear hz
          have hsz := D.out.up.size
          go_wp2_with (at_builtin; refine wpList_pushTo rfl (.tmp 23) (.tmp 29) 47 rfl w.heap.size 2 (.int .i64 0) 8 Tryz.underlying47 infoInt rfl _ L z rfl ((D.out.get 0 rfl).later (newB _ _)) _ _ rfl 2 (heap_alloc_new _ _) hLl (by decide) (by simp; omega) ?_; intro g' cap w7 hO7 hg7 hl7)
          have D7 := Lib.hid ((D.out.later (newB _ _)).push 0 rfl hO7 hg7 hl7)
          go_roundw
          case rel => exact ⟨j + 1, by omega, by first | rfl | go_num, Lib.hid (by rw [hE.out]; exact D7.out)⟩
          case measure => first | (simp [intOf]; done) | (simp [intOf]; omega)
        · obtain rfl : j = fs.length := by omega
          rw [List.take_length] at D
          have hcl : (col k fs).length = fs.length := col_length k fs
          obtain ⟨gb, cap, hv⟩ := (D.out.get 0 rfl).row (by omega)
          have hval : (each val fs)[k]'(by rw [each_length]; exact hlt) = val (srt (col k fs)) := each_get _ _ _ _
          have hfs := Lib.hid (filled_succ (0 : Int) (each val fs) k (by rw [each_length]; exact hlt))
          rw [hval] at hfs
          have hfl : k < (filled (0 : Int) (each val fs) k).length := by rw [filled_length _ _ _ (by rw [each_length]; omega), each_length]; exact hlt
          have hf4 := Lib.hid (show 4 = (filled (0 : Int) (each val fs) k).length by rw [filled_length _ _ _ (by rw [each_length]; omega), each_length])
          have hsl := srt_length (col k fs)
          rw [hv] at D ⊢
          clear hv hval
          have hS := Lib.hid (sortI_c w.heap.size gb cap (col k fs) wb (D.out.get 0 rfl) (by omega))
          obtain ⟨X, hX⟩ : ∃ X, X = srt (col k fs) := ⟨_, rfl⟩
          rw [← hX] at hS hsl hfs
          replace hX := Lib.hid hX
          obtain ⟨C, hC⟩ : ∃ C, C = col k fs := ⟨_, rfl⟩
          rw [← hC] at D hS hcl hsl ⊢
          replace hC := Lib.hid hC
          rw [← hsl] at hS ⊢
          replace hcl := Lib.hid hcl
          have hXl : X.length = fs.length := by rw [hsl]; exact hcl.out
          replace hXl := Lib.hid hXl
          replace hsl := Lib.hid hsl
          clear hxb
          go_wp2_with fail
          refine hS.out.mono ?_
          rintro e w8 ⟨rfl, hO8, hg8⟩
          have D8 := Lib.hid (D.out.set 0 rfl hO8 hg8 (Or.inl rfl))
          clear hO8 hg8 hS D
          go_wp2_with fail
          refine (HV.out gb cap X w8 hXl.out (D8.out.get 0 rfl).at').mono ?_
          rintro e w9 ⟨rfl, hb9⟩
          replace D8 := Lib.hid (D8.out.later hb9)
          clear hb9
          obtain ⟨V, hV⟩ : ∃ V, V = val X := ⟨_, rfl⟩
          rw [← hV] at hfs
          rw [← hV]
          clear hV
          go_wp2_with ((with_reducible refine at_st 2 (.tmp 39) (.tmp 38) ?_); refine wpList_store_own rfl 2 (.tmp 39) (.tmp 38) rfl w.heap.size 2 o 4 4 (filled (0 : Int) (each val fs) k) k _ V rfl (by simp [Flat.k]) rfl (by kernel_rfl) hf4.out (D8.out.get 1 rfl) hfl ?_; intro w10 hO10 hg10)
          have D10 := Lib.hid ((D8.out.set 1 rfl hO10 hg10 (Or.inl rfl)).tail)
          go_roundw
          case rel => exact ⟨k + 1, by omega, by first | rfl | go_num, Lib.hid (by rw [← hfs.out]; exact D10.out)⟩
          case measure => first | (simp [intOf]; done) | (simp [intOf]; omega)
    · obtain rfl : k = 4 := by omega
      rw [filled_full _ _ (by rw [each_length]; exact Nat.le_refl _), each_four] at D
      obtain ⟨v0, e0⟩ : ∃ v, v = val (srt (col 0 fs)) := ⟨_, rfl⟩
      rw [← e0] at D
      replace e0 := Lib.hid e0
      obtain ⟨v1, e1⟩ : ∃ v, v = val (srt (col 1 fs)) := ⟨_, rfl⟩
      rw [← e1] at D
      replace e1 := Lib.hid e1
      obtain ⟨v2, e2⟩ : ∃ v, v = val (srt (col 2 fs)) := ⟨_, rfl⟩
      rw [← e2] at D
      replace e2 := Lib.hid e2
      obtain ⟨v3, e3⟩ : ∃ v, v = val (srt (col 3 fs)) := ⟨_, rfl⟩
      rw [← e3] at D
      replace e3 := Lib.hid e3
      go_wp2_with fail
      refine (footOf_c (some ⟨o, 0, none⟩) v0 v1 v2 v3 4 4 wa (D.out.get 0 rfl).at' rfl).mono ?_
      rintro e w5 ⟨rfl, hb5⟩
      replace D := Lib.hid (D.out.later hb5)
      clear hb5
      go_wp2_with ((with_reducible refine at_st 25 (.tmp 4) (.tmp 42) ?_); refine wpList_store_own rfl 25 (.tmp 4) (.tmp 42) rfl w.heap.size 25 _ 1 1 [(⟨0, 0, 0, 0⟩ : Foot)] 0 _ (⟨v0, v1, v2, v3⟩ : Foot) rfl rfl rfl (by kernel_rfl) rfl (D.out.get 1 rfl) (by simp) ?_; intro wz hRz hgz)
      have Dz := Lib.hid (D.out.set 1 rfl hRz hgz (Or.inl rfl))
      obtain ⟨q0, q1, q2, q3⟩ := foot1_cells (Dz.out.get 1 rfl)
      refine bodyPost_ret (v := .agg #[.int .i64 v0, .int .i64 v1, .int .i64 v2, .int .i64 v3]) (by simp [results, Tryz.results137, go_sem, q0, q1, q2, q3]) rfl ?_
      exact ⟨by rw [← e0.out, ← e1.out, ← e2.out, ← e3.out], Dz.out.up⟩
end Go.Proofs.YtledlkggggpdpaaGreatDoor
