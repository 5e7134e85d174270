/- The middle of feet, and feet that are far from it: the program. -/
import Derived.Test.YtlaclknhenccdaaMid3
import Derived.Test.YtlaclknhenccdaaDelFoot
import Derived.Test.YtlaclknhenccdaaG02
namespace Go.Proofs.Ytlaclknhenccdaa
open Go.RowKit

def halfOf (xs : List Int) : Int := xs.getD ((xs.length - 1) / 2) 0
theorem half_mid (xs : List Int) : halfOf (srt xs) = midOf xs := by unfold halfOf midOf; rw [srt_length]
/-- The middle of feet. -/
def midFoot (fs : List Foot) : Foot := ⟨midOf (col 0 fs), midOf (col 1 fs), midOf (col 2 fs), midOf (col 3 fs)⟩
theorem kind_ok {f : Foot} (h : okFoot f = true) (k : Nat) (hk : k < 4) : 500 ≤ kindOf k f ∧ kindOf k f ≤ 5000 := by
  rw [okFoot_iff] at h
  rcases (by omega : k = 0 ∨ k = 1 ∨ k = 2 ∨ k = 3) with rfl | rfl | rfl | rfl
  · show 500 ≤ f.Length ∧ f.Length ≤ 5000; omega
  · show 500 ≤ f.Ball ∧ f.Ball ≤ 5000; omega
  · show 500 ≤ f.Instep ∧ f.Instep ≤ 5000; omega
  · show 500 ≤ f.Heel ∧ f.Heel ≤ 5000; omega
theorem mid_ok {fs : List Foot} (h : ∀ f ∈ fs, okFoot f = true) (hn : 0 < fs.length) : okFoot (midFoot fs) = true := by
  have key : ∀ k, k < 4 → 500 ≤ midOf (col k fs) ∧ midOf (col k fs) ≤ 5000 := fun k hk => by
    have hm := mid_mem (xs := col k fs) (by rw [col_length]; exact hn)
    obtain ⟨f, hf, e⟩ := List.mem_map.1 hm
    rw [← e]
    exact kind_ok (h f hf) k hk
  rw [okFoot_iff]
  exact ⟨key 0 (by omega), key 1 (by omega), key 2 (by omega), key 3 (by omega)⟩
theorem feetCode_ok (a : Option Addr) (fs : List Foot) (c : Nat) (m : Int) (w : World) (hx : At w a fs) (hl : fs.length ≤ 30) (hn : 0 < fs.length) (hv : ∀ f ∈ fs, okFoot f = true) (hm : 0 ≤ m ∧ m ≤ 5000) :
    Calls Try.prog 103 #[.slice a fs.length c, .int .i64 m] w fun e w' => e = .returned (.int .i64 0) ∧ Below w.heap.size w w' := by
  have h1 : inr m 0 5000 = true := inr_true.2 hm
  have h2 : ((fs.length : Int) == 0) = false := beq_eq_false_iff_ne.2 (by omega)
  replace hv := Lib.hid hv
  go_enter Try.func103, Try.ntmps103
  go_wp2_with fail
  refine (validFeet_ok a fs c w hx hl hv.out).mono ?_
  rintro e w2 ⟨rfl, hb⟩
  go_wp2_with fail
  refine (as_bool h1 (within_c _ _ _ _)).mono ?_
  rintro e w' ⟨rfl, rfl⟩
  go_wp2_with fail
  go_ret
  exact ⟨rfl, hb⟩
theorem middle1_c (g c : Nat) (xs : List Int) (w : World) (hx : At w (some ⟨g, 0, none⟩) xs) (hn : 0 < xs.length) (hl : xs.length ≤ 1000) :
    Calls Try.prog 153 #[.slice (some ⟨g, 0, none⟩) xs.length c] w fun e w' => e = .returned (.int .i64 (halfOf xs)) ∧ Below w.heap.size w w' := by
  obtain ⟨m, hm⟩ : ∃ m, m = (xs.length - 1) / 2 := ⟨_, rfl⟩
  have hmi : ((xs.length : Int) - 1) / 2 = ((m : Nat) : Int) := by omega
  have hml : m < xs.length := by omega
  have d0 := hx.int hml
  rw [Nat.zero_add] at d0
  have hE : halfOf xs = xs[m] := by unfold halfOf; rw [← hm, List.getD_eq_getElem?_getD, List.getElem?_eq_getElem hml]; rfl
  rw [hE]
  have hlI : (m : Int) < xs.length := by omega
  clear hm hE
  generalize xs[m] = X at *
  go_enter Try.func153, Try.ntmps153
  go_wp2_with fail
  go_ret
  exact ⟨rfl, Below.refl _ _⟩
theorem middle1_enters : Enters Try.prog 153 := enters_of Try.func153 (by kernel_rfl) (by kernel_rfl)
theorem middleFoot_c (a : Option Addr) (fs : List Foot) (c : Nat) (w : World) (hx : At w a fs) (hl : fs.length ≤ 1000) (hn : 0 < fs.length) :
    Calls Try.prog 104 #[.slice a fs.length c] w fun e w' => e = .returned (.agg #[.int .i64 (midFoot fs).Length, .int .i64 (midFoot fs).Ball, .int .i64 (midFoot fs).Instep, .int .i64 (midFoot fs).Heel]) ∧ Below w.heap.size w w' := by
  obtain ⟨w1, hw1⟩ : ∃ w1, w1 = w.alloc (.cells #[.int .i64 0, .int .i64 0, .int .i64 0, .int .i64 0] 62) := ⟨_, rfl⟩
  have hb : Below w.heap.size w w1 := by rw [hw1]; exact newB _ _
  have hR : Own w.heap.size w1 62 (.slice (some ⟨w.heap.size, 0, none⟩) 1 1) [(⟨0, 0, 0, 0⟩ : Foot)] := by rw [hw1]; exact own_foot1 w _ ⟨0, 0, 0, 0⟩
  have hC := Lib.hid (eachMeasure_c a fs c 153 halfOf w1 middle1_enters (hx.below hb) hl hn (fun g c' xs w' hxl hA => middle1_c g c' xs w' hA (by omega) (by omega)))
  simp only [half_mid] at hC
  replace hw1 := Lib.hid hw1
  replace hR := Lib.hid hR
  unfold midFoot
  dsimp only
  obtain ⟨v0, e0⟩ : ∃ v, v = midOf (col 0 fs) := ⟨_, rfl⟩
  obtain ⟨v1, e1⟩ : ∃ v, v = midOf (col 1 fs) := ⟨_, rfl⟩
  obtain ⟨v2, e2⟩ : ∃ v, v = midOf (col 2 fs) := ⟨_, rfl⟩
  obtain ⟨v3, e3⟩ : ∃ v, v = midOf (col 3 fs) := ⟨_, rfl⟩
  rw [← e0, ← e1, ← e2, ← e3] at hC ⊢
  clear e0 e1 e2 e3
  go_enter Try.func104, Try.ntmps104
  go_wp2_with (rw [← hw1.out])
  refine hC.out.mono ?_
  rintro e w2 ⟨rfl, hb2⟩
  replace hR := Lib.hid (hR.out.later hb2)
  replace hb := upw hb hb2
  go_wp2_with ((with_reducible refine at_st 62 (.tmp 2) (.tmp 4) ?_); refine wpList_store_own rfl 62 (.tmp 2) (.tmp 4) rfl w.heap.size 62 _ 1 1 [(⟨0, 0, 0, 0⟩ : Foot)] 0 _ (⟨v0, v1, v2, v3⟩ : Foot) rfl rfl rfl (by kernel_rfl) rfl hR.out (by simp) ?_; intro wz hRz hgz)
  obtain ⟨q0, q1, q2, q3⟩ := foot1_cells hRz
  have hbz := below_mark hb hR.out (Nat.le_refl _) hgz
  refine bodyPost_ret (v := .agg #[.int .i64 v0, .int .i64 v1, .int .i64 v2, .int .i64 v3]) (by simp [results, Try.results104, go_sem, q0, q1, q2, q3]) rfl ?_
  exact ⟨rfl, hbz⟩
theorem implMiddleFoot_ok (a : Option Addr) (fs : List Foot) (c : Nat) (w : World) (hx : At w a fs) (hl : fs.length ≤ 30) (hn : 0 < fs.length) (hv : ∀ f ∈ fs, okFoot f = true) :
    Calls Try.prog 40 #[.slice a fs.length c] w fun e w' => e = .returned (.tuple #[.agg #[.int .i64 (midFoot fs).Length, .int .i64 (midFoot fs).Ball, .int .i64 (midFoot fs).Instep, .int .i64 (midFoot fs).Heel], .int .i64 0]) ∧ Below w.heap.size w w' := by
  obtain ⟨w1, hw1⟩ : ∃ w1, w1 = w.alloc (.cells #[.int .i64 0, .int .i64 0, .int .i64 0, .int .i64 0] 62) := ⟨_, rfl⟩
  have hb : Below w.heap.size w w1 := by rw [hw1]; exact newB _ _
  have hR : Own w.heap.size w1 62 (.slice (some ⟨w.heap.size, 0, none⟩) 1 1) [(⟨0, 0, 0, 0⟩ : Foot)] := by rw [hw1]; exact own_foot1 w _ ⟨0, 0, 0, 0⟩
  have hC1 := Lib.hid (feetCode_ok a fs c 0 w1 (hx.below hb) hl hn hv (by omega))
  have hC := Lib.hid (fun w' h => middleFoot_c a fs c w' h (by omega) hn)
  replace hw1 := Lib.hid hw1
  replace hR := Lib.hid hR
  generalize (midFoot fs).Length = v0 at *
  generalize (midFoot fs).Ball = v1 at *
  generalize (midFoot fs).Instep = v2 at *
  generalize (midFoot fs).Heel = v3 at *
  replace hv := Lib.hid hv
  go_enter Try.func40, Try.ntmps40
  go_wp2_with (rw [← hw1.out])
  refine hC1.out.mono ?_
  rintro e w2 ⟨rfl, hb2⟩
  replace hR := Lib.hid (hR.out.later hb2)
  replace hb := upw hb hb2
  go_wp2_with fail
  refine (hC.out _ (hx.below hb)).mono ?_
  rintro e w3 ⟨rfl, hb3⟩
  replace hR := Lib.hid (hR.out.later hb3)
  replace hb := upw hb hb3
  go_wp2_with ((with_reducible refine at_st 62 (.tmp 2) (.tmp 12) ?_); refine wpList_store_own rfl 62 (.tmp 2) (.tmp 12) rfl w.heap.size 62 _ 1 1 [(⟨0, 0, 0, 0⟩ : Foot)] 0 _ (⟨v0, v1, v2, v3⟩ : Foot) rfl rfl rfl (by kernel_rfl) rfl hR.out (by simp) ?_; intro wz hRz hgz)
  obtain ⟨q0, q1, q2, q3⟩ := foot1_cells hRz
  have hbz := below_mark hb hR.out (Nat.le_refl _) hgz
  refine bodyPost_ret (v := .tuple #[.agg #[.int .i64 v0, .int .i64 v1, .int .i64 v2, .int .i64 v3], .int .i64 0]) (by simp [results, Try.results40, go_sem, q0, q1, q2, q3]) rfl ?_
  exact ⟨rfl, hbz⟩
/-- A foot is far from another one. -/
def farAt (f g : Foot) (m : Int) (k : Nat) : Bool := decide (m < size (kindOf k f - kindOf k g))
def farB (f g : Foot) (m : Int) : Bool := (List.range 4).any (farAt f g m)
theorem farB_iff {f g : Foot} {m : Int} : farB f g m = true ↔ ∃ k, k < 4 ∧ farAt f g m k = true := by simp [farB]
theorem farB_max (f g : Foot) (m : Int) : farB f g m = decide (m < max (size (f.Length - g.Length)) (max (size (f.Ball - g.Ball)) (max (size (f.Instep - g.Instep)) (size (f.Heel - g.Heel))))) := by
  have e : farB f g m = (decide (m < size (f.Length - g.Length)) || decide (m < size (f.Ball - g.Ball)) || decide (m < size (f.Instep - g.Instep)) || decide (m < size (f.Heel - g.Heel))) := by
    simp [farB, farAt, kindOf, fourOf, List.range_succ, Bool.or_assoc]
  rw [e, Bool.eq_iff_iff]
  simp only [Bool.or_eq_true, decide_eq_true_eq]
  omega
set_option maxHeartbeats 800000 in
theorem isFar_c (f g : Foot) (m : Int) (w : World) (hf : okFoot f = true) (hg : okFoot g = true) :
    Calls Try.prog 105 #[.agg #[.int .i64 f.Length, .int .i64 f.Ball, .int .i64 f.Instep, .int .i64 f.Heel], .agg #[.int .i64 g.Length, .int .i64 g.Ball, .int .i64 g.Instep, .int .i64 g.Heel], .int .i64 m] w fun e w' => e = .returned (.bool (farB f g m)) ∧ Below w.heap.size w w' := by
  obtain ⟨w1, hw1⟩ : ∃ w1, w1 = w.alloc (.cells #[.int .i64 f.Length, .int .i64 f.Ball, .int .i64 f.Instep, .int .i64 f.Heel] 62) := ⟨_, rfl⟩
  have hb1 : Below w.heap.size w w1 := by rw [hw1]; exact newB _ _
  have V1 : Own w.heap.size w1 62 (.slice (some ⟨w.heap.size, 0, none⟩) 4 4) (footC f) := by rw [hw1]; exact own_footC w _ f
  obtain ⟨w2, hw2⟩ : ∃ w2, w2 = w1.alloc (.cells #[.int .i64 g.Length, .int .i64 g.Ball, .int .i64 g.Instep, .int .i64 g.Heel] 62) := ⟨_, rfl⟩
  have hb2 : Below w1.heap.size w1 w2 := by rw [hw2]; exact newB _ _
  have V2 : Own w1.heap.size w2 62 (.slice (some ⟨w1.heap.size, 0, none⟩) 4 4) (footC g) := by rw [hw2]; exact own_footC w1 _ g
  obtain ⟨y0, y1, y2, y3⟩ := footC_cells V2
  replace V1 := V1.later hb2
  have hb := upw hb1 hb2
  replace hw1 := Lib.hid hw1
  replace hw2 := Lib.hid hw2
  replace hf := Lib.hid hf
  replace hg := Lib.hid hg
  clear hb1 hb2 V2
  obtain ⟨n1, hn1⟩ : ∃ n1, n1 = w1.heap.size := ⟨_, rfl⟩
  go_enter Try.func105, Try.ntmps105
  go_wp2_with (first | rw [← hw1.out] | rw [← hw2.out])
  refine (measures_c g w2).mono ?_
  rintro e w3 ⟨g2, rfl, hM2, hb3⟩
  replace V1 := V1.later hb3
  replace hb := upw hb hb3
  obtain ⟨x0, x1, x2, x3⟩ := footC_cells V1
  clear y0 y1 y2 y3 hn1 n1
  go_wp2_with fail
  refine (measures_c f w3).mono ?_
  rintro e w4 ⟨g1, rfl, hM1, hb4⟩
  have A1 := Lib.hid hM1.at'
  have A2 := Lib.hid (hM2.later hb4).at'
  replace hb := upw hb hb4
  clear hM1 hM2 hb4 hb3 V1 x0 x1 x2 x3
  obtain ⟨n1, hn1⟩ : ∃ n1, n1 = w1.heap.size := ⟨_, rfl⟩
  go_wp2_with fail
  rw [← hn1]
  clear hn1
  go_loopw [8, 9, 15] (fun _ _ i wr => ∃ k : Nat, k ≤ 4 ∧ i = .int .i64 k ∧ Hid (∀ j, j < k → farAt f g m j = false) ∧ wr = w4) (fun _ _ i _ => 4 - (intOf i).toNat)
  case atStart => exact ⟨0, by omega, rfl, Lib.hid (fun j h => absurd h (Nat.not_lt_zero _)), rfl⟩
  case round =>
    obtain ⟨k, hk, rfl, hno, rfl⟩ := hrel
    by_cases hlt : k < 4
    · have hlt4 : (k : Int) < 4 := by omega
      have d1 := A1.out.int (i := k) (by rw [four_length]; exact hlt)
      have d2 := A2.out.int (i := k) (by rw [four_length]; exact hlt)
      rw [kindOf_get, Nat.zero_add] at d1 d2
      have k1 := kind_ok hf.out k hlt
      have k2 := kind_ok hg.out k hlt
      have hE := Lib.hid (show farAt f g m k = decide (m < size (kindOf k f - kindOf k g)) from rfl)
      generalize kindOf k f = X at *
      generalize kindOf k g = Y at *
      have hP := Lib.hid (fun w' => apart_c X Y w' (by omega) (by omega))
      generalize size (X - Y) = Z at *
      by_cases hz : m < Z
      · go_wp2_with ((with_reducible refine (hP.out _).mono ?_); rintro e w' ⟨rfl, rfl⟩)
        go_ret
        exact ⟨ret_bool (farB_iff.2 ⟨k, hlt, by rw [hE.out]; simpa using hz⟩).symm, hb⟩
      · go_wp2_with ((with_reducible refine (hP.out _).mono ?_); rintro e w' ⟨rfl, rfl⟩)
        go_roundw
        case rel => exact ⟨k + 1, by omega, by first | rfl | go_num, Lib.hid (fun j hj => by
          rcases Nat.lt_succ_iff_lt_or_eq.1 hj with h | h
          · exact hno.out j h
          · subst h; rw [hE.out]; simpa using hz), trivial⟩
        case measure => first | (simp [intOf]; done) | (simp [intOf]; omega)
    · obtain rfl : k = 4 := by omega
      have hF := Lib.hid (show farB f g m = false by
        rw [Bool.eq_false_iff]; intro h
        obtain ⟨j, hj, h2⟩ := farB_iff.1 h
        rw [hno.out j hj] at h2; cases h2)
      go_wp2_with fail
      go_ret
      exact ⟨ret_bool hF.out.symm, hb⟩
end Go.Proofs.Ytlaclknhenccdaa
