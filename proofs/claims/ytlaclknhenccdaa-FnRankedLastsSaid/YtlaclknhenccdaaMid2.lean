/- Measures of feet: each kind for itself. -/
import Derived.Test.YtlaclknhenccdaaMid1
namespace Go.Proofs.Ytlaclknhenccdaa
open Go.RowKit

theorem four_length (f : Foot) : (fourOf f).length = 4 := rfl
def kindOf (k : Nat) (f : Foot) : Int := (fourOf f).getD k 0
theorem kindOf_get {k : Nat} {f : Foot} (h : k < (fourOf f).length) : (fourOf f)[k] = kindOf k f := by
  unfold kindOf; rw [List.getD_eq_getElem?_getD, List.getElem?_eq_getElem h]; rfl
def col (k : Nat) (fs : List Foot) : List Int := fs.map (kindOf k)
theorem col_length (k : Nat) (fs : List Foot) : (col k fs).length = fs.length := by simp [col]
theorem l02Four_c (f : Foot) (w : World) :
    Calls Try.prog 167 #[.agg #[.int .i64 f.Length, .int .i64 f.Ball, .int .i64 f.Instep, .int .i64 f.Heel]] w fun e w' => ∃ g, e = .returned (.slice (some ⟨g, 0, none⟩) 4 4) ∧ Own w.heap.size w' 2 (.slice (some ⟨g, 0, none⟩) 4 4) (fourOf f) ∧ Below w.heap.size w w' := by
  obtain ⟨w1, hw1⟩ : ∃ w1, w1 = w.alloc (.cells #[.int .i64 f.Length, .int .i64 f.Ball, .int .i64 f.Instep, .int .i64 f.Heel] 62) := ⟨_, rfl⟩
  have hb1 : Below w.heap.size w w1 := by rw [hw1]; exact newB _ _
  have hV : Own w.heap.size w1 62 (.slice (some ⟨w.heap.size, 0, none⟩) 4 4) (footC f) := by rw [hw1]; exact own_footC w _ f
  obtain ⟨c0, c1, c2, c3⟩ := footC_cells hV
  obtain ⟨w2, hw2⟩ : ∃ w2, w2 = w1.alloc (.cells #[.int .i64 f.Length, .int .i64 f.Ball, .int .i64 f.Instep, .int .i64 f.Heel] 2) := ⟨_, rfl⟩
  have hb2 : Below w1.heap.size w1 w2 := by rw [hw2]; exact newB _ _
  have hO : Own w1.heap.size w2 2 (.slice (some ⟨w1.heap.size, 0, none⟩) 4 4) (fourOf f) := by rw [hw2]; exact own_alloc w1 _ _ (fourOf f) rfl (by simp [fourOf])
  replace hw1 := Lib.hid hw1
  replace hw2 := Lib.hid hw2
  replace hO := Lib.hid hO
  clear hV
  go_enter Try.func167, Try.ntmps167
  go_wp2_with (first | rw [← hw1.out] | rw [← hw2.out])
  go_ret
  exact ⟨_, rfl, hO.out.base hb1.size, upw hb1 hb2⟩
theorem footOf_c (a : Option Addr) (x0 x1 x2 x3 : Int) (n c : Nat) (w : World) (hx : At w a [x0, x1, x2, x3]) (hn : n = 4) :
    Calls Try.prog 190 #[.slice a n c] w fun e w' => e = .returned (.agg #[.int .i64 x0, .int .i64 x1, .int .i64 x2, .int .i64 x3]) ∧ Below w.heap.size w w' := by
  subst hn
  obtain ⟨b, off, rfl⟩ := hx.addr (i := 0) (by simp)
  obtain ⟨w1, hw1⟩ : ∃ w1, w1 = w.alloc (.cells #[.int .i64 0, .int .i64 0, .int .i64 0, .int .i64 0] 62) := ⟨_, rfl⟩
  have hb : Below w.heap.size w w1 := by rw [hw1]; exact newB _ _
  have hR : Own w.heap.size w1 62 (.slice (some ⟨w.heap.size, 0, none⟩) 1 1) [(⟨0, 0, 0, 0⟩ : Foot)] := by rw [hw1]; exact own_foot1 w _ ⟨0, 0, 0, 0⟩
  have hx1 := hx.below hb
  have d0 := rg (hx1.int (i := 0) (by simp))
  have d1 := rg (hx1.int (i := 1) (by simp))
  have d2 := rg (hx1.int (i := 2) (by simp))
  have d3 := rg (hx1.int (i := 3) (by simp))
  simp only [List.getElem_cons_zero, List.getElem_cons_succ, Nat.add_zero] at d0 d1 d2 d3
  replace hw1 := Lib.hid hw1
  replace hR := Lib.hid hR
  clear hx hx1
  go_enter Try.func190, Try.ntmps190
  go_wp2_with (rw [← hw1.out])
  refine wp_region_tail_below 13 (by kernel_rfl) (by kernel_rfl) (by kernel_rfl) (by simp only [List.take_succ_cons, List.take_zero]; rfl) (by simp only [List.drop_succ_cons, List.drop_zero]; rfl) ?_
  repeat (go_big_quiet_step ((fail)))
  refine wpQuiet_nil ?_
  intro w2 hw'
  replace hb := upw hb (grown_of hw')
  have hw2 := grown_of hw'
  clear hw'
  replace hR := Lib.hid (hR.out.later hw2)
  go_wp2_with ((with_reducible refine at_st 62 (.tmp 2) (.tmp 15) ?_); refine wpList_store_own rfl 62 (.tmp 2) (.tmp 15) rfl w.heap.size 62 _ 1 1 [(⟨0, 0, 0, 0⟩ : Foot)] 0 _ (⟨x0, x1, x2, x3⟩ : Foot) rfl rfl rfl (by kernel_rfl) rfl hR.out (by simp) ?_; intro wz hRz hgz)
  obtain ⟨q0, q1, q2, q3⟩ := foot1_cells hRz
  have hbz := below_mark hb hR.out (Nat.le_refl _) hgz
  refine bodyPost_ret (v := .agg #[.int .i64 x0, .int .i64 x1, .int .i64 x2, .int .i64 x3]) (by simp [results, Try.results190, go_sem, q0, q1, q2, q3]) rfl ?_
  exact ⟨rfl, hbz⟩
theorem l02Of_c (a : Option Addr) (x0 x1 x2 x3 : Int) (n c : Nat) (w : World) (hx : At w a [x0, x1, x2, x3]) (hn : n = 4) :
    Calls Try.prog 159 #[.slice a n c] w fun e w' => e = .returned (.agg #[.int .i64 x0, .int .i64 x1, .int .i64 x2, .int .i64 x3]) ∧ Below w.heap.size w w' := by
  subst hn
  obtain ⟨b, off, rfl⟩ := hx.addr (i := 0) (by simp)
  obtain ⟨w1, hw1⟩ : ∃ w1, w1 = w.alloc (.cells #[.int .i64 0, .int .i64 0, .int .i64 0, .int .i64 0] 62) := ⟨_, rfl⟩
  have hb : Below w.heap.size w w1 := by rw [hw1]; exact newB _ _
  have hR : Own w.heap.size w1 62 (.slice (some ⟨w.heap.size, 0, none⟩) 1 1) [(⟨0, 0, 0, 0⟩ : Foot)] := by rw [hw1]; exact own_foot1 w _ ⟨0, 0, 0, 0⟩
  have hx1 := hx.below hb
  have d0 := rg (hx1.int (i := 0) (by simp))
  have d1 := rg (hx1.int (i := 1) (by simp))
  have d2 := rg (hx1.int (i := 2) (by simp))
  have d3 := rg (hx1.int (i := 3) (by simp))
  simp only [List.getElem_cons_zero, List.getElem_cons_succ, Nat.add_zero] at d0 d1 d2 d3
  replace hw1 := Lib.hid hw1
  replace hR := Lib.hid hR
  clear hx hx1
  go_enter Try.func159, Try.ntmps159
  go_wp2_with (rw [← hw1.out])
  refine wp_region_tail_below 13 (by kernel_rfl) (by kernel_rfl) (by kernel_rfl) (by simp only [List.take_succ_cons, List.take_zero]; rfl) (by simp only [List.drop_succ_cons, List.drop_zero]; rfl) ?_
  repeat (go_big_quiet_step ((fail)))
  refine wpQuiet_nil ?_
  intro w2 hw'
  replace hb := upw hb (grown_of hw')
  have hw2 := grown_of hw'
  clear hw'
  replace hR := Lib.hid (hR.out.later hw2)
  go_wp2_with ((with_reducible refine at_st 62 (.tmp 2) (.tmp 15) ?_); refine wpList_store_own rfl 62 (.tmp 2) (.tmp 15) rfl w.heap.size 62 _ 1 1 [(⟨0, 0, 0, 0⟩ : Foot)] 0 _ (⟨x0, x1, x2, x3⟩ : Foot) rfl rfl rfl (by kernel_rfl) rfl hR.out (by simp) ?_; intro wz hRz hgz)
  obtain ⟨q0, q1, q2, q3⟩ := foot1_cells hRz
  have hbz := below_mark hb hR.out (Nat.le_refl _) hgz
  refine bodyPost_ret (v := .agg #[.int .i64 x0, .int .i64 x1, .int .i64 x2, .int .i64 x3]) (by simp [results, Try.results159, go_sem, q0, q1, q2, q3]) rfl ?_
  exact ⟨rfl, hbz⟩
end Go.Proofs.Ytlaclknhenccdaa
