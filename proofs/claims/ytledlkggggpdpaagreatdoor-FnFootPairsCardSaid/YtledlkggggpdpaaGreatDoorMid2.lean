/- Measures of feet: each kind for itself. -/
import Derived.Test.YtledlkggggpdpaaGreatDoorMid1
namespace Go.Proofs.YtledlkggggpdpaaGreatDoor
open Go.RowKit

theorem four_length (f : Foot) : (fourOf f).length = 4 := rfl
def kindOf (k : Nat) (f : Foot) : Int := (fourOf f).getD k 0
theorem kindOf_get {k : Nat} {f : Foot} (h : k < (fourOf f).length) : (fourOf f)[k] = kindOf k f := by
  unfold kindOf; rw [List.getD_eq_getElem?_getD, List.getElem?_eq_getElem h]; rfl
def col (k : Nat) (fs : List Foot) : List Int := fs.map (kindOf k)
theorem col_length (k : Nat) (fs : List Foot) : (col k fs).length = fs.length := by simp [col]
theorem footOf_c (a : Option Addr) (x0 x1 x2 x3 : Int) (n c : Nat) (w : World) (hx : At w a [x0, x1, x2, x3]) (hn : n = 4) :
    Calls Tryz.prog 142 #[.slice a n c] w fun e w' => e = .returned (.agg #[.int .i64 x0, .int .i64 x1, .int .i64 x2, .int .i64 x3]) ∧ Below w.heap.size w w' := by
  subst hn
  obtain ⟨b, off, rfl⟩ := hx.addr (i := 0) (by simp)
  obtain ⟨w1, hw1⟩ : ∃ w1, w1 = w.alloc (.cells #[.int .i64 0, .int .i64 0, .int .i64 0, .int .i64 0] 25) := ⟨_, rfl⟩
  have hb : Below w.heap.size w w1 := by rw [hw1]; exact newB _ _
  have hR : Own w.heap.size w1 25 (.slice (some ⟨w.heap.size, 0, none⟩) 1 1) [(⟨0, 0, 0, 0⟩ : Foot)] := by rw [hw1]; exact own_foot1 w _ ⟨0, 0, 0, 0⟩
  have hx1 := hx.below hb
  have d0 := rg (hx1.int (i := 0) (by simp))
  have d1 := rg (hx1.int (i := 1) (by simp))
  have d2 := rg (hx1.int (i := 2) (by simp))
  have d3 := rg (hx1.int (i := 3) (by simp))
  simp only [List.getElem_cons_zero, List.getElem_cons_succ, Nat.add_zero] at d0 d1 d2 d3
  replace hw1 := Lib.hid hw1
  replace hR := Lib.hid hR
  clear hx hx1
  go_enter Tryz.func142, Tryz.ntmps142
  go_wp2_with (rw [← hw1.out])
  refine wp_region_tail_below 13 (by kernel_rfl) (by kernel_rfl) (by kernel_rfl) (by simp only [List.take_succ_cons, List.take_zero]; rfl) (by simp only [List.drop_succ_cons, List.drop_zero]; rfl) ?_
  repeat (go_big_quiet_step ((fail)))
  refine wpQuiet_nil ?_
  intro w2 hw'
  replace hb := upw hb (grown_of hw')
  have hw2 := grown_of hw'
  clear hw'
  replace hR := Lib.hid (hR.out.later hw2)
  go_wp2_with ((with_reducible refine at_st 25 (.tmp 2) (.tmp 15) ?_); refine wpList_store_own rfl 25 (.tmp 2) (.tmp 15) rfl w.heap.size 25 _ 1 1 [(⟨0, 0, 0, 0⟩ : Foot)] 0 _ (⟨x0, x1, x2, x3⟩ : Foot) rfl rfl rfl (by kernel_rfl) rfl hR.out (by simp) ?_; intro wz hRz hgz)
  obtain ⟨q0, q1, q2, q3⟩ := foot1_cells hRz
  have hbz := below_mark hb hR.out (Nat.le_refl _) hgz
  refine bodyPost_ret (v := .agg #[.int .i64 x0, .int .i64 x1, .int .i64 x2, .int .i64 x3]) (by simp [results, Tryz.results142, go_sem, q0, q1, q2, q3]) rfl ?_
  exact ⟨rfl, hbz⟩
end Go.Proofs.YtledlkggggpdpaaGreatDoor
