/- Chapter 3, scales by their names: which. -/
import Derived.Test.YtaeinllbjkjhlaaDoorW10
namespace Go.Proofs.YtaeinllbjkjhlaaDoor
open Go.RowKit

def snFrom (nm : ByteArray) : List Scl → Option Scl
  | [] => none
  | x :: xs => if x.name.toList == nm.toList then some x else snFrom nm xs
theorem snFrom_yes {nm : ByteArray} {x : Scl} {xs : List Scl} (h : (x.name.toList == nm.toList) = true) : snFrom nm (x :: xs) = some x := if_pos h
theorem snFrom_no {nm : ByteArray} {x : Scl} {xs : List Scl} (h : (x.name.toList == nm.toList) = false) : snFrom nm (x :: xs) = snFrom nm xs := if_neg (by rw [h]; decide)
def snOf (nm : ByteArray) : Scl := (snFrom nm scls).getD sclNil
def snCode (nm : ByteArray) : Int := if (snFrom nm scls).isSome then 0 else 3
theorem specScaleNamed_c (nm : ByteArray) (w : World) :
    Calls Tryd.prog 15 #[.string nm] w fun e w' => e = .returned (.tuple #[.agg #[.string (snOf nm).name, .int .i64 (snOf nm).base, .int .i64 (snOf nm).num, .int .i64 (snOf nm).den], .int .i64 (snCode nm)]) ∧ Below w.heap.size w w' := by
  obtain ⟨wa, hwa⟩ : ∃ wa, wa = w.alloc (.cells #[.string ⟨#[]⟩, .int .i64 0, .int .i64 0, .int .i64 0] 25) := ⟨_, rfl⟩
  obtain ⟨w1, hw1⟩ : ∃ w1, w1 = wa.alloc (.cells #[.string ⟨#[112, 97, 114, 105, 115]⟩, .int .i64 0, .int .i64 100, .int .i64 3, .string ⟨#[101, 110, 103, 108, 105, 115, 104]⟩, .int .i64 50, .int .i64 127, .int .i64 3, .string ⟨#[97, 109, 101, 114, 105, 99, 97, 110]⟩, .int .i64 48, .int .i64 127, .int .i64 3, .string ⟨#[109, 111, 110, 100, 111]⟩, .int .i64 0, .int .i64 25, .int .i64 1] 25) := ⟨_, rfl⟩
  have hsa : wa.heap.size = w.heap.size + 1 := by rw [hwa]; exact World.size_alloc _ _
  have Da : Sp w wa [ite' 25 (.slice (some ⟨w.heap.size, 0, none⟩) 1 1) [sclNil]] := by rw [hwa]; exact (Sp.refl w).add (newB w _) (own_alloc w _ _ [sclNil] rfl (by show 1 ≤ 1048576; omega))
  have D : Sp w w1 [ite' 25 (.slice (some ⟨w.heap.size + 1, 0, none⟩) 4 4) scls, ite' 25 (.slice (some ⟨w.heap.size, 0, none⟩) 1 1) [sclNil]] := by rw [← hsa, hw1]; exact Da.add (newB wa _) (own_alloc wa _ _ scls rfl (by show 4 ≤ 1048576; omega))
  clear Da hsa
  replace hw1 := Lib.hid (hw1.trans (by rw [hwa]))
  clear hwa wa
  have hA := (D.get 0 rfl).at'
  have hsz := D.up.size
  replace D := Lib.hid D
  obtain ⟨R, hR⟩ : ∃ R, R = snFrom nm scls := ⟨_, rfl⟩
  have e1 : snOf nm = R.getD sclNil := by rw [hR]; rfl
  have e2 : snCode nm = if R.isSome then 0 else 3 := by rw [hR]; rfl
  rw [e1, e2]
  clear e1 e2
  replace hR := Lib.hid hR
  go_enter Tryd.func15, Tryd.ntmps15
  go_wp2_with (rw [← hw1.out])
  go_loopw [5] (fun i wr => ∃ k : Nat, k ≤ 4 ∧ i = .int .i64 k ∧ Hid (R = snFrom nm (scls.drop k)) ∧ wr = w1) (fun i _ => 4 - (intOf i).toNat)
  case atStart => exact ⟨0, by omega, rfl, hR, rfl⟩
  case round =>
    obtain ⟨k, hk, rfl, hL, rfl⟩ := hrel
    by_cases hlt : k < 4
    · obtain ⟨c0, c1, c2, c3⟩ := hA.scl (i := k) hlt
      have hd := Lib.hid (hL.out.trans (congrArg (snFrom nm) (List.drop_eq_getElem_cons (l := scls) hlt)))
      clear hL
      rw [Nat.zero_add] at c0 c1 c2 c3
      generalize scls[k] = x at *
      cases hn : (x.name.toList == nm.toList)
      · have hL2 := Lib.hid (hd.out.trans (snFrom_no hn))
        go_wp2_with fail
        go_roundw
        case rel => exact ⟨k + 1, by omega, by first | rfl | go_num, hL2, by first | rfl | trivial⟩
        case measure => first | (simp [intOf]; done) | (simp [intOf]; omega)
      · obtain rfl : R = some x := hd.out.trans (snFrom_yes hn)
        go_wp2_with (refine wpList_store_own rfl 25 (.tmp 2) (.tmp 27) rfl w.heap.size 25 _ 1 1 ([sclNil] : List Scl) 0 _ (x : Scl) rfl rfl rfl (by kernel_rfl) rfl (D.out.get 1 rfl) (by simp) ?_; intro wz hRz hgz)
        obtain ⟨q0, q1, q2, q3⟩ := scl1_cells hRz
        have Dz := D.out.set 1 rfl hRz hgz (Or.inl rfl)
        refine bodyPost_ret (v := .tuple #[.agg #[.string x.name, .int .i64 x.base, .int .i64 x.num, .int .i64 x.den], .int .i64 0]) (by simp [results, Tryd.results15, go_sem, q0, q1, q2, q3]) rfl ?_
        exact ⟨rfl, Dz.up⟩
    · obtain rfl : k = 4 := by omega
      obtain rfl : R = none := hL.out
      go_wp2_with (refine wpList_store_own rfl 25 (.tmp 2) (.tmp 28) rfl w.heap.size 25 _ 1 1 ([sclNil] : List Scl) 0 _ (sclNil : Scl) rfl rfl rfl (by kernel_rfl) rfl (D.out.get 1 rfl) (by simp) ?_; intro wz hRz hgz)
      obtain ⟨q0, q1, q2, q3⟩ := scl1_cells hRz
      have Dz := D.out.set 1 rfl hRz hgz (Or.inl rfl)
      refine bodyPost_ret (v := .tuple #[.agg #[.string sclNil.name, .int .i64 sclNil.base, .int .i64 sclNil.num, .int .i64 sclNil.den], .int .i64 3]) (by simp [results, Tryd.results15, go_sem, q0, q1, q2, q3]) rfl ?_
      exact ⟨rfl, Dz.up⟩
theorem implScaleNamed_c (nm : ByteArray) (w : World) :
    Calls Tryd.prog 14 #[.string nm] w fun e w' => e = .returned (.tuple #[.agg #[.string (snOf nm).name, .int .i64 (snOf nm).base, .int .i64 (snOf nm).num, .int .i64 (snOf nm).den], .int .i64 (snCode nm)]) ∧ Below w.heap.size w w' := by
  obtain ⟨wa, hwa⟩ : ∃ wa, wa = w.alloc (.cells #[.string ⟨#[]⟩, .int .i64 0, .int .i64 0, .int .i64 0] 25) := ⟨_, rfl⟩
  obtain ⟨w1, hw1⟩ : ∃ w1, w1 = wa.alloc (.cells #[.string ⟨#[112, 97, 114, 105, 115]⟩, .int .i64 0, .int .i64 100, .int .i64 3, .string ⟨#[101, 110, 103, 108, 105, 115, 104]⟩, .int .i64 50, .int .i64 127, .int .i64 3, .string ⟨#[97, 109, 101, 114, 105, 99, 97, 110]⟩, .int .i64 48, .int .i64 127, .int .i64 3, .string ⟨#[109, 111, 110, 100, 111]⟩, .int .i64 0, .int .i64 25, .int .i64 1] 25) := ⟨_, rfl⟩
  have hsa : wa.heap.size = w.heap.size + 1 := by rw [hwa]; exact World.size_alloc _ _
  have Da : Sp w wa [ite' 25 (.slice (some ⟨w.heap.size, 0, none⟩) 1 1) [sclNil]] := by rw [hwa]; exact (Sp.refl w).add (newB w _) (own_alloc w _ _ [sclNil] rfl (by show 1 ≤ 1048576; omega))
  have D : Sp w w1 [ite' 25 (.slice (some ⟨w.heap.size + 1, 0, none⟩) 4 4) scls, ite' 25 (.slice (some ⟨w.heap.size, 0, none⟩) 1 1) [sclNil]] := by rw [← hsa, hw1]; exact Da.add (newB wa _) (own_alloc wa _ _ scls rfl (by show 4 ≤ 1048576; omega))
  clear Da hsa
  replace hw1 := Lib.hid (hw1.trans (by rw [hwa]))
  clear hwa wa
  have hA := (D.get 0 rfl).at'
  have hsz := D.up.size
  replace D := Lib.hid D
  obtain ⟨R, hR⟩ : ∃ R, R = snFrom nm scls := ⟨_, rfl⟩
  have e1 : snOf nm = R.getD sclNil := by rw [hR]; rfl
  have e2 : snCode nm = if R.isSome then 0 else 3 := by rw [hR]; rfl
  rw [e1, e2]
  clear e1 e2
  replace hR := Lib.hid hR
  go_enter Tryd.func14, Tryd.ntmps14
  go_wp2_with (rw [← hw1.out])
  go_loopw [5, 12] (fun _ i wr => ∃ k : Nat, k ≤ 4 ∧ i = .int .i64 k ∧ Hid (R = snFrom nm (scls.drop k)) ∧ Below w1.heap.size w1 wr) (fun _ i _ => 4 - (intOf i).toNat)
  case atStart => exact ⟨0, by omega, rfl, hR, Below.refl _ _⟩
  case round =>
    obtain ⟨k, hk, rfl, hL, hbl⟩ := hrel
    have Dr := Lib.hid (D.out.later hbl)
    by_cases hlt : k < 4
    · obtain ⟨c0, c1, c2, c3⟩ := (hA.below hbl).scl (i := k) hlt
      have hd := Lib.hid (hL.out.trans (congrArg (snFrom nm) (List.drop_eq_getElem_cons (l := scls) hlt)))
      clear hL
      rw [Nat.zero_add] at c0 c1 c2 c3
      generalize scls[k] = x at *
      have hbn : Below wr.heap.size wr (wr.alloc (.cells #[.string x.name, .int .i64 x.base, .int .i64 x.num, .int .i64 x.den] 25)) := newB _ _
      replace Dr := Lib.hid (Dr.out.later hbn)
      cases hn : (x.name.toList == nm.toList)
      · have hL2 := Lib.hid (hd.out.trans (snFrom_no hn))
        go_wp2_with fail
        go_roundw
        case rel => exact ⟨k + 1, by omega, by first | rfl | go_num, hL2, upw hbl hbn⟩
        case measure => first | (simp [intOf]; done) | (simp [intOf]; omega)
      · obtain rfl : R = some x := hd.out.trans (snFrom_yes hn)
        go_wp2_with (refine wpList_store_own rfl 25 (.tmp 2) (.tmp 20) rfl w.heap.size 25 _ 1 1 ([sclNil] : List Scl) 0 _ (x : Scl) rfl rfl rfl (by kernel_rfl) rfl (Dr.out.get 1 rfl) (by simp) ?_; intro wz hRz hgz)
        obtain ⟨q0, q1, q2, q3⟩ := scl1_cells hRz
        have Dz := Dr.out.set 1 rfl hRz hgz (Or.inl rfl)
        refine bodyPost_ret (v := .tuple #[.agg #[.string x.name, .int .i64 x.base, .int .i64 x.num, .int .i64 x.den], .int .i64 0]) (by simp [results, Tryd.results14, go_sem, q0, q1, q2, q3]) rfl ?_
        exact ⟨rfl, Dz.up⟩
    · obtain rfl : k = 4 := by omega
      obtain rfl : R = none := hL.out
      go_wp2_with (refine wpList_store_own rfl 25 (.tmp 2) (.tmp 22) rfl w.heap.size 25 _ 1 1 ([sclNil] : List Scl) 0 _ (sclNil : Scl) rfl rfl rfl (by kernel_rfl) rfl (Dr.out.get 1 rfl) (by simp) ?_; intro wz hRz hgz)
      obtain ⟨q0, q1, q2, q3⟩ := scl1_cells hRz
      have Dz := Dr.out.set 1 rfl hRz hgz (Or.inl rfl)
      refine bodyPost_ret (v := .tuple #[.agg #[.string sclNil.name, .int .i64 sclNil.base, .int .i64 sclNil.num, .int .i64 sclNil.den], .int .i64 3]) (by simp [results, Tryd.results14, go_sem, q0, q1, q2, q3]) rfl ?_
      exact ⟨rfl, Dz.up⟩
theorem specValidScale_c (x : Scl) (w : World) (hs : x.name.size ≤ 9223372036854775807) :
    Calls Tryd.prog 23 #[.agg #[.string x.name, .int .i64 x.base, .int .i64 x.num, .int .i64 x.den]] w fun e w' => e = .returned (.bool (okScl x)) ∧ Below w.heap.size w w' := by
  obtain ⟨w1, hw1, hb, c0, c1, c2, c3⟩ := scl_new w 25 x
  replace hw1 := Lib.hid hw1
  have hI := Lib.hid (l03Ok_c x w1 hs)
  clear hs
  go_enter Tryd.func23, Tryd.ntmps23
  go_wp2_with (rw [← hw1.out])
  refine hI.out.mono ?_
  rintro e w2 ⟨rfl, hb2⟩
  go_wp2_with fail
  go_ret
  exact ⟨rfl, upw hb hb2⟩
end Go.Proofs.YtaeinllbjkjhlaaDoor
