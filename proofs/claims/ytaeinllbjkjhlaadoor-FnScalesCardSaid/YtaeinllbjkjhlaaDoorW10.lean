/- Chapter 3, scales by their names. -/
import Derived.Test.YtaeinllbjkjhlaaDoorW09
namespace Go.Proofs.YtaeinllbjkjhlaaDoor
open Go.RowKit

theorem At.scl {w : World} {b off : Nat} {xs : List Scl} (h : At w (some ⟨b, off, none⟩) xs) {i : Nat} (hi : i < xs.length) :
    w.cell? ⟨b, off + i * 4, none⟩ = some (.string xs[i].name) ∧ w.cell? ⟨b, off + i * 4 + 1, none⟩ = some (.int .i64 xs[i].base) ∧ w.cell? ⟨b, off + i * 4 + 2, none⟩ = some (.int .i64 xs[i].num) ∧ w.cell? ⟨b, off + i * 4 + 3, none⟩ = some (.int .i64 xs[i].den) := by
  obtain ⟨cs, hr, hc⟩ := h.elem hi
  have h0 := hc 0 (.string xs[i].name) (by rw [hr]; rfl)
  have h1 := hc 1 (.int .i64 xs[i].base) (by rw [hr]; rfl)
  have h2 := hc 2 (.int .i64 xs[i].num) (by rw [hr]; rfl)
  have h3 := hc 3 (.int .i64 xs[i].den) (by rw [hr]; rfl)
  exact ⟨by simpa [Rep.k, Flat.k] using h0, by simpa [Rep.k, Flat.k] using h1, by simpa [Rep.k, Flat.k] using h2, by simpa [Rep.k, Flat.k] using h3⟩
theorem scl1_cells {B : Nat} {w : World} {e : TypeId} {g n c : Nat} {x : Scl} (h : Own B w e (.slice (some ⟨g, 0, none⟩) n c) [x]) :
    w.cell? ⟨g, 0, none⟩ = some (.string x.name) ∧ w.cell? ⟨g, 1, none⟩ = some (.int .i64 x.base) ∧ w.cell? ⟨g, 2, none⟩ = some (.int .i64 x.num) ∧ w.cell? ⟨g, 3, none⟩ = some (.int .i64 x.den) := by
  have := h.at'.scl (i := 0) (by simp)
  simpa using this
def sclNil : Scl := ⟨⟨#[]⟩, 0, 0, 0⟩
def scls : List Scl := [⟨⟨#[112, 97, 114, 105, 115]⟩, 0, 100, 3⟩, ⟨⟨#[101, 110, 103, 108, 105, 115, 104]⟩, 50, 127, 3⟩, ⟨⟨#[97, 109, 101, 114, 105, 99, 97, 110]⟩, 48, 127, 3⟩, ⟨⟨#[109, 111, 110, 100, 111]⟩, 0, 25, 1⟩]
theorem scls_size : ∀ x ∈ scls, x.name.size ≤ 10 := by decide
set_option maxHeartbeats 1600000 in
theorem scaleNamed_c (nm : ByteArray) (w : World) :
    Calls Tryd.prog 15 #[.string nm] w fun e w' => ∃ (x : Scl) (code : Int), e = .returned (.tuple #[.agg #[.string x.name, .int .i64 x.base, .int .i64 x.num, .int .i64 x.den], .int .i64 code]) ∧ x.name.size ≤ 10 ∧ Below w.heap.size w w' := by
  obtain ⟨wa, hwa⟩ : ∃ wa, wa = w.alloc (.cells #[.string ⟨#[]⟩, .int .i64 0, .int .i64 0, .int .i64 0] 25) := ⟨_, rfl⟩
  obtain ⟨w1, hw1⟩ : ∃ w1, w1 = wa.alloc (.cells #[.string ⟨#[112, 97, 114, 105, 115]⟩, .int .i64 0, .int .i64 100, .int .i64 3, .string ⟨#[101, 110, 103, 108, 105, 115, 104]⟩, .int .i64 50, .int .i64 127, .int .i64 3, .string ⟨#[97, 109, 101, 114, 105, 99, 97, 110]⟩, .int .i64 48, .int .i64 127, .int .i64 3, .string ⟨#[109, 111, 110, 100, 111]⟩, .int .i64 0, .int .i64 25, .int .i64 1] 25) := ⟨_, rfl⟩
  have hsa : wa.heap.size = w.heap.size + 1 := by rw [hwa]; exact World.size_alloc _ _
  have Da : Sp w wa [ite' 25 (.slice (some ⟨w.heap.size, 0, none⟩) 1 1) [sclNil]] := by rw [hwa]; exact (Sp.refl w).add (newB w _) (own_alloc w _ _ [sclNil] rfl (by show 1 ≤ 1048576; omega))
  have D : Sp w w1 [ite' 25 (.slice (some ⟨w.heap.size + 1, 0, none⟩) 4 4) scls, ite' 25 (.slice (some ⟨w.heap.size, 0, none⟩) 1 1) [sclNil]] := by rw [← hsa, hw1]; exact Da.add (newB wa _) (own_alloc wa _ _ scls rfl (by show 4 ≤ 1048576; omega))
  clear Da hsa
  replace hw1 := Lib.hid (hw1.trans (by rw [hwa]))
  clear hwa wa
  have hA := (D.get 0 rfl).at'
  have hsz := D.up.size
  replace D := Lib.hid D
  go_enter Tryd.func15, Tryd.ntmps15
  go_wp2_with (rw [← hw1.out])
  go_loopw [5] (fun i wr => ∃ k : Nat, k ≤ 4 ∧ i = .int .i64 k ∧ wr = w1) (fun i _ => 4 - (intOf i).toNat)
  case atStart => exact ⟨0, by omega, rfl, rfl⟩
  case round =>
    obtain ⟨k, hk, rfl, rfl⟩ := hrel
    by_cases hlt : k < 4
    · obtain ⟨c0, c1, c2, c3⟩ := hA.scl (i := k) hlt
      have hsize := scls_size _ (List.getElem_mem (l := scls) (n := k) hlt)
      rw [Nat.zero_add] at c0 c1 c2 c3
      generalize scls[k] = x at *
      cases hn : (x.name.toList == nm.toList)
      · go_wp2_with fail
        go_roundw
        case rel => exact ⟨k + 1, by omega, by first | rfl | go_num, trivial⟩
        case measure => first | (simp [intOf]; done) | (simp [intOf]; omega)
      · go_wp2_with (refine wpList_store_own rfl 25 (.tmp 2) (.tmp 27) rfl w.heap.size 25 _ 1 1 ([sclNil] : List Scl) 0 _ (x : Scl) rfl rfl rfl (by kernel_rfl) rfl (D.out.get 1 rfl) (by simp) ?_; intro wz hRz hgz)
        obtain ⟨q0, q1, q2, q3⟩ := scl1_cells hRz
        have Dz := D.out.set 1 rfl hRz hgz (Or.inl rfl)
        refine bodyPost_ret (v := .tuple #[.agg #[.string x.name, .int .i64 x.base, .int .i64 x.num, .int .i64 x.den], .int .i64 0]) (by simp [results, Tryd.results15, go_sem, q0, q1, q2, q3]) rfl ?_
        exact ⟨x, 0, rfl, hsize, Dz.up⟩
    · obtain rfl : k = 4 := by omega
      go_wp2_with (refine wpList_store_own rfl 25 (.tmp 2) (.tmp 28) rfl w.heap.size 25 _ 1 1 ([sclNil] : List Scl) 0 _ (sclNil : Scl) rfl rfl rfl (by kernel_rfl) rfl (D.out.get 1 rfl) (by simp) ?_; intro wz hRz hgz)
      obtain ⟨q0, q1, q2, q3⟩ := scl1_cells hRz
      have Dz := D.out.set 1 rfl hRz hgz (Or.inl rfl)
      refine bodyPost_ret (v := .tuple #[.agg #[.string sclNil.name, .int .i64 sclNil.base, .int .i64 sclNil.num, .int .i64 sclNil.den], .int .i64 3]) (by simp [results, Tryd.results15, go_sem, q0, q1, q2, q3]) rfl ?_
      exact ⟨sclNil, 3, rfl, by decide, Dz.up⟩
end Go.Proofs.YtaeinllbjkjhlaaDoor
