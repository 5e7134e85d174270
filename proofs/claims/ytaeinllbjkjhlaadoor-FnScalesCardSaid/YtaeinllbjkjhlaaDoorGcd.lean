/- Fractions in lowest terms: what the program and the reference compute. -/
import Derived.Test.YtaeinllbjkjhlaaDoorNum
import Derived.Test.YtaeinllbjkjhlaaDoorSmall
import Derived.Test.YtaeinllbjkjhlaaDoorSrc
namespace Go.Proofs.YtaeinllbjkjhlaaDoor
open Go.RowKit

def gcdI (a b : Int) : Int := (Nat.gcd a.natAbs b.natAbs : Nat)
theorem gcdI_step (a b : Int) : gcdI b (a.tmod b) = gcdI a b := by
  unfold gcdI
  rw [Int.natAbs_tmod, Nat.gcd_comm, ← Nat.gcd_rec, Nat.gcd_comm]
theorem gcdI_zero (a : Int) : gcdI a 0 = size a := by
  unfold gcdI size; simp; omega
theorem gcdI_size (a b : Int) : gcdI (size a) (size b) = gcdI a b := by
  have h : ∀ a : Int, (size a).natAbs = a.natAbs := fun a => by unfold size; omega
  unfold gcdI; rw [h, h]
theorem gcdI_bound {a b M : Int} (ha : -M ≤ a ∧ a ≤ M) (hb : -M ≤ b ∧ b ≤ M) : 0 ≤ gcdI a b ∧ gcdI a b ≤ 2 * M := by
  have h : Nat.gcd a.natAbs b.natAbs ≤ a.natAbs + b.natAbs := by
    rcases Nat.eq_zero_or_pos a.natAbs with h | h
    · rw [h]; simp
    · exact Nat.le_trans (Nat.gcd_le_left _ h) (by omega)
  unfold gcdI
  generalize Nat.gcd a.natAbs b.natAbs = g at h
  omega
theorem tmod_in {a b : Int} (h : b ≠ 0) : (a.tmod b).natAbs < b.natAbs := by
  rw [Int.natAbs_tmod]; exact Nat.mod_lt _ (by omega)
theorem gcd_c (a b : Int) (w : World) (ha : -1000000000 ≤ a ∧ a ≤ 1000000000) (hb : -1000000000 ≤ b ∧ b ≤ 1000000000) :
    Calls Tryd.prog 54 #[.int .i64 a, .int .i64 b] w fun e w' => e = .returned (.int .i64 (gcdI a b)) ∧ Below w.heap.size w w' := by
  go_enter Tryd.func54, Tryd.ntmps54
  go_wp2_with fail
  go_loopw [0, 1] (fun p q wr => ∃ x y : Int, p = .int .i64 x ∧ q = .int .i64 y ∧ gcdI x y = gcdI a b ∧ (-1000000000 ≤ x ∧ x ≤ 1000000000) ∧ (-1000000000 ≤ y ∧ y ≤ 1000000000) ∧ Below w.heap.size w wr) (fun _ q _ => (intOf q).natAbs)
  case atStart => exact ⟨a, b, rfl, rfl, rfl, ha, hb, Below.refl _ _⟩
  case round =>
    clear ha hb
    obtain ⟨x, y, rfl, rfl, hg, hx, hy, hb⟩ := hrel
    have HG := Lib.hid hg
    clear hg
    by_cases h0 : y = 0
    · subst h0
      go_wp2_with fail
      all_goals go_ret
      all_goals exact ⟨ret_int (by rw [← HG.out, gcdI_zero]; unfold size; omega), hb⟩
    · have hm := tmod_in (a := x) h0
      have hm2 : -1000000000 ≤ x.tmod y ∧ x.tmod y ≤ 1000000000 := by omega
      go_wp2_with fail
      refine wp_region_quiet_below (by kernel_rfl) (by kernel_rfl) ?_
      repeat (go_big_quiet_step ((fail)))
      refine wpQuiet_nil ?_
      intro w2 hw'
      replace hb := upw hb (grown_of hw')
      clear hw'
      go_wp2_with fail
      go_roundw
      case rel => exact ⟨y, x.tmod y, rfl, rfl, by rw [gcdI_step]; exact HG.out, hy, hm2, hb⟩
      case measure => simpa [intOf] using hm
structure Frac where
  num : Int
  den : Int
instance : Flat Frac := ⟨2, by decide, fun x => [.int .i64 x.num, .int .i64 x.den], fun _ => rfl, fun x u h => by simp at h; rcases h with h | h <;> subst h <;> rfl, fun _ => True⟩
theorem own_frac (w : World) (t : TypeId) (x : Frac) : Own w.heap.size (w.alloc (.cells #[.int .i64 x.num, .int .i64 x.den] t)) t (.slice (some ⟨w.heap.size, 0, none⟩) 1 1) [x] :=
  ⟨rfl, .inr ⟨w.heap.size, 1, #[.int .i64 x.num, .int .i64 x.den], rfl, Nat.le_refl _, heap_alloc_new _ _, Nat.le_refl _, by unfold maxLen; omega, rfl, rfl⟩⟩
theorem frac_cells {B : Nat} {w : World} {e : TypeId} {g n c : Nat} {x : Frac} (h : Own B w e (.slice (some ⟨g, 0, none⟩) n c) [x]) : w.cell? ⟨g, 0, none⟩ = some (.int .i64 x.num) ∧ w.cell? ⟨g, 1, none⟩ = some (.int .i64 x.den) := by
  obtain ⟨cs, hcs, hc⟩ := h.at'.elem (i := 0) (by simp)
  have hcs : cs = Flat.el x := hcs
  subst hcs
  have c0 := hc 0 (.int .i64 x.num) rfl
  have c1 := hc 1 (.int .i64 x.den) rfl
  simp only [Nat.zero_mul, Nat.add_zero, Nat.zero_add] at c0 c1
  exact ⟨c0, c1⟩
theorem gcdI_pos {a b : Int} (h : 1 ≤ b) : 1 ≤ gcdI a b := by
  have := Nat.gcd_pos_of_pos_right a.natAbs (show 0 < b.natAbs by omega)
  unfold gcdI
  omega
/-- A fraction in lowest terms. -/
def lowN (num den : Int) : Int := num.tdiv (gcdI num den)
def lowD (num den : Int) : Int := den.tdiv (gcdI num den)
theorem lowest_c (num den : Int) (w : World) (hn : -1000000000 ≤ num ∧ num ≤ 1000000000) (hd : 1 ≤ den ∧ den ≤ 1000000000) :
    Calls Tryd.prog 33 #[.int .i64 num, .int .i64 den] w fun e w' => e = .returned (.agg #[.int .i64 (lowN num den), .int .i64 (lowD num den)]) ∧ Below w.heap.size w w' := by
  have hg := gcdI_pos (a := num) hd.1
  have hgb := (gcdI_bound (M := 1000000000) hn (by omega : -1000000000 ≤ den ∧ den ≤ 1000000000)).2
  have q1 := tdiv_bound num (gcdI num den)
  have q2 := tdiv_bound den (gcdI num den)
  have hC := fun w' => gcd_c num den w' hn (by omega)
  obtain ⟨x, hx⟩ : ∃ x, x = lowN num den := ⟨_, rfl⟩
  obtain ⟨y, hy⟩ : ∃ y, y = lowD num den := ⟨_, rfl⟩
  rw [← hx, ← hy]
  unfold lowN at hx
  unfold lowD at hy
  generalize gcdI num den = g at *
  rw [← hx] at q1
  rw [← hy] at q2
  unfold size at q1 q2
  have hxw : IntKind.i64.wrap x = x := IntWalk.i64_in _ (by omega)
  have hyw : IntKind.i64.wrap y = y := IntWalk.i64_in _ (by omega)
  have hg0 : ¬ g = 0 := by omega
  have hx2 := hx.symm
  have hy2 := hy.symm
  clear hx hy q1 q2
  obtain ⟨w1, hw1⟩ : ∃ w1, w1 = w.alloc (.cells #[.int .i64 0, .int .i64 0] 31) := ⟨_, rfl⟩
  have hb : Below w.heap.size w w1 := by rw [hw1]; exact newB _ _
  have hR : Own w.heap.size w1 31 (.slice (some ⟨w.heap.size, 0, none⟩) 1 1) [(⟨0, 0⟩ : Frac)] := by rw [hw1]; exact own_frac w _ ⟨0, 0⟩
  replace hw1 := Lib.hid hw1
  replace hR := Lib.hid hR
  replace hC := Lib.hid hC
  go_enter Tryd.func33, Tryd.ntmps33
  go_wp2_with (rw [← hw1.out])
  refine (hC.out _).mono ?_
  rintro e w2 ⟨rfl, hb2⟩
  replace hR := Lib.hid (hR.out.later hb2)
  replace hb := upw hb hb2
  clear hb2 hw1 hC
  go_wp2_with fail
  refine wp_region_tail_below 7 (by kernel_rfl) (by kernel_rfl) (by kernel_rfl) (by simp only [List.take_succ_cons, List.take_zero]; rfl) (by simp only [List.drop_succ_cons, List.drop_zero]; rfl) ?_
  repeat (go_big_quiet_step ((fail)))
  refine wpQuiet_nil ?_
  intro w2 hw'
  replace hb := upw hb (grown_of hw')
  have hw2 := grown_of hw'
  clear hw'
  replace hR := Lib.hid (hR.out.later hw2)
  go_wp2_with ((with_reducible refine at_st 31 (.tmp 4) (.tmp 21) ?_); refine wpList_store_own rfl 31 (.tmp 4) (.tmp 21) rfl w.heap.size 31 _ 1 1 [(⟨0, 0⟩ : Frac)] 0 _ (⟨x, y⟩ : Frac) rfl rfl rfl (by kernel_rfl) rfl hR.out (by simp) ?_; intro wz hRz hgz)
  obtain ⟨q0, q1⟩ := frac_cells hRz
  have hbz := below_mark hb hR.out (Nat.le_refl _) hgz
  refine bodyPost_ret (v := .agg #[.int .i64 x, .int .i64 y]) (by simp [results, Tryd.results33, go_sem, q0, q1]) rfl ?_
  exact ⟨rfl, hbz⟩
end Go.Proofs.YtaeinllbjkjhlaaDoor
