/- Scales, plain law: more half sizes are longer; the least that is long enough. -/
import Derived.Test.YtaeinllbjkjhlaaDoorS03b
namespace Go.Proofs.YtaeinllbjkjhlaaDoor
open Go.RowKit

theorem low_parts {n d : Int} (hd : 1 ≤ d) : ∃ g, 1 ≤ g ∧ lowN n d * g = n ∧ lowD n d * g = d := by
  have hg := gcdI_pos (a := n) hd
  have h1 : gcdI n d ∣ n := by unfold gcdI; exact Int.gcd_dvd_left ..
  have h2 : gcdI n d ∣ d := by unfold gcdI; exact Int.gcd_dvd_right ..
  exact ⟨gcdI n d, hg, Int.tdiv_mul_cancel h1, Int.tdiv_mul_cancel h2⟩
theorem len_parts {x : Scl} {h : Int} (ok : okScl x = true) : ∃ g, 1 ≤ g ∧ lenN x h * g = (h + x.base) * x.num ∧ lenD x h * g = x.den :=
  low_parts (okScl_iff.1 ok).2.2.2.1
/-- More half sizes are longer. -/
theorem len_more {x : Scl} {h : Int} (ok : okScl x = true) : lenN x h * lenD x (h + 1) < lenN x (h + 1) * lenD x h := by
  obtain ⟨g, g1, e1, e2⟩ := len_parts (h := h) ok
  obtain ⟨k, k1, f1, f2⟩ := len_parts (h := h + 1) ok
  obtain ⟨_, _, hnum, hden⟩ := okScl_iff.1 ok
  generalize lenN x h = u at *
  generalize lenD x h = v at *
  generalize lenN x (h + 1) = u' at *
  generalize lenD x (h + 1) = v' at *
  have a1 : u * v' * (g * k) = (h + x.base) * x.num * x.den := by rw [← e1, ← f2]; grind
  have a2 : u' * v * (g * k) = (h + 1 + x.base) * x.num * x.den := by rw [← f1, ← e2]; grind
  have a3 : (h + 1 + x.base) * x.num * x.den = (h + x.base) * x.num * x.den + x.num * x.den := by grind
  have a4 : 0 < x.num * x.den := Int.mul_pos (by omega) (by omega)
  have a5 : 0 < g * k := Int.mul_pos (by omega) (by omega)
  exact Int.lt_of_mul_lt_mul_right (a := g * k) (by omega) (by omega)
theorem len_bound {x : Scl} {h : Int} (ok : okScl x = true) (hh : 0 ≤ h ∧ h ≤ 120) : (0 ≤ lenN x h ∧ lenN x h ≤ 220000) ∧ 1 ≤ lenD x h ∧ lenD x h ≤ 100 := by
  obtain ⟨g, g1, e1, e2⟩ := len_parts (h := h) ok
  obtain ⟨_, b0, b1⟩ := len_in ok hh
  obtain ⟨_, _, _, d0, d1⟩ := okScl_iff.1 ok
  generalize lenN x h = u at *
  generalize lenD x h = v at *
  have u0 : 0 ≤ u := by
    apply Classical.byContradiction
    intro hu
    have := Int.mul_neg_of_neg_of_pos (a := u) (b := g) (by omega) (by omega)
    omega
  have v0 : 1 ≤ v := by
    apply Classical.byContradiction
    intro hv
    have := Int.mul_nonpos_of_nonpos_of_nonneg (a := v) (b := g) (by omega) (by omega)
    omega
  have u1 := Int.mul_le_mul_of_nonneg_left g1 u0
  have v1 := Int.mul_le_mul_of_nonneg_left g1 (show 0 ≤ v by omega)
  omega
theorem long_iff {x : Scl} {n h : Int} (ok : okScl x = true) : long x n h = true ↔ n * lenD x h ≤ lenN x h := by
  obtain ⟨g, g1, e1, e2⟩ := len_parts (h := h) ok
  unfold long
  rw [decide_eq_true_iff, ← e1, ← e2]
  generalize lenN x h = u at *
  generalize lenD x h = v at *
  have a : n * (v * g) = (n * v) * g := by grind
  rw [a]
  exact ⟨fun h => Int.le_of_mul_le_mul_right h (by omega), fun h => Int.mul_le_mul_of_nonneg_right h (by omega)⟩
theorem least_is {x : Scl} {n : Int} : ∀ (d : Nat) (h k : Int), least x n d h = some k → long x n k = true ∧ h ≤ k ∧ k < h + d ∧ ∀ j, h ≤ j → j < k → long x n j = false
  | 0, h, k, e => by cases e
  | d + 1, h, k, e => by
    unfold least at e
    split at e
    · rename_i hl
      cases e
      exact ⟨hl, by omega, by omega, fun j h1 h2 => by omega⟩
    · rename_i hl
      obtain ⟨h1, h2, h3, h4⟩ := least_is d (h + 1) k e
      refine ⟨h1, by omega, by omega, fun j j1 j2 => ?_⟩
      by_cases hj : j = h
      · subst hj; simpa using hl
      · exact h4 j (by omega) j2
end Go.Proofs.YtaeinllbjkjhlaaDoor
