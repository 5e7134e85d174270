/- FnConversions: the plain laws. -/
import Derived.Test.YtlaclknhenccdaaW14
import Derived.Test.YtlaclknhenccdaaF6
import Derived.Test.YtlaclknhenccdaaW04
namespace Go.Proofs.Ytlaclknhenccdaa
open Go.RowKit

theorem cv_law {x y : Scl} {h : Int} (e : (cvRes x y h).2 = 0) : okScl x = true ∧ okScl y = true ∧ (0 ≤ h ∧ h ≤ 120) ∧ (cvRes x y h).1 = (conv x y h : Nat) := by
  unfold cvRes at e ⊢
  cases h1 : okScl x
  · simp [h1] at e
  · cases h2 : okScl y
    · simp [h1, h2] at e
    · cases h3 : inr h 0 120
      · simp [h1, h2, h3] at e
      · exact ⟨rfl, rfl, inr_true.1 h3, by simp⟩
theorem cv_ok {x y : Scl} {h : Int} (h1 : okScl x = true) (h2 : okScl y = true) (h3 : 0 ≤ h ∧ h ≤ 120) : cvRes x y h = (((conv x y h : Nat) : Int), 0) := by
  unfold cvRes
  simp [h1, h2, inr_true.2 h3]
theorem conv_mono {x y : Scl} {h h' : Int} (h1 : okScl x = true) (h2 : okScl y = true) (hle : h ≤ h') : conv x y h ≤ conv x y h' := by
  obtain ⟨_, a1, a2, a3⟩ := okScl_iff.1 h1
  exact nearest_mono a3.1 h2 (Int.mul_le_mul_of_nonneg_right (by omega) (by omega))
/-- One more half size: the other scale's are not fewer. -/
theorem cv_next {x y : Scl} {h : Int} (e : (cvRes x y h).2 = 0) (hh : h < 120) : (cvRes x y (h + 1)).2 = 0 ∧ ¬ (cvRes x y (h + 1)).1 < (cvRes x y h).1 := by
  obtain ⟨h1, h2, h3, h4⟩ := cv_law e
  rw [h4, cv_ok h1 h2 (by omega)]
  have := conv_mono (h := h) (h' := h + 1) h1 h2 (by omega)
  exact ⟨rfl, by show ¬ ((conv x y (h + 1) : Nat) : Int) < (conv x y h : Nat); omega⟩
theorem gof_ok {x : Foot} {h : Int} {k : Nat} (h1 : okWid x = true) (h2 : 0 ≤ h ∧ h ≤ 120) (h3 : (k : Int) < x.Heel) : gofRes x h k = (girthN x h k, 0) := by
  unfold gofRes gofOk
  simp [h1, inr_true.2 h2, inr_true.2 (show 0 ≤ (k : Int) ∧ (k : Int) ≤ x.Heel - 1 by omega)]
/-- The width that is told has the girth, and the one below has not. -/
theorem wf_next {x : Foot} {h g : Int} (e : (wfRes x h g).2 = 0) : ∃ K : Int, (wfRes x h g).1 = K ∧ (0 ≤ K ∧ K ≤ 12) ∧ (gofRes x h K).2 = 0 ∧ ¬ (gofRes x h K).1 < g ∧ (0 < K → (gofRes x h (K - 1)).2 = 0 ∧ (gofRes x h (K - 1)).1 < g) := by
  obtain ⟨k, h1, h2, h3, h4, h5, h6⟩ := wf_law e
  have o4 := (okWid_iff.1 h2).2.2.2
  refine ⟨k, h1, by omega, by rw [gof_ok h2 h3 h4], by rw [gof_ok h2 h3 h4]; show ¬ girthN x h k < g; omega, fun hk => ?_⟩
  have e1 : (k : Int) - 1 = ((k - 1 : Nat) : Int) := by omega
  rw [e1, gof_ok h2 h3 (k := k - 1) (by omega)]
  exact ⟨rfl, h6 (k - 1) (by omega)⟩
theorem ls_law {x y : Scl} {f t : Int} (e : lsCode x y f t = 0) : okScl x = true ∧ okScl y = true ∧ (0 ≤ f ∧ f ≤ 120) ∧ (f ≤ t ∧ t ≤ 120) := by
  unfold lsCode at e
  cases h1 : okScl x
  · simp [h1] at e
  · cases h2 : okScl y
    · simp [h1, h2] at e
    · cases h3 : inr f 0 120
      · simp [h1, h2, h3] at e
      · cases h4 : inr t f 120
        · simp [h1, h2, h3, h4] at e
        · exact ⟨rfl, rfl, inr_true.1 h3, inr_true.1 h4⟩
theorem lostTo_mem {x y : Scl} {f v : Int} : ∀ {k : Nat}, v ∈ lostTo x y f k ↔ (f ≤ v ∧ v < f + k) ∧ lostAt x y v = true
  | 0 => by simp [lostTo]; omega
  | k + 1 => by
    unfold lostTo
    rw [List.mem_append, lostTo_mem (k := k)]
    cases h : lostAt x y (f + k)
    · simp only [Bool.false_eq_true, if_false, List.not_mem_nil, or_false]
      constructor
      · rintro ⟨h1, h2⟩; exact ⟨by omega, h2⟩
      · rintro ⟨h1, h2⟩
        refine ⟨⟨h1.1, ?_⟩, h2⟩
        apply Classical.byContradiction
        intro hc
        obtain rfl : v = f + k := by omega
        rw [h] at h2; cases h2
    · simp only [if_true, List.mem_singleton]
      constructor
      · rintro (⟨h1, h2⟩ | rfl)
        · exact ⟨by omega, h2⟩
        · exact ⟨by omega, h⟩
      · rintro ⟨h1, h2⟩
        by_cases hc : v = f + k
        · exact Or.inr hc
        · exact Or.inl ⟨by omega, h2⟩
theorem ls_mem {x y : Scl} {f t v : Int} (e : lsCode x y f t = 0) (hv : f ≤ v ∧ v ≤ t) : decide (v ∈ lsRow x y f t) = lostAt x y v := by
  obtain ⟨_, _, h3, h4⟩ := ls_law e
  have hr : lsRow x y f t = lostTo x y f (t - f + 1).toNat := by simp [lsRow, e]
  rw [hr, Bool.eq_iff_iff]
  simp only [decide_eq_true_eq]
  rw [lostTo_mem]
  exact ⟨fun h => h.2, fun h => ⟨by omega, h⟩⟩
theorem ls_len (x y : Scl) (f t : Int) : (lsRow x y f t).length ≤ 121 := by
  unfold lsRow
  split
  · rename_i e
    obtain ⟨_, _, h3, h4⟩ := ls_law e
    have := lostTo_le x y f (t - f + 1).toNat
    omega
  · simp
end Go.Proofs.Ytlaclknhenccdaa
