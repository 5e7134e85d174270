/- Plain law: two ways to join classes leave equally many of them. No program in sight. -/
import Derived.Test.YtigaimehlcgobaaPartMath
namespace Go.Proofs.Ytigaimehlcgobaa
/-- All places of the class of a get the label of b. -/
def relab (f : Nat → Nat) (a b : Nat) : Nat → Nat := fun i => if f i = f a then f b else f i
def relAll (S : List (Nat × Nat)) (f : Nat → Nat) : Nat → Nat := S.foldl (fun f s => relab f s.1 s.2) f
structure Same (E : List Nat) (c f : Nat → Nat) : Prop where
  ker : ∀ x y, c x = c y ↔ f x = f y
  ic : ∀ x, c (c x) = c x
  jf : ∀ x, f (f x) = f x
  ec : ∀ x ∈ E, c x ∈ E
  ef : ∀ x ∈ E, f x ∈ E
theorem same_id (E : List Nat) : Same E id id := ⟨fun _ _ => Iff.rfl, fun _ => rfl, fun _ => rfl, fun _ h => h, fun _ h => h⟩
theorem same_step {E : List Nat} {c f : Nat → Nat} (h : Same E c f) {a b : Nat} (ha : a ∈ E) (hb : b ∈ E) : Same E (relab c a b) (joinF f a b) := by
  have kc : ∀ x y, relab c a b x = relab c a b y ↔ c x = c y ∨ ((c x = c a ∨ c x = c b) ∧ (c y = c a ∨ c y = c b)) := fun x y => by
    unfold relab; grind
  have kf : ∀ x y, joinF f a b x = joinF f a b y ↔ f x = f y ∨ ((f x = f a ∨ f x = f b) ∧ (f y = f a ∨ f y = f b)) := fun x y => by
    have hm : min (f a) (f b) = f a ∨ min (f a) (f b) = f b := by omega
    unfold joinF
    by_cases h1 : f x = f a ∨ f x = f b <;> by_cases h2 : f y = f a ∨ f y = f b
    · simp only [if_pos h1, if_pos h2, true_iff]; exact Or.inr ⟨h1, h2⟩
    · rw [if_pos h1, if_neg h2]
      constructor
      · intro h; exfalso; apply h2; rw [← h]; exact hm
      · rintro (h | h)
        · exfalso; apply h2; rw [← h]; exact h1
        · exact absurd h.2 h2
    · rw [if_neg h1, if_pos h2]
      constructor
      · intro h; exfalso; apply h1; rw [h]; exact hm
      · rintro (h | h)
        · exfalso; apply h1; rw [h]; exact h2
        · exact absurd h.1 h1
    · rw [if_neg h1, if_neg h2]
      constructor
      · exact Or.inl
      · rintro (h | h)
        · exact h
        · exact absurd h.1 h1
  refine ⟨fun x y => ?_, fun x => ?_, fun x => ?_, fun x hx => ?_, fun x hx => ?_⟩
  · rw [kc, kf, h.ker x y, h.ker x a, h.ker x b, h.ker y a, h.ker y b]
  · by_cases h1 : c x = c a
    · have e : relab c a b x = c b := if_pos h1
      rw [e]; unfold relab; rw [h.ic b]; split <;> rfl
    · have e : relab c a b x = c x := if_neg h1
      rw [e]; unfold relab; rw [h.ic x, if_neg h1]
  · have ha := h.jf a
    have hb := h.jf b
    have hi := h.jf x
    by_cases hc : f x = f a ∨ f x = f b
    · have e : joinF f a b x = min (f a) (f b) := if_pos hc
      rw [e]
      rcases Nat.le_total (f a) (f b) with hl | hl
      · rw [Nat.min_eq_left hl]; unfold joinF; rw [ha, if_pos (Or.inl rfl), Nat.min_eq_left hl]
      · rw [Nat.min_eq_right hl]; unfold joinF; rw [hb, if_pos (Or.inr rfl), Nat.min_eq_right hl]
    · have e : joinF f a b x = f x := if_neg hc
      rw [e]; unfold joinF; rw [hi, if_neg hc]
  · unfold relab; split
    · exact h.ec b hb
    · exact h.ec x hx
  · unfold joinF; split
    · rcases Nat.le_total (f a) (f b) with hl | hl
      · rw [Nat.min_eq_left hl]; exact h.ef a ha
      · rw [Nat.min_eq_right hl]; exact h.ef b hb
    · exact h.ef x hx
theorem same_all {E : List Nat} : ∀ (S : List (Nat × Nat)) (c f : Nat → Nat), (∀ s ∈ S, s.1 ∈ E ∧ s.2 ∈ E) → Same E c f → Same E (relAll S c) (joinAll S f)
  | [], _, _, _, h => h
  | s :: S, c, f, hS, h => same_all S _ _ (fun t ht => hS t (List.mem_cons_of_mem _ ht)) (same_step h (hS s (by simp)).1 (hS s (by simp)).2)
theorem fixed_le {E : List Nat} {c f : Nat → Nat} (hn : E.Nodup) (h : Same E c f) : (E.filter fun e => c e == e).length ≤ (E.filter fun e => f e == e).length := by
  have hmap : ((E.filter fun e => c e == e).map f).Nodup := by
    refine List.pairwise_map.2 ?_
    have hp := hn.filter (fun e => c e == e)
    refine List.Pairwise.imp_of_mem (fun {x y} hx hy hne he => ?_) hp
    rw [List.mem_filter] at hx hy
    have a := (h.ker x y).2 he
    have b : c x = x := by simpa using hx.2
    have d : c y = y := by simpa using hy.2
    rw [b, d] at a
    exact hne a
  have := List.Nodup.length_le_of_subset (l₂ := E.filter fun e => f e == e) hmap fun x hx => by
    obtain ⟨y, hy, rfl⟩ := List.mem_map.1 hx
    rw [List.mem_filter] at hy ⊢
    exact ⟨h.ef y hy.1, by simpa using h.jf y⟩
  simpa using this
theorem Same.symm {E : List Nat} {c f : Nat → Nat} (h : Same E c f) : Same E f c := ⟨fun x y => (h.ker x y).symm, h.jf, h.ic, h.ef, h.ec⟩
/-- Equally many labels, either way. -/
theorem corners_eq {E : List Nat} (hn : E.Nodup) {S : List (Nat × Nat)} (hS : ∀ s ∈ S, s.1 ∈ E ∧ s.2 ∈ E) :
    E.countP (fun e => relAll S id e == e) = E.countP (fun e => joinAll S id e == e) := by
  have h := same_all S id id hS (same_id E)
  rw [List.countP_eq_length_filter, List.countP_eq_length_filter]
  exact Nat.le_antisymm (fixed_le hn h) (fixed_le hn h.symm)
end Go.Proofs.Ytigaimehlcgobaa
