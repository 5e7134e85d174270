/- Plain law: joined parts, joined corners. No program in sight. -/

/-! Plain law: least numbers of connected places, once by joining classes, once by repeated rounds. No program in sight. -/
namespace Go.Proofs.YtlmhiocmldhkhaaGreatDoor
/-- All places of the classes of two places get the lesser label of both. -/
def joinF (f : Nat → Nat) (a b : Nat) : Nat → Nat := fun i => if f i = f a ∨ f i = f b then min (f a) (f b) else f i
/-- Two places get the lesser label of both. -/
def stepF (f : Nat → Nat) (a b : Nat) : Nat → Nat := fun i => if i = a ∨ i = b then min (f a) (f b) else f i
def joinAll (S : List (Nat × Nat)) (f : Nat → Nat) : Nat → Nat := S.foldl (fun f s => joinF f s.1 s.2) f
def roundAll (S : List (Nat × Nat)) (f : Nat → Nat) : Nat → Nat := S.foldl (fun f s => stepF f s.1 s.2) f
def rounds (S : List (Nat × Nat)) : Nat → Nat → Nat
  | 0 => id
  | n + 1 => roundAll S (rounds S n)
structure Joined (D : List (Nat × Nat)) (f : Nat → Nat) : Prop where
  idem : ∀ i, f (f i) = f i
  le : ∀ i, f i ≤ i
  cl : ∀ T : Nat → Prop, (∀ s ∈ D, T s.1 ↔ T s.2) → ∀ i, T i ↔ T (f i)
  eq : ∀ s ∈ D, f s.1 = f s.2
theorem joined_id : Joined [] id := ⟨fun _ => rfl, fun _ => Nat.le_refl _, fun _ _ _ => Iff.rfl, fun s h => by simp at h⟩
theorem joined_step {D : List (Nat × Nat)} {f : Nat → Nat} (h : Joined D f) (s : Nat × Nat) : Joined (D ++ [s]) (joinF f s.1 s.2) := by
  obtain ⟨a, b⟩ := s
  have ha := h.idem a
  have hb := h.idem b
  refine ⟨fun i => ?_, fun i => ?_, fun T hT i => ?_, fun s hs => ?_⟩
  · have hi := h.idem i
    by_cases hc : f i = f a ∨ f i = f b
    · have e : joinF f a b i = min (f a) (f b) := if_pos hc
      rw [e]
      rcases Nat.le_total (f a) (f b) with hl | hl
      · rw [Nat.min_eq_left hl]; unfold joinF; rw [ha, if_pos (Or.inl rfl), Nat.min_eq_left hl]
      · rw [Nat.min_eq_right hl]; unfold joinF; rw [hb, if_pos (Or.inr rfl), Nat.min_eq_right hl]
    · have e : joinF f a b i = f i := if_neg hc
      rw [e]; unfold joinF; rw [hi, if_neg hc]
  · have := h.le i
    unfold joinF; simp only; split
    · omega
    · exact this
  · have hT' : ∀ s ∈ D, T s.1 ↔ T s.2 := fun s hs => hT s (List.mem_append_left _ hs)
    have hab : T a ↔ T b := hT (a, b) (by simp)
    have c := h.cl T hT'
    unfold joinF; simp only; split
    · rename_i hc
      have h1 : T i ↔ T a := by
        rw [c i, c a]
        rcases hc with hc | hc
        · rw [hc]
        · rw [hc, ← c a, ← c b]; exact hab.symm
      rw [h1]
      rcases Nat.le_total (f a) (f b) with hl | hl
      · rw [Nat.min_eq_left hl]; exact c a
      · rw [Nat.min_eq_right hl, hab]; exact c b
    · exact c i
  · rcases List.mem_append.1 hs with hs | hs
    · unfold joinF; rw [h.eq s hs]
    · simp only [List.mem_singleton] at hs
      subst hs
      unfold joinF; simp
theorem joined_all : ∀ (S D : List (Nat × Nat)) (f : Nat → Nat), Joined D f → Joined (D ++ S) (joinAll S f)
  | [], D, f, h => by simpa [joinAll] using h
  | s :: S, D, f, h => by
    have := joined_all S (D ++ [s]) (joinF f s.1 s.2) (joined_step h s)
    simpa [joinAll] using this
theorem joined_of (S : List (Nat × Nat)) : Joined S (joinAll S id) := joined_all S [] id joined_id
/-- Labels that stay within classes and do not rise above the place. -/
structure Near (S : List (Nat × Nat)) (g f : Nat → Nat) : Prop where
  cls : ∀ i, g (f i) = g i
  le : ∀ i, f i ≤ i
variable {S : List (Nat × Nat)} {g f : Nat → Nat}
theorem Near.lo (hg : Joined S g) (h : Near S g f) (i : Nat) : g i ≤ f i := by rw [← h.cls i]; exact hg.le _
theorem near_step (hg : Joined S g) (h : Near S g f) {s : Nat × Nat} (hs : s ∈ S) : Near S g (stepF f s.1 s.2) ∧ ∀ i, stepF f s.1 s.2 i ≤ f i := by
  obtain ⟨a, b⟩ := s
  have e := hg.eq _ hs
  simp only at e
  have key : ∀ i, stepF f a b i = f i ∨ ((i = a ∨ i = b) ∧ (stepF f a b i = f a ∨ stepF f a b i = f b) ∧ stepF f a b i ≤ f i) := fun i => by
    unfold stepF
    split
    · rename_i hc
      right
      refine ⟨hc, by omega, ?_⟩
      rcases hc with rfl | rfl <;> omega
    · exact Or.inl rfl
  have hle : ∀ i, stepF f a b i ≤ f i := fun i => by
    rcases key i with h | h
    · omega
    · exact h.2.2
  refine ⟨⟨fun i => ?_, fun i => Nat.le_trans (hle i) (h.le i)⟩, hle⟩
  rcases key i with h1 | ⟨h1, h2, _⟩
  · simp only at h1 ⊢; rw [h1]; exact h.cls i
  · simp only at h2 ⊢
    have ei : g i = g a := by rcases h1 with rfl | rfl <;> simp [e]
    rcases h2 with h2 | h2
    · rw [h2, h.cls, ei]
    · rw [h2, h.cls, ei, e]
theorem near_round (hg : Joined S g) : ∀ (R : List (Nat × Nat)) (f : Nat → Nat), (∀ s ∈ R, s ∈ S) → Near S g f → Near S g (roundAll R f) ∧ (∀ i, roundAll R f i ≤ f i) ∧ (∀ s ∈ R, f s.1 = g s.1 ∨ f s.2 = g s.2 → roundAll R f s.1 = g s.1 ∧ roundAll R f s.2 = g s.2)
  | [], f, _, h => ⟨h, fun _ => Nat.le_refl _, fun s hs => by simp at hs⟩
  | s :: R, f, hR, h => by
    have hs := hR s (by simp)
    obtain ⟨n1, l1⟩ := near_step hg h hs
    obtain ⟨n2, l2, k2⟩ := near_round hg R _ (fun s hs => hR s (List.mem_cons_of_mem _ hs)) n1
    have e0 : roundAll (s :: R) f = roundAll R (stepF f s.1 s.2) := rfl
    rw [e0]
    refine ⟨n2, fun i => Nat.le_trans (l2 i) (l1 i), fun t ht hc => ?_⟩
    rcases List.mem_cons.1 ht with rfl | ht
    · have e := hg.eq _ hs
      have a1 : stepF f t.1 t.2 t.1 = min (f t.1) (f t.2) := by simp [stepF]
      have a2 : stepF f t.1 t.2 t.2 = min (f t.1) (f t.2) := by simp [stepF]
      have b1 := l2 t.1
      have b2 := l2 t.2
      have c1 := Near.lo hg n2 t.1
      have c2 := Near.lo hg n2 t.2
      omega
    · refine k2 t ht ?_
      rcases hc with hc | hc
      · left; have := l1 t.1; have := Near.lo hg n1 t.1; omega
      · right; have := l1 t.2; have := Near.lo hg n1 t.2; omega
/-- How many of the first n places have their last label. -/
def done (g f : Nat → Nat) (n : Nat) : Nat := (List.range n).countP fun i => f i == g i
theorem done_le (g f : Nat → Nat) (n : Nat) : done g f n ≤ n := by
  unfold done; have := List.countP_le_length (p := fun i => f i == g i) (l := List.range n); simpa using this
theorem countP_lt {α : Type} {p q : α → Bool} : ∀ {l : List α} {x : α}, x ∈ l → (∀ y ∈ l, p y = true → q y = true) → p x = false → q x = true → l.countP p < l.countP q
  | y :: l, x, hx, hpq, hp, hq => by
    have mono : l.countP p ≤ l.countP q := List.countP_mono_left fun z hz h => hpq z (List.mem_cons_of_mem _ hz) h
    rcases List.mem_cons.1 hx with rfl | hx
    · rw [List.countP_cons_of_neg (by simp [hp]), List.countP_cons_of_pos hq]; omega
    · have ih := countP_lt hx (fun z hz => hpq z (List.mem_cons_of_mem _ hz)) hp hq
      rw [List.countP_cons, List.countP_cons]
      have := hpq y (by simp)
      split <;> split <;> simp_all <;> omega
theorem done_all {n : Nat} (h : done g f n = n) : ∀ i, i < n → f i = g i := by
  intro i hi
  unfold done at h
  have := List.countP_eq_length.1 (h.trans (List.length_range (n := n)).symm) i (List.mem_range.2 hi)
  simpa using this
theorem rounds_near (hg : Joined S g) : ∀ r, Near S g (rounds S r)
  | 0 => ⟨fun _ => rfl, fun _ => Nat.le_refl _⟩
  | r + 1 => (near_round hg S _ (fun _ h => h) (rounds_near hg r)).1
theorem rounds_done {n : Nat} (hS : ∀ s ∈ S, s.1 < n ∧ s.2 < n) (hg : Joined S g) : ∀ r, r ≤ done g (rounds S r) n ∨ ∀ i, i < n → rounds S r i = g i
  | 0 => Or.inl (Nat.zero_le _)
  | r + 1 => by
    have hn := rounds_near hg r
    obtain ⟨n1, l1, k1⟩ := near_round hg S _ (fun _ h => h) hn
    have keep : ∀ i, rounds S r i = g i → rounds S (r + 1) i = g i := fun i h => by
      have a := l1 i
      have b := Near.lo hg n1 i
      show roundAll S (rounds S r) i = g i
      omega
    by_cases hall : ∀ i, i < n → rounds S r i = g i
    · exact Or.inr fun i hi => keep i (hall i hi)
    · rcases rounds_done hS hg r with h | h
      · left
        -- a seam that leads out
        have hx : ∃ s ∈ S, ¬ (rounds S r s.1 = g s.1 ↔ rounds S r s.2 = g s.2) := by
          apply Classical.byContradiction
          intro hno
          apply hall
          intro i _
          have hcl : ∀ s ∈ S, (rounds S r s.1 = g s.1) ↔ (rounds S r s.2 = g s.2) := fun s hs => Classical.byContradiction fun h => hno ⟨s, hs, h⟩
          refine (hg.cl (fun i => rounds S r i = g i) hcl i).2 ?_
          have a := hn.le (g i)
          have b := Near.lo hg hn (g i)
          have c := hg.idem i
          omega
        obtain ⟨s, hs, hne⟩ := hx
        have hlt := hS s hs
        have hk := k1 s hs
        have : done g (rounds S r) n < done g (rounds S (r + 1)) n := by
          by_cases h1 : rounds S r s.1 = g s.1
          · have h2 : ¬ rounds S r s.2 = g s.2 := fun h => hne ⟨fun _ => h, fun _ => h1⟩
            exact countP_lt (List.mem_range.2 hlt.2) (fun i _ hi => by simpa using keep i (by simpa using hi)) (by simpa using h2) (by have := (hk (Or.inl h1)).2; simp only [rounds]; simpa using this)
          · have h2 : rounds S r s.2 = g s.2 := Classical.byContradiction fun h => hne ⟨fun k => absurd k h1, fun k => absurd k h⟩
            exact countP_lt (List.mem_range.2 hlt.1) (fun i _ hi => by simpa using keep i (by simpa using hi)) (by simpa using h1) (by have := (hk (Or.inr h2)).1; simp only [rounds]; simpa using this)
        omega
      · exact absurd h hall
/-- The rounds give what the joining gives. -/
theorem rounds_eq {n : Nat} (hS : ∀ s ∈ S, s.1 < n ∧ s.2 < n) : ∀ i, i < n → rounds S n i = joinAll S id i := by
  have hg := joined_of S
  rcases rounds_done hS hg n with h | h
  · exact done_all (Nat.le_antisymm (done_le _ _ _) h)
  · exact h
end Go.Proofs.YtlmhiocmldhkhaaGreatDoor

/-! Plain law: two ways to join classes leave equally many of them. No program in sight. -/
namespace Go.Proofs.YtlmhiocmldhkhaaGreatDoor
/-- All places of the class of a get the label of b. -/
def relab (f : Nat → Nat) (a b : Nat) : Nat → Nat := fun i => if f i = f a then f b else f i
def relAll (S : List (Nat × Nat)) (f : Nat → Nat) : Nat → Nat := S.foldl (fun f s => relab f s.1 s.2) f
structure Same (E : List Nat) (c f : Nat → Nat) : Prop where
  ker : ∀ x y, c x = c y ↔ f x = f y
  ic : ∀ x, c (c x) = c x
  jf : ∀ x, f (f x) = f x
  ec : ∀ x ∈ E, c x ∈ E
  ef : ∀ x ∈ E, f x ∈ E
theorem same_id (E : List Nat) : Same E id id := ⟨fun _ _ => Iff.rfl, fun _ => rfl, fun _ => rfl, fun _ h => h, fun _ h => h⟩
theorem same_step {E : List Nat} {c f : Nat → Nat} (h : Same E c f) {a b : Nat} (ha : a ∈ E) (hb : b ∈ E) : Same E (relab c a b) (joinF f a b) := by
  have kc : ∀ x y, relab c a b x = relab c a b y ↔ c x = c y ∨ ((c x = c a ∨ c x = c b) ∧ (c y = c a ∨ c y = c b)) := fun x y => by
    unfold relab; grind
  have kf : ∀ x y, joinF f a b x = joinF f a b y ↔ f x = f y ∨ ((f x = f a ∨ f x = f b) ∧ (f y = f a ∨ f y = f b)) := fun x y => by
    have hm : min (f a) (f b) = f a ∨ min (f a) (f b) = f b := by omega
    unfold joinF
    by_cases h1 : f x = f a ∨ f x = f b <;> by_cases h2 : f y = f a ∨ f y = f b
    · simp only [if_pos h1, if_pos h2, true_iff]; exact Or.inr ⟨h1, h2⟩
    · rw [if_pos h1, if_neg h2]
      constructor
      · intro h; exfalso; apply h2; rw [← h]; exact hm
      · rintro (h | h)
        · exfalso; apply h2; rw [← h]; exact h1
        · exact absurd h.2 h2
    · rw [if_neg h1, if_pos h2]
      constructor
      · intro h; exfalso; apply h1; rw [h]; exact hm
      · rintro (h | h)
        · exfalso; apply h1; rw [h]; exact h2
        · exact absurd h.1 h1
    · rw [if_neg h1, if_neg h2]
      constructor
      · exact Or.inl
      · rintro (h | h)
        · exact h
        · exact absurd h.1 h1
  refine ⟨fun x y => ?_, fun x => ?_, fun x => ?_, fun x hx => ?_, fun x hx => ?_⟩
  · rw [kc, kf, h.ker x y, h.ker x a, h.ker x b, h.ker y a, h.ker y b]
  · by_cases h1 : c x = c a
    · have e : relab c a b x = c b := if_pos h1
      rw [e]; unfold relab; rw [h.ic b]; split <;> rfl
    · have e : relab c a b x = c x := if_neg h1
      rw [e]; unfold relab; rw [h.ic x, if_neg h1]
  · have ha := h.jf a
    have hb := h.jf b
    have hi := h.jf x
    by_cases hc : f x = f a ∨ f x = f b
    · have e : joinF f a b x = min (f a) (f b) := if_pos hc
      rw [e]
      rcases Nat.le_total (f a) (f b) with hl | hl
      · rw [Nat.min_eq_left hl]; unfold joinF; rw [ha, if_pos (Or.inl rfl), Nat.min_eq_left hl]
      · rw [Nat.min_eq_right hl]; unfold joinF; rw [hb, if_pos (Or.inr rfl), Nat.min_eq_right hl]
    · have e : joinF f a b x = f x := if_neg hc
      rw [e]; unfold joinF; rw [hi, if_neg hc]
  · unfold relab; split
    · exact h.ec b hb
    · exact h.ec x hx
  · unfold joinF; split
    · rcases Nat.le_total (f a) (f b) with hl | hl
      · rw [Nat.min_eq_left hl]; exact h.ef a ha
      · rw [Nat.min_eq_right hl]; exact h.ef b hb
    · exact h.ef x hx
theorem same_all {E : List Nat} : ∀ (S : List (Nat × Nat)) (c f : Nat → Nat), (∀ s ∈ S, s.1 ∈ E ∧ s.2 ∈ E) → Same E c f → Same E (relAll S c) (joinAll S f)
  | [], _, _, _, h => h
  | s :: S, c, f, hS, h => same_all S _ _ (fun t ht => hS t (List.mem_cons_of_mem _ ht)) (same_step h (hS s (by simp)).1 (hS s (by simp)).2)
theorem fixed_le {E : List Nat} {c f : Nat → Nat} (hn : E.Nodup) (h : Same E c f) : (E.filter fun e => c e == e).length ≤ (E.filter fun e => f e == e).length := by
  have hmap : ((E.filter fun e => c e == e).map f).Nodup := by
    refine List.pairwise_map.2 ?_
    have hp := hn.filter (fun e => c e == e)
    refine List.Pairwise.imp_of_mem (fun {x y} hx hy hne he => ?_) hp
    rw [List.mem_filter] at hx hy
    have a := (h.ker x y).2 he
    have b : c x = x := by simpa using hx.2
    have d : c y = y := by simpa using hy.2
    rw [b, d] at a
    exact hne a
  have := List.Nodup.length_le_of_subset (l₂ := E.filter fun e => f e == e) hmap fun x hx => by
    obtain ⟨y, hy, rfl⟩ := List.mem_map.1 hx
    rw [List.mem_filter] at hy ⊢
    exact ⟨h.ef y hy.1, by simpa using h.jf y⟩
  simpa using this
theorem Same.symm {E : List Nat} {c f : Nat → Nat} (h : Same E c f) : Same E f c := ⟨fun x y => (h.ker x y).symm, h.jf, h.ic, h.ef, h.ec⟩
/-- Equally many labels, either way. -/
theorem corners_eq {E : List Nat} (hn : E.Nodup) {S : List (Nat × Nat)} (hS : ∀ s ∈ S, s.1 ∈ E ∧ s.2 ∈ E) :
    E.countP (fun e => relAll S id e == e) = E.countP (fun e => joinAll S id e == e) := by
  have h := same_all S id id hS (same_id E)
  rw [List.countP_eq_length_filter, List.countP_eq_length_filter]
  exact Nat.le_antisymm (fixed_le hn h) (fixed_le hn h.symm)
end Go.Proofs.YtlmhiocmldhkhaaGreatDoor
