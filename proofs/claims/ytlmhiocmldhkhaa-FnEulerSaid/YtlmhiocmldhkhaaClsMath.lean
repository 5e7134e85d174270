/- Plain law: classes under pairs; a permutation and a transposition; first returns. No program in sight. -/
import Derived.ProofKit
namespace Go.Proofs.Ytlmhiocmldhkhaa

section
variable {ε : Type}

/-- All places of the class of a get the label of b. -/
def relE [DecidableEq ε] (f : ε → ε) (a b : ε) : ε → ε := fun x => if f x = f a then f b else f x
def labE [DecidableEq ε] (S : List (ε × ε)) : ε → ε := S.foldl (fun f s => relE f s.1 s.2) id
theorem labE_snoc [DecidableEq ε] (S : List (ε × ε)) (s : ε × ε) : labE (S ++ [s]) = relE (labE S) s.1 s.2 := by simp [labE]
/-- What pairs connect. -/
inductive Conn (S : List (ε × ε)) : ε → ε → Prop
  | refl (x : ε) : Conn S x x
  | pair {x y : ε} (h : (x, y) ∈ S) : Conn S x y
  | symm {x y : ε} (h : Conn S x y) : Conn S y x
  | trans {x y z : ε} (h : Conn S x y) (k : Conn S y z) : Conn S x z
theorem Conn.imp {S T : List (ε × ε)} (h : ∀ x y, (x, y) ∈ S → Conn T x y) {x y : ε} (k : Conn S x y) : Conn T x y := by
  induction k with
  | refl x => exact .refl x
  | pair h' => exact h _ _ h'
  | symm _ ih => exact ih.symm
  | trans _ _ i1 i2 => exact i1.trans i2
theorem Conn.mono [DecidableEq ε] {S T : List (ε × ε)} (h : ∀ p ∈ S, p ∈ T) {x y : ε} (k : Conn S x y) : Conn T x y := k.imp fun _ _ h' => .pair (h _ h')
theorem Conn.nil {x y : ε} (h : Conn [] x y) : x = y := by
  induction h with
  | refl x => rfl
  | pair h => simp at h
  | symm _ ih => exact ih.symm
  | trans _ _ i1 i2 => exact i1.trans i2
/-- One pair more. -/
theorem conn_snoc [DecidableEq ε] {S : List (ε × ε)} {a b x y : ε} : Conn (S ++ [(a, b)]) x y ↔ Conn S x y ∨ ((Conn S x a ∨ Conn S x b) ∧ (Conn S y a ∨ Conn S y b)) := by
  have up : ∀ {x y}, Conn S x y → Conn (S ++ [(a, b)]) x y := fun h => h.mono fun p hp => by simp [hp]
  have hab : Conn (S ++ [(a, b)]) a b := .pair (by simp)
  constructor
  · intro h
    induction h with
    | refl x => exact Or.inl (.refl x)
    | pair h =>
      rcases List.mem_append.1 h with h | h
      · exact Or.inl (.pair h)
      · simp only [List.mem_singleton, Prod.mk.injEq] at h
        obtain ⟨rfl, rfl⟩ := h
        exact Or.inr ⟨Or.inl (.refl _), Or.inr (.refl _)⟩
    | symm _ ih =>
      rcases ih with ih | ih
      · exact Or.inl ih.symm
      · exact Or.inr ⟨ih.2, ih.1⟩
    | trans _ _ i1 i2 =>
      rcases i1 with i1 | i1
      · rcases i2 with i2 | i2
        · exact Or.inl (i1.trans i2)
        · exact Or.inr ⟨i2.1.imp (fun h => i1.trans h) (fun h => i1.trans h), i2.2⟩
      · rcases i2 with i2 | i2
        · exact Or.inr ⟨i1.1, i1.2.imp (fun h => i2.symm.trans h) (fun h => i2.symm.trans h)⟩
        · exact Or.inr ⟨i1.1, i2.2⟩
  · rintro (h | ⟨h1, h2⟩)
    · exact up h
    · have k1 : Conn (S ++ [(a, b)]) x a := by
        rcases h1 with h | h
        · exact up h
        · exact (up h).trans hab.symm
      have k2 : Conn (S ++ [(a, b)]) y a := by
        rcases h2 with h | h
        · exact up h
        · exact (up h).trans hab.symm
      exact k1.trans k2.symm
theorem relE_ker [DecidableEq ε] {f : ε → ε} {a b x y : ε} : relE f a b x = relE f a b y ↔ f x = f y ∨ ((f x = f a ∨ f x = f b) ∧ (f y = f a ∨ f y = f b)) := by
  unfold relE; grind
theorem relE_idem [DecidableEq ε] {f : ε → ε} {a b : ε} (h : ∀ x, f (f x) = f x) (x : ε) : relE f a b (relE f a b x) = relE f a b x := by
  by_cases h1 : f x = f a
  · have e : relE f a b x = f b := if_pos h1
    rw [e]; unfold relE; rw [h b]; split <;> rfl
  · have e : relE f a b x = f x := if_neg h1
    rw [e]; unfold relE; rw [h x, if_neg h1]
theorem list_snoc {β : Type} {P : List β → Prop} (h0 : P []) (h1 : ∀ l x, P l → P (l ++ [x])) (l : List β) : P l := by
  have h : ∀ r : List β, P r.reverse := by
    intro r
    induction r with
    | nil => exact h0
    | cons x r ih => rw [List.reverse_cons]; exact h1 _ _ ih
  simpa using h l.reverse
theorem labE_idem [DecidableEq ε] (S : List (ε × ε)) : ∀ x, labE S (labE S x) = labE S x := by
  refine list_snoc (P := fun S => ∀ x, labE S (labE S x) = labE S x) (fun x => rfl) (fun S s ih x => ?_) S
  rw [labE_snoc]; exact relE_idem ih x
theorem labE_conn [DecidableEq ε] (S : List (ε × ε)) : ∀ x y, labE S x = labE S y ↔ Conn S x y := by
  refine list_snoc (P := fun S => ∀ x y, labE S x = labE S y ↔ Conn S x y) (fun x y => ⟨fun h => by have h : x = y := h; subst h; exact .refl _, fun h => by rw [h.nil]⟩) (fun S s ih x y => ?_) S
  obtain ⟨a, b⟩ := s
  rw [labE_snoc, relE_ker, ih x y, ih x a, ih x b, ih y a, ih y b]
  exact conn_snoc.symm
theorem labE_in [DecidableEq ε] {H : List ε} (S : List (ε × ε)) (hS : ∀ p ∈ S, p.1 ∈ H ∧ p.2 ∈ H) : ∀ x ∈ H, labE S x ∈ H := by
  revert hS
  refine list_snoc (P := fun S => (∀ p ∈ S, p.1 ∈ H ∧ p.2 ∈ H) → ∀ x ∈ H, labE S x ∈ H) (fun _ x hx => hx) (fun S s ih hS x hx => ?_) S
  have h1 := ih fun p hp => hS p (by simp [hp])
  rw [labE_snoc]
  unfold relE
  split
  · exact h1 _ (hS s (by simp)).2
  · exact h1 _ hx
theorem labE_self [DecidableEq ε] (S : List (ε × ε)) (x : ε) : Conn S (labE S x) x := (labE_conn S _ _).1 (labE_idem S x)
/-- How many classes the places of H have. -/
def cls [DecidableEq ε] (H : List ε) (S : List (ε × ε)) : Nat := H.countP fun e => labE S e == e
def Within (H : List ε) (S : List (ε × ε)) : Prop := ∀ p ∈ S, p.1 ∈ H ∧ p.2 ∈ H
/-- A list with one place of each class has as many. -/
theorem cls_of [DecidableEq ε] {H T : List ε} {S : List (ε × ε)} (hn : H.Nodup) (hS : Within H S) (hT : T.Nodup) (hi : ∀ t ∈ T, t ∈ H) (ha : ∀ t ∈ T, ∀ u ∈ T, Conn S t u → t = u) (r : ε → ε) (hr : ∀ x ∈ H, r x ∈ T ∧ Conn S x (r x)) : cls H S = T.length := by
  unfold cls
  rw [List.countP_eq_length_filter]
  refine Nat.le_antisymm ?_ ?_
  · have hm : ((H.filter fun e => labE S e == e).map r).Nodup := by
      refine List.pairwise_map.2 (List.Pairwise.imp_of_mem (fun {x y} hx hy hne he => hne ?_) (hn.filter _))
      rw [List.mem_filter] at hx hy
      have e1 : labE S x = x := by simpa using hx.2
      have e2 : labE S y = y := by simpa using hy.2
      rw [← e1, ← e2]
      have c1 := (hr x hx.1).2
      rw [he] at c1
      exact (labE_conn S _ _).2 (c1.trans (hr y hy.1).2.symm)
    have := List.Nodup.length_le_of_subset (l₂ := T) hm fun z hz => by
      obtain ⟨x, hx, rfl⟩ := List.mem_map.1 hz
      exact (hr x (List.mem_filter.1 hx).1).1
    simpa using this
  · have hm : (T.map (labE S)).Nodup := by
      refine List.pairwise_map.2 (List.Pairwise.imp_of_mem (fun {x y} hx hy hne he => hne ?_) hT)
      exact ha x hx y hy ((labE_conn S _ _).1 he)
    have := List.Nodup.length_le_of_subset (l₂ := H.filter fun e => labE S e == e) hm fun z hz => by
      obtain ⟨x, hx, rfl⟩ := List.mem_map.1 hz
      rw [List.mem_filter]
      exact ⟨labE_in S hS x (hi x hx), by simpa using labE_idem S x⟩
    simpa using this
/-- Pairs that connect the same leave as many classes. -/
theorem cls_congr [DecidableEq ε] {H : List ε} {S T : List (ε × ε)} (hn : H.Nodup) (hS : Within H S) (hT : Within H T) (h : ∀ x y, Conn S x y ↔ Conn T x y) : cls H S = cls H T := by
  have e := cls_of (T := H.filter fun e => labE T e == e) hn hS (hn.filter _) (fun t ht => (List.mem_filter.1 ht).1) (fun t ht u hu hc => by
    rw [List.mem_filter] at ht hu
    have e1 : labE T t = t := by simpa using ht.2
    have e2 : labE T u = u := by simpa using hu.2
    rw [← e1, ← e2]
    exact (labE_conn T _ _).2 ((h _ _).1 hc)) (labE T) (fun x hx => ⟨List.mem_filter.2 ⟨labE_in T hT x hx, by simpa using labE_idem T x⟩, (h _ _).2 (labE_self T x).symm⟩)
  rw [e]; unfold cls; rw [List.countP_eq_length_filter]
theorem countP_but [DecidableEq ε] {H : List ε} (hn : H.Nodup) {p q : ε → Bool} {z : ε} (hz : z ∈ H) (hp : p z = true) (hq : q z = false) (h : ∀ x ∈ H, x ≠ z → p x = q x) : H.countP p = H.countP q + 1 := by
  induction H with
  | nil => simp at hz
  | cons x H ih =>
    rw [List.nodup_cons] at hn
    by_cases e : x = z
    · subst e
      have e2 : H.countP p = H.countP q := List.countP_congr fun y hy => by
        rw [h y (by simp [hy]) fun e => by subst e; exact hn.1 hy]
      rw [List.countP_cons_of_pos hp, List.countP_cons_of_neg (by simp [hq]), e2]
    · have hz' : z ∈ H := by
        rcases List.mem_cons.1 hz with h1 | h1
        · exact absurd h1.symm e
        · exact h1
      have ih' := ih hn.2 hz' fun y hy hne => h y (by simp [hy]) hne
      have hx := h x (by simp) e
      rw [List.countP_cons, List.countP_cons, ih', hx]
      omega
theorem cls_same [DecidableEq ε] {H : List ε} {S : List (ε × ε)} {a b : ε} (h : Conn S a b) : cls H (S ++ [(a, b)]) = cls H S := by
  unfold cls
  have e : labE (S ++ [(a, b)]) = labE S := by
    rw [labE_snoc]
    funext x
    have h1 := (labE_conn S a b).2 h
    unfold relE
    dsimp only
    split
    · rename_i h2; rw [h2, h1]
    · rfl
  rw [e]
theorem cls_less [DecidableEq ε] {H : List ε} {S : List (ε × ε)} {a b : ε} (hn : H.Nodup) (hS : Within H S) (ha : a ∈ H) (h : ¬ Conn S a b) : cls H S = cls H (S ++ [(a, b)]) + 1 := by
  unfold cls
  have h1 : ¬ labE S a = labE S b := fun e => h ((labE_conn S a b).1 e)
  have hi := labE_idem S
  refine countP_but hn (labE_in S hS a ha) (by simpa using hi a) ?_ fun x _ hx => ?_
  · rw [labE_snoc]
    unfold relE
    dsimp only
    rw [hi a, if_pos rfl]
    simpa using fun e => h1 e.symm
  · rw [labE_snoc]
    unfold relE
    dsimp only
    by_cases h2 : labE S x = labE S a
    · rw [if_pos h2]
      have e1 : (labE S x == x) = false := by
        simp only [beq_eq_false_iff_ne]
        intro e; exact hx (by rw [← h2, e])
      have e2 : (labE S b == x) = false := by
        simp only [beq_eq_false_iff_ne]
        intro e
        have := hi b
        rw [e] at this
        exact h1 (by rw [← h2, ← e, hi b])
      rw [e1, e2]
    · rw [if_neg h2]
theorem Within.snoc {H : List ε} {S : List (ε × ε)} {a b : ε} (h : Within H S) (ha : a ∈ H) (hb : b ∈ H) : Within H (S ++ [(a, b)]) := fun p hp => by
  rcases List.mem_append.1 hp with hp | hp
  · exact h p hp
  · obtain rfl := List.mem_singleton.1 hp; exact ⟨ha, hb⟩

/-! Permutations and where they first come back to some places. -/
variable (π : ε → ε) (Z : ε → Bool)
inductive Hit : ε → ε → Prop
  | here {x : ε} (h : Z x = true) : Hit x x
  | step {x z : ε} (h : Z x = false) (k : Hit (π x) z) : Hit x z
variable {π Z}
theorem Hit.stop {x z : ε} (h : Hit π Z x z) : Z z = true := by
  induction h with
  | here h => exact h
  | step _ _ ih => exact ih
theorem Hit.uniq {x z z' : ε} (h : Hit π Z x z) (k : Hit π Z x z') : z = z' := by
  induction h with
  | here h =>
    cases k with
    | here _ => rfl
    | step h' _ => rw [h] at h'; cases h'
  | step h _ ih =>
    cases k with
    | here h' => rw [h'] at h; cases h
    | step _ k => exact ih k
theorem Hit.next {x z : ε} (h : Z x = false) : Hit π Z (π x) z ↔ Hit π Z x z := by
  refine ⟨fun k => .step h k, fun k => ?_⟩
  cases k with
  | here h' => rw [h] at h'; cases h'
  | step _ k => exact k
theorem Hit.congr {π' : ε → ε} (h : ∀ x, Z x = false → π x = π' x) {x z : ε} (k : Hit π Z x z) : Hit π' Z x z := by
  induction k with
  | here h => exact .here h
  | step h' _ ih => refine .step h' ?_; rw [← h _ h']; exact ih
def it (π : ε → ε) : Nat → ε → ε
  | 0, x => x
  | k + 1, x => it π k (π x)
theorem it_succ (k : Nat) (x : ε) : it π (k + 1) x = π (it π k x) := by
  induction k generalizing x with
  | zero => rfl
  | succ k ih => exact ih (π x)
theorem it_add (j k : Nat) (x : ε) : it π (j + k) x = it π k (it π j x) := by
  induction j generalizing x with
  | zero => simp [it]
  | succ j ih => rw [Nat.succ_add]; exact ih (π x)
/-- A permutation of H. -/
structure Perm (H : List ε) (π : ε → ε) : Prop where
  nodup : H.Nodup
  mem : ∀ x ∈ H, π x ∈ H
  inj : ∀ x ∈ H, ∀ y ∈ H, π x = π y → x = y
theorem Perm.it_mem {H : List ε} (p : Perm H π) : ∀ k x, x ∈ H → it π k x ∈ H
  | 0, _, h => h
  | k + 1, x, h => p.it_mem k _ (p.mem x h)
theorem Perm.it_inj {H : List ε} (p : Perm H π) : ∀ k x y, x ∈ H → y ∈ H → it π k x = it π k y → x = y
  | 0, _, _, _, _, h => h
  | k + 1, x, y, hx, hy, h => p.inj x hx y hy (p.it_inj k _ _ (p.mem x hx) (p.mem y hy) h)
theorem Perm.back [DecidableEq ε] {H : List ε} (p : Perm H π) {x : ε} (hx : x ∈ H) : ∃ m, it π (m + 1) x = x := by
  by_cases h : ∃ i j, i < j ∧ it π i x = it π j x
  · obtain ⟨i, j, hij, e⟩ := h
    refine ⟨j - i - 1, ?_⟩
    have e2 : it π j x = it π i (it π (j - i) x) := by rw [← it_add]; congr 1; omega
    rw [e2] at e
    have := p.it_inj i _ _ hx (p.it_mem _ _ hx) e
    rw [show j - i - 1 + 1 = j - i from by omega]
    exact this.symm
  · exfalso
    have hp : ((List.range (H.length + 1)).map fun i => it π i x).Nodup := by
      refine List.pairwise_map.2 (List.Pairwise.imp (fun {i j} hij he => h ⟨i, j, hij, he⟩) List.pairwise_lt_range)
    have := List.Nodup.length_le_of_subset (l₂ := H) hp fun z hz => by
      obtain ⟨i, _, rfl⟩ := List.mem_map.1 hz
      exact p.it_mem i x hx
    simp at this
    omega
theorem hit_of_it {x : ε} : ∀ n, Z (it π n x) = true → ∃ z, Hit π Z x z := by
  intro n
  induction n generalizing x with
  | zero => intro h; exact ⟨x, .here h⟩
  | succ n ih =>
    intro h
    cases hx : Z x with
    | true => exact ⟨x, .here hx⟩
    | false => obtain ⟨z, hz⟩ := ih h; exact ⟨z, .step hx hz⟩
theorem it_of_hit {x z : ε} (h : Hit π Z x z) : ∃ k, it π k x = z ∧ ∀ j, j < k → Z (it π j x) = false := by
  induction h with
  | here _ => exact ⟨0, rfl, fun j hj => absurd hj (Nat.not_lt_zero _)⟩
  | step h _ ih =>
    obtain ⟨k, hk, hj⟩ := ih
    refine ⟨k + 1, hk, fun j hjk => ?_⟩
    cases j with
    | zero => exact h
    | succ j => exact hj j (by omega)
theorem Perm.returns [DecidableEq ε] {H : List ε} (p : Perm H π) {e : ε} (he : e ∈ H) (hz : Z e = true) : ∃ z, Hit π Z (π e) z := by
  obtain ⟨m, hm⟩ := p.back he
  refine hit_of_it m ?_
  have : it π m (π e) = e := hm
  rw [this]; exact hz
theorem Hit.mem [DecidableEq ε] {H : List ε} (p : Perm H π) {x z : ε} (h : Hit π Z x z) (hx : x ∈ H) : z ∈ H := by
  obtain ⟨k, rfl, _⟩ := it_of_hit h
  exact p.it_mem k x hx
/-- Two places do not come back to one. -/
theorem Perm.first_inj [DecidableEq ε] {H : List ε} (p : Perm H π) {e e' z : ε} (he : e ∈ H) (he' : e' ∈ H) (hz : Z e = true) (hz' : Z e' = true) (h : Hit π Z (π e) z) (h' : Hit π Z (π e') z) : e = e' := by
  have key : ∀ {e e' : ε}, e ∈ H → e' ∈ H → Z e = true → ∀ k k', k ≤ k' → it π k (π e) = z → it π k' (π e') = z → (∀ j, j < k' → Z (it π j (π e')) = false) → e = e' := by
    intro e e' he he' hz k k' hk h1 h2 h3
    have e1 : it π k' (π e') = it π k (it π (k' - k) (π e')) := by rw [← it_add]; congr 1; omega
    rw [e1] at h2
    have e2 := p.it_inj k _ _ (p.mem e he) (p.it_mem _ _ (p.mem e' he')) (h1.trans h2.symm)
    have e3 : it π (k' - k) (π e') = π (it π (k' - k) e') := it_succ _ _
    rw [e3] at e2
    have e4 := p.inj _ he _ (p.it_mem _ _ he') e2
    cases hd : k' - k with
    | zero => rw [hd] at e4; exact e4
    | succ d =>
      rw [hd] at e4
      have e5 : e = it π d (π e') := e4
      have h4 := h3 d (by omega)
      rw [← e5, hz] at h4
      cases h4
  obtain ⟨k, hk, hj⟩ := it_of_hit h
  obtain ⟨k', hk', hj'⟩ := it_of_hit h'
  rcases Nat.le_total k k' with hl | hl
  · exact key he he' hz k k' hl hk hk' hj'
  · exact (key he' he hz' k' k hl hk' hk hj).symm
/-- The steps from places that are no stops. -/
def offP (H : List ε) (π : ε → ε) (Z : ε → Bool) : List (ε × ε) := (H.filter fun x => !Z x).map fun x => (x, π x)
theorem mem_offP {H : List ε} {x y : ε} : (x, y) ∈ offP H π Z ↔ x ∈ H ∧ Z x = false ∧ y = π x := by
  unfold offP
  simp only [List.mem_map, List.mem_filter, Prod.mk.injEq, Bool.not_eq_true']
  constructor
  · rintro ⟨a, ⟨h1, h2⟩, rfl, rfl⟩; exact ⟨h1, h2, rfl⟩
  · rintro ⟨h1, h2, rfl⟩; exact ⟨x, ⟨h1, h2⟩, rfl, rfl⟩
theorem offP_within [DecidableEq ε] {H : List ε} (p : Perm H π) : Within H (offP H π Z) := fun q hq => by
  obtain ⟨x, y⟩ := q
  obtain ⟨h1, _, rfl⟩ := mem_offP.1 hq
  exact ⟨h1, p.mem x h1⟩
theorem Hit.conn [DecidableEq ε] {H : List ε} (p : Perm H π) {x z : ε} (h : Hit π Z x z) (hx : x ∈ H) : Conn (offP H π Z) x z := by
  induction h with
  | here _ => exact .refl _
  | step h _ ih => exact (Conn.pair (mem_offP.2 ⟨hx, h, rfl⟩)).trans (ih (p.mem _ hx))
/-- Among stops, the steps between them connect nothing that the other pairs do not. -/
theorem conn_stops [DecidableEq ε] {H : List ε} {T : List (ε × ε)} (hT : ∀ q ∈ T, Z q.1 = true ∧ Z q.2 = true) {a b : ε} (ha : Z a = true) (hb : Z b = true) : Conn (offP H π Z ++ T) a b ↔ Conn T a b := by
  constructor
  · intro h
    have key : ∀ {x y}, Conn (offP H π Z ++ T) x y → (∀ z, Hit π Z x z → ∃ z', Hit π Z y z' ∧ Conn T z z') ∧ (∀ z, Hit π Z y z → ∃ z', Hit π Z x z' ∧ Conn T z z') := by
      intro x y h
      induction h with
      | refl x => exact ⟨fun z hz => ⟨z, hz, .refl _⟩, fun z hz => ⟨z, hz, .refl _⟩⟩
      | pair h =>
        rcases List.mem_append.1 h with h | h
        · obtain ⟨_, h2, rfl⟩ := mem_offP.1 h
          exact ⟨fun z hz => ⟨z, (Hit.next h2).2 hz, .refl _⟩, fun z hz => ⟨z, (Hit.next h2).1 hz, .refl _⟩⟩
        · obtain ⟨h1, h2⟩ := hT _ h
          refine ⟨fun z hz => ⟨_, .here h2, ?_⟩, fun z hz => ⟨_, .here h1, ?_⟩⟩
          · rw [hz.uniq (.here h1)]; exact .pair h
          · rw [hz.uniq (.here h2)]; exact (Conn.pair h).symm
      | symm _ ih => exact ⟨ih.2, ih.1⟩
      | trans _ _ i1 i2 =>
        refine ⟨fun z hz => ?_, fun z hz => ?_⟩
        · obtain ⟨z1, h1, c1⟩ := i1.1 z hz
          obtain ⟨z2, h2, c2⟩ := i2.1 z1 h1
          exact ⟨z2, h2, c1.trans c2⟩
        · obtain ⟨z1, h1, c1⟩ := i2.2 z hz
          obtain ⟨z2, h2, c2⟩ := i1.2 z1 h1
          exact ⟨z2, h2, c1.trans c2⟩
    obtain ⟨z, hz, hc⟩ := (key h).1 a (.here ha)
    rw [← hz.uniq (.here hb)] at *
    exact hc
  · exact fun h => h.mono fun q hq => by simp [hq]
/-- Classes of all places, and classes of the stops alone. -/
theorem cls_stops [DecidableEq ε] {H : List ε} (p : Perm H π) (T : List (ε × ε)) (hT : Within (H.filter Z) T) : cls H (offP H π Z ++ T) + (H.filter Z).length = cls H (offP H π Z) + cls (H.filter Z) T := by
  revert hT
  refine list_snoc (P := fun T => Within (H.filter Z) T → cls H (offP H π Z ++ T) + (H.filter Z).length = cls H (offP H π Z) + cls (H.filter Z) T) (fun _ => ?_) (fun T s ih hT => ?_) T
  · have e : cls (H.filter Z) ([] : List (ε × ε)) = (H.filter Z).length := by
      unfold cls
      rw [List.countP_eq_length]
      intro a _; simp [labE]
    rw [e, List.append_nil]
  · obtain ⟨a, b⟩ := s
    have hT' : Within (H.filter Z) T := fun q hq => hT q (by simp [hq])
    have ih' := ih hT'
    obtain ⟨ha, hb⟩ : a ∈ H.filter Z ∧ b ∈ H.filter Z := hT (a, b) (by simp)
    have hTZ : ∀ q ∈ T, Z q.1 = true ∧ Z q.2 = true := fun q hq => ⟨(List.mem_filter.1 (hT' q hq).1).2, (List.mem_filter.1 (hT' q hq).2).2⟩
    have ha' := List.mem_filter.1 ha
    have hb' := List.mem_filter.1 hb
    have hc := conn_stops (H := H) (π := π) hTZ ha'.2 hb'.2
    rw [← List.append_assoc]
    have hTH : Within H T := fun q hq => ⟨(List.mem_filter.1 (hT' q hq).1).1, (List.mem_filter.1 (hT' q hq).2).1⟩
    have hW : Within H (offP H π Z ++ T) := fun q hq => by
      rcases List.mem_append.1 hq with hq | hq
      · exact offP_within p q hq
      · exact hTH q hq
    by_cases h : Conn T a b
    · rw [cls_same h, cls_same (hc.2 h)]; exact ih'
    · have e1 := cls_less (p.nodup.filter Z) hT' ha h
      have e2 := cls_less p.nodup hW ha'.1 (fun h' => h (hc.1 h'))
      omega
/-- All steps. -/
def cyP (H : List ε) (π : ε → ε) : List (ε × ε) := H.map fun x => (x, π x)
theorem mem_cyP {H : List ε} {x y : ε} : (x, y) ∈ cyP H π ↔ x ∈ H ∧ y = π x := by
  unfold cyP
  simp only [List.mem_map, Prod.mk.injEq]
  constructor
  · rintro ⟨a, h1, rfl, rfl⟩; exact ⟨h1, rfl⟩
  · rintro ⟨h1, rfl⟩; exact ⟨x, h1, rfl, rfl⟩
theorem cyP_within [DecidableEq ε] {H : List ε} (p : Perm H π) : Within H (cyP H π) := fun q hq => by
  obtain ⟨x, y⟩ := q
  obtain ⟨h1, rfl⟩ := mem_cyP.1 hq
  exact ⟨h1, p.mem x h1⟩
/-- Cycles: with first returns f to the stops. -/
theorem cyc_stops [DecidableEq ε] {H : List ε} (p : Perm H π) (f : ε → ε) (hf : ∀ e ∈ H.filter Z, Hit π Z (π e) (f e)) : cls H (cyP H π) + (H.filter Z).length = cls H (offP H π Z) + cls (H.filter Z) (cyP (H.filter Z) f) := by
  have hW : Within (H.filter Z) (cyP (H.filter Z) f) := fun q hq => by
    obtain ⟨x, y⟩ := q
    obtain ⟨h1, rfl⟩ := mem_cyP.1 hq
    exact ⟨h1, List.mem_filter.2 ⟨(hf x h1).mem p (p.mem x (List.mem_filter.1 h1).1), (hf x h1).stop⟩⟩
  rw [← cls_stops p _ hW]
  congr 1
  have hWH : Within H (offP H π Z ++ cyP (H.filter Z) f) := fun q hq => by
    rcases List.mem_append.1 hq with hq | hq
    · exact offP_within p q hq
    · exact ⟨(List.mem_filter.1 (hW q hq).1).1, (List.mem_filter.1 (hW q hq).2).1⟩
  have up : ∀ {x y}, Conn (offP H π Z) x y → Conn (offP H π Z ++ cyP (H.filter Z) f) x y := fun h => h.mono fun q hq => by simp [hq]
  have dn : ∀ {x y}, Conn (offP H π Z) x y → Conn (cyP H π) x y := fun h => h.mono fun q hq => by
    obtain ⟨x, y⟩ := q
    obtain ⟨h1, _, rfl⟩ := mem_offP.1 hq
    exact mem_cyP.2 ⟨h1, rfl⟩
  refine cls_congr p.nodup (cyP_within p) hWH fun x y => ⟨fun h => h.imp fun x y h => ?_, fun h => h.imp fun x y h => ?_⟩
  · obtain ⟨h1, rfl⟩ := mem_cyP.1 h
    cases hz : Z x with
    | false => exact up (.pair (mem_offP.2 ⟨h1, hz, rfl⟩))
    | true =>
      have hm : x ∈ H.filter Z := List.mem_filter.2 ⟨h1, hz⟩
      have c1 := up ((hf x hm).conn p (p.mem x h1))
      have c2 : Conn (offP H π Z ++ cyP (H.filter Z) f) x (f x) := .pair (by rw [List.mem_append]; exact Or.inr (mem_cyP.2 ⟨hm, rfl⟩))
      exact c2.trans c1.symm
  · rcases List.mem_append.1 h with h | h
    · exact dn (.pair h)
    · obtain ⟨h1, rfl⟩ := mem_cyP.1 h
      have hm := (List.mem_filter.1 h1).1
      exact (Conn.pair (mem_cyP.2 ⟨hm, rfl⟩)).trans (dn ((hf x h1).conn p (p.mem x hm)))
/-- A permutation behind the exchange of two places. -/
def swp [DecidableEq ε] (π : ε → ε) (a b : ε) : ε → ε := fun x => if x = a then π b else if x = b then π a else π x
theorem Perm.swp [DecidableEq ε] {H : List ε} (p : Perm H π) {a b : ε} (ha : a ∈ H) (hb : b ∈ H) (hab : a ≠ b) : Perm H (swp π a b) := by
  refine ⟨p.nodup, fun x hx => ?_, fun x hx y hy h => ?_⟩
  · unfold Go.Proofs.Ytlmhiocmldhkhaa.swp; split
    · exact p.mem b hb
    · split
      · exact p.mem a ha
      · exact p.mem x hx
  · have i1 := fun (h : π a = π b) => hab (p.inj a ha b hb h)
    have i2 := fun (h : π x = π a) => p.inj x hx a ha h
    have i3 := fun (h : π x = π b) => p.inj x hx b hb h
    have i4 := fun (h : π a = π y) => p.inj a ha y hy h
    have i5 := fun (h : π b = π y) => p.inj b hb y hy h
    have i6 := fun (h : π x = π y) => p.inj x hx y hy h
    have i7' : ¬ π b = π a := fun h => hab (p.inj b hb a ha h).symm
    unfold Go.Proofs.Ytlmhiocmldhkhaa.swp at h
    by_cases h1 : x = a
    · rw [if_pos h1] at h
      by_cases h3 : y = a
      · exact h1.trans h3.symm
      · rw [if_neg h3] at h
        by_cases h4 : y = b
        · rw [if_pos h4] at h; exact absurd h i7' 
        · rw [if_neg h4] at h; exact absurd (i5 h).symm h4
    · rw [if_neg h1] at h
      by_cases h2 : x = b
      · rw [if_pos h2] at h
        by_cases h3 : y = a
        · rw [if_pos h3] at h; exact absurd h.symm i7'
        · rw [if_neg h3] at h
          by_cases h4 : y = b
          · exact h2.trans h4.symm
          · rw [if_neg h4] at h; exact absurd (i4 h).symm h3
      · rw [if_neg h2] at h
        by_cases h3 : y = a
        · rw [if_pos h3] at h; exact absurd (i3 h) h2
        · rw [if_neg h3] at h
          by_cases h4 : y = b
          · rw [if_pos h4] at h; exact absurd (i2 h) h1
          · rw [if_neg h4] at h; exact i6 h
/-- The number of cycles goes up by one or down by one; down, if the two places lay in two cycles. -/
theorem cyc_swp [DecidableEq ε] {H : List ε} (p : Perm H π) {a b : ε} (ha : a ∈ H) (hb : b ∈ H) (hab : a ≠ b) :
    (cls H (cyP H (swp π a b)) = cls H (cyP H π) + 1 ∧ Conn (cyP H π) a b) ∨ cls H (cyP H π) = cls H (cyP H (swp π a b)) + 1 := by
  obtain ⟨Z, hZ⟩ : ∃ Z : ε → Bool, Z = fun x => decide (x = a ∨ x = b) := ⟨_, rfl⟩
  have za : Z a = true := by simp [hZ]
  have zb : Z b = true := by simp [hZ]
  have zs : ∀ x, Z x = true → x = a ∨ x = b := fun x h => by simpa [hZ] using h
  have q := p.swp ha hb hab
  have ea : swp π a b a = π b := if_pos rfl
  have eb : swp π a b b = π a := by unfold Go.Proofs.Ytlmhiocmldhkhaa.swp; rw [if_neg (fun e => hab e.symm), if_pos rfl]
  have eo : ∀ x, Z x = false → π x = swp π a b x := fun x h => by
    have h' : ¬ (x = a ∨ x = b) := by simpa [hZ] using h
    unfold Go.Proofs.Ytlmhiocmldhkhaa.swp; rw [if_neg fun e => h' (Or.inl e), if_neg fun e => h' (Or.inr e)]
  obtain ⟨fa, hfa⟩ := p.returns ha za
  obtain ⟨fb, hfb⟩ := p.returns hb zb
  have hO : ∀ e, e ∈ H.filter Z ↔ e = a ∨ e = b := fun e => by
    rw [List.mem_filter]
    exact ⟨fun h => zs e h.2, fun h => h.elim (fun e1 => by rw [e1]; exact ⟨ha, za⟩) (fun e1 => by rw [e1]; exact ⟨hb, zb⟩)⟩
  have nO : (H.filter Z).Nodup := p.nodup.filter Z
  have eO : offP H π Z = offP H (swp π a b) Z := by
    unfold offP
    refine List.map_congr_left fun x hx => ?_
    have h := (List.mem_filter.1 hx).2
    rw [eo x (by simpa using h)]
  -- first returns
  have key : ∀ (ρ : ε → ε) (ga gb : ε), Perm H ρ → Hit ρ Z (ρ a) ga → Hit ρ Z (ρ b) gb → ∃ c, cls H (cyP H ρ) + (H.filter Z).length = cls H (offP H ρ Z) + c ∧ ((ga = a → gb = b → c = 2) ∧ (ga = b → gb = a → c = 1)) := by
    intro ρ ga gb r h1 h2
    refine ⟨_, cyc_stops r (fun e => if e = a then ga else gb) (fun e he => ?_), fun e1 e2 => ?_, fun e1 e2 => ?_⟩
    · rcases (hO e).1 he with rfl | rfl
      · rw [if_pos rfl]; exact h1
      · rw [if_neg fun e => hab e.symm]; exact h2
    · subst e1; subst e2
      refine cls_of (T := [ga, gb]) nO (fun s hs => ?_) (by simp [hab]) (fun t ht => (hO t).2 (by simpa using ht)) (fun t ht u hu hc => ?_) id (fun x hx => ⟨by simpa using (hO x).1 hx, .refl _⟩)
      · obtain ⟨x, y⟩ := s
        obtain ⟨h3, rfl⟩ := mem_cyP.1 hs
        refine ⟨h3, (hO _).2 ?_⟩
        dsimp only; split <;> simp
      · have hc' : ∀ {x y}, Conn (cyP (H.filter Z) fun e => if e = ga then ga else gb) x y → x = y := fun h => by
          induction h with
          | refl x => rfl
          | pair h =>
            obtain ⟨h3, rfl⟩ := mem_cyP.1 h
            rcases (hO _).1 h3 with rfl | rfl
            · rw [if_pos rfl]
            · rw [if_neg fun e => hab e.symm]
          | symm _ ih => exact ih.symm
          | trans _ _ i1 i2 => exact i1.trans i2
        exact hc' hc
    · subst e1; subst e2
      have hc : Conn (cyP (H.filter Z) fun e => if e = gb then ga else gb) gb ga := .pair (mem_cyP.2 ⟨(hO _).2 (Or.inl rfl), by rw [if_pos rfl]⟩)
      refine cls_of (T := [ga]) nO (fun s hs => ?_) (by simp) (fun t ht => (hO t).2 (by simp at ht; exact Or.inr ht)) (fun t ht u hu _ => by simp at ht hu; rw [ht, hu]) (fun _ => ga) (fun x hx => ⟨by simp, ?_⟩)
      · obtain ⟨x, y⟩ := s
        obtain ⟨h3, rfl⟩ := mem_cyP.1 hs
        refine ⟨h3, (hO _).2 ?_⟩
        dsimp only; split <;> simp
      · rcases (hO x).1 hx with rfl | rfl
        · exact hc
        · exact .refl _
  have hfa' : Hit (swp π a b) Z (swp π a b b) fa := by rw [eb]; exact hfa.congr eo
  have hfb' : Hit (swp π a b) Z (swp π a b a) fb := by rw [ea]; exact hfb.congr eo
  obtain ⟨c1, k1, k2, k3⟩ := key π fa fb p hfa hfb
  obtain ⟨c2, l1, l2, l3⟩ := key (swp π a b) fb fa q hfb' hfa'
  rw [← eO] at l1
  rcases zs fa hfa.stop with e1 | e1 <;> rcases zs fb hfb.stop with e2 | e2
  · exfalso; rw [e1] at hfa; rw [e2] at hfb; exact hab (p.first_inj ha hb za zb hfa hfb)
  · right
    have := k2 e1 e2
    have := l3 e2 e1
    omega
  · left
    have := k3 e1 e2
    have := l2 e2 e1
    refine ⟨by omega, ?_⟩
    have c1 : Conn (cyP H π) a (π a) := .pair (mem_cyP.2 ⟨ha, rfl⟩)
    have c2 := (hfa.conn p (p.mem a ha)).mono (T := cyP H π) fun s hs => by
      obtain ⟨x, y⟩ := s
      obtain ⟨h1, _, rfl⟩ := mem_offP.1 hs
      exact mem_cyP.2 ⟨h1, rfl⟩
    rw [e1] at c2
    exact c1.trans c2
  · exfalso; rw [e1] at hfa; rw [e2] at hfb; exact hab (p.first_inj ha hb za zb hfa hfb)
end
end Go.Proofs.Ytlmhiocmldhkhaa
