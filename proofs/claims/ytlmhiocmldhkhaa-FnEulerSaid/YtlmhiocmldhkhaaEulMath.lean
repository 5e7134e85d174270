/- Plain law: what is sewn of pieces is a surface with two sides: its holes are even and not fewer than none. -/
import Derived.Test.YtlmhiocmldhkhaaClsMath
import Derived.Test.YtlmhiocmldhkhaaOpenMath
import Derived.Test.YtlmhiocmldhkhaaP08c
import Derived.Test.YtlmhiocmldhkhaaP08p
namespace Go.Proofs.Ytlmhiocmldhkhaa

theorem Conn.into {ε κ : Type} {S : List (ε × ε)} {T : List (κ × κ)} (g : ε → κ) (h : ∀ x y, (x, y) ∈ S → Conn T (g x) (g y)) {x y : ε} (k : Conn S x y) : Conn T (g x) (g y) := by
  induction k with
  | refl x => exact .refl _
  | pair h' => exact h _ _ h'
  | symm _ ih => exact ih.symm
  | trans _ _ i1 i2 => exact i1.trans i2
/-- Steps behind the exchanges of all pairs. -/
def piS (nx : Edge → Edge) (S : List (Edge × Edge)) : Edge → Edge := S.foldl (fun π s => swp π s.1 s.2) nx
theorem piS_snoc (nx : Edge → Edge) (S : List (Edge × Edge)) (s : Edge × Edge) : piS nx (S ++ [s]) = swp (piS nx S) s.1 s.2 := by simp [piS]
def two (S : List (Edge × Edge)) : List Edge := S.flatMap fun s => [s.1, s.2]
theorem two_mem {S : List (Edge × Edge)} {s : Edge × Edge} (h : s ∈ S) : s.1 ∈ two S ∧ s.2 ∈ two S := ⟨List.mem_flatMap.2 ⟨s, h, by simp⟩, List.mem_flatMap.2 ⟨s, h, by simp⟩⟩
theorem piS_at (nx : Edge → Edge) (S : List (Edge × Edge)) : (two S).Nodup → (∀ x, ¬ x ∈ two S → piS nx S x = nx x) ∧ ∀ s ∈ S, piS nx S s.1 = nx s.2 ∧ piS nx S s.2 = nx s.1 := by
  refine list_snoc (P := fun S => (two S).Nodup → (∀ x, ¬ x ∈ two S → piS nx S x = nx x) ∧ ∀ s ∈ S, piS nx S s.1 = nx s.2 ∧ piS nx S s.2 = nx s.1) (fun _ => ⟨fun x _ => rfl, fun s h => by simp at h⟩) (fun S s ih hn => ?_) S
  have e : two (S ++ [s]) = two S ++ [s.1, s.2] := by simp [two]
  rw [e] at hn
  obtain ⟨h1, h2, h3⟩ := List.nodup_append.1 hn
  obtain ⟨i1, i2⟩ := ih h1
  have n1 : ¬ s.1 ∈ two S := fun h => h3 _ h _ (by simp) rfl
  have n2 : ¬ s.2 ∈ two S := fun h => h3 _ h _ (by simp) rfl
  have n3 : ¬ s.2 = s.1 := by simp at h2; exact fun h => h2 h.symm
  rw [piS_snoc, e]
  refine ⟨fun x hx => ?_, fun t ht => ?_⟩
  · rw [List.mem_append] at hx
    have x1 : ¬ x = s.1 := fun h => hx (Or.inr (by simp [h]))
    have x2 : ¬ x = s.2 := fun h => hx (Or.inr (by simp [h]))
    unfold swp; rw [if_neg x1, if_neg x2]
    exact i1 x fun h => hx (Or.inl h)
  · rcases List.mem_append.1 ht with ht | ht
    · obtain ⟨m1, m2⟩ := two_mem ht
      obtain ⟨j1, j2⟩ := i2 t ht
      unfold swp
      have d1 : ¬ t.1 = s.1 := fun h => n1 (h ▸ m1)
      have d2 : ¬ t.1 = s.2 := fun h => n2 (h ▸ m1)
      have d3 : ¬ t.2 = s.1 := fun h => n1 (h ▸ m2)
      have d4 : ¬ t.2 = s.2 := fun h => n2 (h ▸ m2)
      rw [if_neg d1, if_neg d2, if_neg d3, if_neg d4]
      exact ⟨j1, j2⟩
    · obtain rfl := List.mem_singleton.1 ht
      unfold swp
      rw [if_pos rfl, if_neg n3, if_pos rfl]
      exact ⟨i1 _ n2, i1 _ n1⟩
theorem piS_perm {H : List Edge} {nx : Edge → Edge} (p : Perm H nx) (S : List (Edge × Edge)) : (∀ s ∈ S, s.1 ∈ H ∧ s.2 ∈ H ∧ s.1 ≠ s.2) → Perm H (piS nx S) := by
  refine list_snoc (P := fun S => (∀ s ∈ S, s.1 ∈ H ∧ s.2 ∈ H ∧ s.1 ≠ s.2) → Perm H (piS nx S)) (fun _ => p) (fun S s ih hS => ?_) S
  rw [piS_snoc]
  obtain ⟨h1, h2, h3⟩ := hS s (by simp)
  exact (ih fun t ht => hS t (by simp [ht])).swp h1 h2 h3
theorem cls_nil {ε : Type} [DecidableEq ε] (H : List ε) : cls H [] = H.length := by
  unfold cls
  rw [List.countP_eq_length]
  intro a _; simp [labE]
/-- Twice the parts and the pairs, against cycles and pieces: the difference is even. -/
theorem genus {H : List Edge} {nx : Edge → Edge} (p : Perm H nx) (pc : Edge → Nat) (P : List Nat) (hP : P.Nodup) (hpc : ∀ x ∈ H, pc x ∈ P) (hnx : ∀ x ∈ H, pc (nx x) = pc x) (hF : cls H (cyP H nx) = P.length) (S : List (Edge × Edge)) :
    (∀ s ∈ S, s.1 ∈ H ∧ s.2 ∈ H ∧ s.1 ≠ s.2) → (∃ g, 2 * cls P (S.map fun s => (pc s.1, pc s.2)) + S.length = cls H (cyP H (piS nx S)) + P.length + 2 * g) ∧ ∀ x y, Conn (cyP H (piS nx S)) x y → Conn (S.map fun s => (pc s.1, pc s.2)) (pc x) (pc y) := by
  refine list_snoc (P := fun S => (∀ s ∈ S, s.1 ∈ H ∧ s.2 ∈ H ∧ s.1 ≠ s.2) → (∃ g, 2 * cls P (S.map fun s => (pc s.1, pc s.2)) + S.length = cls H (cyP H (piS nx S)) + P.length + 2 * g) ∧ ∀ x y, Conn (cyP H (piS nx S)) x y → Conn (S.map fun s => (pc s.1, pc s.2)) (pc x) (pc y)) (fun _ => ?_) (fun S s ih hS => ?_) S
  · refine ⟨⟨0, ?_⟩, fun x y h => h.into pc fun x y h => ?_⟩
    · show 2 * cls P [] + 0 = cls H (cyP H nx) + P.length + 2 * 0
      rw [cls_nil, hF]; omega
    · obtain ⟨h1, rfl⟩ := mem_cyP.1 h
      rw [show piS nx [] x = nx x from rfl, hnx x h1]; exact .refl _
  · obtain ⟨a, b⟩ := s
    have hS' : ∀ s ∈ S, s.1 ∈ H ∧ s.2 ∈ H ∧ s.1 ≠ s.2 := fun t ht => hS t (by simp [ht])
    obtain ⟨ha, hb, hab⟩ : a ∈ H ∧ b ∈ H ∧ a ≠ b := hS (a, b) (by simp)
    obtain ⟨⟨g, hg⟩, hc⟩ := ih hS'
    have q := piS_perm p S hS'
    have hsw := cyc_swp q ha hb hab
    have eM : (S ++ [(a, b)]).map (fun s => (pc s.1, pc s.2)) = S.map (fun s => (pc s.1, pc s.2)) ++ [(pc a, pc b)] := by simp
    have hW : Within P (S.map fun s => (pc s.1, pc s.2)) := fun t ht => by
      obtain ⟨s, hs, rfl⟩ := List.mem_map.1 ht
      exact ⟨hpc _ (hS' s hs).1, hpc _ (hS' s hs).2.1⟩
    rw [eM, piS_snoc]
    dsimp only
    generalize piS nx S = π at *
    generalize hM : S.map (fun s => (pc s.1, pc s.2)) = M at *
    refine ⟨?_, fun x y h => h.into pc fun x y h => ?_⟩
    · rw [List.length_append, List.length_singleton]
      by_cases h : Conn M (pc a) (pc b)
      · rw [cls_same h]
        rcases hsw with ⟨h1, _⟩ | h1
        · exact ⟨g, by omega⟩
        · exact ⟨g + 1, by omega⟩
      · have h2 := cls_less hP hW (hpc a ha) h
        rcases hsw with ⟨_, h1⟩ | h1
        · exact absurd (hc _ _ h1) h
        · exact ⟨g, by omega⟩
    · obtain ⟨h1, rfl⟩ := mem_cyP.1 h
      have up : ∀ {x y}, Conn M x y → Conn (M ++ [(pc a, pc b)]) x y := fun h => h.mono fun q hq => by simp [hq]
      have st : ∀ x ∈ H, Conn (M ++ [(pc a, pc b)]) (pc x) (pc (π x)) := fun x hx => up (hc _ _ (.pair (mem_cyP.2 ⟨hx, rfl⟩)))
      have ab : Conn (M ++ [(pc a, pc b)]) (pc a) (pc b) := .pair (by simp)
      unfold swp
      by_cases e1 : x = a
      · rw [if_pos e1, e1]; exact ab.trans (st b hb)
      · rw [if_neg e1]
        by_cases e2 : x = b
        · rw [if_pos e2, e2]; exact ab.symm.trans (st a ha)
        · rw [if_neg e2]; exact st x h1
/-- Classes of numbers that stand for places. -/
theorem cls_map {ε : Type} [DecidableEq ε] {H : List ε} {S : List (ε × ε)} (c : ε → Nat) (d : Nat → ε) (hdc : ∀ x ∈ H, d (c x) = x) (hn : H.Nodup) (hS : Within H S) : cls (H.map c) (S.map fun q => (c q.1, c q.2)) = cls H S := by
  have ci : ∀ x ∈ H, ∀ y ∈ H, c x = c y → x = y := fun x hx y hy e => by rw [← hdc x hx, ← hdc y hy, e]
  have nd : ∀ l : List ε, l.Nodup → (∀ x ∈ l, x ∈ H) → (l.map c).Nodup := fun l hl hm => List.pairwise_map.2 (List.Pairwise.imp_of_mem (fun {x y} hx hy hne he => hne (ci x (hm x hx) y (hm y hy) he)) hl)
  have back : ∀ {x y}, Conn (S.map fun q => (c q.1, c q.2)) x y → Conn S (d x) (d y) := fun h => h.into d fun x y h => by
    obtain ⟨q, hq, e⟩ := List.mem_map.1 h
    obtain ⟨rfl, rfl⟩ := Prod.mk.inj e
    rw [hdc _ (hS q hq).1, hdc _ (hS q hq).2]
    exact .pair hq
  have forth : ∀ {x y}, Conn S x y → Conn (S.map fun q => (c q.1, c q.2)) (c x) (c y) := fun h => h.into c fun x y h => .pair (List.mem_map.2 ⟨(x, y), h, rfl⟩)
  rw [cls_of (T := (H.filter fun e => labE S e == e).map c) (nd H hn fun x h => h) (fun q hq => ?_) (nd _ (hn.filter _) fun x h => (List.mem_filter.1 h).1) (fun t ht => ?_) (fun t ht u hu hc => ?_) (fun n => c (labE S (d n))) (fun n hm => ?_)]
  · unfold cls; rw [List.length_map, List.countP_eq_length_filter]
  · obtain ⟨q', hq', rfl⟩ := List.mem_map.1 hq
    exact ⟨List.mem_map.2 ⟨_, (hS q' hq').1, rfl⟩, List.mem_map.2 ⟨_, (hS q' hq').2, rfl⟩⟩
  · obtain ⟨x, hx, rfl⟩ := List.mem_map.1 ht
    exact List.mem_map.2 ⟨x, (List.mem_filter.1 hx).1, rfl⟩
  · obtain ⟨x, hx, rfl⟩ := List.mem_map.1 ht
    obtain ⟨y, hy, rfl⟩ := List.mem_map.1 hu
    rw [List.mem_filter] at hx hy
    have h1 := back hc
    rw [hdc x hx.1, hdc y hy.1] at h1
    have e1 : labE S x = x := by simpa using hx.2
    have e2 : labE S y = y := by simpa using hy.2
    rw [← e1, ← e2, (labE_conn S x y).2 h1]
  · obtain ⟨x, hx, rfl⟩ := List.mem_map.1 hm
    rw [hdc x hx]
    refine ⟨List.mem_map.2 ⟨labE S x, List.mem_filter.2 ⟨labE_in S hS x hx, by simpa using labE_idem S x⟩, rfl⟩, forth (labE_self S x).symm⟩

section
variable {p : Pattern}
theorem next_perm (p : Pattern) : Perm (edgesOf p) (nextE p) := ⟨edges_nodup p, fun _ hx => mem_edges.2 (next_has (mem_edges.1 hx)), fun _ hx _ hy h => next_inj (mem_edges.1 hx) (mem_edges.1 hy) h⟩
def sewn (p : Pattern) : List (Edge × Edge) := p.seams.map fun s => (endA s, endB s)
theorem two_sewn (p : Pattern) : two (sewn p) = ends p.seams := by
  unfold two sewn ends
  rw [List.flatMap_map]
  rfl
theorem sewn_ok (ok : Okp p) : ∀ s ∈ sewn p, s.1 ∈ edgesOf p ∧ s.2 ∈ edgesOf p ∧ s.1 ≠ s.2 := by
  intro s hs
  obtain ⟨t, ht, rfl⟩ := List.mem_map.1 hs
  obtain ⟨h1, h2⟩ := ok.seam t ht
  refine ⟨mem_edges.2 h1, mem_edges.2 h2, fun e => ?_⟩
  have hn := ok.once
  obtain ⟨l1, l2, hl⟩ := List.append_of_mem ht
  rw [hl] at hn
  simp only [ends, List.flatMap_append, List.flatMap_cons] at hn
  have h3 := (List.nodup_append.1 hn).2.1
  have h4 := (List.nodup_append.1 h3).1
  simp at h4
  have e' : endA t = endB t := e
  simp only [endA, endB, Edge.mk.injEq] at e'
  exact h4 e'.1 e'.2
def stepS (p : Pattern) : Edge → Edge := piS (nextE p) (sewn p)
theorem step_perm (ok : Okp p) : Perm (edgesOf p) (stepS p) := piS_perm (next_perm p) _ (sewn_ok ok)
theorem step_open (ok : Okp p) {e : Edge} (h : mate p e = none) : stepS p e = nextE p e := by
  refine (piS_at (nextE p) (sewn p) (by rw [two_sewn]; exact ok.once)).1 e ?_
  rw [two_sewn]; exact mate_none.1 h
theorem step_mate (ok : Okp p) {e m : Edge} (h : mate p e = some m) : stepS p e = nextE p m := by
  have h0 := lookE_mem h
  unfold PP8 pairsOf at h0
  obtain ⟨s, hs, h1⟩ := List.mem_flatMap.1 h0
  obtain ⟨h2, h3⟩ := (piS_at (nextE p) (sewn p) (by rw [two_sewn]; exact ok.once)).2 (endA s, endB s) (List.mem_map.2 ⟨s, hs, rfl⟩)
  simp only [List.mem_cons, Prod.mk.injEq, List.not_mem_nil, or_false] at h1
  rcases h1 with ⟨rfl, rfl⟩ | ⟨rfl, rfl⟩
  · exact h2
  · exact h3
theorem isOpen_iff {e : Edge} : isOpen p e = true ↔ mate p e = none := by simp [isOpen]
theorem isOpen_not {e : Edge} : isOpen p e = false ↔ ∃ m, mate p e = some m := by
  unfold isOpen
  cases mate p e <;> simp
theorem hit_toOpen (ok : Okp p) : ∀ n e, mate p (toOpen p n e) = none → Hit (stepS p) (isOpen p) e (toOpen p n e)
  | 0, e, h => .here (isOpen_iff.2 h)
  | n + 1, e, h => by
    cases hm : mate p e with
    | none =>
      have e1 : toOpen p (n + 1) e = e := by simp [toOpen, hm]
      rw [e1]; exact .here (isOpen_iff.2 hm)
    | some m =>
      have e1 : toOpen p (n + 1) e = toOpen p n (nextE p m) := by simp [toOpen, hm]
      rw [e1] at h ⊢
      refine .step (isOpen_not.2 ⟨m, hm⟩) ?_
      rw [step_mate ok hm]
      exact hit_toOpen ok n _ h
theorem hit_follow (ok : Okp p) {e : Edge} (h : e ∈ openOf p) : Hit (stepS p) (isOpen p) (stepS p e) (follow p e) := by
  obtain ⟨n, _, h1, h2⟩ := nears_first ok h
  rw [step_open ok (mem_open.1 h).2]
  rw [← h1] at h2
  have := hit_toOpen ok n _ h2
  rw [h1] at this
  exact this
theorem follow_perm (ok : Okp p) : Perm (openOf p) (follow p) := by
  refine ⟨open_nodup p, fun x hx => follow_open ok hx, fun x hx y hy h => ?_⟩
  have h1 := hit_follow ok hx
  have h2 := hit_follow ok hy
  rw [h] at h1
  have x1 := List.mem_filter.1 hx
  have y1 := List.mem_filter.1 hy
  exact (step_perm ok).first_inj x1.1 y1.1 x1.2 y1.2 h1 h2
/-- Corners are the classes of the steps over seams. -/
def cornP (p : Pattern) : List (Edge × Edge) := p.seams.flatMap fun s => [(endA s, nextE p (endB s)), (nextE p (endA s), endB s)]
theorem cornP_in (ok : Okp p) : Within (edgesOf p) (cornP p) := by
  intro q hq
  obtain ⟨s, hs, h⟩ := List.mem_flatMap.1 hq
  obtain ⟨h1, h2⟩ := ok.seam s hs
  simp only [List.mem_cons, List.not_mem_nil, or_false] at h
  rcases h with rfl | rfl
  · exact ⟨mem_edges.2 h1, mem_edges.2 (next_has h2)⟩
  · exact ⟨mem_edges.2 (next_has h1), mem_edges.2 h2⟩
theorem corners_cls (ok : Okp p) : cornersOf p = cls (edgesOf p) (offP (edgesOf p) (stepS p) (isOpen p)) := by
  have e1 : cornersOf p = cls (codes p) (SC p) := (cornersOf_eq ok).symm
  have e2 : SC p = (cornP p).map fun q => (code q.1, code q.2) := by simp [SC, cornP, List.map_flatMap]
  rw [e1, e2]
  unfold codes
  rw [cls_map code dec (fun x hx => dec_code ok (mem_edges.1 hx)) (edges_nodup p) (cornP_in ok)]
  refine cls_congr (edges_nodup p) (cornP_in ok) (offP_within (step_perm ok)) fun x y => ⟨fun h => h.imp fun x y h => ?_, fun h => h.imp fun x y h => ?_⟩
  · obtain ⟨s, hs, h⟩ := List.mem_flatMap.1 h
    obtain ⟨h1, h2⟩ := ok.seam s hs
    have hp : (endA s, endB s) ∈ pairsOf p.seams := List.mem_flatMap.2 ⟨s, hs, by simp⟩
    have hm : mate p (endA s) = some (endB s) := lookE_of (by unfold PP8; rw [pairs_keys]; exact ok.once) hp
    have hm' := mate_swap ok hm
    simp only [List.mem_cons, Prod.mk.injEq, List.not_mem_nil, or_false] at h
    rcases h with ⟨rfl, rfl⟩ | ⟨rfl, rfl⟩
    · exact .pair (mem_offP.2 ⟨mem_edges.2 h1, isOpen_not.2 ⟨_, hm⟩, (step_mate ok hm).symm⟩)
    · exact (Conn.pair (mem_offP.2 ⟨mem_edges.2 h2, isOpen_not.2 ⟨_, hm'⟩, (step_mate ok hm').symm⟩)).symm
  · obtain ⟨h1, h2, rfl⟩ := mem_offP.1 h
    obtain ⟨m, hm⟩ := isOpen_not.1 h2
    rw [step_mate ok hm]
    have h0 := lookE_mem hm
    unfold PP8 pairsOf at h0
    obtain ⟨s, hs, h3⟩ := List.mem_flatMap.1 h0
    simp only [List.mem_cons, Prod.mk.injEq, List.not_mem_nil, or_false] at h3
    rcases h3 with ⟨rfl, rfl⟩ | ⟨rfl, rfl⟩
    · exact .pair (List.mem_flatMap.2 ⟨s, hs, by simp⟩)
    · exact (Conn.pair (List.mem_flatMap.2 ⟨s, hs, by simp⟩)).symm
/-- Going round: what is done behind it. -/
theorem round_done (ok : Okp p) : ∀ (n : Nat) (D : List Edge) (e : Edge) (s : Int), e ∈ openOf p → undone p D < n → (∀ x ∈ D, x ∈ openOf p) → (∀ x ∈ D, follow p x ∈ D ∨ follow p x = e) →
    (∀ x ∈ D, x ∈ (goRound p n D e s).1) ∧ e ∈ (goRound p n D e s).1 ∧ (∀ x ∈ (goRound p n D e s).1, x ∈ openOf p) ∧ (∀ x ∈ (goRound p n D e s).1, follow p x ∈ (goRound p n D e s).1) ∧ (∀ x ∈ (goRound p n D e s).1, x ∈ D ∨ Conn (cyP (openOf p) (follow p)) e x)
  | 0, _, _, _, _, h, _, _ => absurd h (Nat.not_lt_zero _)
  | n + 1, D, e, s, ho, hu, hD, hf => by
    simp only [goRound]
    by_cases he : e ∈ D
    · rw [if_pos he]
      refine ⟨fun x h => h, he, hD, fun x hx => ?_, fun x hx => Or.inl hx⟩
      rcases hf x hx with h | h
      · exact h
      · rw [h]; exact he
    · rw [if_neg he]
      have hl := undone_cons ho he
      obtain ⟨i1, i2, i3, i4, i5⟩ := round_done ok n (e :: D) (follow p e) (s + edgeLen p e) (follow_open ok ho) (by omega) (fun x hx => by
        rcases List.mem_cons.1 hx with rfl | hx
        · exact ho
        · exact hD x hx) (fun x hx => by
        rcases List.mem_cons.1 hx with rfl | hx
        · exact Or.inr rfl
        · rcases hf x hx with h | h
          · exact Or.inl (List.mem_cons_of_mem _ h)
          · exact Or.inl (by rw [h]; simp))
      refine ⟨fun x hx => i1 x (List.mem_cons_of_mem _ hx), i1 e (by simp), i3, i4, fun x hx => ?_⟩
      have c : Conn (cyP (openOf p) (follow p)) e (follow p e) := .pair (mem_cyP.2 ⟨ho, rfl⟩)
      rcases i5 x hx with h | h
      · rcases List.mem_cons.1 h with rfl | h
        · exact Or.inr (.refl _)
        · exact Or.inl h
      · exact Or.inr (c.trans h)
structure Begun (p : Pattern) (k : Nat) (T : List Edge) : Prop where
  len : T.length = (openTo p k).2.length
  nodup : T.Nodup
  mem : ∀ t ∈ T, t ∈ openOf p
  apart : ∀ t ∈ T, ∀ u ∈ T, Conn (cyP (openOf p) (follow p)) t u → t = u
  dmem : ∀ x ∈ (openTo p k).1, x ∈ openOf p
  dcl : ∀ x ∈ (openTo p k).1, follow p x ∈ (openTo p k).1
  dT : ∀ x ∈ (openTo p k).1, ∃ t ∈ T, Conn (cyP (openOf p) (follow p)) x t
  Td : ∀ t ∈ T, t ∈ (openTo p k).1
  all : ∀ i, i < k → ∀ h : i < (openOf p).length, (openOf p)[i] ∈ (openTo p k).1
/-- What is closed under following is closed under what following connects. -/
theorem done_conn (ok : Okp p) {D : List Edge} (_hD : ∀ x ∈ D, x ∈ openOf p) (hc : ∀ x ∈ D, follow p x ∈ D) {x y : Edge} (h : Conn (cyP (openOf p) (follow p)) x y) : x ∈ D ↔ y ∈ D := by
  induction h with
  | refl x => exact Iff.rfl
  | pair h =>
    obtain ⟨h1, rfl⟩ := mem_cyP.1 h
    refine ⟨hc _, fun h2 => ?_⟩
    obtain ⟨m, hm⟩ := (follow_perm ok).back h1
    have key : ∀ k z, z ∈ D → it (follow p) k z ∈ D := by
      intro k
      induction k with
      | zero => intro z hz; exact hz
      | succ k ih => intro z hz; exact ih _ (hc z hz)
    have := key m _ h2
    rw [show it (follow p) m (follow p _) = it (follow p) (m + 1) _ from rfl, hm] at this
    exact this
  | symm _ ih => exact ih.symm
  | trans _ _ i1 i2 => exact i1.trans i2
theorem begun (ok : Okp p) : ∀ k, k ≤ (openOf p).length → ∃ T, Begun p k T
  | 0, _ => ⟨[], ⟨by simp [openTo], List.nodup_nil, fun t h => by simp at h, fun t h => by simp at h, fun x h => by simp [openTo] at h, fun x h => by simp [openTo] at h, fun x h => by simp [openTo] at h, fun t h => by simp at h, fun i h => absurd h (Nat.not_lt_zero _)⟩⟩
  | k + 1, hk => by
    obtain ⟨T, B⟩ := begun ok k (by omega)
    have hs := openTo_succ p k (by omega)
    have ho : (openOf p)[k] ∈ openOf p := List.getElem_mem _
    generalize he : (openOf p)[k] = e at *
    by_cases hD : e ∈ (openTo p k).1
    · have e1 : openTo p (k + 1) = openTo p k := by rw [hs]; unfold oneMore; rw [if_pos hD]
      refine ⟨T, ⟨by rw [e1]; exact B.len, B.nodup, B.mem, B.apart, by rw [e1]; exact B.dmem, by rw [e1]; exact B.dcl, by rw [e1]; exact B.dT, by rw [e1]; exact B.Td, fun i hi h => ?_⟩⟩
      rw [e1]
      by_cases hik : i = k
      · subst hik; rw [he]; exact hD
      · exact B.all i (by omega) h
    · have e1 : openTo p (k + 1) = ((roundOf p (openTo p k).1 e 0).1, (openTo p k).2 ++ [(roundOf p (openTo p k).1 e 0).2]) := by rw [hs]; unfold oneMore; rw [if_neg hD]
      have hu := undone_le p (openTo p k).1
      obtain ⟨i1, i2, i3, i4, i5⟩ := round_done ok ((openOf p).length + 1) (openTo p k).1 e 0 ho (by omega) B.dmem (fun x hx => Or.inl (B.dcl x hx))
      have e2 : (openTo p (k + 1)).1 = (goRound p ((openOf p).length + 1) (openTo p k).1 e 0).1 := by rw [e1]; rfl
      have ne : ∀ t ∈ T, ¬ Conn (cyP (openOf p) (follow p)) e t := fun t ht h => hD ((done_conn ok B.dmem B.dcl h).2 (B.Td t ht))
      refine ⟨T ++ [e], ⟨?_, ?_, ?_, ?_, by rw [e2]; exact i3, by rw [e2]; exact i4, ?_, ?_, ?_⟩⟩
      · rw [e1]; simp [B.len]
      · rw [List.nodup_append]
        refine ⟨B.nodup, by simp, fun a ha b hb hab => ?_⟩
        obtain rfl := List.mem_singleton.1 hb
        subst hab
        exact hD (B.Td _ ha)
      · intro t ht
        rcases List.mem_append.1 ht with ht | ht
        · exact B.mem t ht
        · rw [List.mem_singleton.1 ht]; exact ho
      · intro t ht u hu' hc
        rcases List.mem_append.1 ht with ht | ht <;> rcases List.mem_append.1 hu' with hu' | hu'
        · exact B.apart t ht u hu' hc
        · rw [List.mem_singleton.1 hu'] at hc; exact absurd hc.symm (ne t ht)
        · rw [List.mem_singleton.1 ht] at hc; exact absurd hc (ne u hu')
        · rw [List.mem_singleton.1 ht, List.mem_singleton.1 hu']
      · intro x hx
        rw [e2] at hx
        rcases i5 x hx with h | h
        · obtain ⟨t, ht, hc⟩ := B.dT x h
          exact ⟨t, by simp [ht], hc⟩
        · exact ⟨e, by simp, h.symm⟩
      · intro t ht
        rw [e2]
        rcases List.mem_append.1 ht with ht | ht
        · exact i1 t (B.Td t ht)
        · rw [List.mem_singleton.1 ht]; exact i2
      · intro i hi h
        rw [e2]
        by_cases hik : i = k
        · subst hik; rw [he]; exact i2
        · exact i1 _ (B.all i (by omega) h)
/-- Openings are the cycles of following. -/
theorem openings_cls (ok : Okp p) : (openings p).length = cls (openOf p) (cyP (openOf p) (follow p)) := by
  obtain ⟨T, B⟩ := begun ok (openOf p).length (Nat.le_refl _)
  have ex : ∀ x, ∃ t, x ∈ openOf p → t ∈ T ∧ Conn (cyP (openOf p) (follow p)) x t := fun x => by
    by_cases hx : x ∈ openOf p
    · obtain ⟨i, hi, rfl⟩ := List.mem_iff_getElem.1 hx
      obtain ⟨t, ht, hc⟩ := B.dT _ (B.all i hi hi)
      exact ⟨t, fun _ => ⟨ht, hc⟩⟩
    · exact ⟨x, fun h => absurd h hx⟩
  have e := cls_of (T := T) (open_nodup p) (cyP_within (follow_perm ok)) B.nodup B.mem B.apart (fun x => Classical.choose (ex x)) (fun x hx => Classical.choose_spec (ex x) hx)
  rw [e, B.len]; rfl
/-- The pieces are the cycles of going on along a piece. -/
theorem pieces_cls (ok : Okp p) : cls (edgesOf p) (cyP (edgesOf p) (nextE p)) = (List.range p.pieces.length).length := by
  have has : ∀ i j : Nat, ∀ hi : i < p.pieces.length, j < (p.pieces[i]).edges.length → (⟨(i : Int), (j : Int)⟩ : Edge) ∈ edgesOf p := fun i j hi hj => by
    refine mem_edges.2 ?_
    simp only [hasEdge, Bool.and_eq_true, inr_true, nEdges_get hi]
    omega
  have way : ∀ i j : Nat, ∀ hi : i < p.pieces.length, j < (p.pieces[i]).edges.length → Conn (cyP (edgesOf p) (nextE p)) (⟨(i : Int), (0 : Int)⟩ : Edge) ⟨(i : Int), (j : Int)⟩ := by
    intro i j hi
    induction j with
    | zero => intro _; exact .refl _
    | succ j ih =>
      intro hj
      refine (ih (by omega)).trans (.pair (mem_cyP.2 ⟨has i j hi (by omega), ?_⟩))
      simp only [nextE, nEdges_get hi, Edge.mk.injEq, true_and]
      rw [Int.emod_eq_of_lt (by omega) (by omega)]
      omega
  have pcs : ∀ {x y}, Conn (cyP (edgesOf p) (nextE p)) x y → x.piece = y.piece := fun h => by
    induction h with
    | refl x => rfl
    | pair h => obtain ⟨_, rfl⟩ := mem_cyP.1 h; rfl
    | symm _ ih => exact ih.symm
    | trans _ _ i1 i2 => exact i1.trans i2
  rw [cls_of (T := (List.range p.pieces.length).map fun (i : Nat) => (⟨(i : Int), (0 : Int)⟩ : Edge)) (edges_nodup p) (cyP_within (next_perm p)) ?_ ?_ ?_ (fun e => ⟨e.piece, 0⟩) ?_]
  · simp
  · refine List.pairwise_map.2 (List.Pairwise.imp (fun {a b} hab he => ?_) List.pairwise_lt_range)
    have := congrArg Edge.piece he
    simp only at this
    omega
  · intro t ht
    obtain ⟨i, hi, rfl⟩ := List.mem_map.1 ht
    have hi := List.mem_range.1 hi
    have := (ok.len _ (List.getElem_mem hi)).1
    exact has i 0 hi (by omega)
  · intro t ht u hu hc
    obtain ⟨i, hi, rfl⟩ := List.mem_map.1 ht
    obtain ⟨j, hj, rfl⟩ := List.mem_map.1 hu
    have := pcs hc
    simp only at this
    rw [this]
  · intro x hx
    obtain ⟨i, j, rfl, hi, hj⟩ := hasEdge_get (mem_edges.1 hx)
    exact ⟨List.mem_map.2 ⟨i, List.mem_range.2 hi, rfl⟩, (way i j hi hj).symm⟩
/-- The number of surfaces. -/
def surfaces (p : Pattern) : Nat := (List.range p.pieces.length).countP fun i => joinAll (SP p) id i == i
theorem sewn_SP (p : Pattern) : (sewn p).map (fun s => (s.1.piece.toNat, s.2.piece.toNat)) = SP p := by simp [sewn, SP, endA, endB]
theorem edge_piece {e : Edge} (h : e ∈ edgesOf p) : e.piece.toNat ∈ List.range p.pieces.length := by
  obtain ⟨i, j, rfl, hi, hj⟩ := hasEdge_get (mem_edges.1 h)
  simpa using hi
theorem holes (ok : Okp p) : ∃ g : Nat, 2 * (surfaces p : Int) - ((cornersOf p : Nat) - ((openOf p).length + p.seams.length) + p.pieces.length : Int) - ((openings p).length : Nat) = 2 * (g : Int) := by
  obtain ⟨⟨g, hg⟩, _⟩ := genus (next_perm p) (fun e => e.piece.toNat) (List.range p.pieces.length) List.nodup_range (fun x hx => edge_piece hx) (fun x _ => rfl) (pieces_cls ok) (sewn p) (sewn_ok ok)
  rw [sewn_SP] at hg
  have e1 : surfaces p = cls (List.range p.pieces.length) (SP p) := (corners_eq List.nodup_range (fun s hs => by
    have := SP_in ok s hs; simpa using this)).symm
  have e2 := cyc_stops (step_perm ok) (Z := isOpen p) (follow p) (fun e he => hit_follow ok he)
  have e3 := openings_cls ok
  have e4 := corners_cls ok
  have e5 : (sewn p).length = p.seams.length := by simp [sewn]
  rw [← e1, e5, List.length_range] at hg
  change cls (edgesOf p) (cyP (edgesOf p) (stepS p)) + (openOf p).length = cls (edgesOf p) (offP (edgesOf p) (stepS p) (isOpen p)) + cls (openOf p) (cyP (openOf p) (follow p)) at e2
  rw [← e3, ← e4] at e2
  have hg' : 2 * surfaces p + p.seams.length = cls (edgesOf p) (cyP (edgesOf p) (stepS p)) + p.pieces.length + 2 * g := hg
  exact ⟨g, by omega⟩
/-- A pattern has a corner. -/
theorem corners_pos (ok : Okp p) : 1 ≤ cornersOf p := by
  rw [corners_cls ok]
  have hi : 0 < p.pieces.length := ok.n1
  have h3 := (ok.len _ (List.getElem_mem hi)).1
  have hm : (⟨0, 0⟩ : Edge) ∈ edgesOf p := by
    refine mem_edges.2 ?_
    have := nEdges_get hi
    simp only [hasEdge, Bool.and_eq_true, inr_true]
    rw [show nEdges p 0 = nEdges p ((0 : Nat) : Int) from rfl, this]
    omega
  have hl := labE_in (offP (edgesOf p) (stepS p) (isOpen p)) (offP_within (step_perm ok)) _ hm
  unfold cls
  exact List.countP_pos_iff.2 ⟨_, hl, by simpa using labE_idem _ _⟩
/-- Twice as many edges as seams are not open. -/
theorem open_count (ok : Okp p) : (openOf p).length + 2 * p.seams.length = (edgesOf p).length := by
  have h1 : (edgesOf p).length = (openOf p).length + ((edgesOf p).filter fun e => !isOpen p e).length := by
    unfold openOf
    rw [← List.countP_eq_length_filter, ← List.countP_eq_length_filter, List.length_eq_countP_add_countP (isOpen p)]
    simp
  have h2 : ((edgesOf p).filter fun e => !isOpen p e).length = (ends p.seams).length := by
    have hn := (edges_nodup p).filter fun e => !isOpen p e
    have key : ∀ e, e ∈ (edgesOf p).filter (fun e => !isOpen p e) ↔ e ∈ ends p.seams := fun e => by
      rw [List.mem_filter]
      constructor
      · rintro ⟨_, h⟩
        have h' : isOpen p e = false := by simpa using h
        obtain ⟨m, hm⟩ := isOpen_not.1 h'
        apply Classical.byContradiction
        intro hc
        rw [mate_none.2 hc] at hm; cases hm
      · intro h
        obtain ⟨s, hs, he⟩ := List.mem_flatMap.1 h
        obtain ⟨k1, k2⟩ := ok.seam s hs
        refine ⟨?_, ?_⟩
        · simp only [List.mem_cons, List.not_mem_nil, or_false] at he
          rcases he with rfl | rfl
          · exact mem_edges.2 k1
          · exact mem_edges.2 k2
        · cases ho : isOpen p e with
          | false => rfl
          | true => exact absurd h (mate_none.1 (isOpen_iff.1 ho))
    exact Nat.le_antisymm (List.Nodup.length_le_of_subset hn fun e he => (key e).1 he) (List.Nodup.length_le_of_subset ok.once fun e he => (key e).2 he)
  rw [h1, h2, ends_length]
theorem two_seams (ok : Okp p) : p.seams.length ≤ 40 := by
  have h1 := open_count ok
  have h2 := edges_length ok
  omega
end
end Go.Proofs.Ytlmhiocmldhkhaa
