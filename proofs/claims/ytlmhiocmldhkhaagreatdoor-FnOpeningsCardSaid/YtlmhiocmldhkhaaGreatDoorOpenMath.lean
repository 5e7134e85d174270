/- Chapter 8, plain law: all edges, open edges, the open edge that follows, openings. No walk in sight. -/
import Derived.Test.YtlmhiocmldhkhaaGreatDoorP08k
namespace Go.Proofs.YtlmhiocmldhkhaaGreatDoor

def nE (p : Pattern) (i : Nat) : Nat := (p.pieces.getD i ⟨⟨#[]⟩, []⟩).edges.length
def rowE (i k : Nat) : List Edge := (List.range k).map fun (j : Nat) => (⟨(i : Int), (j : Int)⟩ : Edge)
theorem rowE_succ (i k : Nat) : rowE i (k + 1) = rowE i k ++ [⟨(i : Int), (k : Int)⟩] := by simp [rowE, List.range_succ]
def edgesTo (p : Pattern) (n : Nat) : List Edge := (List.range n).flatMap fun i => rowE i (nE p i)
theorem edgesTo_succ (p : Pattern) (n : Nat) : edgesTo p (n + 1) = edgesTo p n ++ rowE n (nE p n) := by simp [edgesTo, List.range_succ]
def edgesOf (p : Pattern) : List Edge := edgesTo p p.pieces.length
theorem nE_get {p : Pattern} {i : Nat} (h : i < p.pieces.length) : nE p i = (p.pieces[i]).edges.length := by simp [nE, h]
theorem mem_rowE {i k : Nat} {e : Edge} : e ∈ rowE i k ↔ ∃ j, j < k ∧ e = ⟨(i : Int), (j : Int)⟩ := by
  simp only [rowE, List.mem_map, List.mem_range]
  constructor
  · rintro ⟨j, h, rfl⟩; exact ⟨j, h, rfl⟩
  · rintro ⟨j, h, rfl⟩; exact ⟨j, h, rfl⟩
theorem mem_edgesTo {p : Pattern} {n : Nat} {e : Edge} : e ∈ edgesTo p n ↔ ∃ i j : Nat, i < n ∧ j < nE p i ∧ e = ⟨(i : Int), (j : Int)⟩ := by
  simp only [edgesTo, List.mem_flatMap, List.mem_range, mem_rowE]
  constructor
  · rintro ⟨i, h, j, hj, rfl⟩; exact ⟨i, j, h, hj, rfl⟩
  · rintro ⟨i, j, h, hj, rfl⟩; exact ⟨i, h, j, hj, rfl⟩
theorem mem_edges {p : Pattern} {e : Edge} : e ∈ edgesOf p ↔ hasEdge p e = true := by
  unfold edgesOf
  rw [mem_edgesTo]
  constructor
  · rintro ⟨i, j, h, hj, rfl⟩
    rw [nE_get h] at hj
    exact hasEdge_of h hj
  · intro h
    obtain ⟨i, j, rfl, hi, hj⟩ := hasEdge_get h
    exact ⟨i, j, hi, by rw [nE_get hi]; exact hj, rfl⟩
theorem rowE_nodup (i k : Nat) : (rowE i k).Nodup := by
  unfold rowE
  refine List.pairwise_map.2 (List.nodup_range.imp fun {a b} h e => ?_)
  have := congrArg Edge.number e
  simp only at this
  exact h (by omega)
theorem edgesTo_nodup (p : Pattern) : ∀ n, (edgesTo p n).Nodup
  | 0 => by simp [edgesTo]
  | n + 1 => by
    rw [edgesTo_succ]
    refine List.nodup_append.2 ⟨edgesTo_nodup p n, rowE_nodup _ _, fun a ha b hb e => ?_⟩
    subst e
    obtain ⟨i, j, hi, _, rfl⟩ := mem_edgesTo.1 ha
    obtain ⟨k, _, e⟩ := mem_rowE.1 hb
    have := congrArg Edge.piece e
    simp only at this
    omega
theorem edges_nodup (p : Pattern) : (edgesOf p).Nodup := edgesTo_nodup p _
theorem edgesTo_length {p : Pattern} (ok : Okp p) : ∀ n, n ≤ p.pieces.length → (edgesTo p n).length ≤ 8 * n
  | 0, _ => by simp [edgesTo]
  | n + 1, h => by
    rw [edgesTo_succ, List.length_append]
    have := edgesTo_length ok n (by omega)
    have h2 : (rowE n (nE p n)).length ≤ 8 := by
      rw [nE_get (by omega)]
      have := (ok.len _ (List.getElem_mem (l := p.pieces) (n := n) (by omega))).2
      simpa [rowE] using this
    omega
theorem edges_length {p : Pattern} (ok : Okp p) : (edgesOf p).length ≤ 80 := by
  have := edgesTo_length ok p.pieces.length (Nat.le_refl _)
  have := ok.n10
  unfold edgesOf; omega
/-- Seams as pairs. -/
theorem fillE_nodup {β : Type} : ∀ (n : Nat) (L : List (Edge × β)), L.length = n → (keysE L).Nodup → fillE L = L
  | 0, L, h, _ => by obtain rfl : L = [] := List.eq_nil_of_length_eq_zero h; rfl
  | n + 1, L, h, hn => by
    rcases snoc_cases L with rfl | ⟨M, x, rfl⟩
    · simp at h
    · have hk : keysE (M ++ [x]) = keysE M ++ [x.1] := by simp [keysE]
      rw [hk] at hn
      have ih := fillE_nodup n M (by simpa using h) (List.nodup_append.1 hn).1
      rw [fillE_snoc, ih, putE_new]
      intro hx
      exact (List.nodup_append.1 hn).2.2 _ hx _ (by simp) rfl
def PP8 (p : Pattern) : List (Edge × Edge) := pairsOf p.seams
theorem joinTo_ok {p : Pattern} (ok : Okp p) : joinTo p.seams p.seams.length = PP8 p := by
  rw [joinTo_fill]
  exact fillE_nodup _ _ rfl (by rw [pairs_keys]; exact ok.once)
theorem lookE_mem {β : Type} {kvs : List (Edge × β)} {e : Edge} {v : β} (h : lookE kvs e = some v) : (e, v) ∈ kvs := by
  induction kvs with
  | nil => simp [lookE] at h
  | cons x kvs ih =>
    obtain ⟨k, u⟩ := x
    simp only [lookE] at h
    split at h
    · rename_i he; subst he; simp at h; subst h; simp
    · exact List.mem_cons_of_mem _ (ih h)
theorem lookE_of {β : Type} {kvs : List (Edge × β)} {e : Edge} {v : β} (hn : (keysE kvs).Nodup) (h : (e, v) ∈ kvs) : lookE kvs e = some v := by
  induction kvs with
  | nil => simp at h
  | cons x kvs ih =>
    obtain ⟨k, u⟩ := x
    simp only [keysE, List.map_cons, List.nodup_cons] at hn
    simp only [lookE]
    rcases List.mem_cons.1 h with h1 | h1
    · cases h1; simp
    · have hne : e ≠ k := by
        intro he
        exact hn.1 (List.mem_map.2 ⟨(e, v), h1, he⟩)
      rw [if_neg hne]; exact ih hn.2 h1
theorem pairs_swap {ss : List Seam} {e m : Edge} (h : (e, m) ∈ pairsOf ss) : (m, e) ∈ pairsOf ss := by
  unfold pairsOf at *
  obtain ⟨s, hs, h⟩ := List.mem_flatMap.1 h
  refine List.mem_flatMap.2 ⟨s, hs, ?_⟩
  simp only [List.mem_cons, Prod.mk.injEq, List.not_mem_nil, or_false] at h ⊢
  rcases h with ⟨rfl, rfl⟩ | ⟨rfl, rfl⟩ <;> simp
def mate (p : Pattern) (e : Edge) : Option Edge := lookE (PP8 p) e
theorem mate_swap {p : Pattern} (ok : Okp p) {e m : Edge} (h : mate p e = some m) : mate p m = some e :=
  lookE_of (by unfold PP8; rw [pairs_keys]; exact ok.once) (pairs_swap (lookE_mem h))
theorem mate_has {p : Pattern} (ok : Okp p) {e m : Edge} (h : mate p e = some m) : hasEdge p m = true := by
  have h0 := lookE_mem h
  unfold PP8 pairsOf at h0
  obtain ⟨s, hs, h1⟩ := List.mem_flatMap.1 h0
  have hk := ok.seam s hs
  simp only [List.mem_cons, Prod.mk.injEq, List.not_mem_nil, or_false] at h1
  rcases h1 with ⟨_, e2⟩ | ⟨_, e2⟩
  · rw [e2]; exact hk.2
  · rw [e2]; exact hk.1
theorem mate_none {p : Pattern} {e : Edge} : mate p e = none ↔ ¬ e ∈ ends p.seams := by
  unfold mate PP8; rw [lookE_none, pairs_keys]
theorem times_pos {p : Pattern} {e : Edge} : 0 < times p.seams e ↔ e ∈ ends p.seams := by unfold times; exact List.count_pos_iff
/-- An edge is open. -/
def isOpen (p : Pattern) (e : Edge) : Bool := (mate p e).isNone
theorem open_times {p : Pattern} {e : Edge} : isOpen p e = true ↔ times p.seams e = 0 := by
  unfold isOpen
  rw [Option.isNone_iff_eq_none, mate_none, ← times_pos]; omega
def openOf (p : Pattern) : List Edge := (edgesOf p).filter (isOpen p)
theorem open_nodup (p : Pattern) : (openOf p).Nodup := (edges_nodup p).filter _
theorem mem_open {p : Pattern} {e : Edge} : e ∈ openOf p ↔ hasEdge p e = true ∧ mate p e = none := by
  unfold openOf; rw [List.mem_filter, mem_edges]; simp [isOpen]
theorem open_length {p : Pattern} (ok : Okp p) : (openOf p).length ≤ 80 := Nat.le_trans (List.length_filter_le _ _) (edges_length ok)
/-- The next edge of a piece. -/
def nextE (p : Pattern) (e : Edge) : Edge := ⟨e.piece, (e.number + 1) % nEdges p e.piece⟩
theorem next_has {p : Pattern} {e : Edge} (h : hasEdge p e = true) : hasEdge p (nextE p e) = true := by
  obtain ⟨i, j, rfl, hi, hj⟩ := hasEdge_get h
  simp only [hasEdge, Bool.and_eq_true, inr_true, nextE, nEdges_get hi] at h ⊢
  have h1 := Int.emod_nonneg ((j : Int) + 1) (b := ((p.pieces[i]).edges.length : Int)) (by omega)
  have h2 := Int.emod_lt_of_pos ((j : Int) + 1) (b := ((p.pieces[i]).edges.length : Int)) (by omega)
  omega
theorem next_inj {p : Pattern} {e f : Edge} (he : hasEdge p e = true) (hf : hasEdge p f = true) (h : nextE p e = nextE p f) : e = f := by
  obtain ⟨i, j, rfl, hi, hj⟩ := hasEdge_get he
  obtain ⟨i', j', rfl, hi', hj'⟩ := hasEdge_get hf
  have h1 := congrArg Edge.piece h
  have h2 := congrArg Edge.number h
  simp only [nextE] at h1 h2
  obtain rfl : i = i' := by omega
  simp only [nEdges_get hi] at h2
  have key : ∀ a : Nat, a < (p.pieces[i]).edges.length → ((a : Int) + 1) % ((p.pieces[i]).edges.length : Int) = if a + 1 = (p.pieces[i]).edges.length then 0 else (a : Int) + 1 := fun a ha => by
    split
    · rename_i h; rw [show ((a : Int) + 1) = ((p.pieces[i]).edges.length : Int) by omega]; simp
    · rw [Int.emod_eq_of_lt] <;> omega
  rw [key j hj, key j' hj'] at h2
  have : j = j' := by split at h2 <;> split at h2 <;> omega
  rw [this]
/-- Going on over seams until an edge is open. -/
def toOpen (p : Pattern) : Nat → Edge → Edge
  | 0, e => e
  | n + 1, e => match mate p e with
    | none => e
    | some m => toOpen p n (nextE p m)
def hops (p : Pattern) : Nat → Edge → Nat
  | 0, _ => 0
  | n + 1, e => match mate p e with
    | none => 0
    | some m => hops p n (nextE p m) + 1
/-- The way from an edge: it stays where an edge is open. -/
def goOn (p : Pattern) : Nat → Edge → Edge
  | 0, e => e
  | n + 1, e => match mate p (goOn p n e) with
    | none => goOn p n e
    | some m => nextE p m
theorem toOpen_goOn (p : Pattern) : ∀ n e, toOpen p n e = goOn p n e := by
  have step : ∀ n e, goOn p (n + 1) e = match mate p e with | none => e | some m => goOn p n (nextE p m) := by
    intro n
    induction n with
    | zero => intro e; rfl
    | succ n ih =>
      intro e
      rw [goOn, ih e]
      cases hm : mate p e with
      | none => simp [hm]
      | some m => simp only; rw [← goOn]
  intro n
  induction n with
  | zero => intro e; rfl
  | succ n ih =>
    intro e
    rw [step, toOpen]
    cases mate p e with
    | none => rfl
    | some m => exact ih _
theorem goOn_has {p : Pattern} (ok : Okp p) : ∀ n e, hasEdge p e = true → hasEdge p (goOn p n e) = true
  | 0, _, h => h
  | n + 1, e, h => by
    have ih := goOn_has ok n e h
    simp only [goOn]
    cases hm : mate p (goOn p n e) with
    | none => exact ih
    | some m => exact next_has (mate_has ok hm)
theorem goOn_stay {p : Pattern} {n : Nat} {e : Edge} (h : mate p (goOn p n e) = none) : ∀ k, goOn p (n + k) e = goOn p n e
  | 0 => rfl
  | k + 1 => by
    have ih := goOn_stay h k
    show goOn p ((n + k) + 1) e = _
    simp only [goOn]
    rw [ih, h]
theorem goOn_open {p : Pattern} {n m : Nat} {e : Edge} (h : mate p (goOn p n e) = none) (hm : n ≤ m) : goOn p m e = goOn p n e := by
  obtain ⟨k, rfl⟩ : ∃ k, m = n + k := ⟨m - n, by omega⟩
  exact goOn_stay h k
/-- From behind an open edge an open edge is met. -/
theorem goOn_meets {p : Pattern} (ok : Okp p) {e : Edge} (he : hasEdge p e = true) (ho : mate p e = none) : mate p (goOn p (edgesOf p).length (nextE p e)) = none := by
  apply Classical.byContradiction
  intro hno
  have hall : ∀ n, n ≤ (edgesOf p).length → mate p (goOn p n (nextE p e)) ≠ none := fun n hn h => hno (by rw [goOn_open h hn]; exact h)
  have h0 := next_has he
  have back : ∀ d i, i + d + 1 ≤ (edgesOf p).length → goOn p i (nextE p e) ≠ goOn p (i + d + 1) (nextE p e) := by
    intro d i
    induction i with
    | zero =>
      intro hle h
      have hd := hall d (by omega)
      cases hm : mate p (goOn p d (nextE p e)) with
      | none => exact hd hm
      | some m =>
        have e1 : goOn p (0 + d + 1) (nextE p e) = nextE p m := by
          show goOn p ((0 + d) + 1) (nextE p e) = _
          rw [Nat.zero_add]; simp only [goOn, hm]
        rw [e1] at h
        have := next_inj he (mate_has ok hm) h
        rw [this, mate_swap ok hm] at ho
        cases ho
    | succ i ih =>
      intro hle h
      have h1 := hall i (by omega)
      have h2 := hall (i + d + 1) (by omega)
      cases hm : mate p (goOn p i (nextE p e)) with
      | none => exact h1 hm
      | some m =>
        cases hm2 : mate p (goOn p (i + d + 1) (nextE p e)) with
        | none => exact h2 hm2
        | some m2 =>
          have e1 : goOn p (i + 1) (nextE p e) = nextE p m := by simp only [goOn, hm]
          have e2 : goOn p (i + 1 + d + 1) (nextE p e) = nextE p m2 := by
            rw [show i + 1 + d + 1 = (i + d + 1) + 1 by omega]; rw [goOn, hm2]
          rw [e1, e2] at h
          have := next_inj (mate_has ok hm) (mate_has ok hm2) h
          subst this
          have a := mate_swap ok hm
          rw [mate_swap ok hm2] at a
          exact ih (by omega) (Option.some.inj a).symm
  have hn : ((List.range ((edgesOf p).length + 1)).map fun i => goOn p i (nextE p e)).Nodup := by
    refine List.pairwise_map.2 (List.Pairwise.imp_of_mem (fun {a b} ha hb h => ?_) List.pairwise_lt_range)
    rw [List.mem_range] at ha hb
    obtain ⟨d, rfl⟩ : ∃ d, b = a + d + 1 := ⟨b - a - 1, by omega⟩
    exact back d a (by omega)
  have := List.Nodup.length_le_of_subset (l₂ := edgesOf p) hn fun x hx => by
    obtain ⟨i, _, rfl⟩ := List.mem_map.1 hx
    exact mem_edges.2 (goOn_has ok i _ h0)
  simp at this
  omega
def follow (p : Pattern) (e : Edge) : Edge := goOn p (edgesOf p).length (nextE p e)
theorem follow_open {p : Pattern} (ok : Okp p) {e : Edge} (h : e ∈ openOf p) : follow p e ∈ openOf p := by
  rw [mem_open] at h
  exact mem_open.2 ⟨goOn_has ok _ _ (next_has h.1), goOn_meets ok h.1 h.2⟩
theorem hops_le (p : Pattern) : ∀ n e, hops p n e ≤ n
  | 0, _ => Nat.le_refl _
  | n + 1, e => by
    simp only [hops]
    cases mate p e with
    | none => exact Nat.zero_le _
    | some m => have := hops_le p n (nextE p m); simp only; omega
theorem hops_more {p : Pattern} : ∀ n e, mate p (toOpen p n e) = none → ∀ k, n ≤ k → hops p k e = hops p n e
  | 0, e, h, k, _ => by
    simp only [toOpen] at h
    cases k with
    | zero => rfl
    | succ k => simp only [hops, h]
  | n + 1, e, h, k, hk => by
    obtain ⟨k, rfl⟩ : ∃ j, k = j + 1 := ⟨k - 1, by omega⟩
    simp only [toOpen] at h
    simp only [hops]
    cases hm : mate p e with
    | none => rfl
    | some m =>
      simp only [hm] at h
      simp only
      rw [hops_more n _ h k (by omega)]
/-- On the way to an open edge: it is met within so many steps. -/
def Nears (p : Pattern) (e f : Edge) : Prop := ∃ n, n ≤ (edgesOf p).length ∧ toOpen p n e = f ∧ mate p f = none
theorem Nears.done {p : Pattern} {e f : Edge} (h : Nears p e f) (hm : mate p e = none) : e = f := by
  obtain ⟨n, _, rfl, _⟩ := h
  cases n with
  | zero => rfl
  | succ n => simp [toOpen, hm]
theorem Nears.step {p : Pattern} {e f m : Edge} (h : Nears p e f) (hm : mate p e = some m) : Nears p (nextE p m) f ∧ hops p (edgesOf p).length (nextE p m) < hops p (edgesOf p).length e := by
  obtain ⟨n, hn, rfl, hf⟩ := h
  cases n with
  | zero => simp only [toOpen] at hf; rw [hm] at hf; cases hf
  | succ n =>
    simp only [toOpen, hm] at hf ⊢
    refine ⟨⟨n, by omega, rfl, hf⟩, ?_⟩
    have e1 : hops p (edgesOf p).length e = hops p ((edgesOf p).length - 1) (nextE p m) + 1 := by
      obtain ⟨k, hk⟩ : ∃ k, (edgesOf p).length = k + 1 := ⟨(edgesOf p).length - 1, by omega⟩
      rw [hk]; simp [hops, hm]
    rw [e1, hops_more n _ hf ((edgesOf p).length - 1) (by omega), hops_more n _ hf (edgesOf p).length (show n ≤ (edgesOf p).length by omega)]
    omega
theorem nears_first {p : Pattern} (ok : Okp p) {e : Edge} (h : e ∈ openOf p) : Nears p (nextE p e) (follow p e) := by
  rw [mem_open] at h
  refine ⟨(edgesOf p).length, Nat.le_refl _, ?_, goOn_meets ok h.1 h.2⟩
  rw [toOpen_goOn]; rfl
/-- Going round an opening: which edges are done, and the sum of lengths. -/
def goRound (p : Pattern) : Nat → List Edge → Edge → Int → List Edge × Int
  | 0, D, _, s => (D, s)
  | n + 1, D, e, s => if e ∈ D then (D, s) else goRound p n (e :: D) (follow p e) (s + edgeLen p e)
/-- How many open edges are not done. -/
def undone (p : Pattern) (D : List Edge) : Nat := (openOf p).countP fun e => decide (¬ e ∈ D)
theorem undone_le (p : Pattern) (D : List Edge) : undone p D ≤ (openOf p).length := List.countP_le_length
theorem undone_cons {p : Pattern} {D : List Edge} {e : Edge} (h : e ∈ openOf p) (hd : ¬ e ∈ D) : undone p (e :: D) < undone p D := by
  unfold undone
  have key : ∀ l : List Edge, e ∈ l → l.countP (fun x => decide (¬ x ∈ e :: D)) < l.countP fun x => decide (¬ x ∈ D) := by
    intro l
    induction l with
    | nil => intro h; simp at h
    | cons x l ih =>
      intro hx
      have mono : l.countP (fun x => decide (¬ x ∈ e :: D)) ≤ l.countP fun x => decide (¬ x ∈ D) := List.countP_mono_left fun z _ hz => by simp at hz ⊢; exact hz.2
      by_cases hxe : x = e
      · subst hxe
        rw [List.countP_cons_of_neg (by simp), List.countP_cons_of_pos (by simpa using hd)]; omega
      · have := ih ((List.mem_cons.1 hx).resolve_left (fun h => hxe h.symm))
        rw [List.countP_cons, List.countP_cons]
        have : (decide (¬ x ∈ e :: D)) = decide (¬ x ∈ D) := by simp [hxe]
        rw [this]; omega
  exact key _ h
/-- More steps than there are open edges left change nothing. -/
theorem goRound_more {p : Pattern} (ok : Okp p) : ∀ (n m : Nat) (D : List Edge) (e : Edge) (s : Int), e ∈ openOf p → undone p D < n → undone p D < m → goRound p n D e s = goRound p m D e s
  | 0, _, _, _, _, _, h, _ => absurd h (Nat.not_lt_zero _)
  | _, 0, _, _, _, _, _, h => absurd h (Nat.not_lt_zero _)
  | n + 1, m + 1, D, e, s, ho, h1, h2 => by
    simp only [goRound]
    split
    · rfl
    · rename_i hd
      have := undone_cons ho hd
      exact goRound_more ok n m _ _ _ (follow_open ok ho) (by omega) (by omega)
def roundOf (p : Pattern) (D : List Edge) (e : Edge) (s : Int) : List Edge × Int := goRound p ((openOf p).length + 1) D e s
theorem roundOf_done {p : Pattern} {D : List Edge} {e : Edge} {s : Int} (h : e ∈ D) : roundOf p D e s = (D, s) := by simp [roundOf, goRound, h]
theorem roundOf_step {p : Pattern} (ok : Okp p) {D : List Edge} {e : Edge} {s : Int} (ho : e ∈ openOf p) (h : ¬ e ∈ D) : roundOf p D e s = roundOf p (e :: D) (follow p e) (s + edgeLen p e) := by
  have h1 := undone_cons ho h
  have h2 := undone_le p D
  rw [roundOf, goRound, if_neg h]
  exact goRound_more ok _ _ _ _ _ (follow_open ok ho) (by omega) (by omega)
theorem roundOf_pos {p : Pattern} (ok : Okp p) : ∀ (n : Nat) (D : List Edge) (e : Edge) (s : Int), e ∈ openOf p → s ≤ (goRound p n D e s).2
  | 0, _, _, _, _ => Int.le_refl _
  | n + 1, D, e, s, ho => by
    simp only [goRound]
    split
    · exact Int.le_refl _
    · have := roundOf_pos ok n (e :: D) (follow p e) (s + edgeLen p e) (follow_open ok ho)
      have := (edgeLen_in ok (mem_open.1 ho).1).1
      omega
theorem round_le {p : Pattern} (ok : Okp p) : ∀ (n : Nat) (D : List Edge) (e : Edge) (s : Int), e ∈ openOf p → (goRound p n D e s).2 ≤ s + 10000 * n
  | 0, _, _, _, _ => by simp [goRound]
  | n + 1, D, e, s, ho => by
    simp only [goRound]
    split
    · simp only; omega
    · have := round_le ok n (e :: D) (follow p e) (s + edgeLen p e) (follow_open ok ho)
      have := (edgeLen_in ok (mem_open.1 ho).1).2
      omega
/-- One more opening, if its first edge is not done. -/
def oneMore (p : Pattern) (a : List Edge × List Int) (e : Edge) : List Edge × List Int := if e ∈ a.1 then a else ((roundOf p a.1 e 0).1, a.2 ++ [(roundOf p a.1 e 0).2])
def openTo (p : Pattern) (k : Nat) : List Edge × List Int := ((openOf p).take k).foldl (oneMore p) ([], [])
theorem openTo_succ (p : Pattern) (k : Nat) (h : k < (openOf p).length) : openTo p (k + 1) = oneMore p (openTo p k) (openOf p)[k] := by
  unfold openTo; rw [List.take_succ_eq_append_getElem h, List.foldl_append]; rfl
theorem openTo_length (p : Pattern) : ∀ k, k ≤ (openOf p).length → (openTo p k).2.length ≤ k
  | 0, _ => by simp [openTo]
  | k + 1, h => by
    rw [openTo_succ p k (by omega)]
    have := openTo_length p k (by omega)
    unfold oneMore; split
    · omega
    · simp; omega
def openings (p : Pattern) : List Int := (openTo p (openOf p).length).2
theorem openings_length {p : Pattern} (ok : Okp p) : (openings p).length ≤ 80 := Nat.le_trans (openTo_length p _ (Nat.le_refl _)) (open_length ok)
theorem round_first {p : Pattern} (ok : Okp p) {D : List Edge} {e : Edge} (ho : e ∈ openOf p) : (0 < (roundOf p D e 0).2) ↔ ¬ e ∈ D := by
  by_cases h : e ∈ D
  · simp [roundOf_done h, h]
  · simp only [h, not_false_eq_true, iff_true]
    rw [roundOf_step ok ho h]
    have := roundOf_pos ok ((openOf p).length + 1) (e :: D) (follow p e) (0 + edgeLen p e) (follow_open ok ho)
    have := (edgeLen_in ok (mem_open.1 ho).1).1
    unfold roundOf; omega
end Go.Proofs.YtlmhiocmldhkhaaGreatDoor
