/- Chapter 8, plain law: the openings have all open edges, how many edges are open, and what a seam takes. -/
import Derived.Test.YtlmhiocmldhkhaaGreatDoorOpenMath
import Derived.Test.YtlmhiocmldhkhaaGreatDoorAddMath
import Derived.Test.YtlmhiocmldhkhaaGreatDoorP08j
import Derived.Test.YtlmhiocmldhkhaaGreatDoorP08t
namespace Go.Proofs.YtlmhiocmldhkhaaGreatDoor

/-- The lengths of the edges of a list that are not done. -/
def sumOff (p : Pattern) (D : List Edge) (l : List Edge) : Int := sumI ((l.filter fun e => decide (¬ e ∈ D)).map (edgeLen p))
theorem sumOff_cons (p : Pattern) (D : List Edge) (x : Edge) (l : List Edge) : sumOff p D (x :: l) = (if x ∈ D then 0 else edgeLen p x) + sumOff p D l := by
  unfold sumOff
  by_cases h : x ∈ D
  · rw [if_pos h, List.filter_cons_of_neg (by simpa using h)]; omega
  · rw [if_neg h, List.filter_cons_of_pos (by simpa using h), List.map_cons, sumI_cons]
theorem sumOff_out (p : Pattern) (D : List Edge) (e : Edge) : ∀ l : List Edge, ¬ e ∈ l → sumOff p (e :: D) l = sumOff p D l
  | [], _ => rfl
  | x :: l, h => by
    have hx : x ≠ e := fun he => h (by rw [he]; exact List.mem_cons_self)
    have ih := sumOff_out p D e l fun hl => h (List.mem_cons_of_mem _ hl)
    rw [sumOff_cons, sumOff_cons, ih]
    by_cases hd : x ∈ D
    · rw [if_pos hd, if_pos (List.mem_cons_of_mem _ hd)]
    · rw [if_neg hd, if_neg (fun hm => by rcases List.mem_cons.1 hm with h1 | h1; exact hx h1; exact hd h1)]
theorem sumOff_in (p : Pattern) (D : List Edge) (e : Edge) (hd : ¬ e ∈ D) : ∀ l : List Edge, l.Nodup → e ∈ l → sumOff p D l = edgeLen p e + sumOff p (e :: D) l
  | [], _, h => by simp at h
  | x :: l, hn, h => by
    rw [List.nodup_cons] at hn
    rw [sumOff_cons, sumOff_cons]
    rcases List.mem_cons.1 h with rfl | h
    · rw [sumOff_out p D e l hn.1, if_neg hd, if_pos List.mem_cons_self]; omega
    · have hx : x ≠ e := fun he => hn.1 (he ▸ h)
      have ih := sumOff_in p D e hd l hn.2 h
      rw [ih]
      by_cases hxd : x ∈ D
      · rw [if_pos hxd, if_pos (List.mem_cons_of_mem _ hxd)]; omega
      · rw [if_neg hxd, if_neg (fun hm => by rcases List.mem_cons.1 hm with h1 | h1; exact hx h1; exact hxd h1)]; omega
theorem sumOff_all (p : Pattern) (D : List Edge) : ∀ l : List Edge, (∀ e ∈ l, e ∈ D) → sumOff p D l = 0
  | [], _ => rfl
  | x :: l, h => by
    rw [sumOff_cons, if_pos (h x List.mem_cons_self), sumOff_all p D l fun e he => h e (List.mem_cons_of_mem _ he)]; rfl
theorem sumOff_nil (p : Pattern) : ∀ l : List Edge, sumOff p [] l = sumI (l.map (edgeLen p))
  | [] => rfl
  | x :: l => by rw [sumOff_cons, if_neg (List.not_mem_nil), List.map_cons, sumI_cons, sumOff_nil p l]
def off (p : Pattern) (D : List Edge) : Int := sumOff p D (openOf p)
theorem goRound_sum {p : Pattern} (ok : Okp p) : ∀ (n : Nat) (D : List Edge) (e : Edge) (s : Int), e ∈ openOf p → (goRound p n D e s).2 + off p (goRound p n D e s).1 = s + off p D
  | 0, _, _, _, _ => rfl
  | n + 1, D, e, s, ho => by
    simp only [goRound]
    split
    · rfl
    · rename_i hd
      rw [goRound_sum ok n _ _ _ (follow_open ok ho)]
      have := sumOff_in p D e hd (openOf p) (open_nodup p) ho
      unfold off; omega
theorem goRound_keeps (p : Pattern) : ∀ (n : Nat) (D : List Edge) (e : Edge) (s : Int) (x : Edge), x ∈ D → x ∈ (goRound p n D e s).1
  | 0, _, _, _, _, h => h
  | n + 1, D, e, s, x, h => by
    simp only [goRound]
    split
    · exact h
    · exact goRound_keeps p n _ _ _ x (List.mem_cons_of_mem _ h)
theorem roundOf_has (p : Pattern) (D : List Edge) (e : Edge) (s : Int) : e ∈ (roundOf p D e s).1 := by
  unfold roundOf
  simp only [goRound]
  split
  · assumption
  · exact goRound_keeps p _ _ _ _ _ List.mem_cons_self
theorem openTo_sum {p : Pattern} (ok : Okp p) : ∀ k, k ≤ (openOf p).length → sumI (openTo p k).2 + off p (openTo p k).1 = off p [] ∧ ∀ j (h : j < (openOf p).length), j < k → (openOf p)[j] ∈ (openTo p k).1
  | 0, _ => ⟨by simp [openTo, sumI_nil], fun j _ h => absurd h (Nat.not_lt_zero _)⟩
  | k + 1, hk => by
    obtain ⟨h1, h2⟩ := openTo_sum ok k (by omega)
    rw [openTo_succ p k (by omega)]
    unfold oneMore
    split
    · rename_i hm
      refine ⟨h1, fun j hj hjk => ?_⟩
      by_cases e : j = k
      · subst e; exact hm
      · exact h2 j hj (by omega)
    · refine ⟨?_, fun j hj hjk => ?_⟩
      · have := goRound_sum ok ((openOf p).length + 1) (openTo p k).1 (openOf p)[k] 0 (List.getElem_mem _)
        simp only [sumI_append, sumI_cons, sumI_nil]
        unfold roundOf
        omega
      · by_cases e : j = k
        · subst e; exact roundOf_has p _ _ _
        · exact goRound_keeps p _ _ _ _ _ (h2 j hj (by omega))
/-- Openings have all open edges. -/
theorem openings_sum {p : Pattern} (ok : Okp p) : sumI (openings p) = sumI ((openOf p).map (edgeLen p)) := by
  obtain ⟨h1, h2⟩ := openTo_sum ok (openOf p).length (Nat.le_refl _)
  have h3 : off p (openTo p (openOf p).length).1 = 0 := sumOff_all p _ _ fun e he => by
    obtain ⟨j, hj, rfl⟩ := List.mem_iff_getElem.1 he
    exact h2 j hj hj
  have h4 : off p [] = sumI ((openOf p).map (edgeLen p)) := sumOff_nil p _
  show sumI (openTo p (openOf p).length).2 = _
  omega
theorem sumI_pos : ∀ xs : List Int, (∀ x ∈ xs, 1 ≤ x) → (xs.length : Int) ≤ sumI xs
  | [], _ => by simp [sumI_nil]
  | x :: xs, h => by
    have h1 := h x List.mem_cons_self
    have h2 := sumI_pos xs fun y hy => h y (List.mem_cons_of_mem _ hy)
    rw [sumI_cons, List.length_cons]; omega
theorem openings_some {p : Pattern} (ok : Okp p) (h : 0 < (openOf p).length) : 0 < (openings p).length := by
  apply Classical.byContradiction
  intro h0
  have e : openings p = [] := List.eq_nil_of_length_eq_zero (by omega)
  have h1 := openings_sum ok
  rw [e, sumI_nil] at h1
  have h2 := sumI_pos ((openOf p).map (edgeLen p)) fun x hx => by
    obtain ⟨e, he, rfl⟩ := List.mem_map.1 hx
    exact (edgeLen_in ok (mem_open.1 he).1).1
  rw [List.length_map] at h2
  omega
theorem openings_few (p : Pattern) : (openings p).length ≤ (openOf p).length := openTo_length p _ (Nat.le_refl _)
/-- How many edges there are. -/
def cntE (p : Pattern) (n : Nat) : Nat := (edgesTo p n).length
theorem cntE_succ (p : Pattern) (n : Nat) : cntE p (n + 1) = cntE p n + nE p n := by
  unfold cntE; rw [edgesTo_succ, List.length_append]; simp [rowE]
theorem ends_in {p : Pattern} (ok : Okp p) : ∀ e ∈ ends p.seams, e ∈ edgesOf p := fun e he => by
  simp only [ends, List.mem_flatMap] at he
  obtain ⟨s, hs, he⟩ := he
  simp only [List.mem_cons, List.not_mem_nil, or_false] at he
  rcases he with rfl | rfl
  · exact mem_edges.2 (ok.seam s hs).1
  · exact mem_edges.2 (ok.seam s hs).2
theorem isOpen_iff {p : Pattern} {e : Edge} : isOpen p e = !decide (e ∈ ends p.seams) := by
  cases h : isOpen p e with
  | true =>
    have := open_times.1 h
    have h2 : ¬ e ∈ ends p.seams := fun hm => by have := times_pos.2 hm; omega
    simp [h2]
  | false =>
    have h2 : e ∈ ends p.seams := Classical.byContradiction fun hm => by
      have : times p.seams e = 0 := by have := (not_congr times_pos).2 hm; omega
      rw [open_times.2 this] at h; cases h
    simp [h2]
theorem open_left {p : Pattern} (ok : Okp p) : (openOf p).length + 2 * p.seams.length = cntE p p.pieces.length := by
  have h1 : ((edgesOf p).filter fun e => decide (e ∈ ends p.seams)).length = (ends p.seams).length := by
    apply Nat.le_antisymm
    · exact List.Nodup.length_le_of_subset ((edges_nodup p).filter _) fun e he => by simpa using (List.mem_filter.1 he).2
    · exact List.Nodup.length_le_of_subset ok.once fun e he => List.mem_filter.2 ⟨ends_in ok e he, by simpa using he⟩
  have h2 : ∀ l : List Edge, (l.filter (isOpen p)).length + (l.filter fun e => decide (e ∈ ends p.seams)).length = l.length := by
    intro l
    induction l with
    | nil => rfl
    | cons x l ih =>
      have hx := isOpen_iff (p := p) (e := x)
      by_cases hm : x ∈ ends p.seams
      · rw [List.filter_cons_of_neg (by rw [hx]; simp [hm]), List.filter_cons_of_pos (by simpa using hm)]; simp only [List.length_cons]; omega
      · rw [List.filter_cons_of_pos (by rw [hx]; simp [hm]), List.filter_cons_of_neg (by simpa using hm)]; simp only [List.length_cons]; omega
  have h3 := h2 (edgesOf p)
  rw [h1, ends_length] at h3
  unfold cntE openOf
  unfold edgesOf at h3 ⊢
  omega
/-- The seam of two open edges. -/
def seamOf (e f : Edge) : Seam := ⟨e.piece, e.number, f.piece, f.number⟩
theorem add_open {p : Pattern} (ok : Okp p) {i k : Nat} (hi : i < (openOf p).length) (hk : k < (openOf p).length) (h : i ≠ k) :
    addRes p (seamOf (openOf p)[i] (openOf p)[k]) = (addP p (seamOf (openOf p)[i] (openOf p)[k]), 0) ∧ Okp (addP p (seamOf (openOf p)[i] (openOf p)[k])) ∧ (openOf (addP p (seamOf (openOf p)[i] (openOf p)[k]))).length + 2 = (openOf p).length := by
  have hok := okp_iff.2 ok
  have a1 := mem_open.1 (List.getElem_mem hi)
  have a2 := mem_open.1 (List.getElem_mem hk)
  have hne : (openOf p)[i] ≠ (openOf p)[k] := by
    have hp := List.pairwise_iff_getElem.1 (open_nodup p)
    rcases Nat.lt_or_gt_of_ne h with h1 | h1
    · exact hp i k hi hk h1
    · exact (hp k i hk hi h1).symm
  generalize (openOf p)[i] = e at *
  generalize (openOf p)[k] = f at *
  have e1 : endA (seamOf e f) = e := rfl
  have e2 : endB (seamOf e f) = f := rfl
  have hs : hasSeam p (seamOf e f) = true := by
    show (hasEdge p (endA (seamOf e f)) && hasEdge p (endB (seamOf e f))) = true
    rw [e1, e2, a1.1, a2.1]; rfl
  have hc : clash p (seamOf e f) = false := clash_false.2 ⟨by rw [e1]; exact mate_none.1 a1.2, by rw [e2]; exact mate_none.1 a2.2, by rw [e1, e2]; exact hne⟩
  have ok2 := (okp_add ok hs).2 hc
  refine ⟨addRes_ok hok hs hc, ok2, ?_⟩
  have c1 := open_left ok
  have c2 := open_left ok2
  have c3 : (addP p (seamOf e f)).seams.length = p.seams.length + 1 := by simp [addP]
  have c4 : cntE (addP p (seamOf e f)) (addP p (seamOf e f)).pieces.length = cntE p p.pieces.length := rfl
  rw [c3, c4] at c2
  omega
theorem openTo_range {p : Pattern} (ok : Okp p) : ∀ k, k ≤ (openOf p).length → ∀ x ∈ (openTo p k).2, -1000000 ≤ x ∧ x ≤ 1000000
  | 0, _, x, h => by simp [openTo] at h
  | k + 1, hk, x, h => by
    rw [openTo_succ p k (by omega)] at h
    unfold oneMore at h
    split at h
    · exact openTo_range ok k (by omega) x h
    · rcases List.mem_append.1 h with h | h
      · exact openTo_range ok k (by omega) x h
      · rw [List.mem_singleton] at h
        have h1 := roundOf_pos ok ((openOf p).length + 1) (openTo p k).1 (openOf p)[k] 0 (List.getElem_mem _)
        have h2 := round_le ok ((openOf p).length + 1) (openTo p k).1 (openOf p)[k] 0 (List.getElem_mem _)
        have h3 := open_length ok
        unfold roundOf at h
        rw [← h] at h1 h2
        omega
theorem openings_range {p : Pattern} (ok : Okp p) : ∀ x ∈ openings p, -1000000 ≤ x ∧ x ≤ 1000000 := openTo_range ok _ (Nat.le_refl _)
theorem sums_range {p : Pattern} (ok : Okp p) (k : Nat) (_hk : k ≤ (openOf p).length) : 0 ≤ sumI (((openOf p).take k).map (edgeLen p)) ∧ sumI (((openOf p).take k).map (edgeLen p)) ≤ 1000000 := by
  have h1 := sumI_bound 10000 (by omega) (((openOf p).take k).map (edgeLen p)) fun x hx => by
    obtain ⟨e, he, rfl⟩ := List.mem_map.1 hx
    have := edgeLen_in ok (mem_open.1 (List.mem_of_mem_take he)).1
    omega
  have h2 := sumI_pos (((openOf p).take k).map (edgeLen p)) fun x hx => by
    obtain ⟨e, he, rfl⟩ := List.mem_map.1 hx
    exact (edgeLen_in ok (mem_open.1 (List.mem_of_mem_take he)).1).1
  have h3 := open_length ok
  rw [List.length_map, List.length_take] at h1 h2
  omega
theorem sums_succ (p : Pattern) {k : Nat} (h : k < (openOf p).length) : sumI (((openOf p).take (k + 1)).map (edgeLen p)) = sumI (((openOf p).take k).map (edgeLen p)) + edgeLen p (openOf p)[k] := by
  rw [List.take_succ_eq_append_getElem h, List.map_append, sumI_append, List.map_singleton, sumI_cons, sumI_nil]; omega
end Go.Proofs.YtlmhiocmldhkhaaGreatDoor
