/- How many builds have a sum, and what a build costs, in plain words. -/
import Derived.Test.YtokoallbhbgkkaaBuildLaw
namespace Go.Proofs.Ytokoallbhbgkkaa
open Go.RowKit

/-- How many builds have a sum, when one layer more may be laid. -/
def nblAdd (c : Nat → Nat) (l : Nat) (k : Nat) : Nat := if h : l = 0 ∨ k < l then c k else c k + nblAdd c l (k - l)
termination_by k
decreasing_by omega
theorem nblAdd_lt {c : Nat → Nat} {l k : Nat} (h : k < l) : nblAdd c l k = c k := by rw [nblAdd]; simp [h]
theorem nblAdd_ge {c : Nat → Nat} {l k : Nat} (h0 : 0 < l) (h : l ≤ k) : nblAdd c l k = c k + nblAdd c l (k - l) := by
  rw [nblAdd]; rw [dif_neg (by omega)]
def nbl0 (k : Nat) : Nat := if k = 0 then 1 else 0
/-- How many builds of some layers have a sum. -/
def nbl (ls : List Int) : Nat → Nat := ls.foldl (fun c l => nblAdd c l.toNat) nbl0
theorem nbl_nil : nbl [] = nbl0 := rfl
theorem nbl_append (ls : List Int) (l : Int) : nbl (ls ++ [l]) = nblAdd (nbl ls) l.toNat := by unfold nbl; rw [List.foldl_append]; rfl
theorem nbl_take {ls : List Int} {j : Nat} (h : j < ls.length) : nbl (ls.take (j + 1)) = nblAdd (nbl (ls.take j)) ls[j].toNat := by
  rw [List.take_succ_eq_append_getElem h, nbl_append]
theorem nblAdd_bound {c : Nat → Nat} {l K B : Nat} (h0 : 0 < l) (h : ∀ j, j ≤ K → c j ≤ B) : ∀ k, k ≤ K → nblAdd c l k ≤ (k + 1) * B := by
  intro k
  induction k using Nat.strongRecOn with
  | ind k ih =>
    intro hk
    by_cases hl : k < l
    · rw [nblAdd_lt hl]
      have := h k hk
      have e : (k + 1) * B = k * B + B := by rw [Nat.add_mul, Nat.one_mul]
      omega
    · rw [nblAdd_ge h0 (by omega)]
      have h1 := ih (k - l) (by omega) (by omega)
      have h2 := h k hk
      have h3 : (k - l + 1) * B ≤ k * B := Nat.mul_le_mul_right _ (by omega)
      have e : (k + 1) * B = k * B + B := by rw [Nat.add_mul, Nat.one_mul]
      omega
theorem list_rev {α : Type} {p : List α → Prop} (nil : p []) (app : ∀ ls l, p ls → p (ls ++ [l])) (ls : List α) : p ls := by
  have h : ∀ xs : List α, p xs.reverse := by
    intro xs
    induction xs with
    | nil => exact nil
    | cons x xs ih => rw [List.reverse_cons]; exact app _ _ ih
  have := h ls.reverse
  rwa [List.reverse_reverse] at this
theorem nbl_bound {K : Nat} : ∀ (ls : List Int), (∀ l ∈ ls, 1 ≤ l) → ∀ k, k ≤ K → nbl ls k ≤ (K + 1) ^ ls.length := by
  intro ls
  refine list_rev (p := fun ls => (∀ l ∈ ls, 1 ≤ l) → ∀ k, k ≤ K → nbl ls k ≤ (K + 1) ^ ls.length) ?_ ?_ ls
  · intro _ k _; rw [nbl_nil]; unfold nbl0; simp; split <;> omega
  · intro ls l ih hp k hk
    rw [nbl_append, List.length_append]
    have h1 := nblAdd_bound (c := nbl ls) (l := l.toNat) (K := K) (B := (K + 1) ^ ls.length) (by have := hp l (by simp); omega) (ih fun x hx => hp x (by simp [hx])) k hk
    have h2 : (k + 1) * (K + 1) ^ ls.length ≤ (K + 1) * (K + 1) ^ ls.length := Nat.mul_le_mul_right _ (by omega)
    have e : (K + 1) ^ (ls.length + [l].length) = (K + 1) * (K + 1) ^ ls.length := by simp [Nat.pow_succ, Nat.mul_comm]
    omega
theorem nblAdd_more {c : Nat → Nat} {l : Nat} (h0 : 0 < l) (k : Nat) : ∀ m, c k ≤ nblAdd c l (k + m * l)
  | 0 => by
    rw [Nat.zero_mul, Nat.add_zero]
    by_cases h : k < l
    · rw [nblAdd_lt h]; exact Nat.le_refl _
    · rw [nblAdd_ge h0 (by omega)]; omega
  | m + 1 => by
    have ih := nblAdd_more (c := c) h0 k m
    have e : k + (m + 1) * l = (k + m * l) + l := by rw [Nat.add_mul]; omega
    rw [e, nblAdd_ge h0 (by omega), Nat.add_sub_cancel]
    omega
theorem nblAdd_pos {c : Nat → Nat} {l : Nat} (h0 : 0 < l) : ∀ k, 1 ≤ nblAdd c l k → ∃ m, m * l ≤ k ∧ 1 ≤ c (k - m * l) := by
  intro k
  induction k using Nat.strongRecOn with
  | ind k ih =>
    intro h
    by_cases hl : k < l
    · rw [nblAdd_lt hl] at h; exact ⟨0, by omega, by simpa using h⟩
    · rw [nblAdd_ge h0 (by omega)] at h
      by_cases hc : 1 ≤ c k
      · exact ⟨0, by omega, by simpa using hc⟩
      · obtain ⟨m, h1, h2⟩ := ih (k - l) (by omega) (by omega)
        refine ⟨m + 1, by rw [Nat.add_mul]; omega, ?_⟩
        rw [show k - (m + 1) * l = k - l - m * l by rw [Nat.add_mul]; omega]
        exact h2
/-- A build and one layer more is a build. -/
theorem nbl_more : ∀ (ls : List Int), (∀ l ∈ ls, 1 ≤ l) → ∀ l ∈ ls, ∀ k, 1 ≤ nbl ls k → 1 ≤ nbl ls (k + l.toNat) := by
  intro ls
  refine list_rev (p := fun ls => (∀ l ∈ ls, 1 ≤ l) → ∀ l ∈ ls, ∀ k, 1 ≤ nbl ls k → 1 ≤ nbl ls (k + l.toNat)) ?_ ?_ ls
  · intro _ l h; simp at h
  · intro ls a ih hp l hl k hk
    have ha := hp a (by simp)
    rw [nbl_append] at hk ⊢
    rcases List.mem_append.1 hl with hl | hl
    · obtain ⟨m, h1, h2⟩ := nblAdd_pos (by omega) k hk
      have h3 := ih (fun x hx => hp x (by simp [hx])) l hl _ h2
      have h4 := nblAdd_more (c := nbl ls) (l := a.toNat) (by omega) (k - m * a.toNat + l.toNat) m
      rw [show k - m * a.toNat + l.toNat + m * a.toNat = k + l.toNat by omega] at h4
      omega
    · rw [List.mem_singleton] at hl
      subst hl
      rw [nblAdd_ge (by omega) (by omega), Nat.add_sub_cancel]
      omega
theorem nbl_zero : ∀ ls : List Int, (∀ l ∈ ls, 1 ≤ l) → 1 ≤ nbl ls 0 := by
  intro ls
  refine list_rev (p := fun ls => (∀ l ∈ ls, 1 ≤ l) → 1 ≤ nbl ls 0) (fun _ => ?_) (fun ls l ih hp => ?_) ls
  · rw [nbl_nil]; decide
  · rw [nbl_append, nblAdd_lt (by have := hp l (by simp); omega)]
    exact ih fun x hx => hp x (by simp [hx])
/-- Whatever is laid is counted. -/
theorem nbl_build {ls : List Int} (hp : ∀ l ∈ ls, 1 ≤ l) : ∀ (D : List Int), (∀ x ∈ D, x ∈ ls) → 1 ≤ nbl ls (sumI D).toNat
  | [], _ => by rw [sumI_nil]; exact nbl_zero ls hp
  | x :: D, h => by
    have h1 := nbl_build hp D fun y hy => h y (List.mem_cons_of_mem _ hy)
    have hx := h x (List.mem_cons_self ..)
    have h2 := nbl_more ls hp x hx _ h1
    have h3 := (free_isBld hp D fun y hy => h y (List.mem_cons_of_mem _ hy)).2
    have h4 := hp x hx
    rw [sumI_cons, show (x + sumI D).toNat = (sumI D).toNat + x.toNat by omega]
    exact h2
/-- All builds: those with the last layer, and those without. -/
theorem nbl_split (ls : List Int) (l : Int) (s : Nat) (h : 1 ≤ l) (hs : l ≤ s) : nbl (ls ++ [l]) s = nbl ls s + nbl (ls ++ [l]) (s - l.toNat) := by
  rw [nbl_append, nblAdd_ge (by omega) (by omega)]
theorem nbl_short (ls : List Int) (l : Int) (s : Nat) (hs : (s : Int) < l) : nbl (ls ++ [l]) s = nbl ls s := by rw [nbl_append, nblAdd_lt (by omega)]
/-- What some layers cost: each layer's price for each time that it is there. -/
def timesP (lp : Int × Int) (L : List Int) : Int := L.foldl (fun s x => if x = lp.1 then s + lp.2 else s) 0
theorem timesP_foldl (lp : Int × Int) (L : List Int) : ∀ a : Int, L.foldl (fun s x => if x = lp.1 then s + lp.2 else s) a = a + timesP lp L := by
  induction L with
  | nil => intro a; simp [timesP]
  | cons x L ih =>
    intro a
    unfold timesP
    rw [List.foldl_cons, List.foldl_cons, ih, ih]
    split <;> omega
theorem timesP_nil (lp : Int × Int) : timesP lp [] = 0 := rfl
theorem timesP_cons (lp : Int × Int) (x : Int) (L : List Int) : timesP lp (x :: L) = (if x = lp.1 then lp.2 else 0) + timesP lp L := by
  unfold timesP; rw [List.foldl_cons, timesP_foldl, timesP_foldl]; unfold timesP; split <;> omega
theorem timesP_take {lp : Int × Int} {L : List Int} {k : Nat} (h : k < L.length) : timesP lp (L.take (k + 1)) = timesP lp (L.take k) + if L[k] = lp.1 then lp.2 else 0 := by
  rw [List.take_succ_eq_append_getElem h]
  unfold timesP
  rw [List.foldl_append, List.foldl_cons, List.foldl_nil]
  split <;> omega
def costP (lps : List (Int × Int)) (L : List Int) : Int := lps.foldl (fun s lp => s + timesP lp L) 0
theorem costP_foldl (L : List Int) (lps : List (Int × Int)) : ∀ a : Int, lps.foldl (fun s lp => s + timesP lp L) a = a + costP lps L := by
  induction lps with
  | nil => intro a; simp [costP]
  | cons x lps ih => intro a; unfold costP; rw [List.foldl_cons, List.foldl_cons, ih, ih]; omega
theorem costP_cons (lp : Int × Int) (lps : List (Int × Int)) (L : List Int) : costP (lp :: lps) L = timesP lp L + costP lps L := by
  unfold costP; rw [List.foldl_cons, costP_foldl]; unfold costP; omega
theorem costP_take {lps : List (Int × Int)} {L : List Int} {k : Nat} (h : k < lps.length) : costP (lps.take (k + 1)) L = costP (lps.take k) L + timesP lps[k] L := by
  rw [List.take_succ_eq_append_getElem h]
  unfold costP
  rw [List.foldl_append, List.foldl_cons, List.foldl_nil]
theorem costP_nil (lps : List (Int × Int)) : costP lps [] = 0 := by
  induction lps with
  | nil => rfl
  | cons x lps ih => rw [costP_cons, ih, timesP_nil]; omega
theorem costP_more (x : Int) (L : List Int) : ∀ (lps : List (Int × Int)), costP lps (x :: L) = costP lps L + costP lps [x]
  | [] => rfl
  | lp :: lps => by
    rw [costP_cons, costP_cons, costP_cons, costP_more x L lps, timesP_cons, timesP_cons, timesP_nil]
    omega
theorem costP_none (x : Int) : ∀ (lps : List (Int × Int)), (∀ lp ∈ lps, lp.1 ≠ x) → costP lps [x] = 0
  | [], _ => rfl
  | lp :: lps, h => by
    rw [costP_cons, costP_none x lps fun y hy => h y (List.mem_cons_of_mem _ hy), timesP_cons, timesP_nil, if_neg (fun e => h lp (List.mem_cons_self ..) e.symm)]
    rfl
theorem costP_one {lps : List (Int × Int)} (hd : (lps.map (·.1)).Nodup) {lp : Int × Int} (hm : lp ∈ lps) : costP lps [lp.1] = lp.2 := by
  induction lps with
  | nil => simp at hm
  | cons a lps ih =>
    rw [List.map_cons, List.nodup_cons] at hd
    rw [costP_cons, timesP_cons, timesP_nil]
    rcases List.mem_cons.1 hm with rfl | hm
    · rw [if_pos rfl, costP_none _ _ fun y hy e => hd.1 (List.mem_map.2 ⟨y, hy, e⟩)]; omega
    · rw [if_neg (fun e => hd.1 (List.mem_map.2 ⟨lp, hm, e⟩)), ih hd.2 hm]; omega
/-- A build costs what its layers cost. -/
theorem isBld_cost {lps : List (Int × Int)} (hd : (lps.map (·.1)).Nodup) {n : Nat} {b : Bld} (h : IsBld lps n b) : costP lps b.layers = b.price := by
  induction h with
  | none => exact costP_nil _
  | more _ hm _ ih => rw [costP_more, ih, costP_one hd hm]
theorem cost_isBld {lps : List (Int × Int)} (hd : (lps.map (·.1)).Nodup) (hp : ∀ lp ∈ lps, 1 ≤ lp.1) : ∀ (D : List Int), (∀ x ∈ D, x ∈ lps.map (·.1)) → IsBld lps (sumI D).toNat ⟨costP lps D, D⟩ ∧ 0 ≤ sumI D
  | [], _ => ⟨by rw [costP_nil]; exact IsBld.none, by rw [sumI_nil]; omega⟩
  | x :: D, h => by
    obtain ⟨h1, h2⟩ := cost_isBld hd hp D fun y hy => h y (List.mem_cons_of_mem _ hy)
    obtain ⟨lp, hm, rfl⟩ := List.mem_map.1 (h x (List.mem_cons_self ..))
    have hx := hp lp hm
    have := IsBld.more h1 hm hx
    rw [sumI_cons]
    refine ⟨?_, by omega⟩
    rw [show (lp.1 + sumI D).toNat = (sumI D).toNat + lp.1.toNat by omega, costP_more, costP_one hd hm]
    exact this
/-- No build is cheaper than the one that is told, nor as cheap and shorter. -/
theorem bld_cheapest {lps : List (Int × Int)} (hd : (lps.map (·.1)).Nodup) (hp : ∀ lp ∈ lps, 1 ≤ lp.1) {D : List Int} (h : ∀ x ∈ D, x ∈ lps.map (·.1)) :
    ∃ b, bld lps (sumI D).toNat = some b ∧ sumI b.layers = sumI D ∧ costP lps b.layers = b.price ∧ b.price ≤ costP lps D ∧ (b.price < costP lps D ∨ b.layers.length ≤ D.length) := by
  obtain ⟨h1, h2⟩ := cost_isBld hd hp D h
  obtain ⟨b, hb, hl⟩ := bld_least _ h1
  have hi := bld_is _ _ _ hb
  unfold lessB at hl
  simp only at hl
  exact ⟨b, hb, by rw [isBld_sum hi]; omega, isBld_cost hd hi, by omega, by omega⟩
theorem rises_nodup {ls : List Int} (h : RisesL ls) : ls.Nodup := by
  rw [List.nodup_iff_pairwise_ne, List.pairwise_iff_getElem]
  intro i j hi hj hij e
  have := h i j hij hj
  omega
end Go.Proofs.Ytokoallbhbgkkaa
