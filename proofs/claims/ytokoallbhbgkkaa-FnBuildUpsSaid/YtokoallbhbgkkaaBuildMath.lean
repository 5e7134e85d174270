/- Builds of layers: the first of the cheapest builds with a sum, in plain words. -/
import Derived.Test.YtokoallbhbgkkaaBase
namespace Go.Proofs.Ytokoallbhbgkkaa
open Go.RowKit

/-- A build: its price and its layers. -/
structure Bld where
  price : Int
  layers : List Int
deriving DecidableEq
/-- Is a build with this price and so many layers better than the one so far? -/
def better (c : Int) (n : Nat) : Option Bld → Bool
  | none => true
  | some b => decide (c < b.price) || (decide (c = b.price) && decide (n < b.layers.length))
/-- The best so far, when one more layer (l at price p) is tried for the sum n, the lesser sums' builds being known. -/
def tryLayer (t : List (Option Bld)) (n : Nat) (best : Option Bld) (lp : Int × Int) : Option Bld :=
  if lp.1 < 1 ∨ (n : Int) < lp.1 then best else
    match t.getD (n - lp.1.toNat) none with
    | none => best
    | some r => if better (r.price + lp.2) (r.layers.length + 1) best then some ⟨r.price + lp.2, lp.1 :: r.layers⟩ else best
/-- The best build with the sum n: the greatest layer is tried first. -/
def bestOf (ls : List (Int × Int)) (t : List (Option Bld)) (n : Nat) : Option Bld := ls.reverse.foldl (tryLayer t n) none
/-- The best builds with the sums 0, 1, .., n. -/
def bldTo (ls : List (Int × Int)) : Nat → List (Option Bld)
  | 0 => [some ⟨0, []⟩]
  | n + 1 => bldTo ls n ++ [bestOf ls (bldTo ls n) (n + 1)]
theorem bldTo_length (ls : List (Int × Int)) (n : Nat) : (bldTo ls n).length = n + 1 := by
  induction n with
  | zero => rfl
  | succ n ih => simp [bldTo, ih]
/-- The best build with a sum. -/
def bld (ls : List (Int × Int)) (n : Nat) : Option Bld := (bldTo ls n).getD n none
theorem bldTo_get (ls : List (Int × Int)) : ∀ (n k : Nat), k ≤ n → (bldTo ls n).getD k none = bld ls k
  | 0, k, h => by obtain rfl : k = 0 := by omega
                  rfl
  | n + 1, k, h => by
    by_cases hk : k = n + 1
    · subst hk; rfl
    · have hl := bldTo_length ls n
      unfold bldTo
      rw [List.getD_eq_getElem?_getD, List.getElem?_append_left (by omega), ← List.getD_eq_getElem?_getD]
      exact bldTo_get ls n k (by omega)
theorem bld_zero (ls : List (Int × Int)) : bld ls 0 = some ⟨0, []⟩ := rfl
theorem bld_succ (ls : List (Int × Int)) (n : Nat) : bld ls (n + 1) = bestOf ls (bldTo ls n) (n + 1) := by
  have hl := bldTo_length ls n
  unfold bld
  conv => lhs; unfold bldTo
  rw [List.getD_eq_getElem?_getD, List.getElem?_append_right (by omega), hl]
  simp
/-- A layer that may be laid last on a build. -/
def tryB (ls : List (Int × Int)) (n : Nat) (best : Option Bld) (lp : Int × Int) : Option Bld :=
  if lp.1 < 1 ∨ (n : Int) < lp.1 then best else
    match bld ls (n - lp.1.toNat) with
    | none => best
    | some r => if better (r.price + lp.2) (r.layers.length + 1) best then some ⟨r.price + lp.2, lp.1 :: r.layers⟩ else best
theorem bestOf_eq (ls : List (Int × Int)) (n : Nat) : bestOf ls (bldTo ls n) (n + 1) = ls.reverse.foldl (tryB ls (n + 1)) none := by
  unfold bestOf
  congr 1
  funext best lp
  unfold tryLayer tryB
  by_cases h : lp.1 < 1 ∨ ((n + 1 : Nat) : Int) < lp.1
  · rw [if_pos h, if_pos h]
  · rw [if_neg h, if_neg h, bldTo_get ls n _ (by omega)]
theorem bld_step (ls : List (Int × Int)) {n : Nat} (h : 0 < n) : bld ls n = ls.reverse.foldl (tryB ls n) none := by
  obtain ⟨m, rfl⟩ : ∃ m, n = m + 1 := ⟨n - 1, by omega⟩
  rw [bld_succ, bestOf_eq]
/-- The key by which builds are held against each other: the price first, then the number of layers. -/
def lessB (a b : Bld) : Prop := a.price < b.price ∨ a.price = b.price ∧ a.layers.length < b.layers.length
theorem better_some {c : Int} {n : Nat} {b : Bld} : better c n (some b) = true ↔ (c < b.price ∨ c = b.price ∧ n < b.layers.length) := by simp [better]
/-- The first of the best ones. -/
def pickB (cs : List Bld) (best : Option Bld) : Option Bld := cs.foldl (fun b c => if better c.price c.layers.length b then some c else b) best
/-- What may be laid last on a build, in an order. -/
def candsB (ls : List (Int × Int)) (n : Nat) (ms : List (Int × Int)) : List Bld :=
  ms.filterMap fun lp => if lp.1 < 1 ∨ (n : Int) < lp.1 then none else (bld ls (n - lp.1.toNat)).map fun r => ⟨r.price + lp.2, lp.1 :: r.layers⟩
theorem fold_cands (ls : List (Int × Int)) (n : Nat) : ∀ (ms : List (Int × Int)) (best : Option Bld), ms.foldl (tryB ls n) best = pickB (candsB ls n ms) best
  | [], _ => rfl
  | lp :: ms, best => by
    rw [List.foldl_cons, fold_cands ls n ms]
    unfold candsB tryB
    by_cases h : lp.1 < 1 ∨ (n : Int) < lp.1
    · rw [List.filterMap_cons_none (by rw [if_pos h]), if_pos h]
    · cases hb : bld ls (n - lp.1.toNat) with
      | none =>
        rw [List.filterMap_cons_none (by rw [if_neg h, hb]; rfl), if_neg h]
      | some r =>
        rw [List.filterMap_cons_some (b := (⟨r.price + lp.2, lp.1 :: r.layers⟩ : Bld)) (by rw [if_neg h, hb]; rfl), if_neg h]
        simp only [pickB, List.foldl_cons, List.length_cons]
theorem bld_pick (ls : List (Int × Int)) {n : Nat} (h : 0 < n) : bld ls n = pickB (candsB ls n ls.reverse) none := by rw [bld_step ls h, fold_cands]
/-- What is picked: one of the candidates, or the one so far; none is less; those ahead of it are greater. -/
theorem pickB_spec : ∀ (cs : List Bld) (best : Option Bld), (pickB cs best = none ↔ cs = [] ∧ best = none) ∧ ∀ b, pickB cs best = some b → (best = some b ∧ (∀ c ∈ cs, ¬ lessB c b)) ∨ (∃ pre post, cs = pre ++ b :: post ∧ (∀ c ∈ pre, lessB b c) ∧ (∀ c ∈ post, ¬ lessB c b) ∧ ∀ a, best = some a → lessB b a)
  | [], best => by
    refine ⟨by simp [pickB], fun b h => Or.inl ⟨by simpa [pickB] using h, by simp⟩⟩
  | c :: cs, best => by
    have e : pickB (c :: cs) best = pickB cs (if better c.price c.layers.length best then some c else best) := by simp [pickB]
    rw [e]
    by_cases hc : better c.price c.layers.length best = true
    · rw [if_pos hc]
      obtain ⟨h1, h2⟩ := pickB_spec cs (some c)
      refine ⟨⟨fun h => by have := (h1.1 h).2; simp at this, fun h => by simp at h⟩, fun b hb => ?_⟩
      have hlb : ∀ a, best = some a → lessB c a := fun a ha => by rw [ha] at hc; exact better_some.1 hc
      rcases h2 b hb with ⟨h3, h4⟩ | ⟨pre, post, h3, h4, h5, h6⟩
      · obtain rfl := Option.some.inj h3
        exact Or.inr ⟨[], cs, rfl, by simp, h4, hlb⟩
      · have hbc := h6 c rfl
        refine Or.inr ⟨c :: pre, post, by rw [h3]; rfl, fun x hx => ?_, h5, fun a ha => ?_⟩
        · rcases List.mem_cons.1 hx with rfl | hx
          · exact hbc
          · exact h4 x hx
        · have := hlb a ha
          unfold lessB at *
          omega
    · rw [if_neg hc]
      obtain ⟨h1, h2⟩ := pickB_spec cs best
      have hne : best ≠ none := fun h => hc (by rw [h]; rfl)
      refine ⟨⟨fun h => absurd (h1.1 h).2 hne, fun h => by simp at h⟩, fun b hb => ?_⟩
      rcases h2 b hb with ⟨h3, h4⟩ | ⟨pre, post, h3, h4, h5, h6⟩
      · refine Or.inl ⟨h3, fun x hx => ?_⟩
        rcases List.mem_cons.1 hx with rfl | hx
        · intro hl; exact hc (by rw [h3]; exact better_some.2 hl)
        · exact h4 x hx
      · refine Or.inr ⟨c :: pre, post, by rw [h3]; rfl, fun x hx => ?_, h5, h6⟩
        rcases List.mem_cons.1 hx with rfl | hx
        · cases hbst : best with
          | none => exact absurd hbst hne
          | some a =>
            have k1 := h6 a hbst
            have k2 : ¬ lessB x a := fun hl => hc (by rw [hbst]; exact better_some.2 hl)
            unfold lessB at *
            omega
        · exact h4 x hx
/-- The best build with a sum: it is a candidate; none is less; those of greater layers are greater. -/
theorem bld_some {ls : List (Int × Int)} {n : Nat} (h : 0 < n) {b : Bld} (hb : bld ls n = some b) : ∃ pre post, candsB ls n ls.reverse = pre ++ b :: post ∧ (∀ c ∈ pre, lessB b c) ∧ (∀ c ∈ post, ¬ lessB c b) := by
  rw [bld_pick ls h] at hb
  rcases (pickB_spec _ _).2 b hb with ⟨h1, _⟩ | ⟨pre, post, h1, h2, h3, _⟩
  · cases h1
  · exact ⟨pre, post, h1, h2, h3⟩
theorem bld_none {ls : List (Int × Int)} {n : Nat} (h : 0 < n) (hb : bld ls n = none) : candsB ls n ls.reverse = [] := by
  rw [bld_pick ls h] at hb
  exact ((pickB_spec _ _).1.1 hb).1
theorem mem_cands {ls : List (Int × Int)} {n : Nat} {ms : List (Int × Int)} {b : Bld} : b ∈ candsB ls n ms ↔ ∃ lp ∈ ms, (1 ≤ lp.1 ∧ lp.1 ≤ n) ∧ ∃ r, bld ls (n - lp.1.toNat) = some r ∧ b = ⟨r.price + lp.2, lp.1 :: r.layers⟩ := by
  unfold candsB
  rw [List.mem_filterMap]
  constructor
  · rintro ⟨lp, hm, he⟩
    by_cases h : lp.1 < 1 ∨ (n : Int) < lp.1
    · rw [if_pos h] at he; cases he
    · rw [if_neg h] at he
      cases hr : bld ls (n - lp.1.toNat) with
      | none => rw [hr] at he; cases he
      | some r =>
        rw [hr] at he
        exact ⟨lp, hm, by omega, r, hr, (Option.some.inj he).symm⟩
  · rintro ⟨lp, hm, h1, r, hr, rfl⟩
    exact ⟨lp, hm, by rw [if_neg (by omega), hr]; rfl⟩
/-- A build with a sum, out of layers at their prices. -/
inductive IsBld (ls : List (Int × Int)) : Nat → Bld → Prop
  | none : IsBld ls 0 ⟨0, []⟩
  | more {n : Nat} {r : Bld} {lp : Int × Int} : IsBld ls n r → lp ∈ ls → 1 ≤ lp.1 → IsBld ls (n + lp.1.toNat) ⟨r.price + lp.2, lp.1 :: r.layers⟩
/-- What is told is a build; and no build is less. -/
theorem bld_is (ls : List (Int × Int)) : ∀ n b, bld ls n = some b → IsBld ls n b := by
  intro n
  induction n using Nat.strongRecOn with
  | ind n ih =>
    intro b hb
    by_cases h : n = 0
    · subst h; rw [bld_zero] at hb; obtain rfl := Option.some.inj hb; exact .none
    · obtain ⟨pre, post, hc, _, _⟩ := bld_some (by omega) hb
      obtain ⟨lp, hm, h1, r, hr, rfl⟩ := mem_cands.1 (show b ∈ candsB ls n ls.reverse by rw [hc]; simp)
      have := IsBld.more (ih (n - lp.1.toNat) (by omega) r hr) (List.mem_reverse.1 hm) h1.1
      rwa [show n - lp.1.toNat + lp.1.toNat = n by omega] at this
theorem lessB_irrefl (a : Bld) : ¬ lessB a a := by unfold lessB; omega
theorem not_less_trans {a b c : Bld} (h : ¬ lessB b a) (k : ¬ lessB c b) : ¬ lessB c a := by unfold lessB at *; omega
theorem bld_least (ls : List (Int × Int)) {n : Nat} {x : Bld} (hx : IsBld ls n x) : ∃ b, bld ls n = some b ∧ ¬ lessB x b := by
  induction hx with
  | none => exact ⟨_, bld_zero ls, lessB_irrefl _⟩
  | @more n r lp hr hm h1 ih =>
    obtain ⟨b, hb, hl⟩ := ih
    have hpos : 0 < n + lp.1.toNat := by omega
    have hmem : (⟨b.price + lp.2, lp.1 :: b.layers⟩ : Bld) ∈ candsB ls (n + lp.1.toNat) ls.reverse :=
      mem_cands.2 ⟨lp, List.mem_reverse.2 hm, by omega, b, by rw [show n + lp.1.toNat - lp.1.toNat = n by omega]; exact hb, rfl⟩
    cases hbn : bld ls (n + lp.1.toNat) with
    | none => rw [bld_none hpos hbn] at hmem; simp at hmem
    | some d =>
      refine ⟨d, rfl, ?_⟩
      obtain ⟨pre, post, hc, h2, h3⟩ := bld_some hpos hbn
      have hd : ¬ lessB ⟨b.price + lp.2, lp.1 :: b.layers⟩ d := by
        rw [hc] at hmem
        rcases List.mem_append.1 hmem with h | h
        · intro k; have := h2 _ h; unfold lessB at *; omega
        · rcases List.mem_cons.1 h with h | h
          · rw [h]; exact lessB_irrefl _
          · exact h3 _ h
      refine not_less_trans hd ?_
      unfold lessB at *
      simp only [List.length_cons]
      omega
theorem bld_unreached {ls : List (Int × Int)} {n : Nat} (h : bld ls n = none) {x : Bld} (hx : IsBld ls n x) : False := by
  obtain ⟨b, hb, _⟩ := bld_least ls hx
  rw [h] at hb; cases hb
/-- Layers at no price. -/
def free (ls : List Int) : List (Int × Int) := ls.map fun l => (l, 0)
/-- The first of the shortest builds with a sum. -/
def shortest (ls : List Int) (n : Nat) : Option (List Int) := (bld (free ls) n).map (·.layers)
theorem free_price (ls : List Int) {n : Nat} {x : Bld} (hx : IsBld (free ls) n x) : x.price = 0 := by
  induction hx with
  | none => rfl
  | more _ hm _ ih =>
    obtain ⟨l, _, rfl⟩ := List.mem_map.1 hm
    simp [ih]
/-- How many layers the shortest build with a sum has; -1 if there is none. -/
def few (ls : List Int) (n : Nat) : Int := match shortest ls n with
  | none => -1
  | some L => L.length
theorem few_zero (ls : List Int) : few ls 0 = 0 := rfl
theorem few_some {ls : List Int} {n : Nat} {L : List Int} (h : shortest ls n = some L) : few ls n = L.length := by unfold few; rw [h]
theorem few_none {ls : List Int} {n : Nat} (h : shortest ls n = none) : few ls n = -1 := by unfold few; rw [h]
theorem few_neg {ls : List Int} {n : Nat} : few ls n < 0 ↔ shortest ls n = none := by
  cases h : shortest ls n with
  | none => rw [few_none h]; simp
  | some L => rw [few_some h]; simp
/-- One round of the reference's search. -/
def fewTry (ls : List Int) (n : Nat) (best : Int) (l : Int) : Int :=
  if (1 ≤ l ∧ l ≤ n) ∧ 0 ≤ few ls (n - l.toNat) ∧ (best < 0 ∨ few ls (n - l.toNat) + 1 < best) then few ls (n - l.toNat) + 1 else best
/-- The least of what is to be had, or -1. -/
def LeastOf (S : Int → Prop) (v : Int) : Prop := (v = -1 ∧ ∀ u, ¬ S u) ∨ (S v ∧ ∀ u, S u → v ≤ u)
theorem leastOf_unique {S : Int → Prop} {v u : Int} (_h0 : ∀ x, S x → 0 ≤ x) (hv : LeastOf S v) (hu : LeastOf S u) : v = u := by
  rcases hv with ⟨rfl, h1⟩ | ⟨h1, h2⟩ <;> rcases hu with ⟨rfl, h3⟩ | ⟨h3, h4⟩
  · rfl
  · exact absurd h3 (h1 _)
  · exact absurd h1 (h3 _)
  · have := h2 _ h3; have := h4 _ h1; omega
def fewSet (ls ms : List Int) (n : Nat) (v : Int) : Prop := ∃ l ∈ ms, (1 ≤ l ∧ l ≤ n) ∧ 0 ≤ few ls (n - l.toNat) ∧ v = few ls (n - l.toNat) + 1
theorem fewTry_least (ls : List Int) (n : Nat) (ms : List Int) (l : Int) (best : Int) (h : LeastOf (fewSet ls ms n) best) : LeastOf (fewSet ls (ms ++ [l]) n) (fewTry ls n best l) := by
  have hmem : ∀ v, fewSet ls (ms ++ [l]) n v ↔ fewSet ls ms n v ∨ ((1 ≤ l ∧ l ≤ n) ∧ 0 ≤ few ls (n - l.toNat) ∧ v = few ls (n - l.toNat) + 1) := by
    intro v
    unfold fewSet
    constructor
    · rintro ⟨x, hx, h1⟩
      rcases List.mem_append.1 hx with hx | hx
      · exact Or.inl ⟨x, hx, h1⟩
      · rw [List.mem_singleton] at hx; subst hx; exact Or.inr h1
    · rintro (⟨x, hx, h1⟩ | h1)
      · exact ⟨x, List.mem_append_left _ hx, h1⟩
      · exact ⟨l, by simp, h1⟩
  unfold fewTry
  by_cases hc : (1 ≤ l ∧ l ≤ n) ∧ 0 ≤ few ls (n - l.toNat) ∧ (best < 0 ∨ few ls (n - l.toNat) + 1 < best)
  · rw [if_pos hc]
    refine Or.inr ⟨(hmem _).2 (Or.inr ⟨hc.1, hc.2.1, rfl⟩), fun u hu => ?_⟩
    rcases (hmem u).1 hu with hu | ⟨_, _, rfl⟩
    · rcases h with ⟨_, h1⟩ | ⟨h1, h2⟩
      · exact absurd hu (h1 u)
      · have := h2 u hu
        obtain ⟨x, _, _, k1, k2⟩ := h1
        omega
    · exact Int.le_refl _
  · rw [if_neg hc]
    rcases h with ⟨rfl, h1⟩ | ⟨h1, h2⟩
    · refine Or.inl ⟨rfl, fun u hu => ?_⟩
      rcases (hmem u).1 hu with hu | ⟨k1, k2, _⟩
      · exact h1 u hu
      · exact hc ⟨k1, k2, Or.inl (by omega)⟩
    · refine Or.inr ⟨(hmem _).2 (Or.inl h1), fun u hu => ?_⟩
      rcases (hmem u).1 hu with hu | ⟨k1, k2, rfl⟩
      · exact h2 u hu
      · by_cases hlt : few ls (n - l.toNat) + 1 < best
        · exact absurd ⟨k1, k2, Or.inr hlt⟩ hc
        · omega
theorem fewTo_least (ls : List Int) (n : Nat) : ∀ k, k ≤ ls.length → LeastOf (fewSet ls (ls.take k) n) ((ls.take k).foldl (fewTry ls n) (-1))
  | 0, _ => Or.inl ⟨rfl, fun u ⟨x, hx, _⟩ => by simp at hx⟩
  | k + 1, h => by
    rw [List.take_succ_eq_append_getElem (by omega), List.foldl_append, List.foldl_cons, List.foldl_nil]
    exact fewTry_least ls n _ _ _ (fewTo_least ls n k (by omega))
/-- What the reference's search finds is the length of the shortest build. -/
theorem few_least (ls : List Int) {n : Nat} (hn : 0 < n) : LeastOf (fewSet ls ls n) (few ls n) := by
  have hcand : ∀ v, fewSet ls ls n v ↔ ∃ b ∈ candsB (free ls) n (free ls).reverse, v = b.layers.length := by
    intro v
    constructor
    · rintro ⟨l, hl, h1, h2, rfl⟩
      cases hs : bld (free ls) (n - l.toNat) with
      | none => rw [few_none (by unfold shortest; rw [hs]; rfl)] at h2; omega
      | some r =>
        refine ⟨_, mem_cands.2 ⟨(l, 0), by rw [List.mem_reverse]; exact List.mem_map.2 ⟨l, hl, rfl⟩, h1, r, hs, rfl⟩, ?_⟩
        rw [few_some (L := r.layers) (by unfold shortest; rw [hs]; rfl)]
        simp
    · rintro ⟨b, hb, rfl⟩
      obtain ⟨lp, hm, h1, r, hr, rfl⟩ := mem_cands.1 hb
      obtain ⟨l, hl, rfl⟩ := List.mem_map.1 (List.mem_reverse.1 hm)
      refine ⟨l, hl, h1, ?_, ?_⟩
      · rw [few_some (L := r.layers) (by unfold shortest; rw [hr]; rfl)]; omega
      · rw [few_some (L := r.layers) (by unfold shortest; rw [hr]; rfl)]; simp
  cases hb : bld (free ls) n with
  | none =>
    have he := bld_none hn hb
    refine Or.inl ⟨few_none (by unfold shortest; rw [hb]; rfl), fun u hu => ?_⟩
    obtain ⟨b, hm, _⟩ := (hcand u).1 hu
    rw [he] at hm; simp at hm
  | some d =>
    obtain ⟨pre, post, hc, h2, h3⟩ := bld_some hn hb
    have hfe : few ls n = d.layers.length := few_some (by unfold shortest; rw [hb]; rfl)
    have hd0 := free_price ls (bld_is _ _ _ hb)
    refine Or.inr ⟨(hcand _).2 ⟨d, by rw [hc]; simp, hfe⟩, fun u hu => ?_⟩
    obtain ⟨b, hm, rfl⟩ := (hcand u).1 hu
    rw [hfe]
    have hb0 : b.price = 0 := by
      obtain ⟨lp, hm2, _, r, hr, rfl⟩ := mem_cands.1 hm
      obtain ⟨l, _, rfl⟩ := List.mem_map.1 (List.mem_reverse.1 hm2)
      have := free_price ls (bld_is _ _ _ hr)
      simp [this]
    have hnl : ¬ lessB b d := by
      rw [hc] at hm
      rcases List.mem_append.1 hm with h | h
      · intro k; have := h2 _ h; unfold lessB at *; omega
      · rcases List.mem_cons.1 h with h | h
        · rw [h]; exact lessB_irrefl _
        · exact h3 _ h
    unfold lessB at hnl
    omega
theorem few_step (ls : List Int) {n : Nat} (hn : 0 < n) : ls.foldl (fewTry ls n) (-1) = few ls n := by
  have h1 := fewTo_least ls n ls.length (Nat.le_refl _)
  rw [List.take_length] at h1
  exact leastOf_unique (fun x ⟨l, _, _, k1, k2⟩ => by omega) h1 (few_least ls hn)
/-- The layer that the reference lays next: the greatest that leads on. -/
def leads (ls : List Int) (n : Nat) (l : Int) : Bool := decide (1 ≤ l ∧ l ≤ n) && decide (0 ≤ few ls (n - l.toNat)) && decide (few ls (n - l.toNat) + 1 = few ls n)
theorem leads_iff {ls : List Int} {n : Nat} {l : Int} : leads ls n l = true ↔ (1 ≤ l ∧ l ≤ n) ∧ 0 ≤ few ls (n - l.toNat) ∧ few ls (n - l.toNat) + 1 = few ls n := by
  unfold leads; simp [and_assoc]
theorem cands_split (ls : List (Int × Int)) (n : Nat) : ∀ (ms : List (Int × Int)) (pre : List Bld) (b : Bld) (post : List Bld), candsB ls n ms = pre ++ b :: post →
    ∃ m1 lp m2 r, ms = m1 ++ lp :: m2 ∧ candsB ls n m1 = pre ∧ (1 ≤ lp.1 ∧ lp.1 ≤ (n : Int)) ∧ bld ls (n - lp.1.toNat) = some r ∧ b = ⟨r.price + lp.2, lp.1 :: r.layers⟩
  | [], pre, b, post, h => by simp [candsB] at h
  | lp :: ms, pre, b, post, h => by
    by_cases hin : lp.1 < 1 ∨ (n : Int) < lp.1
    · have e : candsB ls n (lp :: ms) = candsB ls n ms := by unfold candsB; rw [List.filterMap_cons_none (by rw [if_pos hin])]
      obtain ⟨m1, lq, m2, r, h1, h2, h3⟩ := cands_split ls n ms pre b post (by rw [← e, h])
      refine ⟨lp :: m1, lq, m2, r, by rw [h1]; rfl, ?_, h3⟩
      unfold candsB; rw [List.filterMap_cons_none (by rw [if_pos hin])]; exact h2
    · cases hb : bld ls (n - lp.1.toNat) with
      | none =>
        have e : candsB ls n (lp :: ms) = candsB ls n ms := by unfold candsB; rw [List.filterMap_cons_none (by rw [if_neg hin, hb]; rfl)]
        obtain ⟨m1, lq, m2, r, h1, h2, h3⟩ := cands_split ls n ms pre b post (by rw [← e, h])
        refine ⟨lp :: m1, lq, m2, r, by rw [h1]; rfl, ?_, h3⟩
        unfold candsB; rw [List.filterMap_cons_none (by rw [if_neg hin, hb]; rfl)]; exact h2
      | some r =>
        have e : candsB ls n (lp :: ms) = ⟨r.price + lp.2, lp.1 :: r.layers⟩ :: candsB ls n ms := by
          unfold candsB; rw [List.filterMap_cons_some (b := (⟨r.price + lp.2, lp.1 :: r.layers⟩ : Bld)) (by rw [if_neg hin, hb]; rfl)]
        rw [e] at h
        cases pre with
        | nil =>
          simp only [List.nil_append, List.cons.injEq] at h
          exact ⟨[], lp, ms, r, rfl, rfl, by omega, hb, h.1.symm⟩
        | cons c pre =>
          simp only [List.cons_append, List.cons.injEq] at h
          obtain ⟨m1, lq, m2, r', h1, h2, h3⟩ := cands_split ls n ms pre b post h.2
          refine ⟨lp :: m1, lq, m2, r', by rw [h1]; rfl, ?_, h3⟩
          have e2 : candsB ls n (lp :: m1) = ⟨r.price + lp.2, lp.1 :: r.layers⟩ :: candsB ls n m1 := by
            unfold candsB; rw [List.filterMap_cons_some (b := (⟨r.price + lp.2, lp.1 :: r.layers⟩ : Bld)) (by rw [if_neg hin, hb]; rfl)]
          rw [e2, h2, h.1]
theorem shortest_bld {ls : List Int} {n : Nat} {L : List Int} (h : shortest ls n = some L) : bld (free ls) n = some ⟨0, L⟩ := by
  unfold shortest at h
  cases hb : bld (free ls) n with
  | none => rw [hb] at h; cases h
  | some b =>
    rw [hb] at h
    have hp := free_price ls (bld_is _ _ _ hb)
    obtain rfl := Option.some.inj h
    rw [← hp]
/-- The shortest build lays the first layer (the greatest ahead) that leads on, and then the shortest build of the rest. -/
theorem shortest_lead {ls : List Int} {n : Nat} (hn : 0 < n) {L : List Int} (h : shortest ls n = some L) :
    ∃ m1 l m2 T, ls.reverse = m1 ++ l :: m2 ∧ (∀ x ∈ m1, leads ls n x = false) ∧ leads ls n l = true ∧ shortest ls (n - l.toNat) = some T ∧ L = l :: T := by
  have hb := shortest_bld h
  have hfn := few_some h
  obtain ⟨pre, post, hc, h2, _⟩ := bld_some hn hb
  obtain ⟨m1, lp, m2, r, k1, k2, k3, k4, k5⟩ := cands_split _ _ _ _ _ _ hc
  have hrev : (free ls).reverse = ls.reverse.map fun l => ((l, 0) : Int × Int) := by unfold free; rw [List.map_reverse]
  rw [hrev] at k1
  obtain ⟨n1, n2, e1, e2, e3⟩ := List.map_eq_append_iff.1 k1
  obtain ⟨l, n3, e4, e5, e6⟩ := List.map_eq_cons_iff.1 e3
  subst e5
  have hLe : L = l :: r.layers := by
    have := congrArg Bld.layers k5
    exact this
  have hT : shortest ls (n - l.toNat) = some r.layers := by unfold shortest; rw [k4]; rfl
  refine ⟨n1, l, n3, r.layers, by rw [e1, e4], fun x hx => ?_, ?_, hT, hLe⟩
  · cases hld : leads ls n x with
    | false => rfl
    | true =>
      exfalso
      obtain ⟨q1, q2, q3⟩ := leads_iff.1 hld
      cases hs : shortest ls (n - x.toNat) with
      | none => have := few_neg.2 hs; omega
      | some X =>
        have hbx := shortest_bld hs
        have hin : (⟨0 + 0, x :: X⟩ : Bld) ∈ pre := by
          rw [← k2]
          exact mem_cands.2 ⟨(x, 0), by rw [← e2]; exact List.mem_map.2 ⟨x, hx, rfl⟩, q1, _, hbx, rfl⟩
        have hless := h2 _ hin
        have hf := few_some hs
        unfold lessB at hless
        simp only [List.length_cons] at hless
        omega
  · rw [leads_iff]
    have hf := few_some hT
    refine ⟨k3, by rw [hf]; omega, ?_⟩
    rw [hf, hfn, hLe, List.length_cons]
    simp
/-- The reference's way of laying layers, a round for each layer. -/
def layOn (ls : List Int) : Nat → Nat → List Int
  | 0, _ => []
  | k + 1, n => if n = 0 then [] else match ls.reverse.find? (leads ls n) with
    | none => []
    | some l => l :: layOn ls k (n - l.toNat)
theorem layOn_shortest (ls : List Int) : ∀ (k n : Nat) (L : List Int), n ≤ k → shortest ls n = some L → layOn ls k n = L
  | 0, n, L, h, hs => by
    obtain rfl : n = 0 := by omega
    have : shortest ls 0 = some [] := rfl
    rw [this] at hs
    obtain rfl := Option.some.inj hs
    rfl
  | k + 1, n, L, h, hs => by
    unfold layOn
    by_cases hn : n = 0
    · subst hn
      have : shortest ls 0 = some [] := rfl
      rw [this] at hs
      obtain rfl := Option.some.inj hs
      rw [if_pos rfl]
    · rw [if_neg hn]
      obtain ⟨m1, l, m2, T, e1, e2, e3, e4, rfl⟩ := shortest_lead (by omega) hs
      have hf : ls.reverse.find? (leads ls n) = some l := by
        rw [e1, List.find?_append, List.find?_cons_of_pos e3, List.find?_eq_none.2 (fun x hx => by rw [e2 x hx]; simp)]
        rfl
      rw [hf]
      have hl := (leads_iff.1 e3).1
      simp only
      rw [layOn_shortest ls k _ T (by omega) e4]
/-- How two lists of numbers are held against each other. -/
def cmpL : List Int → List Int → Int
  | [], [] => 0
  | [], _ :: _ => -1
  | _ :: _, [] => 1
  | a :: as, b :: bs => if a < b then -1 else if b < a then 1 else cmpL as bs
/-- Is a list greater than another one that is as long? -/
def greaterL : List Int → List Int → Bool
  | a :: as, b :: bs => if a = b then greaterL as bs else decide (b < a)
  | _, _ => false
theorem greaterL_iff : ∀ (a b : List Int), a.length = b.length → (greaterL a b = true ↔ 0 < cmpL a b)
  | [], [], _ => by simp [greaterL, cmpL]
  | [], _ :: _, h => by simp at h
  | _ :: _, [], h => by simp at h
  | x :: as, y :: bs, h => by
    unfold greaterL cmpL
    by_cases h1 : x = y
    · subst h1
      rw [if_pos rfl, if_neg (Int.lt_irrefl _), if_neg (Int.lt_irrefl _)]
      exact greaterL_iff as bs (by simpa using h)
    · rw [if_neg h1]
      by_cases h2 : x < y
      · rw [if_pos h2]
        simp only [decide_eq_true_eq]
        omega
      · rw [if_neg h2, if_pos (show y < x by omega)]
        simp only [decide_eq_true_eq]
        omega
/-- The first of the shortest builds so far, when one more sum is looked at. -/
def withinStep (ls : List Int) (best : Option (List Int)) (n : Nat) : Option (List Int) :=
  match shortest ls n, best with
  | none, b => b
  | some x, none => some x
  | some x, some y => if decide (x.length < y.length) || (decide (x.length = y.length) && greaterL x y) then some x else some y
/-- The first of the shortest builds with one of k sums from a first one. -/
def withinB (ls : List Int) (low k : Nat) : Option (List Int) := (List.range' low k).foldl (withinStep ls) none
theorem withinB_succ (ls : List Int) (low k : Nat) : withinB ls low (k + 1) = withinStep ls (withinB ls low k) (low + k) := by
  unfold withinB
  rw [List.range'_concat, List.foldl_append, Nat.one_mul]
  rfl
theorem withinStep_is {ls : List Int} {best : Option (List Int)} {n : Nat} {x : List Int} (h : withinStep ls best n = some x) : best = some x ∨ shortest ls n = some x := by
  unfold withinStep at h
  cases hs : shortest ls n with
  | none => rw [hs] at h; exact Or.inl h
  | some s =>
    rw [hs] at h
    cases best with
    | none => exact Or.inr h
    | some y =>
      simp only at h
      split at h
      · exact Or.inr h
      · exact Or.inl h
/-- What is found is the shortest build with one of the sums. -/
theorem withinB_is {ls : List Int} {low : Nat} : ∀ {k : Nat} {x : List Int}, withinB ls low k = some x → ∃ n, low ≤ n ∧ n < low + k ∧ shortest ls n = some x
  | 0, x, h => by simp [withinB] at h
  | k + 1, x, h => by
    rw [withinB_succ] at h
    rcases withinStep_is h with h | h
    · obtain ⟨n, h1, h2, h3⟩ := withinB_is h
      exact ⟨n, h1, by omega, h3⟩
    · exact ⟨low + k, by omega, by omega, h⟩
theorem isBld_length {ls : List (Int × Int)} {n : Nat} {x : Bld} (h : IsBld ls n x) : x.layers.length ≤ n := by
  induction h with
  | none => simp
  | more _ _ h1 ih => simp only [List.length_cons]; omega
theorem shortest_length {ls : List Int} {n : Nat} {x : List Int} (h : shortest ls n = some x) : x.length ≤ n := isBld_length (bld_is _ _ _ (shortest_bld h))
/-- The prices of the best builds lie low. -/
theorem isBld_price {ls : List (Int × Int)} {M : Int} (hM : 0 ≤ M) (hp : ∀ lp ∈ ls, 0 ≤ lp.2 ∧ lp.2 ≤ M) {n : Nat} {x : Bld} (h : IsBld ls n x) : 0 ≤ x.price ∧ x.price ≤ n * M := by
  induction h with
  | none => simp
  | @more n r lp _ hm h1 ih =>
    have k1 := hp lp hm
    have k2 : (n : Int) * M + M ≤ ((n + lp.1.toNat : Nat) : Int) * M := by
      have : ((n + 1 : Nat) : Int) * M ≤ ((n + lp.1.toNat : Nat) : Int) * M := Int.mul_le_mul_of_nonneg_right (by omega) hM
      have e : ((n + 1 : Nat) : Int) * M = n * M + M := by rw [Int.natCast_add, Int.add_mul]; simp
      omega
    simp only
    omega
end Go.Proofs.Ytokoallbhbgkkaa
