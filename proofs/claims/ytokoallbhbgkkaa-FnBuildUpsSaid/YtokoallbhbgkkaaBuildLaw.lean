/- Builds of layers: what holds of the shortest builds and of those of a range, in plain words. -/
import Derived.Test.YtokoallbhbgkkaaBuildMath
import Derived.Test.YtokoallbhbgkkaaNum
namespace Go.Proofs.Ytokoallbhbgkkaa
open Go.RowKit

theorem isBld_sum {ls : List (Int × Int)} {n : Nat} {b : Bld} (h : IsBld ls n b) : sumI b.layers = n := by
  induction h with
  | none => rfl
  | more _ _ h1 ih => rw [sumI_cons, ih]; omega
theorem isBld_mem {ls : List (Int × Int)} {n : Nat} {b : Bld} (h : IsBld ls n b) : ∀ x ∈ b.layers, ∃ lp ∈ ls, lp.1 = x ∧ 1 ≤ x := by
  induction h with
  | none => intro x hx; simp at hx
  | more _ hm h1 ih =>
    intro x hx
    rcases List.mem_cons.1 hx with rfl | hx
    · exact ⟨_, hm, rfl, h1⟩
    · exact ih x hx
theorem shortest_is {ls : List Int} {n : Nat} {L : List Int} (h : shortest ls n = some L) : IsBld (free ls) n ⟨0, L⟩ := bld_is _ _ _ (shortest_bld h)
theorem shortest_sum {ls : List Int} {n : Nat} {L : List Int} (h : shortest ls n = some L) : sumI L = n := isBld_sum (shortest_is h)
theorem shortest_mem {ls : List Int} {n : Nat} {L : List Int} (h : shortest ls n = some L) : ∀ x ∈ L, x ∈ ls := by
  intro x hx
  obtain ⟨lp, hm, rfl, _⟩ := isBld_mem (shortest_is h) x hx
  obtain ⟨l, hl, rfl⟩ := List.mem_map.1 hm
  exact hl
/-- Layers taken from the list are a build of their sum. -/
theorem free_isBld {ls : List Int} (hpos : ∀ l ∈ ls, 1 ≤ l) : ∀ (D : List Int), (∀ x ∈ D, x ∈ ls) → IsBld (free ls) (sumI D).toNat ⟨0, D⟩ ∧ 0 ≤ sumI D
  | [], _ => ⟨IsBld.none, by rw [sumI_nil]; omega⟩
  | x :: D, h => by
    obtain ⟨h1, h2⟩ := free_isBld hpos D fun y hy => h y (List.mem_cons_of_mem _ hy)
    have hx := h x (List.mem_cons_self ..)
    have hp := hpos x hx
    have := IsBld.more (lp := (x, 0)) h1 (List.mem_map.2 ⟨x, hx, rfl⟩) hp
    rw [sumI_cons]
    refine ⟨?_, by omega⟩
    rw [show (x + sumI D).toNat = (sumI D).toNat + x.toNat by omega]
    simpa using this
theorem shortest_least {ls : List Int} {n : Nat} {D : List Int} (h : IsBld (free ls) n ⟨0, D⟩) : ∃ L, shortest ls n = some L ∧ L.length ≤ D.length := by
  obtain ⟨b, hb, hl⟩ := bld_least _ h
  have hp := free_price ls (bld_is _ _ _ hb)
  refine ⟨b.layers, by unfold shortest; rw [hb]; rfl, ?_⟩
  unfold lessB at hl
  simp only at hl
  omega
theorem shortest_some_iff {ls : List Int} {n : Nat} : (∃ L, shortest ls n = some L) ↔ ∃ D, IsBld (free ls) n ⟨0, D⟩ := by
  constructor
  · rintro ⟨L, h⟩; exact ⟨L, shortest_is h⟩
  · rintro ⟨D, h⟩; obtain ⟨L, hL, _⟩ := shortest_least h; exact ⟨L, hL⟩
/-- The layers rise. -/
def RisesL (ls : List Int) : Prop := ∀ i j (_ : i < j) (hj : j < ls.length), ls[i]'(by omega) < ls[j]
theorem rises_reverse {ls : List Int} (h : RisesL ls) {m1 m2 : List Int} {l x : Int} (he : ls.reverse = m1 ++ l :: m2) (hx : x ∈ ls) (hlt : l < x) : x ∈ m1 := by
  have hx' : x ∈ m1 ++ l :: m2 := by rw [← he]; exact List.mem_reverse.2 hx
  rcases List.mem_append.1 hx' with h1 | h1
  · exact h1
  · rcases List.mem_cons.1 h1 with rfl | h1
    · omega
    · exfalso
      have he2 : ls = m2.reverse ++ l :: m1.reverse := by
        have := congrArg List.reverse he
        simpa using this
      obtain ⟨i, hi, rfl⟩ := List.mem_iff_getElem.1 (List.mem_reverse.2 h1)
      have hj : m2.reverse.length < ls.length := by rw [he2]; simp
      have hr := h i m2.reverse.length hi hj
      have e1 : ls[i]'(by omega) = m2.reverse[i] := by
        have : ls[i]? = some m2.reverse[i] := by rw [he2, List.getElem?_append_left hi]; exact List.getElem?_eq_getElem hi
        exact Option.some.inj ((List.getElem?_eq_getElem (by omega)).symm.trans this)
      have e2 : ls[m2.reverse.length]'hj = l := by
        have : ls[m2.reverse.length]? = some l := by
          conv => lhs; rw [he2]
          rw [List.getElem?_append_right (Nat.le_refl _)]; simp
        exact Option.some.inj ((List.getElem?_eq_getElem hj).symm.trans this)
      rw [e1, e2] at hr
      omega
/-- The greater layers come first. -/
theorem shortest_desc {ls : List Int} (hr : RisesL ls) : ∀ (L : List Int) (n : Nat), shortest ls n = some L → ∀ i, (h : i + 1 < L.length) → L[i + 1] ≤ L[i]
  | [], n, _, i, h => by simp at h
  | l :: T, n, hs, i, h => by
    have hn : 0 < n := by
      have h1 := shortest_sum hs
      obtain ⟨lp, _, e, h2⟩ := isBld_mem (shortest_is hs) l (List.mem_cons_self ..)
      have := shortest_length hs
      rw [List.length_cons] at this
      omega
    obtain ⟨m1, l', m2, T', h1, h2, h3, h4, h5⟩ := shortest_lead hn hs
    simp only [List.cons.injEq] at h5
    obtain ⟨rfl, rfl⟩ := h5
    cases i with
    | succ i =>
      have := shortest_desc hr T _ h4 i (by simpa using h)
      simpa using this
    | zero =>
      have ht : 0 < T.length := by simpa using h
      show T[0] ≤ l
      apply Int.not_lt.1
      intro hlt
      obtain ⟨y, U, rfl⟩ : ∃ y U, T = y :: U := by
        cases T with
        | nil => simp at ht
        | cons y U => exact ⟨y, U, rfl⟩
      simp only [List.getElem_cons_zero] at hlt
      have hy : y ∈ ls := shortest_mem hs y (by simp)
      have hym := rises_reverse hr h1 hy hlt
      have hno := h2 y hym
      have hl := leads_iff.1 h3
      have hUB : IsBld (free ls) (n - l.toNat) ⟨0, y :: U⟩ := shortest_is h4
      obtain ⟨k, hk, hU⟩ : ∃ k : Nat, (k : Int) + y = (n - l.toNat : Nat) ∧ IsBld (free ls) k ⟨0, U⟩ := by
        generalize hq : n - l.toNat = q at hUB
        generalize hb : (⟨0, y :: U⟩ : Bld) = b at hUB
        cases hUB with
        | none => simp at hb
        | @more k r lp hr' hm h1' =>
          simp only [Bld.mk.injEq, List.cons.injEq] at hb
          obtain ⟨e0, rfl, rfl⟩ := hb
          have hp := free_price ls hr'
          have hr'' : IsBld (free ls) k ⟨0, r.layers⟩ := by
            have : r = ⟨0, r.layers⟩ := by cases r; simp only at hp; subst hp; rfl
            rw [← this]; exact hr'
          exact ⟨k, by omega, hr''⟩
      obtain ⟨_, _, ey, hy1⟩ := isBld_mem (shortest_is h4) y (by simp)
      have hlm : ((l, (0 : Int)) : Int × Int) ∈ free ls := List.mem_map.2 ⟨l, shortest_mem hs l (by simp), rfl⟩
      have hlU := IsBld.more (lp := (l, 0)) hU hlm hl.1.1
      simp only [Int.add_zero] at hlU
      obtain ⟨V, hV, hVl⟩ := shortest_least hlU
      have e : k + l.toNat = n - y.toNat := by omega
      rw [e] at hV
      have hfV := few_some hV
      have hfn := few_some hs
      have hub : IsBld (free ls) n ⟨0, y :: V⟩ := by
        have := IsBld.more (lp := (y, 0)) (shortest_is hV) (List.mem_map.2 ⟨y, hy, rfl⟩) hy1
        simp only [Int.add_zero] at this
        rwa [show n - y.toNat + y.toNat = n by omega] at this
      obtain ⟨W, hW, hWl⟩ := shortest_least hub
      rw [hs] at hW
      obtain rfl := Option.some.inj hW
      simp only [List.length_cons] at hVl hWl hfn
      have : leads ls n y = true := by
        rw [leads_iff]
        refine ⟨by omega, by rw [hfV]; omega, ?_⟩
        rw [hfV, hfn]
        simp only [Int.natCast_add]
        omega
      rw [hno] at this
      cases this
/-- Of a range: none, just if no sum has a build; else it is not longer than any. -/
theorem withinStep_none {ls : List Int} {best : Option (List Int)} {n : Nat} : withinStep ls best n = none ↔ best = none ∧ shortest ls n = none := by
  unfold withinStep
  cases shortest ls n with
  | none => simp
  | some x => cases best with
    | none => simp
    | some y => simp only; split <;> simp
theorem withinB_none {ls : List Int} {low : Nat} : ∀ k, withinB ls low k = none ↔ ∀ n, low ≤ n → n < low + k → shortest ls n = none
  | 0 => by simp [withinB]; intros; omega
  | k + 1 => by
    rw [withinB_succ, withinStep_none, withinB_none k]
    constructor
    · rintro ⟨h1, h2⟩ n h3 h4
      by_cases h : n = low + k
      · subst h; exact h2
      · exact h1 n h3 (by omega)
    · intro h
      exact ⟨fun n h1 h2 => h n h1 (by omega), h _ (by omega) (by omega)⟩
theorem withinStep_le {ls : List Int} {best : Option (List Int)} {n : Nat} {x : List Int} (h : withinStep ls best n = some x) : (∀ y, best = some y → x.length ≤ y.length) ∧ ∀ y, shortest ls n = some y → x.length ≤ y.length := by
  unfold withinStep at h
  cases hs : shortest ls n with
  | none =>
    rw [hs] at h
    simp only at h
    exact ⟨fun y hy => by rw [h] at hy; obtain rfl := Option.some.inj hy; exact Nat.le_refl _, fun y hy => by cases hy⟩
  | some s =>
    rw [hs] at h
    cases best with
    | none =>
      obtain rfl := Option.some.inj h
      exact ⟨fun y hy => (by cases hy), fun y hy => by obtain rfl := Option.some.inj hy; exact Nat.le_refl _⟩
    | some z =>
      simp only at h
      split at h
      · rename_i hc
        obtain rfl := Option.some.inj h
        simp only [Bool.or_eq_true, decide_eq_true_eq, Bool.and_eq_true] at hc
        exact ⟨fun y hy => by obtain rfl := Option.some.inj hy; omega, fun y hy => by obtain rfl := Option.some.inj hy; exact Nat.le_refl _⟩
      · rename_i hc
        obtain rfl := Option.some.inj h
        simp only [Bool.or_eq_true, decide_eq_true_eq, Bool.and_eq_true] at hc
        exact ⟨fun y hy => by obtain rfl := Option.some.inj hy; exact Nat.le_refl _, fun y hy => by obtain rfl := Option.some.inj hy; omega⟩
theorem withinB_le {ls : List Int} {low : Nat} : ∀ {k : Nat} {x : List Int}, withinB ls low k = some x → ∀ n y, low ≤ n → n < low + k → shortest ls n = some y → x.length ≤ y.length
  | 0, x, h => by simp [withinB] at h
  | k + 1, x, h => by
    intro n y h1 h2 hy
    rw [withinB_succ] at h
    obtain ⟨h3, h4⟩ := withinStep_le h
    by_cases hn : n = low + k
    · subst hn; exact h4 y hy
    · cases hw : withinB ls low k with
      | none => have := (withinB_none k).1 hw n h1 (by omega); rw [this] at hy; cases hy
      | some z =>
        have := withinB_le hw n y h1 (by omega) hy
        have := h3 z hw
        omega
end Go.Proofs.Ytokoallbhbgkkaa
