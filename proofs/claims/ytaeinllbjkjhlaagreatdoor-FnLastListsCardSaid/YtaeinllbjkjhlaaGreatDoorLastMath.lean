/- Chapter 4, names in order: where a name stands among lasts, and a last laid in (plain). -/
import Derived.Test.YtaeinllbjkjhlaaGreatDoorLastsV
namespace Go.Proofs.YtaeinllbjkjhlaaGreatDoor
open Go.RowKit

theorem less_eq : ∀ (x y : List UInt8), Op.bytesLess x y = decide (x < y)
  | [], [] => by simp [Op.bytesLess]
  | _ :: _, [] => by simp [Op.bytesLess]
  | [], _ :: _ => by simp [Op.bytesLess]
  | a :: x, b :: y => by
    rw [Op.bytesLess, less_eq x y]
    simp only [List.cons_lt_cons_iff]
    by_cases h1 : a < b <;> by_cases h2 : a = b <;> by_cases h3 : x < y <;> simp [h1, h2, h3]
theorem nlt_iff {a b : ByteArray} : nameLt a b = true ↔ a.toList < b.toList := by unfold nameLt; rw [less_eq]; simp
theorem nlt_irrefl (a : ByteArray) : nameLt a a = false := by
  cases h : nameLt a a
  · rfl
  · exact absurd (nlt_iff.1 h) (List.lt_irrefl _)
theorem nlt_trans {a b c : ByteArray} (h1 : nameLt a b = true) (h2 : nameLt b c = true) : nameLt a c = true := nlt_iff.2 (List.lt_trans (nlt_iff.1 h1) (nlt_iff.1 h2))
theorem nlt_eq {a b : ByteArray} (h1 : nameLt a b = false) (h2 : nameLt b a = false) : a.toList = b.toList := by
  have g1 : ¬ a.toList < b.toList := fun h => by rw [nlt_iff.2 h] at h1; cases h1
  have g2 : ¬ b.toList < a.toList := fun h => by rw [nlt_iff.2 h] at h2; cases h2
  exact List.le_antisymm (List.not_lt.1 g2) (List.not_lt.1 g1)
theorem nlt_congr {a b c : ByteArray} (h : a.toList = b.toList) : nameLt a c = nameLt b c ∧ nameLt c a = nameLt c b := by unfold nameLt; rw [h]; exact ⟨rfl, rfl⟩
/-- How two names are held against each other. -/
def cmpS (a b : ByteArray) : Int := if nameLt a b then -1 else if nameLt b a then 1 else 0
theorem cmpS_neg (a b : ByteArray) : decide (cmpS a b < 0) = nameLt a b := by
  unfold cmpS
  cases h : nameLt a b
  · cases h2 : nameLt b a <;> simp
  · simp
theorem cmpS_zero (a b : ByteArray) : (cmpS a b == 0) = (a.toList == b.toList) := by
  unfold cmpS
  cases h : nameLt a b
  · cases h2 : nameLt b a
    · have := nlt_eq h h2
      simp [this]
    · have : ¬ a.toList = b.toList := fun e => by
        have := (nlt_congr (c := a) e).1
        rw [nlt_irrefl, h2] at this
        cases this
      simp [this]
  · have : ¬ a.toList = b.toList := fun e => by
        have := (nlt_congr (c := b) e).1
        rw [nlt_irrefl, h] at this
        cases this
    simp [this]
theorem up_all {xs : List Last} (h : OkLasts xs) {i : Nat} : ∀ {j : Nat} (hij : i < j) (hj : j < xs.length), nameLt (xs[i]'(Nat.lt_trans hij hj)).Name xs[j].Name = true
  | 0, hij, _ => absurd hij (Nat.not_lt_zero _)
  | j + 1, hij, hj => by
    by_cases e : i = j
    · subst e; exact h.up i hj
    · exact nlt_trans (up_all h (by omega : i < j) (by omega)) (h.up j hj)
/-- Where a name stands, or would stand. -/
structure PlaceOf (xs : List Last) (nm : ByteArray) (i : Nat) : Prop where
  le : i ≤ xs.length
  lo : ∀ t, t < i → ∀ (h : t < xs.length), nameLt xs[t].Name nm = true
  hi : ∀ t, i ≤ t → ∀ (h : t < xs.length), nameLt xs[t].Name nm = false
def nmEq (nm : ByteArray) (x : Last) : Bool := x.Name.toList == nm.toList
def hasNm (xs : List Last) (nm : ByteArray) : Bool := xs.any (nmEq nm)
theorem place_no {xs : List Last} {nm : ByteArray} {i : Nat} (h : OkLasts xs) (P : PlaceOf xs nm i) (hn : ∀ (hi : i < xs.length), nmEq nm xs[i] = false) : hasNm xs nm = false := by
  cases hh : hasNm xs nm
  · rfl
  · obtain ⟨x, hx, he⟩ := List.any_eq_true.1 hh
    obtain ⟨t, ht, rfl⟩ := List.getElem_of_mem hx
    have he' : xs[t].Name.toList = nm.toList := by simpa [nmEq] using he
    have h1 : i ≤ t := by
      apply Classical.byContradiction
      intro hc
      have := P.lo t (by omega) ht
      rw [(nlt_congr he').1, nlt_irrefl] at this
      cases this
    by_cases e : i = t
    · subst e; rw [hn ht] at he; cases he
    · have h2 := up_all h (show i < t by omega) ht
      have h3 := P.hi i (Nat.le_refl _) (by omega)
      rw [(nlt_congr he').2, h3] at h2
      cases h2
theorem place_yes {xs : List Last} {nm : ByteArray} {i : Nat} (hi : i < xs.length) (he : nmEq nm xs[i] = true) : hasNm xs nm = true := List.any_eq_true.2 ⟨_, List.getElem_mem hi, he⟩
theorem place_at {xs : List Last} {i k : Nat} (h : OkLasts xs) (hk : k < xs.length) (P : PlaceOf xs xs[k].Name i) : i = k := by
  have h1 : i ≤ k := by
    apply Classical.byContradiction
    intro hc
    have := P.lo k (by omega) hk
    rw [nlt_irrefl] at this
    cases this
  apply Classical.byContradiction
  intro hc
  have h2 := up_all h (show i < k by omega) hk
  have h3 := P.hi i (Nat.le_refl _) (by omega)
  rw [h3] at h2
  cases h2
/-- A last is laid in. -/
def insL (xs : List Last) (i : Nat) (x : Last) : List Last := xs.take i ++ x :: xs.drop i
theorem insL_len {xs : List Last} {i : Nat} {x : Last} (hi : i ≤ xs.length) : (insL xs i x).length = xs.length + 1 := by simp [insL]; omega
theorem insL_lo {xs : List Last} {i t : Nat} {x : Last} (hi : i ≤ xs.length) (ht : t < i) : (insL xs i x)[t]? = xs[t]? := by
  unfold insL
  rw [List.getElem?_append_left (by simp; omega), List.getElem?_take, if_pos ht]
theorem insL_at {xs : List Last} {i : Nat} {x : Last} (hi : i ≤ xs.length) : (insL xs i x)[i]? = some x := by
  unfold insL
  rw [List.getElem?_append_right (by simp; omega), List.length_take, Nat.min_eq_left hi, Nat.sub_self]
  rfl
theorem insL_hi {xs : List Last} {i t : Nat} {x : Last} (hi : i ≤ xs.length) (ht : i ≤ t) : (insL xs i x)[t + 1]? = xs[t]? := by
  unfold insL
  rw [List.getElem?_append_right (by simp; omega), List.length_take, Nat.min_eq_left hi, show t + 1 - i = (t - i) + 1 by omega, List.getElem?_cons_succ, List.getElem?_drop]
  congr 1
  omega
theorem insL_mem {xs : List Last} {i : Nat} {x y : Last} (h : y ∈ insL xs i x) : y = x ∨ y ∈ xs := by
  unfold insL at h
  rcases List.mem_append.1 h with h | h
  · exact .inr (List.mem_of_mem_take h)
  · rcases List.mem_cons.1 h with h | h
    · exact .inl h
    · exact .inr (List.mem_of_mem_drop h)
theorem insL_of {xs : List Last} {i k : Nat} {x : Last} (hi : i ≤ xs.length) (hk : k < xs.length) : ∃ j, ∃ (hj : j < (insL xs i x).length), (insL xs i x)[j] = xs[k] := by
  by_cases h : k < i
  · refine ⟨k, by rw [insL_len hi]; omega, ?_⟩
    have := insL_lo (x := x) hi h
    rw [List.getElem?_eq_getElem hk, List.getElem?_eq_getElem (by rw [insL_len hi]; omega)] at this
    exact Option.some.inj this
  · refine ⟨k + 1, by rw [insL_len hi]; omega, ?_⟩
    have := insL_hi (x := x) hi (show i ≤ k by omega)
    rw [List.getElem?_eq_getElem hk, List.getElem?_eq_getElem (by rw [insL_len hi]; omega)] at this
    exact Option.some.inj this
theorem ins_ok {xs : List Last} {i : Nat} {x : Last} (h : OkLasts xs) (P : PlaceOf xs x.Name i) (hn : hasNm xs x.Name = false) (hx : okLast x = true) (hs : x.Name.size ≤ 9223372036854775807) (hl : xs.length < 30) : OkLasts (insL xs i x) := by
  have hi := P.le
  have hlen := insL_len (x := x) hi
  refine ⟨fun y hy => ?_, fun y hy => ?_, fun t ht => ?_, by omega⟩
  · rcases insL_mem hy with rfl | hy
    · exact hx
    · exact h.ok y hy
  · rcases insL_mem hy with rfl | hy
    · exact hs
    · exact h.size y hy
  · have at_ : ∀ (t : Nat) (z : Last) (ht : t < (insL xs i x).length), (insL xs i x)[t]? = some z → (insL xs i x)[t] = z := fun t z ht e => by
      rw [List.getElem?_eq_getElem ht] at e; exact Option.some.inj e
    by_cases h1 : t + 1 < i
    · rw [at_ t _ (by omega) ((insL_lo hi (by omega)).trans (List.getElem?_eq_getElem (show t < xs.length by omega))), at_ (t + 1) _ ht ((insL_lo hi h1).trans (List.getElem?_eq_getElem (show t + 1 < xs.length by omega)))]
      exact h.up t (by omega)
    · by_cases h2 : t + 1 = i
      · rw [at_ t _ (by omega) ((insL_lo hi (by omega)).trans (List.getElem?_eq_getElem (show t < xs.length by omega))), at_ (t + 1) _ ht (by rw [h2]; exact insL_at hi)]
        exact P.lo t (by omega) (by omega)
      · by_cases h3 : t = i
        · subst h3
          rw [at_ t _ (by omega) (insL_at hi), at_ (t + 1) _ ht ((insL_hi hi (Nat.le_refl _)).trans (List.getElem?_eq_getElem (show t < xs.length by omega)))]
          have e1 := P.hi t (Nat.le_refl _) (by omega)
          cases e2 : nameLt x.Name (xs[t]'(by omega)).Name
          · have e3 := nlt_eq e1 e2
            have := place_yes (xs := xs) (nm := x.Name) (i := t) (by omega) (by unfold nmEq; rw [e3]; simp)
            rw [hn] at this; cases this
          · rfl
        · obtain ⟨s, rfl⟩ : ∃ s, t = s + 1 := ⟨t - 1, by omega⟩
          rw [at_ (s + 1) _ (by omega) ((insL_hi hi (by omega)).trans (List.getElem?_eq_getElem (show s < xs.length by omega))), at_ (s + 1 + 1) _ ht ((insL_hi hi (by omega)).trans (List.getElem?_eq_getElem (show s + 1 < xs.length by omega)))]
          exact h.up s (by omega)
end Go.Proofs.YtaeinllbjkjhlaaGreatDoor
