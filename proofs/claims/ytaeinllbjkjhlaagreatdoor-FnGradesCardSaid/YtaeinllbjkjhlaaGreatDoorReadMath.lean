/- Numbers read back from their decimal texts, and texts cut at a byte: plain words, no program. -/
import Derived.Test.YtaeinllbjkjhlaaGreatDoorBase
import Derived.Lib.ItoaLen
import Derived.Lib.ParseIntBTie
import Derived.Lib.Split
import Derived.Lib.Join
namespace Go.Proofs.YtaeinllbjkjhlaaGreatDoor
open Go.RowKit

/-- A byte that is a digit. -/
def dig (c : UInt8) : Bool := 48 ≤ c.toNat && c.toNat ≤ 57
/-- What digits spell. -/
def valD (acc : Nat) : List UInt8 → Nat
  | [] => acc
  | c :: r => valD (10 * acc + (c.toNat - 48)) r
theorem valD_one (acc : Nat) (c : UInt8) : valD acc [c] = 10 * acc + (c.toNat - 48) := rfl
theorem valD_append (acc : Nat) (a b : List UInt8) : valD acc (a ++ b) = valD (valD acc a) b := by
  induction a generalizing acc with
  | nil => rfl
  | cons c a ih => exact ih _
theorem decDigits_big' {u : Nat} (h : ¬ u < 10) : Lib.decDigits u = Lib.decDigits (u / 10) ++ [UInt8.ofNat (48 + u % 10)] := by rw [Lib.decDigits, dif_neg h]
theorem dig_of (m : Nat) (h : m < 10) : (UInt8.ofNat (48 + m)).toNat = 48 + m := by simp only [UInt8.toNat_ofNat']; omega
theorem valD_decDigits : ∀ u : Nat, valD 0 (Lib.decDigits u) = u := by
  intro u
  induction u using Nat.strongRecOn with
  | ind u ih =>
    by_cases h : u < 10
    · rw [Lib.decDigits_one h, valD_one, dig_of u h]; omega
    · have e := decDigits_big' h
      have e2 := ih (u / 10) (by omega)
      rw [e, valD_append, e2, valD_one, dig_of _ (by omega)]; omega
theorem decDigits_dig : ∀ u : Nat, (Lib.decDigits u).all dig = true := by
  intro u
  induction u using Nat.strongRecOn with
  | ind u ih =>
    by_cases h : u < 10
    · rw [Lib.decDigits_one h]
      simp only [List.all_cons, List.all_nil, Bool.and_true, dig]
      rw [dig_of u h]; simp; omega
    · have e := decDigits_big' h
      have e2 := ih (u / 10) (by omega)
      rw [e, List.all_append, e2]
      simp only [List.all_cons, List.all_nil, Bool.and_true, Bool.true_and, dig]
      rw [dig_of _ (by omega)]; simp; omega
theorem decDigits_pos (u : Nat) : 0 < (Lib.decDigits u).length := by rw [Lib.decDigits_length]; exact Lib.nDigits_pos u
theorem nDigits_le_of : ∀ (k u : Nat), u < 10 ^ (k + 1) → Lib.nDigits u ≤ k + 1 := by
  intro k
  induction k with
  | zero => intro u h; rw [Lib.nDigits_small (by simpa using h)]; omega
  | succ k ih =>
    intro u h
    by_cases h1 : u < 10
    · rw [Lib.nDigits_small h1]; omega
    · rw [Lib.nDigits_big h1]
      have := ih (u / 10) (by rw [Nat.div_lt_iff_lt_mul (by omega)]; rw [Nat.pow_succ] at h; exact h)
      omega
theorem lt_of_nDigits : ∀ (k u : Nat), Lib.nDigits u ≤ k → u < 10 ^ k := by
  intro k
  induction k with
  | zero => intro u h; have := Lib.nDigits_pos u; omega
  | succ k ih =>
    intro u h
    by_cases h1 : u < 10
    · have : 0 < 10 ^ k := Nat.pow_pos (by omega)
      rw [Nat.pow_succ]; omega
    · rw [Lib.nDigits_big h1] at h
      have := ih (u / 10) (by omega)
      rw [Nat.pow_succ]; omega
theorem dig_ne45 {c : UInt8} (h : dig c = true) : c ≠ 45 := by
  intro e; subst e; simp [dig] at h
theorem decDigits_head (u : Nat) : ∃ c r, Lib.decDigits u = c :: r ∧ c ≠ 45 ∧ c ≠ 43 := by
  have h := decDigits_dig u
  match hd : Lib.decDigits u with
  | [] => have := decDigits_pos u; rw [hd] at this; simp at this
  | c :: r =>
    rw [hd] at h
    simp only [List.all_cons, Bool.and_eq_true] at h
    refine ⟨c, r, rfl, dig_ne45 h.1, ?_⟩
    intro e; subst e; simp [dig] at h
theorem itoa_cases (n : Int) : (n < 0 ∧ Lib.itoa n = 45 :: Lib.decDigits n.natAbs) ∨ (0 ≤ n ∧ Lib.itoa n = Lib.decDigits n.natAbs) := by
  by_cases h : n < 0
  · exact Or.inl ⟨h, by unfold Lib.itoa; rw [if_pos h]⟩
  · exact Or.inr ⟨by omega, by unfold Lib.itoa; rw [if_neg h, show n.toNat = n.natAbs by omega]⟩
theorem itoa_inj {a b : Int} (h : Lib.itoa a = Lib.itoa b) : a = b := by
  rcases itoa_cases a with ⟨ha, ea⟩ | ⟨ha, ea⟩ <;> rcases itoa_cases b with ⟨hb, eb⟩ | ⟨hb, eb⟩ <;> rw [ea, eb] at h
  · have h2 : valD 0 (Lib.decDigits a.natAbs) = valD 0 (Lib.decDigits b.natAbs) := by rw [(List.cons.inj h).2]
    rw [valD_decDigits, valD_decDigits] at h2; omega
  · obtain ⟨c, r, e, hc, _⟩ := decDigits_head b.natAbs
    rw [e] at h; exact absurd (List.cons.inj h).1.symm hc
  · obtain ⟨c, r, e, hc, _⟩ := decDigits_head a.natAbs
    rw [e] at h; exact absurd (List.cons.inj h).1 hc
  · have h2 : valD 0 (Lib.decDigits a.natAbs) = valD 0 (Lib.decDigits b.natAbs) := by rw [h]
    rw [valD_decDigits, valD_decDigits] at h2; omega
/-- The bytes of a decimal: digits, and a minus ahead. -/
theorem itoa_mem {n : Int} {c : UInt8} (h : c ∈ Lib.itoa n) : dig c = true ∨ c = 45 := by
  have hd := decDigits_dig n.natAbs
  rw [List.all_eq_true] at hd
  rcases itoa_cases n with ⟨_, e⟩ | ⟨_, e⟩ <;> rw [e] at h
  · rcases List.mem_cons.1 h with h | h
    · exact Or.inr h
    · exact Or.inl (hd c h)
  · exact Or.inl (hd c h)
theorem itoa_ne_nil (n : Int) : Lib.itoa n ≠ [] := by
  obtain ⟨c, r, hd, _⟩ := decDigits_head n.natAbs
  rcases itoa_cases n with ⟨_, e⟩ | ⟨_, e⟩ <;> rw [e]
  · simp
  · rw [hd]; simp

/-- The part of a text behind its sign. -/
def unsigned (l : List UInt8) : List UInt8 := if l.head? = some 45 then l.tail else l
/-- What a text spells, if it spells a number. -/
def spelled (l : List UInt8) : Int := if l.head? = some 45 then -(valD 0 (unsigned l) : Int) else valD 0 (unsigned l)
/-- A decimal of at most 18 digits, read back. -/
def readDec (l : List UInt8) : Option Int :=
  if 1 ≤ (unsigned l).length ∧ (unsigned l).length ≤ 18 ∧ (unsigned l).all dig = true ∧ Lib.itoa (spelled l) = l then some (spelled l) else none
theorem readDec_pos {l : List UInt8} (h : 1 ≤ (unsigned l).length ∧ (unsigned l).length ≤ 18 ∧ (unsigned l).all dig = true ∧ Lib.itoa (spelled l) = l) : readDec l = some (spelled l) := by unfold readDec; rw [if_pos h]
theorem readDec_neg {l : List UInt8} (h : ¬ (1 ≤ (unsigned l).length ∧ (unsigned l).length ≤ 18 ∧ (unsigned l).all dig = true ∧ Lib.itoa (spelled l) = l)) : readDec l = none := by unfold readDec; rw [if_neg h]
theorem readDec_cond {l : List UInt8} {n : Int} (h : readDec l = some n) : (1 ≤ (unsigned l).length ∧ (unsigned l).length ≤ 18 ∧ (unsigned l).all dig = true ∧ Lib.itoa (spelled l) = l) ∧ spelled l = n := by
  by_cases hc : 1 ≤ (unsigned l).length ∧ (unsigned l).length ≤ 18 ∧ (unsigned l).all dig = true ∧ Lib.itoa (spelled l) = l
  · rw [readDec_pos hc] at h; exact ⟨hc, Option.some.inj h⟩
  · rw [readDec_neg hc] at h; cases h
theorem unsigned_itoa (n : Int) : unsigned (Lib.itoa n) = Lib.decDigits n.natAbs ∧ ((Lib.itoa n).head? = some 45 ↔ n < 0) := by
  rcases itoa_cases n with ⟨h, e⟩ | ⟨h, e⟩
  · rw [e]; simp [unsigned, h]
  · rw [e]
    obtain ⟨c, r, hd, hc, _⟩ := decDigits_head n.natAbs
    rw [hd]
    have : ¬ n < 0 := by omega
    simp [unsigned, hc, this]
theorem spelled_itoa (n : Int) : spelled (Lib.itoa n) = n := by
  obtain ⟨h1, h2⟩ := unsigned_itoa n
  unfold spelled
  rw [h1, valD_decDigits]
  by_cases hn : n < 0
  · rw [if_pos (h2.2 hn)]; omega
  · rw [if_neg (fun k => hn (h2.1 k))]; omega
theorem readDec_itoa {n : Int} (h : n.natAbs < 10 ^ 18) : readDec (Lib.itoa n) = some n := by
  obtain ⟨h1, h2⟩ := unsigned_itoa n
  have e := spelled_itoa n
  rw [readDec_pos, e]
  rw [e, h1]
  refine ⟨decDigits_pos _, ?_, decDigits_dig _, rfl⟩
  rw [Lib.decDigits_length]
  exact nDigits_le_of 17 _ h
theorem readDec_some {l : List UInt8} {n : Int} (h : readDec l = some n) : Lib.itoa n = l ∧ n.natAbs < 10 ^ 18 := by
  obtain ⟨⟨h1, h2, h3, h4⟩, e⟩ := readDec_cond h
  rw [e] at h4
  refine ⟨h4, ?_⟩
  obtain ⟨k1, _⟩ := unsigned_itoa n
  rw [h4] at k1
  rw [k1, Lib.decDigits_length] at h2
  exact lt_of_nDigits 18 _ h2
theorem readDec_iff {l : List UInt8} {n : Int} : readDec l = some n ↔ Lib.itoa n = l ∧ n.natAbs < 10 ^ 18 :=
  ⟨readDec_some, fun ⟨h1, h2⟩ => h1 ▸ readDec_itoa h2⟩
theorem readDec_range {l : List UInt8} {n : Int} (h : readDec l = some n) : -1000000000000000000 < n ∧ n < 1000000000000000000 := by
  have := (readDec_some h).2; omega
/-- Size and sign alone. -/
theorem readDec_len {l : List UInt8} {n : Int} (h : readDec l = some n) : 1 ≤ (unsigned l).length ∧ (unsigned l).length ≤ 18 ∧ (unsigned l).all dig = true :=
  have h := (readDec_cond h).1
  ⟨h.1, h.2.1, h.2.2.1⟩
theorem readDec_of {l : List UInt8} {n : Int} (h : Lib.itoa n = l) (hl : (unsigned l).length ≤ 18) : readDec l = some n := by
  subst h
  refine readDec_itoa ?_
  rw [(unsigned_itoa n).1, Lib.decDigits_length] at hl
  exact lt_of_nDigits 18 _ hl

/-- strconv.ParseInt reads what was written. -/
theorem parseM_digs (M : Nat) : ∀ (l : List UInt8) (acc : Nat), l.all dig = true → valD acc l ≤ M → M ≤ 18446744073709551615 → Lib.parseUintM M acc l = .ok (valD acc l)
  | [], _, _, _, _ => rfl
  | c :: r, acc, hd, hv, hM => by
    simp only [List.all_cons, Bool.and_eq_true] at hd
    have hc := hd.1
    simp only [dig, Bool.and_eq_true, decide_eq_true_eq] at hc
    have hmono : ∀ (l : List UInt8) (a : Nat), a ≤ valD a l := by
      intro l
      induction l with
      | nil => intro a; exact Nat.le_refl _
      | cons c r ih => intro a; exact Nat.le_trans (by omega) (ih (10 * a + (c.toNat - 48)))
    have h1 : 10 * acc + (c.toNat - 48) ≤ M := Nat.le_trans (hmono r _) hv
    simp only [Lib.parseUintM]
    rw [if_pos hc, if_neg (by omega), if_neg (by omega)]
    rw [show acc * 10 + (c.toNat - 48) = 10 * acc + (c.toNat - 48) by omega]
    exact parseM_digs M r _ hd.2 hv hM
theorem parseU_digs {u : Nat} (h : u < 10 ^ 18) : Lib.parseUintB 64 (Lib.decDigits u) = .ok u := by
  unfold Lib.parseUintB
  rw [if_neg (by have := decDigits_pos u; intro e; rw [e] at this; simp at this)]
  rw [parseM_digs _ _ 0 (decDigits_dig u) (by rw [valD_decDigits]; omega) (by omega), valD_decDigits]
theorem parse_itoa {n : Int} (h : n.natAbs < 10 ^ 18) : Lib.parseIntB 64 (Lib.itoa n) = .ok n := by
  rcases itoa_cases n with ⟨hn, e⟩ | ⟨hn, e⟩
  · rw [e]
    unfold Lib.parseIntB
    simp only []
    rw [if_pos (by decide), parseU_digs h]
    simp only []
    rw [if_neg (by simp), if_neg (by omega), if_pos (by decide)]
    congr 1; omega
  · obtain ⟨c, r, hd, hc, hp⟩ := decDigits_head n.natAbs
    rw [e]
    have hp2 := parseU_digs h
    rw [hd] at hp2 ⊢
    have c45 : ¬ c.toNat = 45 := fun k => hc (UInt8.toNat_inj.1 (by rw [k]; rfl))
    have c43 : ¬ c.toNat = 43 := fun k => hp (UInt8.toNat_inj.1 (by rw [k]; rfl))
    unfold Lib.parseIntB
    simp only []
    rw [if_neg (by omega), hp2]
    simp only []
    rw [if_neg (by omega), if_neg (by omega), if_neg c45]
    congr 1; omega

/-- A text cut at each of a byte. -/
def splitC (c : UInt8) : List UInt8 → List (List UInt8)
  | [] => [[]]
  | b :: l => if b = c then [] :: splitC c l else match splitC c l with
    | [] => [[b]]
    | x :: r => (b :: x) :: r
theorem splitC_ne (c : UInt8) (l : List UInt8) : splitC c l ≠ [] := by
  cases l with
  | nil => simp [splitC]
  | cons b l =>
    unfold splitC
    split
    · simp
    · split <;> simp
theorem splitC_free {c : UInt8} {l : List UInt8} (h : c ∉ l) : splitC c l = [l] := by
  induction l with
  | nil => rfl
  | cons b l ih =>
    have hb : ¬ b = c := fun e => h (by simp [e])
    unfold splitC
    rw [if_neg hb, ih (fun k => h (by simp [k]))]
theorem splitC_cons {c : UInt8} {x : List UInt8} (l : List UInt8) (h : c ∉ x) : splitC c (x ++ c :: l) = x :: splitC c l := by
  induction x with
  | nil => simp [splitC]
  | cons b x ih =>
    have hb : ¬ b = c := fun e => h (by simp [e])
    rw [List.cons_append]
    rw [splitC, if_neg hb, ih (fun k => h (by simp [k]))]
theorem splitC_join {c : UInt8} : ∀ (xs : List (List UInt8)), xs ≠ [] → (∀ x ∈ xs, c ∉ x) → splitC c (Lib.join xs [c]) = xs
  | [], h, _ => absurd rfl h
  | [x], _, h => by rw [Lib.join_one, splitC_free (h x (by simp))]
  | x :: y :: r, _, h => by
    have e : Lib.join (x :: y :: r) [c] = x ++ c :: Lib.join (y :: r) [c] := by
      rw [Lib.join_cons, Lib.join_cons]; simp [Lib.joinTail]
    rw [e, splitC_cons _ (h x (by simp)), splitC_join (y :: r) (by simp) (fun z hz => h z (by simp [hz]))]
theorem join_splitC (c : UInt8) : ∀ l : List UInt8, Lib.join (splitC c l) [c] = l
  | [] => by simp [splitC, Lib.join_one]
  | b :: l => by
    have ih := join_splitC c l
    unfold splitC
    split
    · rename_i e
      match hs : splitC c l with
      | [] => exact absurd hs (splitC_ne c l)
      | x :: r =>
        rw [hs, Lib.join_cons] at ih
        rw [Lib.join_cons, e]
        simp only [Lib.joinTail, List.map_cons, List.flatten_cons, List.nil_append] at ih ⊢
        rw [List.append_assoc, ih]; rfl
    · match hs : splitC c l with
      | [] => exact absurd hs (splitC_ne c l)
      | x :: r =>
        rw [hs, Lib.join_cons] at ih
        simp only []
        rw [Lib.join_cons, List.cons_append, ih]
theorem splitC_no {c : UInt8} : ∀ (l : List UInt8), ∀ x ∈ splitC c l, c ∉ x
  | [], x, hx => by simp [splitC] at hx; subst hx; simp
  | b :: l, x, hx => by
    have ih := splitC_no (c := c) l
    unfold splitC at hx
    split at hx
    · rcases List.mem_cons.1 hx with rfl | hx
      · simp
      · exact ih x hx
    · rename_i hb
      match hs : splitC c l with
      | [] => exact absurd hs (splitC_ne c l)
      | y :: r =>
        rw [hs] at hx
        rcases List.mem_cons.1 hx with rfl | hx
        · intro k
          rcases List.mem_cons.1 k with k | k
          · exact hb k.symm
          · exact ih y (by rw [hs]; simp) k
        · exact ih x (by rw [hs]; simp [hx])
theorem splitC_some {c : UInt8} {l : List UInt8} (h : c ∈ l) : ∃ a b, l = a ++ c :: b ∧ c ∉ a := by
  induction l with
  | nil => simp at h
  | cons x l ih =>
    by_cases hx : x = c
    · exact ⟨[], l, by simp [hx], by simp⟩
    · rcases List.mem_cons.1 h with h | h
      · exact absurd h.symm hx
      · obtain ⟨a, b, e, ha⟩ := ih h
        refine ⟨x :: a, b, by rw [e]; rfl, ?_⟩
        intro k
        rcases List.mem_cons.1 k with k | k
        · exact hx k.symm
        · exact ha k
theorem splitC_length_le (c : UInt8) : ∀ l : List UInt8, (splitC c l).length ≤ l.length + 1
  | [] => by simp [splitC]
  | b :: l => by
    have ih := splitC_length_le c l
    unfold splitC
    split
    · simp only [List.length_cons]; omega
    · match hs : splitC c l with
      | [] => simp
      | x :: r => rw [hs] at ih; simp only [List.length_cons] at ih ⊢; omega
theorem splitC_length (c : UInt8) : ∀ l : List UInt8, (splitC c l).length = l.count c + 1
  | [] => by simp [splitC]
  | b :: l => by
    have ih := splitC_length c l
    unfold splitC
    by_cases hb : b = c
    · rw [if_pos hb, List.length_cons, ih, hb, List.count_cons_self]
    · rw [if_neg hb, List.count_cons_of_ne hb]
      match hs : splitC c l with
      | [] => exact absurd hs (splitC_ne c l)
      | x :: r => rw [hs] at ih; simpa using ih
theorem index_free {c : UInt8} {l : List UInt8} (h : c ∉ l) : Lib.index l [c] = -1 := by
  induction l with
  | nil => rfl
  | cons b l ih =>
    have hb : ¬ c = b := fun e => h (by simp [e])
    unfold Lib.index
    rw [if_neg (by simp [hb]), ih (fun k => h (by simp [k]))]; rfl
theorem index_first {c : UInt8} {a : List UInt8} (b : List UInt8) (h : c ∉ a) : Lib.index (a ++ c :: b) [c] = a.length := by
  induction a with
  | nil => simp [Lib.index]
  | cons x a ih =>
    have hb : ¬ c = x := fun e => h (by simp [e])
    rw [List.cons_append]
    unfold Lib.index
    rw [if_neg (by simp [hb]), ih (fun k => h (by simp [k]))]
    rw [if_neg (by simp)]
    simp
theorem cut_first {c : UInt8} {a : List UInt8} (b : List UInt8) (h : c ∉ a) : Lib.cut (a ++ c :: b) [c] = (a, b, true) := by
  unfold Lib.cut
  rw [index_first b h, if_pos (by omega)]
  simp
theorem cut_free {c : UInt8} {l : List UInt8} (h : c ∉ l) : Lib.cut l [c] = (l, [], false) := by
  unfold Lib.cut
  rw [index_free h, if_neg (by omega)]
/-- Cut at most k times: the whole of it, or k pieces and the rest. -/
theorem splitK_eq (c : UInt8) : ∀ (k : Nat) (l : List UInt8), (Lib.splitK [c] 0 k l).length = min (k + 1) (splitC c l).length ∧ ((splitC c l).length ≤ k + 1 → Lib.splitK [c] 0 k l = splitC c l)
  | 0, l => by
    have h1 : 1 ≤ (splitC c l).length := by have := splitC_length c l; omega
    refine ⟨by simp [Lib.splitK]; omega, fun h => ?_⟩
    have hn : c ∉ l := by
      intro k
      have := splitC_length c l
      have := List.count_pos_iff.2 k
      omega
    rw [splitC_free hn]; rfl
  | k + 1, l => by
    by_cases hc : c ∈ l
    · obtain ⟨a, b, rfl, ha⟩ := splitC_some hc
      obtain ⟨h1, h2⟩ := splitK_eq c k b
      have e : Lib.splitK [c] 0 (k + 1) (a ++ c :: b) = a :: Lib.splitK [c] 0 k b := by
        rw [Lib.splitK, index_first b ha, if_neg (by simp)]
        simp
      rw [e, splitC_cons b ha]
      simp only [List.length_cons]
      exact ⟨by omega, fun h => by rw [h2 (by omega)]⟩
    · rw [Lib.splitK, index_free hc, splitC_free hc, if_pos (by rfl)]
      simp
theorem splitK_count (c : UInt8) (l : List UInt8) (n : Nat) : (Lib.splitK [c] 0 (min (n + 1) (l.length + 1) - 1) l).length = n ↔ (splitC c l).length = n := by
  have h := (splitK_eq c (min (n + 1) (l.length + 1) - 1) l).1
  have h2 := splitC_length_le c l
  have h3 : 1 ≤ (splitC c l).length := by have := splitC_length c l; omega
  rw [h]; omega
theorem splitK_all (c : UInt8) (l : List UInt8) (n : Nat) (h : (splitC c l).length ≤ n) : Lib.splitK [c] 0 (min n (l.length + 1) - 1) l = splitC c l := by
  have h2 := splitC_length_le c l
  exact (splitK_eq c _ l).2 (by omega)
/-- The numbers of a text with a separator. -/
def readNums (c : UInt8) (l : List UInt8) : Option (List Int) := (splitC c l).mapM readDec
theorem mapM_readDec : ∀ (ps : List (List UInt8)) (xs : List Int), ps.mapM readDec = some xs ↔ (ps = xs.map Lib.itoa ∧ ∀ x ∈ xs, x.natAbs < 10 ^ 18)
  | [], xs => by
    cases xs with
    | nil => simp
    | cons x xs => simp
  | p :: ps, xs => by
    rw [List.mapM_cons]
    constructor
    · intro h
      cases hp : readDec p with
      | none => rw [hp] at h; simp at h
      | some n =>
        rw [hp] at h
        cases hq : ps.mapM readDec with
        | none => rw [hq] at h; simp at h
        | some ys =>
          rw [hq] at h
          have e : xs = n :: ys := by simpa using h.symm
          subst e
          obtain ⟨h1, h2⟩ := readDec_some hp
          obtain ⟨h3, h4⟩ := (mapM_readDec ps ys).1 hq
          refine ⟨by rw [h3, List.map_cons, h1], ?_⟩
          intro x hx
          rcases List.mem_cons.1 hx with rfl | hx
          · exact h2
          · exact h4 x hx
    · rintro ⟨h1, h2⟩
      cases xs with
      | nil => simp at h1
      | cons x xs =>
        rw [List.map_cons, List.cons.injEq] at h1
        have hx := readDec_itoa (h2 x (by simp))
        have hq := (mapM_readDec ps xs).2 ⟨h1.2, fun y hy => h2 y (by simp [hy])⟩
        rw [h1.1, hx, hq]; try rfl
/-- A sign is no separator. -/
def isSep (c : UInt8) : Prop := dig c = false ∧ c ≠ 45
theorem itoa_free {c : UInt8} (h : isSep c) (n : Int) : c ∉ Lib.itoa n := by
  intro k
  rcases itoa_mem k with k | k
  · rw [h.1] at k; cases k
  · exact h.2 k
theorem splitC_nums {c : UInt8} (h : isSep c) (xs : List Int) (h0 : xs ≠ []) : splitC c (Lib.join (xs.map Lib.itoa) [c]) = xs.map Lib.itoa :=
  splitC_join _ (by simpa using h0) (fun x hx => by obtain ⟨n, _, rfl⟩ := List.mem_map.1 hx; exact itoa_free h n)
theorem readNums_some {c : UInt8} {l : List UInt8} {xs : List Int} (h : readNums c l = some xs) : Lib.join (xs.map Lib.itoa) [c] = l ∧ (∀ x ∈ xs, x.natAbs < 10 ^ 18) ∧ (splitC c l).length = xs.length := by
  obtain ⟨h1, h2⟩ := (mapM_readDec _ _).1 h
  refine ⟨by rw [← h1, join_splitC], h2, by rw [h1]; simp⟩
theorem readNums_of {c : UInt8} (hc : isSep c) {xs : List Int} (h0 : xs ≠ []) (h : ∀ x ∈ xs, x.natAbs < 10 ^ 18) : readNums c (Lib.join (xs.map Lib.itoa) [c]) = some xs := by
  unfold readNums
  rw [splitC_nums hc xs h0]
  exact (mapM_readDec _ _).2 ⟨rfl, h⟩
theorem isSep_blank : isSep 32 := by unfold isSep; decide
theorem isSep_comma : isSep 44 := by unfold isSep; decide
theorem isSep_plus : isSep 43 := by unfold isSep; decide
theorem isSep_paren : isSep 40 := by unfold isSep; decide
/-- A value from what may be read, as the one text of it says. -/
noncomputable def unread {α : Type} (P : α → Prop) : Option α := open Classical in if h : ∃ x, P x then some h.choose else none
theorem unread_some {α : Type} {P : α → Prop} (hu : ∀ x y, P x → P y → x = y) {x : α} (h : P x) : unread P = some x := by
  unfold unread
  rw [dif_pos ⟨x, h⟩]
  exact congrArg some (hu _ _ (Exists.choose_spec ⟨x, h⟩) h)
theorem unread_none {α : Type} {P : α → Prop} (h : ∀ x, ¬ P x) : unread P = none := by
  unfold unread
  rw [dif_neg (fun ⟨x, hx⟩ => h x hx)]
end Go.Proofs.YtaeinllbjkjhlaaGreatDoor
