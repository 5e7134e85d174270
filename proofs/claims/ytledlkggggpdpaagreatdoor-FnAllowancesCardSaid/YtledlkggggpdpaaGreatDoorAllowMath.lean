/- Plain facts about allowances. -/
import Derived.Test.YtledlkggggpdpaaGreatDoorL09a
import Derived.Test.YtledlkggggpdpaaGreatDoorL09s
import Derived.Test.YtledlkggggpdpaaGreatDoorRdStrip
namespace Go.Proofs.YtledlkggggpdpaaGreatDoor
open Go.RowKit

theorem readStrip_text (x : Strip) : readStrip (stripText x) = if okStrip x = true then some x else none := by
  by_cases h : okStrip x = true
  · rw [if_pos h, stripText_true h]
    exact readStrip_some h rfl
  · rw [if_neg h, stripText_false (by simpa using h)]
    exact strip_short (by decide)
theorem strip_nonempty {x : Strip} (h : okStrip x = true) : ((stripText x).toList == (⟨#[]⟩ : ByteArray).toList) = false := by
  have h1 := (strip_spec h rfl).1
  rw [stripText_true h]
  rw [ByteArray.toList_eq, ByteArray.toList_eq]
  rw [beq_eq_false_iff_ne]
  intro h2
  have h3 := congrArg List.length h2
  simp only [Array.length_toList] at h3
  have h4 : (stripTxt x).size = 0 := h3
  omega
def stripRet (y : Strip) (b : Bool) : Ending := .returned (.tuple #[.agg #[.int .i64 y.Length, .int .i64 y.Allow, .int .i64 y.Left, .int .i64 y.Right], .bool b])
theorem stripRes_ret (o : Option Strip) : stripRes o = stripRet (o.getD ⟨0, 0, 0, 0⟩) o.isSome := rfl
theorem read_back (x : Strip) : ∃ (y : Strip) (b : Bool), stripRes (readStrip (stripText x)) = stripRet y b ∧ (b = false → stripText x = ⟨#[]⟩) ∧ (b = true → ((stripText x).toList == (⟨#[]⟩ : ByteArray).toList) = false ∧ y = x) := by
  refine ⟨_, _, stripRes_ret _, ?_, ?_⟩
  · rw [readStrip_text]
    by_cases h : okStrip x = true
    · rw [if_pos h]; intro h2; cases h2
    · intro _; exact stripText_false (by simpa using h)
  · rw [readStrip_text]
    by_cases h : okStrip x = true
    · rw [if_pos h]; intro _; exact ⟨strip_nonempty h, rfl⟩
    · rw [if_neg h]; intro h2; cases h2
theorem stripText_size (x : Strip) : (stripText x).size ≤ 1048576 := by
  cases h : okStrip x with
  | false => rw [stripText_false h]; decide
  | true => rw [stripText_true h, ← stripTxt_eq]
            have a0 := decT_size' x.Length (by have := (okStrip_iff.1 h).1; omega) (by have := (okStrip_iff.1 h).1; omega)
            have a1 := decT_size' x.Allow (by have := (okStrip_iff.1 h).2.1; omega) (by have := (okStrip_iff.1 h).2.1; omega)
            have a2 := decT_size' x.Left (by have := (okStrip_iff.1 h).2.2.1; omega) (by have := (okStrip_iff.1 h).2.2.1; omega)
            have a3 := decT_size' x.Right (by have := (okStrip_iff.1 h).2.2.2; omega) (by have := (okStrip_iff.1 h).2.2.2; omega)
            simp only [ByteArray.size_append]
            have e1 : (⟨#[43]⟩ : ByteArray).size = 1 := rfl
            have e2 : (⟨#[40]⟩ : ByteArray).size = 1 := rfl
            have e3 : (⟨#[44]⟩ : ByteArray).size = 1 := rfl
            have e4 : (⟨#[41]⟩ : ByteArray).size = 1 := rfl
            omega
theorem allow_facts (xs : List Strip) (k m : Int) (h : addAllowCode xs k m = 0) : ∃ n : Nat, k = n ∧ ∃ (h1 : n < xs.length) (h2 : n < (addAllow xs k m).length), ((addAllow xs k m)[n]).Allow = m ∧ ((addAllow xs k m)[n]).Length = (xs[n]).Length := by
  unfold addAllowCode at h
  split at h
  case isFalse => simp at h
  case isTrue h1 =>
    split at h
    case isFalse => simp at h
    case isTrue h2 =>
      have h3 := h2
      simp only [allowOk, Bool.and_eq_true] at h3
      have h4 := inr_true.1 h3.1
      have hn : k.toNat < xs.length := by omega
      have e : addAllow xs k m = setAllow xs k.toNat m := by unfold addAllow; rw [h1, h2]; rfl
      rw [e]
      refine ⟨k.toNat, by omega, hn, by unfold setAllow; rw [List.length_set]; exact hn, ?_, ?_⟩
      · unfold setAllow; simp
      · unfold setAllow; simp [List.getD, List.getElem?_eq_getElem hn]
theorem sum_le {α : Type} (f g : α → Int) : ∀ xs : List α, (∀ x ∈ xs, f x ≤ g x) → sumI (xs.map f) ≤ sumI (xs.map g)
  | [], _ => by simp [sumI]
  | x :: xs, h => by
    have h1 := h x (by simp)
    have h2 := sum_le f g xs (fun y hy => h y (by simp [hy]))
    simp only [List.map_cons, sumI_cons]
    omega
theorem sum_zero (f : Strip → Int) : ∀ xs : List Strip, (∀ x ∈ xs, 0 ≤ f x) → (sumI (xs.map f) = 0 ↔ ∀ x ∈ xs, f x = 0) ∧ 0 ≤ sumI (xs.map f)
  | [], _ => by simp [sumI]
  | x :: xs, h => by
    have h1 := h x (by simp)
    have h2 := sum_zero f xs (fun y hy => h y (by simp [hy]))
    simp only [List.map_cons, sumI_cons, List.forall_mem_cons]
    refine ⟨⟨fun h3 => ?_, fun h3 => ?_⟩, by omega⟩
    · have : f x = 0 := by omega
      exact ⟨this, h2.1.1 (by omega)⟩
    · have := h2.1.2 h3.2
      omega
theorem cutLen_le {x : Strip} (h : okStrip x = true) : x.Length ≤ cutLen x := by
  have := okStrip_iff.1 h
  unfold cutLen; split <;> omega
theorem cut_facts (ys : List Strip) (h : cutsCode ys = 0) : okStrips ys = true ∧ (3 ≤ ys.length ∧ ys.length ≤ 12) ∧ (∀ x ∈ ys, okStrip x = true) ∧ cuts ys = ys.map cutLen := by
  unfold cutsCode at h
  split at h
  case isFalse => simp at h
  case isTrue h1 =>
    have h2 := okStrips_iff.1 h1
    exact ⟨h1, h2.1, h2.2, by unfold cuts; rw [if_pos h1]⟩
theorem round_facts (ys : List Strip) (h : cutsCode ys = 0) : (roundRes ys).2.1 = sumI (cuts ys) ∧ (roundRes ys).1 ≤ (roundRes ys).2.1 ∧ 0 ≤ (roundRes ys).1 ∧ (roundRes ys).2.1 ≤ 64800 := by
  obtain ⟨h1, h2, h3, h4⟩ := cut_facts ys h
  rw [h4]
  unfold roundRes
  rw [if_pos h1]
  have k1 := sum_map_in cutLen 5400 ys (fun x hx => by have := cutLen_in (h3 x hx); omega) ys.length (Nat.le_refl _)
  have k2 := sum_map_in Strip.Length 5000 ys (fun x hx => by have := (okStrip_iff.1 (h3 x hx)).1; omega) ys.length (Nat.le_refl _)
  rw [List.take_of_length_le (by simp)] at k1 k2
  exact ⟨rfl, sum_le _ _ ys (fun x hx => cutLen_le (h3 x hx)), k2.1, by show sumI (ys.map cutLen) ≤ 64800; omega⟩
theorem area_facts (ys : List Strip) (h : cutsCode ys = 0) (m : Int) (m0 : 0 ≤ m) (m1 : ∀ x ∈ ys, x.Allow ≤ m) (m2 : m = 0 ∨ ∃ x ∈ ys, x.Allow = m) : ((areaRes ys).1 == 0) = (m == 0) := by
  obtain ⟨h1, h2, h3, h4⟩ := cut_facts ys h
  unfold areaRes
  rw [if_pos h1]
  have k := (sum_zero allowOne ys (fun x hx => (allowOne_in (h3 x hx)).1)).1
  have e : ∀ x ∈ ys, allowOne x = 0 ↔ x.Allow = 0 := fun x hx => by
    have a1 := okStrip_iff.1 (h3 x hx)
    have a2 := cutLen_in (h3 x hx)
    unfold allowOne
    rw [Int.mul_eq_zero]
    omega
  rw [Bool.eq_iff_iff, beq_iff_eq, beq_iff_eq]
  refine k.trans ⟨fun h5 => ?_, fun h5 x hx => ?_⟩
  · rcases m2 with h6 | ⟨x, hx, h6⟩
    · exact h6
    · rw [← h6]; exact (e x hx).1 (h5 x hx)
  · have a1 := okStrip_iff.1 (h3 x hx)
    have := m1 x hx
    exact (e x hx).2 (by omega)
theorem cuts_prefix (ys : List Strip) (h : cutsCode ys = 0) : ∀ k, k ≤ (cuts ys).length → -9223372036854775808 ≤ sumI ((cuts ys).take k) ∧ sumI ((cuts ys).take k) ≤ 9223372036854775807 := by
  obtain ⟨h1, h2, h3, h4⟩ := cut_facts ys h
  rw [h4]
  intro k hk
  have k1 := sum_map_in cutLen 5400 ys (fun x hx => by have := cutLen_in (h3 x hx); omega) k (by simpa using hk)
  have : k ≤ ys.length := by simpa using hk
  omega
end Go.Proofs.YtledlkggggpdpaaGreatDoor
