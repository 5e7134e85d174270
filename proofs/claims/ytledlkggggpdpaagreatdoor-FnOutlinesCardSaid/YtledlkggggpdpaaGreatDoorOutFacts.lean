/- FnOutlines: what the law's values are. -/
import Derived.Test.YtledlkggggpdpaaGreatDoorOutLaw
import Derived.Test.YtledlkggggpdpaaGreatDoorRdOut
import Derived.Test.YtledlkggggpdpaaGreatDoorDrS
namespace Go.Proofs.YtledlkggggpdpaaGreatDoor
open Go.RowKit

theorem turn_facts {xs : List Spot} {q : Int} (h : turnCode xs q = 0) : ∃ Q : Nat, q = Q ∧ Q ≤ 3 ∧ xs.length ≤ 24 ∧ 3 ≤ xs.length ∧ (∀ x ∈ xs, okSpot x = true) ∧ okOutline (turnOf xs q) = true ∧ (turnOf xs q).length = xs.length ∧
    turnCode (turnOf xs q) (((4 - Q) % 4 : Nat) : Int) = 0 ∧ (turnOf (turnOf xs q) (((4 - Q) % 4 : Nat) : Int)).length = xs.length ∧ (∀ x ∈ turnOf (turnOf xs q) (((4 - Q) % 4 : Nat) : Int), okSpot x = true) ∧
    ∀ i, Pick.sb (nth (turnOf (turnOf xs q) (((4 - Q) % 4 : Nat) : Int)) i) (nth (turnOf (turnOf xs q) (((4 - Q) % 4 : Nat) : Int)) 0) = Pick.sb (nth xs i) (nth xs 0) := by
  unfold turnCode at h
  by_cases h1 : okOutline xs = true
  · by_cases h2 : inr q 0 3 = true
    · have h3 := inr_true.1 h2
      obtain ⟨Q, rfl⟩ : ∃ Q : Nat, q = Q := ⟨q.toNat, by omega⟩
      obtain ⟨⟨⟨l3, l24⟩, hok⟩, _⟩ := okOutline_iff.1 h1
      have e1 : turnOf xs (Q : Int) = lay (rotTo Q xs) := by simp [turnOf, h1, h2]
      have o1 : okOutline (turnOf xs (Q : Int)) = true := by rw [e1]; exact turn_ok h1 Q
      have hin : inr (((4 - Q) % 4 : Nat) : Int) 0 3 = true := inr_true.2 (by omega)
      have e2 : turnOf (turnOf xs (Q : Int)) (((4 - Q) % 4 : Nat) : Int) = lay (rotTo ((4 - Q) % 4) (lay (rotTo Q xs))) := by
        rw [turnOf, o1, hin, e1]
        show (if true = true then lay (rotTo (((4 - Q) % 4 : Nat) : Int).toNat _) else []) = _
        rw [if_pos rfl, Int.toNat_natCast]
      have o2 : okOutline (turnOf (turnOf xs (Q : Int)) (((4 - Q) % 4 : Nat) : Int)) = true := by rw [e2, ← e1]; exact turn_ok o1 _
      refine ⟨Q, rfl, by omega, l24, l3, hok, o1, by rw [e1, lay_length, rotTo_length], by rw [turnCode, o1, hin]; rfl, by rw [e2, lay_length, rotTo_length, lay_length, rotTo_length], (okOutline_iff.1 o2).1.2, fun i => ?_⟩
      rw [e2]
      exact turn_back (by omega) Q (by omega) i
    · rw [if_pos h1, if_neg h2] at h; cases h
  · rw [if_neg h1] at h; cases h
theorem tdiv_four {Q : Nat} (h : Q ≤ 3) : (4 - (Q : Int)).tmod 4 = (((4 - Q) % 4 : Nat) : Int) := by
  have : Q = 0 ∨ Q = 1 ∨ Q = 2 ∨ Q = 3 := by omega
  rcases this with rfl | rfl | rfl | rfl <;> rfl
/-- A mirrored outline: all that the law asks. -/
theorem mirror_facts {ys : List Spot} (h : okOutline ys = true) : mirrorCode ys = 0 ∧ (twiceArea (mirrorOf ys)).1 = (twiceArea ys).1 ∧ (twiceArea (mirrorOf ys)).2 = 0 ∧ (leftHanded (mirrorOf ys)).1 = (leftHanded ys).1 ∧ (leftHanded (mirrorOf ys)).2 = 0 ∧
    mirrorOf (mirrorOf ys) = lay ys ∧ mirrorCode (mirrorOf ys) = 0 := by
  have e1 : mirrorOf ys = lay (mirrored ys) := by simp [mirrorOf, h]
  have o1 := mirror_ok h
  have t1 := twice_mirror h
  rw [e1]
  refine ⟨by simp [mirrorCode, h], by simp [twiceArea, h, o1, t1], by simp [twiceArea, o1], by simp [leftHanded, h, o1, t1], by simp [leftHanded, o1], ?_, by simp [mirrorCode, o1]⟩
  rw [mirrorOf, if_pos o1, mirror_mirror h]
theorem box_facts {ys : List Spot} (h : okOutline ys = true) : (box ys).1 = loTo ys ys.length ∧ (box ys).2.1 = hiTo ys ys.length := by simp [box, h]
theorem area_facts7 {ys : List Spot} (h : okOutline ys = true) : ¬ (twiceArea ys).1 < 1 ∧ ¬ 2 * ((box ys).2.1.X - (box ys).1.X) * ((box ys).2.1.Y - (box ys).1.Y) < (twiceArea ys).1 := by
  obtain ⟨a1, a2⟩ := area_in h
  obtain ⟨b1, b2⟩ := box_facts h
  have e : (twiceArea ys).1 = size (twice ys) := by simp [twiceArea, h]
  rw [b1, b2, e, Int.mul_assoc]
  omega
theorem box_in {ys : List Spot} (h : okOutline ys = true) : ((0 ≤ (box ys).1.X ∧ (box ys).1.X ≤ (box ys).2.1.X) ∧ (box ys).2.1.X ≤ 10000) ∧ (0 ≤ (box ys).1.Y ∧ (box ys).1.Y ≤ (box ys).2.1.Y) ∧ (box ys).2.1.Y ≤ 10000 := by
  obtain ⟨⟨⟨l3, l24⟩, hok⟩, _⟩ := okOutline_iff.1 h
  obtain ⟨b1, b2⟩ := box_facts h
  have hn := fun i => okSpot_iff.1 (nth_ok hok i)
  have g := loTo_ge (xs := ys) (c := 0) (d := 0) (fun i => by have := hn i; omega) ys.length
  have g2 := hiTo_ge (xs := ys) (c := 10000) (d := 10000) (fun i => by have := hn i; omega) ys.length
  have l := loTo_le ys ys.length 0 (by omega)
  have l2 := hiTo_le ys ys.length 0 (by omega)
  rw [b1, b2]; omega
theorem lay_at {ys : List Spot} {i : Nat} (h : i < ys.length) (h' : i < (lay ys).length) : (lay ys)[i] = ⟨ys[i].X - (loTo ys ys.length).X, ys[i].Y - (loTo ys ys.length).Y⟩ := lay_get ys i h' h
theorem outT_nonempty {ys : List Spot} (h : okOutline ys = true) : (outT ys).toList ≠ [] := by
  obtain ⟨⟨⟨l3, _⟩, hok⟩, _⟩ := okOutline_iff.1 h
  intro e
  have hp := outT_parts (xs := ys) (by intro k; rw [k] at l3; simp at l3)
  have hz : outT ys = ⟨#[]⟩ := by
    apply Go.WideShapes.bytes_inj
    rw [Lib.toList_data] at e
    rw [e]
  have h1 := congrArg List.length hp
  rw [List.length_map, hz] at h1
  have : (parts 32 ⟨#[]⟩).length = 1 := by unfold parts; rw [List.length_map]; rfl
  omega
/-- An outline is read back from its text. -/
theorem out_back (ys : List Spot) : (okOutline ys = true ∧ readOutline (outlineText ys) = some ys ∧ (outlineText ys).toList ≠ []) ∨ (okOutline ys = false ∧ readOutline (outlineText ys) = none ∧ outlineText ys = ⟨#[]⟩) := by
  cases h : okOutline ys
  · right
    rw [outlineText_false h]
    exact ⟨rfl, readOutline_none fun x hx e => outT_nonempty hx (by rw [e, Lib.toList_data]), rfl⟩
  · left
    rw [outlineText_true h]
    exact ⟨rfl, readOutline_some h rfl, outT_nonempty h⟩
theorem outlineText_size (ys : List Spot) : (outlineText ys).size ≤ 1048576 := by
  cases h : okOutline ys
  · rw [outlineText_false h]; decide
  · rw [outlineText_true h]
    obtain ⟨⟨⟨l3, l24⟩, hok⟩, _⟩ := okOutline_iff.1 h
    have := outT_size ys hok ys.length (Nat.le_refl _)
    rw [List.take_length] at this
    omega
theorem readOutline_len (s : ByteArray) : ((readOutline s).getD []).length ≤ 24 := by
  cases h : readOutline s with
  | none => simp
  | some xs =>
    unfold readOutline unread at h
    split at h
    · rename_i hex
      obtain ⟨h1, _⟩ := Classical.choose_spec hex
      have e : Classical.choose hex = xs := Option.some.inj h
      rw [e] at h1
      exact (okOutline_iff.1 h1).1.1.2
    · cases h
end Go.Proofs.YtledlkggggpdpaaGreatDoor
