/- Chapter 10, hides: the plain laws. -/
import Derived.Test.YtgjgfmbaajoahaaDoorInts
import Derived.Test.YtgjgfmbaajoahaaDoorNum
import Derived.Test.YtgjgfmbaajoahaaDoorNames
import Derived.Lib.SlTrimSet
namespace Go.Proofs.YtgjgfmbaajoahaaDoor
open Go.RowKit

def cs4 : List UInt8 := [97, 98, 99, 120]
def okF (c : UInt8) : Bool := cs4.contains c
def okRow (n : Nat) (r : ByteArray) : Bool := inr r.size 1 6 && (r.size == n) && r.data.toList.all okF
def hideN (rows : List ByteArray) : Nat := (rows.head?.map ByteArray.size).getD 0
def okHide (rows : List ByteArray) : Bool := inr rows.length 1 6 && rows.all (okRow (hideN rows))
theorem dropWhile_cases {α : Type} (p : α → Bool) : ∀ l : List α, l.dropWhile p = [] ∨ ∃ x r, l.dropWhile p = x :: r ∧ p x = false
  | [] => Or.inl rfl
  | x :: l => by
    cases h : p x
    · exact Or.inr ⟨x, l, by simp [List.dropWhile, h], h⟩
    · have := dropWhile_cases p l
      simpa [List.dropWhile, h] using this
theorem dropWhile_all {α : Type} (p : α → Bool) : ∀ l : List α, l.dropWhile p = [] ↔ l.all p = true
  | [] => by simp
  | x :: l => by
    cases h : p x
    · simp [List.dropWhile, h]
    · simp [List.dropWhile, h, dropWhile_all p l]
theorem trim_nil (l : List UInt8) : Lib.trimS l cs4 = [] ↔ l.all okF = true := by
  unfold Lib.trimS Lib.trimLeftS Lib.trimRightS
  change List.dropWhile okF (l.reverse.dropWhile okF).reverse = [] ↔ _
  constructor
  · intro h
    rcases dropWhile_cases okF l.reverse with h1 | ⟨x, r, h1, hx⟩
    · have := (dropWhile_all okF l.reverse).1 h1
      simpa using this
    · rw [h1] at h
      have := (dropWhile_all okF _).1 h
      simp [hx] at this
  · intro h
    have h1 : l.reverse.dropWhile okF = [] := (dropWhile_all okF l.reverse).2 (by simpa using h)
    rw [h1]; rfl
theorem trim_empty (s : ByteArray) : ((⟨(Lib.trimS s.data.toList cs4).toArray⟩ : ByteArray).toList == (⟨#[]⟩ : ByteArray).toList) = s.data.toList.all okF := by
  rw [Bool.eq_iff_iff, ← trim_nil]
  constructor
  · intro h
    have h2 : (⟨(Lib.trimS s.data.toList cs4).toArray⟩ : ByteArray) = ⟨#[]⟩ := by simpa using h
    have h3 := congrArg (fun b : ByteArray => b.data.toList) h2
    simpa using h3
  · intro h
    rw [h]; simp
/-- What a field is worth: the program's and the reference's. -/
def qualI (c : Int) : Int := if c == 97 then 3 else if c == 98 then 2 else if c == 99 then 1 else 0
def qualS (c : Int) : Int := if c == 97 then 3 else if c == 98 then 2 else if c == 99 then 1 else if c == 120 then 0 else -1
def okN (c : Int) : Bool := c == 97 || c == 98 || c == 99 || c == 120
theorem okF_okN (c : UInt8) : okF c = okN (c.toNat : Int) := by
  rw [Bool.eq_iff_iff]
  unfold okF cs4 okN
  simp only [List.contains_cons, Bool.or_eq_true, beq_iff_eq, List.contains_nil, Bool.false_eq_true, or_false, ← UInt8.toNat_inj, or_assoc]
  have e1 : (97 : UInt8).toNat = 97 := rfl
  have e2 : (98 : UInt8).toNat = 98 := rfl
  have e3 : (99 : UInt8).toNat = 99 := rfl
  have e4 : (120 : UInt8).toNat = 120 := rfl
  rw [e1, e2, e3, e4]
  omega
theorem qual_ok {c : Int} (h : okN c = true) : qualS c = qualI c ∧ 0 ≤ qualI c := by
  simp only [okN, Bool.or_eq_true, beq_iff_eq] at h
  unfold qualS qualI
  rcases h with ((h | h) | h) | h <;> simp [h]
theorem qual_bad {c : Int} : decide (qualS c < 0) = !okN c := by
  cases h : okN c
  · simp only [okN, Bool.or_eq_false_iff, beq_eq_false_iff_ne, ne_eq] at h
    simp [qualS, h]
  · have := qual_ok h
    simp; omega
theorem okRow_iff (n : Nat) (r : ByteArray) : okRow n r = ((inr r.size 1 6 && (r.size == n)) && allUpto r.size fun i => okN (byteAt r i)) := by
  unfold okRow
  congr 1
  rw [Bool.eq_iff_iff, List.all_eq_true, allUpto_iff]
  constructor
  · intro h i hi
    have h' : i < r.data.toList.length := by simpa using hi
    have := h _ (List.getElem_mem h')
    rw [okF_okN] at this
    rw [byteAt_get hi]; exact this
  · intro h x hx
    obtain ⟨i, hi, rfl⟩ := List.getElem_of_mem hx
    have h' : i < r.size := by simpa using hi
    have := h i h'
    rw [byteAt_get h'] at this
    rw [okF_okN]; exact this
/-- The answer of QualityAt. -/
def qualRes (xs : List ByteArray) (y x : Int) : Int × Int :=
  if okHide xs then if inr y 0 ((xs.length : Int) - 1) && inr x 0 ((hideN xs : Int) - 1) then (qualI (byteAt (xs.getD y.toNat ⟨#[]⟩) x.toNat), 0) else (0, 2) else (0, 1)
end Go.Proofs.YtgjgfmbaajoahaaDoor
