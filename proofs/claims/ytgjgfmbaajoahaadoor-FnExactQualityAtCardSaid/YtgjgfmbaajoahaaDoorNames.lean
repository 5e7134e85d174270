/- Names: what IsName computes, in the program and in the reference. -/
import Derived.Test.YtgjgfmbaajoahaaDoorNum
import Derived.Lib.Bytes
namespace Go.Proofs.YtgjgfmbaajoahaaDoor
open Go.RowKit

/-- The byte at a place, as a number. -/
def byteAt (s : ByteArray) (i : Nat) : Int := ((s.data.toList.getD i 0).toNat : Int)
theorem byteAt_get {s : ByteArray} {i : Nat} (h : i < s.size) : byteAt s i = (s[i].toNat : Int) := by
  unfold byteAt
  have h' : i < s.data.toList.length := by simpa using h
  rw [List.getD_eq_getElem?_getD, List.getElem?_eq_getElem h']; rfl
def small (c : Int) : Bool := inr c 97 122
def digitB (c : Int) : Bool := inr c 48 57
def nameByte (c : Int) : Bool := small c || digitB c || c == 45
def isName (s : ByteArray) : Bool := (inr s.size 1 12 && small (byteAt s 0)) && allUpto s.size fun i => nameByte (byteAt s i)
theorem isName_size {s : ByteArray} (h : isName s = true) : 1 ≤ s.size ∧ s.size ≤ 12 := by
  simp only [isName, Bool.and_eq_true] at h
  have := inr_true.1 h.1.1
  omega
theorem isName_short {s : ByteArray} (h : ¬ (1 ≤ s.size ∧ s.size ≤ 12)) : isName s = false := by
  cases hn : isName s
  · rfl
  · exact absurd (isName_size hn) h
theorem isName_first {s : ByteArray} (h : small (byteAt s 0) = false) : isName s = false := by simp [isName, h]
theorem isName_bad {s : ByteArray} {i : Nat} (hi : i < s.size) (h : nameByte (byteAt s i) = false) : isName s = false := by
  have := allUpto_false (p := fun i => nameByte (byteAt s i)) hi h
  simp [isName, this]
theorem isName_all {s : ByteArray} (h : 1 ≤ s.size ∧ s.size ≤ 12) (h0 : small (byteAt s 0) = true) (hs : Sofar (fun i => nameByte (byteAt s i)) s.size) : isName s = true := by
  simp [isName, h0, sofar_all hs (Nat.le_refl _), inr]; omega
theorem nameByte_small {c : Int} (h : small c = true) : nameByte c = true := by simp [nameByte, h]
end Go.Proofs.YtgjgfmbaajoahaaDoor
