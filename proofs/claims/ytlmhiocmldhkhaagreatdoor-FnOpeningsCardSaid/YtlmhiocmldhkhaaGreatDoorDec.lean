/- Numbers in decimal, as the reference writes them. -/
import Derived.Test.YtlmhiocmldhkhaaGreatDoorRows
import Derived.Test.YtlmhiocmldhkhaaGreatDoorSrc

import Derived.Laws.BytesArg
import Derived.Lib.ItoaLen
import Derived.Deep.AppendLies
namespace Go.Proofs.YtlmhiocmldhkhaaGreatDoor
open Go.RowKit

/-- The digits of a number, none for 0. -/
def digsZ (k : Int) : List UInt8 := if k = 0 then [] else Lib.decDigits k.natAbs
theorem digsZ_zero : digsZ 0 = [] := rfl
theorem decDigits_big {u : Nat} (h : ¬ u < 10) : Lib.decDigits u = Lib.decDigits (u / 10) ++ [UInt8.ofNat (48 + u % 10)] := by rw [Lib.decDigits, dif_neg h]
theorem digsZ_step {k : Int} (h : k ≠ 0) : digsZ k = digsZ (Int.tdiv k 10) ++ [UInt8.ofNat (48 + k.natAbs % 10)] := by
  have e1 : (Int.tdiv k 10).natAbs = k.natAbs / 10 := by rw [Int.natAbs_tdiv]; rfl
  unfold digsZ
  rw [if_neg h, e1]
  by_cases h1 : k.natAbs < 10
  · have h2 : Int.tdiv k 10 = 0 := by
      have : (Int.tdiv k 10).natAbs = 0 := by rw [e1]; omega
      omega
    rw [if_pos h2, Lib.decDigits_one h1, Nat.mod_eq_of_lt h1]; rfl
  · have h2 : ¬ Int.tdiv k 10 = 0 := fun h => by
      have : (Int.tdiv k 10).natAbs = 0 := by rw [h]; rfl
      rw [e1] at this; omega
    rw [if_neg h2, decDigits_big h1]
/-- A number's text. -/
def decT (n : Int) : ByteArray := ⟨(Lib.itoa n).toArray⟩
theorem decT_size (n : Int) (h0 : -9223372036854775808 ≤ n) (h1 : n ≤ 9223372036854775807) : (decT n).size ≤ 21 := by
  have := Lib.itoa_length_le n h0 h1
  show (List.toArray _).size ≤ 21
  simpa using this
theorem itoa_digs {n : Int} (h : n ≠ 0) : Lib.itoa n = if n < 0 then 45 :: digsZ n else digsZ n := by
  unfold Lib.itoa digsZ
  rw [if_neg h]
  split
  · rfl
  · rw [show n.toNat = n.natAbs by omega]
theorem itoa_zero : Lib.itoa 0 = [48] := by unfold Lib.itoa; rw [if_neg (by omega)]; exact Lib.decDigits_one (by decide)
theorem nums_bytes (L : List UInt8) : strOfNums (L.map fun x => (x.toNat : Int)) = ⟨L.toArray⟩ := by
  unfold strOfNums
  congr 1
  rw [List.map_map]
  congr 1
  conv => rhs; rw [← List.map_id L]
  apply List.map_congr_left
  intro x _
  simp
theorem cat_byte (c : UInt8) (out : List UInt8) : (⟨#[c]⟩ ++ ⟨out.toArray⟩ : ByteArray) = ⟨(c :: out).toArray⟩ := by
  apply Go.WideShapes.bytes_inj
  simp
end Go.Proofs.YtlmhiocmldhkhaaGreatDoor
