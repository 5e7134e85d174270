/- The law's own texts for its marks. -/
import Derived.Test.YtlmhiocmldhkhaaRows
import Derived.Test.YtlmhiocmldhkhaaBase
namespace Go.Proofs.Ytlmhiocmldhkhaa
open Go.RowKit

def digsF : Nat → Nat → List UInt8 → List UInt8
  | 0, _, out => out
  | f + 1, k, out => if k = 0 then out else digsF f (k / 10) (UInt8.ofNat (48 + k % 10) :: out)
theorem digsF_zero (f : Nat) (out : List UInt8) : digsF f 0 out = out := by cases f <;> simp [digsF]
theorem digsF_len : ∀ (f k : Nat) (out : List UInt8), (digsF f k out).length ≤ f + out.length
  | 0, _, out => by simp [digsF]
  | f + 1, k, out => by
    simp only [digsF]; split
    · omega
    · have := digsF_len f (k / 10) (UInt8.ofNat (48 + k % 10) :: out)
      simp only [List.length_cons] at this; omega
/-- The text of a mark. -/
def markT (k : Nat) : ByteArray := if k = 0 then ⟨#[109, 48]⟩ else ⟨(109 :: digsF 12 k []).toArray⟩
theorem markT_size (k : Nat) : (markT k).size ≤ 13 := by
  unfold markT; split
  · decide
  · have := digsF_len 12 k []
    show (List.toArray _).size ≤ 13
    simp at *; omega
theorem cat_one (c : UInt8) (out : List UInt8) : (⟨#[c]⟩ ++ ⟨out.toArray⟩ : ByteArray) = ⟨(c :: out).toArray⟩ := by
  apply Go.WideShapes.bytes_inj
  simp
theorem conv_one (w : World) (n : Int) : (convert 41 9 (.slice (some ⟨w.heap.size, 0, none⟩) 1 1)).run Try.prog (w.alloc (.cells #[.int .u8 n] 5)) = .ok (.string ⟨#[UInt8.ofNat n.toNat]⟩) (w.alloc (.cells #[.int .u8 n] 5)) := by
  have h := run_convert_bytes_arg (P := Try.prog) (w.alloc (.cells #[.int .u8 n] 5)) 41 5 Try.underlying41 Try.underlying5 w.heap.size 0 1 1 [n] rfl (fun i hi => by
    obtain rfl : i = 0 := by omega
    go_simp) 9 Try.underlying9
  rw [h]; rfl
set_option maxRecDepth 100000 in
set_option maxHeartbeats 800000 in
theorem markText_c (k : Nat) (w : World) (hk : k ≤ 4294967296) :
    Calls Try.prog 74 #[.int .i64 (k : Int)] w fun e w' => e = .returned (.string (markT k)) ∧ Below w.heap.size w w' := by
  by_cases h0 : k = 0
  · subst h0
    go_enter Try.func74, Try.ntmps74
    go_wp2_with fail
    go_ret
    exact ⟨rfl, Below.refl _ _⟩
  · have h1 : ¬ ((k : Int) ≤ 0) := by omega
    have hr : markT k = ⟨(109 :: digsF 12 k []).toArray⟩ := by simp [markT, h0]
    rw [hr]
    replace hr := Lib.hid hr
    replace h0 := Lib.hid h0
    go_enter Try.func74, Try.ntmps74
    go_wp2_with fail
    go_loopw [0, 3] (fun v s wr => ∃ (m f : Nat) (out : List UInt8), v = .int .i64 (m : Int) ∧ s = .string ⟨out.toArray⟩ ∧ digsF f m out = digsF 12 k [] ∧ m < 10 ^ f ∧ m ≤ 4294967296 ∧ out.length + f = 12 ∧ Below w.heap.size w wr) (fun v _ _ => (intOf v).toNat)
    case atStart => exact ⟨k, 12, [], rfl, rfl, rfl, by omega, hk, rfl, Below.refl _ _⟩
    case round =>
      obtain ⟨m, f, out, rfl, rfl, hd, hlt, hm, hlen, hb⟩ := hrel
      by_cases hz : m = 0
      · subst hz
        rw [digsF_zero] at hd
        replace hd := Lib.hid hd
        go_wp2_with fail
        go_ret
        refine ⟨?_, hb⟩
        rw [← hd.out]
        exact congrArg (fun x => Ending.returned (.string x)) (cat_one 109 out)
      · have hgt : 0 < (m : Int) := by omega
        replace hd := Lib.hid hd
        replace hlt := Lib.hid hlt
        have hol : out.length ≤ 12 := by omega
        replace hlen := Lib.hid hlen
        have hcv := conv_one
        have hm10 : 0 ≤ (m : Int) % 10 ∧ (m : Int) % 10 ≤ 9 := by omega
        go_wp2_with fail
        go_roundw
        case rel =>
          obtain ⟨f, rfl⟩ : ∃ g, f = g + 1 := ⟨f - 1, by
            have := hlt.out
            cases f with
            | zero => simp at this; omega
            | succ f => omega⟩
          have hd := hd.out
          simp only [digsF, if_neg hz] at hd
          refine ⟨m / 10, f, UInt8.ofNat (48 + m % 10) :: out, by congr 1, ?_, hd, ?_, by omega, by have := hlen.out; simp only [List.length_cons]; omega, hb.alloc hb.size _⟩
          · have := cat_one (48 + UInt8.ofNat (m % 10)) out; rw [this, UInt8.ofNat_add]; rfl
          · have := hlt.out
            rw [Nat.pow_succ] at this; omega
        case measure => simp [intOf]; omega
end Go.Proofs.Ytlmhiocmldhkhaa
