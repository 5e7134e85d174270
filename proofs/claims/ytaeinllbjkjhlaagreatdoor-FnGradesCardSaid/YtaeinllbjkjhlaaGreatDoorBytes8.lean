/- Bytes among a law's arguments. -/
import Derived.Test.YtaeinllbjkjhlaaGreatDoorSrc
namespace Go.Proofs.YtaeinllbjkjhlaaGreatDoor
open Go.RowKit
theorem opens_byte : Opens Tryz.prog 5 UInt8 := by
  intro H enc w fuel cs x h
  obtain ⟨n, hc, _, hw⟩ := DataW.trod_int Tryz.underlying5 h
  have hb : 0 ≤ n ∧ n ≤ 255 := by
    simp [Lit.wf, IntKind.min, IntKind.max, IntKind.signed, IntKind.bits] at hw
    omega
  refine ⟨UInt8.ofNat n.toNat, ?_, trivial⟩
  show cs = [.int .u8 ((UInt8.ofNat n.toNat).toNat : Int)]
  rw [hc]
  simp only [UInt8.toNat_ofNat']
  congr 2
  omega
theorem opens_bytes : Opens Tryz.prog 22 (List UInt8) := opens_slice Tryz.underlying22 (by kernel_rfl) opens_byte
end Go.Proofs.YtaeinllbjkjhlaaGreatDoor
