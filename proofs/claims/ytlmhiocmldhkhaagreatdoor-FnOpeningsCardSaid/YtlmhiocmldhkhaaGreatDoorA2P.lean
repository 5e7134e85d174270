/- The pattern of some bytes. -/
import Derived.Test.YtlmhiocmldhkhaaGreatDoorDrw3
namespace Go.Proofs.YtlmhiocmldhkhaaGreatDoor
open Go.RowKit

set_option maxHeartbeats 1000000 in
theorem A2Pattern_c (a : Option Addr) (L : List UInt8) (c : Nat) (w : World) (hx : At w a L) (hl : L.length ≤ 9223372036854775807) :
    Calls Tryz.prog 5 #[.slice a L.length c] w fun e w' => ∃ (p : Pattern) (pa : Option Addr) (pc : Nat) (sa : Option Addr) (sc : Nat), e = .returned (.agg #[.slice pa p.pieces.length pc, .slice sa p.seams.length sc, .int .i64 p.openings]) ∧ (∃ rs, OwnPat w.heap.size w' pa pc sa sc rs p) ∧ Okp p ∧ Below w.heap.size w w' := by
  obtain ⟨w1, hw1⟩ : ∃ w1, w1 = w.alloc (.cells #[.slice none 0 0, .slice none 0 0, .int .i64 0] 27) := ⟨_, rfl⟩
  have hb : Below w.heap.size w w1 := by rw [hw1]; exact new_below _ _
  have hs1 : w1.heap.size = w.heap.size + 1 := by rw [hw1]; simp
  have hR : Own w.heap.size w1 27 (.slice (some ⟨w.heap.size, 0, none⟩) 1 1) [zeroT] := by rw [hw1]; exact own_rawT w _ zeroT
  replace hw1 := Lib.hid hw1
  replace hR := Lib.hid hR
  replace hs1 := Lib.hid hs1
  go_enter Tryz.func5, Tryz.ntmps5
  go_wp2_with (rw [← hw1.out])
  refine (l00From_c a L c w1 (hx.below hb) hl).mono ?_
  rintro e w2 ⟨rfl, hS, hb2⟩
  replace hR := Lib.hid (hR.out.later hb2)
  go_wp2_with fail
  refine (l08Draw_c w1.heap.size 0 w2 (hS.less (by omega))).mono ?_
  rintro e w3 ⟨p, pa, pc, sa, sc, rfl, ⟨rs, hP⟩, hok, _, hg⟩
  have hb3 := drew_up hb2 hg (Nat.le_refl _)
  have hsz := hb2.size
  replace hR := Lib.hid (hR.out.kept hg (Or.inr (ne_blkP (by have := hs1.out; omega))))
  replace hb := upw hb hb3
  clear hb2 hb3 hg hS
  replace hP := Lib.hid hP
  have hs2 := hs1.out
  go_wp2_with ((with_reducible refine at_st 27 (.tmp 2) (.tmp 5) ?_); refine wpList_store_own rfl 27 (.tmp 2) (.tmp 5) rfl w.heap.size 27 _ 1 1 [zeroT] 0 _ (⟨pa, p.pieces.length, pc, sa, p.seams.length, sc, p.openings⟩ : RawT) rfl rfl rfl (by kernel_rfl) rfl hR.out (by simp) ?_; intro wz hRz hgz)
  obtain ⟨q0, q1, q2⟩ := rawT_cells hRz
  have hbz := below_mark hb hR.out (Nat.le_refl _) hgz
  refine bodyPost_ret (v := .agg #[.slice pa p.pieces.length pc, .slice sa p.seams.length sc, .int .i64 p.openings]) (by simp [results, Tryz.results5, go_sem, q0, q1, q2]) rfl ?_
  exact ⟨p, pa, pc, sa, sc, rfl, ⟨rs, (hP.out.keptV hR.out hgz).base (by omega)⟩, hok, hbz⟩
end Go.Proofs.YtlmhiocmldhkhaaGreatDoor
