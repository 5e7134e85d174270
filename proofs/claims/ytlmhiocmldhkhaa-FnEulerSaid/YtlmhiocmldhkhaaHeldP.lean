/- Patterns: what was marked is read back (heldPieceS, heldPattern). -/
import Derived.Test.YtlmhiocmldhkhaaP08n
namespace Go.Proofs.Ytlmhiocmldhkhaa
open Go.RowKit

set_option maxHeartbeats 1600000 in
theorem heldPieceS_c (a : Option Addr) (ps : List Piece) (n c : Nat) (m : Nat) (w : World) (hx : At w a (markedP m ps)) (hn : n = ps.length) (ht : totPieces ps ≤ 1048576) (hm : m ≤ 1048576) :
    Calls Try.prog 42 #[.slice a n c, .int .i64 (m : Int)] w fun e w' => e = .returned (.int .i64 (kAt m ps ps.length : Nat)) ∧ Below w.heap.size w w' := by
  subst hn
  have hkb := Lib.hid (kAt_le m ps)
  have hst := sum_tot ps
  have hM := Lib.hid (markedP_length m ps)
  have hps : ps.length ≤ 1048576 := by unfold totPieces at ht; omega
  go_enter Try.func42, Try.ntmps42
  go_wp2
  go_loopw [1, 5] (fun q i wr => ∃ k : Nat, k ≤ ps.length ∧ i = .int .i64 k ∧ q = .int .i64 (kAt m ps k : Nat) ∧ Below w.heap.size w wr) (fun _ i _ => ps.length - (intOf i).toNat)
  case atStart => exact ⟨0, Nat.zero_le _, rfl, by simp [kAt, sumN], Below.refl _ _⟩
  case round =>
    obtain ⟨k, hk, rfl, rfl, hb⟩ := hrel
    by_cases hlt : k < ps.length
    · have hlt2 : k < (markedP m ps).length := by rw [hM.out]; exact hlt
      have hA := hx.below hb
      obtain ⟨b, off, rfl⟩ := hA.addr hlt2
      obtain ⟨ea, ec, c0, c1, hE⟩ := hA.piece hlt2
      rw [markedP_get m ps k hlt2 hlt] at c0 c1 hE
      have hk1 := hkb.out k
      have hk2 := hkb.out (k + 1)
      have E1 := Lib.hid (kAt_succ m ps k hlt)
      rw [kAt_succ m ps k hlt] at hk2
      dsimp only at c0 c1 hE
      rw [marks_length] at c1
      obtain ⟨K, hK⟩ : ∃ K, K = kAt m ps k := ⟨_, rfl⟩
      rw [← hK] at hk1 hk2 E1 c0 hE ⊢
      replace hK := Lib.hid hK
      generalize ps[k].edges.length = L at *
      have hmt := Lib.hid (fun w' => markText_c K w' (by omega))
      have g0 := rg c0
      obtain ⟨wo, hwo⟩ : ∃ wo : World, wo = wr := ⟨_, rfl⟩
      subst hwo
      have hbz := hb
      replace hb := Below.refl wo.heap.size wo
      go_wp2_with fail
      refine wp_region_quiet_below (by kernel_rfl) (by kernel_rfl) ?_
      repeat (go_big_quiet_step ((go_at_call 74; exact Calls.regrown_of (hmt.out _))))
      refine wpQuiet_nil ?_
      intro w2 hw'
      replace hb := upw hb (grown_of hw')
      have hw2 := grown_of hw'
      clear hw'
      replace c1 := kept_cell c1 hw2
      replace hE := hE.below hw2
      have hh := heldInt64S_any ea L ec ((K : Int) + 1) w2 hE (by omega) (by omega) (by omega)
      clear g0 c0
      go_wp2_with (go_at_call 76; refine hh.mono ?_; rintro e w3 ⟨rfl, hb3⟩)
      go_roundw
      case rel => exact ⟨k + 1, by omega, by go_num, by rw [E1.out]; go_num, upw (upw hbz hw2) hb3⟩
      case measure => simp [intOf]; omega
    · obtain rfl : k = ps.length := by omega
      go_wp2_with fail
      go_ret
      exact ⟨rfl, hb⟩
set_option maxHeartbeats 1600000 in
theorem heldPattern_c (p : Pattern) (pa : Option Addr) (n pc : Nat) (sa : Option Addr) (l sc : Nat) (o : Int) (w : World) (hx : LieP w pa sa (markedPat 1 p)) (hn : n = p.pieces.length) (hl : l = p.seams.length) (ht : totPattern p ≤ 1048576) (m : Int) (hm : m = 1) :
    Calls Try.prog 13 #[.agg #[.slice pa n pc, .slice sa l sc, .int .i64 o], .int .i64 m] w fun e w' => e = .returned (.int .i64 (markEnd 1 p : Nat)) ∧ Below w.heap.size w w' := by
  subst hn; subst hl; subst hm
  have l1 : totPieces p.pieces ≤ 1048576 := by unfold totPattern at ht; omega
  have l2 : p.seams.length ≤ 1048576 := by unfold totPattern at ht; omega
  have hkb := kAt_le 1 p.pieces p.pieces.length
  have hst := sum_tot p.pieces
  obtain ⟨w1, hw1⟩ : ∃ w1, w1 = w.alloc (.cells #[.slice pa p.pieces.length pc, .slice sa p.seams.length sc, .int .i64 o] 32) := ⟨_, rfl⟩
  have hb1 : Below w.heap.size w w1 := by rw [hw1]; exact new_below _ _
  have c0 : w1.cell? ⟨w.heap.size, 0, none⟩ = some (.slice pa p.pieces.length pc) := by rw [hw1]; go_simp
  have c1 : w1.cell? ⟨w.heap.size, 1, none⟩ = some (.slice sa p.seams.length sc) := by rw [hw1]; go_simp
  replace hw1 := Lib.hid hw1
  have h1 := fun w' (hb : Below w.heap.size w w') => heldPieceS_c pa p.pieces p.pieces.length pc 1 w' (hx.pieces.below hb) rfl l1 (by omega)
  have h2 := fun w' (hb : Below w.heap.size w w') => heldSeamS_any sa p.seams.length sc (kAt 1 p.pieces p.pieces.length : Nat) w' (hx.seams.below hb) (by omega) (by omega) (by omega)
  have e1 : ((1 : Nat) : Int) = 1 := rfl
  rw [e1] at h1
  have hE : Hid (markEnd 1 p = kAt 1 p.pieces p.pieces.length + 4 * p.seams.length) := Lib.hid rfl
  generalize kAt 1 p.pieces p.pieces.length = K at *
  replace h1 := Lib.hid h1
  replace h2 := Lib.hid h2
  clear e1 hx
  go_enter Try.func13, Try.ntmps13
  go_wp2_with (first | rw [← hw1.out] | (go_at_call 42; refine (h1.out _ hb1).mono ?_; rintro e w2 ⟨rfl, hb2⟩; replace c1 := kept_cell c1 hb2; have hb3 := upw hb1 hb2) | (go_at_call 43; refine (h2.out _ hb3).mono ?_; rintro e w4 ⟨rfl, hb4⟩))
  go_ret
  exact ⟨by rw [hE.out]; go_num, upw hb3 hb4⟩
end Go.Proofs.Ytlmhiocmldhkhaa
