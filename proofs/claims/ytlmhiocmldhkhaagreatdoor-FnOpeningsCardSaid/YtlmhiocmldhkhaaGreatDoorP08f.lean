/- Chapter 8, patterns: open edges, as the program has them. -/
import Derived.Test.YtlmhiocmldhkhaaGreatDoorP08e
import Derived.Lib.SliceRun
namespace Go.Proofs.YtlmhiocmldhkhaaGreatDoor
open Go.RowKit

theorem joined_ok (p : Pattern) (pa : Option Addr) (pc : Nat) (sa : Option Addr) (sc : Nat) (w : World) (hp : LieP w pa sa p) (hl : totPattern p ≤ 1048576) (ok : Okp p) :
    Calls Tryz.prog 39 #[.agg #[.slice pa p.pieces.length pc, .slice sa p.seams.length sc, .int .i64 p.openings]] w fun en w' => ∃ r, en = .returned (.map (some r)) ∧ w.heap.size ≤ r ∧ MapAt ev w' r (PP8 p) ∧ Below w.heap.size w w' := by
  rw [← joinTo_ok ok]; exact joined_c p pa pc sa sc w hp hl
theorem zeroEdge (w : World) : (zeroValue 54).run Tryz.prog w = .ok (.agg #[.int .i64 0, .int .i64 0]) w := by kernel_rfl
theorem look_ok {w : World} {r : Nat} {p : Pattern} (h : MapAt ev w r (PP8 p)) (e : Edge) (b : Bool) :
    (Instr.lookup 78 (.map (some r)) (.agg #[.int .i64 e.piece, .int .i64 e.number]) b).run Tryz.prog w = .ok (if b then .tuple #[((mate p e).map ev).getD (.agg #[.int .i64 0, .int .i64 0]), .bool (mate p e).isSome] else ((mate p e).map ev).getD (.agg #[.int .i64 0, .int .i64 0])) w :=
  h.look Tryz.underlying78 e (zeroEdge w) b
theorem openEdges1_c (p : Pattern) (r b : Nat) (e : Edge) (w : World) (hM : MapAt ev w r (PP8 p)) (hc : w.cell? ⟨b, 0, none⟩ = some (.map (some r))) :
    Calls Tryz.prog 42 #[.agg #[.int .i64 e.piece, .int .i64 e.number], .pointer (some ⟨b, 0, none⟩)] w fun en w' => en = .returned (.bool (!isOpen p e)) ∧ Below w.heap.size w w' := by
  have hbl := block_lt_of_cell hc
  simp only at hbl
  have hb1 := new_below w (.cells #[.int .i64 e.piece, .int .i64 e.number] 54)
  have hk := look_ok (hM.below hb1) e true
  have hb2 : Below w.heap.size w ((w.alloc (.cells #[.int .i64 e.piece, .int .i64 e.number] 54)).alloc (.cells #[.int .i64 0, .int .i64 0] 54)) := upw hb1 (new_below _ _)
  cases hm : mate p e with
  | none =>
    have ho : isOpen p e = true := by simp [isOpen, hm]
    rw [hm] at hk
    rw [ho]
    replace ho := Lib.hid ho
    replace hm := Lib.hid hm
    simp only [Option.map_none, Option.getD_none, Option.isSome_none, if_true] at hk
    go_enter Tryz.func42, Tryz.ntmps42
    go_wp2_with fail
    go_ret
    exact ⟨rfl, upw hb1 (new_below _ _)⟩
  | some m =>
    have ho : isOpen p e = false := by simp [isOpen, hm]
    rw [hm] at hk
    rw [ho]
    replace ho := Lib.hid ho
    replace hm := Lib.hid hm
    simp only [Option.map_some, Option.getD_some, Option.isSome_some, if_true, ev, ek] at hk
    go_enter Tryz.func42, Tryz.ntmps42
    go_wp2_with fail
    go_ret
    exact ⟨rfl, upw hb1 (new_below _ _)⟩
theorem openEdges1_enters : Enters Tryz.prog 42 := enters_of Tryz.func42 (by kernel_rfl) (by kernel_rfl)
set_option maxHeartbeats 400000 in
theorem indexEdges_any (a : Option Addr) (xs : List Edge) (c : Nat) (K : Nat) (cap : Array Value) (p : Edge → Bool) (w : World) (hK : Enters Tryz.prog K) (hx : At w a xs) (hl : xs.length ≤ 9223372036854775807)
    (hf : ∀ x ∈ xs, ∀ w', Below w.heap.size w w' → Calls Tryz.prog K (#[.agg #[.int .i64 x.piece, .int .i64 x.number]] ++ cap) w' fun e w'' => e = .returned (.bool (p x)) ∧ Below w'.heap.size w' w'') :
    Calls Tryz.prog 68 #[.slice a xs.length c, .func (.func K) #[] cap] w fun e w' => e = .returned (.int .i64 (firstIdx p xs)) ∧ Below w.heap.size w w' := by
  have HF := Lib.hid hf
  clear hf
  unfold Enters at hK
  go_enter Tryz.func68, Tryz.ntmps68
  go_wp2
  go_loopw [8] (fun i wr => ∃ k : Nat, k ≤ xs.length ∧ i = .int .i64 k ∧ Nosofar p xs k ∧ Below w.heap.size w wr) (fun i _ => xs.length - (intOf i).toNat)
  case atStart => exact ⟨0, Nat.zero_le _, rfl, nosofar_zero, Below.refl _ _⟩
  case round =>
    obtain ⟨k, hk, rfl, hs, hb⟩ := hrel
    have HS := Lib.hid hs
    clear hs
    replace hx := hx.below hb
    by_cases hlt : k < xs.length
    · obtain ⟨b, off, rfl⟩ := hx.addr hlt
      obtain ⟨c0, c1⟩ := hx.edge hlt
      cases hp : p xs[k]
      · go_wp2_with fail
        refine (HF.out _ (List.getElem_mem hlt) _ hb).mono ?_
        rintro e w2 ⟨rfl, hb2⟩
        replace hb := upw hb hb2
        go_wp2_with fail
        go_roundw
        case rel => exact ⟨k + 1, by omega, by go_num, nosofar_succ HS.out hp, hb⟩
        case measure => simp [intOf]; omega
      · go_wp2_with fail
        refine (HF.out _ (List.getElem_mem hlt) _ hb).mono ?_
        rintro e w2 ⟨rfl, hb2⟩
        replace hb := upw hb hb2
        go_wp2_with fail
        go_ret
        exact ⟨ret_int (firstIdx_some hlt HS.out hp).symm, hb⟩
    · go_wp2
      go_ret
      exact ⟨ret_int (firstIdx_none (by omega) HS.out).symm, hb⟩
end Go.Proofs.YtlmhiocmldhkhaaGreatDoor
