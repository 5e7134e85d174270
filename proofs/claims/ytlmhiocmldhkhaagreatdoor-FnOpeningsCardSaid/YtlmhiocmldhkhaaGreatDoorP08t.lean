/- Chapter 8, patterns: OpeningsOf, the program's and the reference's. -/
import Derived.Test.YtlmhiocmldhkhaaGreatDoorP08q
import Derived.Test.YtlmhiocmldhkhaaGreatDoorP08r
namespace Go.Proofs.YtlmhiocmldhkhaaGreatDoor
open Go.RowKit

def opOf (p : Pattern) : List Int := if okPattern p then openings p else []
def opCode (p : Pattern) : Int := if okPattern p then 0 else 1
theorem OpeningsOf_len (p : Pattern) : (opOf p).length ≤ 80 := by
  unfold opOf
  cases h : okPattern p
  · simp
  · simpa using openings_length (okp_of h)
set_option maxHeartbeats 800000 in
theorem implOpeningsOf_c (p : Pattern) (pa : Option Addr) (pc : Nat) (sa : Option Addr) (sc : Nat) (w : World) (hp : LieP w pa sa p) (hl : totPattern p ≤ 1048576) :
    Calls Tryz.prog 7 #[.agg #[.slice pa p.pieces.length pc, .slice sa p.seams.length sc, .int .i64 p.openings]] w fun en w' => ∃ v, en = .returned (.tuple #[v, .int .i64 (opCode p)]) ∧ Own w.heap.size w' 2 v (opOf p) ∧ Below w.heap.size w w' := by
  obtain ⟨w1, hw1, V, hs1, hb⟩ := patW_new p pa pc sa sc w
  obtain ⟨c0, c1, c2, _⟩ := PatV.of V (hp.below hb)
  replace hw1 := Lib.hid hw1
  replace hs1 := Lib.hid hs1
  cases h1 : okPattern p
  · have hr : opCode p = 1 := by simp [opCode, h1]
    have hr' : opOf p = [] := by simp [opOf, h1]
    rw [hr, hr']
    clear hr hr'
    go_enter Tryz.func7, Tryz.ntmps7
    go_wp2_with fail
    rw [hw1.out]
    refine (as_boolB h1 (implValidPattern_c p _ _ _ _ _ (hp.below hb) hl)).mono ?_
    rintro e w2 ⟨rfl, hb2⟩
    replace hb := upw hb hb2
    go_wp2_with fail
    go_ret2
    exact ⟨_, rfl, World.ownsRow_nil _ _ _ _, hb⟩
  · have hr : opCode p = 0 := by simp [opCode, h1]
    have hr' : opOf p = openings p := by simp [opOf, h1]
    rw [hr, hr']
    clear hr hr'
    have ok := Lib.hid (okp_of h1)
    go_enter Tryz.func7, Tryz.ntmps7
    go_wp2_with fail
    rw [hw1.out]
    refine (as_boolB h1 (implValidPattern_c p _ _ _ _ _ (hp.below hb) hl)).mono ?_
    rintro e w2 ⟨rfl, hb2⟩
    replace hb := upw hb hb2
    clear c0 c1 c2
    obtain ⟨c0, c1, c2, _⟩ := PatV.of (V.below hb2) (hp.below hb)
    have hbs := hb.size
    go_wp2_with fail
    refine (openings_c p _ _ _ _ _ (hp.below hb) hl ok.out).mono ?_
    rintro e w3 ⟨v, rfl, hO, hb3⟩
    replace hb := upw hb hb3
    go_wp2_with fail
    go_ret2
    exact ⟨_, rfl, hO.base hbs, hb⟩
end Go.Proofs.YtlmhiocmldhkhaaGreatDoor
