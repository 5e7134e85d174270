/- Chapter 8, patterns: how a law's own arguments read. -/
import Derived.Test.YtlmhiocmldhkhaaP08b
namespace Go.Proofs.Ytlmhiocmldhkhaa
open Go.RowKit

def okP (p : Pattern) : Prop := p.pieces.length ≤ 9223372036854775807 ∧ p.seams.length ≤ 9223372036854775807 ∧ ∀ x ∈ p.pieces, Rep.ok x
theorem szPattern_ok (p : Pattern) (pa : Option Addr) (pc : Nat) (sa : Option Addr) (sc : Nat) (l : Int) (w : World) (hp : LieP w pa sa p) (hk : okP p) (hn : (totPattern p : Int) ≤ l) (hl : l ≤ 1048576) :
    Calls Try.prog 6 #[.agg #[.slice pa p.pieces.length pc, .slice sa p.seams.length sc, .int .i64 p.openings], .int .i64 l] w fun e w' => e = .returned (.int .i64 (l - totPattern p)) ∧ Below w.heap.size w w' := by
  have e : leftOf (totPattern p) l = l - totPattern p := by unfold leftOf; rw [if_pos hn]
  rw [← e]; exact szPattern_any p pa pc sa sc l w hp hk.1 hk.2.1 hk.2.2 (by omega) hl
theorem szPattern_no (p : Pattern) (pa : Option Addr) (pc : Nat) (sa : Option Addr) (sc : Nat) (l : Int) (w : World) (hp : LieP w pa sa p) (hk : okP p) (hn : l < (totPattern p : Int)) (h0 : 0 ≤ l) (hl : l ≤ 1048576) :
    Calls Try.prog 6 #[.agg #[.slice pa p.pieces.length pc, .slice sa p.seams.length sc, .int .i64 p.openings], .int .i64 l] w fun e w' => e = .returned (.int .i64 (-1)) ∧ Below w.heap.size w w' := by
  have e : leftOf (totPattern p) l = -1 := by unfold leftOf; rw [if_neg (by omega)]
  rw [← e]; exact szPattern_any p pa pc sa sc l w hp hk.1 hk.2.1 hk.2.2 h0 hl
theorem szPiece_ok (x : Piece) (a : Option Addr) (c : Nat) (l : Int) (w : World) (hk : Rep.ok x) (hn : (totPiece x : Int) ≤ l) (hl : l ≤ 1048576) :
    Calls Try.prog 58 #[.agg #[.string x.name, .slice a x.edges.length c], .int .i64 l] w fun e w' => e = .returned (.int .i64 (l - totPiece x)) ∧ Below w.heap.size w w' := by
  have e : leftOf (totPiece x) l = l - totPiece x := by unfold leftOf; rw [if_pos hn]
  rw [← e]; exact szPiece_any x a c l w hk (by omega) hl
theorem szPiece_no (x : Piece) (a : Option Addr) (c : Nat) (l : Int) (w : World) (hk : Rep.ok x) (hn : l < (totPiece x : Int)) (h0 : 0 ≤ l) (hl : l ≤ 1048576) :
    Calls Try.prog 58 #[.agg #[.string x.name, .slice a x.edges.length c], .int .i64 l] w fun e w' => e = .returned (.int .i64 (-1)) ∧ Below w.heap.size w w' := by
  have e : leftOf (totPiece x) l = -1 := by unfold leftOf; rw [if_neg (by omega)]
  rw [← e]; exact szPiece_any x a c l w hk h0 hl
theorem opens_lpiece : Opens Try.prog 87 Piece := by
  intro H enc w fuel cs x h
  obtain ⟨hl, n, hf⟩ := trod_fields Try.underlying87 (by kernel_rfl) h
  match cs, hl with
  | [v0, v1], _ =>
    obtain ⟨y0, g0⟩ := hf 0 _ v0 rfl rfl
    obtain ⟨z0, r0, k0⟩ := opens_string Try.underlying9 g0
    obtain ⟨y1, g1⟩ := hf 1 _ v1 rfl rfl
    obtain ⟨z1, r1, k1⟩ := opens_int64s g1
    cases r0
    obtain ⟨a, c, r1, hA⟩ := r1
    cases r1
    exact ⟨⟨z0, z1⟩, ⟨a, c, rfl, hA⟩, k0, k1.1⟩
set_option maxRecDepth 100000 in
theorem open_lpiece {H : Type} {enc : TypeId × Value → H} {w : World} {r : Reach} {b0 : Nat} {v : Value} {d : DataW H} {p : List MemPlace} (hv : Value.okWide Try.prog w r b0 87 v) (h : DataW.Trod enc Try.prog w 0 (fun _ => true) true 87 v d p) :
    ∃ (x : Piece) (pa : Option Addr) (pc : Nat), v = .agg #[.string x.name, .slice pa x.edges.length pc] ∧ At w pa x.edges ∧ Rep.ok x := by
  obtain ⟨cs, rfl, _⟩ := Go.WideShapes.okWide_struct Try.underlying87 hv
  obtain ⟨fuel, hf⟩ := h
  obtain ⟨x, ⟨a, c, hr, hA⟩, hk⟩ := opens_lpiece hf
  have : cs = (cs.toList).toArray := by simp
  rw [show cs.toList = [Value.string x.name, .slice a x.edges.length c] from hr] at this
  subst this
  exact ⟨x, a, c, rfl, hA, hk⟩
theorem opens_lpieces : Opens Try.prog 22 (List Piece) := opens_slice Try.underlying22 (by kernel_rfl) opens_lpiece
set_option maxRecDepth 100000 in
theorem open_lpattern {H : Type} {enc : TypeId × Value → H} {w : World} {r : Reach} {b0 : Nat} {v : Value} {d : DataW H} {p : List MemPlace} (hv : Value.okWide Try.prog w r b0 25 v) (h : DataW.Trod enc Try.prog w 0 (fun _ => true) true 25 v d p) :
    ∃ (x : Pattern) (pa : Option Addr) (pc : Nat) (sa : Option Addr) (sc : Nat), v = .agg #[.slice pa x.pieces.length pc, .slice sa x.seams.length sc, .int .i64 x.openings] ∧ LieP w pa sa x ∧ okP x := by
  obtain ⟨cs, rfl, _⟩ := Go.WideShapes.okWide_struct Try.underlying25 hv
  obtain ⟨fuel, hf⟩ := h
  have hf' : DataW.trod enc Try.prog w 0 (fun _ => true) true fuel 25 cs.toList = some (d, p) := hf
  obtain ⟨hl, n, hg⟩ := trod_fields Try.underlying25 (by kernel_rfl) hf'
  have hcs : cs = (cs.toList).toArray := by simp
  generalize cs.toList = l at hl hg hcs
  match l, hl with
  | [v0, v1, v2], _ =>
    obtain ⟨y0, g0⟩ := hg 0 _ v0 rfl rfl
    obtain ⟨z0, ⟨pa, pc, r0, hA0⟩, k0⟩ := opens_lpieces g0
    obtain ⟨y1, g1⟩ := hg 1 _ v1 rfl rfl
    obtain ⟨z1, ⟨sa, sc, r1, hA1⟩, k1⟩ := opens_lseams g1
    obtain ⟨y2, g2⟩ := hg 2 _ v2 rfl rfl
    obtain ⟨z2, r2, k2⟩ := opens_int Try.underlying2 g2
    cases r0; cases r1; cases r2
    subst hcs
    exact ⟨⟨z0, z1, z2⟩, pa, pc, sa, sc, rfl, ⟨hA0, hA1⟩, k0.1, k1.1, k0.2⟩
end Go.Proofs.Ytlmhiocmldhkhaa
