/- Chapter 8, patterns: how a law's own arguments read. -/
import Derived.Test.YtigaimehlcgobaaDoorP08b
namespace Go.Proofs.YtigaimehlcgobaaDoor
open Go.RowKit

def okP (p : Pattern) : Prop := p.pieces.length ≤ 9223372036854775807 ∧ p.seams.length ≤ 9223372036854775807 ∧ ∀ x ∈ p.pieces, Rep.ok x
theorem szPiece_ok (x : Piece) (a : Option Addr) (c : Nat) (l : Int) (w : World) (hk : Rep.ok x) (hn : (totPiece x : Int) ≤ l) (hl : l ≤ 1048576) :
    Calls Tryd.prog 4 #[.agg #[.string x.name, .slice a x.edges.length c], .int .i64 l] w fun e w' => e = .returned (.int .i64 (l - totPiece x)) ∧ Below w.heap.size w w' := by
  have e : leftOf (totPiece x) l = l - totPiece x := by unfold leftOf; rw [if_pos hn]
  rw [← e]; exact szPiece_any x a c l w hk (by omega) hl
theorem szPiece_no (x : Piece) (a : Option Addr) (c : Nat) (l : Int) (w : World) (hk : Rep.ok x) (hn : l < (totPiece x : Int)) (h0 : 0 ≤ l) (hl : l ≤ 1048576) :
    Calls Tryd.prog 4 #[.agg #[.string x.name, .slice a x.edges.length c], .int .i64 l] w fun e w' => e = .returned (.int .i64 (-1)) ∧ Below w.heap.size w w' := by
  have e : leftOf (totPiece x) l = -1 := by unfold leftOf; rw [if_neg (by omega)]
  rw [← e]; exact szPiece_any x a c l w hk h0 hl
theorem opens_lpiece : Opens Tryd.prog 24 Piece := by
  intro H enc w fuel cs x h
  obtain ⟨hl, n, hf⟩ := trod_fields Tryd.underlying24 (by kernel_rfl) h
  match cs, hl with
  | [v0, v1], _ =>
    obtain ⟨y0, g0⟩ := hf 0 _ v0 rfl rfl
    obtain ⟨z0, r0, k0⟩ := opens_string Tryd.underlying9 g0
    obtain ⟨y1, g1⟩ := hf 1 _ v1 rfl rfl
    obtain ⟨z1, r1, k1⟩ := opens_int64s g1
    cases r0
    obtain ⟨a, c, r1, hA⟩ := r1
    cases r1
    exact ⟨⟨z0, z1⟩, ⟨a, c, rfl, hA⟩, k0, k1.1⟩
set_option maxRecDepth 100000 in
theorem open_lpiece {H : Type} {enc : TypeId × Value → H} {w : World} {r : Reach} {b0 : Nat} {v : Value} {d : DataW H} {p : List MemPlace} (hv : Value.okWide Tryd.prog w r b0 24 v) (h : DataW.Trod enc Tryd.prog w 0 (fun _ => true) true 24 v d p) :
    ∃ (x : Piece) (pa : Option Addr) (pc : Nat), v = .agg #[.string x.name, .slice pa x.edges.length pc] ∧ At w pa x.edges ∧ Rep.ok x := by
  obtain ⟨cs, rfl, _⟩ := Go.WideShapes.okWide_struct Tryd.underlying24 hv
  obtain ⟨fuel, hf⟩ := h
  obtain ⟨x, ⟨a, c, hr, hA⟩, hk⟩ := opens_lpiece hf
  have : cs = (cs.toList).toArray := by simp
  rw [show cs.toList = [Value.string x.name, .slice a x.edges.length c] from hr] at this
  subst this
  exact ⟨x, a, c, rfl, hA, hk⟩
end Go.Proofs.YtigaimehlcgobaaDoor
