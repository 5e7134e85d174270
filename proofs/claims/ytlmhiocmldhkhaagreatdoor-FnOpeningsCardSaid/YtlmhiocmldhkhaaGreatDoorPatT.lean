/- Patterns in variables of a law: what becomes of them when others change. -/
import Derived.Test.YtlmhiocmldhkhaaGreatDoorPatI
namespace Go.Proofs.YtlmhiocmldhkhaaGreatDoor
open Go.RowKit

section
variable {B : Nat} {w w' : World} {b : Nat} {pa : Option Addr} {pc : Nat} {sa : Option Addr} {sc : Nat} {rs : List RawP} {p : Pattern}
theorem OwnPat.each_ty {B' : Nat} {e : TypeId} {v : Value} {xs : List RawT} (h : OwnPat B w pa pc sa sc rs p) (V : Own B' w e v xs) (he : e = 27) : (∀ r ∈ rs, Apart (blk r) v.ownBlock) ∧ Apart (Value.slice pa p.pieces.length pc).ownBlock v.ownBlock ∧ Apart (Value.slice sa p.seams.length sc).ownBlock v.ownBlock := by
  subst he
  refine ⟨fun r hr => ?_, own_apart_ty h.row V (by decide), own_apart_ty h.seams V (by decide)⟩
  obtain ⟨i, hi, rfl⟩ := List.mem_iff_getElem.1 hr
  exact own_apart_ty (h.pieces.each i hi (by rw [← h.pieces.len]; exact hi)).own V (by decide)
theorem OwnPat.keptV {B' : Nat} {v : Value} {xs : List RawT} (h : OwnPat B w pa pc sa sc rs p) (V : Own B' w 27 v xs) (hg : w.grownBy w' v.ownBlock) : OwnPat B w' pa pc sa sc rs p := by
  obtain ⟨h1, h2, h3⟩ := h.each_ty V rfl
  exact h.kept hg h1 h2 h3
theorem patW_ty (h : OwnPat B w pa pc sa sc rs p) (V : Own B w 27 (.slice (some ⟨b, 0, none⟩) 1 1) [(⟨pa, p.pieces.length, pc, sa, p.seams.length, sc, p.openings⟩ : RawT)]) : PatW B w b pa pc sa sc rs p := by
  obtain ⟨h1, h2, h3⟩ := h.each_ty V rfl
  exact ⟨h, rawT_cells3 V, h1, h2, h3⟩
end
end Go.Proofs.YtlmhiocmldhkhaaGreatDoor
