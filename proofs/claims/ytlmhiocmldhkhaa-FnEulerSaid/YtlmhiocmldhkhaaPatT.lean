/- Patterns in variables of a law: what becomes of them when others change. -/
import Derived.Test.YtlmhiocmldhkhaaPatI
import Derived.Test.YtlmhiocmldhkhaaHeldP
namespace Go.Proofs.Ytlmhiocmldhkhaa
open Go.RowKit

section
variable {B : Nat} {w w' : World} {b : Nat} {pa : Option Addr} {pc : Nat} {sa : Option Addr} {sc : Nat} {rs : List RawP} {p : Pattern}
theorem OwnPat.each_ty {B' : Nat} {e : TypeId} {v : Value} {xs : List RawT} (h : OwnPat B w pa pc sa sc rs p) (V : Own B' w e v xs) (he : e = 32) : (∀ r ∈ rs, Apart (blk r) v.ownBlock) ∧ Apart (Value.slice pa p.pieces.length pc).ownBlock v.ownBlock ∧ Apart (Value.slice sa p.seams.length sc).ownBlock v.ownBlock := by
  subst he
  refine ⟨fun r hr => ?_, own_apart_ty h.row V (by decide), own_apart_ty h.seams V (by decide)⟩
  obtain ⟨i, hi, rfl⟩ := List.mem_iff_getElem.1 hr
  exact own_apart_ty (h.pieces.each i hi (by rw [← h.pieces.len]; exact hi)).own V (by decide)
theorem OwnPat.keptV {B' : Nat} {v : Value} {xs : List RawT} (h : OwnPat B w pa pc sa sc rs p) (V : Own B' w 32 v xs) (hg : w.grownBy w' v.ownBlock) : OwnPat B w' pa pc sa sc rs p := by
  obtain ⟨h1, h2, h3⟩ := h.each_ty V rfl
  exact h.kept hg h1 h2 h3
theorem patW_ty (h : OwnPat B w pa pc sa sc rs p) (V : Own B w 32 (.slice (some ⟨b, 0, none⟩) 1 1) [(⟨pa, p.pieces.length, pc, sa, p.seams.length, sc, p.openings⟩ : RawT)]) : PatW B w b pa pc sa sc rs p := by
  obtain ⟨h1, h2, h3⟩ := h.each_ty V rfl
  exact ⟨h, rawT_cells3 V, h1, h2, h3⟩
/-- Rows of another pattern have changed. -/
theorem PatW.past {B0 : Nat} {w0 : World} {S : Nat → Prop} (h : PatW B w b pa pc sa sc rs p) (ht : Touched S w w') (h0 : PatW B0 w0 b pa pc sa sc rs p) (hS : ∀ k, B0 ≤ k → k < w0.heap.size → ¬ S k) : PatW B w' b pa pc sa sc rs p :=
  ⟨⟨h.pat.row.touched ht fun k hk => hS k (h0.pat.row.lt k hk).1 (h0.pat.row.lt k hk).2, ⟨h.pat.pieces.len, h.pat.pieces.apart, fun i a c => ⟨(h.pat.pieces.each i a c).name, (h.pat.pieces.each i a c).len, (h.pat.pieces.each i a c).own.touched ht fun k hk => hS k (h0.pat.rowlt _ (List.getElem_mem a) k hk).1 (h0.pat.rowlt _ (List.getElem_mem a) k hk).2⟩⟩,
    h.pat.seams.touched ht fun k hk => hS k (h0.pat.seams.lt k hk).1 (h0.pat.seams.lt k hk).2, h.pat.far, h.pat.two⟩, h.var.touched ht fun k hk => hS k (h0.var.lt k hk).1 (h0.var.lt k hk).2, h.f1, h.f2, h.f3⟩
end
set_option maxRecDepth 100000 in
set_option maxHeartbeats 1600000 in
theorem markPattern_S (S : Nat → Prop) (B : Nat) (p : Pattern) (pa : Option Addr) (pc : Nat) (sa : Option Addr) (sc : Nat) (rs : List RawP) (m : Int) (w : World) (h : OwnPat B w pa pc sa sc rs p) (hu : In S (Value.slice pa p.pieces.length pc).ownBlock ∧ In S (Value.slice sa p.seams.length sc).ownBlock ∧ ∀ r ∈ rs, In S (blk r)) (hl : totPattern p ≤ 1048576) (h0 : m = 1) (hB : ∀ k, S k → k < w.heap.size) :
    Calls Try.prog 12 #[.agg #[.slice pa p.pieces.length pc, .slice sa p.seams.length sc, .int .i64 p.openings], .int .i64 m] w fun e w' => ∃ k rs', k = markEnd 1 p ∧ k ≤ 8388608 ∧ e = .returned (.int .i64 (k : Nat)) ∧ OwnPat B w' pa pc sa sc rs' (markedPat 1 p) ∧ Touched S w w' := by
  subst h0
  have l1 : totPieces p.pieces ≤ 1048576 := by unfold totPattern at hl; omega
  have l2 : p.seams.length ≤ 1048576 := by unfold totPattern at hl; omega
  have hkb := kAt_le 1 p.pieces p.pieces.length
  have hst := sum_tot p.pieces
  have hme := Lib.hid (markEnd_le 1 p hl (Nat.le_refl _))
  clear hl
  obtain ⟨w1, hw1, V, hs1, hb1⟩ := patM_new p pa pc sa sc w
  replace hs1 := Lib.hid hs1
  have HW := Lib.hid hw1
  clear hw1
  have h1 := h.later hb1
  have HT := touched_below (S := S) hb1
  have c0 := V.cell 0 _ rfl
  have c1 := V.cell 1 _ rfl
  have HC := markPieceS_c (fun k => S k ∧ (Value.slice sa p.seams.length sc).ownBlock ≠ some k) B _ rs p.pieces 1 w1 ⟨h1.row, h1.pieces, fun r hr => (h1.far r hr).1⟩ (in_apart hu.1 h1.two.symm) (fun r hr => in_apart (hu.2.2 r hr) (h1.far r hr).2) l1 (by omega)
  have e1 : ((1 : Nat) : Int) = 1 := rfl
  rw [e1] at HC
  clear e1
  replace HC := Lib.hid HC
  have hS := Lib.hid (h1.seams)
  replace h := Lib.hid h
  replace hu := Lib.hid hu
  clear h1
  go_enter Try.func12, Try.ntmps12
  go_wp2_with fail
  rw [HW.out]
  refine HC.out.mono ?_
  rintro e w2 ⟨rfl, ⟨rs', hmap, hPP⟩, hT2⟩
  clear c0
  have c1 := touched_cell' c1 hT2 (fun k => by have := hB _ k.1; omega)
  have hS2 := hS.out.touched hT2 (fun k hk e => e.2 hk)
  have HT := HT.trans (hT2.mono fun k h => h.1)
  replace hmap := Lib.hid hmap
  obtain ⟨K, hK⟩ : ∃ K, K = kAt 1 p.pieces p.pieces.length := ⟨_, rfl⟩
  rw [← hK] at hkb ⊢
  have hE := Lib.hid (show K + 4 * p.seams.length = markEnd 1 p by unfold markEnd; rw [hK])
  replace hK := Lib.hid hK
  have hpp := Lib.hid hPP
  have hc := Lib.hid (markSeamS_any B _ _ (K : Int) w2 hS2 (by omega) (by omega) (by omega))
  clear hPP hT2 hS2
  go_wp2_with fail
  refine hc.out.mono ?_
  rintro e w3 ⟨rfl, hO3, hg3⟩
  go_wp2_with fail
  go_ret
  refine ⟨K + 4 * p.seams.length, rs', hE.out, ?_, ?_, ?_, HT.trans (touched_grown hg3 hu.out.2.1)⟩
  · rw [hE.out]; exact hme.out
  · congr 2
  · have hmem : ∀ r ∈ rs', ∃ q ∈ rs, blk q = blk r := fun r hr => by
      have : blk r ∈ rs'.map blk := List.mem_map.2 ⟨r, hr, rfl⟩
      rw [hmap.out] at this
      obtain ⟨q, hq, e⟩ := List.mem_map.1 this
      exact ⟨q, hq, e⟩
    have hne : ∀ r ∈ rs', Apart (blk r) (Value.slice sa p.seams.length sc).ownBlock := fun r hr => by
      obtain ⟨q, hq, e⟩ := hmem r hr
      rw [← e]; exact (h.out.far q hq).2
    have hpl : (markedPat 1 p).pieces.length = p.pieces.length := markedP_length _ _
    have hsl : (markedPat 1 p).seams.length = p.seams.length := marksSeam_length _ _
    refine ⟨?_, ⟨?_, hpp.out.pieces.apart, fun i a b => ?_⟩, ?_, fun r hr => ?_, ?_⟩
    · rw [hpl]; exact hpp.out.row.kept hg3 h.out.two.symm
    · exact hpp.out.pieces.len
    · have := hpp.out.pieces.each i a b
      exact ⟨this.name, this.len, this.own.kept hg3 (hne _ (List.getElem_mem a))⟩
    · rw [hsl]; rw [hK.out] at hO3; exact hO3
    · rw [hpl, hsl]; exact ⟨hpp.out.far r hr, hne r hr⟩
    · rw [hpl, hsl]; exact h.out.two
end Go.Proofs.Ytlmhiocmldhkhaa
