/- FnGrowth, what the law's lists hold. -/
import Derived.Test.YtokoallbhbgkkaaG06
import Derived.Test.YtokoallbhbgkkaaA2
namespace Go.Proofs.Ytokoallbhbgkkaa
open Go.RowKit

def onLine (r : Int) (f : Foot) (d : Int) : Foot := ⟨2000 + r * d, f.Ball, f.Instep, f.Heel⟩
def longer (f : Foot) : Foot := ⟨f.Length + 100, f.Ball, f.Instep, f.Heel⟩
def straightL (r : Int) (fs : List Foot) (ds : List Int) : List Foot := List.zipWith (onLine r) fs ds
theorem straight_length {r : Int} {fs : List Foot} {ds : List Int} (h : ds.length = fs.length) : (straightL r fs ds).length = fs.length := by simp [straightL, h]
theorem straight_lens (r : Int) : ∀ (fs : List Foot) (ds : List Int), ds.length = fs.length → lens (straightL r fs ds) = ds.map fun d => 2000 + r * d
  | [], [], _ => rfl
  | f :: fs, d :: ds, h => by
    have ih := straight_lens r fs ds (by simpa using h)
    simp only [lens, straightL, List.zipWith_cons_cons, List.map_cons] at ih ⊢
    rw [ih]; rfl
theorem longer_lens (fs : List Foot) : lens (fs.map longer) = (lens fs).map fun l => l + 100 := by simp [lens, longer, Function.comp_def]
theorem near_okF {f : Foot} (h : NearF f) : okFoot f = true := by
  rw [okFoot_iff]
  have h1 := h.length; have h2 := h.ball; have h3 := h.instep; have h4 := h.heel
  omega
theorem growF_more {ds : List Int} {fs : List Foot} (h : ds.length = fs.length) : growF ds (fs.map longer) = growF ds fs := by
  unfold growF
  rw [longer_lens, numG_more 100 ds (lens fs) (by rw [lens_length]; exact h), List.length_map]
theorem line_ok {r : Int} {fs : List Foot} {ds : List Int} (hr : 0 ≤ r ∧ r ≤ 1) (D : DaysOk ds fs) (hn : ∀ f ∈ fs, NearF f) : DaysOk ds (straightL r fs ds) ∧ DaysOk ds (fs.map longer) := by
  have hl := straight_length (r := r) D.len
  refine ⟨⟨by rw [hl]; exact D.len, by rw [hl]; exact D.n8, D.rise, D.day, fun f hf => ?_⟩, ⟨by simp [D.len], by simp [D.n8], D.rise, D.day, fun f hf => ?_⟩⟩
  · obtain ⟨i, hi, rfl⟩ := List.mem_iff_getElem.1 hf
    have h1 : i < fs.length := by rw [hl] at hi; exact hi
    have h2 : i < ds.length := by rw [D.len]; exact h1
    have e : (straightL r fs ds)[i] = onLine r fs[i] ds[i] := List.getElem_zipWith
    have hd := D.day _ (List.getElem_mem h2)
    have hf := hn _ (List.getElem_mem h1)
    have b2 := hf.ball; have b3 := hf.instep; have b4 := hf.heel
    rw [e, okFoot_iff]
    unfold onLine
    have hrd : 0 ≤ r * ds[i] ∧ r * ds[i] ≤ 2000 := by rcases (by omega : r = 0 ∨ r = 1) with rfl | rfl <;> omega
    dsimp only
    omega
  · obtain ⟨f', hf', rfl⟩ := List.mem_map.1 hf
    have hf := hn _ hf'
    have b1 := hf.length; have b2 := hf.ball; have b3 := hf.instep; have b4 := hf.heel
    rw [okFoot_iff]
    unfold longer
    dsimp only
    omega
theorem growF_line {r : Int} {fs : List Foot} {ds : List Int} (hr : 0 ≤ r ∧ r ≤ 1) (D : DaysOk ds fs) (hn : ∀ f ∈ fs, NearF f) (h2 : 2 ≤ fs.length) : growF ds (straightL r fs ds) = (r, 1, 0) := by
  obtain ⟨D1, _⟩ := line_ok hr D hn
  have hl := straight_length (r := r) D.len
  have hp := denG_pos D.rise (by rw [D.len]; exact h2)
  obtain ⟨e1, e2⟩ := line_low r hr hp (straight_lens r fs ds D.len)
  unfold growF
  rw [if_neg (by rw [hl]; omega), e1, e2]
/-- Two lists of feet, of the call's own. -/
structure TwoL (B : Nat) (w : World) (v u : Value) (xs ys : List Foot) : Prop where
  o8 : Own B w 39 v xs
  o9 : Own B w 39 u ys
  ap : ApartG v.ownBlock u.ownBlock
theorem TwoL.later {B : Nat} {w w' : World} {v u : Value} {xs ys : List Foot} (h : TwoL B w v u xs ys) (hb : Below w.heap.size w w') : TwoL B w' v u xs ys := ⟨h.o8.later hb, h.o9.later hb, h.ap⟩
theorem TwoL.mark {B bx : Nat} {w w' w0 : World} {v u : Value} {xs ys : List Foot} (h : TwoL B w v u xs ys) (h0 : TwoL B w0 v u xs ys) (hx : w0.heap.size ≤ bx) (hg : w.grownBy w' (some bx)) : TwoL B w' v u xs ys := by
  refine ⟨h.o8.kept hg ?_, h.o9.kept hg ?_, h.ap⟩
  · cases hv : v.ownBlock with
    | none => exact Or.inl rfl
    | some k => right; intro e; have := h0.o8.lt k hv; have := Option.some.inj e; omega
  · cases hv : u.ownBlock with
    | none => exact Or.inl rfl
    | some k => right; intro e; have := h0.o9.lt k hv; have := Option.some.inj e; omega
theorem TwoL.push8 {B g' cap : Nat} {w w' : World} {v u : Value} {xs ys : List Foot} {x : Foot} (h : TwoL B w v u xs ys) (hO : Own B w' 39 (.slice (some ⟨g', 0, none⟩) (xs.length + 1) cap) (xs ++ [x])) (hg : w.grownBy w' v.ownBlock) (hl : v.ownBlock = some g' ∨ g' = w.heap.size) :
    TwoL B w' (.slice (some ⟨g', 0, none⟩) (xs.length + 1) cap) u (xs ++ [x]) ys := by
  refine ⟨hO, h.o9.kept hg ?_, ?_⟩
  · rcases h.ap with e | e
    · rw [e]; cases u.ownBlock with
      | none => exact Or.inl rfl
      | some k => exact Or.inr (by simp)
    · exact Or.inr fun e' => e e'.symm
  · right
    intro e'
    have e' : some g' = u.ownBlock := e'
    have hlt := h.o9.lt g' e'.symm
    rcases hl with hl | hl
    · rcases h.ap with e | e
      · rw [e] at hl; cases hl
      · exact e (hl.trans e')
    · omega
theorem TwoL.push9 {B g' cap : Nat} {w w' : World} {v u : Value} {xs ys : List Foot} {x : Foot} (h : TwoL B w v u xs ys) (hO : Own B w' 39 (.slice (some ⟨g', 0, none⟩) (ys.length + 1) cap) (ys ++ [x])) (hg : w.grownBy w' u.ownBlock) (hl : u.ownBlock = some g' ∨ g' = w.heap.size) :
    TwoL B w' v (.slice (some ⟨g', 0, none⟩) (ys.length + 1) cap) xs (ys ++ [x]) := by
  refine ⟨h.o8.kept hg h.ap, hO, ?_⟩
  cases hv : v.ownBlock with
  | none => exact Or.inl rfl
  | some k =>
    right
    intro e'
    have e' : k = g' := Option.some.inj e'
    subst e'
    have hlt := h.o8.lt k hv
    rcases hl with hl | hl
    · rcases h.ap with e | e
      · rw [e] at hv; cases hv
      · exact e (hv.trans hl.symm)
    · omega
end Go.Proofs.Ytokoallbhbgkkaa
