/- Chapter 9: what is drawn for notches. -/
import Derived.Test.YtledlkggggpdpaaGreatDoorSrc
import Derived.Test.YtledlkggggpdpaaGreatDoorL09e
import Derived.Test.YtledlkggggpdpaaGreatDoorL09m
import Derived.Deep.RegionHeld3
import Derived.Test.YtledlkggggpdpaaGreatDoorSmall
namespace Go.Proofs.YtledlkggggpdpaaGreatDoor
open Go.RowKit

/-- Of Go's int64. -/
def I64 (v : Int) : Prop := -9223372036854775808 ≤ v ∧ v ≤ 9223372036854775807
theorem drew_mark {α : Type} [Flat α] {B' g : Nat} {w wn w' : World} {e : TypeId} {v : Value} {xs : List α} (hG : w.grownBy wn (some g)) (hO : Own B' wn e v xs) (hB : w.heap.size ≤ B') (hg : wn.grownBy w' v.ownBlock) : w.grownBy w' (some g) := by
  refine ⟨hg.os.trans hG.os, hg.tape.trans hG.tape, hg.output.trans hG.output, Nat.le_trans hG.size hg.size, fun k hk hne => ?_⟩
  rw [hg.block k (Nat.lt_of_lt_of_le hk hG.size) (fun e => by have := hO.lt k e.symm; omega)]
  exact hG.block k hk hne
theorem SrcAt.mark {α : Type} [Flat α] {B' g M : Nat} {wn w' : World} {e : TypeId} {v : Value} {xs : List α} (hS : SrcAt wn g M) (hO : Own B' wn e v xs) (hB : g < B') (hg : wn.grownBy w' v.ownBlock) : SrcAt w' g M :=
  SrcAt.kept (row := v.ownBlock) hS hg (fun k hk => Nat.lt_of_lt_of_le hB (Own.lt (α := α) (xs := xs) hO k hk).1)
theorem results_tmp5 {fn : Func} {t u v x y : Tmp} (h : fn.results = #[.tmp t, .tmp u, .tmp v, .tmp x, .tmp y]) (tmps : Array Value) (P : Program) (w : World) :
    (results fn tmps).run P w = .ok (.tuple #[tmps.getD t undef, tmps.getD u undef, tmps.getD v undef, tmps.getD x undef, tmps.getD y undef]) w := by
  simp [results, h]
theorem Own.offA {α : Type} [Flat α] {B g : Nat} {w : World} {e : TypeId} {a : Option Addr} {n c : Nat} {xs : List α} (h : Own B w e (.slice a n c) xs) (hB : g < B) : xs = [] ∨ Off a g := by
  refine Or.inr fun b o e => ?_
  subst e
  have := h.lt b rfl
  omega
theorem notches_len (n : Int) (xs : List Int) : (notches n xs).length ≤ xs.length := by
  unfold notches; split <;> simp
theorem own_cap3 {α : Type} [Flat α] {B : Nat} {w : World} {e : TypeId} {g n c : Nat} {xs : List α} (h : Own B w e (.slice (some ⟨g, 0, none⟩) n c) xs) : xs.length ≤ c ∧ c ≤ maxLen := by
  rcases h.2 with ⟨h', _⟩ | ⟨g', cap', cur, h', hb, hg, hnc, hcm, hcs, htake⟩
  · simp at h'
  · simp only [Value.slice.injEq, Option.some.injEq, Addr.mk.injEq, and_true] at h'
    obtain ⟨rfl, _, rfl⟩ := h'
    exact ⟨hnc, hcm⟩
end Go.Proofs.YtledlkggggpdpaaGreatDoor
