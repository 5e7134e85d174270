/- Chapter 7, hulls: the walk of the program's hullOf. -/
import Derived.Test.YtlaclknhenccdaaSortUse
namespace Go.Proofs.Ytlaclknhenccdaa
open Go.RowKit Go.Sort

theorem chain_le (xs : List Spot) : (chain xs).length ≤ xs.length := by
  have h := chTo_length xs xs.length
  rw [chTo_full xs _ (Nat.le_refl _)] at h
  unfold chain; simp; omega
theorem Own.sl {α : Type} [Flat α] {B : Nat} {w : World} {e : TypeId} {v : Value} {xs : List α} (h : Own B w e v xs) : ∃ a c, v = .slice a xs.length c ∧ (a = none → c = 0) ∧ At w a xs := by
  rcases h.cases with ⟨rfl, rfl⟩ | ⟨g, cap, rfl⟩
  · exact ⟨none, 0, rfl, fun _ => rfl, At.nil _ _⟩
  · exact ⟨_, cap, rfl, (fun e => nomatch e), h.at'⟩
set_option maxRecDepth 100000 in
set_option maxHeartbeats 400000 in
theorem hullOf_c (a : Option Addr) (xs : List Spot) (c : Nat) (w : World) (hx : At w a xs) (hl : xs.length ≤ 24) (h0 : 0 < xs.length) (hok : ∀ p ∈ xs, okSpot p = true) :
    Calls Try.prog 135 #[.slice a xs.length c] w fun e w' => ∃ v ys, e = .returned v ∧ ys.Perm xs ∧ ys.Pairwise (fun p q => before q p = false) ∧ Own w.heap.size w' 83 v (chain ys ++ chain ys.reverse) ∧ Below w.heap.size w w' := by
  replace hok := Lib.hid hok
  have hsn : a = none → c = 0 := fun e => by
    obtain ⟨b, off, h⟩ := hx.addr h0
    rw [e] at h; cases h
  go_enter Try.func135, Try.ntmps135
  go_wp2_with fail
  refine (cloneSpots_any _ _ _ _ hx (by omega) hsn).mono ?_
  rintro e w1 ⟨v1, rfl, hO1, hb1⟩
  obtain ⟨g, cap, rfl⟩ := hO1.row h0
  go_wp2_with fail
  refine (sort_c _ _ _ _ _ hO1 hl).mono ?_
  rintro e w2 ⟨rfl, ys, hp, hs, hO2, hb2⟩
  have hlen := hp.length_eq
  have hoky : Hid (∀ p ∈ ys, okSpot p = true) := Lib.hid fun p h => hok.out p (hp.mem_iff.1 h)
  have hpp := Lib.hid hp
  replace hs := Lib.hid hs
  clear hp
  replace hb2 : Below w.heap.size w w2 := hb1.trans hb2
  rw [hlen] at hO2
  have hc3 := chain_c _ ys cap _ hO2.at' (by omega) (by omega) hoky.out
  rw [hlen] at hc3
  go_wp2_with fail
  refine hc3.mono ?_
  clear hc3
  rintro e w3 ⟨v3, rfl, hO3, hb3⟩
  have hap := own_apart hO2 hO3 (Nat.le_refl _)
  replace hO2 := hO2.later hb3
  have hb4 := upw hb2 hb3
  go_wp2_with fail
  refine (reverseSpots_c _ _ _ _ hO2 (by omega)).mono ?_
  rintro e w4 ⟨rfl, hO4, hg4⟩
  replace hO3 := hO3.kept hg4 hap
  have hb5 := below_mark hb4 hO2 (Nat.le_refl _) hg4
  have hlr : ys.reverse.length = xs.length := by simp [hlen]
  have hc5 := chain_c _ ys.reverse cap _ hO4.at' (by omega) (by omega) (fun p h => hoky.out p (List.mem_reverse.1 h))
  rw [hlr] at hc5
  go_wp2_with fail
  refine hc5.mono ?_
  clear hc5
  rintro e w5 ⟨v5, rfl, hO5, hb6⟩
  replace hO3 := (hO3.later hb6).base hb2.size
  replace hb5 := upw hb5 hb6
  obtain ⟨a5, c5, rfl, hn5, hA5⟩ := hO5.sl
  have l1 := chain_le ys
  have l2 := chain_le ys.reverse
  rw [List.length_reverse] at l2
  go_wp2_with (at_builtin; refine wpList_pushall rfl (.tmp 13) (.tmp 15) 81 rfl w.heap.size 83 (.agg #[.int .i64 0, .int .i64 0]) 16 Try.underlying81 infoSpot rfl v3 (chain ys) (chain ys.reverse) rfl hO3 a5 c5 rfl hn5 hA5 (by omega) (by decide) hb5.size ?_; intro v6 w6 hO6 hg6)
  go_ret
  exact ⟨_, ys, rfl, hpp.out, hs.out, hO6, below_mark hb5 hO3 (Nat.le_refl _) hg6⟩
end Go.Proofs.Ytlaclknhenccdaa
