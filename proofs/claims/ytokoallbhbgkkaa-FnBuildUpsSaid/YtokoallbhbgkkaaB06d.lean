/- Chapter 6: BuildUpFor: the two contracts, and what the law needs of lasts. -/
import Derived.Test.YtokoallbhbgkkaaB06b
import Derived.Test.YtokoallbhbgkkaaB06c
import Derived.Test.YtokoallbhbgkkaaLastT
namespace Go.Proofs.Ytokoallbhbgkkaa
open Go.RowKit

theorem own_ne {α : Type} [Flat α] {B b : Nat} {w : World} {e : TypeId} {v : Value} {xs : List α} (h : Own B w e v xs) (hb : b < B) : some b ≠ v.ownBlock := fun e => by
  have := (h.lt b e.symm).1; omega
theorem OwnLists.kept_since {α : Type} [Flat α] {B B0 Bv : Nat} {w w' w0 wv : World} {e : TypeId} {v u : Value} {xs : List α} {rs : List RawL} {xss xss0 : List (List Int)} (h : OwnLists B w u rs xss) (hg : w.grownBy w' v.ownBlock) (h0 : OwnLists B0 w0 u rs xss0) (hO : Own Bv wv e v xs) (hB : wv.heap.size ≤ B0) : OwnLists B w' u rs xss :=
  h.touched (S := fun k => v.ownBlock = some k) (touched_grown hg fun _ hk => hk) h0 fun k h1 _ hk => by have := (hO.lt k hk).2; omega
theorem OwnLists.kept_before {α : Type} [Flat α] {B B0 Bv : Nat} {w w' w0 wv : World} {e : TypeId} {v u : Value} {xs : List α} {rs : List RawL} {xss xss0 : List (List Int)} (h : OwnLists B w u rs xss) (hg : w.grownBy w' v.ownBlock) (h0 : OwnLists B0 w0 u rs xss0) (hO : Own Bv wv e v xs) (hB : w0.heap.size ≤ Bv) : OwnLists B w' u rs xss :=
  h.touched (S := fun k => v.ownBlock = some k) (touched_grown hg fun _ hk => hk) h0 fun k _ h2 hk => by have := (hO.lt k hk).1; omega
theorem withinB_short {ls : List Int} {low : Nat} : ∀ {k : Nat} {x : List Int}, withinB ls low k = some x → x.length ≤ low + k := by
  intro k x h
  obtain ⟨n, h1, h2, h3⟩ := withinB_is h
  have := shortest_length h3
  omega
theorem sum_len_le {M : Nat} : ∀ {L : List (List Int)}, (∀ x ∈ L, x.length ≤ M) → (L.map List.length).sum ≤ L.length * M
  | [], _ => by simp
  | x :: L, h => by
    have h1 := h x (by simp)
    have h2 := sum_len_le (M := M) (L := L) (fun y hy => h y (by simp [hy]))
    simp only [List.map_cons, List.sum_cons, List.length_cons, Nat.add_mul]
    omega
theorem BuildUpFor_len (x : Last) (f : Foot) (ls : List Int) (most : Int) : (buRes x f ls most).1.length ≤ 3 ∧ kL 1 (buRes x f ls most).1 (buRes x f ls most).1.length ≤ 8388608 ∧ ∀ y ∈ (buRes x f ls most).1, y.length ≤ 9223372036854775807 := by
  suffices h : (buRes x f ls most).1.length ≤ 3 ∧ ∀ y ∈ (buRes x f ls most).1, y.length ≤ 2001 by
    refine ⟨h.1, ?_, fun y hy => by have := h.2 y hy; omega⟩
    have h2 := sum_len_le h.2
    unfold kL
    rw [List.take_length]
    have : (buRes x f ls most).1.length * 2001 ≤ 3 * 2001 := Nat.mul_le_mul_right _ h.1
    omega
  unfold buRes
  split
  · rename_i h
    split
    · rename_i h4
      have h4' := inr_true.1 h4
      split
      · simp
      · rename_i h5
        split
        · refine ⟨Nat.le_trans (List.length_filterMap_le _ _) (Nat.le_refl 3), fun y hy => ?_⟩
          obtain ⟨n, hn, hy⟩ := List.mem_filterMap.1 hy
          have h6 : n + most ≤ 1000 := by
            apply Classical.byContradiction; intro hc
            exact h5 (List.any_eq_true.2 ⟨n, hn, by simpa using hc⟩)
          have h7 := withinB_short hy
          omega
        · simp
    · simp
  · simp
theorem implBuildUpFor_c (x : Last) (f : Foot) (a : Option Addr) (ls : List Int) (c : Nat) (most : Int) (w : World) (hn : Rep.ok x) (_hf : Rep.ok f) (hx : At w a ls) (hl : ls.length ≤ 9223372036854775807) (_hm : -9223372036854775808 ≤ most ∧ most ≤ 9223372036854775807) :
    Calls Try.prog 20 #[.agg #[.string x.Name, .int .i64 x.Length, .int .i64 x.Ball, .int .i64 x.Instep, .int .i64 x.Heel, .int .i64 x.Pitch], .agg #[.int .i64 f.Length, .int .i64 f.Ball, .int .i64 f.Instep, .int .i64 f.Heel], .slice a ls.length c, .int .i64 most] w fun e w' => ∃ v rs, e = .returned (.tuple #[v, .int .i64 (buRes x f ls most).2]) ∧ OwnLists w.heap.size w' v rs (buRes x f ls most).1 ∧ Below w.heap.size w w' := by
  have hn' : x.Name.size ≤ 9223372036854775807 := hn.1
  cases h : (okLast x && okFoot f && layOk ls)
  · exact implBU_bad x f a ls c most w hn' hx hl (Or.inl h)
  · cases h4 : inr most 0 1000
    · exact implBU_bad x f a ls c most w hn' hx hl (Or.inr h4)
    · have h5 := inr_true.1 h4
      obtain ⟨m, rfl⟩ : ∃ m : Nat, most = m := ⟨most.toNat, by omega⟩
      rw [Bool.and_eq_true, Bool.and_eq_true] at h
      exact implBU_good x f a ls c m w hn' hx hl h.1.1 h.1.2 h.2 (by omega)
theorem specBuildUpFor_c (x : Last) (f : Foot) (a : Option Addr) (ls : List Int) (c : Nat) (most : Int) (w : World) (hn : Rep.ok x) (_hf : Rep.ok f) (hx : At w a ls) (hl : ls.length ≤ 9223372036854775807) (_hm : -9223372036854775808 ≤ most ∧ most ≤ 9223372036854775807) :
    Calls Try.prog 17 #[.agg #[.string x.Name, .int .i64 x.Length, .int .i64 x.Ball, .int .i64 x.Instep, .int .i64 x.Heel, .int .i64 x.Pitch], .agg #[.int .i64 f.Length, .int .i64 f.Ball, .int .i64 f.Instep, .int .i64 f.Heel], .slice a ls.length c, .int .i64 most] w fun e w' => ∃ v rs, e = .returned (.tuple #[v, .int .i64 (buRes x f ls most).2]) ∧ OwnLists w.heap.size w' v rs (buRes x f ls most).1 ∧ Below w.heap.size w w' := by
  have hn' : x.Name.size ≤ 9223372036854775807 := hn.1
  cases h : (okLast x && okFoot f && layOk ls)
  · exact specBU_bad x f a ls c most w hn' hx hl (Or.inl h)
  · cases h4 : inr most 0 1000
    · exact specBU_bad x f a ls c most w hn' hx hl (Or.inr h4)
    · have h5 := inr_true.1 h4
      obtain ⟨m, rfl⟩ : ∃ m : Nat, most = m := ⟨most.toNat, by omega⟩
      rw [Bool.and_eq_true, Bool.and_eq_true] at h
      exact specBU_good x f a ls c m w hn' hx hl h.1.1 h.1.2 h.2 (by omega)
theorem szLast_ok (x : Last) (l : Int) (w : World) (hn : (x.Name.size : Int) ≤ l) (hl : l ≤ 1048576) :
    Calls Try.prog 16 #[.agg #[.string x.Name, .int .i64 x.Length, .int .i64 x.Ball, .int .i64 x.Instep, .int .i64 x.Heel, .int .i64 x.Pitch], .int .i64 l] w fun e w' => e = .returned (.int .i64 (l - x.Name.size)) ∧ Below w.heap.size w w' := by
  have hb : Below w.heap.size w (w.alloc (.cells #[.string x.Name, .int .i64 x.Length, .int .i64 x.Ball, .int .i64 x.Instep, .int .i64 x.Heel, .int .i64 x.Pitch] 30)) := (Below.refl _ _).alloc (Nat.le_refl _) _
  go_enter Try.func16, Try.ntmps16
  go_wp2_with fail
  go_ret
  exact ⟨rfl, hb⟩
theorem szLast_no (x : Last) (l : Int) (w : World) (hn : x.Name.size ≤ 9223372036854775807) (h : l < x.Name.size) (h0 : 0 ≤ l) :
    Calls Try.prog 16 #[.agg #[.string x.Name, .int .i64 x.Length, .int .i64 x.Ball, .int .i64 x.Instep, .int .i64 x.Heel, .int .i64 x.Pitch], .int .i64 l] w fun e w' => e = .returned (.int .i64 (-1)) ∧ Below w.heap.size w w' := by
  have hb : Below w.heap.size w (w.alloc (.cells #[.string x.Name, .int .i64 x.Length, .int .i64 x.Ball, .int .i64 x.Instep, .int .i64 x.Heel, .int .i64 x.Pitch] 30)) := (Below.refl _ _).alloc (Nat.le_refl _) _
  go_enter Try.func16, Try.ntmps16
  go_wp2_with fail
  go_ret
  exact ⟨rfl, hb⟩
end Go.Proofs.Ytokoallbhbgkkaa
