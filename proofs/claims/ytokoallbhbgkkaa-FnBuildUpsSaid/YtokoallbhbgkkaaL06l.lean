/- Chapter 6, the program: the best builds with all sums. -/
import Derived.Test.YtokoallbhbgkkaaL06k
namespace Go.Proofs.Ytokoallbhbgkkaa
open Go.RowKit

/-- A build as it lies in a row. -/
structure RawB where
  price : Int
  a : Option Addr
  n : Nat
  c : Nat
  known : Bool
instance : Flat RawB := ⟨3, by decide, fun x => [.int .i64 x.price, .slice x.a x.n x.c, .bool x.known], fun _ => rfl, fun x u h => by simp at h; rcases h with h | h | h <;> subst h <;> rfl, fun _ => True⟩
def rawB0 : RawB := ⟨0, none, 0, 0, false⟩
theorem At.rawB {w : World} {b off : Nat} {rs : List RawB} (h : At w (some ⟨b, off, none⟩) rs) {i : Nat} (hi : i < rs.length) :
    w.cell? ⟨b, off + i * 3, none⟩ = some (.int .i64 rs[i].price) ∧ w.cell? ⟨b, off + i * 3 + 1, none⟩ = some (.slice rs[i].a rs[i].n rs[i].c) ∧ w.cell? ⟨b, off + i * 3 + 2, none⟩ = some (.bool rs[i].known) := by
  obtain ⟨cs, hr, hc⟩ := h.elem hi
  have h0 := hc 0 (.int .i64 rs[i].price) (by rw [hr]; rfl)
  have h1 := hc 1 (.slice rs[i].a rs[i].n rs[i].c) (by rw [hr]; rfl)
  have h2 := hc 2 (.bool rs[i].known) (by rw [hr]; rfl)
  exact ⟨by simpa [Rep.k, Flat.k] using h0, by simpa [Rep.k, Flat.k] using h1, by simpa [Rep.k, Flat.k] using h2⟩
/-- What a row's build stands for; its layers are the call's own, in another block than g. -/
def BldIs (B : Nat) (w : World) (g : Nat) (r : RawB) : Option Bld → Prop
  | none => r = rawB0
  | some b => r.price = b.price ∧ r.known = true ∧ r.n = b.layers.length ∧ Own B w 2 (.slice r.a r.n r.c) b.layers ∧ Asunder (Value.slice r.a r.n r.c).ownBlock (some g)
theorem BldIs.later {B : Nat} {w w' : World} {g : Nat} {r : RawB} {o : Option Bld} (h : BldIs B w g r o) (hb : Below w.heap.size w w') : BldIs B w' g r o := by
  cases o with
  | none => exact h
  | some b => obtain ⟨h1, h2, h3, h4, h5⟩ := h; exact ⟨h1, h2, h3, h4.later hb, h5⟩
theorem BldIs.base {B B' : Nat} {w : World} {g : Nat} {r : RawB} {o : Option Bld} (h : BldIs B w g r o) (hB : B' ≤ B) : BldIs B' w g r o := by
  cases o with
  | none => exact h
  | some b => obtain ⟨h1, h2, h3, h4, h5⟩ := h; exact ⟨h1, h2, h3, h4.base hB, h5⟩
theorem BldIs.stored {B : Nat} {w w' : World} {g : Nat} {r : RawB} {o : Option Bld} (h : BldIs B w g r o) (hg : w.grownBy w' (some g)) : BldIs B w' g r o := by
  cases o with
  | none => exact h
  | some b => obtain ⟨h1, h2, h3, h4, h5⟩ := h; exact ⟨h1, h2, h3, h4.kept hg h5, h5⟩
theorem BldIs.other {B : Nat} {w w' : World} {g gb : Nat} {r : RawB} {o : Option Bld} (h : BldIs B w g r o) (hg : w.grownBy w' (some gb)) (hne : ∀ k, B ≤ k → k < w.heap.size → k ≠ gb) : BldIs B w' g r o := by
  cases o with
  | none => exact h
  | some b =>
    obtain ⟨h1, h2, h3, h4, h5⟩ := h
    refine ⟨h1, h2, h3, h4.kept hg ?_, h5⟩
    cases hv : (Value.slice r.a r.n r.c).ownBlock with
    | none => exact Or.inl rfl
    | some k =>
      have := h4.lt k hv
      exact Or.inr fun e => hne k this.1 this.2 (by simpa using e)
/-- The best build so far, the layers from j on having been tried. -/
def bestFrom (lps : List (Int × Int)) (n j : Nat) : Option Bld := (lps.drop j).reverse.foldl (tryB lps n) none
theorem bestFrom_all (lps : List (Int × Int)) (n : Nat) : bestFrom lps n lps.length = none := by unfold bestFrom; simp
theorem bestFrom_zero (lps : List (Int × Int)) {n : Nat} (h : 0 < n) : bestFrom lps n 0 = bld lps n := by unfold bestFrom; rw [List.drop_zero, bld_step lps h]
theorem bestFrom_step (lps : List (Int × Int)) (n j : Nat) (h : j < lps.length) : bestFrom lps n j = tryB lps n (bestFrom lps n (j + 1)) lps[j] := by
  unfold bestFrom
  rw [List.drop_eq_getElem_cons h, List.reverse_cons, List.foldl_append]
  rfl
theorem bestFrom_is {lps : List (Int × Int)} {n : Nat} (_hn : 0 < n) : ∀ (m j : Nat), lps.length - j = m → ∀ b, bestFrom lps n j = some b → IsBld lps n b := by
  intro m
  induction m with
  | zero =>
    intro j hm b hb
    unfold bestFrom at hb
    rw [List.drop_of_length_le (by omega)] at hb
    cases hb
  | succ m ih =>
    intro j hm b hb
    have hj : j < lps.length := by omega
    rw [bestFrom_step lps n j hj] at hb
    unfold tryB at hb
    by_cases h : lps[j].1 < 1 ∨ (n : Int) < lps[j].1
    · rw [if_pos h] at hb
      exact ih (j + 1) (by omega) b hb
    · rw [if_neg h] at hb
      cases hr : bld lps (n - lps[j].1.toNat) with
      | none => rw [hr] at hb; exact ih (j + 1) (by omega) b hb
      | some r =>
        rw [hr] at hb
        simp only at hb
        split at hb
        · obtain rfl := Option.some.inj hb
          have := IsBld.more (bld_is _ _ _ hr) (List.getElem_mem hj) (by omega : 1 ≤ lps[j].1)
          rwa [show n - lps[j].1.toNat + lps[j].1.toNat = n by omega] at this
        · exact ih (j + 1) (by omega) b hb
/-- Layers and prices. -/
structure PriceOk (ls ps : List Int) : Prop where
  len : ps.length = ls.length
  each : ∀ i (h : i < ps.length), 0 ≤ ps[i] ∧ ps[i] ≤ 1000
theorem zip_each {ls ps : List Int} (h : PriceOk ls ps) : ∀ lp ∈ ls.zip ps, 0 ≤ lp.2 ∧ lp.2 ≤ 1000 := by
  intro lp hm
  obtain ⟨i, hi, rfl⟩ := List.mem_iff_getElem.1 hm
  rw [List.getElem_zip]
  exact h.each i (by simp at hi; omega)
theorem bld_bounds {ls ps : List Int} (h : PriceOk ls ps) {n : Nat} (hn : n ≤ 1000) {b : Bld} (hb : IsBld (ls.zip ps) n b) : 0 ≤ b.price ∧ b.price ≤ 1000000 ∧ b.layers.length ≤ 1000 := by
  have h1 := isBld_price (M := 1000) (by omega) (zip_each h) hb
  have h2 := isBld_length hb
  omega
/-- The row of the best builds. -/
structure Table (B : Nat) (w : World) (g cap : Nat) (lps : List (Int × Int)) (n k : Nat) (rs : List RawB) : Prop where
  len : rs.length = n
  row : Own B w 96 (.slice (some ⟨g, 0, none⟩) n cap) rs
  each : ∀ i (h : i < rs.length), i < k → BldIs B w g rs[i] (bld lps i)
theorem Table.later {B : Nat} {w w' : World} {g cap : Nat} {lps : List (Int × Int)} {n k : Nat} {rs : List RawB} (h : Table B w g cap lps n k rs) (hb : Below w.heap.size w w') : Table B w' g cap lps n k rs :=
  ⟨h.len, h.row.later hb, fun i hi hk => (h.each i hi hk).later hb⟩
theorem Table.other {B : Nat} {w w' : World} {g cap gb : Nat} {lps : List (Int × Int)} {n k : Nat} {rs : List RawB} (h : Table B w g cap lps n k rs) (hg : w.grownBy w' (some gb)) (hne : w.heap.size ≤ gb) : Table B w' g cap lps n k rs :=
  ⟨h.len, h.row.kept hg (by have := h.row.lt g rfl; exact Or.inr (by simp [Value.ownBlock]; omega)), fun i hi hk => (h.each i hi hk).other hg fun k _ hk => by omega⟩
theorem Table.put {B : Nat} {w w' : World} {g cap : Nat} {lps : List (Int × Int)} {n k : Nat} {rs : List RawB} (h : Table B w g cap lps n k rs) {r : RawB} (hg : w.grownBy w' (some g)) (hO : Own B w' 96 (.slice (some ⟨g, 0, none⟩) n cap) (rs.set k r)) (hr : BldIs B w g r (bld lps k)) :
    Table B w' g cap lps n (k + 1) (rs.set k r) := by
  refine ⟨by rw [List.length_set, h.len], hO, fun i hi hk => ?_⟩
  rw [List.length_set] at hi
  by_cases hik : k = i
  · subst hik; rw [List.getElem_set_self]; exact hr.stored hg
  · rw [List.getElem_set_ne hik]; exact (h.each i hi (by omega)).stored hg
theorem own_rawB (w : World) (r : RawB) : Own w.heap.size (w.alloc (.cells #[.int .i64 r.price, .slice r.a r.n r.c, .bool r.known] 96)) 96 (.slice (some ⟨w.heap.size, 0, none⟩) 1 1) [r] := own_row w 96 [r] (by simp)
theorem one_rawB {B : Nat} {w : World} {g : Nat} {r : RawB} (h : Own B w 96 (.slice (some ⟨g, 0, none⟩) 1 1) [r]) :
    w.cell? ⟨g, 0, none⟩ = some (.int .i64 r.price) ∧ w.cell? ⟨g, 1, none⟩ = some (.slice r.a r.n r.c) ∧ w.cell? ⟨g, 2, none⟩ = some (.bool r.known) := by
  have := h.at'.rawB (i := 0) (by simp)
  simpa using this
end Go.Proofs.Ytokoallbhbgkkaa
