/- Chapter 7, hulls: the program's hull is the reference's: the contracts of HullOf and IsHollow. -/
import Derived.Test.YtlaclknhenccdaaHullC
namespace Go.Proofs.Ytlaclknhenccdaa
open Go.RowKit Go.Sort

/-- The spots in their order, by X, then by Y. -/
def sortS (xs : List Spot) : List Spot := xs.mergeSort (fun p q => !before q p)
theorem sortS_perm (xs : List Spot) : (sortS xs).Perm xs := List.mergeSort_perm _ _
theorem sortS_sorted (xs : List Spot) : (sortS xs).Pairwise (fun p q => before q p = false) := by
  have h := List.pairwise_mergeSort (le := fun p q : Spot => !before q p) (fun a b c h1 h2 => by simp [before] at *; omega) (fun a b => by simp [before]; omega) xs
  exact h.imp fun h => by simpa using h
theorem sorted_one {xs ys : List Spot} (hp : ys.Perm xs) (hs : ys.Pairwise (fun p q => before q p = false)) : ys = sortS xs :=
  List.Perm.eq_of_pairwise (le := fun p q => before q p = false) (fun a b _ _ h1 h2 => by
    simp [before] at h1 h2
    have e1 : a.X = b.X := by omega
    have e2 : a.Y = b.Y := by omega
    cases a; cases b; simp at e1 e2; simp [e1, e2]) hs (sortS_sorted xs) (hp.trans (sortS_perm xs).symm)
/-- The hull of spots. -/
def hullL (xs : List Spot) : List Spot := chain (sortS xs) ++ chain (sortS xs).reverse
theorem hullL_le (xs : List Spot) : (hullL xs).length ≤ 2 * xs.length := by
  unfold hullL
  have h1 := chain_le (sortS xs)
  have h2 := chain_le (sortS xs).reverse
  have h3 := (sortS_perm xs).length_eq
  simp at *; omega
theorem chain_mem {xs : List Spot} : ∀ p ∈ chain xs, p ∈ xs := by
  intro p hp
  unfold chain at hp
  have h := chTo_mem xs xs.length (Nat.le_refl _) p
  rw [chTo_full _ _ (Nat.le_refl _)] at h
  exact h (List.mem_of_mem_tail (by simpa using hp))
theorem hullL_mem {xs : List Spot} : ∀ p ∈ hullL xs, p ∈ xs := by
  intro p hp
  rcases List.mem_append.1 hp with hp | hp
  · exact (sortS_perm xs).mem_iff.1 (chain_mem p hp)
  · exact (sortS_perm xs).mem_iff.1 (List.mem_reverse.1 (chain_mem p hp))
theorem sortS_rising {xs : List Spot} (h : okOutline xs = true) : Rising 1 (sortS xs) := by
  intro i j hij hj
  have hok := (okOutline_iff.1 h).1.2
  have hm : ∀ p ∈ sortS xs, okSpot p = true := fun p hp => hok p ((sortS_perm xs).mem_iff.1 hp)
  have hs := List.pairwise_iff_getElem.1 (sortS_sorted xs) i j (by omega) hj hij
  have hn : xs.Pairwise (· ≠ ·) := by
    rw [List.pairwise_iff_getElem]
    intro i j hi hj hij
    have := outline_nodup h i j hij hj
    rwa [nth_get hi, nth_get hj] at this
  have hn2 : (sortS xs).Pairwise (· ≠ ·) := (sortS_perm xs).symm.pairwise hn (fun h => h.symm)
  have hne := List.pairwise_iff_getElem.1 hn2 i j (by omega) hj hij
  have o1 := hm (sortS xs)[i] (List.getElem_mem _)
  have o2 := hm (sortS xs)[j] (List.getElem_mem _)
  have h1 : ¬ key (sortS xs)[j] < key (sortS xs)[i] := fun h => by
    have := (key_lt o2 o1).1 h
    simp [before] at hs
    omega
  have h2 : key (sortS xs)[i] ≠ key (sortS xs)[j] := fun h => hne (key_inj o1 o2 h)
  unfold dir; omega
theorem round_of {xs : List Spot} (h : okOutline xs = true) : ∃ C, Round xs C ∧ C.dropLast = hullL xs := by
  obtain ⟨⟨⟨h3, h24⟩, hok⟩, _⟩ := okOutline_iff.1 h
  have hl := (sortS_perm xs).length_eq
  obtain ⟨C, hd, h2, hm, hh, ht, hw, ha⟩ := hull_cycle (xs := xs) (by omega) (sortS_rising h) (fun p hp => (sortS_perm xs).mem_iff.2 hp)
  have h0 : 0 < xs.length := by omega
  have hof := firstTo_is h0 (nth_ok hok) xs.length (Nat.le_refl _)
  have hS0 : (sortS xs)[0] ∈ xs := (sortS_perm xs).mem_iff.1 (List.getElem_mem _)
  have hS : ∀ i, i < xs.length → key (sortS xs)[0] ≤ key (nth xs i) := fun i hi => by
    obtain ⟨j, hj, hje⟩ := List.mem_iff_getElem.1 ((sortS_perm xs).mem_iff.2 (nth_mem hi))
    rw [← hje]
    by_cases hj0 : j = 0
    · subst hj0; exact Int.le_refl _
    · have := sortS_rising h 0 j (by omega) hj
      unfold dir at this; omega
  have e : firstTo xs xs.length = (sortS xs)[0] := by
    refine key_inj hof.2.1 (hok _ hS0) ?_
    obtain ⟨i, hi, hie⟩ := List.mem_iff_getElem.1 hS0
    obtain ⟨j, hj, hje⟩ := List.mem_iff_getElem.1 hof.1
    have h1 := hof.2.2 i hi
    have h2 := hS j hj
    rw [nth_get hi, hie] at h1
    rw [nth_get hj, hje] at h2
    omega
  refine ⟨C, ⟨h2, by omega, by rw [e]; exact hh, by rw [e]; exact ht, hw, by rw [e]; exact ha, fun p hp => ?_⟩, hd⟩
  have hne : C ≠ [] := by intro e; rw [e] at h2; simp at h2
  rw [← List.dropLast_concat_getLast hne] at hp
  rcases List.mem_append.1 hp with hp | hp
  · rw [hd] at hp; exact hullL_mem p hp
  · rw [List.getLast?_eq_some_getLast hne] at ht
    simp at hp ht
    rw [hp, ht]; exact hS0
def hullCode (xs : List Spot) : Int := if okOutline xs then 0 else 1
def hullX (xs : List Spot) : List Spot := if okOutline xs then hullL xs else []
theorem HullOf_len (xs : List Spot) : (hullX xs).length ≤ 48 := by
  unfold hullX
  split
  · rename_i h
    have := hullL_le xs
    have := (okOutline_is h).1
    omega
  · simp
theorem implHullOf_c (a : Option Addr) (xs : List Spot) (c : Nat) (w : World) (hx : At w a xs) (hl : xs.length ≤ 9223372036854775807) :
    Calls Try.prog 58 #[.slice a xs.length c] w fun e w' => ∃ v, e = .returned (.tuple #[v, .int .i64 (hullCode xs)]) ∧ Own w.heap.size w' 83 v (hullX xs) ∧ Below w.heap.size w w' := by
  have hb := Below.refl w.heap.size w
  cases h1 : okOutline xs
  · have hr : hullCode xs = 1 := by simp [hullCode, h1]
    have hr' : hullX xs = [] := by simp [hullX, h1]
    rw [hr, hr']
    go_enter Try.func58, Try.ntmps58
    go_wp2_with fail
    refine (implValidOutline_c _ _ _ _ hx hl).mono ?_
    rintro e w2 ⟨rfl, hb2⟩
    replace hb := upw hb hb2
    go_wp2_with fail
    go_ret2
    exact ⟨_, rfl, World.ownsRow_nil _ _ _ _, hb⟩
  · have hr : hullCode xs = 0 := by simp [hullCode, h1]
    have hr' : hullX xs = hullL xs := by simp [hullX, h1]
    rw [hr, hr']
    clear hr hr'
    obtain ⟨hn, hn3, _⟩ := okOutline_is h1
    have hok := Lib.hid (okOutline_iff.1 h1).1.2
    go_enter Try.func58, Try.ntmps58
    go_wp2_with fail
    refine (implValidOutline_c _ _ _ _ hx hl).mono ?_
    rintro e w2 ⟨rfl, hb2⟩
    replace hb := upw hb hb2
    have hbs := hb.size
    go_wp2_with fail
    refine (hullOf_c _ _ _ _ (hx.below hb) hn (by omega) hok.out).mono ?_
    rintro e w4 ⟨v4, ys, rfl, hp, hs, hO4, hb4⟩
    obtain rfl := sorted_one hp hs
    clear hp hs
    go_wp2_with fail
    go_ret2
    exact ⟨_, rfl, hO4.base hbs, upw hb hb4⟩
theorem specHullOf_c (a : Option Addr) (xs : List Spot) (c : Nat) (w : World) (hx : At w a xs) (hl : xs.length ≤ 9223372036854775807) :
    Calls Try.prog 59 #[.slice a xs.length c] w fun e w' => ∃ v, e = .returned (.tuple #[v, .int .i64 (hullCode xs)]) ∧ Own w.heap.size w' 83 v (hullX xs) ∧ Below w.heap.size w w' := by
  have hb := Below.refl w.heap.size w
  cases h1 : okOutline xs
  · have hr : hullCode xs = 1 := by simp [hullCode, h1]
    have hr' : hullX xs = [] := by simp [hullX, h1]
    rw [hr, hr']
    go_enter Try.func59, Try.ntmps59
    go_wp2_with fail
    refine (l07Ok_c _ _ _ _ hx hl).mono ?_
    rintro e w2 ⟨rfl, hb2⟩
    replace hb := upw hb hb2
    go_wp2_with fail
    go_ret2
    exact ⟨_, rfl, World.ownsRow_nil _ _ _ _, hb⟩
  · have hr : hullCode xs = 0 := by simp [hullCode, h1]
    have hr' : hullX xs = hullL xs := by simp [hullX, h1]
    rw [hr, hr']
    clear hr hr'
    obtain ⟨hn, hn3, hok⟩ := okOutline_is h1
    replace hok := Lib.hid hok
    obtain ⟨C, R, hC⟩ := round_of h1
    replace R := Lib.hid R
    replace hC := Lib.hid hC
    go_enter Try.func59, Try.ntmps59
    go_wp2_with fail
    refine (l07Ok_c _ _ _ _ hx hl).mono ?_
    rintro e w2 ⟨rfl, hb2⟩
    replace hb := upw hb hb2
    have hbs := hb.size
    go_wp2_with fail
    refine (l07Hull_c _ _ _ _ C (hx.below hb) hn (by omega) hok.out R.out).mono ?_
    rintro e w4 ⟨v4, rfl, hO4, hb4⟩
    rw [hC.out] at hO4
    go_wp2_with fail
    go_ret2
    exact ⟨_, rfl, hO4.base hbs, upw hb hb4⟩
def hollow (xs : List Spot) : Bool × Int := if okOutline xs then (decide ((hullL xs).length < xs.length), 0) else (false, 1)
theorem implIsHollow_c (a : Option Addr) (xs : List Spot) (c : Nat) (w : World) (hx : At w a xs) (hl : xs.length ≤ 9223372036854775807) :
    Calls Try.prog 60 #[.slice a xs.length c] w fun e w' => e = .returned (.tuple #[.bool (hollow xs).1, .int .i64 (hollow xs).2]) ∧ Below w.heap.size w w' := by
  have hb := Below.refl w.heap.size w
  cases h1 : okOutline xs
  · have ht : hollow xs = (false, 1) := by simp [hollow, h1]
    go_enter Try.func60, Try.ntmps60
    go_wp2_with fail
    refine (implValidOutline_c _ _ _ _ hx hl).mono ?_
    rintro e w2 ⟨rfl, hb2⟩
    replace hb := upw hb hb2
    go_wp2_with fail
    go_ret2
    exact ⟨by rw [ht]; rfl, hb⟩
  · obtain ⟨hn, hn3, _⟩ := okOutline_is h1
    have ht : hollow xs = (decide ((hullL xs).length < xs.length), 0) := by simp [hollow, h1]
    have hok := Lib.hid (okOutline_iff.1 h1).1.2
    replace ht := Lib.hid ht
    go_enter Try.func60, Try.ntmps60
    go_wp2_with fail
    refine (implValidOutline_c _ _ _ _ hx hl).mono ?_
    rintro e w2 ⟨rfl, hb2⟩
    replace hb := upw hb hb2
    go_wp2_with fail
    refine (hullOf_c _ _ _ _ (hx.below hb) hn (by omega) hok.out).mono ?_
    rintro e w4 ⟨v4, ys, rfl, hp, hs, hO4, hb4⟩
    obtain rfl := sorted_one hp hs
    clear hp hs
    replace hO4 : Own w2.heap.size w4 83 v4 (hullL xs) := hO4
    obtain ⟨a4, c4, rfl, _⟩ := hO4.at
    have hle := hullL_le xs
    go_wp2_with fail
    go_ret2
    exact ⟨by rw [ht.out]; simp, upw hb hb4⟩
theorem specIsHollow_c (a : Option Addr) (xs : List Spot) (c : Nat) (w : World) (hx : At w a xs) (hl : xs.length ≤ 9223372036854775807) :
    Calls Try.prog 61 #[.slice a xs.length c] w fun e w' => e = .returned (.tuple #[.bool (hollow xs).1, .int .i64 (hollow xs).2]) ∧ Below w.heap.size w w' := by
  have hb := Below.refl w.heap.size w
  cases h1 : okOutline xs
  · have ht : hollow xs = (false, 1) := by simp [hollow, h1]
    go_enter Try.func61, Try.ntmps61
    go_wp2_with fail
    refine (l07Ok_c _ _ _ _ hx hl).mono ?_
    rintro e w2 ⟨rfl, hb2⟩
    replace hb := upw hb hb2
    go_wp2_with fail
    go_ret2
    exact ⟨by rw [ht]; rfl, hb⟩
  · obtain ⟨hn, hn3, hok⟩ := okOutline_is h1
    have ht : hollow xs = (decide ((hullL xs).length < xs.length), 0) := by simp [hollow, h1]
    replace hok := Lib.hid hok
    replace ht := Lib.hid ht
    obtain ⟨C, R, hC⟩ := round_of h1
    replace R := Lib.hid R
    replace hC := Lib.hid hC
    go_enter Try.func61, Try.ntmps61
    go_wp2_with fail
    refine (l07Ok_c _ _ _ _ hx hl).mono ?_
    rintro e w2 ⟨rfl, hb2⟩
    replace hb := upw hb hb2
    go_wp2_with fail
    refine (l07Hull_c _ _ _ _ C (hx.below hb) hn (by omega) hok.out R.out).mono ?_
    rintro e w4 ⟨v4, rfl, hO4, hb4⟩
    rw [hC.out] at hO4
    obtain ⟨a4, c4, rfl, _⟩ := hO4.at
    have hle := hullL_le xs
    go_wp2_with fail
    go_ret2
    exact ⟨by rw [ht.out]; simp, upw hb hb4⟩
end Go.Proofs.Ytlaclknhenccdaa
