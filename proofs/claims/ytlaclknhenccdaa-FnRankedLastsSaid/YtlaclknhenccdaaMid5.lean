/- Feet that are far from the middle, and the middle of the others: the program. -/
import Derived.Test.YtlaclknhenccdaaMid4
namespace Go.Proofs.Ytlaclknhenccdaa
open Go.RowKit

/-- The marks of the first k feet of which p holds. -/
def idxTo (p : Nat → Bool) (k : Nat) : List Int := ((List.range k).filter p).map fun (i : Nat) => (i : Int)
theorem idxTo_succ (p : Nat → Bool) (k : Nat) : idxTo p (k + 1) = idxTo p k ++ if p k then [(k : Int)] else [] := by
  unfold idxTo
  rw [List.range_succ, List.filter_append, List.map_append]
  cases h : p k <;> simp [h]
theorem idxTo_length (p : Nat → Bool) (k : Nat) : (idxTo p k).length ≤ k := by
  unfold idxTo
  rw [List.length_map]
  have := List.length_filter_le p (List.range k)
  simpa using this
theorem idxTo_mem {p : Nat → Bool} {n : Nat} {x : Int} : x ∈ idxTo p n ↔ ∃ i : Nat, i < n ∧ p i = true ∧ x = i := by
  unfold idxTo
  simp only [List.mem_map, List.mem_filter, List.mem_range]
  constructor
  · rintro ⟨i, ⟨h1, h2⟩, rfl⟩; exact ⟨i, h1, h2, rfl⟩
  · rintro ⟨i, h1, h2, rfl⟩; exact ⟨i, ⟨h1, h2⟩, rfl⟩
theorem idxTo_rises (p : Nat → Bool) (n : Nat) : (idxTo p n).Pairwise (· < ·) := by
  unfold idxTo
  refine List.pairwise_map.2 ?_
  exact (List.Pairwise.filter p List.pairwise_lt_range).imp fun h => by omega
def farI (fs : List Foot) (g : Foot) (m : Int) (i : Nat) : Bool := farB (fs.getD i ⟨0, 0, 0, 0⟩) g m
theorem farI_get {fs : List Foot} {g : Foot} {m : Int} {i : Nat} (h : i < fs.length) : farI fs g m i = farB fs[i] g m := by
  unfold farI; rw [List.getD_eq_getElem?_getD, List.getElem?_eq_getElem h]; rfl
set_option maxHeartbeats 1600000 in
theorem farFeet_ok (a : Option Addr) (fs : List Foot) (c : Nat) (m : Int) (w : World) (hx : At w a fs) (hl : fs.length ≤ 30) (hn : 0 < fs.length) (hv : ∀ f ∈ fs, okFoot f = true) (hm : 0 ≤ m ∧ m ≤ 5000) :
    Calls Try.prog 41 #[.slice a fs.length c, .int .i64 m] w fun e w' => ∃ v, e = .returned (.tuple #[v, .int .i64 0]) ∧ Own w.heap.size w' 2 v (idxTo (farI fs (midFoot fs) m) fs.length) ∧ Below w.heap.size w w' := by
  have hC1 := Lib.hid (feetCode_ok a fs c m w hx hl hn hv hm)
  have hC := Lib.hid (fun w' h => middleFoot_c a fs c w' h (by omega) hn)
  have hgo := mid_ok hv hn
  obtain ⟨g, hg⟩ : ∃ g, g = midFoot fs := ⟨_, rfl⟩
  rw [← hg] at hC hgo ⊢
  clear hg
  replace hv := Lib.hid hv
  replace hgo := Lib.hid hgo
  go_enter Try.func41, Try.ntmps41
  go_wp2_with fail
  refine hC1.out.mono ?_
  rintro e w1 ⟨rfl, hb1⟩
  obtain ⟨w2, hw2⟩ : ∃ w2, w2 = w1.alloc (.cells #[] 2) := ⟨_, rfl⟩
  have D : Sp w w2 [ite' 2 (.slice (some ⟨w1.heap.size, 0, none⟩) 0 0) ([] : List Int)] := by rw [hw2]; exact ((Sp.refl w).later hb1).add (newB w1 _) (own_new (α := Int) w1 2)
  replace hw2 := Lib.hid hw2
  obtain ⟨n1, hn1⟩ : ∃ n1, n1 = w1.heap.size := ⟨_, rfl⟩
  rw [← hn1] at D
  replace D := Lib.hid D
  go_wp2_with (rw [← hw2.out])
  rw [← hn1]
  refine (hC.out _ (hx.below D.out.up)).mono ?_
  rintro e w3 ⟨rfl, hb3⟩
  obtain ⟨w4, hw4⟩ : ∃ w4, w4 = w3.alloc (.cells #[.int .i64 g.Length, .int .i64 g.Ball, .int .i64 g.Instep, .int .i64 g.Heel] 62) := ⟨_, rfl⟩
  have hb4 : Below w3.heap.size w3 w4 := by rw [hw4]; exact newB _ _
  have V : Own w3.heap.size w4 62 (.slice (some ⟨w3.heap.size, 0, none⟩) 4 4) (footC g) := by rw [hw4]; exact own_footC w3 _ g
  replace D := Lib.hid ((D.out.later hb3).add hb4 V)
  replace hw4 := Lib.hid hw4
  obtain ⟨n3, hn3⟩ : ∃ n3, n3 = w3.heap.size := ⟨_, rfl⟩
  rw [← hn3] at D
  clear hb1 hb3 hb4 V hn1 hw2 hC1 hC
  go_wp2_with (rw [← hw4.out])
  rw [← hn3]
  clear hn3 hw4
  go_loopw [7, 9, 10, 22] (fun v _ _ i wr => ∃ k : Nat, k ≤ fs.length ∧ i = .int .i64 k ∧ Hid (Sp w wr [ite' 62 (.slice (some ⟨n3, 0, none⟩) 4 4) (footC g), ite' 2 v (idxTo (farI fs g m) k)])) (fun _ _ _ i _ => fs.length - (intOf i).toNat)
  case atStart => exact ⟨0, Nat.zero_le _, rfl, D⟩
  case round =>
    clear D
    obtain ⟨k, hk, rfl, D⟩ := hrel
    obtain ⟨wa, hwa⟩ : ∃ wo : World, wo = wr := ⟨_, rfl⟩
    subst hwa
    have hxa := hx.below D.out.up
    by_cases hlt : k < fs.length
    · obtain ⟨b, off, ha⟩ := hxa.addr hlt
      subst ha
      obtain ⟨x0, x1, x2, x3⟩ := hxa.foot hlt
      have hfo := hv.out _ (List.getElem_mem hlt)
      have hE := Lib.hid (idxTo_succ (farI fs g m) k)
      have hF := Lib.hid (farI_get (g := g) (m := m) hlt)
      have hLl := idxTo_length (farI fs g m) k
      obtain ⟨f, hf⟩ : ∃ f, f = fs[k] := ⟨_, rfl⟩
      rw [← hf] at x0 x1 x2 x3 hfo hF
      clear hf
      obtain ⟨L, hL⟩ : ∃ L, L = idxTo (farI fs g m) k := ⟨_, rfl⟩
      rw [← hL] at D hE hLl
      replace hL := Lib.hid hL
      have hLl2 : L.length + 1 ≤ 4294967296 := by omega
      obtain ⟨w5, hw5⟩ : ∃ w5, w5 = wa.alloc (.cells #[.int .i64 f.Length, .int .i64 f.Ball, .int .i64 f.Instep, .int .i64 f.Heel] 62) := ⟨_, rfl⟩
      have hb5 : Below wa.heap.size wa w5 := by rw [hw5]; exact newB _ _
      have V : Own wa.heap.size w5 62 (.slice (some ⟨wa.heap.size, 0, none⟩) 4 4) (footC f) := by rw [hw5]; exact own_footC wa _ f
      obtain ⟨y0, y1, y2, y3⟩ := footC_cells V
      replace D := Lib.hid (D.out.later hb5)
      obtain ⟨z0, z1, z2, z3⟩ := footC_cells (D.out.get 0 rfl)
      replace hw5 := Lib.hid hw5
      clear hb5 V hxa
      have hI := Lib.hid (isFar_c f g m w5 hfo hgo.out)
      cases hfar : farB f g m
      · have hE1 : Hid (idxTo (farI fs g m) (k + 1) = L) := Lib.hid (by rw [hE.out, hF.out, hfar]; simp)
        go_wp2_with (rw [← hw5.out])
        refine (as_boolB hfar hI.out).mono ?_
        rintro e w6 ⟨rfl, hb6⟩
        replace D := Lib.hid (D.out.later hb6)
        go_wp2_with fail
        go_roundw
        case rel => exact ⟨k + 1, by omega, by first | rfl | go_num, Lib.hid (by rw [hE1.out]; exact D.out)⟩
        case measure => first | (simp [intOf]; done) | (simp [intOf]; omega)
      · have hE1 : Hid (idxTo (farI fs g m) (k + 1) = L ++ [(k : Int)]) := Lib.hid (by rw [hE.out, hF.out, hfar]; simp)
        go_wp2_with (rw [← hw5.out])
        refine (as_boolB hfar hI.out).mono ?_
        rintro e w6 ⟨rfl, hb6⟩
        replace D := Lib.hid (D.out.later hb6)
        have hsz := D.out.up.size
        go_wp2_with (at_builtin; refine wpList_pushTo rfl (.tmp 31) (.tmp 33) 24 rfl w.heap.size 2 (.int .i64 0) 8 Try.underlying24 infoInt rfl _ L (k : Int) rfl ((D.out.get 1 rfl).later (newB _ _)) _ _ rfl 2 (heap_alloc_new _ _) hLl2 (by decide) (by simp; omega) ?_; intro g' cap w7 hO7 hg7 hl7)
        have D7 := Lib.hid ((D.out.later (newB _ _)).push 1 rfl hO7 hg7 hl7)
        go_roundw
        case rel => exact ⟨k + 1, by omega, by first | rfl | go_num, Lib.hid (by rw [hE1.out]; exact D7.out)⟩
        case measure => first | (simp [intOf]; done) | (simp [intOf]; omega)
    · obtain rfl : k = fs.length := by omega
      go_wp2_with fail
      go_ret2
      exact ⟨_, rfl, D.out.get 1 rfl, D.out.up⟩
theorem join1_c (f g : Foot) (m : Int) (b1 b2 : Nat) (w : World) (hf : okFoot f = true) (hg : okFoot g = true) (c0 : w.cell? ⟨b1, 0, none⟩ = some (.int .i64 g.Length)) (c1 : w.cell? ⟨b1, 1, none⟩ = some (.int .i64 g.Ball)) (c2 : w.cell? ⟨b1, 2, none⟩ = some (.int .i64 g.Instep)) (c3 : w.cell? ⟨b1, 3, none⟩ = some (.int .i64 g.Heel)) (c4 : w.cell? ⟨b2, 0, none⟩ = some (.int .i64 m)) :
    Calls Try.prog 108 #[.agg #[.int .i64 f.Length, .int .i64 f.Ball, .int .i64 f.Instep, .int .i64 f.Heel], .pointer (some ⟨b1, 0, none⟩), .pointer (some ⟨b2, 0, none⟩)] w fun e w' => e = .returned (.bool (farB f g m)) ∧ Below w.heap.size w w' := by
  obtain ⟨w5, hw5⟩ : ∃ w5, w5 = w.alloc (.cells #[.int .i64 f.Length, .int .i64 f.Ball, .int .i64 f.Instep, .int .i64 f.Heel] 62) := ⟨_, rfl⟩
  have hb5 : Below w.heap.size w w5 := by rw [hw5]; exact newB _ _
  have V : Own w.heap.size w5 62 (.slice (some ⟨w.heap.size, 0, none⟩) 4 4) (footC f) := by rw [hw5]; exact own_footC w _ f
  obtain ⟨y0, y1, y2, y3⟩ := footC_cells V
  replace c0 := kept_cell c0 hb5
  replace c1 := kept_cell c1 hb5
  replace c2 := kept_cell c2 hb5
  replace c3 := kept_cell c3 hb5
  replace c4 := kept_cell c4 hb5
  replace hw5 := Lib.hid hw5
  have hI := Lib.hid (isFar_c f g m w5 hf hg)
  replace hf := Lib.hid hf
  replace hg := Lib.hid hg
  clear V
  go_enter Try.func108, Try.ntmps108
  go_wp2_with (rw [← hw5.out])
  refine hI.out.mono ?_
  rintro e w6 ⟨rfl, hb6⟩
  go_wp2_with fail
  go_ret
  exact ⟨rfl, upw hb5 hb6⟩
theorem join1_enters : Enters Try.prog 108 := enters_of Try.func108 (by kernel_rfl) (by kernel_rfl)
end Go.Proofs.Ytlaclknhenccdaa
