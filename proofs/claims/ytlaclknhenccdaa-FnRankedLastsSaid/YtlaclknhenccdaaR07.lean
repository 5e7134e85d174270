/- Chapter 4, the last for both feet: the program. -/
import Derived.Test.YtlaclknhenccdaaR06
namespace Go.Proofs.Ytlaclknhenccdaa
open Go.RowKit

/-- The first with the least sum of those that all feet allow, and a code. -/
def pairRes (xs : List Last) (q : FitV) (fs : List Foot) : Int × Int :=
  if alwTo (fun i => allF (lastAt xs i) q fs) xs.length = [] then (0, 10) else ((bestTo (fun i => allF (lastAt xs i) q fs) (fun i => sumF (lastAt xs i) q fs) xs.length).1, 0)
theorem pair_cases (xs : List Last) (q : FitV) (fs : List Foot) : ((bestTo (fun i => allF (lastAt xs i) q fs) (fun i => sumF (lastAt xs i) q fs) xs.length).1 < 0 ∧ (pairRes xs q fs).2 = 10) ∨
    (0 ≤ (bestTo (fun i => allF (lastAt xs i) q fs) (fun i => sumF (lastAt xs i) q fs) xs.length).1 ∧ (pairRes xs q fs).1 = (bestTo (fun i => allF (lastAt xs i) q fs) (fun i => sumF (lastAt xs i) q fs) xs.length).1 ∧ (pairRes xs q fs).2 = 0) := by
  unfold pairRes
  rcases best_is (fun i => allF (lastAt xs i) q fs) (fun i => sumF (lastAt xs i) q fs) xs.length with ⟨h1, h2⟩ | ⟨⟨j, h1, -, -, -, -⟩, h6⟩
  · rw [if_pos h1, h2]; exact Or.inl ⟨by decide, rfl⟩
  · rw [if_neg (fun e => by rw [e] at h1; simp at h1)]; exact Or.inr ⟨h6, rfl, rfl⟩
set_option maxHeartbeats 2000000 in
theorem cheapest_c (a : Option Addr) (xs : List Last) (ca : Nat) (q : FitV) (fa : Option Addr) (c : Nat) (b : Option Addr) (fs : List Foot) (cb : Nat) (w : World) (hx : At w a xs) (hv : OkLasts xs) (hW : At w fa q.ws) (hq : OkFit q) (hf : At w b fs) (hfo : ∀ f ∈ fs, okFoot f = true) (hfl : fs.length ≤ 2) :
    Calls Try.prog 125 #[.slice a xs.length ca, .agg #[.int .i64 q.mn, .int .i64 q.mx, .int .i64 q.gi, .slice fa 4 c], .slice b fs.length cb] w fun e w' => e = .returned (.tuple #[.int .i64 (pairRes xs q fs).1, .int .i64 (pairRes xs q fs).2]) ∧ Below w.heap.size w w' := by
  have hC := Lib.hid (fun w' h1 h2 h3 => allowed_c a xs ca q fa c b fs cb w' h1 hv h2 hq h3 hfo hfl)
  have hlen := hv.len
  unfold pairRes
  have hB := best_is (fun i => allF (lastAt xs i) q fs) (fun i => sumF (lastAt xs i) q fs) xs.length
  have hl1 := alw_length (fun i => allF (lastAt xs i) q fs) xs.length
  have hl2 := cs_length (fun i => allF (lastAt xs i) q fs) (fun i => sumF (lastAt xs i) q fs) xs.length
  obtain ⟨A, hA⟩ : ∃ A, A = alwTo (fun i => allF (lastAt xs i) q fs) xs.length := ⟨_, rfl⟩
  obtain ⟨S, hS⟩ : ∃ S, S = csTo (fun i => allF (lastAt xs i) q fs) (fun i => sumF (lastAt xs i) q fs) xs.length := ⟨_, rfl⟩
  obtain ⟨b0, hb0⟩ : ∃ b, b = bestTo (fun i => allF (lastAt xs i) q fs) (fun i => sumF (lastAt xs i) q fs) xs.length := ⟨_, rfl⟩
  rw [← hA, ← hS] at hC hB
  rw [← hb0] at hB
  rw [← hA] at hl1
  rw [← hA, ← hS] at hl2
  rw [← hA, ← hb0]
  clear hA hS hb0 hv hq hfo
  obtain ⟨w1, hw1⟩ : ∃ w1, w1 = w.alloc (.cells #[.int .i64 q.mn, .int .i64 q.mx, .int .i64 q.gi, .slice fa 4 c] 72) := ⟨_, rfl⟩
  have D : Sp w w1 [ite' 72 (.slice (some ⟨w.heap.size, 0, none⟩) 4 4) (fitC q fa c)] := by rw [hw1]; exact (Sp.refl w).add (newB w _) (own_fitC w _ q fa c)
  replace hw1 := Lib.hid hw1
  obtain ⟨q0, q1, q2, q3⟩ := fitC_cells (D.get 0 rfl)
  replace hx := hx.below D.up
  replace hW := hW.below D.up
  replace hf := hf.below D.up
  replace D := Lib.hid D
  by_cases h0 : A = []
  · have hz : Hid (A.length = 0) := Lib.hid (by rw [h0]; rfl)
    rw [if_pos h0]
    have hz' : ((A.length : Int) == 0) = true := by simp [h0]
    replace h0 := Lib.hid h0
    replace hB := Lib.hid hB
    replace hl1 := Lib.hid hl1
    replace hl2 := Lib.hid hl2
    go_enter Try.func125, Try.ntmps125
    go_wp2_with (rw [← hw1.out])
    refine (hC.out _ hx hW hf).mono ?_
    rintro e w2 ⟨v1, v2, rfl, T⟩
    obtain ⟨a1, k1, rfl, -⟩ := (T.get 1 rfl : Own _ _ _ _ A).at
    have hb2 := upw D.out.up T.up
    clear T hC
    go_wp2_with fail
    go_ret2
    exact ⟨rfl, hb2⟩
  · rw [if_neg h0]
    obtain ⟨⟨j, h1, h2, h3, h4, h5⟩, -⟩ := hB.resolve_left fun h => h0 h.1
    have hz' : ((A.length : Int) == 0) = false := beq_eq_false_iff_ne.2 (by omega)
    have hA0 : 0 < A.length := by omega
    have hS0 : 0 < S.length := by omega
    have hjI : (j : Int) < A.length := by omega
    have hMin := Lib.hid (fun a' c' w' h => sliceMin_c a' S c' w' h hS0 (by omega))
    have hIx := Lib.hid (fun a' c' w' h => sliceIndex_c a' S c' b0.2 j w' h (by omega) h3 (fun t ht e => by have := h5 t _ ht e; omega))
    have h2' := Lib.hid h2
    have h3' := Lib.hid h3
    have h4' := Lib.hid h4
    clear hB h0 h2 h3 h4 h5
    replace hl2 := Lib.hid hl2
    obtain ⟨B1, hB1⟩ : ∃ B, B = b0.1 := ⟨_, rfl⟩
    rw [← hB1] at h2' ⊢
    clear hB1
    go_enter Try.func125, Try.ntmps125
    go_wp2_with (rw [← hw1.out])
    refine (hC.out _ hx hW hf).mono ?_
    rintro e w2 ⟨v1, v2, rfl, T⟩
    obtain ⟨a1, k1, rfl, A1⟩ := (T.get 1 rfl : Own _ _ _ _ A).at
    obtain ⟨a2, k2, rfl, A2⟩ := (T.get 0 rfl : Own _ _ _ _ S).at
    have hb2 := upw D.out.up T.up
    clear T hC D hx hW hf q0 q1 q2 q3
    obtain ⟨g1, o1, rfl⟩ := A1.addr h1
    have cj := A1.int h1
    rw [show A[j] = B1 from by have := h2'.out; rw [List.getElem?_eq_getElem h1] at this; exact Option.some.inj this] at cj
    go_wp2_with fail
    refine (hMin.out _ _ _ A2).mono ?_
    rintro e w3 ⟨m, rfl, ⟨t, hm1⟩, hm2, hw3⟩
    rw [hw3]
    clear hw3 w3
    have hm : m = b0.2 := by
      have e1 := hm2 j _ h3'.out
      have e2 := h4'.out t _ hm1
      omega
    rw [hm]
    clear hm hm1 hm2 hMin
    go_wp2_with fail
    refine (hIx.out _ _ _ A2).mono ?_
    rintro e w3 ⟨rfl, hw3⟩
    rw [hw3]
    clear hw3 w3 hIx
    go_wp2_with fail
    go_ret2
    exact ⟨rfl, hb2⟩
set_option maxHeartbeats 2000000 in
theorem pairLast_ok (a : Option Addr) (xs : List Last) (ca : Nat) (f r : Foot) (q : FitV) (fa : Option Addr) (c : Nat) (w : World) (hx : At w a xs) (hv : OkLasts xs) (hf : okFoot f = true) (hf2 : okFoot r = true) (hq : OkFit q) (hW : At w fa q.ws) :
    Calls Try.prog 53 #[.slice a xs.length ca, .agg #[.int .i64 f.Length, .int .i64 f.Ball, .int .i64 f.Instep, .int .i64 f.Heel], .agg #[.int .i64 r.Length, .int .i64 r.Ball, .int .i64 r.Instep, .int .i64 r.Heel], .agg #[.int .i64 q.mn, .int .i64 q.mx, .int .i64 q.gi, .slice fa 4 c]] w fun e w' => e = .returned (.tuple #[.int .i64 (pairRes xs q [f, r]).1, .int .i64 (pairRes xs q [f, r]).2]) ∧ Below w.heap.size w w' := by
  obtain ⟨wz, hwz⟩ : ∃ wz, wz = w.alloc (.cells #[.int .i64 f.Length, .int .i64 f.Ball, .int .i64 f.Instep, .int .i64 f.Heel] 62) := ⟨_, rfl⟩
  have Dz : Sp w wz [ite' 62 (.slice (some ⟨w.heap.size, 0, none⟩) 4 4) (footC f)] := by rw [hwz]; exact (Sp.refl w).add (newB w _) (own_footC w _ f)
  have hsz : wz.heap.size = w.heap.size + 1 := by rw [hwz]; exact World.size_alloc _ _
  obtain ⟨wa, hwa⟩ : ∃ wa, wa = wz.alloc (.cells #[.int .i64 r.Length, .int .i64 r.Ball, .int .i64 r.Instep, .int .i64 r.Heel] 62) := ⟨_, rfl⟩
  have Da := Dz.add (w' := wa) (by rw [hwa]; exact newB wz _) (by rw [hwa]; exact own_footC wz 62 r)
  have hsa : wa.heap.size = w.heap.size + 1 + 1 := by rw [hwa, World.size_alloc, hsz]
  obtain ⟨wb, hwb⟩ : ∃ wb, wb = wa.alloc (.cells #[.int .i64 q.mn, .int .i64 q.mx, .int .i64 q.gi, .slice fa 4 c] 72) := ⟨_, rfl⟩
  have D := Da.add (w' := wb) (by rw [hwb]; exact newB wa _) (by rw [hwb]; exact own_fitC wa 72 q fa c)
  rw [hsz, hsa] at D
  replace hwb := Lib.hid (hwb.trans (by rw [hwa, hwz]))
  clear Da Dz hsa hsz hwa hwz
  replace hW := hW.below D.up
  replace hx := hx.below D.up
  have hc1 := Lib.hid (fun w' h => validLasts_ok a xs ca w' h hv)
  have hc2 := Lib.hid (fun w' => validFoot_c f w')
  have hc5 := Lib.hid (fun w' => validFoot_c r w')
  have hc3 := Lib.hid (fun w' h => validFit_ok q fa c w' hq h)
  have hc4 := Lib.hid (fun w' b cb h1 h2 h3 => cheapest_c a xs ca q fa c b [f, r] cb w' h1 hv h2 hq h3 (by simp [hf, hf2]) (by simp))
  rw [hf] at hc2
  rw [hf2] at hc5
  generalize (pairRes xs q [f, r]).1 = r1 at *
  generalize (pairRes xs q [f, r]).2 = r2 at *
  clear hv hf hf2 hq
  replace D := Lib.hid D
  go_enter Try.func53, Try.ntmps53
  go_wp2_with (rw [← hwb.out])
  refine (hc1.out _ hx).mono ?_
  rintro e w2 ⟨rfl, hb2⟩
  replace D := Lib.hid (D.out.later hb2)
  replace hW := hW.below hb2
  replace hx := hx.below hb2
  clear hb2
  clear hwb
  obtain ⟨f0, f1, f2, f3⟩ := footC_cells (D.out.get 2 rfl)
  go_wp2_with fail
  refine (hc2.out _).mono ?_
  rintro e w2 ⟨rfl, hb2⟩
  replace D := Lib.hid (D.out.later hb2)
  replace hW := hW.below hb2
  replace hx := hx.below hb2
  clear hb2
  obtain ⟨g0, g1, g2, g3⟩ := footC_cells (D.out.get 1 rfl)
  go_wp2_with fail
  refine (hc5.out _).mono ?_
  rintro e w2 ⟨rfl, hb2⟩
  replace D := Lib.hid (D.out.later hb2)
  replace hW := hW.below hb2
  replace hx := hx.below hb2
  clear hb2
  obtain ⟨q0, q1, q2, q3⟩ := fitC_cells (D.out.get 0 rfl)
  go_wp2_with fail
  refine (hc3.out _ hW).mono ?_
  rintro e w2 ⟨rfl, hb2⟩
  replace D := Lib.hid (D.out.later hb2)
  replace hW := hW.below hb2
  replace hx := hx.below hb2
  clear hb2
  obtain ⟨q0, q1, q2, q3⟩ := fitC_cells (D.out.get 0 rfl)
  obtain ⟨f0, f1, f2, f3⟩ := footC_cells (D.out.get 2 rfl)
  obtain ⟨g0, g1, g2, g3⟩ := footC_cells (D.out.get 1 rfl)
  obtain ⟨w5, hw5⟩ : ∃ w5, w5 = w2.alloc (.cells #[.int .i64 f.Length, .int .i64 f.Ball, .int .i64 f.Instep, .int .i64 f.Heel, .int .i64 r.Length, .int .i64 r.Ball, .int .i64 r.Instep, .int .i64 r.Heel] 62) := ⟨_, rfl⟩
  have D5 := Lib.hid (D.out.add (w' := w5) (by rw [hw5]; exact newB w2 _) (by rw [hw5]; exact own_alloc w2 62 _ [f, r] rfl (by show 2 ≤ 1048576; omega)))
  have hb5 : Below w2.heap.size w2 w5 := by rw [hw5]; exact newB w2 _
  replace hx := hx.below hb5
  replace hW := hW.below hb5
  replace hw5 := Lib.hid hw5
  clear hb5
  go_wp2_with (rw [← hw5.out])
  refine (hc4.out _ _ _ hx hW (D5.out.get 0 rfl : Own _ _ _ _ [f, r]).at').mono ?_
  rintro e w6 ⟨rfl, hb6⟩
  replace D5 := Lib.hid (D5.out.later hb6)
  go_wp2_with fail
  go_ret2
  exact ⟨rfl, D5.out.up⟩
end Go.Proofs.Ytlaclknhenccdaa
