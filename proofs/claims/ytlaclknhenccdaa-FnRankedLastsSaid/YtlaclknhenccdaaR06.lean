/- Chapter 4, the allowed lasts, the ranked ones, and the last for both feet: the program. -/
import Derived.Test.YtlaclknhenccdaaR05
namespace Go.Proofs.Ytlaclknhenccdaa
open Go.RowKit

theorem At.ahead {α : Type} [Flat α] {w : World} {a : Option Addr} {xs : List α} (h : At w a xs) : xs = [] ∨ Ahead a w.heap.size := by
  rcases h with h | ⟨b, off, ha, hlt, -⟩
  · exact Or.inl h
  · refine Or.inr fun b' o' e => ?_
    rw [ha] at e
    simp only [Option.some.injEq, Addr.mk.injEq] at e
    omega
theorem At.behind {α : Type} [Flat α] {w w' : World} {a : Option Addr} {xs : List α} {g n : Nat} (h : At w a xs) (ho : xs = [] ∨ Ahead a n) (hn : n ≤ g) (hg : w.grownBy w' (some g)) : At w' a xs :=
  h.offF (ho.imp_right fun k => k.off hn) hg
def sliceC (a : Option Addr) (n c : Nat) : List OneCell := [⟨.slice a n c, rfl⟩]
theorem own_sliceC (w : World) (t : TypeId) (a : Option Addr) (n c : Nat) : Own w.heap.size (w.alloc (.cells #[.slice a n c] t)) t (.slice (some ⟨w.heap.size, 0, none⟩) 1 1) (sliceC a n c) :=
  ⟨rfl, .inr ⟨w.heap.size, 1, #[.slice a n c], rfl, Nat.le_refl _, heap_alloc_new _ _, Nat.le_refl _, by unfold maxLen; omega, rfl, rfl⟩⟩
theorem sliceC_cell {B : Nat} {w : World} {e : TypeId} {g n c' : Nat} {a : Option Addr} {k c : Nat} (h : Own B w e (.slice (some ⟨g, 0, none⟩) n c') (sliceC a k c)) : w.cell? ⟨g, 0, none⟩ = some (.slice a k c) := own_one h (i := 0) (by show 0 < 1; omega)
theorem allF_one (x : Last) (f : Foot) (q : FitV) : allF x q [f] = mayL x f q := by simp [allF]
/-- Whether the last at a place is allowed. -/
def mayAt (xs : List Last) (f : Foot) (q : FitV) (i : Nat) : Bool := mayL (lastAt xs i) f q
theorem alw_one (xs : List Last) (f : Foot) (q : FitV) (n : Nat) : alwTo (fun i => allF (lastAt xs i) q [f]) n = alwTo (mayAt xs f q) n := by
  congr 1; funext i; rw [allF_one]; rfl
set_option maxHeartbeats 2000000 in
theorem allowedLasts_ok (a : Option Addr) (xs : List Last) (ca : Nat) (f : Foot) (q : FitV) (fa : Option Addr) (c : Nat) (w : World) (hx : At w a xs) (hv : OkLasts xs) (hf : okFoot f = true) (hq : OkFit q) (hW : At w fa q.ws) :
    Calls Try.prog 50 #[.slice a xs.length ca, .agg #[.int .i64 f.Length, .int .i64 f.Ball, .int .i64 f.Instep, .int .i64 f.Heel], .agg #[.int .i64 q.mn, .int .i64 q.mx, .int .i64 q.gi, .slice fa 4 c]] w fun e w' => ∃ v, e = .returned (.tuple #[v, .int .i64 0]) ∧ Own w.heap.size w' 2 v (alwTo (mayAt xs f q) xs.length) ∧ Below w.heap.size w w' := by
  obtain ⟨wa, hwa⟩ : ∃ wa, wa = w.alloc (.cells #[.int .i64 f.Length, .int .i64 f.Ball, .int .i64 f.Instep, .int .i64 f.Heel] 62) := ⟨_, rfl⟩
  have Da : Sp w wa [ite' 62 (.slice (some ⟨w.heap.size, 0, none⟩) 4 4) (footC f)] := by rw [hwa]; exact (Sp.refl w).add (newB w _) (own_footC w _ f)
  have hsa : wa.heap.size = w.heap.size + 1 := by rw [hwa]; exact World.size_alloc _ _
  obtain ⟨wb, hwb⟩ : ∃ wb, wb = wa.alloc (.cells #[.int .i64 q.mn, .int .i64 q.mx, .int .i64 q.gi, .slice fa 4 c] 72) := ⟨_, rfl⟩
  have D := Da.add (w' := wb) (by rw [hwb]; exact newB wa _) (by rw [hwb]; exact own_fitC wa 72 q fa c)
  rw [hsa] at D
  replace hwb := Lib.hid (hwb.trans (by rw [hwa]))
  clear Da hsa hwa
  replace hW := hW.below D.up
  replace hx := hx.below D.up
  have hc1 := Lib.hid (fun w' h => validLasts_ok a xs ca w' h hv)
  have hc2 := Lib.hid (fun w' => validFoot_c f w')
  have hc3 := Lib.hid (fun w' h => validFit_ok q fa c w' hq h)
  have hc4 := Lib.hid (fun w' b cb h1 h2 h3 => allowed_c a xs ca q fa c b [f] cb w' h1 hv h2 hq h3 (by simpa using hf) (by simp))
  simp only [alw_one] at hc4
  rw [hf] at hc2
  clear hv hf hq
  replace D := Lib.hid D
  obtain ⟨n0, hn0⟩ : ∃ n0, n0 = w.heap.size := ⟨_, rfl⟩
  go_enter Try.func50, Try.ntmps50
  go_wp2_with (rw [← hwb.out])
  refine (hc1.out _ hx).mono ?_
  rintro e w2 ⟨rfl, hb2⟩
  replace D := Lib.hid (D.out.later hb2)
  replace hW := hW.below hb2
  replace hx := hx.below hb2
  clear hb2
  clear hwb
  obtain ⟨f0, f1, f2, f3⟩ := footC_cells (D.out.get 1 rfl)
  go_wp2_with fail
  refine (hc2.out _).mono ?_
  rintro e w2 ⟨rfl, hb2⟩
  replace D := Lib.hid (D.out.later hb2)
  replace hW := hW.below hb2
  replace hx := hx.below hb2
  clear hb2
  obtain ⟨q0, q1, q2, q3⟩ := fitC_cells (D.out.get 0 rfl)
  go_wp2_with fail
  refine (hc3.out _ hW).mono ?_
  rintro e w2 ⟨rfl, hb2⟩
  replace D := Lib.hid (D.out.later hb2)
  replace hW := hW.below hb2
  replace hx := hx.below hb2
  clear hb2
  obtain ⟨q0, q1, q2, q3⟩ := fitC_cells (D.out.get 0 rfl)
  obtain ⟨f0, f1, f2, f3⟩ := footC_cells (D.out.get 1 rfl)
  obtain ⟨w5, hw5⟩ : ∃ w5, w5 = w2.alloc (.cells #[.int .i64 f.Length, .int .i64 f.Ball, .int .i64 f.Instep, .int .i64 f.Heel] 62) := ⟨_, rfl⟩
  have D5 := Lib.hid (D.out.add (w' := w5) (by rw [hw5]; exact newB w2 _) (by rw [hw5]; exact own_foot1 w2 62 f))
  have hb5 : Below w2.heap.size w2 w5 := by rw [hw5]; exact newB w2 _
  replace hx := hx.below hb5
  replace hW := hW.below hb5
  replace hw5 := Lib.hid hw5
  clear hb5
  go_wp2_with (rw [← hw5.out])
  refine (hc4.out _ _ _ hx hW (D5.out.get 0 rfl : Own _ _ _ _ [f]).at').mono ?_
  rintro e w6 ⟨v1, v2, rfl, S⟩
  have hO := (S.get 1 rfl : Own _ _ _ _ (alwTo (mayAt xs f q) xs.length))
  have D6 := Lib.hid (D5.out.add S.up hO)
  clear S hO
  go_wp2_with fail
  go_ret2
  exact ⟨_, rfl, D6.out.get 0 rfl, D6.out.up⟩
theorem insSort0_c (a : Option Addr) (cap : Nat) (v : Value) (w : World) :
    Calls Try.prog 192 #[.slice a 0 cap, .int .i64 0, .int .i64 0, v] w fun e w' => e = .returned (.tuple #[]) ∧ w' = w := by
  go_enter Try.func192, Try.ntmps192
  go_wp2_with fail
  go_loopw [8, 9] (fun i _ wr => i = .int .i64 1 ∧ wr = w) (fun _ _ _ => 0)
  case atStart => exact ⟨rfl, rfl⟩
  case round =>
    obtain ⟨rfl, rfl⟩ := hrel
    go_wp2_with fail
    go_end0
    exact ⟨rfl, rfl⟩
theorem stable0_c (a : Option Addr) (cap : Nat) (v : Value) (w : World) :
    Calls Try.prog 162 #[.slice a 0 cap, .int .i64 0, v] w fun e w' => e = .returned (.tuple #[]) ∧ w' = w := by
  go_enter Try.func162, Try.ntmps162
  go_wp2_with fail
  go_loopw [7, 8] (fun x y wr => x = .int .i64 0 ∧ y = .int .i64 20 ∧ wr = w) (fun _ _ _ => 0)
  case atStart => exact ⟨rfl, rfl, rfl⟩
  case round =>
    obtain ⟨rfl, rfl, rfl⟩ := hrel
    go_wp2_with fail
    refine (insSort0_c a cap v _).mono ?_
    rintro e w2 ⟨rfl, rfl⟩
    obtain ⟨wo, hwo⟩ : ∃ wo : World, wo = w2 := ⟨_, rfl⟩
    subst hwo
    go_wp2_with fail
    go_loopw [6, 7, 8, 9] (fun x _ _ _ wr => x = .int .i64 20 ∧ wr = wo) (fun _ _ _ _ _ => 0)
    case atStart => exact ⟨rfl, rfl⟩
    case round =>
      obtain ⟨rfl, rfl⟩ := hrel
      go_wp2_with fail
      go_end0
      exact ⟨rfl, rfl⟩
theorem sortStable0_c (a : Option Addr) (cap : Nat) (v : Value) (w : World) :
    Calls Try.prog 117 #[.slice a 0 cap, v] w fun e w' => e = .returned (.tuple #[]) ∧ w' = w := by
  go_enter Try.func117, Try.ntmps117
  go_wp2_with fail
  refine (stable0_c a cap v _).mono ?_
  rintro e w2 ⟨rfl, rfl⟩
  go_wp2_with fail
  go_end0
  exact ⟨rfl, rfl⟩
set_option maxHeartbeats 4000000 in
theorem rankLasts_ok (a : Option Addr) (xs : List Last) (ca : Nat) (f : Foot) (q : FitV) (fa : Option Addr) (c : Nat) (w : World) (hx : At w a xs) (hv : OkLasts xs) (hl7 : xs.length < 20) (hf : okFoot f = true) (hq : OkFit q) (hW : At w fa q.ws) :
    Calls Try.prog 51 #[.slice a xs.length ca, .agg #[.int .i64 f.Length, .int .i64 f.Ball, .int .i64 f.Instep, .int .i64 f.Heel], .agg #[.int .i64 q.mn, .int .i64 q.mx, .int .i64 q.gi, .slice fa 4 c]] w fun e w' => ∃ v ys, e = .returned (.tuple #[v, .int .i64 0]) ∧ Ranked (costAt xs f q) (alwTo (mayAt xs f q) xs.length) ys ∧ Own w.heap.size w' 2 v ys ∧ Below w.heap.size w w' := by
  obtain ⟨wz, hwz⟩ : ∃ wz, wz = w.alloc (.cells #[.slice a xs.length ca] 69) := ⟨_, rfl⟩
  have Dz : Sp w wz [ite' 69 (.slice (some ⟨w.heap.size, 0, none⟩) 1 1) (sliceC a xs.length ca)] := by rw [hwz]; exact (Sp.refl w).add (newB w _) (own_sliceC w _ a _ ca)
  have hsz : wz.heap.size = w.heap.size + 1 := by rw [hwz]; exact World.size_alloc _ _
  obtain ⟨wa, hwa⟩ : ∃ wa, wa = wz.alloc (.cells #[.int .i64 f.Length, .int .i64 f.Ball, .int .i64 f.Instep, .int .i64 f.Heel] 62) := ⟨_, rfl⟩
  have Da := Dz.add (w' := wa) (by rw [hwa]; exact newB wz _) (by rw [hwa]; exact own_footC wz 62 f)
  have hsa : wa.heap.size = w.heap.size + 1 + 1 := by rw [hwa, World.size_alloc, hsz]
  obtain ⟨wb, hwb⟩ : ∃ wb, wb = wa.alloc (.cells #[.int .i64 q.mn, .int .i64 q.mx, .int .i64 q.gi, .slice fa 4 c] 72) := ⟨_, rfl⟩
  have D := Da.add (w' := wb) (by rw [hwb]; exact newB wa _) (by rw [hwb]; exact own_fitC wa 72 q fa c)
  rw [hsz, hsa] at D
  replace hwb := Lib.hid (hwb.trans (by rw [hwa, hwz]))
  have hxA := Lib.hid hx.ahead
  have hWA := Lib.hid hW.ahead
  clear Da Dz hsa hsz hwa hwz
  replace hW := hW.below D.up
  replace hx := hx.below D.up
  have hc1 := Lib.hid (fun w' h => validLasts_ok a xs ca w' h hv)
  have hc2 := Lib.hid (fun w' => validFoot_c f w')
  have hc3 := Lib.hid (fun w' h => validFit_ok q fa c w' hq h)
  have hc4 := Lib.hid (fun w' b cb h1 h2 h3 => allowed_c a xs ca q fa c b [f] cb w' h1 hv h2 hq h3 (by simpa using hf) (by simp))
  simp only [alw_one] at hc4
  rw [hf] at hc2
  have hup := Lib.hid (alw_up (mayAt xs f q) xs.length)
  have hlen := Lib.hid (alw_length (mayAt xs f q) xs.length)
  have hmem := Lib.hid (fun v (h : v ∈ alwTo (mayAt xs f q) xs.length) => (alw_mem (mayAt xs f q)).1 h)
  have hR1 := Lib.hid (fun (i j : Nat) w' hi hj => rank1_c i j w.heap.size (w.heap.size + 1) (w.heap.size + 1 + 1) a xs ca f q fa c w' hi hj hv.ok hf hq)
  clear hv hf hq
  replace D := Lib.hid D
  have l0 := sliceC_cell (D.out.get 2 rfl)
  go_enter Try.func51, Try.ntmps51
  go_wp2_with (rw [← hwb.out])
  refine (hc1.out _ hx).mono ?_
  rintro e w2 ⟨rfl, hb2⟩
  replace D := Lib.hid (D.out.later hb2)
  replace hW := hW.below hb2
  replace hx := hx.below hb2
  clear hb2
  clear hwb l0
  obtain ⟨f0, f1, f2, f3⟩ := footC_cells (D.out.get 1 rfl)
  go_wp2_with fail
  refine (hc2.out _).mono ?_
  rintro e w2 ⟨rfl, hb2⟩
  replace D := Lib.hid (D.out.later hb2)
  replace hW := hW.below hb2
  replace hx := hx.below hb2
  clear hb2
  obtain ⟨q0, q1, q2, q3⟩ := fitC_cells (D.out.get 0 rfl)
  go_wp2_with fail
  refine (hc3.out _ hW).mono ?_
  rintro e w2 ⟨rfl, hb2⟩
  replace D := Lib.hid (D.out.later hb2)
  replace hW := hW.below hb2
  replace hx := hx.below hb2
  clear hb2
  obtain ⟨q0, q1, q2, q3⟩ := fitC_cells (D.out.get 0 rfl)
  obtain ⟨f0, f1, f2, f3⟩ := footC_cells (D.out.get 1 rfl)
  have l0 := sliceC_cell (D.out.get 2 rfl)
  obtain ⟨w5, hw5⟩ : ∃ w5, w5 = w2.alloc (.cells #[.int .i64 f.Length, .int .i64 f.Ball, .int .i64 f.Instep, .int .i64 f.Heel] 62) := ⟨_, rfl⟩
  have D5 := Lib.hid (D.out.add (w' := w5) (by rw [hw5]; exact newB w2 _) (by rw [hw5]; exact own_foot1 w2 62 f))
  have hb5 : Below w2.heap.size w2 w5 := by rw [hw5]; exact newB w2 _
  replace hx := hx.below hb5
  replace hW := hW.below hb5
  replace hw5 := Lib.hid hw5
  clear hb5
  go_wp2_with (rw [← hw5.out])
  refine (hc4.out _ _ _ hx hW (D5.out.get 0 rfl : Own _ _ _ _ [f]).at').mono ?_
  rintro e w6 ⟨v1, v2, rfl, S⟩
  have hO := (S.get 1 rfl : Own _ _ _ _ (alwTo (mayAt xs f q) xs.length))
  have D6 := Lib.hid (D5.out.add S.up hO)
  have hx6 := hx.below S.up
  have hW6 := hW.below S.up
  clear S hO hx hW D5 D l0 f0 f1 f2 f3 q0 q1 q2 q3 hw5 hc1 hc2 hc3 hc4
  obtain ⟨A, hA⟩ : ∃ A, A = alwTo (mayAt xs f q) xs.length := ⟨_, rfl⟩
  rw [← hA] at D6 hup hlen hmem
  have hAe := Lib.hid hA
  clear hA
  have hAl := hlen.out
  by_cases h0 : A.length = 0
  · obtain ⟨a1, k1, rfl, -⟩ := (D6.out.get 0 rfl : Own _ _ _ _ A).at
    have hS := Lib.hid (fun (v : Value) w' => sortStable0_c a1 k1 v w')
    have hAn : A = [] := List.eq_nil_of_length_eq_zero h0
    have hRk := Lib.hid (⟨rfl, fun y hy => hy, by rw [hAn]; exact List.Pairwise.nil⟩ : Ranked (costAt xs f q) A A)
    have hlz : A.length = 0 := h0
    rw [hlz]
    replace hAn := Lib.hid hAn
    replace h0 := Lib.hid h0
    replace hlz := Lib.hid hlz
    go_wp2_with fail
    refine (hS.out _ _).mono ?_
    rintro e w7 ⟨rfl, rfl⟩
    go_wp2_with fail
    go_ret2
    exact ⟨_, A, rfl, by rw [← hAe.out]; exact hRk.out, by have h := (D6.out.get 0 rfl : Own _ _ _ _ A); rw [hlz.out] at h; exact h, D6.out.up⟩
  · obtain ⟨g, cap, rfl⟩ := (D6.out.get 0 rfl : Own _ _ _ _ A).row (by omega)
    have hS := Lib.hid (sortStable_c w.heap.size g cap A 118 #[.pointer (some ⟨w.heap.size, 0, none⟩), .pointer (some ⟨w.heap.size + 1, 0, none⟩), .pointer (some ⟨w.heap.size + 1 + 1, 0, none⟩)] (costAt xs f q) w6 rank1_enters (D6.out.get 0 rfl) hup.out (by omega) (fun x hxm y hym w' hgw => by
      obtain ⟨i, hi, rfl, -⟩ := hmem.out x hxm
      obtain ⟨j, hj, rfl, -⟩ := hmem.out y hym
      have E := D6.out.other hgw
      obtain ⟨f0, f1, f2, f3⟩ := footC_cells (E.get 2 rfl)
      obtain ⟨q0, q1, q2, q3⟩ := fitC_cells (E.get 1 rfl)
      have hab : ∀ k, some g = some k → w.heap.size ≤ k := fun k hk => ((D6.out.get 0 rfl : Own _ _ _ _ A).lt k hk).1
      exact hR1.out i j w' hi hj (hx6.behind hxA.out (hab g rfl) hgw) (hW6.behind hWA.out (hab g rfl) hgw) ⟨sliceC_cell (E.get 3 rfl), f0, f1, f2, f3, q0, q1, q2, q3⟩))
    clear hR1 hmem hup hlen hxA hWA hx6 hW6
    go_wp2_with fail
    refine hS.out.mono ?_
    rintro e w7 ⟨rfl, ys, -, hR, hO, hg⟩
    have D7 := Lib.hid (D6.out.set 0 rfl hO hg (Or.inl rfl))
    replace hR := Lib.hid hR
    clear hO hg hS D6
    go_wp2_with fail
    go_ret2
    exact ⟨_, ys, rfl, by rw [← hAe.out]; exact hR.out, D7.out.get 0 rfl, D7.out.up⟩
theorem sliceMin_c (a : Option Addr) (xs : List Int) (c : Nat) (w : World) (hx : At w a xs) (h0 : 0 < xs.length) (hl : xs.length ≤ 1000000) :
    Calls Try.prog 169 #[.slice a xs.length c] w fun e w' => ∃ m, e = .returned (.int .i64 m) ∧ (∃ t : Nat, xs[t]? = some m) ∧ (∀ (t : Nat) (c : Int), xs[t]? = some c → m ≤ c) ∧ w' = w := by
  obtain ⟨b, off, rfl⟩ := hx.addr h0
  have c0 := hx.int h0
  rw [Nat.add_zero] at c0
  have h1 : ¬ (xs.length : Int) < 1 := by omega
  have hlI : (0 : Int) < xs.length := by omega
  have hst : Hid ((∃ t : Nat, xs[t]? = some xs[0]) ∧ ∀ (t : Nat) (c : Int), t < 1 → xs[t]? = some c → xs[0] ≤ c) := by
    refine Lib.hid ⟨⟨0, List.getElem?_eq_getElem h0⟩, fun t c ht h => ?_⟩
    have e : t = 0 := by omega
    rw [e, List.getElem?_eq_getElem h0] at h
    cases h; exact Int.le_refl _
  generalize xs[0] = m0 at *
  go_enter Try.func169, Try.ntmps169
  go_wp2_with fail
  go_loopw [3, 4] (fun mv i wr => ∃ (k : Nat) (m : Int), 1 ≤ k ∧ k ≤ xs.length ∧ i = .int .i64 k ∧ mv = .int .i64 m ∧ Hid ((∃ t : Nat, xs[t]? = some m) ∧ ∀ (t : Nat) (c : Int), t < k → xs[t]? = some c → m ≤ c) ∧ wr = w) (fun _ i _ => xs.length - (intOf i).toNat)
  case atStart => exact ⟨1, m0, Nat.le_refl _, h0, rfl, rfl, hst, rfl⟩
  case round =>
    clear hst
    obtain ⟨k, m, hk1, hk, rfl, rfl, hm, rfl⟩ := hrel
    by_cases hlt : k < xs.length
    · have ck := hx.int hlt
      have hE := Lib.hid (List.getElem?_eq_getElem hlt)
      generalize xs[k] = X at *
      have hkN : (k : Int) < xs.length := by omega
      have hmn : Hid ((∃ t : Nat, xs[t]? = some (min m X)) ∧ ∀ (t : Nat) (c : Int), t < k + 1 → xs[t]? = some c → min m X ≤ c) := by
        refine Lib.hid ⟨?_, fun t c ht h => ?_⟩
        · by_cases hX : m ≤ X
          · rw [show min m X = m by omega]; exact hm.out.1
          · rw [show min m X = X by omega]; exact ⟨k, hE.out⟩
        · by_cases ht' : t < k
          · have := hm.out.2 t c ht' h; omega
          · obtain rfl : t = k := by omega
            rw [hE.out] at h; cases h; omega
      by_cases hX : X < m
      · have hmin : min m X = X := by omega
        rw [hmin] at hmn
        clear hmin
        go_wp2_with fail
        go_roundw
        case rel => exact ⟨k + 1, X, by omega, by omega, by first | rfl | go_num, by first | rfl | (simp; omega), hmn, trivial⟩
        case measure => first | (simp [intOf]; done) | (simp [intOf]; omega)
      · have hmin : min m X = m := by omega
        rw [hmin] at hmn
        clear hmin
        go_wp2_with fail
        go_roundw
        case rel => exact ⟨k + 1, m, by omega, by omega, by first | rfl | go_num, by first | rfl | (simp; omega), hmn, trivial⟩
        case measure => first | (simp [intOf]; done) | (simp [intOf]; omega)
    · obtain rfl : k = xs.length := by omega
      go_wp2_with fail
      go_ret
      exact ⟨m, rfl, hm.out.1, fun t c h => hm.out.2 t c (List.getElem?_eq_some_iff.1 h).1 h, rfl⟩
theorem sliceIndex_c (a : Option Addr) (xs : List Int) (c : Nat) (v : Int) (j : Nat) (w : World) (hx : At w a xs) (hl : xs.length ≤ 1000000) (hj : xs[j]? = some v) (hno : ∀ t : Nat, t < j → xs[t]? ≠ some v) :
    Calls Try.prog 168 #[.slice a xs.length c, .int .i64 v] w fun e w' => e = .returned (.int .i64 j) ∧ w' = w := by
  have hjl := (List.getElem?_eq_some_iff.1 hj).1
  obtain ⟨b, off, rfl⟩ := hx.addr (show 0 < xs.length by omega)
  replace hj := Lib.hid hj
  replace hno := Lib.hid hno
  go_enter Try.func168, Try.ntmps168
  go_wp2_with fail
  go_loopw [5, 8] (fun _ i wr => ∃ (k : Nat), k ≤ j ∧ i = .int .i64 k ∧ wr = w) (fun _ i _ => xs.length - (intOf i).toNat)
  case atStart => exact ⟨0, Nat.zero_le _, rfl, rfl⟩
  case round =>
    obtain ⟨k, hk, rfl, rfl⟩ := hrel
    have hlt : k < xs.length := by omega
    have ck := hx.int hlt
    have hkN : (k : Int) < xs.length := by omega
    have hE := Lib.hid (List.getElem?_eq_getElem hlt)
    generalize xs[k] = X at *
    by_cases hkj : k = j
    · have hv : (v == X) = true := by
        have h1 := hj.out; rw [← hkj, hE.out] at h1; cases h1; simp
      replace hkj := Lib.hid hkj
      go_wp2_with fail
      go_ret
      exact ⟨by rw [hkj.out]; rfl, rfl⟩
    · have hv : (v == X) = false := by
        rw [beq_eq_false_iff_ne]; intro e
        exact hno.out k (by omega) (by rw [hE.out, e])
      go_wp2_with fail
      go_roundw
      case rel => exact ⟨k + 1, by omega, by first | rfl | go_num, trivial⟩
      case measure => first | (simp [intOf]; done) | (simp [intOf]; omega)
end Go.Proofs.Ytlaclknhenccdaa
