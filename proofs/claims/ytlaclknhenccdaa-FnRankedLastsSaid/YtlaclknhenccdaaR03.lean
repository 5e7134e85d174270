/- Chapter 4, the lasts that are allowed for some feet, with their costs: the program. -/
import Derived.Test.YtlaclknhenccdaaR02
namespace Go.Proofs.Ytlaclknhenccdaa
open Go.RowKit

instance : Inhabited Last := ⟨⟨ByteArray.empty, 0, 0, 0, 0, 0⟩⟩
def lastAt (xs : List Last) (i : Nat) : Last := xs.getD i default
theorem lastAt_get {xs : List Last} {i : Nat} (h : i < xs.length) : lastAt xs i = xs[i] := by
  unfold lastAt; rw [List.getD_eq_getElem?_getD, List.getElem?_eq_getElem h]; rfl
/-- Whether the first j feet allow it, and what they cost. -/
def allF (x : Last) (q : FitV) (fs : List Foot) : Bool := fs.all fun f => mayL x f q
def sumF (x : Last) (q : FitV) (fs : List Foot) : Int := sumI (fs.map fun f => costL x f q)
theorem allF_succ (x : Last) (q : FitV) (fs : List Foot) (k : Nat) (h : k < fs.length) : allF x q (fs.take (k + 1)) = (allF x q (fs.take k) && mayL x fs[k] q) := by
  unfold allF
  rw [List.take_succ_eq_append_getElem h, List.all_append, List.all_cons, List.all_nil, Bool.and_true]
theorem sumF_succ (x : Last) (q : FitV) (fs : List Foot) (k : Nat) (h : k < fs.length) : sumF x q (fs.take (k + 1)) = sumF x q (fs.take k) + costL x fs[k] q := by
  unfold sumF
  rw [List.take_succ_eq_append_getElem h, List.map_append, sumI_append]
  simp [sumI_cons, sumI_nil]
theorem sumF_range {x : Last} {q : FitV} (hx : okLast x = true) (hq : OkFit q) : ∀ (fs : List Foot), (∀ f ∈ fs, okFoot f = true) → -(2000000 * (fs.length : Int)) ≤ sumF x q fs ∧ sumF x q fs ≤ 2000000 * (fs.length : Int)
  | [], _ => by simp [sumF, sumI_nil]
  | f :: fs, h => by
    have h1 := sumF_range hx hq fs fun g hg => h g (by simp [hg])
    have h2 := costL_range (costs_of hx (h f (by simp)) hq)
    unfold sumF at h1 ⊢
    rw [List.map_cons, sumI_cons, List.length_cons]
    omega
set_option maxRecDepth 100000 in
set_option maxHeartbeats 4000000 in
theorem allowed_c (a : Option Addr) (xs : List Last) (ca : Nat) (q : FitV) (fa : Option Addr) (c : Nat) (b : Option Addr) (fs : List Foot) (cb : Nat) (w : World) (hx : At w a xs) (hv : OkLasts xs) (hW : At w fa q.ws) (hq : OkFit q) (hf : At w b fs) (hfo : ∀ f ∈ fs, okFoot f = true) (hfl : fs.length ≤ 2) :
    Calls Try.prog 116 #[.slice a xs.length ca, .agg #[.int .i64 q.mn, .int .i64 q.mx, .int .i64 q.gi, .slice fa 4 c], .slice b fs.length cb] w fun e w' => ∃ v1 v2, e = .returned (.tuple #[v1, v2]) ∧
      Sp w w' [ite' 2 v2 (csTo (fun i => allF (lastAt xs i) q fs) (fun i => sumF (lastAt xs i) q fs) xs.length), ite' 2 v1 (alwTo (fun i => allF (lastAt xs i) q fs) xs.length)] := by
  obtain ⟨P, hP⟩ : ∃ P, P = fun i => allF (lastAt xs i) q fs := ⟨_, rfl⟩
  obtain ⟨C, hC⟩ : ∃ C, C = fun i => sumF (lastAt xs i) q fs := ⟨_, rfl⟩
  rw [← hP, ← hC]
  have hPk := Lib.hid (fun k => show P k = allF (lastAt xs k) q fs by rw [hP])
  have hCk := Lib.hid (fun k => show C k = sumF (lastAt xs k) q fs by rw [hC])
  clear hP hC
  obtain ⟨hok, -, -, hlen⟩ := hv
  replace hok := Lib.hid hok
  replace hfo := Lib.hid hfo
  replace hq := Lib.hid hq
  obtain ⟨w1, hw1⟩ : ∃ w1, w1 = w.alloc (.cells #[.int .i64 q.mn, .int .i64 q.mx, .int .i64 q.gi, .slice fa 4 c] 72) := ⟨_, rfl⟩
  have D : Sp w w1 [ite' 72 (.slice (some ⟨w.heap.size, 0, none⟩) 4 4) (fitC q fa c)] := by rw [hw1]; exact (Sp.refl w).add (newB w _) (own_fitC w _ q fa c)
  obtain ⟨w2, hw2⟩ : ∃ w2, w2 = w1.alloc (.cells #[] 2) := ⟨_, rfl⟩
  have D2 := D.alloc 2 #[] ([] : List Int) rfl (by simp)
  rw [← hw2] at D2
  obtain ⟨w3, hw3⟩ : ∃ w3, w3 = w2.alloc (.cells #[] 2) := ⟨_, rfl⟩
  have D3 := D2.alloc 2 #[] ([] : List Int) rfl (by simp)
  rw [← hw3] at D3
  simp only [List.length_nil] at D3
  have hs1 : w1.heap.size = w.heap.size + 1 := by rw [hw1]; exact World.size_alloc _ _
  have hs2 : w2.heap.size = w.heap.size + 1 + 1 := by rw [hw2, World.size_alloc, hs1]
  rw [hs1, hs2] at D3
  replace hw3 := Lib.hid (hw3.trans (by rw [hw2, hw1]))
  clear D D2 hs1 hs2 hw2 hw1 w1 w2
  have D := Lib.hid D3
  clear D3
  go_enter Try.func116, Try.ntmps116
  go_wp2_with (rw [← hw3.out])
  clear hw3
  obtain ⟨n1, hn1⟩ : ∃ n1, n1 = w.heap.size := ⟨_, rfl⟩
  go_loopw [8, 9, 10, 11, 12, 13, 15, 16, 17, 22] (fun ov cv _ _ _ _ _ _ _ i wr => ∃ k : Nat, k ≤ xs.length ∧ i = .int .i64 k ∧ Hid (Sp w wr [ite' 2 cv (csTo P C k), ite' 2 ov (alwTo P k), ite' 72 (.slice (some ⟨w.heap.size, 0, none⟩) 4 4) (fitC q fa c)])) (fun _ _ _ _ _ _ _ _ _ i _ => xs.length - (intOf i).toNat)
  case atStart => exact ⟨0, Nat.zero_le _, rfl, D⟩
  case round =>
    clear D
    obtain ⟨k, hk, rfl, D⟩ := hrel
    obtain ⟨wa, hwa⟩ : ∃ wo : World, wo = wr := ⟨_, rfl⟩
    subst hwa
    by_cases hlt : k < xs.length
    · have hxa := hx.below D.out.up
      obtain ⟨g, off, rfl⟩ := hx.addr hlt
      obtain ⟨y0, y1, y2, y3, y4, y5⟩ := hxa.last hlt
      have hE1 := Lib.hid (show alwTo P (k + 1) = alwTo P k ++ (if P k then [(k : Int)] else []) from rfl)
      have hE2 := Lib.hid (show csTo P C (k + 1) = csTo P C k ++ (if P k then [C k] else []) from rfl)
      have hL1 := alw_length P k
      have hL2 := cs_length P C k
      have hPx := Lib.hid (hPk.out k)
      have hCx := Lib.hid (hCk.out k)
      rw [lastAt_get hlt] at hPx hCx
      have hkx := hok.out _ (List.getElem_mem hlt)
      obtain ⟨x, hxe⟩ : ∃ x, x = xs[k] := ⟨_, rfl⟩
      rw [← hxe] at y0 y1 y2 y3 y4 y5 hkx hPx hCx
      replace hxe := Lib.hid hxe
      have hFit := Lib.hid (fun f w' (ho : okFoot f = true) h => fitCost_c x f q fa c w' hkx ho hq.out h)
      have hSr := Lib.hid (fun (j : Nat) => sumF_range hkx hq.out (fs.take j) (fun f h => hfo.out f (List.mem_of_mem_take h)))
      clear hkx hxa
      replace hL1 := Lib.hid hL1
      replace hL2 := Lib.hid hL2
      obtain ⟨w2, hw2⟩ : ∃ w2, w2 = wa.alloc (.cells #[.string x.Name, .int .i64 x.Length, .int .i64 x.Ball, .int .i64 x.Instep, .int .i64 x.Heel, .int .i64 x.Pitch] 77) := ⟨_, rfl⟩
      have hb2 : Below wa.heap.size wa w2 := by rw [hw2]; exact newB _ _
      have V : Own wa.heap.size w2 77 (.slice (some ⟨wa.heap.size, 0, none⟩) 6 6) (lastC x) := by rw [hw2]; exact own_lastC wa _ x
      obtain ⟨n2, hn2⟩ : ∃ n2, n2 = wa.heap.size := ⟨_, rfl⟩
      replace D := Lib.hid (D.out.add hb2 V)
      rw [← hn2] at D
      replace hw2 := Lib.hid hw2
      clear hb2 V
      go_wp2_with (rw [← hw2.out])
      rw [← hn2]
      clear hw2 hn2
      have hz1 : Hid (sumF x q (fs.take 0) = 0) := Lib.hid rfl
      go_loopw [12, 13, 15, 16, 17, 29] (fun sv av _ _ _ i wr => ∃ (j : Nat) (s : Int), j ≤ fs.length ∧ i = .int .i64 j ∧ sv = .int .i64 s ∧ Hid (s = sumF x q (fs.take j)) ∧ av = .bool (allF x q (fs.take j)) ∧ Below w2.heap.size w2 wr) (fun _ _ _ _ _ i _ => fs.length - (intOf i).toNat)
      case atStart => exact ⟨0, 0, Nat.zero_le _, rfl, rfl, Lib.hid rfl, rfl, Below.refl _ _⟩
      case round =>
        obtain ⟨j, s, hj, rfl, rfl, hs, rfl, hbr⟩ := hrel
        obtain ⟨wb, hwb⟩ : ∃ wo : World, wo = wr := ⟨_, rfl⟩
        subst hwb
        replace D := Lib.hid (D.out.later hbr)
        have hsr := hSr.out j
        rw [← hs.out] at hsr
        have htl : (fs.take j).length ≤ 2 := by rw [List.length_take]; omega
        by_cases hjl : j < fs.length
        · have hfa := hf.below D.out.up
          obtain ⟨g2, off2, rfl⟩ := hf.addr hjl
          obtain ⟨z0, z1, z2, z3⟩ := hfa.foot hjl
          have hfj := hfo.out _ (List.getElem_mem hjl)
          have hE3 := Lib.hid (allF_succ x q fs j hjl)
          have hE4 := Lib.hid (sumF_succ x q fs j hjl)
          have hsr2 := hSr.out (j + 1)
          rw [hE4.out, ← hs.out] at hsr2
          have htl2 : (fs.take (j + 1)).length ≤ 2 := by rw [List.length_take]; omega
          obtain ⟨f, hfe⟩ : ∃ f, f = fs[j] := ⟨_, rfl⟩
          rw [← hfe] at z0 z1 z2 z3 hfj hE3 hE4 hsr2
          replace hfe := Lib.hid hfe
          have hI := Lib.hid (fun w' h => hFit.out f w' hfj h)
          obtain ⟨w4, hw4⟩ : ∃ w4, w4 = wb.alloc (.cells #[.int .i64 f.Length, .int .i64 f.Ball, .int .i64 f.Instep, .int .i64 f.Heel] 62) := ⟨_, rfl⟩
          have hb4 : Below wb.heap.size wb w4 := by rw [hw4]; exact newB _ _
          have V : Own wb.heap.size w4 62 (.slice (some ⟨wb.heap.size, 0, none⟩) 4 4) (footC f) := by rw [hw4]; exact own_footC wb _ f
          have D4 := D.out.add hb4 V
          obtain ⟨x0, x1, x2, x3, x4, x5⟩ := lastC_cells (D4.get 1 rfl)
          obtain ⟨f0, f1, f2, f3⟩ := footC_cells (D4.get 0 rfl)
          obtain ⟨q0, q1, q2, q3⟩ := fitC_cells (D4.get 4 rfl)
          have hW4 := hW.below D4.up
          replace D4 := Lib.hid D4
          replace hw4 := Lib.hid hw4
          replace hbr := upw hbr hb4
          have htn : ((fs.take j).length : Int) ≤ 2 := by omega
          have htn2 : ((fs.take (j + 1)).length : Int) ≤ 2 := by omega
          have hs1 : -4000000 ≤ s ∧ s ≤ 4000000 := by omega
          have hs2 : -4000000 ≤ s + costL x f q ∧ s + costL x f q ≤ 4000000 := by omega
          clear hsr hsr2 htl htl2 htn htn2 V hfj hfa
          generalize costL x f q = Z at *
          generalize mayL x f q = M at *
          generalize hAe : allF x q (fs.take j) = A at *
          replace hAe := Lib.hid hAe
          clear hb4
          go_wp2_with (rw [← hw4.out])
          refine (hI.out _ hW4).mono ?_
          rintro e w5 ⟨rfl, hb5⟩
          replace hbr := upw hbr hb5
          cases A
          · go_wp2_with fail
            go_roundw
            case rel => exact ⟨j + 1, _, by omega, by first | rfl | go_num, rfl, Lib.hid (by rw [hE4.out, hs.out]), by rw [hE3.out]; rfl, hbr⟩
            case measure => first | (simp [intOf]; done) | (simp [intOf]; omega)
          · go_wp2_with fail
            go_roundw
            case rel => exact ⟨j + 1, _, by omega, by first | rfl | go_num, rfl, Lib.hid (by rw [hE4.out, hs.out]), by rw [hE3.out]; rfl, hbr⟩
            case measure => first | (simp [intOf]; done) | (simp [intOf]; omega)
        · obtain rfl : j = fs.length := by omega
          rw [List.take_length] at hs ⊢
          rw [← hPx.out]
          have hsC : Hid (s = C k) := Lib.hid (hs.out.trans hCx.out.symm)
          have htn : ((fs.take fs.length).length : Int) ≤ 2 := by omega
          have hs1 : -4000000 ≤ s ∧ s ≤ 4000000 := by omega
          clear hsr htl htn hs
          cases hp : P k
          · have hF1 : Hid (alwTo P (k + 1) = alwTo P k) := Lib.hid (by rw [hE1.out, hp]; simp)
            have hF2 : Hid (csTo P C (k + 1) = csTo P C k) := Lib.hid (by rw [hE2.out, hp]; simp)
            replace hp := Lib.hid hp
            go_wp2_with fail
            go_roundw
            case rel => exact ⟨k + 1, by omega, by first | rfl | go_num, Lib.hid (by rw [hF1.out, hF2.out]; exact D.out.tail)⟩
            case measure => first | (simp [intOf]; done) | (simp [intOf]; omega)
          · have hF1 : Hid (alwTo P (k + 1) = alwTo P k ++ [(k : Int)]) := Lib.hid (by rw [hE1.out, hp]; simp)
            have hF2 : Hid (csTo P C (k + 1) = csTo P C k ++ [s]) := Lib.hid (by rw [hE2.out, hp, hsC.out]; simp)
            replace hp := Lib.hid hp
            obtain ⟨L1, hL1e⟩ : ∃ L, L = alwTo P k := ⟨_, rfl⟩
            obtain ⟨L2, hL2e⟩ : ∃ L, L = csTo P C k := ⟨_, rfl⟩
            rw [← hL1e] at D hL1 hL2 hF1
            rw [← hL2e] at D hL2 hF2
            replace hL1e := Lib.hid hL1e
            replace hL2e := Lib.hid hL2e
            have hl1 : L1.length + 1 ≤ 4294967296 := by have := hL1.out; omega
            have hl2 : L2.length + 1 ≤ 4294967296 := by have := hL1.out; have := hL2.out; omega
            replace D := Lib.hid D.out.tail
            have hsz := D.out.up.size
            go_wp2_with (at_builtin; first
              | (refine wpList_pushTo rfl (.tmp 49) (.tmp 51) 24 rfl w.heap.size 2 (.int .i64 0) 8 Try.underlying24 infoInt rfl _ L1 (k : Int) rfl ((D.out.get 1 rfl).later (newB _ _)) _ _ rfl 2 (heap_alloc_new _ _) hl1 (by decide) (by simp; omega) ?_; intro g' cap w7 hO7 hg7 hl7; have D7 := Lib.hid ((D.out.later (newB _ _)).push 1 rfl hO7 hg7 hl7); clear hO7 hg7 hl7; have hsz7 := D7.out.up.size)
              | (refine wpList_pushTo rfl (.tmp 53) (.tmp 55) 24 rfl w.heap.size 2 (.int .i64 0) 8 Try.underlying24 infoInt rfl _ L2 s rfl ((D7.out.get 0 rfl).later (newB _ _)) _ _ rfl 2 (heap_alloc_new _ _) hl2 (by decide) (by simp; omega) ?_; intro g'' cap2 w8 hO8 hg8 hl8; have D8 := Lib.hid ((D7.out.later (newB _ _)).push 0 rfl hO8 hg8 hl8); clear hO8 hg8 hl8))
            go_roundw
            case rel => exact ⟨k + 1, by omega, by first | rfl | go_num, Lib.hid (by rw [hF1.out, hF2.out]; exact D8.out)⟩
            case measure => first | (simp [intOf]; done) | (simp [intOf]; omega)
    · obtain rfl : k = xs.length := by omega
      go_wp2_with fail
      go_ret2
      exact ⟨_, _, rfl, D.out.sub (by simp)⟩
end Go.Proofs.Ytlaclknhenccdaa
