/- Chapter 7, hulls: the walks of the program's chain and of the reference's way round. -/
import Derived.Test.YtlaclknhenccdaaHullMath
import Derived.Test.YtlaclknhenccdaaL07m
namespace Go.Proofs.Ytlaclknhenccdaa
open Go.RowKit

theorem flat_take {α : Type} [Flat α] (xs : List α) (m : Nat) (h : m ≤ xs.length) : flat (xs.take m) = (flat xs).take (m * Flat.k α) := by
  have e : flat xs = flat (xs.take m) ++ flat (xs.drop m) := by rw [← flat_append, List.take_append_drop]
  have hl : (flat (xs.take m)).length = m * Flat.k α := by rw [flat_length, List.length_take, Nat.min_eq_left h]
  rw [e, ← hl, List.take_left]
theorem Own.cap {α : Type} [Flat α] {B : Nat} {w : World} {e : TypeId} {g n c : Nat} {xs : List α} (h : Own B w e (.slice (some ⟨g, 0, none⟩) n c) xs) : xs.length ≤ c ∧ c ≤ maxLen := by
  rcases h.2 with ⟨h', _⟩ | ⟨g', cap', cur, h', hb, hg, hnc, hcm, hcs, htake⟩
  · simp at h'
  · simp only [Value.slice.injEq, Option.some.injEq, Addr.mk.injEq, and_true, true_and] at h'
    obtain ⟨rfl, _, rfl⟩ := h'
    exact ⟨hnc, hcm⟩
theorem Own.shrink {α : Type} [Flat α] {B : Nat} {w : World} {e : TypeId} {g n c : Nat} {xs : List α} (h : Own B w e (.slice (some ⟨g, 0, none⟩) n c) xs) (m : Nat) (hm : m ≤ xs.length) : Own B w e (.slice (some ⟨g, 0, none⟩) m c) (xs.take m) := by
  have hl : (xs.take m).length = m := by rw [List.length_take, Nat.min_eq_left hm]
  rcases h.2 with ⟨h', _⟩ | ⟨g', cap', cur, h', hb, hg, hnc, hcm, hcs, htake⟩
  · simp at h'
  · simp only [Value.slice.injEq, Option.some.injEq, Addr.mk.injEq, and_true, true_and] at h'
    obtain ⟨rfl, _, rfl⟩ := h'
    unfold Own
    rw [hl]
    refine ⟨by rw [flat_length, hl], .inr ⟨g, c, cur, rfl, hb, hg, by omega, hcm, hcs, ?_⟩⟩
    rw [flat_take _ _ hm, ← htake, List.take_take, Nat.min_eq_left (Nat.mul_le_mul_right _ hm)]
theorem pop_mem : ∀ (st : List Spot) (q p : Spot), p ∈ pop st q → p ∈ st
  | [], _, _, h => by simp [pop] at h
  | [_], _, _, h => by simpa [pop] using h
  | b :: a :: r, q, p, h => by
    simp only [pop] at h
    split at h
    · exact List.mem_cons_of_mem _ (pop_mem (a :: r) q p h)
    · exact h
theorem chTo_mem (xs : List Spot) : ∀ k, k ≤ xs.length → ∀ p ∈ chTo xs k, p ∈ xs
  | 0, _, p, h => by rw [chTo_zero] at h; simp at h
  | k + 1, hk, p, h => by
    rw [chTo_succ _ _ (by omega)] at h
    rcases List.mem_cons.1 h with rfl | h
    · exact List.getElem_mem _
    · exact chTo_mem xs k (by omega) p (pop_mem _ _ _ h)
/-- The length of a slice. -/
def lenOf : Value → Nat
  | .slice _ n _ => n
  | _ => 0
set_option maxRecDepth 100000 in
set_option maxHeartbeats 1600000 in
theorem chain_c (a : Option Addr) (xs : List Spot) (c : Nat) (w : World) (hx : At w a xs) (hl : xs.length ≤ 24) (h0 : 0 < xs.length) (hok : ∀ p ∈ xs, okSpot p = true) :
    Calls Try.prog 180 #[.slice a xs.length c] w fun e w' => ∃ v, e = .returned v ∧ Own w.heap.size w' 83 v (chain xs) ∧ Below w.heap.size w w' := by
  replace hok := Lib.hid hok
  go_enter Try.func180, Try.ntmps180
  go_wp2_with fail
  go_loopw [3, 9] (fun v i wr => ∃ k : Nat, k ≤ xs.length ∧ i = .int .i64 k ∧ Own w.heap.size wr 83 v (chTo xs k).reverse ∧ Below w.heap.size w wr) (fun _ i _ => xs.length - (intOf i).toNat)
  case atStart => exact ⟨0, Nat.zero_le _, rfl, by rw [chTo_zero]; exact own_new _ _, (Below.refl _ _).alloc (Nat.le_refl _) _⟩
  case round =>
    obtain ⟨k, hk, rfl, hO, hb⟩ := hrel
    obtain ⟨wo, rfl⟩ : ∃ wo : World, wo = wr := ⟨_, rfl⟩
    have hlc := chTo_length xs k
    have hmem := Lib.hid (chTo_mem xs k hk)
    by_cases hlt : k < xs.length
    · have hx := hx.below hb
      obtain ⟨b, off, rfl⟩ := hx.addr hlt
      have hbl := hx.lt hlt
      obtain ⟨c0, c1⟩ := hx.spot hlt
      have E := Lib.hid (chTo_succ xs k hlt)
      go_wp2_with fail
      obtain ⟨w1, hw1, ⟨p0, p1⟩, hb1⟩ := one wo xs[k]
      rw [hw1]
      clear hw1
      have K : Keep w1 wo.heap.size xs[k] := ⟨p0, p1⟩
      replace hO := hO.later hb1
      replace hb := upw hb hb1
      clear hb1 p0 p1 c0 c1 hx hbl
      go_loopw [3] (fun v wr => ∃ st, Own w.heap.size wr 83 v st.reverse ∧ pop st xs[k] = pop (chTo xs k) xs[k] ∧ st.length ≤ k ∧ (∀ p ∈ st, p ∈ xs) ∧ Keep wr wo.heap.size xs[k] ∧ Below w.heap.size w wr) (fun v _ => lenOf v)
      case atStart => exact ⟨_, hO, rfl, hlc, hmem.out, K, hb⟩
      case round =>
        clear hO K hb hlc
        obtain ⟨st, hO, hpop, hlc, hst, K, hb⟩ := hrel
        replace hpop := Lib.hid hpop
        replace hst := Lib.hid hst
        have hK := K
        by_cases h1 : 1 < st.length
        · obtain ⟨g, cap, rfl⟩ := hO.row (by rw [List.length_reverse]; omega)
          obtain ⟨hcap, hcm⟩ := hO.cap
          unfold maxLen at hcm
          match st, hO, hpop, hlc, hst, h1, hcap with
          | b' :: a' :: r, hO, hpop, hlc, hst, h1, hcap =>
            obtain ⟨N, hN⟩ : ∃ N, N = (b' :: a' :: r).reverse.length := ⟨_, rfl⟩
            have hN2 : N = r.length + 2 := by rw [hN]; simp
            obtain ⟨i1, hi1⟩ : ∃ i1 : Nat, i1 = r.length := ⟨_, rfl⟩
            obtain ⟨i2, hi2⟩ : ∃ i2 : Nat, i2 = r.length + 1 := ⟨_, rfl⟩
            have e1 : ((N : Int) - 2) = i1 := by omega
            have e2 : ((N : Int) - 1) = i2 := by omega
            have l1 : i1 < (b' :: a' :: r).reverse.length := by rw [← hN]; omega
            have l2 : i2 < (b' :: a' :: r).reverse.length := by rw [← hN]; omega
            have g1 : (b' :: a' :: r).reverse[i1] = a' := by subst hi1; simp [List.getElem_append]
            have g2 : (b' :: a' :: r).reverse[i2] = b' := by subst hi2; simp [List.getElem_append]
            have hc1 := hO.at'.spot l1
            have hc2 := hO.at'.spot l2
            rw [g1] at hc1
            rw [g2] at hc2
            simp only [Nat.zero_add] at hc1 hc2
            obtain ⟨c0, c1⟩ := hc1
            obtain ⟨c2, c3⟩ := hc2
            obtain ⟨p0, p1⟩ := K
            have oa := hok.out _ (hst.out a' (by simp))
            have ob := hok.out _ (hst.out b' (by simp))
            have oq := hok.out xs[k] (List.getElem_mem hlt)
            have r1 := crs_bound oa ob oq
            have hlen : N ≤ 24 := by rw [hN, List.length_reverse]; omega
            have hgt : 1 < N := by omega
            have hd1 : decide ((1 : Int) < (N : Int)) = true := by simp; omega
            have hd2 : decide (1 < N) = true := by simp; omega
            have hNi : i1 < N ∧ i2 < N := by omega
            obtain ⟨n1, n2⟩ := hNi
            have HN := Lib.hid hN
            have HL1 := Lib.hid hlc
            rw [← hN] at hO hcap ⊢
            replace c0 := rg c0
            replace c1 := rg c1
            replace c2 := rg c2
            replace c3 := rg c3
            replace p0 := rg p0
            replace p1 := rg p1
            have hI := Lib.hid (And.intro hi1 (And.intro hi2 hN2))
            clear hN hN2 hi1 hi2 g1 g2 l1 l2 hlc h1
            by_cases h2 : crs a' b' xs[k] ≤ 0
            · have hp2 : Hid (pop (a' :: r) xs[k] = pop (chTo xs k) xs[k]) := Lib.hid (by rw [← hpop.out]; simp only [pop, if_pos h2])
              go_wp2_with fail
              refine wp_region_quiet_below (by kernel_rfl) (by kernel_rfl) ?_
              repeat (go_big_quiet_step ((go_at_call 131; exact Calls.regrown_of (cross_c _ _ _ _ oa ob oq))))
              refine wpQuiet_nil ?_
              intro w2 hw'
              replace hb := upw hb (grown_of hw')
              have hw2 := grown_of hw'
              clear hw'
              go_wp2_with fail
              go_roundw
              case rel =>
                have hI2 := hI.out
                have hS := (hO.later hw2).shrink i2 (by have := HN.out; omega)
                have er : (b' :: a' :: r).reverse.take i2 = (a' :: r).reverse := by
                  rw [hI2.2.1, List.reverse_cons, List.take_append_of_le_length (by simp), List.take_of_length_le (by simp)]
                rw [er] at hS
                exact ⟨a' :: r, hS, hp2.out, by have := HL1.out; simp at this ⊢; omega, fun p hp => hst.out p (List.mem_cons_of_mem _ hp), hK.below hw2, hb⟩
              case measure => simp [lenOf]; omega
            · have D : Hid (push (chTo xs k) xs[k] = xs[k] :: (b' :: a' :: r)) := Lib.hid (by unfold push; rw [← hpop.out]; simp only [pop, if_neg h2])
              obtain ⟨st, hst2⟩ : ∃ st, st = b' :: a' :: r := ⟨_, rfl⟩
              rw [← hst2] at D hO
              replace hst2 := Lib.hid hst2
              have HO := Lib.hid hO
              clear hO
              go_wp2_with fail
              refine wp_region_quiet_below (by kernel_rfl) (by kernel_rfl) ?_
              repeat (go_big_quiet_step ((go_at_call 131; exact Calls.regrown_of (cross_c _ _ _ _ oa ob oq))))
              refine wpQuiet_nil ?_
              intro w2 hw'
              replace hb := upw hb (grown_of hw')
              have hw2 := grown_of hw'
              clear hw'
              obtain ⟨q0, q1⟩ := hK.below hw2
              go_wp2_with (at_builtin; refine wpList_push rfl (.tmp 38) (.tmp 40) 81 rfl w.heap.size 83 (.agg #[.int .i64 0, .int .i64 0]) 16 Try.underlying81 infoSpot rfl _ st.reverse xs[k] rfl ((HO.out.later hw2).later ((Below.refl _ _).alloc (Nat.le_refl _) _)) _ _ rfl 83 (heap_alloc_new _ _) (by rw [hst2.out, ← HN.out]; omega) (by decide) (by have := hb.size; simp; omega) ?_; intro v1 w3 hO1 hg1)
              go_roundw
              case rel => exact ⟨k + 1, by omega, by go_num, by rw [E.out, D.out, List.reverse_cons]; exact hO1, below_mark (hb.alloc hb.size _) ((HO.out.later hw2).later ((Below.refl _ _).alloc (Nat.le_refl _) _)) (Nat.le_refl _) hg1⟩
              case measure => simp [intOf]; omega
        · have D : Hid (push (chTo xs k) xs[k] = xs[k] :: st) := by
            refine Lib.hid ?_
            unfold push; rw [← hpop.out]
            match st, h1 with
            | [], _ => rfl
            | [_], _ => rfl
            | _ :: _ :: _, h1 => simp at h1
          obtain ⟨a', c', rfl, _⟩ := hO.at
          have hn : ¬ (1 < (st.reverse.length : Int)) := by rw [List.length_reverse]; omega
          obtain ⟨N, hN⟩ : ∃ N, N = st.reverse.length := ⟨_, rfl⟩
          have hN1 : ¬ 1 < N := by rw [hN, List.length_reverse]; exact h1
          have hd1 : decide ((1 : Int) < (N : Int)) = false := by simp; omega
          have hd2 : decide (1 < N) = false := by simp; omega
          rw [← hN] at hO ⊢
          have HO := Lib.hid hO
          replace hN := Lib.hid hN
          clear hn h1 hO
          go_wp2_with fail
          refine wp_region_quiet_below (by kernel_rfl) (by kernel_rfl) ?_
          repeat (go_big_quiet_step ((fail)))
          refine wpQuiet_nil ?_
          intro w2 hw'
          replace hb := upw hb (grown_of hw')
          have hw2 := grown_of hw'
          clear hw'
          obtain ⟨q0, q1⟩ := K.below hw2
          go_wp2_with (at_builtin; refine wpList_push rfl (.tmp 38) (.tmp 40) 81 rfl w.heap.size 83 (.agg #[.int .i64 0, .int .i64 0]) 16 Try.underlying81 infoSpot rfl _ st.reverse xs[k] rfl ((HO.out.later hw2).later ((Below.refl _ _).alloc (Nat.le_refl _) _)) _ _ rfl 83 (heap_alloc_new _ _) (by rw [← hN.out]; omega) (by decide) (by have := hb.size; simp; omega) ?_; intro v1 w3 hO1 hg1)
          go_roundw
          case rel => exact ⟨k + 1, by omega, by go_num, by rw [E.out, D.out, List.reverse_cons]; exact hO1, below_mark (hb.alloc hb.size _) ((HO.out.later hw2).later ((Below.refl _ _).alloc (Nat.le_refl _) _)) (Nat.le_refl _) hg1⟩
          case measure => simp [intOf]; omega
    · obtain rfl : k = xs.length := by omega
      rw [chTo_full _ _ (Nat.le_refl _)] at hO
      have hpos := chTo_pos xs xs.length h0 (Nat.le_refl _)
      rw [chTo_full _ _ (Nat.le_refl _)] at hpos hlc
      obtain ⟨g, cap, rfl⟩ := hO.row (by rw [List.length_reverse]; exact hpos)
      obtain ⟨hcap, hcm⟩ := hO.cap
      unfold maxLen at hcm
      rw [List.length_reverse] at hO hcap ⊢
      have hS := hO.shrink ((chainR xs).length - 1) (by rw [List.length_reverse]; omega)
      have hch : (chainR xs).reverse.take ((chainR xs).length - 1) = chain xs := by
        unfold chain
        cases chainR xs with
        | nil => simp
        | cons b r => simp
      rw [hch] at hS
      obtain ⟨m, hm⟩ : ∃ m, (chainR xs).length = m + 1 := ⟨(chainR xs).length - 1, by omega⟩
      rw [hm] at hS hcap ⊢
      replace hm := Lib.hid hm
      replace hch := Lib.hid hch
      have e1 : (((m + 1 : Nat) : Int) - 1) = m := by omega
      rw [Nat.add_sub_cancel] at hS
      clear hpos hlc hO
      go_wp2_with fail
      go_ret
      exact ⟨_, rfl, hS, hb⟩
end Go.Proofs.Ytlaclknhenccdaa
