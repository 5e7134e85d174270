/- Chapter 6, the program: FewestLayers, UnreachedSums. -/
import Derived.Test.YtokoallbhbgkkaaL06o
import Derived.Test.YtokoallbhbgkkaaL06d
namespace Go.Proofs.Ytokoallbhbgkkaa
open Go.RowKit

theorem drawn_ok {ls : List Int} (h : DrawnL ls) : layOk ls = true := by
  unfold layOk
  have hl := h.len
  rw [inr_true.2 (by omega), Bool.true_and]
  unfold rises
  rw [allUpto_iff]
  intro i hi
  have hp := h.pos _ (List.getElem_mem hi)
  by_cases h0 : 0 < i
  · exact riseAt_yes hi (inr_true.2 (by omega)) h0 (h.rises (i - 1) i (by omega) hi)
  · exact riseAt_first hi h0 (inr_true.2 (by omega))
theorem code_zero {ls : List Int} {s : Int} (h : layOk ls = true) (h0 : 0 ≤ s) (h1 : s ≤ 1000) : codeL ls s = 0 := by
  unfold codeL; rw [h, inr_true.2 ⟨h0, h1⟩]; rfl
/-- What FewestLayers answers. -/
def flRes (ls : List Int) (s : Nat) : List Int × Int := match shortest ls s with | none => ([], 3) | some x => (x, 0)
theorem withinB_one (ls : List Int) (s : Nat) : withinB ls s (s + 1 - s) = shortest ls s := by
  rw [show s + 1 - s = 0 + 1 by omega, withinB_succ]
  unfold withinB withinStep
  simp only [List.range'_zero, List.foldl_nil, Nat.add_zero]
  cases shortest ls s <;> rfl
set_option maxHeartbeats 1000000 in
theorem fewestLayers_c (a : Option Addr) (ls : List Int) (c : Nat) (s : Nat) (w : World) (hx : At w a ls) (hl : layOk ls = true) (hs : s ≤ 1000) :
    Calls Try.prog 31 #[.slice a ls.length c, .int .i64 s] w fun e w' => ∃ v, e = .returned (.tuple #[v, .int .i64 (flRes ls s).2]) ∧ Own w.heap.size w' 2 v (flRes ls s).1 ∧ Below w.heap.size w w' := by
  have hnil : Own w.heap.size w 2 (.slice none 0 0) ([] : List Int) := ⟨by simp [flat], Or.inl ⟨rfl, rfl⟩⟩
  have hlen := (layOk_is hl).len
  have hcc := firstWithin_c a ls c s s w hx (layOk_is hl) hs (Nat.le_refl _)
  have hcd := layersCode_c a ls c s w hx (by omega)
  rw [code_zero hl (by omega) (by omega)] at hcd
  rw [withinB_one] at hcc
  unfold flRes
  cases hw : shortest ls s with
  | none =>
    rw [hw] at hcc
    go_enter Try.func31, Try.ntmps31
    go_wp2_with (first | (go_at_call 75; refine hcd.mono ?_; rintro e w1 ⟨rfl, rfl⟩) | (go_at_call 63; refine hcc.mono ?_; rintro e w2 ⟨v, rfl, hO, hb⟩))
    go_ret2
    exact ⟨_, rfl, hnil.later hb, hb⟩
  | some x =>
    rw [hw] at hcc
    go_enter Try.func31, Try.ntmps31
    go_wp2_with (first | (go_at_call 75; refine hcd.mono ?_; rintro e w1 ⟨rfl, rfl⟩) | (go_at_call 63; refine hcc.mono ?_; rintro e w2 ⟨v, rfl, hO, hb⟩))
    go_ret2
    exact ⟨_, rfl, hO, hb⟩
/-- The sums below k without a build. -/
def unL (ls : List Int) (k : Nat) : List Int := ((List.range k).filter fun n => (shortest ls n).isNone).map Int.ofNat
theorem unL_none {ls : List Int} {k : Nat} (h : shortest ls k = none) : unL ls (k + 1) = unL ls k ++ [(k : Int)] := by
  unfold unL; rw [List.range_succ, List.filter_append, List.map_append]; simp [h]
theorem unL_some {ls : List Int} {k : Nat} {x : List Int} (h : shortest ls k = some x) : unL ls (k + 1) = unL ls k := by
  unfold unL; rw [List.range_succ, List.filter_append, List.map_append]; simp [h]
theorem unL_mem {ls : List Int} {k n : Nat} (h : n < k) : (n : Int) ∈ unL ls k ↔ shortest ls n = none := by
  unfold unL
  rw [List.mem_map]
  constructor
  · rintro ⟨m, hm, e⟩
    have e' : m = n := Int.ofNat.inj e
    subst e'
    have := (List.mem_filter.1 hm).2
    simpa using this
  · intro hn
    exact ⟨n, List.mem_filter.2 ⟨List.mem_range.2 h, by simp [hn]⟩, rfl⟩
theorem unL_len (ls : List Int) (k : Nat) : (unL ls k).length ≤ k := by
  unfold unL; rw [List.length_map]; exact Nat.le_trans (List.length_filter_le _ _) (by simp)
theorem Table.touched {B : Nat} {w w' : World} {S : Nat → Prop} {g cap : Nat} {lps : List (Int × Int)} {n k : Nat} {rs : List RawB} (h : Table B w g cap lps n k rs) (ht : Touched S w w') (hS : ∀ k, B ≤ k → k < w.heap.size → ¬ S k) : Table B w' g cap lps n k rs := by
  refine ⟨h.len, h.row.touched ht fun k hk => hS k (h.row.lt k hk).1 (h.row.lt k hk).2, fun i hi hk => ?_⟩
  have he := h.each i hi hk
  cases hb : bld lps i with
  | none => rw [hb] at he; exact he
  | some b =>
    rw [hb] at he
    obtain ⟨h1, h2, h3, h4, h5⟩ := he
    exact ⟨h1, h2, h3, h4.touched ht fun k hk => hS k (h4.lt k hk).1 (h4.lt k hk).2, h5⟩
set_option maxRecDepth 100000 in
set_option maxHeartbeats 4000000 in
theorem unreachedSums_c (a : Option Addr) (ls : List Int) (c : Nat) (s : Nat) (w : World) (hx : At w a ls) (hl : layOk ls = true) (hs : s ≤ 1000) :
    Calls Try.prog 33 #[.slice a ls.length c, .int .i64 s] w fun e w' => ∃ v, e = .returned (.tuple #[v, .int .i64 0]) ∧ Own w.heap.size w' 2 v (unL ls (s + 1)) ∧ Below w.heap.size w w' := by
  have hlen := (layOk_is hl).len
  have hcd := layersCode_c a ls c s w hx (by omega)
  rw [code_zero hl (by omega) (by omega)] at hcd
  obtain ⟨i0, hi, hz0, hz1, hz2⟩ := info_parts infoInt
  have hB0 : Below w.heap.size w (w.alloc (.cells #[] 2)) := (Below.refl _ _).alloc (Nat.le_refl _) _
  have hsz0 : (w.alloc (.cells #[] 2)).heap.size = w.heap.size + 1 := by simp
  have hN0 := own_new (α := Int) w 2
  have hbc := Lib.hid (fun (a' : Option Addr) (c' : Nat) (w' : World) (hb : Below w.heap.size w w') (hy : At w' a' (List.replicate ls.length (0 : Int))) => builds_c a a' ls (List.replicate ls.length 0) c c' s w' (hx.below hb) hy (layOk_is hl) (priceOk_zero ls) hs)
  rw [zip_free, List.length_replicate] at hbc
  go_enter Try.func33, Try.ntmps33
  go_wp2_with (first | (go_at_call 75; refine hcd.mono ?_; rintro e w1 ⟨rfl, rfl⟩) | (at_make; refine wpList_make_full _ rfl (.tmp 19) (.tmp 19) 22 rfl w.heap.size 2 i0 (.int .i64 0) 1 Try.underlying22 hi hz0 hz1 .i64 .i64 _ _ ls.length rfl rfl rfl rfl (by rw [hz2]; omega) (by unfold maxLen; omega) (by simp) ?_; intro w1 hown hg))
  have hO1 := own_madeI hown
  clear hown
  rw [hsz0] at hO1
  have hb1 := hB0.grown hg hB0.size (by simp)
  replace hN0 := hN0.kept hg (Or.inr (by simp [Value.ownBlock]))
  refine (hbc.out _ _ _ hb1 hO1.at').mono ?_
  rintro e w2 ⟨g, cap, rs, rfl, hT, hb2⟩
  replace hN0 := hN0.later hb2
  have hsz1 := hb1.size
  have hg1s : w.heap.size < w1.heap.size := by have := hg.size; omega
  have hbw := upw hb1 hb2
  have hsz2 := hb2.size
  clear hO1 hg hbc hB0 hsz0
  replace hT := Lib.hid hT
  go_wp2_with fail
  go_loopw [7, 24] (fun v i wr => ∃ k : Nat, k ≤ s + 1 ∧ i = .int .i64 k ∧ Own w.heap.size wr 2 v (unL ls k) ∧ Touched (fun b => b < w1.heap.size ∨ w2.heap.size ≤ b) w2 wr ∧ (∀ b, v.ownBlock = some b → b < w1.heap.size ∨ w2.heap.size ≤ b) ∧ Below w.heap.size w wr) (fun _ i _ => s + 1 - (intOf i).toNat)
  case atStart => exact ⟨0, by omega, rfl, hN0, Touched.refl _ _, fun b hb => Or.inl (by have h := hg1s; simp [Value.ownBlock] at hb; omega), hbw⟩
  case round =>
    clear hN0 hbw
    obtain ⟨k, hk, rfl, hO, hto, hvS, hb⟩ := hrel
    have hTr := hT.out.touched hto (fun b h1 h2 h3 => by omega)
    by_cases hlt : k < s + 1
    · have hm : k < rs.length := by rw [hTr.len]; omega
      have hR := hTr.each _ hm (by omega)
      obtain ⟨e0, e1, e2⟩ := hTr.row.at'.rawB hm
      rw [Nat.zero_add] at e0 e1 e2
      obtain ⟨rm, hrm⟩ : ∃ rm, rm = rs[k] := ⟨_, rfl⟩
      rw [← hrm] at e0 e1 e2 hR
      clear hrm
      have hsz := hb.size
      have hul := unL_len ls k
      obtain ⟨wo, hwo⟩ : ∃ wo : World, wo = wr := ⟨_, rfl⟩
      subst hwo
      cases hs2 : bld (free ls) k with
      | none =>
        rw [hs2] at hR
        obtain rfl : rm = rawB0 := hR
        simp only [rawB0] at e0 e1 e2
        have he := Lib.hid (unL_none (shortest_no hs2))
        have hbA : Below wo.heap.size wo ((wo.alloc (.cells #[.int .i64 0, .slice none 0 0, .bool false] 96)).alloc (.cells #[.int .i64 k] 2)) := ((Below.refl _ _).alloc (Nat.le_refl _) _).alloc (by simp) _
        have hszo := hto.size
        obtain ⟨av, cv, rfl, _⟩ := hO.at
        clear hTr
        go_wp2_with (at_builtin; refine wpList_pushTo rfl (.tmp 32) (.tmp 34) 22 rfl w.heap.size 2 (.int .i64 0) 8 Try.underlying22 infoInt rfl _ (unL ls k) (k : Int) rfl (hO.later hbA) _ _ rfl 2 (heap_two _ _ _) (by omega) (by decide) (by simp; omega) ?_; intro g1 cap1 w4 hO1 hg1 hl1)
        have hO1' : Own w.heap.size w4 2 (.slice (some ⟨g1, 0, none⟩) ((unL ls k).length + 1) cap1) (unL ls k ++ [(k : Int)]) := hO1
        go_roundw
        case rel =>
          refine ⟨k + 1, by omega, by go_num, by rw [he.out]; exact hO1, (hto.trans (touched_below hbA)).trans (touched_grown hg1 fun b hb => hvS b hb), fun b hb => ?_, below_mark (upw hb hbA) (hO.later hbA) (Nat.le_refl _) hg1⟩
          rcases hl1 with hl1 | hl1
          · have e : b = g1 := by simpa [Value.ownBlock] using hb.symm
            subst e
            exact hvS b hl1
          · have e : b = g1 := by simpa [Value.ownBlock] using hb.symm
            subst e
            right; rw [hl1]; simp; omega
        case measure => simp [intOf]; omega
      | some b =>
        have he := Lib.hid (unL_some (shortest_of hs2))
        rw [hs2] at hR
        obtain ⟨m1, m2, m3, m4, m5⟩ := hR
        obtain ⟨rp, ra, rn, rc, rk⟩ := rm
        simp only at m1 m2 m3 m4 m5 e0 e1 e2
        subst m1 m2 m3
        have hbA : Below wo.heap.size wo (wo.alloc (.cells #[.int .i64 b.price, .slice ra b.layers.length rc, .bool true] 96)) := (Below.refl _ _).alloc (Nat.le_refl _) _
        clear m4 m5 hTr
        go_wp2_with fail
        go_roundw
        case rel => exact ⟨k + 1, by omega, by go_num, by rw [he.out]; exact hO.later hbA, hto.trans (touched_below hbA), hvS, upw hb hbA⟩
        case measure => simp [intOf]; omega
    · obtain rfl : k = s + 1 := by omega
      go_wp2_with fail
      go_ret2
      exact ⟨_, rfl, hO, hb⟩
end Go.Proofs.Ytokoallbhbgkkaa
