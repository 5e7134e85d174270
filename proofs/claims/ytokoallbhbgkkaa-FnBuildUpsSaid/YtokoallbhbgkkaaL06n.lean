/- Chapter 6, the program: the first build with a sum between two limits. -/
import Derived.Test.YtokoallbhbgkkaaL06m
import Derived.Test.YtokoallbhbgkkaaL06j
namespace Go.Proofs.Ytokoallbhbgkkaa
open Go.RowKit

theorem zip_free (ls : List Int) : ls.zip (List.replicate ls.length 0) = free ls := by
  unfold free
  induction ls with
  | nil => rfl
  | cons x xs ih => rw [List.length_cons, List.replicate_succ, List.zip_cons_cons, ih, List.map_cons]
theorem priceOk_zero (ls : List Int) : PriceOk ls (List.replicate ls.length 0) := ⟨by simp, fun i h => by simp⟩
theorem shortest_of {ls : List Int} {n : Nat} {b : Bld} (h : bld (free ls) n = some b) : shortest ls n = some b.layers := by unfold shortest; rw [h]; rfl
theorem shortest_no {ls : List Int} {n : Nat} (h : bld (free ls) n = none) : shortest ls n = none := by unfold shortest; rw [h]; rfl
theorem own_madeI {B : Nat} {w1 : World} {v : Value} {n : Nat} (h : w1.ownsRow B 2 1 v n (madeCells (Value.int .i64 0).cells (n * 1)).toList) : Own B w1 2 v (List.replicate n (0 : Int)) := by
  unfold Own; rw [List.length_replicate, ← made_flat (0 : Int) _ rfl]; exact h
theorem own_cap {α : Type} [Flat α] {B : Nat} {w : World} {e : TypeId} {ad : Addr} {n c : Nat} {xs : List α} (h : Own B w e (.slice (some ad) n c) xs) : xs.length ≤ c := by
  rcases h.2 with ⟨h', _⟩ | ⟨g, cap, cur, h', _, _, hn, _⟩
  · cases h'
  · simp only [Value.slice.injEq] at h'
    obtain ⟨_, _, rfl⟩ := h'
    exact hn
set_option maxRecDepth 100000 in
set_option maxHeartbeats 4000000 in
theorem firstWithin_c (a : Option Addr) (ls : List Int) (c low high : Nat) (w : World) (hx : At w a ls) (hok : LayOk ls) (hn : high ≤ 1000) (hlow : low ≤ high) :
    Calls Try.prog 63 #[.slice a ls.length c, .int .i64 low, .int .i64 high] w fun e w' => ∃ v, e = .returned (.tuple #[v, .bool (withinB ls low (high + 1 - low)).isSome]) ∧ Own w.heap.size w' 2 v ((withinB ls low (high + 1 - low)).getD []) ∧ Below w.heap.size w w' := by
  have hlen := hok.len
  obtain ⟨i0, hi, hz0, hz1, hz2⟩ := info_parts infoInt
  have hB0 : Below w.heap.size w (w.alloc (.cells #[] 2)) := (Below.refl _ _).alloc (Nat.le_refl _) _
  have hsz0 : (w.alloc (.cells #[] 2)).heap.size = w.heap.size + 1 := by simp
  have hN0 := own_new (α := Int) w 2
  have hbc := Lib.hid (fun (a' : Option Addr) (c' : Nat) (w' : World) (hb : Below w.heap.size w w') (hy : At w' a' (List.replicate ls.length (0 : Int))) => builds_c a a' ls (List.replicate ls.length 0) c c' high w' (hx.below hb) hy hok (priceOk_zero ls) hn)
  rw [zip_free, List.length_replicate] at hbc
  go_enter Try.func63, Try.ntmps63
  go_wp2_with (at_make; refine wpList_make_full _ rfl (.tmp 15) (.tmp 15) 22 rfl w.heap.size 2 i0 (.int .i64 0) 1 Try.underlying22 hi hz0 hz1 .i64 .i64 _ _ ls.length rfl rfl rfl rfl (by rw [hz2]; omega) (by unfold maxLen; omega) (by simp) ?_; intro w1 hown hg)
  have hO1 := own_madeI hown
  clear hown
  rw [hsz0] at hO1
  have hb1 := hB0.grown hg hB0.size (by simp)
  replace hN0 := hN0.kept hg (Or.inr (by simp [Value.ownBlock]))
  refine (hbc.out _ _ _ hb1 hO1.at').mono ?_
  rintro e w2 ⟨g, cap, rs, rfl, hT, hb2⟩
  replace hN0 := hN0.later hb2
  have hsz1 := hb1.size
  have hbw := upw hb1 hb2
  clear hO1 hg hbc hB0 hsz0
  have hcap := own_cap hT.row
  rw [hT.len] at hcap
  have hcl : ¬ cap = low := by omega
  replace hT := Lib.hid hT
  go_wp2_with fail
  go_loopw [8, 9, 22] (fun v f i wr => ∃ k : Nat, low + k ≤ high + 1 ∧ i = .int .i64 k ∧ f = .bool (withinB ls low k).isSome ∧ Own w.heap.size wr 2 v ((withinB ls low k).getD []) ∧ Below w2.heap.size w2 wr) (fun _ _ i _ => high + 1 - low - (intOf i).toNat)
  case atStart => exact ⟨0, by omega, rfl, rfl, hN0, Below.refl _ _⟩
  case round =>
    clear hN0
    obtain ⟨k, hk, rfl, rfl, hO, hb⟩ := hrel
    by_cases hlt : low + k ≤ high
    · have hTr := hT.out.later hb
      have hm : low + k < rs.length := by rw [hTr.len]; omega
      have hR := hTr.each _ hm (by omega)
      obtain ⟨e0, e1, e2⟩ := hTr.row.at'.rawB hm
      rw [Nat.zero_add, Nat.add_mul] at e0 e1 e2
      obtain ⟨rm, hrm⟩ : ∃ rm, rm = rs[low + k] := ⟨_, rfl⟩
      rw [← hrm] at e0 e1 e2 hR
      clear hrm hTr
      have hst := Lib.hid (withinB_succ ls low k)
      have hsz := hb.size
      have hlt2 : k < high + 1 - low := by omega
      cases hs : bld (free ls) (low + k) with
      | none =>
        rw [hs] at hR
        obtain rfl : rm = rawB0 := hR
        simp only [rawB0] at e0 e1 e2
        have he : Hid (withinB ls low (k + 1) = withinB ls low k) := Lib.hid (by rw [hst.out]; unfold withinStep; rw [shortest_no hs])
        go_wp2_with fail
        go_roundw
        case rel => exact ⟨k + 1, by omega, by go_num, by rw [he.out], by rw [he.out]; exact hO.later ((Below.refl _ _).alloc (Nat.le_refl _) _), hb.alloc hsz _⟩
        case measure => simp [intOf]; omega
      | some b =>
        rw [hs] at hR
        obtain ⟨m1, m2, m3, m4, m5⟩ := hR
        have hss := shortest_of hs
        have hxl := shortest_length hss
        obtain ⟨rp, ra, rn, rc, rk⟩ := rm
        obtain ⟨bp, x⟩ := b
        simp only at m1 m2 m3 m4 m5 e0 e1 e2 hss hxl
        subst m1 m2 m3
        clear m5 hs
        obtain ⟨wi, hwi⟩ : ∃ wi, wi = wr.alloc (.cells #[.int .i64 rp, .slice ra x.length rc, .bool true] 96) := ⟨_, rfl⟩
        have hbi : Below wr.heap.size wr wi := by rw [hwi]; exact (Below.refl _ _).alloc (Nat.le_refl _) _
        obtain ⟨f0, f1, f2⟩ : wi.cell? ⟨wr.heap.size, 0, none⟩ = some (.int .i64 rp) ∧ wi.cell? ⟨wr.heap.size, 1, none⟩ = some (.slice ra x.length rc) ∧ wi.cell? ⟨wr.heap.size, 2, none⟩ = some (.bool true) := by rw [hwi]; refine ⟨?_, ?_, ?_⟩ <;> go_simp
        replace hwi := Lib.hid hwi
        replace m4 := (m4.later hbi).base hsz1
        replace hO := hO.later hbi
        have hb3 := upw hb hbi
        cases hw0 : withinB ls low k with
        | none =>
          have he : Hid (withinB ls low (k + 1) = some x) := Lib.hid (by rw [hst.out]; unfold withinStep; rw [hss, hw0])
          rw [hw0] at hO
          obtain ⟨av, cv, rfl, _⟩ := hO.at
          go_wp2_with (rw [← hwi.out])
          go_roundw
          case rel => exact ⟨k + 1, by omega, by go_num, by rw [he.out]; rfl, by rw [he.out]; exact m4, hb3⟩
          case measure => simp [intOf]; omega
        | some y =>
          have hm0 : withinStep ls (some y) (low + k) = if decide (x.length < y.length) || (decide (x.length = y.length) && greaterL x y) then some x else some y := by unfold withinStep; rw [hss]
          have hm2 := Lib.hid hm0
          clear hm0
          rw [hw0] at hO hst
          obtain ⟨av, cv, rfl, _⟩ := hO.at
          simp only [Option.getD_some] at hO
          obtain ⟨n0, hw00, hn0, hyl⟩ : ∃ n0, low ≤ n0 ∧ n0 < low + k ∧ shortest ls n0 = some y := withinB_is hw0
          have hyl2 := shortest_length hyl
          by_cases h1 : x.length < y.length
          · have he : Hid (withinB ls low (k + 1) = some x) := Lib.hid (by rw [hst.out, hm2.out]; simp [h1])
            go_wp2_with (rw [← hwi.out])
            go_roundw
            case rel => exact ⟨k + 1, by omega, by go_num, by rw [he.out]; rfl, by rw [he.out]; exact m4, hb3⟩
            case measure => simp [intOf]; omega
          · cases h2 : ((x.length : Int) == y.length) with
            | false =>
              have h2' : ¬ x.length = y.length := by simp at h2; omega
              have he : Hid (withinB ls low (k + 1) = some y) := Lib.hid (by rw [hst.out, hm2.out]; simp [h1, h2'])
              go_wp2_with (rw [← hwi.out])
              go_roundw
              case rel => exact ⟨k + 1, by omega, by go_num, by rw [he.out] <;> rfl, by rw [he.out]; exact hO, hb3⟩
              case measure => simp [intOf]; omega
            | true =>
              have h2' := Lib.hid (show x.length = y.length by simp at h2; omega)
              have hgi := Lib.hid (greaterL_iff x y h2'.out)
              have hcc := Lib.hid (compareS_c ra av x y rc cv wi m4.at' hO.at' (by omega) (by omega))
              by_cases h3 : 0 < cmpL x y
              · have he : Hid (withinB ls low (k + 1) = some x) := Lib.hid (by rw [hst.out, hm2.out, hgi.out.2 h3]; simp [h2'.out])
                go_wp2_with (first | (go_at_call 104; refine hcc.out.mono ?_; rintro e w3 ⟨rfl, rfl⟩) | rw [← hwi.out])
                go_roundw
                case rel => exact ⟨k + 1, by omega, by go_num, by rw [he.out]; rfl, by rw [he.out]; exact m4, hb3⟩
                case measure => simp [intOf]; omega
              · have h3' : greaterL x y = false := by
                  cases hq : greaterL x y with
                  | false => rfl
                  | true => exact absurd (hgi.out.1 hq) h3
                have he : Hid (withinB ls low (k + 1) = some y) := Lib.hid (by rw [hst.out, hm2.out, h3']; simp [h1])
                go_wp2_with (first | (go_at_call 104; refine hcc.out.mono ?_; rintro e w3 ⟨rfl, rfl⟩) | rw [← hwi.out])
                go_roundw
                case rel => exact ⟨k + 1, by omega, by go_num, by rw [he.out] <;> rfl, by rw [he.out]; exact hO, hb3⟩
                case measure => simp [intOf]; omega
    · obtain rfl : high + 1 - low = k := by omega
      go_wp2_with fail
      go_ret2
      exact ⟨_, rfl, hO, upw hbw hb⟩
end Go.Proofs.Ytokoallbhbgkkaa
