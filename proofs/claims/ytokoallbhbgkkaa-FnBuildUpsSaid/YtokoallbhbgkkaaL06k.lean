/- Chapter 6, the program: lists laid one behind the other (slices.Concat). -/
import Derived.Test.YtokoallbhbgkkaaL06f
import Derived.Test.YtokoallbhbgkkaaSrc
import Derived.Lib.AppendZerosOnto
namespace Go.Proofs.Ytokoallbhbgkkaa
open Go.RowKit

theorem At.raw {w : World} {b off : Nat} {rs : List RawL} (h : At w (some ⟨b, off, none⟩) rs) {i : Nat} (hi : i < rs.length) :
    w.cell? ⟨b, off + i, none⟩ = some (.slice rs[i].a rs[i].n rs[i].c) := by
  obtain ⟨cs, hr, hc⟩ := h.elem hi
  have h0 := hc 0 (.slice rs[i].a rs[i].n rs[i].c) (by rw [hr]; rfl)
  simpa [Rep.k, Flat.k] using h0
/-- How many numbers the first k lists have. -/
def catN (xss : List (List Int)) (k : Nat) : Nat := (xss.take k).flatten.length
theorem cat_succ {xss : List (List Int)} {k : Nat} (h : k < xss.length) : (xss.take (k + 1)).flatten = (xss.take k).flatten ++ xss[k] := by
  rw [List.take_succ_eq_append_getElem h, List.flatten_append]; simp
theorem catN_succ {xss : List (List Int)} {k : Nat} (h : k < xss.length) : catN xss (k + 1) = catN xss k + xss[k].length := by
  unfold catN; rw [cat_succ h, List.length_append]
theorem catN_le {xss : List (List Int)} : ∀ k, k ≤ xss.length → catN xss k ≤ xss.flatten.length := by
  intro k _
  unfold catN
  conv => rhs; rw [← List.take_append_drop k xss, List.flatten_append, List.length_append]
  omega
set_option maxHeartbeats 2000000 in
theorem growNil_c (n : Nat) (w : World) (h0 : 0 < n) (hn : n ≤ 1000000) :
    Calls Try.prog 124 #[.slice none 0 0, .int .i64 n] w fun e w' => ∃ v, e = .returned v ∧ Own w.heap.size w' 2 v ([] : List Int) ∧ Below w.heap.size w w' := by
  obtain ⟨i0, hi, hz0, hz1, hz2⟩ := info_parts infoInt
  have hrz : ∀ ty, (Builtin.append_ #[22, 3] ty #[.slice none 0 0, .int .i64 (n : Int)]).run Try.prog w =
      .ok (.slice (some ⟨w.heap.size, 0, none⟩) (0 + n) (grownCap w (0 + n) 0 2)) (w.drew.alloc (.cells (([] : List Value).toArray ++ Builtin.zeroCells (Value.int .i64 0).cells n ++ Builtin.zeroCells (Value.int .i64 0).cells (grownCap w (0 + n) 0 2 - (0 + n))) 2)) := fun ty =>
    Lib.run_append_grow_zeros w 22 3 ty 2 i0 (.int .i64 0) .i64 .i64 Try.underlying22 Try.underlying3 hi hz0 none 0 0 [] (run_firstCells_none w.drew i0.size 0 0 0) n h0 (by omega) (by omega) (by omega) (by rw [hz2]; omega)
      (growslice_fits (by omega) (by rw [hz2]; omega))
  rw [Nat.zero_add] at hrz
  have hGn : n ≤ grownCap w n 0 2 := grownCap_ge w _ _ _
  have hGm := grownCap_le_maxLen w n 0 2 (by unfold maxLen; omega)
  obtain ⟨G, hG⟩ : ∃ G, G = grownCap w n 0 2 := ⟨_, rfl⟩
  rw [← hG] at hrz hGn hGm
  have hend : Hid (∀ cs : Array Value, cs.size = G → Own w.heap.size (w.alloc (.cells cs 2)).drew 2 (.slice (some ⟨w.heap.size, 0, none⟩) 0 G) ([] : List Int) ∧ Below w.heap.size w (w.alloc (.cells cs 2)).drew) :=
    Lib.hid fun cs hc => ⟨⟨rfl, .inr ⟨w.heap.size, G, cs, rfl, Nat.le_refl _, heap_alloc_new w _, Nat.zero_le _, hGm, by rw [hc]; show G = G * 1; omega, by simp [flat]⟩⟩, ((Below.refl _ _).alloc (Nat.le_refl _) _).drew⟩
  have hG63 : G ≤ 9223372036854775807 := by unfold maxLen at hGm; exact hGm
  clear hG hGm
  have h1 : ¬ ((n : Int) < 0) := by omega
  have h2 : (0 : Int) < n := by omega
  go_enter Try.func124, Try.ntmps124
  go_wp2_with (at_builtin; refine Lib.wpList_append_run _ rfl _ _ _ _ rfl _ _ rfl rfl _ _ (hrz _) ?_)
  go_ret
  have := hend.out (Builtin.zeroCells #[Value.int .i64 0] n ++ Builtin.zeroCells #[Value.int .i64 0] (G - n)) (by simp [Builtin.zeroCells]; omega)
  exact ⟨.slice (some ⟨w.heap.size, 0, none⟩) 0 G, rfl, this.1, this.2⟩
set_option maxHeartbeats 4000000 in
theorem concat_c (b off : Nat) (rs : List RawL) (xss : List (List Int)) (c : Nat) (w : World) (hx : At w (some ⟨b, off, none⟩) rs) (hl : rs.length = xss.length) (h8 : rs.length ≤ 8)
   (h : ∀ i (h1 : i < rs.length) (h2 : i < xss.length), rs[i].n = xss[i].length ∧ At w rs[i].a xss[i] ∧ (rs[i].a = none → rs[i].c = 0))
   (h0 : 0 < xss.flatten.length) (hs : xss.flatten.length ≤ 100000) :
    Calls Try.prog 116 #[.slice (some ⟨b, off, none⟩) rs.length c] w fun e w' => ∃ v, e = .returned v ∧ Own w.heap.size w' 2 v xss.flatten ∧ Below w.heap.size w w' := by
  have HL := Lib.hid hl
  have HS := Lib.hid (fun k (hk : k < rs.length) => catN_succ (xss := xss) (k := k) (by rw [HL.out] at hk; exact hk))
  have HLe := Lib.hid (fun k (hk : k ≤ rs.length) => catN_le (xss := xss) k (by rw [HL.out] at hk; exact hk))
  have H := Lib.hid h
  have hfull : Hid (catN xss rs.length = xss.flatten.length) := Lib.hid (by unfold catN; rw [HL.out, List.take_length])
  have HF : Hid ((xss.take rs.length).flatten = xss.flatten) := Lib.hid (by rw [HL.out, List.take_length])
  clear h hl
  obtain ⟨T, hT⟩ : ∃ T, T = xss.flatten.length := ⟨_, rfl⟩
  rw [← hT] at h0 hs hfull HLe
  replace hT := Lib.hid hT
  go_enter Try.func116, Try.ntmps116
  go_wp2_with fail
  go_loop [3, 11] (fun s i => ∃ k : Nat, k ≤ rs.length ∧ i = .int .i64 k ∧ s = .int .i64 (catN xss k : Nat)) (fun _ i => rs.length - (intOf i).toNat)
  case atStart => exact ⟨0, Nat.zero_le _, rfl, rfl⟩
  case round =>
    obtain ⟨k, hk, rfl, rfl⟩ := hrel
    have hle := HLe.out k hk
    generalize hK : catN xss k = K at hle ⊢
    have hK0 : ¬ (K : Int) < 0 := by omega
    replace hK := Lib.hid hK
    by_cases hlt : k < rs.length
    · have hkx : k < xss.length := by rw [← HL.out]; exact hlt
      have c0 := hx.raw hlt
      have hn := (H.out k hlt hkx).1
      have hsu := HS.out k hlt
      have hle2 := HLe.out (k + 1) hlt
      rw [hsu, hK.out] at hle2
      rw [hn] at c0
      rw [hK.out] at hsu
      generalize hM : xss[k].length = M at c0 hle2 hsu
      have hM0 : ¬ (K : Int) + (M : Int) < 0 := by omega
      replace hM := Lib.hid hM
      replace hsu := Lib.hid hsu
      replace hn := Lib.hid hn
      go_wp2_with fail
      go_round
      case rel => exact ⟨k + 1, by omega, by go_num, by rw [hsu.out]; go_num⟩
      case measure => simp [intOf]; omega
    · obtain rfl : k = rs.length := by omega
      obtain rfl : K = T := by rw [← hK.out, hfull.out]
      go_wp2_with (go_at_call 124; refine (growNil_c _ w h0 (by omega)).mono ?_; rintro e w1 ⟨v0, rfl, hO0, hb0⟩; obtain ⟨a0, c00, rfl, _⟩ := hO0.at)
      go_loopw [6, 27] (fun v i wr => ∃ k : Nat, k ≤ rs.length ∧ i = .int .i64 k ∧ Own w.heap.size wr 2 v (xss.take k).flatten ∧ Below w.heap.size w wr) (fun _ i _ => rs.length - (intOf i).toNat)
      case atStart => exact ⟨0, Nat.zero_le _, rfl, hO0, hb0⟩
      case round =>
        clear hO0 hb0
        obtain ⟨k, hk, rfl, hO, hb⟩ := hrel
        by_cases hlt : k < rs.length
        · have hkx : k < xss.length := by rw [← HL.out]; exact hlt
          have hx2 := hx.below hb
          have c0 := hx2.raw hlt
          obtain ⟨hn, hA, hc⟩ := H.out k hlt hkx
          have hsu := HS.out k hlt
          have hle2 := HLe.out (k + 1) hlt
          have hcs := Lib.hid (cat_succ hkx)
          have hle3 : (xss.take k).flatten.length + xss[k].length ≤ 4294967296 := by
            have : catN xss k = (xss.take k).flatten.length := rfl
            omega
          rw [hn] at c0
          clear hsu hle2
          replace hn := Lib.hid hn
          replace hle3 := Lib.hid hle3
          replace hA := hA.below hb
          obtain ⟨av, cv, rfl, _⟩ := hO.at
          have hsz := hb.size
          go_wp2_with (at_builtin; refine wpList_pushall rfl (.tmp 31) (.tmp 32) 22 rfl w.heap.size 2 (.int .i64 0) 8 Try.underlying22 infoInt rfl _ (xss.take k).flatten xss[k] rfl hO _ _ rfl hc hA hle3.out (by decide) hsz ?_; intro v1 w3 hO1 hg1)
          go_roundw
          case rel => exact ⟨k + 1, by omega, by go_num, by rw [hcs.out]; exact hO1, below_mark hb hO (Nat.le_refl _) hg1⟩
          case measure => simp [intOf]; omega
        · obtain rfl : k = rs.length := by omega
          rw [HF.out] at hO
          go_wp2_with fail
          go_ret
          exact ⟨_, rfl, hO, hb⟩
end Go.Proofs.Ytokoallbhbgkkaa
