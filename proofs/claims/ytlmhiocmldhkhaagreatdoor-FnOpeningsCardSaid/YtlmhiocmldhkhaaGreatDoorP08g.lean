/- Chapter 8, patterns: slices.DeleteFunc at edges, and the open edges. -/
import Derived.Test.YtlmhiocmldhkhaaGreatDoorP08f
namespace Go.Proofs.YtlmhiocmldhkhaaGreatDoor
open Go.RowKit

theorem own_cap {α : Type} [Flat α] {B : Nat} {w : World} {e : TypeId} {g n c : Nat} {xs : List α} (h : Own B w e (.slice (some ⟨g, 0, none⟩) n c) xs) : xs.length ≤ c ∧ c ≤ maxLen := by
  rcases h.2 with ⟨h', _⟩ | ⟨g', cap', cur, h', hb, hg, hnc, hcm, hcs, htake⟩
  · simp at h'
  · simp only [Value.slice.injEq, Option.some.injEq, Addr.mk.injEq, and_true] at h'
    obtain ⟨rfl, _, rfl⟩ := h'
    exact ⟨hnc, hcm⟩
theorem ofrz {α : Type} [Flat α] {B : Nat} {w : World} {e : TypeId} {g n c : Nat} {xs : List α} (h : Own B w e (.slice (some ⟨g, 0, none⟩) n c) xs) (j : Nat) : w.frozen? ⟨g, j, none⟩ = false := by
  obtain ⟨a', c', he, _⟩ := h.at
  simp only [Value.slice.injEq] at he
  obtain ⟨_, rfl, _⟩ := he
  exact World.ownsRow.frozenAt h j
theorem grown_setCells (b : Nat) : ∀ (vs : List Value) (o : Nat) (w : World), w.grownBy (w.setCells b o vs) (some b)
  | [], _, _ => World.grownBy.refl _ _
  | v :: vs, o, _ => grownBy_trans (grown_setCell _ ⟨b, o, none⟩ v) (grown_setCells b vs (o + 1) _)
/-- Clearing a row of edges. -/
theorem run_clear_edges (w : World) (ty : TypeId) (b o n c : Nat) (hn : 0 < n) (hc : ∀ j, j < n * 2 → (w.cell? ⟨b, o + j, none⟩).isSome = true) (hf : ∀ j, j < n * 2 → w.frozen? ⟨b, o + j, none⟩ = false) :
    (Builtin.clear_ #[51] ty #[.slice (some ⟨b, o, none⟩) n c]).run Tryz.prog w = .ok (.tuple #[]) (w.setCells b o (Builtin.zeroCells #[.int .i64 0, .int .i64 0] n).toList) := by
  have hlen : (Builtin.zeroCells #[.int .i64 0, .int .i64 0] n).toList.length = n * 2 := by simp [Builtin.zeroCells]
  have hst := run_storeCells_cells (P := Tryz.prog) b o (Builtin.zeroCells #[.int .i64 0, .int .i64 0] n).toList 0 w (by rw [hlen]; simpa using hc) (by rw [hlen]; simpa using hf) (by
    intro v hv
    simp only [Builtin.zeroCells, Array.toList_map, List.mem_map] at hv
    obtain ⟨i, _, rfl⟩ := hv
    have : i % #[Value.int .i64 0, Value.int .i64 0].size = 0 ∨ i % #[Value.int .i64 0, Value.int .i64 0].size = 1 := by simp; omega
    rcases this with h | h <;> rw [h] <;> rfl)
  simp only [Nat.add_zero] at hst
  obtain ⟨m, rfl⟩ : ∃ m, n = m + 1 := ⟨n - 1, by omega⟩
  have hz : (Value.agg #[.int .i64 0, .int .i64 0]).cells = #[.int .i64 0, .int .i64 0] := by kernel_rfl
  simp [Builtin.clear_, run_underlying Tryz.underlying51, hz, hst]
theorem clear_out (w : World) (b o n : Nat) (j : Nat) (hj : j < o) : (w.setCells b o (Builtin.zeroCells #[.int .i64 0, .int .i64 0] n).toList).cell? ⟨b, j, none⟩ = w.cell? ⟨b, j, none⟩ :=
  World.cell?_setCells_out b _ _ _ _ fun _ _ => Or.inl hj
theorem keep_take {p : Edge → Bool} {xs : List Edge} {j : Nat} (h : j < xs.length) : (xs.take (j + 1)).filter (fun x => !p x) = (xs.take j).filter (fun x => !p x) ++ if p xs[j] then [] else [xs[j]] := by
  rw [List.take_succ_eq_append_getElem h, List.filter_append]
  cases hp : p xs[j] <;> simp [hp]
theorem set_take (cur K : List Edge) (x : Edge) (h : cur.take K.length = K) (hl : K.length < cur.length) : (cur.set K.length x).take (K.length + 1) = K ++ [x] := by
  rw [List.take_succ_eq_append_getElem (by simpa using hl), List.getElem_set_self, List.take_set_of_le (Nat.le_refl _), h]
theorem set_drop (cur : List Edge) (x : Edge) (i j : Nat) (h : i < j) : (cur.set i x).drop j = cur.drop j := by
  rw [List.drop_set_of_lt h]
set_option maxRecDepth 100000 in
set_option maxHeartbeats 1600000 in
theorem deleteEdges_any (B g n c : Nat) (xs : List Edge) (K : Nat) (cap : Array Value) (p : Edge → Bool) (w : World) (hK : Enters Tryz.prog K) (hO : Own B w 54 (.slice (some ⟨g, 0, none⟩) n c) xs) (hn : n = xs.length) (hl : n ≤ 1048576)
    (hf : ∀ x ∈ xs, ∀ w', w.grownBy w' (some g) → Calls Tryz.prog K (#[.agg #[.int .i64 x.piece, .int .i64 x.number]] ++ cap) w' fun e w'' => e = .returned (.bool (p x)) ∧ Below w'.heap.size w' w'') :
    Calls Tryz.prog 40 #[.slice (some ⟨g, 0, none⟩) n c, .func (.func K) #[] cap] w fun e w' => ∃ m, e = .returned (.slice (some ⟨g, 0, none⟩) m c) ∧ m = (xs.filter fun x => !p x).length ∧ At w' (some ⟨g, 0, none⟩) (xs.filter fun x => !p x) ∧ w.grownBy w' (some g) := by
  have HF := Lib.hid hf
  clear hf
  have hI := indexEdges_any (some ⟨g, 0, none⟩) xs c K cap p w hK hO.at' (by omega) (fun x hx w' hb => HF.out x hx w' (grown_by hb _))
  rw [← hn] at hI
  replace hI := Lib.hid hI
  have hcap := (own_cap hO).1
  have hcap2 := (own_cap hO).2
  unfold maxLen at hcap2
  unfold Enters at hK
  by_cases hany : ∃ k, ∃ h : k < xs.length, p xs[k] = true ∧ Nosofar p xs k
  · obtain ⟨k0, hk0, hp0, hns⟩ := hany
    have e1 : firstIdx p xs = k0 := firstIdx_some hk0 hns hp0
    have ek : (xs.take k0).filter (fun x => !p x) = xs.take k0 := by
      rw [List.filter_eq_self]
      intro x hx
      obtain ⟨j, hj, rfl⟩ := List.mem_iff_getElem.1 hx
      rw [List.length_take] at hj
      rw [List.getElem_take]
      simp [hns j (by omega) (by omega)]
    have ek1 : (xs.take (k0 + 1)).filter (fun x => !p x) = xs.take k0 := by rw [keep_take hk0, hp0, ek]; simp
    have hl0 : (xs.take k0).length = k0 := by rw [List.length_take]; omega
    have hlen0 : ((xs.take (k0 + 1)).filter (fun x => !p x)).length = k0 := by rw [ek1, hl0]
    have hcur0 : xs.take k0 = (xs.take (k0 + 1)).filter (fun x => !p x) := ek1.symm
    rw [e1] at hI
    clear e1 ek
    have hn0 : ((k0 : Int) == -1) = false := beq_eq_false_iff_ne.2 (by omega)
    have hk0' : k0 < n := by omega
    have HN := Lib.hid hn
    replace hlen0 := Lib.hid hlen0
    replace hcur0 := Lib.hid hcur0
    clear ek1 hl0 hp0 hns hn hk0
    have hO0 := hO
    clear hO
    have hw0 : w.grownBy w (some g) := World.grownBy.refl _ _
    go_enter Tryz.func40, Tryz.ntmps40
    go_wp2_with fail
    refine hI.out.mono ?_
    rintro e w1 ⟨rfl, hb1⟩
    replace hO0 := hO0.later hb1
    replace hw0 := grown_by hb1 (some g)
    go_wp2_with fail
    go_loopw [5, 6, 7] (fun i j _ wr => ∃ (m : Nat) (ki : Nat) (cur : List Edge), m ≤ n ∧ ki < m ∧ i = .int .i64 ki ∧ j = .int .i64 m ∧ Hid (ki = ((xs.take m).filter (fun x => !p x)).length) ∧ Hid (cur.length = n) ∧ Hid (cur.take ki = (xs.take m).filter (fun x => !p x)) ∧ Hid (cur.drop m = xs.drop m) ∧ Own B wr 54 (.slice (some ⟨g, 0, none⟩) n c) cur ∧ w.grownBy wr (some g)) (fun _ j _ _ => n - (intOf j).toNat)
    case atStart => exact ⟨k0 + 1, k0, xs, by omega, by omega, rfl, by go_num, Lib.hid hlen0.out.symm, Lib.hid HN.out.symm, Lib.hid hcur0.out, Lib.hid rfl, hO0, hw0⟩
    case round =>
      clear hO0 hw0
      obtain ⟨m, ki, cur, hm, hki, rfl, rfl, hke, hcl, hct, hcd, hO, hg⟩ := hrel
      by_cases hlt : m < n
      · have hmx : m < xs.length := by rw [← HN.out]; exact hlt
        have hmc : m < cur.length := by rw [hcl.out]; exact hlt
        have hx : cur[m] = xs[m] := by
          have h1 := congrArg (fun l => l[0]?) hcd.out
          simpa [List.getElem?_drop, List.getElem?_eq_getElem hmx, List.getElem?_eq_getElem hmc] using h1
        obtain ⟨c0, c1⟩ := hO.at'.edge hmc
        rw [hx] at c0 c1
        simp only [Nat.zero_add] at c0 c1
        obtain ⟨x, hxe⟩ : ∃ x, x = xs[m] := ⟨_, rfl⟩
        have hmem : x ∈ xs := by rw [hxe]; exact List.getElem_mem _
        rw [← hxe] at c0 c1
        have hT := Lib.hid (keep_take (p := p) hmx)
        rw [← hxe] at hT
        replace hxe := Lib.hid hxe
        replace hx := Lib.hid hx
        have hb2 := new_below wr (.cells #[.int .i64 x.piece, .int .i64 x.number] 54)
        obtain ⟨w2, hw2⟩ : ∃ w2, w2 = wr.alloc (.cells #[.int .i64 x.piece, .int .i64 x.number] 54) := ⟨_, rfl⟩
        have V : Var w2 wr.heap.size [.int .i64 x.piece, .int .i64 x.number] := by rw [hw2]; exact Var.new2 _ _ _ _
        rw [← hw2] at hb2
        have hgl := (hO.lt g rfl).2
        replace hO := hO.later hb2
        replace hg := grownBy_trans hg (grown_by hb2 (some g))
        have HW2 := Lib.hid hw2
        clear hw2
        have d0 := V.cell 0 _ rfl
        have d1 := V.cell 1 _ rfl
        have hcall := Lib.hid (HF.out x hmem _ hg)
        cases hp : p x
        · have hT1 : Hid ((xs.take (m + 1)).filter (fun x => !p x) = (xs.take m).filter (fun x => !p x) ++ [x]) := Lib.hid (by rw [hT.out, hp]; rfl)
          go_wp2_with fail
          rw [← HW2.out]
          refine (as_boolB hp hcall.out).mono ?_
          rintro e w3 ⟨rfl, hb3⟩
          replace hO := hO.later hb3
          replace hg := grownBy_trans hg (grown_by hb3 (some g))
          replace V := V.below hb3
          clear d0 d1 c0 c1
          have d0 := V.cell 0 _ rfl
          have d1 := V.cell 1 _ rfl
          have hkc : ki < cur.length := by omega
          go_wp2_with (refine wpList_store_own rfl 54 (.tmp 33) (.tmp 32) rfl B 54 _ _ _ cur ki _ x rfl (by simp [Flat.k]) rfl (by kernel_rfl) hcl.out.symm hO hkc ?_; intro w5 hO5 hg5)
          go_roundw
          case rel =>
            refine ⟨m + 1, ki + 1, _, by omega, by omega, by go_num, by go_num, Lib.hid ?_, Lib.hid (by rw [List.length_set]; exact hcl.out), Lib.hid ?_, Lib.hid ?_, hO5, grownBy_trans hg hg5⟩
            · rw [hT1.out, List.length_append, ← hke.out]; rfl
            · have h1 := set_take cur _ x (by rw [← hke.out]; exact hct.out) (by rw [← hke.out]; exact hkc)
              rw [← hke.out] at h1
              rw [hT1.out]; exact h1
            · rw [set_drop _ _ _ _ (by omega), ← List.drop_drop, hcd.out, List.drop_drop]
          case measure => simp [intOf]; omega
        · have hT1 : Hid ((xs.take (m + 1)).filter (fun x => !p x) = (xs.take m).filter (fun x => !p x)) := Lib.hid (by rw [hT.out, hp]; simp)
          go_wp2_with fail
          rw [← HW2.out]
          refine (as_boolB hp hcall.out).mono ?_
          rintro e w3 ⟨rfl, hb3⟩
          replace hO := hO.later hb3
          replace hg := grownBy_trans hg (grown_by hb3 (some g))
          go_wp2_with fail
          go_roundw
          case rel =>
            refine ⟨m + 1, ki, _, by omega, by omega, rfl, by go_num, Lib.hid ?_, hcl, Lib.hid ?_, Lib.hid ?_, hO, hg⟩
            · rw [hT1.out]; exact hke.out
            · rw [hT1.out]; exact hct.out
            · rw [← List.drop_drop, hcd.out, List.drop_drop]
          case measure => simp [intOf]; omega
      · obtain rfl : m = n := by omega
        have hall : xs.take m = xs := List.take_of_length_le (by rw [HN.out]; exact Nat.le_refl _)
        rw [hall] at hke hct
        replace hall := Lib.hid hall
        have hcell : ∀ j, j < (m - ki) * 2 → (wr.cell? ⟨g, ki * 2 + j, none⟩).isSome = true := fun j hj => by
          have hA := hO.at'
          have hi : (ki * 2 + j) / 2 < cur.length := by rw [hcl.out]; omega
          obtain ⟨a0, a1⟩ := hA.edge hi
          rcases Nat.mod_two_eq_zero_or_one (ki * 2 + j) with h | h
          · rw [show 0 + (ki * 2 + j) / 2 * 2 = ki * 2 + j by omega] at a0; rw [a0]; rfl
          · rw [show 0 + (ki * 2 + j) / 2 * 2 + 1 = ki * 2 + j by omega] at a1; rw [a1]; rfl
        have hcl2 := fun ty => run_clear_edges wr ty g (ki * 2) (m - ki) (c - ki) (by omega) hcell (fun j _ => ofrz hO _)
        have e3 : ((m : Int) - ki) = ((m - ki : Nat) : Int) := by omega
        have hfin : At (wr.setCells g (ki * 2) (Builtin.zeroCells #[.int .i64 0, .int .i64 0] (m - ki)).toList) (some ⟨g, 0, none⟩) (xs.filter fun x => !p x) := by
          rw [← hct.out]
          refine Or.inr ⟨g, 0, rfl, ?_, fun i hi => ?_⟩
          · have := (grown_setCells g (Builtin.zeroCells #[.int .i64 0, .int .i64 0] (m - ki)).toList (ki * 2) wr).size
            have := (hO.lt g rfl).2
            omega
          · rw [List.length_take] at hi
            have hic : i < cur.length := by omega
            obtain ⟨a0, a1⟩ := hO.at'.edge hic
            refine ⟨_, rfl, fun j v hv => ?_⟩
            rw [List.getElem_take] at hv
            change [Value.int .i64 cur[i].piece, Value.int .i64 cur[i].number][j]? = some v at hv
            rcases j with _ | _ | j
            · have e4 : Rep.k Edge = 2 := rfl
              rw [e4, clear_out _ _ _ _ _ (by omega)]
              simp at hv; subst hv; simpa using a0
            · have e4 : Rep.k Edge = 2 := rfl
              rw [e4, clear_out _ _ _ _ _ (by omega)]
              simp at hv; subst hv; simpa using a1
            · simp at hv
        have hgr := grownBy_trans hg (grown_setCells g (Builtin.zeroCells #[.int .i64 0, .int .i64 0] (m - ki)).toList (ki * 2) wr)
        replace hfin := Lib.hid hfin
        replace hgr := Lib.hid hgr
        clear hcell
        have hkc2 : ki ≤ c := by have := HN.out; omega
        have hkc3 : ¬ c = ki := by have := HN.out; omega
        go_wp2_with fail
        all_goals first | (exfalso; omega) | (go_ret; exact ⟨_, rfl, hke.out, hfin.out, hgr.out⟩)
  · have hno : ∀ k (h : k < xs.length), p xs[k] = false := by
      apply Classical.byContradiction
      intro hne
      have : ∃ k, ∃ h : k < xs.length, p xs[k] = true := by
        apply Classical.byContradiction
        intro h2
        apply hne
        intro k hk
        cases hp : p xs[k] with
        | false => rfl
        | true => exact absurd ⟨k, hk, hp⟩ h2
      obtain ⟨k, hk, hp⟩ := this
      have hfi : xs.findIdx p < xs.length := List.findIdx_lt_length_of_exists ⟨_, List.getElem_mem hk, hp⟩
      exact hany ⟨xs.findIdx p, hfi, List.findIdx_getElem, fun j hj h1 => by simpa using List.not_of_lt_findIdx hj⟩
    have e1 : firstIdx p xs = -1 := firstIdx_none (Nat.le_refl _) fun j hj h1 => hno j h1
    rw [e1] at hI
    have ef : (xs.filter fun x => !p x) = xs := by
      rw [List.filter_eq_self]
      intro x hx
      obtain ⟨j, hj, rfl⟩ := List.mem_iff_getElem.1 hx
      simp [hno j hj]
    have HE := Lib.hid ef
    have HN := Lib.hid hn
    clear ef hn hno hany
    go_enter Tryz.func40, Tryz.ntmps40
    go_wp2_with fail
    refine hI.out.mono ?_
    rintro e w1 ⟨rfl, hb1⟩
    go_wp2_with fail
    go_ret
    exact ⟨_, rfl, by rw [HE.out]; exact HN.out, by rw [HE.out]; exact (hO.later hb1).at', grown_by hb1 _⟩
end Go.Proofs.YtlmhiocmldhkhaaGreatDoor
