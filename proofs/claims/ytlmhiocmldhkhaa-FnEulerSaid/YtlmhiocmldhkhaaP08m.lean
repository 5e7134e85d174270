/- Chapter 8, patterns: the law's marks in patterns, and what they leave alone. -/
import Derived.Test.YtlmhiocmldhkhaaP08b
import Derived.Test.YtlmhiocmldhkhaaMarkT
import Derived.Test.YtlmhiocmldhkhaaLists
namespace Go.Proofs.Ytlmhiocmldhkhaa
open Go.RowKit

/-- The owned pieces of a pattern, each in a row of its own. -/
structure PP (B : Nat) (w : World) (v : Value) (rs : List RawP) (ps : List Piece) : Prop where
  row : Own B w 55 v rs
  pieces : OwnPieces B w rs ps
  far : ∀ r ∈ rs, Apart (blk r) v.ownBlock
theorem Own.kept2 {α : Type} [Flat α] {B : Nat} {w w' : World} {e : TypeId} {v : Value} {xs : List α} {row : Option Nat} (h : Own B w e v xs) (hg : w.grownBy w' row) (hne : Apart v.ownBlock row) : Own B w' e v xs := h.kept hg hne
/-- The name of one piece is another. -/
theorem PP.name {B : Nat} {w w' : World} {v : Value} {rs : List RawP} {ps : List Piece} (h : PP B w v rs ps) {i : Nat} (hi : i < rs.length) (hi' : i < ps.length) (nm : ByteArray) (hg : w.grownBy w' v.ownBlock)
    (hO : Own B w' 55 v (rs.set i ⟨nm, rs[i].a, rs[i].n, rs[i].c⟩)) : PP B w' v (rs.set i ⟨nm, rs[i].a, rs[i].n, rs[i].c⟩) (ps.set i ⟨nm, ps[i].edges⟩) := by
  have hbk : ∀ j (hj : j < rs.length), blk ((rs.set i ⟨nm, rs[i].a, rs[i].n, rs[i].c⟩)[j]'(by simpa using hj)) = blk rs[j] := fun j hj => by
    by_cases hij : i = j
    · subst hij; rw [List.getElem_set_self]; rfl
    · rw [List.getElem_set_ne hij]
  refine ⟨hO, ⟨by simp [h.pieces.len], fun a b ha hb hne => ?_, fun j h1 h2 => ?_⟩, fun r hr => ?_⟩
  · rw [hbk a (by simpa using ha), hbk b (by simpa using hb)]
    exact h.pieces.apart a b _ _ hne
  · have hj1 : j < rs.length := by simpa using h1
    have hj2 : j < ps.length := by simpa using h2
    have hp := h.pieces.each j hj1 hj2
    have hk := hp.own.kept2 hg (h.far _ (List.getElem_mem hj1))
    by_cases hij : i = j
    · subst hij
      rw [List.getElem_set_self, List.getElem_set_self]
      exact ⟨rfl, hp.len, hk⟩
    · rw [List.getElem_set_ne hij, List.getElem_set_ne hij]
      exact ⟨hp.name, hp.len, hk⟩
  · obtain ⟨j, hj, rfl⟩ := List.mem_iff_getElem.1 hr
    rw [hbk j (by simpa using hj)]
    exact h.far _ (List.getElem_mem _)
/-- The edges of one piece are others, as many. -/
theorem PP.edges {B : Nat} {w w' : World} {v : Value} {rs : List RawP} {ps : List Piece} (h : PP B w v rs ps) {i : Nat} (hi : i < rs.length) (hi' : i < ps.length) (es : List Int) (hl : es.length = ps[i].edges.length) (hg : w.grownBy w' (blk rs[i]))
    (hO : Own B w' 2 (.slice rs[i].a rs[i].n rs[i].c) es) : PP B w' v rs (ps.set i ⟨ps[i].name, es⟩) := by
  refine ⟨h.row.kept2 hg (h.far _ (List.getElem_mem hi)).symm, ⟨by simp [h.pieces.len], h.pieces.apart, fun j h1 h2 => ?_⟩, h.far⟩
  have hj2 : j < ps.length := by simpa using h2
  have hp := h.pieces.each j h1 hj2
  by_cases hij : i = j
  · subst hij
    rw [List.getElem_set_self]
    exact ⟨hp.name, by rw [hl]; exact hp.len, hO⟩
  · rw [List.getElem_set_ne hij]
    exact ⟨hp.name, hp.len, hp.own.kept2 hg (h.pieces.apart j i h1 hi (fun e => hij e.symm))⟩
/-- The mark at which a piece begins. -/
def kAt (m : Nat) (ps : List Piece) (i : Nat) : Nat := m + sumN (fun x => 1 + x.edges.length) (ps.take i)
theorem kAt_succ (m : Nat) (ps : List Piece) (i : Nat) (h : i < ps.length) : kAt m ps (i + 1) = kAt m ps i + 1 + ps[i].edges.length := by
  unfold kAt; rw [sumN_take _ _ _ h]; omega
theorem kAt_le (m : Nat) (ps : List Piece) : ∀ i, kAt m ps i ≤ m + sumN (fun x => 1 + x.edges.length) ps := fun i => by
  unfold kAt; have := sumN_le (fun x : Piece => 1 + x.edges.length) ps i; omega
theorem sum_tot (ps : List Piece) : sumN (fun x => 1 + x.edges.length) ps ≤ totPieces ps := by
  unfold totPieces
  induction ps with
  | nil => simp [sumN]
  | cons x ps ih => simp only [sumN, List.foldr_cons, List.length_cons, totPiece] at *; omega
def markedP (m : Nat) (ps : List Piece) : List Piece := gen ps.length fun i => ⟨markT (kAt m ps i), marks ((kAt m ps i : Int) + 1) (ps.getD i ⟨⟨#[]⟩, []⟩).edges.length⟩
theorem markedP_length (m : Nat) (ps : List Piece) : (markedP m ps).length = ps.length := gen_length _ _
theorem markedP_get (m : Nat) (ps : List Piece) (i : Nat) (h : i < (markedP m ps).length) (h' : i < ps.length) : (markedP m ps)[i] = ⟨markT (kAt m ps i), marks ((kAt m ps i : Int) + 1) ps[i].edges.length⟩ := by
  have e : (markedP m ps)[i] = ⟨markT (kAt m ps i), marks ((kAt m ps i : Int) + 1) (ps.getD i ⟨⟨#[]⟩, []⟩).edges.length⟩ := gen_get _ _ _ _
  rw [e]; simp [h']
theorem over_at' {α : Type} (L xs : List α) (i : Nat) (hl : L.length = xs.length) (h : i < xs.length) (h' : i < (over L xs i).length) : (over L xs i)[i] = xs[i] := by
  have hk : (L.take i).length = i := by simp; omega
  rw [← Option.some_inj, ← List.getElem?_eq_getElem h', over, List.getElem?_append_right (by omega), hk, Nat.sub_self, List.getElem?_drop, Nat.add_zero, List.getElem?_eq_getElem h]
set_option maxRecDepth 100000 in
set_option maxHeartbeats 1600000 in
theorem markPieceS_c (S : Nat → Prop) (B : Nat) (v : Value) (rs : List RawP) (ps : List Piece) (m : Nat) (w : World) (h : PP B w v rs ps) (hu : In S v.ownBlock) (hur : ∀ r ∈ rs, In S (blk r)) (ht : totPieces ps ≤ 1048576) (hm : m ≤ 1048576) :
    Calls Try.prog 40 #[v, .int .i64 (m : Int)] w fun e w' => e = .returned (.int .i64 (kAt m ps ps.length : Nat)) ∧ (∃ rs', rs'.map blk = rs.map blk ∧ PP B w' v rs' (markedP m ps)) ∧ Touched S w w' := by
  have hlen := h.pieces.len
  have hkb := kAt_le m ps
  have hst := sum_tot ps
  have hM := Lib.hid (markedP_length m ps)
  rcases h.row.cases with ⟨rfl, rfl⟩ | ⟨g, cap, rfl⟩
  · obtain rfl : ps = [] := List.eq_nil_of_length_eq_zero hlen.symm
    go_enter Try.func40, Try.ntmps40
    go_wp2
    refine wp_loop_rounds 1 ?_
    rw [rounds_succ]
    go_wp2
    go_ret
    exact ⟨rfl, ⟨[], rfl, h⟩, Touched.refl _ _⟩
  · replace hkb := Lib.hid hkb
    replace hlen := Lib.hid hlen
    replace hur := Lib.hid hur
    have hps : ps.length ≤ 1048576 := by unfold totPieces at ht; omega
    rw [hlen.out] at h hu ⊢
    go_enter Try.func40, Try.ntmps40
    go_wp2
    go_loopw [1, 5] (fun q i wr => ∃ (k : Nat) (rs' : List RawP), k ≤ ps.length ∧ i = .int .i64 k ∧ q = .int .i64 (kAt m ps k : Nat) ∧ rs'.map blk = rs.map blk ∧ PP B wr (.slice (some ⟨g, 0, none⟩) ps.length cap) rs' (over (markedP m ps) ps k) ∧ Touched S w wr) (fun _ i _ => ps.length - (intOf i).toNat)
    case atStart => exact ⟨0, rs, Nat.zero_le _, rfl, by simp [kAt, sumN], rfl, by rw [over_zero]; exact h, Touched.refl _ _⟩
    case round =>
      clear h
      obtain ⟨k, rs', hk, rfl, rfl, hmap, h, hT⟩ := hrel
      have hk1 := hkb.out k
      replace hmap := Lib.hid hmap
      by_cases hlt : k < ps.length
      · have hko : k < (over (markedP m ps) ps k).length := by rw [over_length _ _ _ hM.out]; exact hlt
        have hkr : k < rs'.length := by rw [h.pieces.len]; exact hko
        have hk2 := hkb.out (k + 1)
        rw [kAt_succ m ps k hlt] at hk2
        have E1 := Lib.hid (kAt_succ m ps k hlt)
        obtain ⟨K, hK⟩ : ∃ K, K = kAt m ps k := ⟨_, rfl⟩
        rw [← hK] at hk1 hk2 E1 ⊢
        have hx := over_at' (markedP m ps) ps k hM.out hlt hko
        have hg0 := markedP_get m ps k (by rw [hM.out]; exact hlt) hlt
        have ES := Lib.hid (over_succ (markedP m ps) ps k hM.out (by rw [hM.out]; exact hlt))
        rw [hg0, ← hK] at ES
        replace hg0 := Lib.hid hg0
        replace hK := Lib.hid hK
        have hur' : In S (blk rs'[k]) := by
          have e : (rs'.map blk)[k]'(by simpa using hkr) = (rs.map blk)[k]'(by rw [← hmap.out]; simpa using hkr) := by simp only [hmap.out]
          simp only [List.getElem_map] at e
          rw [e]; exact hur.out _ (List.getElem_mem _)
        have hself : Own B wr 55 (.slice (some ⟨g, 0, none⟩) ps.length cap) (rs'.set k rs'[k]) := by rw [List.set_getElem_self]; exact h.row
        have hrl : ps.length = rs'.length := by rw [h.pieces.len, over_length _ _ _ hM.out]
        replace hrl := Lib.hid hrl
        replace hx := Lib.hid hx
        have HPP := Lib.hid h
        have HS := Lib.hid hself
        clear h hself
        go_wp2_with fail
        refine (markText_c K _ (by omega)).mono ?_
        rintro e w2 ⟨rfl, hb2⟩
        have HT2 := hT.trans (touched_below hb2)
        have HP2 : PP B w2 (.slice (some ⟨g, 0, none⟩) ps.length cap) rs' (over (markedP m ps) ps k) := ⟨HPP.out.row.later hb2, HPP.out.pieces.later hb2, HPP.out.far⟩
        go_wp2_with (refine wpList_store_field rfl 9 (.tmp 17) (.tmp 15) rfl B 55 _ _ _ rs' k _ 0 rs'[k] ⟨markT K, rs'[k].a, rs'[k].n, rs'[k].c⟩ (.string (markT K)) rfl (by simp [Flat.k]) (by decide) rfl rfl rfl (by kernel_rfl) hrl.out (HS.out.later hb2) hkr ?_; intro w3 hO3 hg3; have HP3 := HP2.name hkr hko (markT K) hg3 hO3; have HT3 := HT2.trans (touched_grown hg3 fun b hb => hu b hb); have hkr3 : k < (rs'.set k ⟨markT K, rs'[k].a, rs'[k].n, rs'[k].c⟩).length := (by simpa using hkr); have hA3 := hO3.at'.elem hkr3; obtain ⟨cs3, he3, hc3⟩ := hA3; have he3' : cs3 = [.string (markT K), .slice rs'[k].a rs'[k].n rs'[k].c] := (by rw [he3, List.getElem_set_self]; rfl); have c1 := hc3 1 (.slice rs'[k].a rs'[k].n rs'[k].c) (by rw [he3']; rfl); have e1 : (0 + k * Rep.k RawP + 1) = k * 2 + 1 := (by simp [Rep.k, Flat.k]); rw [e1] at c1; clear he3 hc3 he3' e1)
        have hO3' := hO3
        replace hO3' := Lib.hid hO3'
        have hp3 := HP3.pieces.each k hkr3 (by simpa using hko)
        have hblk : (rs'.set k ⟨markT K, rs'[k].a, rs'[k].n, rs'[k].c⟩)[k]'hkr3 = ⟨markT K, rs'[k].a, rs'[k].n, rs'[k].c⟩ := List.getElem_set_self _
        have hoe : Own B w3 2 (.slice rs'[k].a rs'[k].n rs'[k].c) ps[k].edges := by
          have := hp3.own
          rw [hblk, List.getElem_set_self] at this
          simpa [hx.out] using this
        have hne : rs'[k].n = ps[k].edges.length := by
          have := hp3.len
          rw [hblk, List.getElem_set_self] at this
          simpa [hx.out] using this
        replace hblk := Lib.hid hblk
        replace hne := Lib.hid hne
        have hc := markInt64S_any B _ _ ((K : Int) + 1) w3 hoe (by omega) (by omega) (by omega)
        replace hc := Lib.hid hc
        replace HP3 := Lib.hid HP3
        clear hoe hp3 hO3
        go_wp2_with fail
        refine hc.out.mono ?_
        rintro e w4 ⟨rfl, hO4, hg4⟩
        have HP4 := HP3.out.edges hkr3 (by simpa using hko) (marks ((K : Int) + 1) ps[k].edges.length) (by rw [marks_length, List.getElem_set_self]; simp [hx.out]) (by rw [hblk.out]; exact hg4) (by rw [hblk.out]; exact hO4)
        have HT4 := HT3.trans (touched_grown hg4 fun b hb => hur' b hb)
        rw [List.getElem_set_self, List.set_set, ES.out] at HP4
        have hmap' : Hid ((rs'.set k ⟨markT K, rs'[k].a, rs'[k].n, rs'[k].c⟩).map blk = rs.map blk) := Lib.hid (by
          rw [List.map_set, ← hmap.out]
          have : blk ⟨markT K, rs'[k].a, rs'[k].n, rs'[k].c⟩ = (rs'.map blk)[k]'(by simpa using hkr) := by simp [blk]
          rw [this, List.set_getElem_self])
        replace HP4 := Lib.hid HP4
        go_wp2_with fail
        go_roundw
        case rel => exact ⟨k + 1, _, by omega, by go_num, by rw [E1.out]; go_num, hmap'.out, HP4.out, HT4⟩
        case measure => simp [intOf]; omega
      · obtain rfl : k = ps.length := by omega
        rw [over_full _ _ hM.out (Nat.le_refl _)] at h
        go_wp2
        go_ret
        exact ⟨rfl, ⟨rs', hmap.out, h⟩, hT⟩
end Go.Proofs.Ytlmhiocmldhkhaa
