/- Chapter 8: a piece read back from its text: the program's and the reference's functions. -/
import Derived.Test.YthapcljhokfkmaaDoorRdPiece
import Derived.Laws.ResultCell
import Derived.Deep.RegionHeld3
namespace Go.Proofs.YthapcljhokfkmaaDoor
open Go.RowKit

theorem own_raw (w : World) (t : TypeId) (r : RawP) : Own w.heap.size (w.alloc (.cells #[.string r.name, .slice r.a r.n r.c] t)) t (.slice (some ⟨w.heap.size, 0, none⟩) 1 1) [r] :=
  ⟨rfl, .inr ⟨w.heap.size, 1, #[.string r.name, .slice r.a r.n r.c], rfl, Nat.le_refl _, heap_alloc_new _ _, Nat.le_refl _, by unfold maxLen; omega, rfl, rfl⟩⟩
theorem raw_cells {B : Nat} {w : World} {e : TypeId} {g n c : Nat} {r : RawP} (h : Own B w e (.slice (some ⟨g, 0, none⟩) n c) [r]) :
    w.cell? ⟨g, 0, none⟩ = some (.string r.name) ∧ w.cell? ⟨g, 1, none⟩ = some (.slice r.a r.n r.c) := by
  obtain ⟨cs, hr, hc⟩ := h.at'.elem (i := 0) (by simp)
  have h0 := hc 0 (.string r.name) (by rw [hr]; rfl)
  have h1 := hc 1 (.slice r.a r.n r.c) (by rw [hr]; rfl)
  exact ⟨by simpa using h0, by simpa using h1⟩
def raw0 : RawP := ⟨⟨#[]⟩, none, 0, 0⟩
theorem own_slice' {B : Nat} {w : World} {e : TypeId} {v : Value} {xs : List Int} (h : Own B w e v xs) : ∃ a c, v = .slice a xs.length c := by
  rcases h.cases with ⟨hv, hL⟩ | ⟨g, cap, hv⟩
  · exact ⟨none, 0, by rw [hv, hL]; rfl⟩
  · exact ⟨_, cap, hv⟩
theorem piece_sizes (s : ByteArray) : (pieceHead s).size ≤ s.size ∧ (pieceRest s).size ≤ s.size := by
  rcases piece_cut s with ⟨_, h⟩ | ⟨_, h2, h3⟩
  · omega
  · rw [h2, h3]; exact ⟨Nat.le_refl _, Nat.zero_le _⟩
theorem piece_total {s : ByteArray} {xs : List Int} (h : numsN 32 (cntR s) (pieceRest s) = some xs) : totPiece ⟨pieceHead s, xs⟩ ≤ s.size := by
  have h1 := (numsN_some h).2.1
  rcases piece_cut s with ⟨_, h2⟩ | ⟨_, h2, h3⟩
  · have h3 := splitC_length_le 32 (pieceRest s).data.toList
    rw [size_len, ← parts_length, ← cntR_eq] at h3
    unfold totPiece
    show (pieceHead s).size + xs.length ≤ s.size
    omega
  · rw [numsN_bad (k := 0) (by rw [h2]; decide) (by
      have e2 : parts 32 (pieceRest s) = [⟨#[]⟩] := by rw [h2]; rfl
      have hh : rdB (⟨#[]⟩ : ByteArray) = none := rdB_short (by decide)
      simp only [e2]; exact hh)] at h
    cases h
set_option maxRecDepth 100000 in
set_option maxHeartbeats 3200000 in
theorem implReadPiece_c (s : ByteArray) (w : World) (hT : TabR w) (hs : s.size ≤ 1048576) :
    Calls Tryd.prog 20 #[.string s] w fun e w' => ∃ pa pc, e = .returned (.tuple #[.agg #[.string ((readPiece s).getD ⟨⟨#[]⟩, []⟩).name, .slice pa ((readPiece s).getD ⟨⟨#[]⟩, []⟩).edges.length pc], .bool (readPiece s).isSome]) ∧ Own w.heap.size w' 2 (.slice pa ((readPiece s).getD ⟨⟨#[]⟩, []⟩).edges.length pc) ((readPiece s).getD ⟨⟨#[]⟩, []⟩).edges ∧ Below w.heap.size w w' := by
  obtain ⟨m, hm⟩ := hT.ml
  have hb0 : Below w.heap.size w (w.alloc (.cells #[.string ⟨#[]⟩, .slice none 0 0] 41)) := new_below _ _
  obtain ⟨w0, hw0⟩ : ∃ w0, w0 = w.alloc (.cells #[.string ⟨#[]⟩, .slice none 0 0] 41) := ⟨_, rfl⟩
  have hR := Lib.hid (own_raw w 41 raw0)
  change Hid (Own w.heap.size (w.alloc (.cells #[.string ⟨#[]⟩, .slice none 0 0] 41)) _ _ _) at hR
  rw [← hw0] at hb0 hR
  have hC := Lib.hid (strCut s ⟨#[32]⟩ m w0 (by omega) (kept_cell hm hb0))
  have e1 : (⟨(Lib.cut s.data.toList (⟨#[32]⟩ : ByteArray).data.toList).1.toArray⟩ : ByteArray) = pieceHead s := rfl
  have e2 : (⟨(Lib.cut s.data.toList (⟨#[32]⟩ : ByteArray).data.toList).2.1.toArray⟩ : ByteArray) = pieceRest s := rfl
  rw [e1, e2] at hC
  generalize (Lib.cut s.data.toList (⟨#[32]⟩ : ByteArray).data.toList).2.2 = fnd at hC
  have hz := piece_sizes s
  have hcn : cntR s ≤ 1048577 := by
    rw [cntR_eq, parts_length]
    have := splitC_length_le 32 (pieceRest s).data.toList
    rw [size_len] at this; omega
  have hK := Lib.hid (fun w' => strCount (pieceRest s) 32 w')
  have R1 := fun w' hb => readNumbers_c (pieceRest s) 32 (cntR s) w' (hT.below (w' := w') hb) (by omega) hcn
  have ec : ((cntR s : Nat) : Int) = (Lib.countByte (pieceRest s).data.toList 32 : Int) + 1 := by unfold cntR; omega
  have f1 := Lib.hid (@piece_none s)
  have f2 := Lib.hid (fun xs => @piece_final s xs)
  have f3 := Lib.hid (fun xs => @piece_total s xs)
  have f4 := Lib.hid (fun xs => @numsN_some 32 (cntR s) (pieceRest s) xs)
  have hcb : Lib.countByte (pieceRest s).data.toList 32 ≤ 1048576 := by have : cntR s = Lib.countByte (pieceRest s).data.toList 32 + 1 := rfl; omega
  rw [ec] at R1
  generalize Lib.countByte (pieceRest s).data.toList 32 = cb at *
  generalize numsN 32 (cntR s) (pieceRest s) = o at *
  generalize pieceHead s = hd at *
  generalize pieceRest s = rs at *
  replace R1 := Lib.hid R1
  replace hT := Lib.hid hT
  clear e1 e2 hz hcn ec hm
  go_enter Tryd.func20, Tryd.ntmps20
  go_wp2_with fail
  rw [← hw0]
  clear hw0
  refine hC.out.mono ?_
  rintro e w1 ⟨rfl, n, rfl⟩
  have hb1' : Below w0.heap.size w0 (w0.drewN n) := ⟨rfl, rfl, rfl, Nat.le_refl _, fun _ _ => rfl⟩
  have hb1 := upw hb0 hb1'
  replace hR := Lib.hid (hR.out.later hb1')
  go_wp2_with fail
  refine (hK.out _).mono ?_
  rintro e w2 ⟨rfl, rfl⟩
  go_wp2_with fail
  refine (R1.out _ hb1).mono ?_
  rintro e w3 ⟨v1, rfl, hO1, hb3⟩
  replace hO1 := Lib.hid (hO1.base hb1.size)
  replace hR := Lib.hid (hR.out.later hb3)
  replace hb3 := upw hb1 hb3
  clear hb1 hb1'
  obtain ⟨a, c, rfl⟩ := own_slice' hO1.out
  cases o with
  | none =>
    have hr := Lib.hid (f1.out rfl)
    have hb4' : Below w3.heap.size w3 (w3.alloc (.cells #[.string hd, .slice a 0 c] 41)) := new_below _ _
    replace hR := Lib.hid (hR.out.later hb4')
    have hb4 := upw hb3 hb4'
    go_wp2_with (refine wpList_store_own rfl 41 (.tmp 2) (.tmp 35) rfl w.heap.size 41 _ 1 1 ([raw0] : List RawP) 0 _ raw0 rfl rfl rfl (by kernel_rfl) rfl hR.out (by simp) ?_; intro wz hRz hgz)
    have hbz := below_mark hb4 hR.out (Nat.le_refl _) hgz
    obtain ⟨q0, q1⟩ := raw_cells hRz
    (try simp only [Exit.inBlock, Exit.then])
    refine bodyPost_ret (by rw [results_cell_tmp rfl]; simp [q0, q1, raw0, go_sem]; rfl) rfl ?_
    exact ⟨none, 0, by rw [hr.out]; rfl, by rw [hr.out]; exact own_none _ _ _, hbz⟩
  | some xs =>
    have hr := f2.out xs rfl
    have ht := f3.out xs rfl
    have hO2 : Hid (Own w.heap.size w3 2 (.slice a xs.length c) xs) := Lib.hid hO1.out
    clear hO1
    have hb4' : Below w3.heap.size w3 (w3.alloc (.cells #[.string hd, .slice a xs.length c] 41)) := new_below _ _
    have hX := Lib.hid (own_raw w3 41 ⟨hd, a, xs.length, c⟩)
    change Hid (Own w3.heap.size (w3.alloc (.cells #[.string hd, .slice a xs.length c] 41)) _ _ _) at hX
    replace hR := Lib.hid (hR.out.later hb4')
    replace hO2 := Lib.hid (hO2.out.later hb4')
    have hb4 := upw hb3 hb4'
    have hPT := Lib.hid (implPieceText_c ⟨hd, xs⟩ a c _ hO2.out.at' (Nat.le_trans ht hs) (hT.out.tab.below hb4))
    replace ht := Lib.hid ht
    obtain ⟨k0, k1⟩ := raw_cells hX.out
    by_cases he : pieceText ⟨hd, xs⟩ = s
    · have he1 := str_same he
      rw [if_pos he] at hr
      replace hr := Lib.hid hr
      replace he := Lib.hid he
      go_wp2_with fail
      refine hPT.out.mono ?_
      rintro e w6 ⟨rfl, hb6⟩
      replace hR := Lib.hid (hR.out.later hb6)
      replace hO2 := Lib.hid (hO2.out.later hb6)
      have hX6 := hX.out.later hb6
      clear k0 k1
      obtain ⟨k0, k1⟩ := raw_cells hX6
      replace hb6 := upw hb4 hb6
      go_wp2_with (refine wpList_store_own rfl 41 (.tmp 2) (.tmp 36) rfl w.heap.size 41 _ 1 1 ([raw0] : List RawP) 0 _ (⟨hd, a, xs.length, c⟩ : RawP) rfl rfl rfl (by kernel_rfl) rfl hR.out (by simp) ?_; intro wz hRz hgz)
      have hbz := below_mark hb6 hR.out (Nat.le_refl _) hgz
      have hOz : Own w.heap.size wz 2 (.slice a xs.length c) xs := hO2.out.kept hgz (by
        obtain ⟨cs, hcs⟩ := own_heapT hR.out
        have := own_other hO2.out hcs (by decide)
        exact Or.inr (fun e => this (by simpa [Value.ownBlock] using e.symm)))
      clear k0 k1
      obtain ⟨q0, q1⟩ := raw_cells hRz
      (try simp only [Exit.inBlock, Exit.then])
      refine bodyPost_ret (by rw [results_cell_tmp rfl]; simp [q0, q1, go_sem]; rfl) rfl ?_
      exact ⟨a, c, by rw [hr.out]; rfl, by rw [hr.out]; exact hOz, hbz⟩
    · have he1 := str_other he
      rw [if_neg he] at hr
      replace hr := Lib.hid hr
      replace he := Lib.hid he
      go_wp2_with fail
      refine hPT.out.mono ?_
      rintro e w6 ⟨rfl, hb6⟩
      replace hR := Lib.hid (hR.out.later hb6)
      replace hb6 := upw hb4 hb6
      clear k0 k1
      go_wp2_with (refine wpList_store_own rfl 41 (.tmp 2) (.tmp 35) rfl w.heap.size 41 _ 1 1 ([raw0] : List RawP) 0 _ raw0 rfl rfl rfl (by kernel_rfl) rfl hR.out (by simp) ?_; intro wz hRz hgz)
      have hbz := below_mark hb6 hR.out (Nat.le_refl _) hgz
      obtain ⟨q0, q1⟩ := raw_cells hRz
      (try simp only [Exit.inBlock, Exit.then])
      refine bodyPost_ret (by rw [results_cell_tmp rfl]; simp [q0, q1, raw0, go_sem]; rfl) rfl ?_
      exact ⟨none, 0, by rw [hr.out]; rfl, by rw [hr.out]; exact own_none _ _ _, hbz⟩
/-- A value of one cell. -/
def PCell := { v : Value // v.oneCell' = true }
instance : Flat PCell := ⟨1, by decide, fun x => [x.1], fun _ => rfl, fun x u h => by simp at h; subst h; exact x.2, fun _ => True⟩
def pcells (p : ByteArray) (a : Option Addr) (n c : Nat) : List PCell := [⟨.string p, rfl⟩, ⟨.slice a n c, rfl⟩]
theorem own_pcells (w : World) (t : TypeId) (p : ByteArray) (a : Option Addr) (n c : Nat) : Own w.heap.size (w.alloc (.cells #[.string p, .slice a n c] t)) t (.slice (some ⟨w.heap.size, 0, none⟩) 2 2) (pcells p a n c) :=
  ⟨rfl, .inr ⟨w.heap.size, 2, #[.string p, .slice a n c], rfl, Nat.le_refl _, heap_alloc_new _ _, Nat.le_refl _, by unfold maxLen; omega, rfl, rfl⟩⟩
theorem pcell_one {B : Nat} {w : World} {e : TypeId} {g n c : Nat} {xs : List PCell} (h : Own B w e (.slice (some ⟨g, 0, none⟩) n c) xs) {i : Nat} (hi : i < xs.length) : w.cell? ⟨g, i, none⟩ = some xs[i].1 := by
  obtain ⟨cs, hr, hc⟩ := h.at'.elem hi
  have h0 := hc 0 xs[i].1 (by rw [hr]; rfl)
  simpa [Rep.k, Flat.k] using h0
theorem pcells_cells {B : Nat} {w : World} {e : TypeId} {g k c' : Nat} {p : ByteArray} {a : Option Addr} {n c : Nat} (h : Own B w e (.slice (some ⟨g, 0, none⟩) k c') (pcells p a n c)) :
    w.cell? ⟨g, 0, none⟩ = some (.string p) ∧ w.cell? ⟨g, 1, none⟩ = some (.slice a n c) :=
  ⟨pcell_one h (i := 0) (by show 0 < 2; omega), pcell_one h (i := 1) (by show 1 < 2; omega)⟩
theorem Own.other {α β : Type} [Flat α] [Flat β] {B B' : Nat} {w w' : World} {e e' : TypeId} {v : Value} {xs : List α} {ys : List β} {g n c : Nat} (h : Own B w e (.slice (some ⟨g, 0, none⟩) n c) xs) (h' : Own B' w e' v ys) (hg : w.grownBy w' v.ownBlock) (hne : e ≠ e') : Own B w' e (.slice (some ⟨g, 0, none⟩) n c) xs := by
  obtain ⟨cs, hcs⟩ := own_heapT h
  exact h.kept hg (Or.inr (own_other h' hcs hne))
theorem Own.other' {α β : Type} [Flat α] [Flat β] {B B' : Nat} {w w' : World} {e e' : TypeId} {v : Value} {xs : List α} {ys : List β} {g n c : Nat} (h : Own B w e v xs) (h' : Own B' w e' (.slice (some ⟨g, 0, none⟩) n c) ys) (hg : w.grownBy w' (some g)) (hne : e' ≠ e) : Own B w' e v xs := by
  obtain ⟨cs, hcs⟩ := own_heapT h'
  exact h.kept hg (Or.inr (fun k => own_other h hcs hne k.symm))
theorem wrap_succ {k : Nat} (h : k ≤ 1048578) : wrap64 ((k : Int) + 1) = (k : Int) + 1 := by unfold wrap64; omega
set_option maxRecDepth 100000 in
set_option maxHeartbeats 6400000 in
theorem specReadPiece_c (s : ByteArray) (w : World) (hs : s.size ≤ 1048576) :
    Calls Tryd.prog 19 #[.string s] w fun e w' => ∃ pa pc, e = .returned (.tuple #[.agg #[.string ((readPiece s).getD ⟨⟨#[]⟩, []⟩).name, .slice pa ((readPiece s).getD ⟨⟨#[]⟩, []⟩).edges.length pc], .bool (readPiece s).isSome]) ∧ Own w.heap.size w' 2 (.slice pa ((readPiece s).getD ⟨⟨#[]⟩, []⟩).edges.length pc) ((readPiece s).getD ⟨⟨#[]⟩, []⟩).edges ∧ Below w.heap.size w w' := by
  have hb0 : Below w.heap.size w (w.alloc (.cells #[.string ⟨#[]⟩, .slice none 0 0] 41)) := new_below _ _
  obtain ⟨w0, hw0⟩ : ∃ w0, w0 = w.alloc (.cells #[.string ⟨#[]⟩, .slice none 0 0] 41) := ⟨_, rfl⟩
  have hR := Lib.hid (own_raw w 41 raw0)
  change Hid (Own w.heap.size (w.alloc (.cells #[.string ⟨#[]⟩, .slice none 0 0] 41)) _ _ _) at hR
  rw [← hw0] at hb0 hR
  have S0 := Lib.hid (l01Split_c s 32 w0 hs)
  have hsm := parts_small (c := 32) (s := s)
  obtain ⟨p, ps, hpp⟩ := parts_head 32 s
  have hpl : ps.length ≤ 1048577 := by
    have h1 := congrArg List.length hpp
    rw [parts_length] at h1
    have := splitC_length_le 32 s.data.toList
    rw [size_len] at this
    simp at h1; omega
  have hbad := Lib.hid (fun k => @piece_bad s p ps hpp k)
  have hunf := Lib.hid (@piece_unfit s p ps hpp)
  have hread := Lib.hid (@piece_read s p ps hpp)
  rw [hpp] at S0 hsm
  have hpz : p.size ≤ 1048576 := Nat.le_trans (hsm p (by simp)) hs
  have hsm2 := Lib.hid (fun q (hq : q ∈ ps) => Nat.le_trans (hsm q (by simp [hq])) hs)
  clear hsm hpp
  go_enter Tryd.func19, Tryd.ntmps19
  go_wp2_with fail
  rw [← hw0]
  clear hw0
  refine S0.out.mono ?_
  rintro e w1 ⟨va, rfl, hOa, hb1⟩
  replace hR := Lib.hid (hR.out.later hb1)
  have hb2 := upw hb0 hb1
  obtain ⟨ga, ca, rfl⟩ := hOa.row (by simp)
  have hA := Lib.hid hOa.at'
  have cA := hOa.at'.str (i := 0) (by simp)
  simp only [Nat.add_zero, List.getElem_cons_zero] at cA
  clear hOa hb1
  have hB0 : Below w1.heap.size w1 (w1.alloc (.cells #[.string p, .slice none 0 0] 41)) := new_below _ _
  have hX := Lib.hid (own_pcells w1 41 p none 0 0)
  go_wp2_with fail
  generalize hN : ps.length + 1 = N
  go_loopw [6, 7, 8] (fun i _ _ wr => ∃ (k j : Nat) (a : Option Addr) (c : Nat), k = j + 1 ∧ k ≤ N ∧ i = .int .i64 k ∧ Hid (Own w1.heap.size wr 41 (.slice (some ⟨w1.heap.size, 0, none⟩) 2 2) (pcells p a j c)) ∧ Hid (Own w1.heap.size wr 2 (.slice a j c) ((ps.take j).map rd)) ∧ Hid (allNums (ps.take j) = true) ∧ Below w1.heap.size w1 wr) (fun i _ _ _ => N - (intOf i).toNat)
  case atStart => exact ⟨1, 0, none, 0, rfl, by omega, rfl, hX, Lib.hid (own_none _ _ _), Lib.hid rfl, hB0⟩
  case round =>
    obtain ⟨k, j, a, c, hkj, hk, rfl, hX, hE, hall, hB⟩ := hrel
    have hRr := Lib.hid (hR.out.later hB)
    have hbr := upw hb2 hB
    by_cases hltk : k < N
    · have hlt : j < ps.length := by omega
      have cj : wr.cell? ⟨ga, k, none⟩ = some (.string ps[j]) := by
        have h := (hA.out.below hB).str (i := j + 1) (by simp; omega)
        simp only [Nat.zero_add, List.getElem_cons_succ] at h
        rw [hkj]; exact h
      have hbk := Lib.hid (hbad.out j hlt)
      have N0 := l01Number_c ps[j] wr (hsm2.out _ (List.getElem_mem hlt))
      have E0 : (ps.take (j + 1)).map rd = (ps.take j).map rd ++ [rd ps[j]] := by rw [List.take_succ_eq_append_getElem hlt, List.map_append]; rfl
      have hall2 : Hid ((rdB ps[j]).isSome = true → allNums (ps.take (j + 1)) = true) := Lib.hid (fun h => by
        have := hall.out
        unfold allNums at this ⊢
        rw [List.take_succ_eq_append_getElem hlt, List.all_append, this]; simp [h])
      have hrd : Hid (∀ x, rdB ps[j] = some x → rd ps[j] = x ∧ (-1000000000000000000 < x ∧ x < 1000000000000000000)) := Lib.hid (fun x h => ⟨by unfold rd; rw [h]; rfl, readDec_range h⟩)
      have hll : Hid (((ps.take j).map rd).length = j) := Lib.hid (by rw [List.length_map, List.length_take]; omega)
      obtain ⟨q, hq⟩ : ∃ q, q = ps[j] := ⟨_, rfl⟩
      rw [← hq] at cj hbk N0 E0 hall2 hrd
      replace hq := Lib.hid hq
      replace E0 := Lib.hid E0
      replace hkj := Lib.hid hkj
      replace hN := Lib.hid hN
      cases ho : rdB q with
      | none =>
        have hr := Lib.hid (hbk.out ho)
        rw [numRes_none ho] at N0
        replace N0 := Lib.hid N0
        replace ho := Lib.hid ho
        go_wp2_with fail
        refine N0.out.mono ?_
        rintro e w2 ⟨rfl, hb2'⟩
        have hRz0 := Lib.hid (hRr.out.later hb2')
        have hbz0 := upw hbr hb2'
        go_wp2_with (refine wpList_store_own rfl 41 (.tmp 2) (.tmp 31) rfl w.heap.size 41 _ 1 1 ([raw0] : List RawP) 0 _ raw0 rfl rfl rfl (by kernel_rfl) rfl hRz0.out (by simp) ?_; intro wz hRz hgz)
        have hbz := below_mark hbz0 hRz0.out (Nat.le_refl _) hgz
        obtain ⟨q0, q1⟩ := raw_cells hRz
        (try simp only [Exit.inBlock, Exit.then])
        refine bodyPost_ret (by rw [results_cell_tmp rfl]; simp [q0, q1, raw0, go_sem]; rfl) rfl ?_
        exact ⟨none, 0, by rw [hr.out]; rfl, by rw [hr.out]; exact own_none _ _ _, hbz⟩
      | some x =>
        obtain ⟨hx1, hx2⟩ := hrd.out x ho
        have hall3 := Lib.hid (hall2.out (by rw [ho]; rfl))
        rw [numRes_some ho] at N0
        replace N0 := Lib.hid N0
        replace ho := Lib.hid ho
        replace hx1 := Lib.hid hx1
        go_wp2_with fail
        refine N0.out.mono ?_
        rintro e w2 ⟨rfl, hb2'⟩
        have hX2 := Lib.hid (hX.out.later hb2')
        have hE2 := Lib.hid (hE.out.later hb2')
        have hB2 := upw hB hb2'
        have hsz := hB2.size
        obtain ⟨d0, d1⟩ := pcells_cells hX2.out
        have hb5 : Below w2.heap.size w2 (w2.alloc (.cells #[.int .i64 x] 2)) := (Below.refl _ _).alloc (Nat.le_refl _) _
        have d1' := kept_cell d1 hb5
        have hX5 := Lib.hid (hX2.out.later hb5)
        have hE5 := Lib.hid (hE2.out.later hb5)
        have hlj := hll.out
        clear cj d0
        go_wp2_with (first | (at_builtin; refine wpList_push rfl (.tmp 33) (.tmp 35) 39 rfl w1.heap.size 2 (.int .i64 0) 8 Tryd.underlying39 infoInt rfl _ _ x rfl hE5.out _ _ rfl 2 (heap_alloc_new _ _) (by omega) (by decide) (by simp; omega) ?_; intro v1 w7 hO1 hg1; obtain ⟨a1, c1, rfl⟩ := own_slice' hO1; replace hX5 := Lib.hid (hX5.out.other hE5.out hg1 (by decide)); clear d1 d1') | (refine wpList_store_own rfl 39 (.tmp 37) (.tmp 36) rfl w1.heap.size 41 _ 2 2 _ 1 _ ⟨.slice a1 _ c1, rfl⟩ rfl rfl rfl (by kernel_rfl) rfl hX5.out (by show 1 < 2; omega) ?_; intro w8 hX8 hg8))
        have hmin : min j ps.length + 1 = j + 1 := by omega
        have hlen1 : (((ps.take j).map rd) ++ [x]).length = j + 1 := by simp; omega
        have hX9 : Own w1.heap.size w8 41 (.slice (some ⟨w1.heap.size, 0, none⟩) 2 2) (pcells p a1 (j + 1) c1) := by
          have h := hX8
          simp only [hmin] at h
          exact h
        have hO9 : Own w1.heap.size w8 2 (.slice a1 (j + 1) c1) ((ps.take (j + 1)).map rd) := by
          rw [E0.out, hx1.out]
          have h := hO1.other' hX5.out hg8 (by decide)
          rw [hlen1] at h
          exact h
        have hB7 := below_mark (upw hB2 hb5) hE5.out (Nat.le_refl _) hg1
        have hB9 := below_mark hB7 hX5.out (Nat.le_refl _) hg8
        clear hX8 hO1 hg1 hg8 hB7
        have hkj' := hkj.out
        have hN' := hN.out
        have hkb : k ≤ 1048578 := by omega
        have g1 : k + 1 = j + 1 + 1 := by omega
        have g2 : k + 1 ≤ N := by omega
        have g3 : N - ((k : Int) + 1).toNat < N - (k : Int).toNat := by omega
        have hkw := wrap_succ hkb
        rw [hkw]
        exact ⟨⟨k + 1, j + 1, a1, c1, g1, g2, rfl, Lib.hid hX9, Lib.hid hO9, hall3, hB9⟩, g3⟩
    · obtain rfl : j = ps.length := by omega
      rw [List.take_length] at hE hall
      obtain ⟨d0, d1⟩ := pcells_cells hX.out
      have hml : (ps.map rd).length = ps.length := List.length_map _
      have hV : PieV wr w1.heap.size 0 a c ⟨p, ps.map rd⟩ := ⟨d0, by rw [Nat.zero_add]; show wr.cell? _ = some (.slice a (ps.map rd).length c); rw [hml]; exact d1, hE.out.at'⟩
      have hone := Lib.hid (l08One_c' ⟨p, ps.map rd⟩ w1.heap.size 0 a c wr hV (by show p.size ≤ _; omega) (by show (ps.map rd).length ≤ _; omega))
      replace hml := Lib.hid hml
      replace hN := Lib.hid hN
      replace hkj := Lib.hid hkj
      have hb1r := hbr
      cases hok : okPiece ⟨p, ps.map rd⟩
      · have hr := Lib.hid (hunf.out hok)
        have hRz0 := hRr
        have hbz0 := hbr
        clear d0 d1
        go_wp2_with (first | (go_at_call 44; refine (as_bool hok hone.out).mono ?_; rintro e w' ⟨rfl, rfl⟩) | (refine wpList_store_own rfl 41 (.tmp 2) (.tmp 40) rfl w.heap.size 41 _ 1 1 ([raw0] : List RawP) 0 _ raw0 rfl rfl rfl (by kernel_rfl) rfl hRz0.out (by simp) ?_; intro wz hRz hgz))
        have hbz := below_mark hbz0 hRz0.out (Nat.le_refl _) hgz
        obtain ⟨q0, q1⟩ := raw_cells hRz
        (try simp only [Exit.inBlock, Exit.then])
        refine bodyPost_ret (by rw [results_cell_tmp rfl]; simp [q0, q1, raw0, go_sem]; rfl) rfl ?_
        exact ⟨none, 0, by rw [hr.out]; rfl, by rw [hr.out]; exact own_none _ _ _, hbz⟩
      · have hr := Lib.hid (hread.out hall.out hok)
        go_wp2_with (first | (go_at_call 44; refine (as_bool hok hone.out).mono ?_; rintro e w' ⟨rfl, rfl⟩) | (refine wpList_store_own rfl 41 (.tmp 2) (.tmp 41) rfl w.heap.size 41 _ 1 1 ([raw0] : List RawP) 0 _ (⟨p, a, ps.length, c⟩ : RawP) rfl rfl rfl (by kernel_rfl) rfl hRr.out (by simp) ?_; intro wz hRz hgz))
        have hbz := below_mark hbr hRr.out (Nat.le_refl _) hgz
        have hEz := (hE.out.base hb2.size).other' hRr.out hgz (by decide)
        rw [← hml.out] at hEz
        clear d0 d1
        obtain ⟨q0, q1⟩ := raw_cells hRz
        (try simp only [Exit.inBlock, Exit.then])
        refine bodyPost_ret (by rw [results_cell_tmp rfl]; simp [q0, q1, go_sem]; rfl) rfl ?_
        exact ⟨a, c, by rw [hr.out]; show _ = Ending.returned (.tuple #[.agg #[.string p, .slice a (ps.map rd).length c], .bool true]); rw [hml.out], by rw [hr.out]; exact hEz, hbz⟩
end Go.Proofs.YthapcljhokfkmaaDoor
