/- Chapter 8: a piece read back from its text: the program's and the reference's functions. -/
import Derived.Test.YtlmhiocmldhkhaaGreatDoorRdPiece
import Derived.Laws.ResultCell
import Derived.Deep.RegionHeld3
namespace Go.Proofs.YtlmhiocmldhkhaaGreatDoor
open Go.RowKit

theorem own_raw (w : World) (t : TypeId) (r : RawP) : Own w.heap.size (w.alloc (.cells #[.string r.name, .slice r.a r.n r.c] t)) t (.slice (some ⟨w.heap.size, 0, none⟩) 1 1) [r] :=
  ⟨rfl, .inr ⟨w.heap.size, 1, #[.string r.name, .slice r.a r.n r.c], rfl, Nat.le_refl _, heap_alloc_new _ _, Nat.le_refl _, by unfold maxLen; omega, rfl, rfl⟩⟩
theorem raw_cells {B : Nat} {w : World} {e : TypeId} {g n c : Nat} {r : RawP} (h : Own B w e (.slice (some ⟨g, 0, none⟩) n c) [r]) :
    w.cell? ⟨g, 0, none⟩ = some (.string r.name) ∧ w.cell? ⟨g, 1, none⟩ = some (.slice r.a r.n r.c) := by
  obtain ⟨cs, hr, hc⟩ := h.at'.elem (i := 0) (by simp)
  have h0 := hc 0 (.string r.name) (by rw [hr]; rfl)
  have h1 := hc 1 (.slice r.a r.n r.c) (by rw [hr]; rfl)
  exact ⟨by simpa using h0, by simpa using h1⟩
def raw0 : RawP := ⟨⟨#[]⟩, none, 0, 0⟩
theorem own_slice' {B : Nat} {w : World} {e : TypeId} {v : Value} {xs : List Int} (h : Own B w e v xs) : ∃ a c, v = .slice a xs.length c := by
  rcases h.cases with ⟨hv, hL⟩ | ⟨g, cap, hv⟩
  · exact ⟨none, 0, by rw [hv, hL]; rfl⟩
  · exact ⟨_, cap, hv⟩
theorem piece_sizes (s : ByteArray) : (pieceHead s).size ≤ s.size ∧ (pieceRest s).size ≤ s.size := by
  rcases piece_cut s with ⟨_, h⟩ | ⟨_, h2, h3⟩
  · omega
  · rw [h2, h3]; exact ⟨Nat.le_refl _, Nat.zero_le _⟩
theorem piece_total {s : ByteArray} {xs : List Int} (h : numsN 32 (cntR s) (pieceRest s) = some xs) : totPiece ⟨pieceHead s, xs⟩ ≤ s.size := by
  have h1 := (numsN_some h).2.1
  rcases piece_cut s with ⟨_, h2⟩ | ⟨_, h2, h3⟩
  · have h3 := splitC_length_le 32 (pieceRest s).data.toList
    rw [size_len, ← parts_length, ← cntR_eq] at h3
    unfold totPiece
    show (pieceHead s).size + xs.length ≤ s.size
    omega
  · rw [numsN_bad (k := 0) (by rw [h2]; decide) (by
      have e2 : parts 32 (pieceRest s) = [⟨#[]⟩] := by rw [h2]; rfl
      have hh : rdB (⟨#[]⟩ : ByteArray) = none := rdB_short (by decide)
      simp only [e2]; exact hh)] at h
    cases h
set_option maxRecDepth 100000 in
set_option maxHeartbeats 3200000 in
theorem implReadPiece_c (s : ByteArray) (w : World) (hT : TabR w) (hs : s.size ≤ 1048576) :
    Calls Tryz.prog 8 #[.string s] w fun e w' => ∃ pa pc, e = .returned (.tuple #[.agg #[.string ((readPiece s).getD ⟨⟨#[]⟩, []⟩).name, .slice pa ((readPiece s).getD ⟨⟨#[]⟩, []⟩).edges.length pc], .bool (readPiece s).isSome]) ∧ Own w.heap.size w' 2 (.slice pa ((readPiece s).getD ⟨⟨#[]⟩, []⟩).edges.length pc) ((readPiece s).getD ⟨⟨#[]⟩, []⟩).edges ∧ Below w.heap.size w w' := by
  obtain ⟨m, hm⟩ := hT.ml
  have hb0 : Below w.heap.size w (w.alloc (.cells #[.string ⟨#[]⟩, .slice none 0 0] 36)) := new_below _ _
  obtain ⟨w0, hw0⟩ : ∃ w0, w0 = w.alloc (.cells #[.string ⟨#[]⟩, .slice none 0 0] 36) := ⟨_, rfl⟩
  have hR := Lib.hid (own_raw w 36 raw0)
  change Hid (Own w.heap.size (w.alloc (.cells #[.string ⟨#[]⟩, .slice none 0 0] 36)) _ _ _) at hR
  rw [← hw0] at hb0 hR
  have hC := Lib.hid (strCut s ⟨#[32]⟩ m w0 (by omega) (kept_cell hm hb0))
  have e1 : (⟨(Lib.cut s.data.toList (⟨#[32]⟩ : ByteArray).data.toList).1.toArray⟩ : ByteArray) = pieceHead s := rfl
  have e2 : (⟨(Lib.cut s.data.toList (⟨#[32]⟩ : ByteArray).data.toList).2.1.toArray⟩ : ByteArray) = pieceRest s := rfl
  rw [e1, e2] at hC
  generalize (Lib.cut s.data.toList (⟨#[32]⟩ : ByteArray).data.toList).2.2 = fnd at hC
  have hz := piece_sizes s
  have hcn : cntR s ≤ 1048577 := by
    rw [cntR_eq, parts_length]
    have := splitC_length_le 32 (pieceRest s).data.toList
    rw [size_len] at this; omega
  have hK := Lib.hid (fun w' => strCount (pieceRest s) 32 w')
  have R1 := fun w' hb => readNumbers_c (pieceRest s) 32 (cntR s) w' (hT.below (w' := w') hb) (by omega) hcn
  have ec : ((cntR s : Nat) : Int) = (Lib.countByte (pieceRest s).data.toList 32 : Int) + 1 := by unfold cntR; omega
  have f1 := Lib.hid (@piece_none s)
  have f2 := Lib.hid (fun xs => @piece_final s xs)
  have f3 := Lib.hid (fun xs => @piece_total s xs)
  have f4 := Lib.hid (fun xs => @numsN_some 32 (cntR s) (pieceRest s) xs)
  have hcb : Lib.countByte (pieceRest s).data.toList 32 ≤ 1048576 := by have : cntR s = Lib.countByte (pieceRest s).data.toList 32 + 1 := rfl; omega
  rw [ec] at R1
  generalize Lib.countByte (pieceRest s).data.toList 32 = cb at *
  generalize numsN 32 (cntR s) (pieceRest s) = o at *
  generalize pieceHead s = hd at *
  generalize pieceRest s = rs at *
  replace R1 := Lib.hid R1
  replace hT := Lib.hid hT
  clear e1 e2 hz hcn ec hm
  go_enter Tryz.func8, Tryz.ntmps8
  go_wp2_with fail
  rw [← hw0]
  clear hw0
  refine hC.out.mono ?_
  rintro e w1 ⟨rfl, n, rfl⟩
  have hb1' : Below w0.heap.size w0 (w0.drewN n) := ⟨rfl, rfl, rfl, Nat.le_refl _, fun _ _ => rfl⟩
  have hb1 := upw hb0 hb1'
  replace hR := Lib.hid (hR.out.later hb1')
  go_wp2_with fail
  refine (hK.out _).mono ?_
  rintro e w2 ⟨rfl, rfl⟩
  go_wp2_with fail
  refine (R1.out _ hb1).mono ?_
  rintro e w3 ⟨v1, rfl, hO1, hb3⟩
  replace hO1 := Lib.hid (hO1.base hb1.size)
  replace hR := Lib.hid (hR.out.later hb3)
  replace hb3 := upw hb1 hb3
  clear hb1 hb1'
  obtain ⟨a, c, rfl⟩ := own_slice' hO1.out
  cases o with
  | none =>
    have hr := Lib.hid (f1.out rfl)
    have hb4' : Below w3.heap.size w3 (w3.alloc (.cells #[.string hd, .slice a 0 c] 36)) := new_below _ _
    replace hR := Lib.hid (hR.out.later hb4')
    have hb4 := upw hb3 hb4'
    go_wp2_with (refine wpList_store_own rfl 36 (.tmp 2) (.tmp 35) rfl w.heap.size 36 _ 1 1 ([raw0] : List RawP) 0 _ raw0 rfl rfl rfl (by kernel_rfl) rfl hR.out (by simp) ?_; intro wz hRz hgz)
    have hbz := below_mark hb4 hR.out (Nat.le_refl _) hgz
    obtain ⟨q0, q1⟩ := raw_cells hRz
    (try simp only [Exit.inBlock, Exit.then])
    refine bodyPost_ret (by rw [results_cell_tmp rfl]; simp [q0, q1, raw0, go_sem]; rfl) rfl ?_
    exact ⟨none, 0, by rw [hr.out]; rfl, by rw [hr.out]; exact own_none _ _ _, hbz⟩
  | some xs =>
    have hr := f2.out xs rfl
    have ht := f3.out xs rfl
    have hO2 : Hid (Own w.heap.size w3 2 (.slice a xs.length c) xs) := Lib.hid hO1.out
    clear hO1
    have hb4' : Below w3.heap.size w3 (w3.alloc (.cells #[.string hd, .slice a xs.length c] 36)) := new_below _ _
    have hX := Lib.hid (own_raw w3 36 ⟨hd, a, xs.length, c⟩)
    change Hid (Own w3.heap.size (w3.alloc (.cells #[.string hd, .slice a xs.length c] 36)) _ _ _) at hX
    replace hR := Lib.hid (hR.out.later hb4')
    replace hO2 := Lib.hid (hO2.out.later hb4')
    have hb4 := upw hb3 hb4'
    have hPT := Lib.hid (implPieceText_c ⟨hd, xs⟩ a c _ hO2.out.at' (Nat.le_trans ht hs) (hT.out.tab.below hb4))
    replace ht := Lib.hid ht
    obtain ⟨k0, k1⟩ := raw_cells hX.out
    by_cases he : pieceText ⟨hd, xs⟩ = s
    · have he1 := str_same he
      rw [if_pos he] at hr
      replace hr := Lib.hid hr
      replace he := Lib.hid he
      go_wp2_with fail
      refine hPT.out.mono ?_
      rintro e w6 ⟨rfl, hb6⟩
      replace hR := Lib.hid (hR.out.later hb6)
      replace hO2 := Lib.hid (hO2.out.later hb6)
      have hX6 := hX.out.later hb6
      clear k0 k1
      obtain ⟨k0, k1⟩ := raw_cells hX6
      replace hb6 := upw hb4 hb6
      go_wp2_with (refine wpList_store_own rfl 36 (.tmp 2) (.tmp 36) rfl w.heap.size 36 _ 1 1 ([raw0] : List RawP) 0 _ (⟨hd, a, xs.length, c⟩ : RawP) rfl rfl rfl (by kernel_rfl) rfl hR.out (by simp) ?_; intro wz hRz hgz)
      have hbz := below_mark hb6 hR.out (Nat.le_refl _) hgz
      have hOz : Own w.heap.size wz 2 (.slice a xs.length c) xs := hO2.out.kept hgz (by
        obtain ⟨cs, hcs⟩ := own_heapT hR.out
        have := own_other hO2.out hcs (by decide)
        exact Or.inr (fun e => this (by simpa [Value.ownBlock] using e.symm)))
      clear k0 k1
      obtain ⟨q0, q1⟩ := raw_cells hRz
      (try simp only [Exit.inBlock, Exit.then])
      refine bodyPost_ret (by rw [results_cell_tmp rfl]; simp [q0, q1, go_sem]; rfl) rfl ?_
      exact ⟨a, c, by rw [hr.out]; rfl, by rw [hr.out]; exact hOz, hbz⟩
    · have he1 := str_other he
      rw [if_neg he] at hr
      replace hr := Lib.hid hr
      replace he := Lib.hid he
      go_wp2_with fail
      refine hPT.out.mono ?_
      rintro e w6 ⟨rfl, hb6⟩
      replace hR := Lib.hid (hR.out.later hb6)
      replace hb6 := upw hb4 hb6
      clear k0 k1
      go_wp2_with (refine wpList_store_own rfl 36 (.tmp 2) (.tmp 35) rfl w.heap.size 36 _ 1 1 ([raw0] : List RawP) 0 _ raw0 rfl rfl rfl (by kernel_rfl) rfl hR.out (by simp) ?_; intro wz hRz hgz)
      have hbz := below_mark hb6 hR.out (Nat.le_refl _) hgz
      obtain ⟨q0, q1⟩ := raw_cells hRz
      (try simp only [Exit.inBlock, Exit.then])
      refine bodyPost_ret (by rw [results_cell_tmp rfl]; simp [q0, q1, raw0, go_sem]; rfl) rfl ?_
      exact ⟨none, 0, by rw [hr.out]; rfl, by rw [hr.out]; exact own_none _ _ _, hbz⟩
/-- A value of one cell. -/
def PCell := { v : Value // v.oneCell' = true }
instance : Flat PCell := ⟨1, by decide, fun x => [x.1], fun _ => rfl, fun x u h => by simp at h; subst h; exact x.2, fun _ => True⟩
def pcells (p : ByteArray) (a : Option Addr) (n c : Nat) : List PCell := [⟨.string p, rfl⟩, ⟨.slice a n c, rfl⟩]
theorem own_pcells (w : World) (t : TypeId) (p : ByteArray) (a : Option Addr) (n c : Nat) : Own w.heap.size (w.alloc (.cells #[.string p, .slice a n c] t)) t (.slice (some ⟨w.heap.size, 0, none⟩) 2 2) (pcells p a n c) :=
  ⟨rfl, .inr ⟨w.heap.size, 2, #[.string p, .slice a n c], rfl, Nat.le_refl _, heap_alloc_new _ _, Nat.le_refl _, by unfold maxLen; omega, rfl, rfl⟩⟩
theorem pcell_one {B : Nat} {w : World} {e : TypeId} {g n c : Nat} {xs : List PCell} (h : Own B w e (.slice (some ⟨g, 0, none⟩) n c) xs) {i : Nat} (hi : i < xs.length) : w.cell? ⟨g, i, none⟩ = some xs[i].1 := by
  obtain ⟨cs, hr, hc⟩ := h.at'.elem hi
  have h0 := hc 0 xs[i].1 (by rw [hr]; rfl)
  simpa [Rep.k, Flat.k] using h0
theorem pcells_cells {B : Nat} {w : World} {e : TypeId} {g k c' : Nat} {p : ByteArray} {a : Option Addr} {n c : Nat} (h : Own B w e (.slice (some ⟨g, 0, none⟩) k c') (pcells p a n c)) :
    w.cell? ⟨g, 0, none⟩ = some (.string p) ∧ w.cell? ⟨g, 1, none⟩ = some (.slice a n c) :=
  ⟨pcell_one h (i := 0) (by show 0 < 2; omega), pcell_one h (i := 1) (by show 1 < 2; omega)⟩
theorem Own.other {α β : Type} [Flat α] [Flat β] {B B' : Nat} {w w' : World} {e e' : TypeId} {v : Value} {xs : List α} {ys : List β} {g n c : Nat} (h : Own B w e (.slice (some ⟨g, 0, none⟩) n c) xs) (h' : Own B' w e' v ys) (hg : w.grownBy w' v.ownBlock) (hne : e ≠ e') : Own B w' e (.slice (some ⟨g, 0, none⟩) n c) xs := by
  obtain ⟨cs, hcs⟩ := own_heapT h
  exact h.kept hg (Or.inr (own_other h' hcs hne))
theorem Own.other' {α β : Type} [Flat α] [Flat β] {B B' : Nat} {w w' : World} {e e' : TypeId} {v : Value} {xs : List α} {ys : List β} {g n c : Nat} (h : Own B w e v xs) (h' : Own B' w e' (.slice (some ⟨g, 0, none⟩) n c) ys) (hg : w.grownBy w' (some g)) (hne : e' ≠ e) : Own B w' e v xs := by
  obtain ⟨cs, hcs⟩ := own_heapT h'
  exact h.kept hg (Or.inr (fun k => own_other h hcs hne k.symm))
theorem wrap_succ {k : Nat} (h : k ≤ 1048578) : wrap64 ((k : Int) + 1) = (k : Int) + 1 := by unfold wrap64; omega
end Go.Proofs.YtlmhiocmldhkhaaGreatDoor
