/- Patterns, the reference: a pattern of one's own (l08Own). -/
import Derived.Test.YtlmhiocmldhkhaaGreatDoorPatW
import Derived.Test.YtlmhiocmldhkhaaGreatDoorSmall
import Derived.Test.YtlmhiocmldhkhaaGreatDoorP08y
import Derived.Deep.RegionHeld3
namespace Go.Proofs.YtlmhiocmldhkhaaGreatDoor
open Go.RowKit

/-- A pattern's variable as one element of a row. -/
structure RawT where
  pa : Option Addr
  n : Nat
  pc : Nat
  sa : Option Addr
  m : Nat
  sc : Nat
  o : Int
instance : Flat RawT := ⟨3, by decide, fun x => [.slice x.pa x.n x.pc, .slice x.sa x.m x.sc, .int .i64 x.o], fun _ => rfl, fun x u h => by simp at h; rcases h with h | h | h <;> subst h <;> rfl, fun _ => True⟩
def zeroT : RawT := ⟨none, 0, 0, none, 0, 0, 0⟩
theorem own_rawT (w : World) (t : TypeId) (x : RawT) : Own w.heap.size (w.alloc (.cells #[.slice x.pa x.n x.pc, .slice x.sa x.m x.sc, .int .i64 x.o] t)) t (.slice (some ⟨w.heap.size, 0, none⟩) 1 1) [x] :=
  ⟨rfl, .inr ⟨w.heap.size, 1, #[.slice x.pa x.n x.pc, .slice x.sa x.m x.sc, .int .i64 x.o], rfl, Nat.le_refl _, heap_alloc_new _ _, Nat.le_refl _, by unfold maxLen; omega, rfl, rfl⟩⟩
theorem rawT_cells3 {B : Nat} {w : World} {e : TypeId} {g : Nat} {x : RawT} (h : Own B w e (.slice (some ⟨g, 0, none⟩) 1 1) [x]) : Own B w e (.slice (some ⟨g, 0, none⟩) 3 3) (patC x.pa x.n x.pc x.sa x.m x.sc x.o) := by
  obtain ⟨h1, h2⟩ := h
  refine ⟨rfl, .inr ?_⟩
  rcases h2 with ⟨h2, _⟩ | ⟨g', cap, cur, h3, hb, hg, hn, hm, hs, ht⟩
  · simp at h2
  · simp only [Value.slice.injEq, Option.some.injEq, Addr.mk.injEq, and_true] at h3
    obtain ⟨rfl, -, rfl⟩ := h3
    exact ⟨g, 3, cur, rfl, hb, hg, Nat.le_refl _, by unfold maxLen; omega, hs, ht⟩
theorem cells3_rawT {B : Nat} {w : World} {e : TypeId} {g : Nat} {x : RawT} (h : Own B w e (.slice (some ⟨g, 0, none⟩) 3 3) (patC x.pa x.n x.pc x.sa x.m x.sc x.o)) : Own B w e (.slice (some ⟨g, 0, none⟩) 1 1) [x] := by
  obtain ⟨h1, h2⟩ := h
  refine ⟨rfl, .inr ?_⟩
  rcases h2 with ⟨h2, _⟩ | ⟨g', cap, cur, h3, hb, hg, hn, hm, hs, ht⟩
  · simp at h2
  · simp only [Value.slice.injEq, Option.some.injEq, Addr.mk.injEq, and_true] at h3
    obtain ⟨rfl, -, rfl⟩ := h3
    exact ⟨g, 1, cur, rfl, hb, hg, Nat.le_refl _, by unfold maxLen; omega, hs, ht⟩
theorem rawT_cells {B : Nat} {w : World} {e : TypeId} {g : Nat} {x : RawT} (h : Own B w e (.slice (some ⟨g, 0, none⟩) 1 1) [x]) :
    w.cell? ⟨g, 0, none⟩ = some (.slice x.pa x.n x.pc) ∧ w.cell? ⟨g, 1, none⟩ = some (.slice x.sa x.m x.sc) ∧ w.cell? ⟨g, 2, none⟩ = some (.int .i64 x.o) := patC_cells (rawT_cells3 h)
theorem own_nilcap {α : Type} [Flat α] {B : Nat} {w : World} {e : TypeId} {a : Option Addr} {n c : Nat} {xs : List α} (h : Own B w e (.slice a n c) xs) : a = none → c = 0 := by
  rcases h.cases with ⟨h1, _⟩ | ⟨g, cap, h1⟩
  · simp only [Value.slice.injEq] at h1
    exact fun _ => h1.2.2
  · simp only [Value.slice.injEq] at h1
    rintro rfl; cases h1.1
theorem own_head {α : Type} [Flat α] {B : Nat} {w : World} {e : TypeId} {a : Option Addr} {n c : Nat} {xs : List α} (h : Own B w e (.slice a n c) xs) (hl : 0 < xs.length) : ∃ g, a = some ⟨g, 0, none⟩ ∧ B ≤ g ∧ g < w.heap.size := by
  obtain ⟨g, cap, h1⟩ := h.row hl
  simp only [Value.slice.injEq] at h1
  obtain ⟨rfl, _, _⟩ := h1
  exact ⟨g, rfl, h.lt g rfl⟩
/-- A piece of an owned pattern, cell by cell. -/
theorem OwnPat.piece {B : Nat} {w : World} {pa : Option Addr} {pc : Nat} {sa : Option Addr} {sc : Nat} {rs : List RawP} {p : Pattern} (h : OwnPat B w pa pc sa sc rs p) {i : Nat} (hi : i < p.pieces.length) :
    ∃ g ea ec, pa = some ⟨g, 0, none⟩ ∧ g < w.heap.size ∧ w.cell? ⟨g, i * 2, none⟩ = some (.string p.pieces[i].name) ∧ w.cell? ⟨g, i * 2 + 1, none⟩ = some (.slice ea p.pieces[i].edges.length ec) ∧ Own B w 2 (.slice ea p.pieces[i].edges.length ec) p.pieces[i].edges := by
  have hr : i < rs.length := by rw [h.pieces.len]; exact hi
  obtain ⟨g, rfl, _, hlt⟩ := own_head h.row (by omega)
  have hp := h.pieces.each i hr hi
  have hA := h.row.at_n
  obtain ⟨cs, hcs, hc⟩ := hA.elem hr
  have hcs : cs = Flat.el rs[i] := hcs
  subst hcs
  have c0 := hc 0 (.string rs[i].name) rfl
  have c1 := hc 1 (.slice rs[i].a rs[i].n rs[i].c) rfl
  have hk : Rep.k RawP = 2 := rfl
  rw [hk, Nat.zero_add] at c0 c1
  rw [hp.name] at c0
  have ho := hp.own
  rw [hp.len] at c1 ho
  exact ⟨g, rs[i].a, rs[i].c, rfl, hlt, c0, c1, ho⟩
theorem ne_blkP {a b n c : Nat} (h : a ≠ b) : (Value.slice (some ⟨a, 0, none⟩) n c).ownBlock ≠ some b := fun e => h (Option.some.inj (show some a = some b from e))
theorem take_pattern {p : Pattern} {k : Nat} (hk : k < p.pieces.length) : p.pieces.take (k + 1) = p.pieces.take k ++ [p.pieces[k]] := List.take_succ_eq_append_getElem hk
set_option maxHeartbeats 800000 in
theorem l00Own_c (B : Nat) (a : Option Addr) (xs : List Int) (n c : Nat) (w : World) (hO : Own B w 2 (.slice a n c) xs) (hn : n = xs.length) (hl : xs.length ≤ 1048576) :
    Calls Tryz.prog 81 #[.slice a n c] w fun e w' => ∃ a' c', e = .returned (.slice a' n c') ∧ Own w.heap.size w' 2 (.slice a' n c') xs ∧ Below w.heap.size w w' := by
  subst hn
  have hc := own_nilcap hO
  have hx := hO.at_n
  go_enter Tryz.func81, Tryz.ntmps81
  go_wp2_with (at_builtin; refine wpList_pushall rfl (.tmp 3) (.tmp 4) 32 rfl w.heap.size 2 (.int .i64 0) 8 Tryz.underlying32 infoInt rfl _ [] xs rfl (own_new _ _) _ _ rfl hc (hx.below ((Below.refl _ _).alloc (Nat.le_refl _) _)) (by simp; omega) (by decide) (by simp) ?_; intro v1 w1 hO1 hg1)
  have hO1' : Own w.heap.size w1 2 v1 xs := by simpa using hO1
  obtain ⟨a1, c1, rfl, _⟩ := hO1'.at
  go_ret
  exact ⟨_, _, rfl, hO1', ((Below.refl _ _).alloc (Nat.le_refl _) _).grown hg1 (by simp) (fun k hk => by have : w.heap.size = k := Option.some.inj hk; omega)⟩
/-- What a region leaves: it ends as it should, in a state of R. -/
def PostR (R : Act → World → Prop) (e : Exit) (a : Act) (w : World) : Prop := e = .normal ∧ R a w
theorem PostR.put {R : Act → World → Prop} {c : List PanicEntry} {a a' : Act} {w w' : World} (h : PostR R (.panic c) a w) : PostR R (.panic c) a' w' := absurd h.1 (fun e => by cases e)
/-- Rows of elements of two types lie in two blocks. -/
theorem own_apart_ty {α β : Type} [Flat α] [Flat β] {B B' : Nat} {w : World} {e e' : TypeId} {v v' : Value} {xs : List α} {ys : List β} (h : Own B w e v xs) (h' : Own B' w e' v' ys) (hne : e ≠ e') : Apart v.ownBlock v'.ownBlock := by
  rcases h.2 with ⟨rfl, _⟩ | ⟨g, cap, cur, rfl, _, hg, _⟩
  · exact Or.inl rfl
  · rcases h'.2 with ⟨rfl, _⟩ | ⟨g', cap', cur', rfl, _, hg', _⟩
    · exact apart_none _
    · right; intro e
      have e : g = g' := Option.some.inj e
      subst e
      rw [hg] at hg'
      simp only [Option.some.injEq, Obj.cells.injEq] at hg'
      exact hne hg'.2.1
theorem bare_pat {B : Nat} {w : World} {bx : Nat} {sa : Option Addr} {sc : Nat} {ss : List Seam} {op : Int} (hS : Own B w 46 (.slice sa ss.length sc) ss) (hV : Own B w 27 (.slice (some ⟨bx, 0, none⟩) 1 1) [(⟨none, 0, 0, sa, ss.length, sc, op⟩ : RawT)]) : PatW B w bx none 0 sa sc [] ⟨[], ss, op⟩ :=
  ⟨⟨World.ownsRow_nil _ _ _ _, ⟨rfl, fun i j hi => absurd hi (Nat.not_lt_zero _), fun i h1 => absurd h1 (Nat.not_lt_zero _)⟩, hS, fun r h => by simp at h, apart_none _⟩, rawT_cells3 hV, fun r h => by simp at h, Or.inl rfl, own_apart_ty hS hV (by decide)⟩
set_option maxRecDepth 100000 in
set_option maxHeartbeats 4000000 in
theorem l08Own_c (B0 : Nat) (p : Pattern) (b : Nat) (pa : Option Addr) (pc : Nat) (sa : Option Addr) (sc : Nat) (rs : List RawP) (w : World) (hV : PatV w b pa pc sa sc p) (hO : OwnPat B0 w pa pc sa sc rs p) (hl : totPattern p ≤ 1048576) :
    Calls Tryz.prog 63 #[.pointer (some ⟨b, 0, none⟩)] w fun e w' => ∃ pa' pc' sa' sc' rs', e = .returned (.agg #[.slice pa' p.pieces.length pc', .slice sa' p.seams.length sc', .int .i64 p.openings]) ∧ OwnPat w.heap.size w' pa' pc' sa' sc' rs' p ∧ Below w.heap.size w w' := by
  obtain ⟨w1, hw1⟩ : ∃ w1, w1 = w.alloc (.cells #[.slice none 0 0, .slice none 0 0, .int .i64 0] 27) := ⟨_, rfl⟩
  have hb1 : Below w.heap.size w w1 := by rw [hw1]; exact new_below _ _
  have hR1 : Own w.heap.size w1 27 (.slice (some ⟨w.heap.size, 0, none⟩) 1 1) [zeroT] := by rw [hw1]; exact own_rawT w _ zeroT
  have hs1 : w1.heap.size = w.heap.size + 1 := by rw [hw1]; simp
  have hwl : Hid (w1 = w.alloc (.cells #[.slice none 0 0, .slice none 0 0, .int .i64 0] 27)) := Lib.hid hw1
  clear hw1
  have l1 : p.pieces.length ≤ 1048576 := by unfold totPattern totPieces at hl; omega
  have l2 : p.seams.length ≤ 1048576 := by unfold totPattern at hl; omega
  have l3 : Hid (∀ i (h : i < p.pieces.length), p.pieces[i].edges.length ≤ 1048576) := Lib.hid fun i hi => by
    have := sumN_mem totPiece p.pieces i hi
    unfold totPattern totPieces at hl; unfold totPiece at *; omega
  have d0 := kept_cell hV.c0 hb1
  have d1 := kept_cell hV.c1 hb1
  have d2 := kept_cell hV.c2 hb1
  have hsc := own_nilcap hO.seams
  have hSe := hO.seams.at_n.below hb1
  replace hsc := Lib.hid hsc
  replace hSe := Lib.hid hSe
  go_enter Tryz.func63, Tryz.ntmps63
  go_wp2_with fail
  rw [← hwl.out]
  clear hwl
  obtain ⟨R, hRe⟩ : ∃ R : Act → World → Prop, R = fun a' w' => ∃ (bx : Nat) (sa' : Option Addr) (sc' : Nat) (u5 u6 u7 u8 u9 u10 u11 u12 u13 u14 u15 : Value), a' = ⟨#[.pointer (some ⟨b, 0, none⟩), undef, .pointer (some ⟨w.heap.size, 0, none⟩), .pointer (some ⟨bx, 0, none⟩), undef, u5, u6, u7, u8, u9, u10, u11, u12, u13, u14, u15, undef, undef, undef, undef, undef, undef, undef, undef, undef, undef, undef, undef, undef, undef, undef, undef, undef, undef, undef, undef, undef, undef, undef, undef, undef, undef, undef, undef, undef, undef, undef, undef, undef], []⟩ ∧ PatW (w.heap.size + 1) w' bx none 0 sa' sc' [] ⟨[], p.seams, p.openings⟩ ∧ Own w.heap.size w' 27 (.slice (some ⟨w.heap.size, 0, none⟩) 1 1) [zeroT] ∧ Below w.heap.size w w' := ⟨_, rfl⟩
  replace hRe := Lib.hid hRe
  refine Code.wp_mono (Q := PostR R) ?_ ?_
  rotate_left
  · clear hl hO hV l3
    replace hsc := hsc.out
    replace hSe := hSe.out
    refine wp_region_held_drew (S := (fun w' => w'.cell? ⟨b, 0, none⟩ = some (.slice pa p.pieces.length pc) ∧ w'.cell? ⟨b, 1, none⟩ = some (.slice sa p.seams.length sc) ∧ w'.cell? ⟨b, 2, none⟩ = some (.int .i64 p.openings))) (by kernel_rfl) ⟨d0, d1, d2⟩ (fun hHeld => ?_)
    obtain ⟨wo, hwo⟩ : ∃ wo, wo = w1.drew := ⟨_, rfl⟩
    rw [← hwo] at hHeld ⊢
    have hbo : Below w1.heap.size w1 wo := by rw [hwo]; exact (Below.refl _ _).drew
    have hs0 : w1.heap.size ≤ w.heap.size + 1 := by omega
    have hs2 : w.heap.size + 1 ≤ w1.heap.size := by omega
    clear hs1
    clear hwo
    refine wpAnyH_take (i := 1) (v := _) rfl (by kernel_rfl) (by kernel_rfl) (by kernel_rfl) (fun _ _ _ h => PostR.put h) (Or.inl ⟨by rfl, (by intro w hSw; (try dsimp only at hSw); go_simp; try with_reducible rfl)⟩) (by assumption) ?_
    go_simp
    refine wpAnyH_take (i := 2) (v := _) rfl (by kernel_rfl) (by kernel_rfl) (by kernel_rfl) (fun _ _ _ h => PostR.put h) (Or.inl ⟨by rfl, (by intro w hSw; (try dsimp only at hSw); go_simp; try with_reducible rfl)⟩) (by assumption) ?_
    go_simp
    refine wpAnyH_take (i := 3) (v := _) rfl (by kernel_rfl) (by kernel_rfl) (by kernel_rfl) (fun _ _ _ h => PostR.put h) (Or.inl ⟨by rfl, (by intro w hSw; (try dsimp only at hSw); go_simp; try with_reducible rfl)⟩) (by assumption) ?_
    go_simp
    refine wpAnyH_take (i := 4) (v := _) rfl (by kernel_rfl) (by kernel_rfl) (by kernel_rfl) (fun _ _ _ h => PostR.put h) (Or.inl ⟨by rfl, (by intro w hSw; (try dsimp only at hSw); go_simp; try with_reducible rfl)⟩) (by assumption) ?_
    go_simp
    refine wpAnyH_take (i := 6) (v := _) rfl (by kernel_rfl) (by kernel_rfl) (by kernel_rfl) (fun _ _ _ h => PostR.put h) (Or.inl ⟨by rfl, (by intro w hSw; (try dsimp only at hSw); go_simp; try with_reducible rfl)⟩) (by assumption) ?_
    go_simp
    refine wpAnyH_take (i := 7) (v := _) rfl (by kernel_rfl) (by kernel_rfl) (by kernel_rfl) (fun _ _ _ h => PostR.put h) (Or.inl ⟨by rfl, (by intro w hSw; (try dsimp only at hSw); go_simp; try with_reducible rfl)⟩) (by assumption) ?_
    go_simp
    refine wpAnyH_take (i := 8) (v := _) rfl (by kernel_rfl) (by kernel_rfl) (by kernel_rfl) (fun _ _ _ h => PostR.put h) (Or.inl ⟨by rfl, (by intro w hSw; (try dsimp only at hSw); go_simp; try with_reducible rfl)⟩) (by assumption) ?_
    go_simp
    refine wpAnyH_take (i := 9) (v := _) rfl (by kernel_rfl) (by kernel_rfl) (by kernel_rfl) (fun _ _ _ h => PostR.put h) (Or.inl ⟨by rfl, (by intro w hSw; (try dsimp only at hSw); go_simp; try with_reducible rfl)⟩) (by assumption) ?_
    go_simp
    refine wpAnyH_ready (rs := [0, 11]) (by kernel_rfl) (by simp) ?_
    refine AllReadyH.cons rfl (fun K hK => ?_) (AllReadyH.cons rfl (fun K hK => ?_) AllReadyH.nil)
    · go_simp
      obtain ⟨g0, hg0⟩ : ∃ g0, g0 = wo.heap.size := ⟨_, rfl⟩
      have hg2 : g0 = wo.heap.size := by rw [hg0]
      have L0 := (own_new (α := Seam) wo 46).base (show w.heap.size + 1 ≤ wo.heap.size by have := hbo.size; first | omega | (simp; omega))
      rw [← hg0] at L0
      have hst : Below wo.heap.size wo (wo.alloc (.cells #[] 46)) := new_below _ _
      replace hbo := upw hbo hst
      clear hst
      refine hK.out _ _ (by exact ⟨kept_cell d0 hbo, kept_cell d1 hbo, kept_cell d2 hbo⟩) (fun hHeld => ?_)
      clear hK K
      go_simp
      refine wpAnyH_ready (rs := [5, 11]) (by kernel_rfl) (by simp) ?_
      refine AllReadyH.cons rfl (fun K hK => ?_) (AllReadyH.cons rfl (fun K hK => ?_) AllReadyH.nil)
      · refine cast (if_pos (by rfl)).symm ?_
        refine wp_pushall (.tmp 5) (.tmp 9) 25 rfl (w.heap.size + 1) 46 (.agg #[.int .i64 0, .int .i64 0, .int .i64 0, .int .i64 0]) 32 Tryz.underlying25 infoSeam rfl _ [] p.seams (by rw [hg2]; rfl) L0 sa sc rfl hsc (hSe.below hbo) (by simp; omega) (by decide) (by have := hbo.size; first | omega | (simp; omega)) ?_
        intro v1 wa L1 hgl
        replace L1 : Own (w.heap.size + 1) wa 46 v1 p.seams := by simpa using L1
        obtain ⟨sa', sc', rfl, _⟩ := L1.at
        replace hbo := below_mark hbo L0 (by omega) hgl
        clear hgl L0
        refine hK.out _ _ (by exact ⟨kept_cell d0 hbo, kept_cell d1 hbo, kept_cell d2 hbo⟩) (fun hHeld => ?_)
        clear hK K
        go_simp
        refine wpAnyH_take (i := 10) (v := _) rfl (by kernel_rfl) (by kernel_rfl) (by kernel_rfl) (fun _ _ _ h => PostR.put h) (Or.inl ⟨by rfl, (by intro w hSw; (try dsimp only at hSw); go_simp; try with_reducible rfl)⟩) (by assumption) ?_
        go_simp
        refine wpAnyH_ready (rs := [11]) (by kernel_rfl) (by simp) ?_
        refine AllReadyH.cons rfl (fun K hK => ?_) AllReadyH.nil
        go_simp
        obtain ⟨bx, hbx⟩ : ∃ bx, bx = wa.heap.size := ⟨_, rfl⟩
        have hbx2 : bx = wa.heap.size := by rw [hbx]
        have V0 := (own_rawT wa 27 zeroT).base (show w.heap.size + 1 ≤ wa.heap.size by have := hbo.size; first | omega | (simp; omega))
        rw [← hbx] at V0
        have hst : Below wa.heap.size wa (wa.alloc (.cells #[.slice none 0 0, .slice none 0 0, .int .i64 0] 27)) := new_below _ _
        replace hbo := upw hbo hst
        replace L1 := L1.later hst
        clear hst
        refine hK.out _ _ (by exact ⟨kept_cell d0 hbo, kept_cell d1 hbo, kept_cell d2 hbo⟩) (fun hHeld => ?_)
        clear hK K
        go_simp
        refine wpAnyH_ready (rs := [12]) (by kernel_rfl) (by simp) ?_
        refine AllReadyH.cons rfl (fun K hK => ?_) AllReadyH.nil
        refine cast (if_pos (by rfl)).symm ?_
        refine wp_store_own 27 (.tmp 3) (.tmp 15) rfl (w.heap.size + 1) 27 bx 1 1 [zeroT] 0 _ (⟨none, 0, 0, sa', p.seams.length, sc', p.openings⟩ : RawT) (by rw [hbx2]; rfl) rfl rfl (by kernel_rfl) rfl V0 (by simp) ?_
        intro wq V1 hgv
        replace V1 : Own (w.heap.size + 1) wq 27 (.slice (some ⟨bx, 0, none⟩) 1 1) [(⟨none, 0, 0, sa', p.seams.length, sc', p.openings⟩ : RawT)] := V1
        replace L1 := L1.kept hgv (own_apart_ty L1 V0 (by decide))
        have hbz := below_mark hbo V0 (by omega) hgv
        replace hbo := hbz
        refine hK.out _ _ (by exact ⟨kept_cell d0 hbo, kept_cell d1 hbo, kept_cell d2 hbo⟩) (fun hHeld => ?_)
        clear hK K
        go_simp
        refine wpAnyH_done (by kernel_rfl) ?_ _
        have hb2 := upw hb1 hbz
        exact ⟨rfl, by rw [hRe.out]; exact ⟨bx, sa', sc', _, _, _, _, _, _, _, _, _, _, _, by rw [hbx2], bare_pat L1 V1, hR1.later hbz, hb2⟩⟩
      · go_simp
        obtain ⟨bx, hbx⟩ : ∃ bx, bx = (wo.alloc (.cells #[] 46)).heap.size := ⟨_, rfl⟩
        have hbx2 : bx = wo.heap.size + 1 := by rw [hbx]; simp
        have V0 := (own_rawT (wo.alloc (.cells #[] 46)) 27 zeroT).base (show w.heap.size + 1 ≤ (wo.alloc (.cells #[] 46)).heap.size by have := hbo.size; first | omega | (simp; omega))
        rw [← hbx] at V0
        have hst : Below (wo.alloc (.cells #[] 46)).heap.size (wo.alloc (.cells #[] 46)) ((wo.alloc (.cells #[] 46)).alloc (.cells #[.slice none 0 0, .slice none 0 0, .int .i64 0] 27)) := new_below _ _
        replace hbo := upw hbo hst
        replace L0 := L0.later hst
        clear hst
        refine hK.out _ _ (by exact ⟨kept_cell d0 hbo, kept_cell d1 hbo, kept_cell d2 hbo⟩) (fun hHeld => ?_)
        clear hK K
        go_simp
        refine wpAnyH_ready (rs := [5]) (by kernel_rfl) (by simp) ?_
        refine AllReadyH.cons rfl (fun K hK => ?_) AllReadyH.nil
        refine cast (if_pos (by rfl)).symm ?_
        refine wp_pushall (.tmp 5) (.tmp 9) 25 rfl (w.heap.size + 1) 46 (.agg #[.int .i64 0, .int .i64 0, .int .i64 0, .int .i64 0]) 32 Tryz.underlying25 infoSeam rfl _ [] p.seams (by rw [hg2]; rfl) L0 sa sc rfl hsc (hSe.below hbo) (by simp; omega) (by decide) (by have := hbo.size; first | omega | (simp; omega)) ?_
        intro v1 wa L1 hgl
        replace L1 : Own (w.heap.size + 1) wa 46 v1 p.seams := by simpa using L1
        obtain ⟨sa', sc', rfl, _⟩ := L1.at
        replace hbo := below_mark hbo L0 (by omega) hgl
        replace V0 := V0.kept hgl (own_apart_ty V0 L0 (by decide))
        clear hgl L0
        refine hK.out _ _ (by exact ⟨kept_cell d0 hbo, kept_cell d1 hbo, kept_cell d2 hbo⟩) (fun hHeld => ?_)
        clear hK K
        go_simp
        refine wpAnyH_take (i := 10) (v := _) rfl (by kernel_rfl) (by kernel_rfl) (by kernel_rfl) (fun _ _ _ h => PostR.put h) (Or.inl ⟨by rfl, (by intro w hSw; (try dsimp only at hSw); go_simp; try with_reducible rfl)⟩) (by assumption) ?_
        go_simp
        refine wpAnyH_ready (rs := [12]) (by kernel_rfl) (by simp) ?_
        refine AllReadyH.cons rfl (fun K hK => ?_) AllReadyH.nil
        refine cast (if_pos (by rfl)).symm ?_
        refine wp_store_own 27 (.tmp 3) (.tmp 15) rfl (w.heap.size + 1) 27 bx 1 1 [zeroT] 0 _ (⟨none, 0, 0, sa', p.seams.length, sc', p.openings⟩ : RawT) (by rw [hbx2]; rfl) rfl rfl (by kernel_rfl) rfl V0 (by simp) ?_
        intro wq V1 hgv
        replace V1 : Own (w.heap.size + 1) wq 27 (.slice (some ⟨bx, 0, none⟩) 1 1) [(⟨none, 0, 0, sa', p.seams.length, sc', p.openings⟩ : RawT)] := V1
        replace L1 := L1.kept hgv (own_apart_ty L1 V0 (by decide))
        have hbz := below_mark hbo V0 (by omega) hgv
        replace hbo := hbz
        refine hK.out _ _ (by exact ⟨kept_cell d0 hbo, kept_cell d1 hbo, kept_cell d2 hbo⟩) (fun hHeld => ?_)
        clear hK K
        go_simp
        refine wpAnyH_done (by kernel_rfl) ?_ _
        have hb2 := upw hb1 hbz
        exact ⟨rfl, by rw [hRe.out]; exact ⟨bx, sa', sc', _, _, _, _, _, _, _, _, _, _, _, by rw [hbx2], bare_pat L1 V1, hR1.later hbz, hb2⟩⟩
    · go_simp
      obtain ⟨bx, hbx⟩ : ∃ bx, bx = wo.heap.size := ⟨_, rfl⟩
      have hbx2 : bx = wo.heap.size := by rw [hbx]
      have V0 := (own_rawT wo 27 zeroT).base (show w.heap.size + 1 ≤ wo.heap.size by have := hbo.size; first | omega | (simp; omega))
      rw [← hbx] at V0
      have hst : Below wo.heap.size wo (wo.alloc (.cells #[.slice none 0 0, .slice none 0 0, .int .i64 0] 27)) := new_below _ _
      replace hbo := upw hbo hst
      clear hst
      refine hK.out _ _ (by exact ⟨kept_cell d0 hbo, kept_cell d1 hbo, kept_cell d2 hbo⟩) (fun hHeld => ?_)
      clear hK K
      go_simp
      refine wpAnyH_ready (rs := [0]) (by kernel_rfl) (by simp) ?_
      refine AllReadyH.cons rfl (fun K hK => ?_) AllReadyH.nil
      go_simp
      obtain ⟨g0, hg0⟩ : ∃ g0, g0 = (wo.alloc (.cells #[.slice none 0 0, .slice none 0 0, .int .i64 0] 27)).heap.size := ⟨_, rfl⟩
      have hg2 : g0 = wo.heap.size + 1 := by rw [hg0]; simp
      have L0 := (own_new (α := Seam) (wo.alloc (.cells #[.slice none 0 0, .slice none 0 0, .int .i64 0] 27)) 46).base (show w.heap.size + 1 ≤ (wo.alloc (.cells #[.slice none 0 0, .slice none 0 0, .int .i64 0] 27)).heap.size by have := hbo.size; first | omega | (simp; omega))
      rw [← hg0] at L0
      have hst : Below (wo.alloc (.cells #[.slice none 0 0, .slice none 0 0, .int .i64 0] 27)).heap.size (wo.alloc (.cells #[.slice none 0 0, .slice none 0 0, .int .i64 0] 27)) ((wo.alloc (.cells #[.slice none 0 0, .slice none 0 0, .int .i64 0] 27)).alloc (.cells #[] 46)) := new_below _ _
      replace hbo := upw hbo hst
      replace V0 := V0.later hst
      clear hst
      refine hK.out _ _ (by exact ⟨kept_cell d0 hbo, kept_cell d1 hbo, kept_cell d2 hbo⟩) (fun hHeld => ?_)
      clear hK K
      go_simp
      refine wpAnyH_ready (rs := [5]) (by kernel_rfl) (by simp) ?_
      refine AllReadyH.cons rfl (fun K hK => ?_) AllReadyH.nil
      refine cast (if_pos (by rfl)).symm ?_
      refine wp_pushall (.tmp 5) (.tmp 9) 25 rfl (w.heap.size + 1) 46 (.agg #[.int .i64 0, .int .i64 0, .int .i64 0, .int .i64 0]) 32 Tryz.underlying25 infoSeam rfl _ [] p.seams (by rw [hg2]; rfl) L0 sa sc rfl hsc (hSe.below hbo) (by simp; omega) (by decide) (by have := hbo.size; first | omega | (simp; omega)) ?_
      intro v1 wa L1 hgl
      replace L1 : Own (w.heap.size + 1) wa 46 v1 p.seams := by simpa using L1
      obtain ⟨sa', sc', rfl, _⟩ := L1.at
      replace hbo := below_mark hbo L0 (by omega) hgl
      replace V0 := V0.kept hgl (own_apart_ty V0 L0 (by decide))
      clear hgl L0
      refine hK.out _ _ (by exact ⟨kept_cell d0 hbo, kept_cell d1 hbo, kept_cell d2 hbo⟩) (fun hHeld => ?_)
      clear hK K
      go_simp
      refine wpAnyH_take (i := 10) (v := _) rfl (by kernel_rfl) (by kernel_rfl) (by kernel_rfl) (fun _ _ _ h => PostR.put h) (Or.inl ⟨by rfl, (by intro w hSw; (try dsimp only at hSw); go_simp; try with_reducible rfl)⟩) (by assumption) ?_
      go_simp
      refine wpAnyH_ready (rs := [12]) (by kernel_rfl) (by simp) ?_
      refine AllReadyH.cons rfl (fun K hK => ?_) AllReadyH.nil
      refine cast (if_pos (by rfl)).symm ?_
      refine wp_store_own 27 (.tmp 3) (.tmp 15) rfl (w.heap.size + 1) 27 bx 1 1 [zeroT] 0 _ (⟨none, 0, 0, sa', p.seams.length, sc', p.openings⟩ : RawT) (by rw [hbx2]; rfl) rfl rfl (by kernel_rfl) rfl V0 (by simp) ?_
      intro wq V1 hgv
      replace V1 : Own (w.heap.size + 1) wq 27 (.slice (some ⟨bx, 0, none⟩) 1 1) [(⟨none, 0, 0, sa', p.seams.length, sc', p.openings⟩ : RawT)] := V1
      replace L1 := L1.kept hgv (own_apart_ty L1 V0 (by decide))
      have hbz := below_mark hbo V0 (by omega) hgv
      replace hbo := hbz
      refine hK.out _ _ (by exact ⟨kept_cell d0 hbo, kept_cell d1 hbo, kept_cell d2 hbo⟩) (fun hHeld => ?_)
      clear hK K
      go_simp
      refine wpAnyH_done (by kernel_rfl) ?_ _
      have hb2 := upw hb1 hbz
      exact ⟨rfl, by rw [hRe.out]; exact ⟨bx, sa', sc', _, _, _, _, _, _, _, _, _, _, _, by rw [hbx2], bare_pat L1 V1, hR1.later hbz, hb2⟩⟩
  rintro e a' w2 ⟨rfl, hra⟩
  rw [hRe.out] at hra
  clear hRe
  obtain ⟨bx, sa', sc', u5, u6, u7, u8, u9, u10, u11, u12, u13, u14, u15, rfl, D, hR, hb⟩ := hra
  have hw12 : w1.heap.size ≤ w2.heap.size := by have := D.lt; omega
  clear hsc hSe hR1 d0 d1 d2 hb1 hs1 hw12 w1
  replace hl := Lib.hid hl
  have D0 : PatW (w.heap.size + 1) w2 bx none 0 sa' sc' [] ⟨p.pieces.take 0, p.seams, p.openings⟩ := D
  replace D0 := Lib.hid D0
  replace hR := Lib.hid hR
  clear D
  go_wp2_with fail
  go_loopw [4] (fun i wr => ∃ (k : Nat) (pa' : Option Addr) (pc' : Nat) (rs' : List RawP), k ≤ p.pieces.length ∧ i = .int .i64 k ∧ Hid (PatW (w.heap.size + 1) wr bx pa' pc' sa' sc' rs' ⟨p.pieces.take k, p.seams, p.openings⟩) ∧ Hid (Own w.heap.size wr 27 (.slice (some ⟨w.heap.size, 0, none⟩) 1 1) [zeroT]) ∧ Below w.heap.size w wr) (fun i _ => p.pieces.length - (intOf i).toNat)
  case atStart => exact ⟨0, none, 0, [], Nat.zero_le _, rfl, D0, hR, hb⟩
  case round =>
    clear D0 hR hb
    obtain ⟨k, pa', pc', rs', hk, rfl, D, hR, hb⟩ := hrel
    have hlen : (p.pieces.take k).length = k := by rw [List.length_take]; omega
    by_cases hlt : k < p.pieces.length
    · obtain ⟨g, ea, ec, rfl, hgl, n0, n1, hE⟩ := hO.piece hlt
      have hel := l3.out k hlt
      have htk := Lib.hid (take_pattern hlt)
      have hrl : rs'.length = k := by rw [D.out.pat.pieces.len]; exact hlen
      have hrow : Own (w.heap.size + 1) wr 36 (.slice pa' k pc') rs' := by have := D.out.pat.row; simp only [hlen] at this; exact this
      have x0 : wr.cell? ⟨bx, 0, none⟩ = some (.slice pa' k pc') := by have := D.out.cells.1; simp only [hlen] at this; exact this
      have y0 := kept_cell hV.c0 hb
      have hn0 := n0
      have hn1 := n1
      replace n0 := kept_cell n0 hb
      replace n1 := kept_cell n1 hb
      have hE2 := hE.later hb
      have hbl := (hR.out.lt _ rfl).2
      have hk48 : k + 1 ≤ 4294967296 := by omega
      generalize p.pieces[k] = x at *
      replace hrl := Lib.hid hrl
      replace hlen := Lib.hid hlen
      replace hE2 := Lib.hid hE2
      replace hE := Lib.hid hE
      have hne0 : w.heap.size ≠ bx := by have := D.out.lt; omega
      go_wp2_with fail
      refine wp_region_heldS (S := (fun w' => w'.cell? ⟨bx, 0, none⟩ = some (.slice pa' k pc') ∧ w'.cell? ⟨b, 0, none⟩ = some (.slice (some ⟨g, 0, none⟩) p.pieces.length pc) ∧ w'.cell? ⟨g, k * 2, none⟩ = some (.string x.name) ∧ w'.cell? ⟨g, k * 2 + 1, none⟩ = some (.slice ea x.edges.length ec))) 23 (by kernel_rfl) ⟨x0, y0, n0, n1⟩ (fun hHeld => ?_)
      obtain ⟨wo, hwo⟩ : ∃ wo, wo = wr.drew := ⟨_, rfl⟩
      rw [← hwo] at hHeld ⊢
      have hbo : Below wr.heap.size wr wo := by rw [hwo]; exact (Below.refl _ _).drew
      clear hwo
      refine wpAnyS_take (i := 0) (v := _) rfl (by kernel_rfl) (by kernel_rfl) (by kernel_rfl) (by kernel_rfl) (by kernel_rfl) (fun _ _ _ h => h) (Or.inl ⟨by rfl, (by intro w hSw; (try dsimp only at hSw); go_simp; try with_reducible rfl)⟩) (by assumption) ?_
      go_simp
      refine wpAnyS_take (i := 1) (v := _) rfl (by kernel_rfl) (by kernel_rfl) (by kernel_rfl) (by kernel_rfl) (by kernel_rfl) (fun _ _ _ h => h) (Or.inl ⟨by rfl, (by intro w hSw; (try dsimp only at hSw); go_simp; try with_reducible rfl)⟩) (by assumption) ?_
      go_simp
      refine wpAnyS_take (i := 2) (v := _) rfl (by kernel_rfl) (by kernel_rfl) (by kernel_rfl) (by kernel_rfl) (by kernel_rfl) (fun _ _ _ h => h) (Or.inl ⟨by rfl, (by intro w hSw; (try dsimp only at hSw); go_simp; try with_reducible rfl)⟩) (by assumption) ?_
      go_simp
      refine wpAnyS_take (i := 3) (v := _) rfl (by kernel_rfl) (by kernel_rfl) (by kernel_rfl) (by kernel_rfl) (by kernel_rfl) (fun _ _ _ h => h) (Or.inl ⟨by rfl, (by intro w hSw; (try dsimp only at hSw); go_simp; try with_reducible rfl)⟩) (by assumption) ?_
      go_simp
      refine wpAnyS_take (i := 4) (v := _) rfl (by kernel_rfl) (by kernel_rfl) (by kernel_rfl) (by kernel_rfl) (by kernel_rfl) (fun _ _ _ h => h) (Or.inl ⟨by rfl, (by intro w hSw; (try dsimp only at hSw); go_simp; try with_reducible rfl)⟩) (by assumption) ?_
      go_simp
      refine wpAnyS_take (i := 5) (v := _) rfl (by kernel_rfl) (by kernel_rfl) (by kernel_rfl) (by kernel_rfl) (by kernel_rfl) (fun _ _ _ h => h) (Or.inl ⟨by rfl, (by intro w hSw; (try dsimp only at hSw); go_simp; try with_reducible rfl)⟩) (by assumption) ?_
      go_simp
      refine wpAnyS_take (i := 6) (v := _) rfl (by kernel_rfl) (by kernel_rfl) (by kernel_rfl) (by kernel_rfl) (by kernel_rfl) (fun _ _ _ h => h) (Or.inl ⟨by rfl, (by intro w hSw; (try dsimp only at hSw); go_simp; try with_reducible rfl)⟩) (by assumption) ?_
      go_simp
      refine wpAnyS_take (i := 7) (v := _) rfl (by kernel_rfl) (by kernel_rfl) (by kernel_rfl) (by kernel_rfl) (by kernel_rfl) (fun _ _ _ h => h) (Or.inl ⟨by rfl, (by intro w hSw; (try dsimp only at hSw); go_simp; try with_reducible rfl)⟩) (by assumption) ?_
      go_simp
      refine wpAnyS_take (i := 8) (v := _) rfl (by kernel_rfl) (by kernel_rfl) (by kernel_rfl) (by kernel_rfl) (by kernel_rfl) (fun _ _ _ h => h) (Or.inl ⟨by rfl, (by intro w hSw; (try dsimp only at hSw); go_simp; try with_reducible rfl)⟩) (by assumption) ?_
      go_simp
      refine wpAnyS_take (i := 9) (v := _) rfl (by kernel_rfl) (by kernel_rfl) (by kernel_rfl) (by kernel_rfl) (by kernel_rfl) (fun _ _ _ h => h) (Or.inl ⟨by rfl, (by intro w hSw; (try dsimp only at hSw); go_simp; try with_reducible rfl)⟩) (by assumption) ?_
      go_simp
      refine wpAnyS_take (i := 10) (v := _) rfl (by kernel_rfl) (by kernel_rfl) (by kernel_rfl) (by kernel_rfl) (by kernel_rfl) (fun _ _ _ h => h) (Or.inl ⟨by rfl, (by intro w hSw; (try dsimp only at hSw); go_simp; try with_reducible rfl)⟩) (by assumption) ?_
      go_simp
      refine wpAnyS_take (i := 11) (v := _) rfl (by kernel_rfl) (by kernel_rfl) (by kernel_rfl) (by kernel_rfl) (by kernel_rfl) (fun _ _ _ h => h) (Or.inl ⟨by rfl, (by intro w hSw; (try dsimp only at hSw); go_simp; try with_reducible rfl)⟩) (by assumption) ?_
      go_simp
      refine wpAnyS_take (i := 12) (v := _) rfl (by kernel_rfl) (by kernel_rfl) (by kernel_rfl) (by kernel_rfl) (by kernel_rfl) (fun _ _ _ h => h) (Or.inl ⟨by rfl, (by intro w hSw; (try dsimp only at hSw); go_simp; try with_reducible rfl)⟩) (by assumption) ?_
      go_simp
      refine wpAnyS_take (i := 13) (v := _) rfl (by kernel_rfl) (by kernel_rfl) (by kernel_rfl) (by kernel_rfl) (by kernel_rfl) (fun _ _ _ h => h) (Or.inl ⟨by rfl, (by intro w hSw; (try dsimp only at hSw); go_simp; try with_reducible rfl)⟩) (by assumption) ?_
      go_simp
      refine wpAnyS_take (i := 14) (v := _) rfl (by kernel_rfl) (by kernel_rfl) (by kernel_rfl) (by kernel_rfl) (by kernel_rfl) (fun _ _ _ h => h) (Or.inl ⟨by rfl, (by intro w hSw; (try dsimp only at hSw); go_simp; try with_reducible rfl)⟩) (by assumption) ?_
      go_simp
      refine wpAnyS_take (i := 15) (v := _) rfl (by kernel_rfl) (by kernel_rfl) (by kernel_rfl) (by kernel_rfl) (by kernel_rfl) (fun _ _ _ h => h) (Or.inl ⟨by rfl, (by intro w hSw; (try dsimp only at hSw); go_simp; try with_reducible rfl)⟩) (by assumption) ?_
      go_simp
      refine wpAnyS_take (i := 16) (v := _) rfl (by kernel_rfl) (by kernel_rfl) (by kernel_rfl) (by kernel_rfl) (by kernel_rfl) (fun _ _ _ h => h) (Or.inl ⟨by rfl, (by intro w hSw; (try dsimp only at hSw); go_simp; try with_reducible rfl)⟩) (by assumption) ?_
      go_simp
      refine wpAnyS_take (i := 17) (v := _) rfl (by kernel_rfl) (by kernel_rfl) (by kernel_rfl) (by kernel_rfl) (by kernel_rfl) (fun _ _ _ h => h) (Or.inl ⟨by rfl, (by intro w hSw; (try dsimp only at hSw); go_simp; try with_reducible rfl)⟩) (by assumption) ?_
      go_simp
      refine wpAnyS_step (i := 18) (by kernel_rfl) rfl (fun K hK => ?_)
      go_simp
      (refine (l00Own_c B0 ea x.edges x.edges.length ec wo (hE2.out.later hbo) rfl hel).mono ?_; rintro e wc ⟨ea', ec', rfl, hOe, hbc⟩; have hoc := hbo; replace hbo := upw hbo hbc)
      refine hK.out _ _ (by exact ⟨kept_cell x0 hbo, kept_cell y0 hbo, kept_cell n0 hbo, kept_cell n1 hbo⟩) (fun hHeld => ?_)
      clear hK K
      go_simp
      refine wpAnyS_take (i := 19) (v := _) rfl (by kernel_rfl) (by kernel_rfl) (by kernel_rfl) (by kernel_rfl) (by kernel_rfl) (fun _ _ _ h => h) (Or.inl ⟨by rfl, (by intro w hSw; (try dsimp only at hSw); go_simp; try with_reducible rfl)⟩) (by assumption) ?_
      go_simp
      refine wpAnyS_step (i := 20) (by kernel_rfl) rfl (fun K hK => ?_)
      go_simp
      (obtain ⟨wt, hwt⟩ : ∃ wt, wt = wc.alloc (.cells #[.string x.name, .slice ea' x.edges.length ec'] 36) := ⟨_, rfl⟩; rw [← hwt]; have hct : Below wc.heap.size wc wt := (by rw [hwt]; exact new_below _ _); have htmp : wt.heap[wc.heap.size]? = some (.cells (Flat.el (⟨x.name, ea', x.edges.length, ec'⟩ : RawP)).toArray 36 (0, 0)) := (by rw [hwt]; exact heap_alloc_new _ _); have hsw : wt.heap.size = wc.heap.size + 1 := (by rw [hwt]; simp); clear hwt; replace hbo := upw hbo hct)
      refine hK.out _ _ (by exact ⟨kept_cell x0 hbo, kept_cell y0 hbo, kept_cell n0 hbo, kept_cell n1 hbo⟩) (fun hHeld => ?_)
      clear hK K
      go_simp
      have hrw := hrow.later hbo
      have hbw := hb.size
      have hbw2 := hbo.size
      refine wpAnyS_step (i := 21) (by kernel_rfl) rfl (fun K hK => ?_)
      (refine cast (if_pos (by rfl)).symm ?_; refine wp_pushTo (.tmp 26) (.tmp 45) 24 rfl (w.heap.size + 1) 36 (.agg #[.string ⟨#[]⟩, .slice none 0 0]) 40 Tryz.underlying24 infoPiece rfl _ rs' (⟨x.name, ea', x.edges.length, ec'⟩ : RawP) rfl hrw wc.heap.size 1 rfl 36 htmp (by rw [hrl.out]; exact hk48) (by decide) (by omega) ?_; intro g' cap wp hO' hg' hl'; rw [hrl.out] at hO' ⊢; have hbP := below_mark (upw hb hbo) hrw (by omega) hg'; have hVp := (D.out.var.later hbo).kept hg' (own_apart_ty D.out.var hrow (by decide)); have hx0p : wp.cell? ⟨bx, 0, none⟩ = some (.slice pa' k pc') := (by have := (patC_cells hVp).1; simp only [hlen.out] at this; exact this))
      refine hK.out _ _ (by exact ⟨hx0p, kept_cell hV.c0 hbP, kept_cell hn0 hbP, kept_cell hn1 hbP⟩) (fun hHeld => ?_)
      clear hK K
      go_simp
      refine wpAnyS_take (i := 22) (v := _) rfl (by kernel_rfl) (by kernel_rfl) (by kernel_rfl) (by kernel_rfl) (by kernel_rfl) (fun _ _ _ h => h) (Or.inl ⟨by rfl, (by intro w hSw; (try dsimp only at hSw); go_simp; try with_reducible rfl)⟩) (by assumption) ?_
      go_simp
      refine wpAnyS_last (i := 23) (by kernel_rfl) rfl (by kernel_rfl) (fun K hK => ?_)
      (refine cast (if_pos (by rfl)).symm ?_; refine wp_store_own 24 (.tmp 47) (.tmp 46) rfl (w.heap.size + 1) 27 bx 3 3 (patC pa' (p.pieces.take k).length pc' sa' p.seams.length sc' p.openings) 0 0 (⟨.slice (some ⟨g', 0, none⟩) (k + 1) cap, rfl⟩ : OneCell) rfl rfl rfl (by kernel_rfl) rfl hVp (by show 0 < 3; omega) ?_; intro wq hVq hgq)
      refine hK.out _ _ ?_
      clear hK K
      go_simp
      refine wpAnyS_done (by kernel_rfl) ?_ _
      replace hVq : Own (w.heap.size + 1) wq 27 (.slice (some ⟨bx, 0, none⟩) 3 3) (patC (some ⟨g', 0, none⟩) (k + 1) cap sa' p.seams.length sc' p.openings) := hVq
      have hD2 := ((D.out.later hoc).base (Nat.le_refl _)).pushPiece (r := ⟨x.name, ea', x.edges.length, ec'⟩) (x := x) (upw hbc hct) ⟨rfl, rfl, hOe.later hct⟩ (by simp only [hlen.out]; exact hO') (by simp only [hlen.out]; exact hg') (by simp only [hlen.out]; rw [hsw] at hl'; rw [hsw]; exact hl') (by simp only [hlen.out]; exact hVq) hgq
      rw [← htk.out] at hD2
      have hbq := below_mark hbP hVp (by omega) hgq
      have hRq := ((hR.out.later hbo).kept hg' (own_apart_ty hR.out hrow (by decide))).kept hgq (Or.inr (ne_blkP hne0))
      clear hVq hgq hO' hg' hl' hVp hbP x0 y0 n0 n1 hn0 hn1 hHeld hx0p htmp hsw hOe
      go_wp2_with fail
      go_roundw
      case rel => exact ⟨k + 1, _, _, _, by omega, by go_num, Lib.hid hD2, Lib.hid hRq, hbq⟩
      case measure => simp [intOf]; omega
    · obtain rfl : k = p.pieces.length := by omega
      have y0 := kept_cell hV.c0 hb
      have hD := D.out
      have e : p.pieces.take p.pieces.length = p.pieces := List.take_length
      rw [e] at hD
      obtain ⟨x0, x1, x2⟩ := hD.cells
      have hneR : bx ≠ w.heap.size := by have := hD.lt; omega
      replace hD := Lib.hid hD
      clear D hlen e
      go_wp2_with (refine wpList_store_own rfl 27 (.tmp 2) (.tmp 48) rfl w.heap.size 27 _ 1 1 [zeroT] 0 _ (⟨pa', p.pieces.length, pc', sa', p.seams.length, sc', p.openings⟩ : RawT) rfl rfl rfl (by kernel_rfl) rfl hR.out (by simp) ?_; intro wq hRq hgq)
      obtain ⟨q0, q1, q2⟩ := rawT_cells hRq
      have hbq := below_mark hb hR.out (Nat.le_refl _) hgq
      refine bodyPost_ret (v := .agg #[.slice pa' p.pieces.length pc', .slice sa' p.seams.length sc', .int .i64 p.openings]) (by simp [results, Tryz.results63, go_sem, q0, q1, q2]) rfl ?_
      refine ⟨pa', pc', sa', sc', rfl, ⟨rs', ?_⟩, hbq⟩
      have hP := hD.out.pat
      exact (hP.kept hgq (fun r hr => apart_gt (n := w.heap.size + 1) (fun k hk => (hP.rowlt r hr k hk).1) (fun k hk => by simp at hk; omega)) (apart_gt (n := w.heap.size + 1) (fun k hk => (hP.row.lt k hk).1) (fun k hk => by simp at hk; omega)) (apart_gt (n := w.heap.size + 1) (fun k hk => (hP.seams.lt k hk).1) (fun k hk => by simp at hk; omega))).base (Nat.le_succ _)
end Go.Proofs.YtlmhiocmldhkhaaGreatDoor
