/- Patterns that are drawn: the whole pattern. -/
import Derived.Test.YtlmhiocmldhkhaaGreatDoorDrw2
namespace Go.Proofs.YtlmhiocmldhkhaaGreatDoor
open Go.RowKit

theorem DrawV.pv {w wn : World} {g M b : Nat} {pa : Option Addr} {pc : Nat} {sa : Option Addr} {sc : Nat} {rs : List RawP} {p : Pattern} (h : DrawV w wn g M b pa pc sa sc rs p) : PatV wn b pa pc sa sc p :=
  ⟨h.pat.cells.1, h.pat.cells.2.1, h.pat.cells.2.2, h.pat.pat.lie⟩
theorem OwnPat.pieceAt {B : Nat} {w : World} {gp : Nat} {pc : Nat} {sa : Option Addr} {sc : Nat} {rs : List RawP} {p : Pattern} (h : OwnPat B w (some ⟨gp, 0, none⟩) pc sa sc rs p) {i : Nat} (hi : i < p.pieces.length) :
    ∃ ea ec, w.cell? ⟨gp, i * 2, none⟩ = some (.string p.pieces[i].name) ∧ w.cell? ⟨gp, i * 2 + 1, none⟩ = some (.slice ea p.pieces[i].edges.length ec) ∧ Own B w 2 (.slice ea p.pieces[i].edges.length ec) p.pieces[i].edges := by
  obtain ⟨g, ea, ec, h1, _, h2, h3, h4⟩ := h.piece hi
  simp only [Option.some.injEq, Addr.mk.injEq, and_true] at h1
  subst h1
  exact ⟨ea, ec, h2, h3, h4⟩
theorem OwnPat.pieceRaw {B : Nat} {w : World} {gp : Nat} {pc : Nat} {sa : Option Addr} {sc : Nat} {rs : List RawP} {p : Pattern} (h : OwnPat B w (some ⟨gp, 0, none⟩) pc sa sc rs p) {i : Nat} (hr : i < rs.length) (hi : i < p.pieces.length) :
    w.cell? ⟨gp, i * 2 + 1, none⟩ = some (.slice rs[i].a rs[i].n rs[i].c) ∧ rs[i].n = p.pieces[i].edges.length ∧ Own B w 2 (.slice rs[i].a rs[i].n rs[i].c) p.pieces[i].edges := by
  have hp := h.pieces.each i hr hi
  have hA := h.row.at_n
  obtain ⟨cs, hcs, hc⟩ := hA.elem hr
  have hcs : cs = Flat.el rs[i] := hcs
  subst hcs
  have c1 := hc 1 (.slice rs[i].a rs[i].n rs[i].c) rfl
  have hk : Rep.k RawP = 2 := rfl
  rw [hk, Nat.zero_add] at c1
  exact ⟨c1, hp.len, hp.own⟩
/-- The variable gets another pattern. -/
theorem DrawV.assign {w wn w' : World} {g M b B' : Nat} {pa pa' : Option Addr} {pc pc' : Nat} {sa sa' : Option Addr} {sc sc' : Nat} {rs rs' : List RawP} {p q : Pattern} (D : DrawV w wn g M b pa pc sa sc rs p) (hP : OwnPat B' wn pa' pc' sa' sc' rs' q) (hB : w.heap.size + 1 ≤ B')
    (hV : Own (w.heap.size + 1) w' 27 (.slice (some ⟨b, 0, none⟩) 1 1) [(⟨pa', q.pieces.length, pc', sa', q.seams.length, sc', q.openings⟩ : RawT)]) (hg : wn.grownBy w' (some b)) (hgl : g < w.heap.size) (hne : w.heap.size ≠ b) : DrawV w w' g M b pa' pc' sa' sc' rs' q := by
  have hR := cells3_rawT (x := ⟨pa, p.pieces.length, pc, sa, p.seams.length, sc, p.openings⟩) D.pat.var
  exact ⟨D.src.markP hR (by omega) hg, D.res.kept hg (Or.inr (ne_blkP hne)), patW_ty ((hP.base hB).keptV hR hg) hV, upMark D.up hR (Nat.le_succ _) hg⟩
/-- The number of openings is set. -/
theorem DrawV.opens {w wn w' : World} {g M b : Nat} {pa : Option Addr} {pc : Nat} {sa : Option Addr} {sc : Nat} {rs : List RawP} {p : Pattern} {o : Int} (D : DrawV w wn g M b pa pc sa sc rs p) (_hM : 0 ≤ M)
    (hV : Own (w.heap.size + 1) w' 27 (.slice (some ⟨b, 0, none⟩) 3 3) (patC pa p.pieces.length pc sa p.seams.length sc o)) (hg : wn.grownBy w' (some b)) (hgl : g < w.heap.size) (hne : w.heap.size ≠ b) : DrawV w w' g M b pa pc sa sc rs ⟨p.pieces, p.seams, o⟩ := by
  have hP := D.pat.pat.kept hg D.pat.f1 D.pat.f2 D.pat.f3
  exact ⟨D.src.markP D.pat.var (by omega) hg, D.res.kept hg (Or.inr (ne_blkP hne)), ⟨⟨hP.row, hP.pieces, hP.seams, hP.far, hP.two⟩, hV, D.pat.f1, D.pat.f2, D.pat.f3⟩, upMark D.up D.pat.var (Nat.le_succ _) hg⟩
theorem okp_opens {p : Pattern} (h : Okp p) {o : Int} (ho : 0 ≤ o ∧ o ≤ 100) : Okp ⟨p.pieces, p.seams, o⟩ := ⟨h.n1, h.n10, h.name, h.len, h.edge, h.seam, h.once, ho⟩
/-- Pieces as they are drawn, without a seam, are a valid pattern. -/
theorem okp_drawn {ps : List Piece} (h : ∀ x ∈ ps, DrawnP x) (h1 : 1 ≤ ps.length) (h2 : ps.length ≤ 10) : Okp ⟨ps, [], 0⟩ :=
  ⟨h1, h2, fun x hx => (h x hx).name, fun x hx => by have := (h x hx).len; omega, fun x hx n hn => (h x hx).edge n hn, fun s hs => by simp at hs, by simp [ends], by simp⟩
set_option maxRecDepth 100000 in
set_option maxHeartbeats 8000000 in
theorem l08Draw_c (g M : Nat) (w : World) (hS : SrcAt w g (M + 230)) :
    Calls Tryz.prog 15 #[.pointer (some ⟨g, 0, none⟩)] w fun e w' => ∃ (p : Pattern) (pa : Option Addr) (pc : Nat) (sa : Option Addr) (sc : Nat), e = .returned (.agg #[.slice pa p.pieces.length pc, .slice sa p.seams.length sc, .int .i64 p.openings]) ∧ (∃ rs, OwnPat w.heap.size w' pa pc sa sc rs p) ∧ Okp p ∧ SrcAt w' g M ∧ w.grownBy w' (some g) := by
  have hgl := hS.lt
  obtain ⟨w1, hw1⟩ : ∃ w1, w1 = w.alloc (.cells #[.slice none 0 0, .slice none 0 0, .int .i64 0] 27) := ⟨_, rfl⟩
  have hb1 : Below w.heap.size w w1 := by rw [hw1]; exact new_below _ _
  have hs1 : w1.heap.size = w.heap.size + 1 := by rw [hw1]; simp
  have hR1 : Own w.heap.size w1 27 (.slice (some ⟨w.heap.size, 0, none⟩) 1 1) [zeroT] := by rw [hw1]; exact own_rawT w _ zeroT
  obtain ⟨w2, hw2⟩ : ∃ w2, w2 = w1.alloc (.cells #[.slice none 0 0, .slice none 0 0, .int .i64 0] 27) := ⟨_, rfl⟩
  have hb2 : Below w1.heap.size w1 w2 := by rw [hw2]; exact new_below _ _
  have hV2 : Own (w.heap.size + 1) w2 27 (.slice (some ⟨w1.heap.size, 0, none⟩) 1 1) [(⟨none, 0, 0, none, ([] : List Seam).length, 0, 0⟩ : RawT)] := by rw [hw2]; exact (own_rawT w1 _ zeroT).base (by omega)
  obtain ⟨b, hbe, hbs, D⟩ : ∃ b, b = w1.heap.size ∧ w.heap.size < b ∧ DrawV w w2 g (M + 230) b none 0 none 0 [] ⟨[], [], 0⟩ :=
    ⟨_, rfl, by omega, (hS.later hb1).later hb2, hR1.later hb2, bare_pat (World.ownsRow_nil _ _ _ _) hV2, drew_below g (upw hb1 hb2)⟩
  have hwl : Hid ((w.alloc (.cells #[.slice none 0 0, .slice none 0 0, .int .i64 0] 27)).alloc (.cells #[.slice none 0 0, .slice none 0 0, .int .i64 0] 27) = w2) := Lib.hid (by rw [hw2, hw1])
  have hb' : Hid (b = w.heap.size + 1) := Lib.hid (by omega)
  clear hw1 hw2 hb1 hs1 hR1 hb2 hV2 hS hbe
  replace D := Lib.hid D
  go_enter Tryz.func15, Tryz.ntmps15
  go_wp2_with fail
  rw [hwl.out, ← hb'.out]
  clear hwl hb'
  refine (pick_c g (M + 228) 4 w2 (D.out.src.less (by omega)) (by omega) (by omega)).mono ?_
  rintro e w3 ⟨v, rfl, v0, v1, hS3, hg3⟩
  replace D := Lib.hid (D.out.drew hgl hS3 hg3)
  clear hS3 hg3
  obtain ⟨T, hT⟩ : ∃ T : Nat, 1 + v = T := ⟨(1 + v).toNat, by omega⟩
  have hT3 : 1 ≤ T ∧ T ≤ 4 := by omega
  have h3w : IntKind.i64.wrap (1 + v) = (T : Int) := by rw [hT]; exact IntWalk.i64_in _ (by omega)
  go_wp2_with fail
  clear h3w
  go_loopw [4] (fun i wr => ∃ (q : Nat) (ps : List Piece) (pa : Option Addr) (pc : Nat) (rs : List RawP), i = .int .i64 q ∧ q + ps.length = T ∧ Hid (∀ x ∈ ps, DrawnP x) ∧ Hid (DrawV w wr g (M + 100 + 30 * q) b pa pc none 0 rs ⟨ps, [], 0⟩)) (fun i _ => (intOf i).toNat)
  case atStart => exact ⟨T, [], none, 0, [], by first | rfl | (rw [← hT]), by simp, Lib.hid (fun n hn => by simp at hn), Lib.hid (D.out.less (by omega))⟩
  case round =>
    clear D hT v0 v1
    obtain ⟨q, ps, pa, pc, rs, rfl, hq, hps, D⟩ := hrel
    obtain ⟨wo', hwo'⟩ : ∃ wo : World, wo = wr := ⟨_, rfl⟩
    subst hwo'
    cases q with
    | succ q =>
      have hq1 : ((q + 1 : Nat) : Int) - 1 = q := by omega
      have hel : ps.length + 1 ≤ 4294967296 := by omega
      have hrl : rs.length = ps.length := D.out.pat.pat.pieces.len
      have x0 := D.out.pat.cells.1
      replace hq := Lib.hid hq
      replace hrl := Lib.hid hrl
      dsimp only at x0
      go_wp2_with fail
      refine wp_region_heldS (S := (fun w' => w'.cell? ⟨b, 0, none⟩ = some (.slice pa ps.length pc))) 7 (by kernel_rfl) x0 (fun hHeld => ?_)
      obtain ⟨wo, hwo⟩ : ∃ wo, wo = wo'.drew := ⟨_, rfl⟩
      rw [← hwo] at hHeld ⊢
      have hbo : Below wo'.heap.size wo' wo := by rw [hwo]; exact (Below.refl _ _).drew
      replace D := Lib.hid (D.out.later hbo)
      have P0 := Lib.hid D.out.pat
      clear hwo x0 hbo
      refine wpAnyS_take (i := 0) (v := _) rfl (by kernel_rfl) (by kernel_rfl) (by kernel_rfl) (by kernel_rfl) (by kernel_rfl) (fun _ _ _ h => h) (Or.inl ⟨by rfl, (by intro w hSw; (try dsimp only at hSw); go_simp; try with_reducible rfl)⟩) (by assumption) ?_
      go_simp
      refine wpAnyS_take (i := 1) (v := _) rfl (by kernel_rfl) (by kernel_rfl) (by kernel_rfl) (by kernel_rfl) (by kernel_rfl) (fun _ _ _ h => h) (Or.inl ⟨by rfl, (by intro w hSw; (try dsimp only at hSw); go_simp; try with_reducible rfl)⟩) (by assumption) ?_
      go_simp
      refine wpAnyS_take (i := 2) (v := _) rfl (by kernel_rfl) (by kernel_rfl) (by kernel_rfl) (by kernel_rfl) (by kernel_rfl) (fun _ _ _ h => h) (Or.inl ⟨by rfl, (by intro w hSw; (try dsimp only at hSw); go_simp; try with_reducible rfl)⟩) (by assumption) ?_
      go_simp
      refine wpAnyS_step (i := 3) (by kernel_rfl) rfl (fun K hK => ?_)
      go_simp
      (refine (l08New_c g (M + 100 + 30 * q) wo (D.out.src.less (by omega))).mono ?_; rintro e wp ⟨x, ea, ec, rfl, hOe, hx, hS7, hg7⟩; replace D := Lib.hid (D.out.drew hgl hS7 hg7); have hsz7 := hg7.size; clear hS7 hg7)
      refine hK.out _ _ (D.out.pat.cells.1) (fun hHeld => ?_)
      clear hK K
      go_simp
      refine wpAnyS_step (i := 4) (by kernel_rfl) rfl (fun K hK => ?_)
      go_simp
      (obtain ⟨wt, hwt⟩ : ∃ wt, wt = wp.alloc (.cells #[.string x.name, .slice ea x.edges.length ec] 36) := ⟨_, rfl⟩; rw [← hwt]; have hct : Below wp.heap.size wp wt := (by rw [hwt]; exact new_below _ _); have htmp : wt.heap[wp.heap.size]? = some (.cells (Flat.el (⟨x.name, ea, x.edges.length, ec⟩ : RawP)).toArray 36 (0, 0)) := (by rw [hwt]; exact heap_alloc_new _ _); clear hwt; replace D := Lib.hid (D.out.later hct))
      refine hK.out _ _ (D.out.pat.cells.1) (fun hHeld => ?_)
      clear hK K
      go_simp
      have hrw : Own (w.heap.size + 1) wt 36 (.slice pa ps.length pc) rs := D.out.pat.pat.row
      have hvw := D.out.pat.var
      have hBw : w.heap.size + 1 ≤ wt.heap.size := by have := (D.out.res.lt w.heap.size rfl).2; omega
      have hsz8 := hct.size
      refine wpAnyS_step (i := 5) (by kernel_rfl) rfl (fun K hK => ?_)
      (refine cast (if_pos (by rfl)).symm ?_; refine wp_pushTo (.tmp 18) (.tmp 21) 24 rfl (w.heap.size + 1) 36 (.agg #[.string ⟨#[]⟩, .slice none 0 0]) 40 Tryz.underlying24 infoPiece rfl _ rs (⟨x.name, ea, x.edges.length, ec⟩ : RawP) rfl hrw wp.heap.size 1 rfl 36 htmp (by rw [hrl.out]; exact hel) (by decide) hBw ?_; intro g' cap wq hO' hg' hl'; rw [hrl.out] at hO' ⊢; have hVp := hvw.kept hg' (own_apart_ty hvw hrw (by decide)))
      refine hK.out _ _ ((patC_cells hVp).1) (fun hHeld => ?_)
      clear hK K
      go_simp
      refine wpAnyS_take (i := 6) (v := _) rfl (by kernel_rfl) (by kernel_rfl) (by kernel_rfl) (by kernel_rfl) (by kernel_rfl) (fun _ _ _ h => h) (Or.inl ⟨by rfl, (by intro w hSw; (try dsimp only at hSw); go_simp; try with_reducible rfl)⟩) (by assumption) ?_
      go_simp
      refine wpAnyS_last (i := 7) (by kernel_rfl) rfl (by kernel_rfl) (fun K hK => ?_)
      (refine cast (if_pos (by rfl)).symm ?_; refine wp_store_own 24 (.tmp 23) (.tmp 22) rfl (w.heap.size + 1) 27 b 3 3 (patC pa ps.length pc none 0 0 0) 0 0 (⟨.slice (some ⟨g', 0, none⟩) (ps.length + 1) cap, rfl⟩ : OneCell) rfl rfl rfl (by kernel_rfl) rfl hVp (by show 0 < 3; omega) ?_; intro wz hVq hgq)
      refine hK.out _ _ ?_
      clear hK K
      go_simp
      refine wpAnyS_done (by kernel_rfl) ?_ _
      replace hVq : Own (w.heap.size + 1) wz 27 (.slice (some ⟨b, 0, none⟩) 3 3) (patC (some ⟨g', 0, none⟩) (ps.length + 1) cap none 0 0 0) := hVq
      have hP2 := P0.out.pushPiece2 D.out.pat (Nat.le_trans hsz7 hsz8) (r := ⟨x.name, ea, x.edges.length, ec⟩) (x := x) ⟨rfl, rfl, hOe.later hct⟩ hO' hg' hl' hVq hgq
      have hR2 := (D.out.res.kept hg' (own_apart_ty D.out.res hrw (by decide))).kept hgq (Or.inr (ne_blkP (by omega)))
      have hS2 := (D.out.src.markP hrw (by omega) hg').markP hVp (by omega) hgq
      have hu2 := upMark (upMark D.out.up hrw (Nat.le_succ _) hg') hVp (Nat.le_succ _) hgq
      have hps2 : Hid (∀ y ∈ ps ++ [x], DrawnP y) := Lib.hid fun y hy => by
        rcases List.mem_append.1 hy with hy | hy
        · exact hps.out y hy
        · simp only [List.mem_singleton] at hy; rw [hy]; exact hx
      have hq2 : q + (ps ++ [x]).length = T := by have := hq.out; simp; omega
      clear hVq hgq hO' hg' hl' hVp hrw hvw htmp hct D P0 hHeld hOe hx hsz7 hsz8 hBw
      go_wp2_with fail
      go_roundw
      case rel => exact ⟨q, _, _, _, _, by first | rfl | (rw [← hq1]; rfl) | go_num, hq2, hps2, Lib.hid ⟨hS2, hR2, hP2, hu2⟩⟩
      case measure => simp [intOf]
    | zero =>
      have hok := okp_drawn hps.out (by omega) (by omega)
      clear hps hq hT3
      replace hok := Lib.hid hok
      go_wp2_with fail
      refine (pick_c g (M + 98) 9 wo' (D.out.src.less (by omega)) (by omega) (by omega)).mono ?_
      rintro e w4 ⟨v, rfl, v0, v1, hS4, hg4⟩
      replace D := Lib.hid (D.out.drew hgl hS4 hg4)
      clear hS4 hg4
      obtain ⟨T2, rfl⟩ : ∃ T : Nat, v = T := ⟨v.toNat, by omega⟩
      have hT2 : T2 ≤ 8 := by omega
      clear v0 v1
      go_wp2_with fail
      go_loopw [5] (fun i wr => ∃ (q : Nat) (pa : Option Addr) (pc : Nat) (sa : Option Addr) (sc : Nat) (rs : List RawP) (p : Pattern), i = .int .i64 q ∧ q ≤ 8 ∧ Hid (Okp p) ∧ Hid (DrawV w wr g (M + 10 + 10 * q) b pa pc sa sc rs p)) (fun i _ => (intOf i).toNat)
      case atStart => exact ⟨T2, _, _, _, _, _, _, rfl, hT2, hok, Lib.hid (D.out.less (by omega))⟩
      case round =>
        clear D hok
        obtain ⟨q, pa, pc, sa, sc, rs, p, rfl, hq8, hok, D⟩ := hrel
        obtain ⟨wa, hwa⟩ : ∃ wo : World, wo = wr := ⟨_, rfl⟩
        subst hwa
        have hn1 := hok.out.n1
        have hn10 := hok.out.n10
        have hrl : rs.length = p.pieces.length := D.out.pat.pat.pieces.len
        obtain ⟨gp, rfl, hgp1, hgp2⟩ := own_head D.out.pat.pat.row (by omega)
        replace hrl := Lib.hid hrl
        have P0 := Lib.hid D.out.pat
        cases q with
        | succ q =>
          have hq1 : ((q + 1 : Nat) : Int) - 1 = q := by omega
          have x0 := D.out.pat.cells.1
          go_wp2_with fail
          refine (pick_c g (M + 10 + 10 * q + 8) p.pieces.length wa (D.out.src.less (by omega)) (by omega) (by omega)).mono ?_
          rintro e w5 ⟨v, rfl, v0, v1, hS5, hg5⟩
          have hbx : wa.heap.size ≤ w5.heap.size := hg5.size
          replace D := Lib.hid (D.out.drew hgl hS5 hg5)
          clear hS5 hg5 x0
          obtain ⟨i, rfl⟩ : ∃ i : Nat, v = i := ⟨v.toNat, by omega⟩
          have hi : i < p.pieces.length := by omega
          clear v0 v1
          obtain ⟨w6, hw6⟩ : ∃ w6, w6 = w5.alloc (.cells #[.int .i64 (i : Int), .int .i64 0, .int .i64 0, .int .i64 0] 46) := ⟨_, rfl⟩
          have hb6 : Below w5.heap.size w5 w6 := by rw [hw6]; exact new_below _ _
          have V : Own (w.heap.size + 1) w6 46 (.slice (some ⟨w5.heap.size, 0, none⟩) 4 4) (seamC ⟨i, 0, 0, 0⟩) := by rw [hw6]; exact (own_seamC w5 _ ⟨i, 0, 0, 0⟩).base (by have := P0.out.lt; omega)
          replace D := Lib.hid (D.out.later hb6)
          replace V := Lib.hid V
          replace hw6 := Lib.hid hw6
          clear hb6
          have x0 := D.out.pat.cells.1
          have s0 := (seamC_cells V.out).1
          dsimp only at s0
          obtain ⟨ea, ec, _, e1, _⟩ := D.out.pat.pat.pieceAt hi
          have hil := (hok.out.len _ (List.getElem_mem hi))
          have hiI : (i : Int) < p.pieces.length := by omega
          go_wp2_with (rw [← hw6.out])
          refine (pick_c g (M + 10 + 10 * q + 6) p.pieces[i].edges.length w6 (D.out.src.less (by omega)) (by omega) (by omega)).mono ?_
          rintro e w7 ⟨v, rfl, v0, v1, hS7, hg7⟩
          replace D := Lib.hid (D.out.drew hgl hS7 hg7)
          replace V := Lib.hid (V.out.drew (by omega) hg7)
          clear hS7 hg7 x0 s0 e1 hw6
          obtain ⟨j, rfl⟩ : ∃ j : Nat, v = j := ⟨v.toNat, by omega⟩
          have hj : j < p.pieces[i].edges.length := by omega
          clear v0 v1
          go_wp2_with ((with_reducible refine at_st 2 (.tmp 46) (.tmp 45) ?_); refine wpList_store_own rfl 2 (.tmp 46) (.tmp 45) rfl (w.heap.size + 1) 46 w5.heap.size 4 4 (seamC ⟨i, 0, 0, 0⟩) 1 1 (⟨.int .i64 (j : Int), rfl⟩ : OneCell) rfl rfl rfl (by kernel_rfl) rfl V.out (by show 1 < 4; omega) ?_; intro w8 hV hgv; replace hV : Own (w.heap.size + 1) w8 46 (.slice (some ⟨w5.heap.size, 0, none⟩) 4 4) (seamC ⟨i, j, 0, 0⟩) := hV; replace D := Lib.hid (D.out.mark P0.out hbx hgl hgv); replace V := Lib.hid hV; clear hV hgv; have x0 := D.out.pat.cells.1)
          refine (pick_c g (M + 10 + 10 * q + 4) p.pieces.length w8 (D.out.src.less (by omega)) (by omega) (by omega)).mono ?_
          rintro e w9 ⟨v, rfl, v0, v1, hS9, hg9⟩
          replace D := Lib.hid (D.out.drew hgl hS9 hg9)
          replace V := Lib.hid (V.out.drew (by omega) hg9)
          clear hS9 hg9 x0
          obtain ⟨k, rfl⟩ : ∃ k : Nat, v = k := ⟨v.toNat, by omega⟩
          have hk : k < p.pieces.length := by omega
          clear v0 v1
          have hkl := (hok.out.len _ (List.getElem_mem hk))
          have hkI : (k : Int) < p.pieces.length := by omega
          go_wp2_with ((with_reducible refine at_st 2 (.tmp 52) (.tmp 51) ?_); refine wpList_store_own rfl 2 (.tmp 52) (.tmp 51) rfl (w.heap.size + 1) 46 w5.heap.size 4 4 (seamC ⟨i, j, 0, 0⟩) 2 2 (⟨.int .i64 (k : Int), rfl⟩ : OneCell) rfl rfl rfl (by kernel_rfl) rfl V.out (by show 2 < 4; omega) ?_; intro w10 hV hgv; replace hV : Own (w.heap.size + 1) w10 46 (.slice (some ⟨w5.heap.size, 0, none⟩) 4 4) (seamC ⟨i, j, k, 0⟩) := hV; replace D := Lib.hid (D.out.mark P0.out hbx hgl hgv); replace V := Lib.hid hV; clear hV hgv; have x0 := D.out.pat.cells.1; have s2 := (seamC_cells V.out).2.2.1; dsimp only at s2; obtain ⟨eb, ecb, _, e1, _⟩ := D.out.pat.pat.pieceAt hk)
          refine (pick_c g (M + 10 + 10 * q + 2) p.pieces[k].edges.length w10 (D.out.src.less (by omega)) (by omega) (by omega)).mono ?_
          rintro e w11 ⟨v, rfl, v0, v1, hS9, hg9⟩
          replace D := Lib.hid (D.out.drew hgl hS9 hg9)
          replace V := Lib.hid (V.out.drew (by omega) hg9)
          clear hS9 hg9 x0 s2 e1
          obtain ⟨l, rfl⟩ : ∃ l : Nat, v = l := ⟨v.toNat, by omega⟩
          have hl : l < p.pieces[k].edges.length := by omega
          clear v0 v1
          go_wp2_with ((with_reducible refine at_st 2 (.tmp 63) (.tmp 62) ?_); refine wpList_store_own rfl 2 (.tmp 63) (.tmp 62) rfl (w.heap.size + 1) 46 w5.heap.size 4 4 (seamC ⟨i, j, k, 0⟩) 3 3 (⟨.int .i64 (l : Int), rfl⟩ : OneCell) rfl rfl rfl (by kernel_rfl) rfl V.out (by show 3 < 4; omega) ?_; intro w12 hV hgv; replace hV : Own (w.heap.size + 1) w12 46 (.slice (some ⟨w5.heap.size, 0, none⟩) 4 4) (seamC ⟨i, j, k, l⟩) := hV; replace D := Lib.hid (D.out.mark P0.out hbx hgl hgv); replace V := Lib.hid hV; clear hV hgv; obtain ⟨x0, x1, x2⟩ := D.out.pat.cells; obtain ⟨s0, s1, s2, s3⟩ := seamC_cells V.out; dsimp only at s0 s1 s2 s3)
          have htot := (okp_small hok.out).1
          have hsm : hasSeam p ⟨i, j, k, l⟩ = true := by
            have n1 := nEdges_get hi
            have n2 := nEdges_get hk
            simp only [hasSeam, hasEdge, Bool.and_eq_true, inr_true, n1, n2]
            omega
          have hbx12 : wa.heap.size ≤ w12.heap.size := by have h9 : w5.heap.size < w12.heap.size := (V.out.lt _ rfl).2; omega
          refine (specAddSeam_c (w.heap.size + 1) p (some ⟨gp, 0, none⟩) pc sa sc rs ⟨i, j, k, l⟩ w12 D.out.pat.pat (by omega)).mono ?_
          rintro e w13 ⟨pa7, pc7, sa7, sc7, rs7, rfl, hP7, hb13⟩
          replace D := Lib.hid (D.out.later hb13)
          replace V := Lib.hid (V.out.later hb13)
          clear x0 x1 x2 s0 s1 s2 s3
          cases hcl : clash p ⟨i, j, k, l⟩
          · have hA := addRes_ok (okp_iff.2 hok.out) hsm hcl
            have hokQ : Hid (Okp ⟨p.pieces, p.seams ++ [⟨i, j, k, l⟩], p.openings⟩) := Lib.hid ((okp_add hok.out hsm).2 hcl)
            rw [hA] at hP7 ⊢
            dsimp only at hP7 ⊢
            have hl9 : (p.seams ++ [(⟨i, j, k, l⟩ : Seam)]).length = p.seams.length + 1 := by simp
            rw [hl9]
            clear hA hsm hcl
            obtain ⟨w14, hw14⟩ : ∃ w14, w14 = w13.alloc (.cells #[.slice pa7 p.pieces.length pc7, .slice sa7 (p.seams.length + 1) sc7, .int .i64 p.openings] 27) := ⟨_, rfl⟩
            have hb14 : Below w13.heap.size w13 w14 := by rw [hw14]; exact new_below _ _
            have P7 : PatW w12.heap.size w14 w13.heap.size pa7 pc7 sa7 sc7 rs7 ⟨p.pieces, p.seams ++ [⟨i, j, k, l⟩], p.openings⟩ := by rw [hw14]; have h9 := patW_of hP7 hb13.size; dsimp only at h9; rw [hl9] at h9; exact h9
            replace D := Lib.hid (D.out.later hb14)
            replace V := Lib.hid (V.out.later hb14)
            replace P7 := Lib.hid P7
            replace hw14 := Lib.hid hw14
            replace hl9 := Lib.hid hl9
            clear hb13 hb14 hP7
            have hg12 : g < w12.heap.size := by omega
            go_wp2_with (rw [← hw14.out])
            refine (one_c g (M + 10 + 10 * q) 2 w14 (D.out.src.less (by omega)) (by omega) (by omega)).mono ?_
            rintro e w15 ⟨bo, rfl, hS, hg15⟩
            replace D := Lib.hid (D.out.drew hgl hS hg15)
            replace V := Lib.hid (V.out.drew (by omega) hg15)
            replace P7 := Lib.hid (P7.out.drew hg12 hg15)
            clear hS hg15 hw14
            cases bo with
            | false =>
              obtain ⟨y0, y1, y2⟩ := P7.out.cells
              dsimp only at y0 y1 y2
              rw [hl9.out] at y1
              go_wp2_with ((with_reducible refine at_st 27 (.tmp 3) (.tmp 95) ?_); refine wpList_store_own rfl 27 (.tmp 3) (.tmp 95) rfl (w.heap.size + 1) 27 b 1 1 [(⟨some ⟨gp, 0, none⟩, p.pieces.length, pc, sa, p.seams.length, sc, p.openings⟩ : RawT)] 0 _ (⟨pa7, p.pieces.length, pc7, sa7, p.seams.length + 1, sc7, p.openings⟩ : RawT) rfl rfl rfl (by kernel_rfl) rfl (cells3_rawT D.out.pat.var) (by simp) ?_; intro w16 hV3 hg3)
              replace hV3 : Own (w.heap.size + 1) w16 27 (.slice (some ⟨b, 0, none⟩) 1 1) [(⟨pa7, p.pieces.length, pc7, sa7, p.seams.length + 1, sc7, p.openings⟩ : RawT)] := hV3
              rw [← hl9.out] at hV3
              have D2 := D.out.assign P7.out.pat (by omega) hV3 hg3 hgl (by omega)
              clear y0 y1 y2 hV3 hg3 D V P7
              go_roundw
              case rel => exact ⟨q, _, _, _, _, _, _, by first | rfl | (rw [← hq1]; rfl) | go_num, by omega, hokQ, Lib.hid D2⟩
              case measure => simp [intOf]
            | true =>
              obtain ⟨g7, rfl, hg71, hg72⟩ := own_head P7.out.pat.row (by have := P7.out.pat.pieces.len; dsimp only at this; omega)
              have hr7 : rs7.length = p.pieces.length := P7.out.pat.pieces.len
              have hkr : k < rs7.length := by omega
              have hir : i < rs7.length := by omega
              obtain ⟨ck, nk, ok7⟩ := P7.out.pat.pieceRaw hkr hk
              obtain ⟨ci, ni, oi7⟩ := P7.out.pat.pieceRaw hir hi
              dsimp only at ck nk ok7 ci ni oi7
              obtain ⟨gB, hgB, hB1, hB2⟩ := own_head ok7 (by omega)
              obtain ⟨gA, hgA, _, _⟩ := own_head oi7 (by omega)
              have hbk : blk rs7[k] = some gB := by unfold blk; rw [hgB]; rfl
              have hset := Lib.hid (fun (w' : World) (v : Int) hO hg => P7.out.pat.setEdge (i := k) (j := l) (v := v) (w' := w') hk hkr hO hg)
              have hfar := P7.out.f1 _ (List.getElem_mem hkr)
              rw [hbk] at hfar
              have ok8 := ok7
              rw [hgB, nk] at ck ok7
              rw [hgA, ni] at ci oi7
              have cA := oi7.at'.int hj
              rw [Nat.zero_add] at cA
              have hval := hok.out.edge _ (List.getElem_mem hi) _ (List.getElem_mem hj)
              obtain ⟨y0, y1, y2⟩ := P7.out.cells
              dsimp only at y0 y1 y2
              rw [hl9.out] at y1
              obtain ⟨s0, s1, s2, s3⟩ := seamC_cells V.out
              dsimp only at s0 s1 s2 s3
              have hjI : (j : Int) < p.pieces[i].edges.length := by omega
              have hlI : (l : Int) < p.pieces[k].edges.length := by omega
              generalize hvv : p.pieces[i].edges[j] = val at *
              replace hvv := Lib.hid hvv
              go_wp2_with fail
              refine wp_region_heldS (S := (fun w' => w'.cell? ⟨w13.heap.size, 0, none⟩ = some (.slice (some ⟨g7, 0, none⟩) p.pieces.length pc7) ∧ w'.cell? ⟨w5.heap.size, 0, none⟩ = some (.int .i64 ↑i) ∧ w'.cell? ⟨w5.heap.size, 1, none⟩ = some (.int .i64 ↑j) ∧ w'.cell? ⟨w5.heap.size, 2, none⟩ = some (.int .i64 ↑k) ∧ w'.cell? ⟨w5.heap.size, 3, none⟩ = some (.int .i64 ↑l) ∧ w'.cell? ⟨g7, k * 2 + 1, none⟩ = some (.slice (some ⟨gB, 0, none⟩) p.pieces[k].edges.length rs7[k].c) ∧ w'.cell? ⟨g7, i * 2 + 1, none⟩ = some (.slice (some ⟨gA, 0, none⟩) p.pieces[i].edges.length rs7[i].c) ∧ w'.cell? ⟨gA, j, none⟩ = some (.int .i64 val))) 21 (by kernel_rfl) ⟨y0, s0, s1, s2, s3, ck, ci, cA⟩ (fun hHeld => ?_)
              obtain ⟨wo, hwo⟩ : ∃ wo, wo = w15.drew := ⟨_, rfl⟩
              rw [← hwo] at hHeld ⊢
              have hbo : Below w15.heap.size w15 wo := by rw [hwo]; exact (Below.refl _ _).drew
              clear hwo
              refine wpAnyS_take (i := 0) (v := _) rfl (by kernel_rfl) (by kernel_rfl) (by kernel_rfl) (by kernel_rfl) (by kernel_rfl) (fun _ _ _ h => h) (Or.inl ⟨by rfl, (by intro w hSw; (try dsimp only at hSw); go_simp; try with_reducible rfl)⟩) (by assumption) ?_
              go_simp
              refine wpAnyS_take (i := 1) (v := _) rfl (by kernel_rfl) (by kernel_rfl) (by kernel_rfl) (by kernel_rfl) (by kernel_rfl) (fun _ _ _ h => h) (Or.inl ⟨by rfl, (by intro w hSw; (try dsimp only at hSw); go_simp; try with_reducible rfl)⟩) (by assumption) ?_
              go_simp
              refine wpAnyS_take (i := 2) (v := _) rfl (by kernel_rfl) (by kernel_rfl) (by kernel_rfl) (by kernel_rfl) (by kernel_rfl) (fun _ _ _ h => h) (Or.inl ⟨by rfl, (by intro w hSw; (try dsimp only at hSw); go_simp; try with_reducible rfl)⟩) (by assumption) ?_
              go_simp
              refine wpAnyS_take (i := 3) (v := _) rfl (by kernel_rfl) (by kernel_rfl) (by kernel_rfl) (by kernel_rfl) (by kernel_rfl) (fun _ _ _ h => h) (Or.inl ⟨by rfl, (by intro w hSw; (try dsimp only at hSw); go_simp; try with_reducible rfl)⟩) (by assumption) ?_
              go_simp
              refine wpAnyS_take (i := 4) (v := _) rfl (by kernel_rfl) (by kernel_rfl) (by kernel_rfl) (by kernel_rfl) (by kernel_rfl) (fun _ _ _ h => h) (Or.inl ⟨by rfl, (by intro w hSw; (try dsimp only at hSw); go_simp; try with_reducible rfl)⟩) (by assumption) ?_
              go_simp
              refine wpAnyS_take (i := 5) (v := _) rfl (by kernel_rfl) (by kernel_rfl) (by kernel_rfl) (by kernel_rfl) (by kernel_rfl) (fun _ _ _ h => h) (Or.inl ⟨by rfl, (by intro w hSw; (try dsimp only at hSw); go_simp; try with_reducible rfl)⟩) (by assumption) ?_
              go_simp
              refine wpAnyS_take (i := 6) (v := _) rfl (by kernel_rfl) (by kernel_rfl) (by kernel_rfl) (by kernel_rfl) (by kernel_rfl) (fun _ _ _ h => h) (Or.inl ⟨by rfl, (by intro w hSw; (try dsimp only at hSw); go_simp; try with_reducible rfl)⟩) (by assumption) ?_
              go_simp
              refine wpAnyS_take (i := 7) (v := _) rfl (by kernel_rfl) (by kernel_rfl) (by kernel_rfl) (by kernel_rfl) (by kernel_rfl) (fun _ _ _ h => h) (Or.inl ⟨by rfl, (by intro w hSw; (try dsimp only at hSw); go_simp; try with_reducible rfl)⟩) (by assumption) ?_
              go_simp
              refine wpAnyS_take (i := 8) (v := _) rfl (by kernel_rfl) (by kernel_rfl) (by kernel_rfl) (by kernel_rfl) (by kernel_rfl) (fun _ _ _ h => h) (Or.inl ⟨by rfl, (by intro w hSw; (try dsimp only at hSw); go_simp; try with_reducible rfl)⟩) (by assumption) ?_
              go_simp
              refine wpAnyS_take (i := 9) (v := _) rfl (by kernel_rfl) (by kernel_rfl) (by kernel_rfl) (by kernel_rfl) (by kernel_rfl) (fun _ _ _ h => h) (Or.inl ⟨by rfl, (by intro w hSw; (try dsimp only at hSw); go_simp; try with_reducible rfl)⟩) (by assumption) ?_
              go_simp
              refine wpAnyS_take (i := 10) (v := _) rfl (by kernel_rfl) (by kernel_rfl) (by kernel_rfl) (by kernel_rfl) (by kernel_rfl) (fun _ _ _ h => h) (Or.inl ⟨by rfl, (by intro w hSw; (try dsimp only at hSw); go_simp; try with_reducible rfl)⟩) (by assumption) ?_
              go_simp
              refine wpAnyS_take (i := 11) (v := _) rfl (by kernel_rfl) (by kernel_rfl) (by kernel_rfl) (by kernel_rfl) (by kernel_rfl) (fun _ _ _ h => h) (Or.inl ⟨by rfl, (by intro w hSw; (try dsimp only at hSw); go_simp; try with_reducible rfl)⟩) (by assumption) ?_
              go_simp
              refine wpAnyS_take (i := 12) (v := _) rfl (by kernel_rfl) (by kernel_rfl) (by kernel_rfl) (by kernel_rfl) (by kernel_rfl) (fun _ _ _ h => h) (Or.inl ⟨by rfl, (by intro w hSw; (try dsimp only at hSw); go_simp; try with_reducible rfl)⟩) (by assumption) ?_
              go_simp
              refine wpAnyS_take (i := 13) (v := _) rfl (by kernel_rfl) (by kernel_rfl) (by kernel_rfl) (by kernel_rfl) (by kernel_rfl) (fun _ _ _ h => h) (Or.inl ⟨by rfl, (by intro w hSw; (try dsimp only at hSw); go_simp; try with_reducible rfl)⟩) (by assumption) ?_
              go_simp
              refine wpAnyS_take (i := 14) (v := _) rfl (by kernel_rfl) (by kernel_rfl) (by kernel_rfl) (by kernel_rfl) (by kernel_rfl) (fun _ _ _ h => h) (Or.inl ⟨by rfl, (by intro w hSw; (try dsimp only at hSw); go_simp; try with_reducible rfl)⟩) (by assumption) ?_
              go_simp
              refine wpAnyS_take (i := 15) (v := _) rfl (by kernel_rfl) (by kernel_rfl) (by kernel_rfl) (by kernel_rfl) (by kernel_rfl) (fun _ _ _ h => h) (Or.inl ⟨by rfl, (by intro w hSw; (try dsimp only at hSw); go_simp; try with_reducible rfl)⟩) (by assumption) ?_
              go_simp
              refine wpAnyS_take (i := 16) (v := _) rfl (by kernel_rfl) (by kernel_rfl) (by kernel_rfl) (by kernel_rfl) (by kernel_rfl) (fun _ _ _ h => h) (Or.inl ⟨by rfl, (by intro w hSw; (try dsimp only at hSw); go_simp; try with_reducible rfl)⟩) (by assumption) ?_
              go_simp
              refine wpAnyS_take (i := 17) (v := _) rfl (by kernel_rfl) (by kernel_rfl) (by kernel_rfl) (by kernel_rfl) (by kernel_rfl) (fun _ _ _ h => h) (Or.inl ⟨by rfl, (by intro w hSw; (try dsimp only at hSw); go_simp; try with_reducible rfl)⟩) (by assumption) ?_
              go_simp
              refine wpAnyS_take (i := 18) (v := _) rfl (by kernel_rfl) (by kernel_rfl) (by kernel_rfl) (by kernel_rfl) (by kernel_rfl) (fun _ _ _ h => h) (Or.inl ⟨by rfl, (by intro w hSw; (try dsimp only at hSw); go_simp; try with_reducible rfl)⟩) (by assumption) ?_
              go_simp
              refine wpAnyS_take (i := 19) (v := _) rfl (by kernel_rfl) (by kernel_rfl) (by kernel_rfl) (by kernel_rfl) (by kernel_rfl) (fun _ _ _ h => h) (Or.inl ⟨by rfl, (by intro w hSw; (try dsimp only at hSw); go_simp; try with_reducible rfl)⟩) (by assumption) ?_
              go_simp
              refine wpAnyS_take (i := 20) (v := _) rfl (by kernel_rfl) (by kernel_rfl) (by kernel_rfl) (by kernel_rfl) (by kernel_rfl) (fun _ _ _ h => h) (Or.inl ⟨by rfl, (by intro w hSw; (try dsimp only at hSw); go_simp; try with_reducible rfl)⟩) (by assumption) ?_
              go_simp
              have ok9 := ok7.later hbo
              refine wpAnyS_last (i := 21) (by kernel_rfl) rfl (by kernel_rfl) (fun K hK => ?_)
              (refine cast (if_pos (by rfl)).symm ?_; refine wp_store_own 2 (.tmp 94) (.tmp 93) rfl w12.heap.size 2 gB _ _ p.pieces[k].edges l l val rfl (by simp [Flat.k]) rfl (by kernel_rfl) rfl ok9 hl ?_; intro wz hVq hgq)
              refine hK.out _ _ ?_
              clear hK K
              go_simp
              refine wpAnyS_done (by kernel_rfl) ?_ _
              have hokS : Hid (Okp (setEdge ⟨p.pieces, p.seams ++ [⟨i, j, k, l⟩], p.openings⟩ k l val)) := Lib.hid (setEdge_ok hokQ.out hval)
              have hset9 := hset.out
              have hfarV : Apart (Value.slice (some ⟨w13.heap.size, 0, none⟩) 3 3).ownBlock (some gB) := hfar.symm
              have hP9 : OwnPat w12.heap.size wz _ _ _ _ rs7 (setEdge ⟨p.pieces, p.seams ++ [⟨i, j, k, l⟩], p.openings⟩ k l val) := (P7.out.pat.later hbo).setEdge (i := k) (j := l) (v := val) hk hkr (by rw [hgB, nk]; simpa using hVq) (by rw [hbk]; exact hgq)
              have hV9 := (P7.out.var.later hbo).kept hgq hfarV
              obtain ⟨y0, y1, y2⟩ := patC_cells hV9
              dsimp only at y0 y1 y2
              rw [hl9.out] at y1
              have D9 := (D.out.later hbo).mark P0.out (by omega : wa.heap.size ≤ gB) hgl hgq
              have hlS : (setEdge ⟨p.pieces, p.seams ++ [⟨i, j, k, l⟩], p.openings⟩ k l val).pieces.length = p.pieces.length := setEdge_len _ _ _ _
              replace hP9 := Lib.hid hP9
              replace D9 := Lib.hid D9
              clear s0 s1 s2 s3 ck ci cA ok7 oi7 ok8 ok9 hVq hgq hHeld D V P7 hset hset9 hV9 hfar hfarV hbo
              go_wp2_with ((with_reducible refine at_st 27 (.tmp 3) (.tmp 95) ?_); refine wpList_store_own rfl 27 (.tmp 3) (.tmp 95) rfl (w.heap.size + 1) 27 b 1 1 [(⟨some ⟨gp, 0, none⟩, p.pieces.length, pc, sa, p.seams.length, sc, p.openings⟩ : RawT)] 0 _ (⟨some ⟨g7, 0, none⟩, p.pieces.length, pc7, sa7, p.seams.length + 1, sc7, p.openings⟩ : RawT) rfl rfl rfl (by kernel_rfl) rfl (cells3_rawT D9.out.pat.var) (by simp) ?_; intro w16 hV3 hg3)
              replace hV3 : Own (w.heap.size + 1) w16 27 (.slice (some ⟨b, 0, none⟩) 1 1) [(⟨some ⟨g7, 0, none⟩, p.pieces.length, pc7, sa7, p.seams.length + 1, sc7, p.openings⟩ : RawT)] := hV3
              rw [← hl9.out, ← hlS] at hV3
              have D2 := D9.out.assign hP9.out (by omega) hV3 hg3 hgl (by omega)
              clear y0 y1 y2 hV3 hg3 D9 hP9
              go_roundw
              case rel => exact ⟨q, _, _, _, _, _, _, by first | rfl | (rw [← hq1]; rfl) | go_num, by omega, hokS, Lib.hid D2⟩
              case measure => simp [intOf]
          · have hA := addRes_clash (okp_iff.2 hok.out) hsm hcl
            rw [hA] at hP7 ⊢
            dsimp only [zeroPat, List.length_nil] at hP7 ⊢
            clear hA hsm hcl hP7
            obtain ⟨w14, hw14⟩ : ∃ w14, w14 = w13.alloc (.cells #[.slice pa7 0 pc7, .slice sa7 0 sc7, .int .i64 0] 27) := ⟨_, rfl⟩
            have hb14 : Below w13.heap.size w13 w14 := by rw [hw14]; exact new_below _ _
            replace D := Lib.hid (D.out.later hb14)
            replace hw14 := Lib.hid hw14
            go_wp2_with (rw [← hw14.out])
            go_roundw
            case rel => exact ⟨q, _, _, _, _, _, _, by first | rfl | (rw [← hq1]; rfl) | go_num, by omega, hok, Lib.hid (D.out.less (by omega))⟩
            case measure => simp [intOf]
        | zero =>
          have htot := (okp_small hok.out).1
          have hOp := Lib.hid (l08Openings_c p b (some ⟨gp, 0, none⟩) pc sa sc wa D.out.pv (by omega) hok.out)
          have hol := openings_length hok.out
          go_wp2_with fail
          refine hOp.out.mono ?_
          rintro e w5 ⟨v, rfl, hOo, hb5⟩
          obtain ⟨ao, co, rfl, _⟩ := hOo.at
          generalize (openings p).length = no at *
          replace D := Lib.hid (D.out.later hb5)
          clear hOo hb5 hOp
          go_wp2_with ((with_reducible refine at_st 2 (.tmp 98) (.tmp 97) ?_); refine wpList_store_own rfl 2 (.tmp 98) (.tmp 97) rfl (w.heap.size + 1) 27 b 3 3 (patC (some ⟨gp, 0, none⟩) p.pieces.length pc sa p.seams.length sc p.openings) 2 2 (⟨.int .i64 (no : Int), rfl⟩ : OneCell) rfl rfl rfl (by kernel_rfl) rfl D.out.pat.var (by show 2 < 3; omega) ?_; intro w6 hV hgv; replace hV : Own (w.heap.size + 1) w6 27 (.slice (some ⟨b, 0, none⟩) 3 3) (patC (some ⟨gp, 0, none⟩) p.pieces.length pc sa p.seams.length sc (no : Int)) := hV; have D1 := Lib.hid (D.out.opens (by omega) hV hgv hgl (by omega)); clear hV hgv D)
          refine (one_c g (M + 8) 4 w6 (D1.out.src.less (by omega)) (by omega) (by omega)).mono ?_
          rintro e w7 ⟨bo, rfl, hS, hg7⟩
          replace D1 := Lib.hid (D1.out.drew hgl hS hg7)
          clear hS hg7
          cases bo with
          | false =>
            obtain ⟨y0, y1, y2⟩ := D1.out.pat.cells
            dsimp only at y0 y1 y2
            go_wp2_with ((with_reducible refine at_st 27 (.tmp 2) (.tmp 104) ?_); refine wpList_store_own rfl 27 (.tmp 2) (.tmp 104) rfl w.heap.size 27 _ 1 1 [zeroT] 0 _ (⟨some ⟨gp, 0, none⟩, p.pieces.length, pc, sa, p.seams.length, sc, (no : Int)⟩ : RawT) rfl rfl rfl (by kernel_rfl) rfl D1.out.res (by simp) ?_; intro wz hRz hgz)
            obtain ⟨q0, q1, q2⟩ := rawT_cells hRz
            refine bodyPost_ret (v := .agg #[.slice (some ⟨gp, 0, none⟩) p.pieces.length pc, .slice sa p.seams.length sc, .int .i64 (no : Int)]) (by simp [results, Tryz.results15, go_sem, q0, q1, q2]) rfl ?_
            have hPz := (D1.out.pat.pat.keptV D1.out.res hgz).base (Nat.le_succ _)
            have hSz := D1.out.src.markP D1.out.res hgl hgz
            have hUz := upMark D1.out.up D1.out.res (Nat.le_refl _) hgz
            refine ⟨⟨p.pieces, p.seams, (no : Int)⟩, some ⟨gp, 0, none⟩, pc, sa, sc, rfl, ⟨rs, hPz⟩, okp_opens hok.out (by omega), hSz.less (by omega), hUz⟩
          | true =>
            go_wp2_with fail
            refine (pick_c g (M + 6) 4 w7 D1.out.src (by omega) (by omega)).mono ?_
            rintro e w8 ⟨v, rfl, v0, v1, hS, hg8⟩
            replace D1 := Lib.hid (D1.out.drew hgl hS hg8)
            clear hS hg8
            have v4 : v < 4 := by omega
            clear v1
            go_wp2_with (first | ((with_reducible refine at_st 2 (.tmp 103) (.tmp 102) ?_); refine wpList_store_own rfl 2 (.tmp 103) (.tmp 102) rfl (w.heap.size + 1) 27 b 3 3 (patC (some ⟨gp, 0, none⟩) p.pieces.length pc sa p.seams.length sc (no : Int)) 2 2 (⟨.int .i64 v, rfl⟩ : OneCell) rfl rfl rfl (by kernel_rfl) rfl D1.out.pat.var (by show 2 < 3; omega) ?_; intro w9 hV hgv; replace hV : Own (w.heap.size + 1) w9 27 (.slice (some ⟨b, 0, none⟩) 3 3) (patC (some ⟨gp, 0, none⟩) p.pieces.length pc sa p.seams.length sc v) := hV; have D2 := Lib.hid (D1.out.opens (by omega) hV hgv hgl (by omega)); clear hV hgv; obtain ⟨y0, y1, y2⟩ := D2.out.pat.cells; dsimp only at y0 y1 y2) | ((with_reducible refine at_st 27 (.tmp 2) (.tmp 104) ?_); refine wpList_store_own rfl 27 (.tmp 2) (.tmp 104) rfl w.heap.size 27 _ 1 1 [zeroT] 0 _ (⟨some ⟨gp, 0, none⟩, p.pieces.length, pc, sa, p.seams.length, sc, v⟩ : RawT) rfl rfl rfl (by kernel_rfl) rfl D2.out.res (by simp) ?_; intro wz hRz hgz))
            obtain ⟨q0, q1, q2⟩ := rawT_cells hRz
            refine bodyPost_ret (v := .agg #[.slice (some ⟨gp, 0, none⟩) p.pieces.length pc, .slice sa p.seams.length sc, .int .i64 v]) (by simp [results, Tryz.results15, go_sem, q0, q1, q2]) rfl ?_
            have hPz := (D2.out.pat.pat.keptV D2.out.res hgz).base (Nat.le_succ _)
            have hSz := D2.out.src.markP D2.out.res hgl hgz
            have hUz := upMark D2.out.up D2.out.res (Nat.le_refl _) hgz
            refine ⟨⟨p.pieces, p.seams, v⟩, some ⟨gp, 0, none⟩, pc, sa, sc, rfl, ⟨rs, hPz⟩, okp_opens hok.out (by omega), hSz.less (by omega), hUz⟩
end Go.Proofs.YtlmhiocmldhkhaaGreatDoor
