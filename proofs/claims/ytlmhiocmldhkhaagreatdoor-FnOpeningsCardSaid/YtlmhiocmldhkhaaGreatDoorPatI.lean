/- Patterns, the program: AddSeam. -/
import Derived.Test.YtlmhiocmldhkhaaGreatDoorAddMath
import Derived.Test.YtlmhiocmldhkhaaGreatDoorP08x
namespace Go.Proofs.YtlmhiocmldhkhaaGreatDoor
open Go.RowKit

theorem heap_kept {w w' : World} {g : Nat} {o : Obj} (h : w.heap[g]? = some o) (hb : Below w.heap.size w w') : w'.heap[g]? = some o := by
  rw [hb.block g (Array.getElem?_eq_some_iff.1 h).1]; exact h
theorem bare_pat2 {B : Nat} {w : World} {bx n : Nat} {sa : Option Addr} {sc : Nat} {ss : List Seam} {op : Int} (hn : n = ss.length) (hS : Own B w 46 (.slice sa n sc) ss) (hV : Own B w 27 (.slice (some ⟨bx, 0, none⟩) 1 1) [(⟨none, 0, 0, sa, n, sc, op⟩ : RawT)]) : PatW B w bx none 0 sa sc [] ⟨[], ss, op⟩ := by
  subst hn; exact bare_pat hS hV
theorem cloneEdges_c (B : Nat) (a : Option Addr) (n c : Nat) (xs : List Int) (w : World) (hO : Own B w 2 (.slice a n c) xs) (hn : n = xs.length) (hl : xs.length ≤ 1048576) :
    Calls Tryz.prog 27 #[.slice a n c] w fun e w' => ∃ a' c', e = .returned (.slice a' n c') ∧ Own w.heap.size w' 2 (.slice a' n c') xs ∧ Below w.heap.size w w' := by
  have hq := fun w a n c => Lib.run_eql_slice_nil (P := Tryz.prog) w 32 2 a n c 0 0 Tryz.underlying32
  have hO2 := hO
  subst hn
  rcases hO.cases with ⟨hv, rfl⟩ | ⟨g, cap, hv⟩
  · simp only [Value.slice.injEq] at hv
    obtain ⟨rfl, -, rfl⟩ := hv
    go_enter Tryz.func27, Tryz.ntmps27
    go_wp2
    go_ret
    exact ⟨none, 0, rfl, World.ownsRow_nil _ _ _ _, Below.refl _ _⟩
  · simp only [Value.slice.injEq] at hv
    obtain ⟨rfl, -, rfl⟩ := hv
    have hx := hO2.at_n
    go_enter Tryz.func27, Tryz.ntmps27
    go_wp2_with (at_builtin; refine wpList_pushall rfl (.tmp 5) (.tmp 6) 32 rfl w.heap.size 2 (.int .i64 0) 8 Tryz.underlying32 infoInt rfl _ [] xs rfl (own_new _ _) _ _ rfl (fun h => by cases h) (hx.below ((Below.refl _ _).alloc (Nat.le_refl _) _)) (by simp; omega) (by decide) (by simp) ?_; intro v1 w1 hO1 hg1)
    have hO1' : Own w.heap.size w1 2 v1 xs := by simpa using hO1
    obtain ⟨a1, c1, rfl, _⟩ := hO1'.at
    go_ret
    exact ⟨_, _, rfl, hO1', ((Below.refl _ _).alloc (Nat.le_refl _) _).grown hg1 (by simp) (fun k hk => by have : w.heap.size = k := Option.some.inj hk; omega)⟩
set_option maxRecDepth 100000 in
set_option maxHeartbeats 8000000 in
theorem implAddSeam_c (B0 : Nat) (p : Pattern) (pa : Option Addr) (pc : Nat) (sa : Option Addr) (sc : Nat) (rs : List RawP) (s : Seam) (w : World) (hO : OwnPat B0 w pa pc sa sc rs p) (hl : totPattern p ≤ 1048576) :
    Calls Tryz.prog 13 #[.agg #[.slice pa p.pieces.length pc, .slice sa p.seams.length sc, .int .i64 p.openings], .agg #[.int .i64 s.A, .int .i64 s.EdgeA, .int .i64 s.B, .int .i64 s.EdgeB]] w fun e w' => ∃ pa' pc' sa' sc' rs', e = .returned (.tuple #[.agg #[.slice pa' (addRes p s).1.pieces.length pc', .slice sa' (addRes p s).1.seams.length sc', .int .i64 (addRes p s).1.openings], .int .i64 (addRes p s).2]) ∧ OwnPat w.heap.size w' pa' pc' sa' sc' rs' (addRes p s).1 ∧ Below w.heap.size w w' := by
  obtain ⟨w1, hw1, D⟩ := AddV.new (s := s) hO
  replace hw1 := Lib.hid hw1
  have s0 := D.s0
  have s1 := D.s1
  have s2 := D.s2
  have s3 := D.s3
  have p0 := D.pv.c0
  have p1 := D.pv.c1
  have p2 := D.pv.c2
  have hsl : p.seams.length + 1 ≤ 4294967296 := by unfold totPattern at hl; omega
  replace D := Lib.hid D
  cases h1 : okPattern p
  · rw [addRes_bad h1]
    go_enter Tryz.func13, Tryz.ntmps13
    go_wp2_with (first | rw [hw1.out] | (go_at_call 17; refine (implValidPattern_c p _ _ _ _ _ D.out.own.lie hl).mono ?_; rintro e w2 ⟨rfl, hb2⟩; rw [h1]; replace D := Lib.hid (D.out.later hb2); replace s0 := kept_cell s0 hb2; replace s1 := kept_cell s1 hb2; replace s2 := kept_cell s2 hb2; replace s3 := kept_cell s3 hb2; replace p0 := kept_cell p0 hb2; replace p1 := kept_cell p1 hb2; replace p2 := kept_cell p2 hb2; clear hb2) | (go_at_call 25; refine (hasSeam_c p _ _ _ _ s _ D.out.own.lie hl).mono ?_; rintro e w2 ⟨rfl, hb2⟩; rw [h2]; replace D := Lib.hid (D.out.later hb2); replace s0 := kept_cell s0 hb2; replace s1 := kept_cell s1 hb2; replace s2 := kept_cell s2 hb2; replace s3 := kept_cell s3 hb2; replace p0 := kept_cell p0 hb2; replace p1 := kept_cell p1 hb2; replace p2 := kept_cell p2 hb2; clear hb2) | ((with_reducible refine at_st 27 (.tmp 4) (.tmp 13) ?_); refine wpList_store_own rfl 27 (.tmp 4) (.tmp 13) rfl (w.heap.size + 1 + 1) 27 _ 1 1 [zeroT] 0 _ (zeroT : RawT) rfl rfl rfl (by kernel_rfl) rfl D.out.res (by simp) ?_; intro wq hRq hgq))
    obtain ⟨q0, q1, q2⟩ := rawT_cells hRq
    have hbq := below_mark D.out.up D.out.res (by omega) hgq
    refine bodyPost_ret (v := .tuple #[.agg #[.slice none 0 0, .slice none 0 0, .int .i64 0], .int .i64 1]) (by simp [results, Tryz.results13, go_sem, q0, q1, q2, zeroT]) rfl ?_
    clear s0 s1 s2 s3 p0 p1 p2
    exact ⟨none, 0, none, 0, [], rfl, own_zeroPat _ _, hbq⟩
  · cases h2 : hasSeam p s
    · rw [addRes_range h1 h2]
      go_enter Tryz.func13, Tryz.ntmps13
      go_wp2_with (first | rw [hw1.out] | (go_at_call 17; refine (implValidPattern_c p _ _ _ _ _ D.out.own.lie hl).mono ?_; rintro e w2 ⟨rfl, hb2⟩; rw [h1]; replace D := Lib.hid (D.out.later hb2); replace s0 := kept_cell s0 hb2; replace s1 := kept_cell s1 hb2; replace s2 := kept_cell s2 hb2; replace s3 := kept_cell s3 hb2; replace p0 := kept_cell p0 hb2; replace p1 := kept_cell p1 hb2; replace p2 := kept_cell p2 hb2; clear hb2) | (go_at_call 25; refine (hasSeam_c p _ _ _ _ s _ D.out.own.lie hl).mono ?_; rintro e w2 ⟨rfl, hb2⟩; rw [h2]; replace D := Lib.hid (D.out.later hb2); replace s0 := kept_cell s0 hb2; replace s1 := kept_cell s1 hb2; replace s2 := kept_cell s2 hb2; replace s3 := kept_cell s3 hb2; replace p0 := kept_cell p0 hb2; replace p1 := kept_cell p1 hb2; replace p2 := kept_cell p2 hb2; clear hb2) | ((with_reducible refine at_st 27 (.tmp 4) (.tmp 19) ?_); refine wpList_store_own rfl 27 (.tmp 4) (.tmp 19) rfl (w.heap.size + 1 + 1) 27 _ 1 1 [zeroT] 0 _ (zeroT : RawT) rfl rfl rfl (by kernel_rfl) rfl D.out.res (by simp) ?_; intro wq hRq hgq))
      obtain ⟨q0, q1, q2⟩ := rawT_cells hRq
      have hbq := below_mark D.out.up D.out.res (by omega) hgq
      refine bodyPost_ret (v := .tuple #[.agg #[.slice none 0 0, .slice none 0 0, .int .i64 0], .int .i64 2]) (by simp [results, Tryz.results13, go_sem, q0, q1, q2, zeroT]) rfl ?_
      clear s0 s1 s2 s3 p0 p1 p2
      exact ⟨none, 0, none, 0, [], rfl, own_zeroPat _ _, hbq⟩
    · obtain ⟨A, hA⟩ : ∃ A, A = addRes p s := ⟨_, rfl⟩
      rw [← hA]
      replace hA := Lib.hid hA
      go_enter Tryz.func13, Tryz.ntmps13
      go_wp2_with (first | rw [hw1.out] | (go_at_call 17; refine (implValidPattern_c p _ _ _ _ _ D.out.own.lie hl).mono ?_; rintro e w2 ⟨rfl, hb2⟩; rw [h1]; replace D := Lib.hid (D.out.later hb2); replace s0 := kept_cell s0 hb2; replace s1 := kept_cell s1 hb2; replace s2 := kept_cell s2 hb2; replace s3 := kept_cell s3 hb2; replace p0 := kept_cell p0 hb2; replace p1 := kept_cell p1 hb2; replace p2 := kept_cell p2 hb2; clear hb2) | (go_at_call 25; refine (hasSeam_c p _ _ _ _ s _ D.out.own.lie hl).mono ?_; rintro e w2 ⟨rfl, hb2⟩; rw [h2]; replace D := Lib.hid (D.out.later hb2); replace s0 := kept_cell s0 hb2; replace s1 := kept_cell s1 hb2; replace s2 := kept_cell s2 hb2; replace s3 := kept_cell s3 hb2; replace p0 := kept_cell p0 hb2; replace p1 := kept_cell p1 hb2; replace p2 := kept_cell p2 hb2; clear hb2))
      have hsc := own_nilcap D.out.own.seams
      have hSe := D.out.own.seams.at_n
      have hBw : w.heap.size + 1 + 1 < w2.heap.size := (D.out.res.lt (w.heap.size + 1 + 1) rfl).2
      obtain ⟨R, hRe⟩ : ∃ R : Act → World → Prop, R = fun a' w' => ∃ (bx : Nat) (sa' : Option Addr) (sc' : Nat) (u9 u10 u11 u12 u13 u14 u15 u16 u17 u18 u19 u20 u21 u22 u23 u24 u25 u26 u27 u28 : Value), a' = ⟨#[.agg #[.slice pa p.pieces.length pc, .slice sa p.seams.length sc, .int .i64 p.openings], .agg #[.int .i64 s.A, .int .i64 s.EdgeA, .int .i64 s.B, .int .i64 s.EdgeB], .pointer (some ⟨w.heap.size, 0, none⟩), .pointer (some ⟨w.heap.size + 1, 0, none⟩), .pointer (some ⟨w.heap.size + 1 + 1, 0, none⟩), .int .i64 0, .pointer (some ⟨bx, 0, none⟩), undef, undef, u9, u10, u11, u12, u13, u14, u15, u16, u17, u18, u19, u20, u21, u22, u23, u24, u25, u26, u27, u28, undef, undef, undef, undef, undef, undef, undef, undef, undef, undef, undef, undef, undef, undef, undef, undef, undef, undef, undef, undef, undef, undef, undef, undef], []⟩ ∧ PatW w2.heap.size w' bx none 0 sa' sc' [] ⟨[], p.seams ++ [s], p.openings⟩ ∧ Below w2.heap.size w2 w' := ⟨_, rfl⟩
      replace hRe := Lib.hid hRe
      refine Code.wp_mono (Q := PostR R) ?_ ?_
      rotate_left
      · clear hl hO hw1 D h1 h2 hBw
        refine wp_region_held_drew (S := (fun w' => w'.cell? ⟨w.heap.size + 1, 0, none⟩ = some (.int .i64 s.A) ∧ w'.cell? ⟨w.heap.size + 1, 1, none⟩ = some (.int .i64 s.EdgeA) ∧ w'.cell? ⟨w.heap.size + 1, 2, none⟩ = some (.int .i64 s.B) ∧ w'.cell? ⟨w.heap.size + 1, 3, none⟩ = some (.int .i64 s.EdgeB) ∧ w'.cell? ⟨w.heap.size, 0, none⟩ = some (.slice pa p.pieces.length pc) ∧ w'.cell? ⟨w.heap.size, 1, none⟩ = some (.slice sa p.seams.length sc) ∧ w'.cell? ⟨w.heap.size, 2, none⟩ = some (.int .i64 p.openings))) (by kernel_rfl) ⟨s0, s1, s2, s3, p0, p1, p2⟩ (fun hHeld => ?_)
        obtain ⟨wo, hwo⟩ : ∃ wo, wo = w2.drew := ⟨_, rfl⟩
        rw [← hwo] at hHeld ⊢
        have hbo : Below w2.heap.size w2 wo := by rw [hwo]; exact (Below.refl _ _).drew
        have hBc : w2.heap.size ≤ wo.heap.size := hbo.size
        clear hwo
        refine wpAnyH_take (i := 0) (v := _) rfl (by kernel_rfl) (by kernel_rfl) (by kernel_rfl) (fun _ _ _ h => PostR.put h) (Or.inl ⟨by rfl, (by intro w hSw; (try dsimp only at hSw); go_simp; try with_reducible rfl)⟩) (by assumption) ?_
        go_simp
        refine wpAnyH_take (i := 1) (v := _) rfl (by kernel_rfl) (by kernel_rfl) (by kernel_rfl) (fun _ _ _ h => PostR.put h) (Or.inl ⟨by rfl, (by intro w hSw; (try dsimp only at hSw); go_simp; try with_reducible rfl)⟩) (by assumption) ?_
        go_simp
        refine wpAnyH_take (i := 3) (v := _) rfl (by kernel_rfl) (by kernel_rfl) (by kernel_rfl) (fun _ _ _ h => PostR.put h) (Or.inl ⟨by rfl, (by intro w hSw; (try dsimp only at hSw); go_simp; try with_reducible rfl)⟩) (by assumption) ?_
        go_simp
        refine wpAnyH_take (i := 6) (v := _) rfl (by kernel_rfl) (by kernel_rfl) (by kernel_rfl) (fun _ _ _ h => PostR.put h) (Or.inl ⟨by rfl, (by intro w hSw; (try dsimp only at hSw); go_simp; try with_reducible rfl)⟩) (by assumption) ?_
        go_simp
        refine wpAnyH_take (i := 7) (v := _) rfl (by kernel_rfl) (by kernel_rfl) (by kernel_rfl) (fun _ _ _ h => PostR.put h) (Or.inl ⟨by rfl, (by intro w hSw; (try dsimp only at hSw); go_simp; try with_reducible rfl)⟩) (by assumption) ?_
        go_simp
        refine wpAnyH_ready (rs := [2, 4, 9]) (by kernel_rfl) (by simp) ?_
        refine AllReadyH.cons rfl (fun K hK => ?_) (AllReadyH.cons rfl (fun K hK => ?_) (AllReadyH.cons rfl (fun K hK => ?_) AllReadyH.nil))
        · go_simp
          refine (cloneSeams_any sa p.seams sc wo (hSe.below hbo) (by omega) hsc).mono ?_
          rintro e wc1 ⟨v0, rfl, L0, hst⟩
          obtain ⟨a0, c0, rfl, _⟩ := L0.at
          replace L0 := L0.base hBc
          replace hbo := upw hbo hst
          replace hBc := Nat.le_trans hBc hst.size
          clear hst
          refine hK.out _ _ (by exact ⟨kept_cell s0 hbo, kept_cell s1 hbo, kept_cell s2 hbo, kept_cell s3 hbo, kept_cell p0 hbo, kept_cell p1 hbo, kept_cell p2 hbo⟩) (fun hHeld => ?_)
          clear hK K
          go_simp
          refine wpAnyH_ready (rs := [4, 9]) (by kernel_rfl) (by simp) ?_
          refine AllReadyH.cons rfl (fun K hK => ?_) (AllReadyH.cons rfl (fun K hK => ?_) AllReadyH.nil)
          · go_simp
            obtain ⟨wt2, hwt⟩ : ∃ wt, wt = wc1.alloc (.cells #[.int .i64 s.A, .int .i64 s.EdgeA, .int .i64 s.B, .int .i64 s.EdgeB] 46) := ⟨_, rfl⟩
            rw [← hwt]
            have hst : Below wc1.heap.size wc1 wt2 := by rw [hwt]; exact new_below _ _
            have htmp : wt2.heap[wc1.heap.size]? = some (.cells (Flat.el s).toArray 46 (0, 0)) := by rw [hwt]; exact heap_alloc_new _ _
            clear hwt
            replace hbo := upw hbo hst
            replace hBc := Nat.le_trans hBc hst.size
            replace L0 := L0.later hst
            clear hst
            refine hK.out _ _ (by exact ⟨kept_cell s0 hbo, kept_cell s1 hbo, kept_cell s2 hbo, kept_cell s3 hbo, kept_cell p0 hbo, kept_cell p1 hbo, kept_cell p2 hbo⟩) (fun hHeld => ?_)
            clear hK K
            go_simp
            refine wpAnyH_ready (rs := [5, 9]) (by kernel_rfl) (by simp) ?_
            refine AllReadyH.cons rfl (fun K hK => ?_) (AllReadyH.cons rfl (fun K hK => ?_) AllReadyH.nil)
            · refine cast (if_pos (by rfl)).symm ?_
              refine wp_pushTo (.tmp 22) (.tmp 24) 25 rfl w2.heap.size 46 (.agg #[.int .i64 0, .int .i64 0, .int .i64 0, .int .i64 0]) 32 Tryz.underlying25 infoSeam rfl _ p.seams s rfl L0 wc1.heap.size 1 rfl 46 htmp hsl (by decide) hBc ?_
              intro g' cap wp3 L1 hg' hl'
              replace hbo := below_mark hbo L0 (Nat.le_refl _) hg'
              replace hBc := Nat.le_trans hBc hg'.size
              clear htmp L0 hg' hl'
              refine hK.out _ _ (by exact ⟨kept_cell s0 hbo, kept_cell s1 hbo, kept_cell s2 hbo, kept_cell s3 hbo, kept_cell p0 hbo, kept_cell p1 hbo, kept_cell p2 hbo⟩) (fun hHeld => ?_)
              clear hK K
              go_simp
              refine wpAnyH_take (i := 8) (v := _) rfl (by kernel_rfl) (by kernel_rfl) (by kernel_rfl) (fun _ _ _ h => PostR.put h) (Or.inl ⟨by rfl, (by intro w hSw; (try dsimp only at hSw); go_simp; try with_reducible rfl)⟩) (by assumption) ?_
              go_simp
              refine wpAnyH_ready (rs := [9]) (by kernel_rfl) (by simp) ?_
              refine AllReadyH.cons rfl (fun K hK => ?_) AllReadyH.nil
              · go_simp
                obtain ⟨wv4, hwt⟩ : ∃ wt, wt = wp3.alloc (.cells #[.slice none 0 0, .slice none 0 0, .int .i64 0] 27) := ⟨_, rfl⟩
                rw [← hwt]
                have hst : Below wp3.heap.size wp3 wv4 := by rw [hwt]; exact new_below _ _
                have V0 := (own_rawT wp3 27 zeroT).base hBc
                simp only [zeroT] at V0
                change Own _ (wp3.alloc (.cells #[.slice none 0 0, .slice none 0 0, .int .i64 0] 27)) _ _ [zeroT] at V0
                rw [← hwt] at V0
                clear hwt
                replace hbo := upw hbo hst
                replace hBc := Nat.le_trans hBc hst.size
                replace L1 := L1.later hst
                clear hst
                refine hK.out _ _ (by exact ⟨kept_cell s0 hbo, kept_cell s1 hbo, kept_cell s2 hbo, kept_cell s3 hbo, kept_cell p0 hbo, kept_cell p1 hbo, kept_cell p2 hbo⟩) (fun hHeld => ?_)
                clear hK K
                go_simp
                refine wpAnyH_ready (rs := [10]) (by kernel_rfl) (by simp) ?_
                refine AllReadyH.cons rfl (fun K hK => ?_) AllReadyH.nil
                refine cast (if_pos (by rfl)).symm ?_
                refine wp_store_own 27 (.tmp 6) (.tmp 28) rfl w2.heap.size 27 wp3.heap.size 1 1 [zeroT] 0 _ (⟨none, 0, 0, some ⟨g', 0, none⟩, p.seams.length + 1, cap, p.openings⟩ : RawT) rfl rfl rfl (by kernel_rfl) rfl V0 (by simp) ?_
                intro wz V1 hgv
                replace V1 : Own w2.heap.size wz 27 (.slice (some ⟨wp3.heap.size, 0, none⟩) 1 1) [(⟨none, 0, 0, some ⟨g', 0, none⟩, p.seams.length + 1, cap, p.openings⟩ : RawT)] := V1
                replace L1 := L1.kept hgv (own_apart_ty L1 V0 (by decide))
                replace hbo := below_mark hbo V0 (Nat.le_refl _) hgv
                refine hK.out _ _ (by exact ⟨kept_cell s0 hbo, kept_cell s1 hbo, kept_cell s2 hbo, kept_cell s3 hbo, kept_cell p0 hbo, kept_cell p1 hbo, kept_cell p2 hbo⟩) (fun hHeld => ?_)
                clear hK K
                go_simp
                refine wpAnyH_done (by kernel_rfl) ?_ _
                exact ⟨rfl, by rw [hRe.out]; exact ⟨wp3.heap.size, some ⟨g', 0, none⟩, cap, _, _, _, _, _, _, _, _, _, _, _, _, _, _, _, _, _, _, _, _, rfl, bare_pat2 (by simp) L1 V1, hbo⟩⟩
            · go_simp
              obtain ⟨wv5, hwt⟩ : ∃ wt, wt = wt2.alloc (.cells #[.slice none 0 0, .slice none 0 0, .int .i64 0] 27) := ⟨_, rfl⟩
              rw [← hwt]
              have hst : Below wt2.heap.size wt2 wv5 := by rw [hwt]; exact new_below _ _
              have V0 := (own_rawT wt2 27 zeroT).base hBc
              simp only [zeroT] at V0
              change Own _ (wt2.alloc (.cells #[.slice none 0 0, .slice none 0 0, .int .i64 0] 27)) _ _ [zeroT] at V0
              rw [← hwt] at V0
              clear hwt
              replace hbo := upw hbo hst
              replace hBc := Nat.le_trans hBc hst.size
              replace L0 := L0.later hst
              replace htmp := heap_kept htmp hst
              clear hst
              refine hK.out _ _ (by exact ⟨kept_cell s0 hbo, kept_cell s1 hbo, kept_cell s2 hbo, kept_cell s3 hbo, kept_cell p0 hbo, kept_cell p1 hbo, kept_cell p2 hbo⟩) (fun hHeld => ?_)
              clear hK K
              go_simp
              refine wpAnyH_ready (rs := [5]) (by kernel_rfl) (by simp) ?_
              refine AllReadyH.cons rfl (fun K hK => ?_) AllReadyH.nil
              · refine cast (if_pos (by rfl)).symm ?_
                refine wp_pushTo (.tmp 22) (.tmp 24) 25 rfl w2.heap.size 46 (.agg #[.int .i64 0, .int .i64 0, .int .i64 0, .int .i64 0]) 32 Tryz.underlying25 infoSeam rfl _ p.seams s rfl L0 wc1.heap.size 1 rfl 46 htmp hsl (by decide) hBc ?_
                intro g' cap wp6 L1 hg' hl'
                replace hbo := below_mark hbo L0 (Nat.le_refl _) hg'
                replace hBc := Nat.le_trans hBc hg'.size
                replace V0 := V0.kept hg' (own_apart_ty V0 L0 (by decide))
                clear htmp L0 hg' hl'
                refine hK.out _ _ (by exact ⟨kept_cell s0 hbo, kept_cell s1 hbo, kept_cell s2 hbo, kept_cell s3 hbo, kept_cell p0 hbo, kept_cell p1 hbo, kept_cell p2 hbo⟩) (fun hHeld => ?_)
                clear hK K
                go_simp
                refine wpAnyH_take (i := 8) (v := _) rfl (by kernel_rfl) (by kernel_rfl) (by kernel_rfl) (fun _ _ _ h => PostR.put h) (Or.inl ⟨by rfl, (by intro w hSw; (try dsimp only at hSw); go_simp; try with_reducible rfl)⟩) (by assumption) ?_
                go_simp
                refine wpAnyH_ready (rs := [10]) (by kernel_rfl) (by simp) ?_
                refine AllReadyH.cons rfl (fun K hK => ?_) AllReadyH.nil
                refine cast (if_pos (by rfl)).symm ?_
                refine wp_store_own 27 (.tmp 6) (.tmp 28) rfl w2.heap.size 27 wt2.heap.size 1 1 [zeroT] 0 _ (⟨none, 0, 0, some ⟨g', 0, none⟩, p.seams.length + 1, cap, p.openings⟩ : RawT) rfl rfl rfl (by kernel_rfl) rfl V0 (by simp) ?_
                intro wz V1 hgv
                replace V1 : Own w2.heap.size wz 27 (.slice (some ⟨wt2.heap.size, 0, none⟩) 1 1) [(⟨none, 0, 0, some ⟨g', 0, none⟩, p.seams.length + 1, cap, p.openings⟩ : RawT)] := V1
                replace L1 := L1.kept hgv (own_apart_ty L1 V0 (by decide))
                replace hbo := below_mark hbo V0 (Nat.le_refl _) hgv
                refine hK.out _ _ (by exact ⟨kept_cell s0 hbo, kept_cell s1 hbo, kept_cell s2 hbo, kept_cell s3 hbo, kept_cell p0 hbo, kept_cell p1 hbo, kept_cell p2 hbo⟩) (fun hHeld => ?_)
                clear hK K
                go_simp
                refine wpAnyH_done (by kernel_rfl) ?_ _
                exact ⟨rfl, by rw [hRe.out]; exact ⟨wt2.heap.size, some ⟨g', 0, none⟩, cap, _, _, _, _, _, _, _, _, _, _, _, _, _, _, _, _, _, _, _, _, rfl, bare_pat2 (by simp) L1 V1, hbo⟩⟩
          · go_simp
            obtain ⟨wv7, hwt⟩ : ∃ wt, wt = wc1.alloc (.cells #[.slice none 0 0, .slice none 0 0, .int .i64 0] 27) := ⟨_, rfl⟩
            rw [← hwt]
            have hst : Below wc1.heap.size wc1 wv7 := by rw [hwt]; exact new_below _ _
            have V0 := (own_rawT wc1 27 zeroT).base hBc
            simp only [zeroT] at V0
            change Own _ (wc1.alloc (.cells #[.slice none 0 0, .slice none 0 0, .int .i64 0] 27)) _ _ [zeroT] at V0
            rw [← hwt] at V0
            clear hwt
            replace hbo := upw hbo hst
            replace hBc := Nat.le_trans hBc hst.size
            replace L0 := L0.later hst
            clear hst
            refine hK.out _ _ (by exact ⟨kept_cell s0 hbo, kept_cell s1 hbo, kept_cell s2 hbo, kept_cell s3 hbo, kept_cell p0 hbo, kept_cell p1 hbo, kept_cell p2 hbo⟩) (fun hHeld => ?_)
            clear hK K
            go_simp
            refine wpAnyH_ready (rs := [4]) (by kernel_rfl) (by simp) ?_
            refine AllReadyH.cons rfl (fun K hK => ?_) AllReadyH.nil
            · go_simp
              obtain ⟨wt8, hwt⟩ : ∃ wt, wt = wv7.alloc (.cells #[.int .i64 s.A, .int .i64 s.EdgeA, .int .i64 s.B, .int .i64 s.EdgeB] 46) := ⟨_, rfl⟩
              rw [← hwt]
              have hst : Below wv7.heap.size wv7 wt8 := by rw [hwt]; exact new_below _ _
              have htmp : wt8.heap[wv7.heap.size]? = some (.cells (Flat.el s).toArray 46 (0, 0)) := by rw [hwt]; exact heap_alloc_new _ _
              clear hwt
              replace hbo := upw hbo hst
              replace hBc := Nat.le_trans hBc hst.size
              replace V0 := V0.later hst
              replace L0 := L0.later hst
              clear hst
              refine hK.out _ _ (by exact ⟨kept_cell s0 hbo, kept_cell s1 hbo, kept_cell s2 hbo, kept_cell s3 hbo, kept_cell p0 hbo, kept_cell p1 hbo, kept_cell p2 hbo⟩) (fun hHeld => ?_)
              clear hK K
              go_simp
              refine wpAnyH_ready (rs := [5]) (by kernel_rfl) (by simp) ?_
              refine AllReadyH.cons rfl (fun K hK => ?_) AllReadyH.nil
              · refine cast (if_pos (by rfl)).symm ?_
                refine wp_pushTo (.tmp 22) (.tmp 24) 25 rfl w2.heap.size 46 (.agg #[.int .i64 0, .int .i64 0, .int .i64 0, .int .i64 0]) 32 Tryz.underlying25 infoSeam rfl _ p.seams s rfl L0 wv7.heap.size 1 rfl 46 htmp hsl (by decide) hBc ?_
                intro g' cap wp9 L1 hg' hl'
                replace hbo := below_mark hbo L0 (Nat.le_refl _) hg'
                replace hBc := Nat.le_trans hBc hg'.size
                replace V0 := V0.kept hg' (own_apart_ty V0 L0 (by decide))
                clear htmp L0 hg' hl'
                refine hK.out _ _ (by exact ⟨kept_cell s0 hbo, kept_cell s1 hbo, kept_cell s2 hbo, kept_cell s3 hbo, kept_cell p0 hbo, kept_cell p1 hbo, kept_cell p2 hbo⟩) (fun hHeld => ?_)
                clear hK K
                go_simp
                refine wpAnyH_take (i := 8) (v := _) rfl (by kernel_rfl) (by kernel_rfl) (by kernel_rfl) (fun _ _ _ h => PostR.put h) (Or.inl ⟨by rfl, (by intro w hSw; (try dsimp only at hSw); go_simp; try with_reducible rfl)⟩) (by assumption) ?_
                go_simp
                refine wpAnyH_ready (rs := [10]) (by kernel_rfl) (by simp) ?_
                refine AllReadyH.cons rfl (fun K hK => ?_) AllReadyH.nil
                refine cast (if_pos (by rfl)).symm ?_
                refine wp_store_own 27 (.tmp 6) (.tmp 28) rfl w2.heap.size 27 wc1.heap.size 1 1 [zeroT] 0 _ (⟨none, 0, 0, some ⟨g', 0, none⟩, p.seams.length + 1, cap, p.openings⟩ : RawT) rfl rfl rfl (by kernel_rfl) rfl V0 (by simp) ?_
                intro wz V1 hgv
                replace V1 : Own w2.heap.size wz 27 (.slice (some ⟨wc1.heap.size, 0, none⟩) 1 1) [(⟨none, 0, 0, some ⟨g', 0, none⟩, p.seams.length + 1, cap, p.openings⟩ : RawT)] := V1
                replace L1 := L1.kept hgv (own_apart_ty L1 V0 (by decide))
                replace hbo := below_mark hbo V0 (Nat.le_refl _) hgv
                refine hK.out _ _ (by exact ⟨kept_cell s0 hbo, kept_cell s1 hbo, kept_cell s2 hbo, kept_cell s3 hbo, kept_cell p0 hbo, kept_cell p1 hbo, kept_cell p2 hbo⟩) (fun hHeld => ?_)
                clear hK K
                go_simp
                refine wpAnyH_done (by kernel_rfl) ?_ _
                exact ⟨rfl, by rw [hRe.out]; exact ⟨wc1.heap.size, some ⟨g', 0, none⟩, cap, _, _, _, _, _, _, _, _, _, _, _, _, _, _, _, _, _, _, _, _, rfl, bare_pat2 (by simp) L1 V1, hbo⟩⟩
        · go_simp
          obtain ⟨wt10, hwt⟩ : ∃ wt, wt = wo.alloc (.cells #[.int .i64 s.A, .int .i64 s.EdgeA, .int .i64 s.B, .int .i64 s.EdgeB] 46) := ⟨_, rfl⟩
          rw [← hwt]
          have hst : Below wo.heap.size wo wt10 := by rw [hwt]; exact new_below _ _
          have htmp : wt10.heap[wo.heap.size]? = some (.cells (Flat.el s).toArray 46 (0, 0)) := by rw [hwt]; exact heap_alloc_new _ _
          clear hwt
          replace hbo := upw hbo hst
          replace hBc := Nat.le_trans hBc hst.size
          clear hst
          refine hK.out _ _ (by exact ⟨kept_cell s0 hbo, kept_cell s1 hbo, kept_cell s2 hbo, kept_cell s3 hbo, kept_cell p0 hbo, kept_cell p1 hbo, kept_cell p2 hbo⟩) (fun hHeld => ?_)
          clear hK K
          go_simp
          refine wpAnyH_ready (rs := [2, 9]) (by kernel_rfl) (by simp) ?_
          refine AllReadyH.cons rfl (fun K hK => ?_) (AllReadyH.cons rfl (fun K hK => ?_) AllReadyH.nil)
          · go_simp
            refine (cloneSeams_any sa p.seams sc wt10 (hSe.below hbo) (by omega) hsc).mono ?_
            rintro e wc11 ⟨v0, rfl, L0, hst⟩
            obtain ⟨a0, c0, rfl, _⟩ := L0.at
            replace L0 := L0.base hBc
            replace hbo := upw hbo hst
            replace hBc := Nat.le_trans hBc hst.size
            replace htmp := heap_kept htmp hst
            clear hst
            refine hK.out _ _ (by exact ⟨kept_cell s0 hbo, kept_cell s1 hbo, kept_cell s2 hbo, kept_cell s3 hbo, kept_cell p0 hbo, kept_cell p1 hbo, kept_cell p2 hbo⟩) (fun hHeld => ?_)
            clear hK K
            go_simp
            refine wpAnyH_ready (rs := [5, 9]) (by kernel_rfl) (by simp) ?_
            refine AllReadyH.cons rfl (fun K hK => ?_) (AllReadyH.cons rfl (fun K hK => ?_) AllReadyH.nil)
            · refine cast (if_pos (by rfl)).symm ?_
              refine wp_pushTo (.tmp 22) (.tmp 24) 25 rfl w2.heap.size 46 (.agg #[.int .i64 0, .int .i64 0, .int .i64 0, .int .i64 0]) 32 Tryz.underlying25 infoSeam rfl _ p.seams s rfl L0 wo.heap.size 1 rfl 46 htmp hsl (by decide) hBc ?_
              intro g' cap wp12 L1 hg' hl'
              replace hbo := below_mark hbo L0 (Nat.le_refl _) hg'
              replace hBc := Nat.le_trans hBc hg'.size
              clear htmp L0 hg' hl'
              refine hK.out _ _ (by exact ⟨kept_cell s0 hbo, kept_cell s1 hbo, kept_cell s2 hbo, kept_cell s3 hbo, kept_cell p0 hbo, kept_cell p1 hbo, kept_cell p2 hbo⟩) (fun hHeld => ?_)
              clear hK K
              go_simp
              refine wpAnyH_take (i := 8) (v := _) rfl (by kernel_rfl) (by kernel_rfl) (by kernel_rfl) (fun _ _ _ h => PostR.put h) (Or.inl ⟨by rfl, (by intro w hSw; (try dsimp only at hSw); go_simp; try with_reducible rfl)⟩) (by assumption) ?_
              go_simp
              refine wpAnyH_ready (rs := [9]) (by kernel_rfl) (by simp) ?_
              refine AllReadyH.cons rfl (fun K hK => ?_) AllReadyH.nil
              · go_simp
                obtain ⟨wv13, hwt⟩ : ∃ wt, wt = wp12.alloc (.cells #[.slice none 0 0, .slice none 0 0, .int .i64 0] 27) := ⟨_, rfl⟩
                rw [← hwt]
                have hst : Below wp12.heap.size wp12 wv13 := by rw [hwt]; exact new_below _ _
                have V0 := (own_rawT wp12 27 zeroT).base hBc
                simp only [zeroT] at V0
                change Own _ (wp12.alloc (.cells #[.slice none 0 0, .slice none 0 0, .int .i64 0] 27)) _ _ [zeroT] at V0
                rw [← hwt] at V0
                clear hwt
                replace hbo := upw hbo hst
                replace hBc := Nat.le_trans hBc hst.size
                replace L1 := L1.later hst
                clear hst
                refine hK.out _ _ (by exact ⟨kept_cell s0 hbo, kept_cell s1 hbo, kept_cell s2 hbo, kept_cell s3 hbo, kept_cell p0 hbo, kept_cell p1 hbo, kept_cell p2 hbo⟩) (fun hHeld => ?_)
                clear hK K
                go_simp
                refine wpAnyH_ready (rs := [10]) (by kernel_rfl) (by simp) ?_
                refine AllReadyH.cons rfl (fun K hK => ?_) AllReadyH.nil
                refine cast (if_pos (by rfl)).symm ?_
                refine wp_store_own 27 (.tmp 6) (.tmp 28) rfl w2.heap.size 27 wp12.heap.size 1 1 [zeroT] 0 _ (⟨none, 0, 0, some ⟨g', 0, none⟩, p.seams.length + 1, cap, p.openings⟩ : RawT) rfl rfl rfl (by kernel_rfl) rfl V0 (by simp) ?_
                intro wz V1 hgv
                replace V1 : Own w2.heap.size wz 27 (.slice (some ⟨wp12.heap.size, 0, none⟩) 1 1) [(⟨none, 0, 0, some ⟨g', 0, none⟩, p.seams.length + 1, cap, p.openings⟩ : RawT)] := V1
                replace L1 := L1.kept hgv (own_apart_ty L1 V0 (by decide))
                replace hbo := below_mark hbo V0 (Nat.le_refl _) hgv
                refine hK.out _ _ (by exact ⟨kept_cell s0 hbo, kept_cell s1 hbo, kept_cell s2 hbo, kept_cell s3 hbo, kept_cell p0 hbo, kept_cell p1 hbo, kept_cell p2 hbo⟩) (fun hHeld => ?_)
                clear hK K
                go_simp
                refine wpAnyH_done (by kernel_rfl) ?_ _
                exact ⟨rfl, by rw [hRe.out]; exact ⟨wp12.heap.size, some ⟨g', 0, none⟩, cap, _, _, _, _, _, _, _, _, _, _, _, _, _, _, _, _, _, _, _, _, rfl, bare_pat2 (by simp) L1 V1, hbo⟩⟩
            · go_simp
              obtain ⟨wv14, hwt⟩ : ∃ wt, wt = wc11.alloc (.cells #[.slice none 0 0, .slice none 0 0, .int .i64 0] 27) := ⟨_, rfl⟩
              rw [← hwt]
              have hst : Below wc11.heap.size wc11 wv14 := by rw [hwt]; exact new_below _ _
              have V0 := (own_rawT wc11 27 zeroT).base hBc
              simp only [zeroT] at V0
              change Own _ (wc11.alloc (.cells #[.slice none 0 0, .slice none 0 0, .int .i64 0] 27)) _ _ [zeroT] at V0
              rw [← hwt] at V0
              clear hwt
              replace hbo := upw hbo hst
              replace hBc := Nat.le_trans hBc hst.size
              replace L0 := L0.later hst
              replace htmp := heap_kept htmp hst
              clear hst
              refine hK.out _ _ (by exact ⟨kept_cell s0 hbo, kept_cell s1 hbo, kept_cell s2 hbo, kept_cell s3 hbo, kept_cell p0 hbo, kept_cell p1 hbo, kept_cell p2 hbo⟩) (fun hHeld => ?_)
              clear hK K
              go_simp
              refine wpAnyH_ready (rs := [5]) (by kernel_rfl) (by simp) ?_
              refine AllReadyH.cons rfl (fun K hK => ?_) AllReadyH.nil
              · refine cast (if_pos (by rfl)).symm ?_
                refine wp_pushTo (.tmp 22) (.tmp 24) 25 rfl w2.heap.size 46 (.agg #[.int .i64 0, .int .i64 0, .int .i64 0, .int .i64 0]) 32 Tryz.underlying25 infoSeam rfl _ p.seams s rfl L0 wo.heap.size 1 rfl 46 htmp hsl (by decide) hBc ?_
                intro g' cap wp15 L1 hg' hl'
                replace hbo := below_mark hbo L0 (Nat.le_refl _) hg'
                replace hBc := Nat.le_trans hBc hg'.size
                replace V0 := V0.kept hg' (own_apart_ty V0 L0 (by decide))
                clear htmp L0 hg' hl'
                refine hK.out _ _ (by exact ⟨kept_cell s0 hbo, kept_cell s1 hbo, kept_cell s2 hbo, kept_cell s3 hbo, kept_cell p0 hbo, kept_cell p1 hbo, kept_cell p2 hbo⟩) (fun hHeld => ?_)
                clear hK K
                go_simp
                refine wpAnyH_take (i := 8) (v := _) rfl (by kernel_rfl) (by kernel_rfl) (by kernel_rfl) (fun _ _ _ h => PostR.put h) (Or.inl ⟨by rfl, (by intro w hSw; (try dsimp only at hSw); go_simp; try with_reducible rfl)⟩) (by assumption) ?_
                go_simp
                refine wpAnyH_ready (rs := [10]) (by kernel_rfl) (by simp) ?_
                refine AllReadyH.cons rfl (fun K hK => ?_) AllReadyH.nil
                refine cast (if_pos (by rfl)).symm ?_
                refine wp_store_own 27 (.tmp 6) (.tmp 28) rfl w2.heap.size 27 wc11.heap.size 1 1 [zeroT] 0 _ (⟨none, 0, 0, some ⟨g', 0, none⟩, p.seams.length + 1, cap, p.openings⟩ : RawT) rfl rfl rfl (by kernel_rfl) rfl V0 (by simp) ?_
                intro wz V1 hgv
                replace V1 : Own w2.heap.size wz 27 (.slice (some ⟨wc11.heap.size, 0, none⟩) 1 1) [(⟨none, 0, 0, some ⟨g', 0, none⟩, p.seams.length + 1, cap, p.openings⟩ : RawT)] := V1
                replace L1 := L1.kept hgv (own_apart_ty L1 V0 (by decide))
                replace hbo := below_mark hbo V0 (Nat.le_refl _) hgv
                refine hK.out _ _ (by exact ⟨kept_cell s0 hbo, kept_cell s1 hbo, kept_cell s2 hbo, kept_cell s3 hbo, kept_cell p0 hbo, kept_cell p1 hbo, kept_cell p2 hbo⟩) (fun hHeld => ?_)
                clear hK K
                go_simp
                refine wpAnyH_done (by kernel_rfl) ?_ _
                exact ⟨rfl, by rw [hRe.out]; exact ⟨wc11.heap.size, some ⟨g', 0, none⟩, cap, _, _, _, _, _, _, _, _, _, _, _, _, _, _, _, _, _, _, _, _, rfl, bare_pat2 (by simp) L1 V1, hbo⟩⟩
          · go_simp
            obtain ⟨wv16, hwt⟩ : ∃ wt, wt = wt10.alloc (.cells #[.slice none 0 0, .slice none 0 0, .int .i64 0] 27) := ⟨_, rfl⟩
            rw [← hwt]
            have hst : Below wt10.heap.size wt10 wv16 := by rw [hwt]; exact new_below _ _
            have V0 := (own_rawT wt10 27 zeroT).base hBc
            simp only [zeroT] at V0
            change Own _ (wt10.alloc (.cells #[.slice none 0 0, .slice none 0 0, .int .i64 0] 27)) _ _ [zeroT] at V0
            rw [← hwt] at V0
            clear hwt
            replace hbo := upw hbo hst
            replace hBc := Nat.le_trans hBc hst.size
            replace htmp := heap_kept htmp hst
            clear hst
            refine hK.out _ _ (by exact ⟨kept_cell s0 hbo, kept_cell s1 hbo, kept_cell s2 hbo, kept_cell s3 hbo, kept_cell p0 hbo, kept_cell p1 hbo, kept_cell p2 hbo⟩) (fun hHeld => ?_)
            clear hK K
            go_simp
            refine wpAnyH_ready (rs := [2]) (by kernel_rfl) (by simp) ?_
            refine AllReadyH.cons rfl (fun K hK => ?_) AllReadyH.nil
            · go_simp
              refine (cloneSeams_any sa p.seams sc wv16 (hSe.below hbo) (by omega) hsc).mono ?_
              rintro e wc17 ⟨v0, rfl, L0, hst⟩
              obtain ⟨a0, c0, rfl, _⟩ := L0.at
              replace L0 := L0.base hBc
              replace hbo := upw hbo hst
              replace hBc := Nat.le_trans hBc hst.size
              replace V0 := V0.later hst
              replace htmp := heap_kept htmp hst
              clear hst
              refine hK.out _ _ (by exact ⟨kept_cell s0 hbo, kept_cell s1 hbo, kept_cell s2 hbo, kept_cell s3 hbo, kept_cell p0 hbo, kept_cell p1 hbo, kept_cell p2 hbo⟩) (fun hHeld => ?_)
              clear hK K
              go_simp
              refine wpAnyH_ready (rs := [5]) (by kernel_rfl) (by simp) ?_
              refine AllReadyH.cons rfl (fun K hK => ?_) AllReadyH.nil
              · refine cast (if_pos (by rfl)).symm ?_
                refine wp_pushTo (.tmp 22) (.tmp 24) 25 rfl w2.heap.size 46 (.agg #[.int .i64 0, .int .i64 0, .int .i64 0, .int .i64 0]) 32 Tryz.underlying25 infoSeam rfl _ p.seams s rfl L0 wo.heap.size 1 rfl 46 htmp hsl (by decide) hBc ?_
                intro g' cap wp18 L1 hg' hl'
                replace hbo := below_mark hbo L0 (Nat.le_refl _) hg'
                replace hBc := Nat.le_trans hBc hg'.size
                replace V0 := V0.kept hg' (own_apart_ty V0 L0 (by decide))
                clear htmp L0 hg' hl'
                refine hK.out _ _ (by exact ⟨kept_cell s0 hbo, kept_cell s1 hbo, kept_cell s2 hbo, kept_cell s3 hbo, kept_cell p0 hbo, kept_cell p1 hbo, kept_cell p2 hbo⟩) (fun hHeld => ?_)
                clear hK K
                go_simp
                refine wpAnyH_take (i := 8) (v := _) rfl (by kernel_rfl) (by kernel_rfl) (by kernel_rfl) (fun _ _ _ h => PostR.put h) (Or.inl ⟨by rfl, (by intro w hSw; (try dsimp only at hSw); go_simp; try with_reducible rfl)⟩) (by assumption) ?_
                go_simp
                refine wpAnyH_ready (rs := [10]) (by kernel_rfl) (by simp) ?_
                refine AllReadyH.cons rfl (fun K hK => ?_) AllReadyH.nil
                refine cast (if_pos (by rfl)).symm ?_
                refine wp_store_own 27 (.tmp 6) (.tmp 28) rfl w2.heap.size 27 wt10.heap.size 1 1 [zeroT] 0 _ (⟨none, 0, 0, some ⟨g', 0, none⟩, p.seams.length + 1, cap, p.openings⟩ : RawT) rfl rfl rfl (by kernel_rfl) rfl V0 (by simp) ?_
                intro wz V1 hgv
                replace V1 : Own w2.heap.size wz 27 (.slice (some ⟨wt10.heap.size, 0, none⟩) 1 1) [(⟨none, 0, 0, some ⟨g', 0, none⟩, p.seams.length + 1, cap, p.openings⟩ : RawT)] := V1
                replace L1 := L1.kept hgv (own_apart_ty L1 V0 (by decide))
                replace hbo := below_mark hbo V0 (Nat.le_refl _) hgv
                refine hK.out _ _ (by exact ⟨kept_cell s0 hbo, kept_cell s1 hbo, kept_cell s2 hbo, kept_cell s3 hbo, kept_cell p0 hbo, kept_cell p1 hbo, kept_cell p2 hbo⟩) (fun hHeld => ?_)
                clear hK K
                go_simp
                refine wpAnyH_done (by kernel_rfl) ?_ _
                exact ⟨rfl, by rw [hRe.out]; exact ⟨wt10.heap.size, some ⟨g', 0, none⟩, cap, _, _, _, _, _, _, _, _, _, _, _, _, _, _, _, _, _, _, _, _, rfl, bare_pat2 (by simp) L1 V1, hbo⟩⟩
        · go_simp
          obtain ⟨wv19, hwt⟩ : ∃ wt, wt = wo.alloc (.cells #[.slice none 0 0, .slice none 0 0, .int .i64 0] 27) := ⟨_, rfl⟩
          rw [← hwt]
          have hst : Below wo.heap.size wo wv19 := by rw [hwt]; exact new_below _ _
          have V0 := (own_rawT wo 27 zeroT).base hBc
          simp only [zeroT] at V0
          change Own _ (wo.alloc (.cells #[.slice none 0 0, .slice none 0 0, .int .i64 0] 27)) _ _ [zeroT] at V0
          rw [← hwt] at V0
          clear hwt
          replace hbo := upw hbo hst
          replace hBc := Nat.le_trans hBc hst.size
          clear hst
          refine hK.out _ _ (by exact ⟨kept_cell s0 hbo, kept_cell s1 hbo, kept_cell s2 hbo, kept_cell s3 hbo, kept_cell p0 hbo, kept_cell p1 hbo, kept_cell p2 hbo⟩) (fun hHeld => ?_)
          clear hK K
          go_simp
          refine wpAnyH_ready (rs := [2, 4]) (by kernel_rfl) (by simp) ?_
          refine AllReadyH.cons rfl (fun K hK => ?_) (AllReadyH.cons rfl (fun K hK => ?_) AllReadyH.nil)
          · go_simp
            refine (cloneSeams_any sa p.seams sc wv19 (hSe.below hbo) (by omega) hsc).mono ?_
            rintro e wc20 ⟨v0, rfl, L0, hst⟩
            obtain ⟨a0, c0, rfl, _⟩ := L0.at
            replace L0 := L0.base hBc
            replace hbo := upw hbo hst
            replace hBc := Nat.le_trans hBc hst.size
            replace V0 := V0.later hst
            clear hst
            refine hK.out _ _ (by exact ⟨kept_cell s0 hbo, kept_cell s1 hbo, kept_cell s2 hbo, kept_cell s3 hbo, kept_cell p0 hbo, kept_cell p1 hbo, kept_cell p2 hbo⟩) (fun hHeld => ?_)
            clear hK K
            go_simp
            refine wpAnyH_ready (rs := [4]) (by kernel_rfl) (by simp) ?_
            refine AllReadyH.cons rfl (fun K hK => ?_) AllReadyH.nil
            · go_simp
              obtain ⟨wt21, hwt⟩ : ∃ wt, wt = wc20.alloc (.cells #[.int .i64 s.A, .int .i64 s.EdgeA, .int .i64 s.B, .int .i64 s.EdgeB] 46) := ⟨_, rfl⟩
              rw [← hwt]
              have hst : Below wc20.heap.size wc20 wt21 := by rw [hwt]; exact new_below _ _
              have htmp : wt21.heap[wc20.heap.size]? = some (.cells (Flat.el s).toArray 46 (0, 0)) := by rw [hwt]; exact heap_alloc_new _ _
              clear hwt
              replace hbo := upw hbo hst
              replace hBc := Nat.le_trans hBc hst.size
              replace V0 := V0.later hst
              replace L0 := L0.later hst
              clear hst
              refine hK.out _ _ (by exact ⟨kept_cell s0 hbo, kept_cell s1 hbo, kept_cell s2 hbo, kept_cell s3 hbo, kept_cell p0 hbo, kept_cell p1 hbo, kept_cell p2 hbo⟩) (fun hHeld => ?_)
              clear hK K
              go_simp
              refine wpAnyH_ready (rs := [5]) (by kernel_rfl) (by simp) ?_
              refine AllReadyH.cons rfl (fun K hK => ?_) AllReadyH.nil
              · refine cast (if_pos (by rfl)).symm ?_
                refine wp_pushTo (.tmp 22) (.tmp 24) 25 rfl w2.heap.size 46 (.agg #[.int .i64 0, .int .i64 0, .int .i64 0, .int .i64 0]) 32 Tryz.underlying25 infoSeam rfl _ p.seams s rfl L0 wc20.heap.size 1 rfl 46 htmp hsl (by decide) hBc ?_
                intro g' cap wp22 L1 hg' hl'
                replace hbo := below_mark hbo L0 (Nat.le_refl _) hg'
                replace hBc := Nat.le_trans hBc hg'.size
                replace V0 := V0.kept hg' (own_apart_ty V0 L0 (by decide))
                clear htmp L0 hg' hl'
                refine hK.out _ _ (by exact ⟨kept_cell s0 hbo, kept_cell s1 hbo, kept_cell s2 hbo, kept_cell s3 hbo, kept_cell p0 hbo, kept_cell p1 hbo, kept_cell p2 hbo⟩) (fun hHeld => ?_)
                clear hK K
                go_simp
                refine wpAnyH_take (i := 8) (v := _) rfl (by kernel_rfl) (by kernel_rfl) (by kernel_rfl) (fun _ _ _ h => PostR.put h) (Or.inl ⟨by rfl, (by intro w hSw; (try dsimp only at hSw); go_simp; try with_reducible rfl)⟩) (by assumption) ?_
                go_simp
                refine wpAnyH_ready (rs := [10]) (by kernel_rfl) (by simp) ?_
                refine AllReadyH.cons rfl (fun K hK => ?_) AllReadyH.nil
                refine cast (if_pos (by rfl)).symm ?_
                refine wp_store_own 27 (.tmp 6) (.tmp 28) rfl w2.heap.size 27 wo.heap.size 1 1 [zeroT] 0 _ (⟨none, 0, 0, some ⟨g', 0, none⟩, p.seams.length + 1, cap, p.openings⟩ : RawT) rfl rfl rfl (by kernel_rfl) rfl V0 (by simp) ?_
                intro wz V1 hgv
                replace V1 : Own w2.heap.size wz 27 (.slice (some ⟨wo.heap.size, 0, none⟩) 1 1) [(⟨none, 0, 0, some ⟨g', 0, none⟩, p.seams.length + 1, cap, p.openings⟩ : RawT)] := V1
                replace L1 := L1.kept hgv (own_apart_ty L1 V0 (by decide))
                replace hbo := below_mark hbo V0 (Nat.le_refl _) hgv
                refine hK.out _ _ (by exact ⟨kept_cell s0 hbo, kept_cell s1 hbo, kept_cell s2 hbo, kept_cell s3 hbo, kept_cell p0 hbo, kept_cell p1 hbo, kept_cell p2 hbo⟩) (fun hHeld => ?_)
                clear hK K
                go_simp
                refine wpAnyH_done (by kernel_rfl) ?_ _
                exact ⟨rfl, by rw [hRe.out]; exact ⟨wo.heap.size, some ⟨g', 0, none⟩, cap, _, _, _, _, _, _, _, _, _, _, _, _, _, _, _, _, _, _, _, _, rfl, bare_pat2 (by simp) L1 V1, hbo⟩⟩
          · go_simp
            obtain ⟨wt23, hwt⟩ : ∃ wt, wt = wv19.alloc (.cells #[.int .i64 s.A, .int .i64 s.EdgeA, .int .i64 s.B, .int .i64 s.EdgeB] 46) := ⟨_, rfl⟩
            rw [← hwt]
            have hst : Below wv19.heap.size wv19 wt23 := by rw [hwt]; exact new_below _ _
            have htmp : wt23.heap[wv19.heap.size]? = some (.cells (Flat.el s).toArray 46 (0, 0)) := by rw [hwt]; exact heap_alloc_new _ _
            clear hwt
            replace hbo := upw hbo hst
            replace hBc := Nat.le_trans hBc hst.size
            replace V0 := V0.later hst
            clear hst
            refine hK.out _ _ (by exact ⟨kept_cell s0 hbo, kept_cell s1 hbo, kept_cell s2 hbo, kept_cell s3 hbo, kept_cell p0 hbo, kept_cell p1 hbo, kept_cell p2 hbo⟩) (fun hHeld => ?_)
            clear hK K
            go_simp
            refine wpAnyH_ready (rs := [2]) (by kernel_rfl) (by simp) ?_
            refine AllReadyH.cons rfl (fun K hK => ?_) AllReadyH.nil
            · go_simp
              refine (cloneSeams_any sa p.seams sc wt23 (hSe.below hbo) (by omega) hsc).mono ?_
              rintro e wc24 ⟨v0, rfl, L0, hst⟩
              obtain ⟨a0, c0, rfl, _⟩ := L0.at
              replace L0 := L0.base hBc
              replace hbo := upw hbo hst
              replace hBc := Nat.le_trans hBc hst.size
              replace V0 := V0.later hst
              replace htmp := heap_kept htmp hst
              clear hst
              refine hK.out _ _ (by exact ⟨kept_cell s0 hbo, kept_cell s1 hbo, kept_cell s2 hbo, kept_cell s3 hbo, kept_cell p0 hbo, kept_cell p1 hbo, kept_cell p2 hbo⟩) (fun hHeld => ?_)
              clear hK K
              go_simp
              refine wpAnyH_ready (rs := [5]) (by kernel_rfl) (by simp) ?_
              refine AllReadyH.cons rfl (fun K hK => ?_) AllReadyH.nil
              · refine cast (if_pos (by rfl)).symm ?_
                refine wp_pushTo (.tmp 22) (.tmp 24) 25 rfl w2.heap.size 46 (.agg #[.int .i64 0, .int .i64 0, .int .i64 0, .int .i64 0]) 32 Tryz.underlying25 infoSeam rfl _ p.seams s rfl L0 wv19.heap.size 1 rfl 46 htmp hsl (by decide) hBc ?_
                intro g' cap wp25 L1 hg' hl'
                replace hbo := below_mark hbo L0 (Nat.le_refl _) hg'
                replace hBc := Nat.le_trans hBc hg'.size
                replace V0 := V0.kept hg' (own_apart_ty V0 L0 (by decide))
                clear htmp L0 hg' hl'
                refine hK.out _ _ (by exact ⟨kept_cell s0 hbo, kept_cell s1 hbo, kept_cell s2 hbo, kept_cell s3 hbo, kept_cell p0 hbo, kept_cell p1 hbo, kept_cell p2 hbo⟩) (fun hHeld => ?_)
                clear hK K
                go_simp
                refine wpAnyH_take (i := 8) (v := _) rfl (by kernel_rfl) (by kernel_rfl) (by kernel_rfl) (fun _ _ _ h => PostR.put h) (Or.inl ⟨by rfl, (by intro w hSw; (try dsimp only at hSw); go_simp; try with_reducible rfl)⟩) (by assumption) ?_
                go_simp
                refine wpAnyH_ready (rs := [10]) (by kernel_rfl) (by simp) ?_
                refine AllReadyH.cons rfl (fun K hK => ?_) AllReadyH.nil
                refine cast (if_pos (by rfl)).symm ?_
                refine wp_store_own 27 (.tmp 6) (.tmp 28) rfl w2.heap.size 27 wo.heap.size 1 1 [zeroT] 0 _ (⟨none, 0, 0, some ⟨g', 0, none⟩, p.seams.length + 1, cap, p.openings⟩ : RawT) rfl rfl rfl (by kernel_rfl) rfl V0 (by simp) ?_
                intro wz V1 hgv
                replace V1 : Own w2.heap.size wz 27 (.slice (some ⟨wo.heap.size, 0, none⟩) 1 1) [(⟨none, 0, 0, some ⟨g', 0, none⟩, p.seams.length + 1, cap, p.openings⟩ : RawT)] := V1
                replace L1 := L1.kept hgv (own_apart_ty L1 V0 (by decide))
                replace hbo := below_mark hbo V0 (Nat.le_refl _) hgv
                refine hK.out _ _ (by exact ⟨kept_cell s0 hbo, kept_cell s1 hbo, kept_cell s2 hbo, kept_cell s3 hbo, kept_cell p0 hbo, kept_cell p1 hbo, kept_cell p2 hbo⟩) (fun hHeld => ?_)
                clear hK K
                go_simp
                refine wpAnyH_done (by kernel_rfl) ?_ _
                exact ⟨rfl, by rw [hRe.out]; exact ⟨wo.heap.size, some ⟨g', 0, none⟩, cap, _, _, _, _, _, _, _, _, _, _, _, _, _, _, _, _, _, _, _, _, rfl, bare_pat2 (by simp) L1 V1, hbo⟩⟩
      rintro e a' w3 ⟨rfl, hra⟩
      rw [hRe.out] at hra
      clear hRe hsc hSe
      obtain ⟨bx, sa', sc', u9, u10, u11, u12, u13, u14, u15, u16, u17, u18, u19, u20, u21, u22, u23, u24, u25, u26, u27, u28, rfl, DP, hb⟩ := hra
      replace p0 := kept_cell p0 hb
      clear s0 s1 s2 s3 p1 p2
      have l1 : p.pieces.length ≤ 1048576 := by unfold totPattern totPieces at hl; omega
      have l3 : Hid (∀ i (h : i < p.pieces.length), p.pieces[i].edges.length ≤ 1048576) := Lib.hid fun i hi => by
        have := sumN_mem totPiece p.pieces i hi
        unfold totPattern totPieces at hl; unfold totPiece at *; omega
      replace hl := Lib.hid hl
      replace DP : PatW w2.heap.size w3 bx none 0 sa' sc' [] ⟨p.pieces.take 0, p.seams ++ [s], p.openings⟩ := DP
      replace DP := Lib.hid DP
      go_wp2_with fail
      go_loopw [32] (fun i wr => ∃ (k : Nat) (pa' : Option Addr) (pc' : Nat) (rs' : List RawP), k ≤ p.pieces.length ∧ i = .int .i64 k ∧ Hid (PatW w2.heap.size wr bx pa' pc' sa' sc' rs' ⟨p.pieces.take k, p.seams ++ [s], p.openings⟩) ∧ Below w2.heap.size w2 wr) (fun i _ => p.pieces.length - (intOf i).toNat)
      case atStart => exact ⟨0, none, 0, [], Nat.zero_le _, rfl, DP, hb⟩
      case round =>
        clear DP hb p0
        obtain ⟨k, pa', pc', rs', hk, rfl, DP, hb⟩ := hrel
        have hlen : (p.pieces.take k).length = k := by rw [List.length_take]; omega
        by_cases hlt : k < p.pieces.length
        · obtain ⟨g, ea, ec, rfl, hgl, n0, n1, hE⟩ := (D.out.later hb).own.piece hlt
          have hel := l3.out k hlt
          have htk := Lib.hid (take_pattern hlt)
          have hrl : rs'.length = k := by rw [DP.out.pat.pieces.len]; exact hlen
          have hk48 : k + 1 ≤ 4294967296 := by omega
          generalize p.pieces[k] = x at *
          obtain ⟨wx, hwx⟩ : ∃ wx, wx = wr.alloc (.cells #[.string x.name, .slice ea x.edges.length ec] 36) := ⟨_, rfl⟩
          have hbx : Below wr.heap.size wr wx := by rw [hwx]; exact new_below _ _
          have z0 : wx.cell? ⟨wr.heap.size, 0, none⟩ = some (.string x.name) := by rw [hwx]; go_simp
          have z1 : wx.cell? ⟨wr.heap.size, 1, none⟩ = some (.slice ea x.edges.length ec) := by rw [hwx]; go_simp
          have hrow : Own w2.heap.size wx 36 (.slice pa' k pc') rs' := by have := DP.out.pat.row; simp only [hlen] at this; exact this.later hbx
          have hvar := DP.out.var.later hbx
          have x0 : wx.cell? ⟨bx, 0, none⟩ = some (.slice pa' k pc') := by have := (patC_cells hvar).1; simp only [hlen] at this; exact this
          replace hE := hE.later hbx
          have hbxw : wr.heap.size < wx.heap.size := by rw [hwx]; simp
          have hltx := DP.out.lt
          replace hwx := Lib.hid hwx
          replace hrl := Lib.hid hrl
          replace hlen := Lib.hid hlen
          replace hE := Lib.hid hE
          have hwb := hb.size
          have hne0 : wr.heap.size ≠ bx := by omega
          go_wp2_with (rw [← hwx.out])
          refine wp_region_heldS (S := (fun w' => w'.cell? ⟨bx, 0, none⟩ = some (.slice pa' k pc') ∧ w'.cell? ⟨wr.heap.size, 0, none⟩ = some (.string x.name) ∧ w'.cell? ⟨wr.heap.size, 1, none⟩ = some (.slice ea x.edges.length ec))) 11 (by kernel_rfl) ⟨x0, z0, z1⟩ (fun hHeld => ?_)
          obtain ⟨wo, hwo⟩ : ∃ wo, wo = wx.drew := ⟨_, rfl⟩
          rw [← hwo] at hHeld ⊢
          have hbo : Below wx.heap.size wx wo := by rw [hwo]; exact (Below.refl _ _).drew
          clear hwo
          refine wpAnyS_take (i := 0) (v := _) rfl (by kernel_rfl) (by kernel_rfl) (by kernel_rfl) (by kernel_rfl) (by kernel_rfl) (fun _ _ _ h => h) (Or.inl ⟨by rfl, (by intro w hSw; (try dsimp only at hSw); go_simp; try with_reducible rfl)⟩) (by assumption) ?_
          go_simp
          refine wpAnyS_take (i := 1) (v := _) rfl (by kernel_rfl) (by kernel_rfl) (by kernel_rfl) (by kernel_rfl) (by kernel_rfl) (fun _ _ _ h => h) (Or.inl ⟨by rfl, (by intro w hSw; (try dsimp only at hSw); go_simp; try with_reducible rfl)⟩) (by assumption) ?_
          go_simp
          refine wpAnyS_take (i := 2) (v := _) rfl (by kernel_rfl) (by kernel_rfl) (by kernel_rfl) (by kernel_rfl) (by kernel_rfl) (fun _ _ _ h => h) (Or.inl ⟨by rfl, (by intro w hSw; (try dsimp only at hSw); go_simp; try with_reducible rfl)⟩) (by assumption) ?_
          go_simp
          refine wpAnyS_take (i := 3) (v := _) rfl (by kernel_rfl) (by kernel_rfl) (by kernel_rfl) (by kernel_rfl) (by kernel_rfl) (fun _ _ _ h => h) (Or.inl ⟨by rfl, (by intro w hSw; (try dsimp only at hSw); go_simp; try with_reducible rfl)⟩) (by assumption) ?_
          go_simp
          refine wpAnyS_take (i := 4) (v := _) rfl (by kernel_rfl) (by kernel_rfl) (by kernel_rfl) (by kernel_rfl) (by kernel_rfl) (fun _ _ _ h => h) (Or.inl ⟨by rfl, (by intro w hSw; (try dsimp only at hSw); go_simp; try with_reducible rfl)⟩) (by assumption) ?_
          go_simp
          refine wpAnyS_take (i := 5) (v := _) rfl (by kernel_rfl) (by kernel_rfl) (by kernel_rfl) (by kernel_rfl) (by kernel_rfl) (fun _ _ _ h => h) (Or.inl ⟨by rfl, (by intro w hSw; (try dsimp only at hSw); go_simp; try with_reducible rfl)⟩) (by assumption) ?_
          go_simp
          refine wpAnyS_step (i := 6) (by kernel_rfl) rfl (fun K hK => ?_)
          go_simp
          (refine (cloneEdges_c _ ea x.edges.length ec x.edges wo (hE.out.later hbo) rfl hel).mono ?_; rintro e wc ⟨ea', ec', rfl, hOe, hbc⟩; have hoc := hbo; replace hbo := upw hbo hbc)
          refine hK.out _ _ (by exact ⟨kept_cell x0 hbo, kept_cell z0 hbo, kept_cell z1 hbo⟩) (fun hHeld => ?_)
          clear hK K
          go_simp
          refine wpAnyS_take (i := 7) (v := _) rfl (by kernel_rfl) (by kernel_rfl) (by kernel_rfl) (by kernel_rfl) (by kernel_rfl) (fun _ _ _ h => h) (Or.inl ⟨by rfl, (by intro w hSw; (try dsimp only at hSw); go_simp; try with_reducible rfl)⟩) (by assumption) ?_
          go_simp
          refine wpAnyS_step (i := 8) (by kernel_rfl) rfl (fun K hK => ?_)
          go_simp
          (obtain ⟨wt, hwt⟩ : ∃ wt, wt = wc.alloc (.cells #[.string x.name, .slice ea' x.edges.length ec'] 36) := ⟨_, rfl⟩; rw [← hwt]; have hct : Below wc.heap.size wc wt := (by rw [hwt]; exact new_below _ _); have htmp : wt.heap[wc.heap.size]? = some (.cells (Flat.el (⟨x.name, ea', x.edges.length, ec'⟩ : RawP)).toArray 36 (0, 0)) := (by rw [hwt]; exact heap_alloc_new _ _); clear hwt; replace hbo := upw hbo hct)
          refine hK.out _ _ (by exact ⟨kept_cell x0 hbo, kept_cell z0 hbo, kept_cell z1 hbo⟩) (fun hHeld => ?_)
          clear hK K
          go_simp
          have hrw := hrow.later hbo
          have hbo2 := hbo.size
          have hbx2 := hbx.size
          have hz0 : wt.cell? ⟨wr.heap.size, 0, none⟩ = some (.string x.name) := kept_cell z0 hbo
          have hz1 : wt.cell? ⟨wr.heap.size, 1, none⟩ = some (.slice ea x.edges.length ec) := kept_cell z1 hbo
          have hneR : ∀ q, (Value.slice pa' k pc').ownBlock = some q → q < wr.heap.size := fun q hq => by have h9 := (DP.out.pat.row.lt q (by simp only [hlen.out]; exact hq)).2; exact h9
          refine wpAnyS_step (i := 9) (by kernel_rfl) rfl (fun K hK => ?_)
          (refine cast (if_pos (by rfl)).symm ?_; refine wp_pushTo (.tmp 37) (.tmp 44) 24 rfl w2.heap.size 36 (.agg #[.string ⟨#[]⟩, .slice none 0 0]) 40 Tryz.underlying24 infoPiece rfl _ rs' (⟨x.name, ea', x.edges.length, ec'⟩ : RawP) rfl hrw wc.heap.size 1 rfl 36 htmp (by rw [hrl.out]; exact hk48) (by decide) (by omega) ?_; intro g' cap wp hO' hg' hl'; rw [hrl.out] at hO' ⊢; have hbP := below_mark (upw (upw hb hbx) hbo) hrw (Nat.le_refl _) hg'; have hVp := (hvar.later hbo).kept hg' (own_apart_ty (hvar.later hbo) hrw (by decide)); have hx0p : wp.cell? ⟨bx, 0, none⟩ = some (.slice pa' k pc') := (by have := (patC_cells hVp).1; simp only [hlen.out] at this; exact this); have hz0p := hg'.cell hz0 (fun e => by have := hneR _ e.symm; simp at this); have hz1p := hg'.cell hz1 (fun e => by have := hneR _ e.symm; simp at this))
          refine hK.out _ _ (by exact ⟨hx0p, hz0p, hz1p⟩) (fun hHeld => ?_)
          clear hK K
          go_simp
          refine wpAnyS_take (i := 10) (v := _) rfl (by kernel_rfl) (by kernel_rfl) (by kernel_rfl) (by kernel_rfl) (by kernel_rfl) (fun _ _ _ h => h) (Or.inl ⟨by rfl, (by intro w hSw; (try dsimp only at hSw); go_simp; try with_reducible rfl)⟩) (by assumption) ?_
          go_simp
          refine wpAnyS_last (i := 11) (by kernel_rfl) rfl (by kernel_rfl) (fun K hK => ?_)
          (refine cast (if_pos (by rfl)).symm ?_; refine wp_store_own 24 (.tmp 46) (.tmp 45) rfl w2.heap.size 27 bx 3 3 (patC pa' (p.pieces.take k).length pc' sa' (p.seams ++ [s]).length sc' p.openings) 0 0 (⟨.slice (some ⟨g', 0, none⟩) (k + 1) cap, rfl⟩ : OneCell) rfl rfl rfl (by kernel_rfl) rfl hVp (by show 0 < 3; omega) ?_; intro wz hVq hgq)
          refine hK.out _ _ ?_
          clear hK K
          go_simp
          refine wpAnyS_done (by kernel_rfl) ?_ _
          replace hVq : Own w2.heap.size wz 27 (.slice (some ⟨bx, 0, none⟩) 3 3) (patC (some ⟨g', 0, none⟩) (k + 1) cap sa' (p.seams ++ [s]).length sc' p.openings) := hVq
          have hD2 := (DP.out.later (upw hbx hoc)).pushPiece (r := ⟨x.name, ea', x.edges.length, ec'⟩) (x := x) (upw hbc hct) ⟨rfl, rfl, hOe.later hct⟩ (by simp only [hlen.out]; exact hO') (by simp only [hlen.out]; exact hg') (by simp only [hlen.out]; exact hl') (by simp only [hlen.out]; exact hVq) hgq
          rw [← htk.out] at hD2
          have hbq := below_mark hbP hVp (Nat.le_refl _) hgq
          clear hVq hgq hO' hg' hl' hVp hbP x0 z0 z1 n0 n1 hHeld hx0p hz0p hz1p hz0 hz1 htmp hOe hrw hrow hvar hneR
          go_wp2_with fail
          go_roundw
          case rel => exact ⟨k + 1, _, _, _, by omega, by go_num, Lib.hid hD2, hbq⟩
          case measure => simp [intOf]; omega
        · obtain rfl : k = p.pieces.length := by omega
          have hD := DP.out
          have e : p.pieces.take p.pieces.length = p.pieces := List.take_length
          rw [e] at hD
          have hDz : PatW w2.heap.size wr bx pa' pc' sa' sc' rs' (addP p s) := hD
          have hq := okPattern_add h1 h2
          have hts : totPattern (addP p s) ≤ 1048576 := by
            have := (okp_small (okp_iff.1 h1)).1
            have e : totPattern (addP p s) = totPattern p + 1 := by simp [totPattern, addP]; omega
            omega
          have hD2 := D.out.later hb
          clear DP hD e hlen hlt hk
          have hv := implValidPattern_c (addP p s) pa' pc' sa' sc' wr hDz.pat.lie hts
          rw [hq] at hv
          obtain ⟨x0, x1, x2⟩ := hDz.cells
          have hA1 := Lib.hid (fun hc => (hA.out.trans (addRes_clash h1 h2 hc)))
          have hA2 := Lib.hid (fun hc => (hA.out.trans ((addRes_ok h1 h2 hc).trans (show _ = (addP p s, (0 : Int)) from rfl))))
          have hup := Lib.hid hD2.up
          have hres := Lib.hid hD2.res
          generalize addP p s = Q at *
          replace hDz := Lib.hid hDz
          have hw8 : w.heap.size ≤ w2.heap.size := by omega
          clear hq hts hD2 hA l1 l3 hl D h1 h2
          cases hc : clash p s
          · rw [hc] at hv
            have hAe := Lib.hid (hA2.out hc)
            clear hA1 hA2 hc
            go_wp2_with (first | (go_at_call 17; refine hv.mono ?_; rintro e w4 ⟨rfl, hb4⟩; replace x0 := kept_cell x0 hb4; replace x1 := kept_cell x1 hb4; replace x2 := kept_cell x2 hb4; replace hDz := Lib.hid (hDz.out.later hb4); replace hup := Lib.hid (upw hup.out hb4); replace hres := Lib.hid (hres.out.later hb4); clear hb4 hv) | ((with_reducible refine at_st 27 (.tmp 4) (.tmp 52) ?_); refine wpList_store_own rfl 27 (.tmp 4) (.tmp 52) rfl (w.heap.size + 1 + 1) 27 _ 1 1 [zeroT] 0 _ (⟨pa', Q.pieces.length, pc', sa', Q.seams.length, sc', Q.openings⟩ : RawT) rfl rfl rfl (by kernel_rfl) rfl hres.out (by simp) ?_; intro wq hRq hgq))
            obtain ⟨q0, q1, q2⟩ := rawT_cells hRq
            have hbq := below_mark hup.out hres.out (by omega) hgq
            refine bodyPost_ret (v := .tuple #[.agg #[.slice pa' Q.pieces.length pc', .slice sa' Q.seams.length sc', .int .i64 Q.openings], .int .i64 0]) (by simp [results, Tryz.results13, go_sem, q0, q1, q2]) rfl ?_
            have hP := hDz.out.pat
            refine ⟨pa', pc', sa', sc', rs', by rw [hAe.out], ?_, hbq⟩
            rw [hAe.out]
            exact (hP.kept hgq (fun r hr => apart_gt (n := w2.heap.size) (fun k hk => (hP.rowlt r hr k hk).1) (fun k hk => by simp at hk; omega)) (apart_gt (n := w2.heap.size) (fun k hk => (hP.row.lt k hk).1) (fun k hk => by simp at hk; omega)) (apart_gt (n := w2.heap.size) (fun k hk => (hP.seams.lt k hk).1) (fun k hk => by simp at hk; omega))).base hw8
          · rw [hc] at hv
            have hAe := Lib.hid (hA1.out hc)
            clear hA1 hA2 hc
            go_wp2_with (first | (go_at_call 17; refine hv.mono ?_; rintro e w4 ⟨rfl, hb4⟩; replace hup := Lib.hid (upw hup.out hb4); replace hres := Lib.hid (hres.out.later hb4); clear hb4 hv) | ((with_reducible refine at_st 27 (.tmp 4) (.tmp 51) ?_); refine wpList_store_own rfl 27 (.tmp 4) (.tmp 51) rfl (w.heap.size + 1 + 1) 27 _ 1 1 [zeroT] 0 _ (zeroT : RawT) rfl rfl rfl (by kernel_rfl) rfl hres.out (by simp) ?_; intro wq hRq hgq))
            obtain ⟨q0, q1, q2⟩ := rawT_cells hRq
            have hbq := below_mark hup.out hres.out (by omega) hgq
            refine bodyPost_ret (v := .tuple #[.agg #[.slice none 0 0, .slice none 0 0, .int .i64 0], .int .i64 9]) (by simp [results, Tryz.results13, go_sem, q0, q1, q2, zeroT]) rfl ?_
            exact ⟨none, 0, none, 0, [], by rw [hAe.out]; rfl, by rw [hAe.out]; exact own_zeroPat _ _, hbq⟩
end Go.Proofs.YtlmhiocmldhkhaaGreatDoor
