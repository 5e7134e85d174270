/- Chapter 8, patterns: corners, as the program counts them. -/
import Derived.Test.YtlmhiocmldhkhaaP08c1
import Derived.Test.YtlmhiocmldhkhaaP08h
namespace Go.Proofs.Ytlmhiocmldhkhaa
open Go.RowKit

def hitE (F : Nat → Nat) (e : Edge) : Bool := clsOf F e == e
theorem count_cls {p : Pattern} (ok : Okp p) (F : Nat → Nat) : (edgesOf p).countP (hitE F) = (codes p).countP fun n => F n == n := by
  unfold codes
  rw [List.countP_map]
  refine List.countP_congr fun e he => ?_
  have hd := dec_code ok (mem_edges.1 he)
  simp only [hitE, clsOf, Function.comp, beq_iff_eq]
  constructor
  · intro h; exact dec_inj (h.trans hd.symm)
  · intro h; rw [h]; exact hd
theorem countP_take {α : Type} (q : α → Bool) (l : List α) (k : Nat) (h : k < l.length) : (l.take (k + 1)).countP q = (l.take k).countP q + if q l[k] then 1 else 0 := by
  rw [List.take_succ_eq_append_getElem h, List.countP_append]
  simp [List.countP_cons]
theorem cl_new {wr : World} {bm be r g n c B : Nat} {kvs : List (Edge × Edge)} {l : List Edge} (h1 : Var wr bm [.map (some r)]) (h2 : Var wr be [.slice (some ⟨g, 0, none⟩) n c]) (h3 : MapAt ev wr r kvs) (h4 : At wr (some ⟨g, 0, none⟩) l) (h5 : n = l.length) (h6 : r < bm) (h7 : r < be) (h8 : r < g) (h9 : B ≤ r) (h10 : g < wr.heap.size) : Cl wr bm be r g n c B kvs l :=
  ⟨h1, h2, h3, h4, h5, by omega, by omega, by omega, h9, h10⟩
section
attribute [local go_sem ↓] edge_eql
set_option maxRecDepth 100000 in
set_option maxHeartbeats 6400000 in
theorem corners_c (p : Pattern) (pa : Option Addr) (pc : Nat) (sa : Option Addr) (sc : Nat) (w : World) (hp : LieP w pa sa p) (hl : totPattern p ≤ 1048576) (ok : Okp p) :
    Calls Try.prog 56 #[.agg #[.slice pa p.pieces.length pc, .slice sa p.seams.length sc, .int .i64 p.openings]] w fun en w' => en = .returned (.int .i64 (cornersOf p : Nat)) ∧ Below w.heap.size w w' := by
  have l2 := (tot_okp hl).2
  obtain ⟨w1, hw1, V, hs1, hb⟩ := patW_new p pa pc sa sc w
  obtain ⟨w2, hw2⟩ : ∃ w2, w2 = w1.alloc (.map #[] 0) := ⟨_, rfl⟩
  have hb2 : Below w1.heap.size w1 w2 := by rw [hw2]; exact new_below _ _
  have hM : MapAt ev w2 (w.heap.size + 1) [] := by rw [hw2, ← hs1]; exact MapAt.new ev w1
  have hs2 : w2.heap.size = w.heap.size + 1 + 1 := by rw [hw2]; simp [hs1]
  have HW := Lib.hid (show (w.alloc (.cells #[.slice pa p.pieces.length pc, .slice sa p.seams.length sc, .int .i64 p.openings] 32)).alloc (.map #[] 0) = w2 by rw [hw2, hw1])
  replace V := V.below hb2
  replace hb := upw hb hb2
  clear hw1 hw2 hs1 hb2
  have hel := Lib.hid (edges_length ok)
  have hep := Lib.hid (edges_pos ok)
  have s0 := Lib.hid (edges_nodup p)
  have hfinC := Lib.hid ((count_cls ok (relAll (SC p) id)).trans (cornersOf_eq ok))
  replace ok := Lib.hid ok
  have HS2 := Lib.hid hs2
  clear hs2
  have hmm := @run_makeMap Try.prog
  have hK : Enters Try.prog 88 := enters_of Try.func88 (by kernel_rfl) (by kernel_rfl)
  unfold Enters at hK
  replace hK := Lib.hid hK
  go_enter Try.func56, Try.ntmps56
  go_wp2_with fail
  clear hmm
  rw [HW.out]
  refine (edges_c p _ _ _ _ _ (hp.below hb) ok.out).mono ?_
  rintro e w3 ⟨v, rfl, hO, hb3⟩
  obtain ⟨g, c, rfl⟩ := hO.row hep.out
  have hgl := hO.lt g rfl
  obtain ⟨n, hn⟩ : ∃ n, n = (edgesOf p).length := ⟨_, rfl⟩
  rw [← hn] at hO ⊢
  have HN := Lib.hid hn
  have hnl : n ≤ 80 := by rw [hn]; exact hel.out
  clear hn
  obtain ⟨w4, hw4⟩ : ∃ w4, w4 = (w3.alloc (.cells #[.map (some (w.heap.size + 1))] 95)).alloc (.cells #[.slice (some ⟨g, 0, none⟩) n c] 84) := ⟨_, rfl⟩
  have hb4 : Below w3.heap.size w3 w4 := by rw [hw4]; exact upw (new_below _ _) (new_below _ _)
  have U1 : Var w4 w3.heap.size [.map (some (w.heap.size + 1))] := by rw [hw4]; exact (Var.new1 _ _ _).below (new_below _ _)
  have U2 : Var w4 (w3.heap.size + 1) [.slice (some ⟨g, 0, none⟩) n c] := by
    rw [hw4, show w3.heap.size + 1 = (w3.alloc (.cells #[.map (some (w.heap.size + 1))] 95)).heap.size by simp]; exact Var.new1 _ _ _
  have hs34 := hb3.size
  have hs2' := HS2.out
  have hC0 := Lib.hid (cl_new (B := w.heap.size) U1 U2 ((hM.below hb3).below hb4) (hO.at'.below hb4) HN.out (by omega) (by omega) (by have := hgl.1; omega) (by omega) (by have := hgl.2; have := hb4.size; omega))
  have hV0 := Lib.hid ((V.below hb3).below hb4)
  have hB0 := Lib.hid (upw (upw hb hb3) hb4)
  obtain ⟨be, hbe⟩ : ∃ be, be = w3.heap.size + 1 := ⟨_, rfl⟩
  obtain ⟨bm, hbm⟩ : ∃ bm, bm = w3.heap.size := ⟨_, rfl⟩
  obtain ⟨r, hr⟩ : ∃ r, r = w.heap.size + 1 := ⟨_, rfl⟩
  have HW4 := Lib.hid hw4
  have hr0 : w.heap.size ≠ r := by omega
  have hvr : some w.heap.size ≠ some r := some_ne hr0
  have hBr : w.heap.size ≤ r := by omega
  clear hw4 U1 U2 hb3 hb4 hM hO hgl hs34 hs2' V hb
  rw [← hbe, ← hbm, ← hr] at hC0
  replace hbe := Lib.hid hbe
  replace hbm := Lib.hid hbm
  replace hr := Lib.hid hr
  go_wp2_with fail
  rw [← HW4.out, ← hbe.out, ← hbm.out, ← hr.out]
  go_loopw [6, 20] (fun _ i wr => ∃ k : Nat, k ≤ n ∧ i = .int .i64 k ∧ Hid (Cl wr bm be r g n c w.heap.size (clsL ((edgesOf p).take k) id) (edgesOf p)) ∧ Hid (Var wr w.heap.size [.slice pa p.pieces.length pc, .slice sa p.seams.length sc, .int .i64 p.openings]) ∧ Hid (Below w.heap.size w wr)) (fun _ i _ => n - (intOf i).toNat)
  case atStart => exact ⟨0, Nat.zero_le _, rfl, hC0, hV0, hB0⟩
  case round =>
    clear hC0 hV0 hB0
    obtain ⟨k, hk, rfl, hC, hV, hB⟩ := hrel
    obtain ⟨wo, rfl⟩ : ∃ wo : World, wo = wr := ⟨_, rfl⟩
    by_cases hlt : k < n
    · have hke : k < (edgesOf p).length := by rw [← HN.out]; exact hlt
      obtain ⟨c0, c1⟩ := hC.out.own.edge hke
      simp only [Nat.zero_add] at c0 c1
      obtain ⟨e, he⟩ : ∃ e, e = (edgesOf p)[k] := ⟨_, rfl⟩
      have hput : Hid (putE (clsL ((edgesOf p).take k) id) e e = clsL ((edgesOf p).take (k + 1)) id) := Lib.hid (by
        rw [List.take_succ_eq_append_getElem hke, ← he]
        exact clsL_new id (by rw [he]; exact not_take s0.out hke))
      rw [← he] at c0 c1
      replace he := Lib.hid he
      have hb3 := new_below wo (.cells #[.int .i64 e.piece, .int .i64 e.number] 98)
      have VE := Var.new2 wo (.int .i64 e.piece) (.int .i64 e.number) 98
      have C3 := Lib.hid (hC.out.below hb3)
      have V3 := Lib.hid (hV.out.below hb3)
      have B3 := Lib.hid (upw hB.out hb3)
      have m0 := C3.out.mp.cell 0 _ rfl
      have d0 := VE.cell 0 _ rfl
      have d1 := VE.cell 1 _ rfl
      obtain ⟨wM, hrM, hMM, hgM⟩ := C3.out.don.update Try.underlying95 e e
      simp only [ek, ev] at hrM
      rw [hput.out] at hMM
      have C5 := Lib.hid (C3.out.mark hgM hMM)
      have V5 := Lib.hid (V3.out.grown hgM hvr)
      have B5 := Lib.hid (B3.out.grown hgM B3.out.size (fun k hk => by cases hk; exact hBr))
      clear hgM hMM hb3 VE
      go_wp2_with fail
      go_roundw
      case rel => exact ⟨k + 1, by omega, by go_num, C5, V5, B5⟩
      case measure => simp [intOf]; omega
    · obtain rfl : k = n := by omega
      have hst : Hid (clsL ((edgesOf p).take k) id = clsL (edgesOf p) (clsOf (relAll (SCto p 0) id))) := Lib.hid (by
        rw [List.take_of_length_le (by rw [HN.out]; exact Nat.le_refl _)]
        exact (cls_id ok.out).symm)
      rw [hst.out] at hC
      have c1 := hV.out.cell 1 _ rfl
      go_wp2_with fail
      clear c1
      go_loopw [9, 10, 11, 32] (fun _ _ _ i wr => ∃ m : Nat, m ≤ p.seams.length ∧ i = .int .i64 m ∧ Hid (Cl wr bm be r g k c w.heap.size (clsL (edgesOf p) (clsOf (relAll (SCto p m) id))) (edgesOf p)) ∧ Hid (Var wr w.heap.size [.slice pa p.pieces.length pc, .slice sa p.seams.length sc, .int .i64 p.openings]) ∧ Hid (Below w.heap.size w wr)) (fun _ _ _ i _ => p.seams.length - (intOf i).toNat)
      case atStart => exact ⟨0, Nat.zero_le _, rfl, hC, hV, hB⟩
      case round =>
        clear hC hV hB
        obtain ⟨m, hm, rfl, hC, hV, hB⟩ := hrel
        obtain ⟨wp, rfl⟩ : ∃ wp : World, wp = wr := ⟨_, rfl⟩
        by_cases hlt2 : m < p.seams.length
        · have hx := (hp.below hB.out).seams
          obtain ⟨bb, off, rfl⟩ := hx.addr hlt2
          have hbl := hx.lt hlt2
          obtain ⟨d0, d1, d2, d3⟩ := hx.seam hlt2
          obtain ⟨hsA, hsB⟩ := ok.out.seam _ (List.getElem_mem hlt2)
          have hT := Lib.hid (SCto_succ p m hlt2)
          obtain ⟨s, hse⟩ : ∃ s, s = p.seams[m] := ⟨_, rfl⟩
          rw [← hse] at d0 d1 d2 d3 hsA hsB hT
          replace hse := Lib.hid hse
          obtain ⟨w5, hw5⟩ : ∃ w5, w5 = wp.alloc (.cells #[.int .i64 s.A, .int .i64 s.EdgeA, .int .i64 s.B, .int .i64 s.EdgeB] 36) := ⟨_, rfl⟩
          have hb5 : Below wp.heap.size wp w5 := by rw [hw5]; exact new_below _ _
          have HW5 := Lib.hid hw5
          clear hw5 hx
          go_wp2_with fail
          rw [← HW5.out]
          refine (sides_c s _).mono ?_
          rintro e w6 ⟨rfl, hb6⟩
          obtain ⟨w7, hw7⟩ : ∃ w7, w7 = (w6.alloc (.cells #[.int .i64 s.A, .int .i64 s.EdgeA] 98)).alloc (.cells #[.int .i64 s.B, .int .i64 s.EdgeB] 98) := ⟨_, rfl⟩
          have hb7 : Below w6.heap.size w6 w7 := by rw [hw7]; exact upw (new_below _ _) (new_below _ _)
          have VA : Var w7 w6.heap.size [.int .i64 s.A, .int .i64 s.EdgeA] := by rw [hw7]; exact (Var.new2 _ _ _ _).below (new_below _ _)
          have VB : Var w7 (w6.heap.size + 1) [.int .i64 s.B, .int .i64 s.EdgeB] := by
            rw [hw7, show w6.heap.size + 1 = (w6.alloc (.cells #[.int .i64 s.A, .int .i64 s.EdgeA] 98)).heap.size by simp]; exact Var.new2 _ _ _ _
          have hb57 := upw (upw hb5 hb6) hb7
          have C7 := Lib.hid (hC.out.below hb57)
          have V7 := Lib.hid (hV.out.below hb57)
          have B7 := Lib.hid (upw hB.out hb57)
          have hrl := hC.out.don.lt
          have nA : some w6.heap.size ≠ some r := some_ne (by have := hb5.size; have := hb6.size; omega)
          have nB : some (w6.heap.size + 1) ≠ some r := some_ne (by have := hb5.size; have := hb6.size; omega)
          have HW7 := Lib.hid hw7
          replace VA := Lib.hid VA
          replace VB := Lib.hid VB
          obtain ⟨qA, hqA⟩ : ∃ q, q = w6.heap.size := ⟨_, rfl⟩
          obtain ⟨qB, hqB⟩ : ∃ q, q = w6.heap.size + 1 := ⟨_, rfl⟩
          rw [← hqB] at VB nB
          rw [← hqA] at VA nA
          replace hqA := Lib.hid hqA
          replace hqB := Lib.hid hqB
          clear hw7 hb5 hb6 hb7 hb57 d0 d1 d2 d3 hbl hrl hC hV hB
          have a0 := rg (VA.out.cell 0 _ rfl)
          have a1 := rg (VA.out.cell 1 _ rfl)
          have b0 := rg (VB.out.cell 0 _ rfl)
          have b1 := rg (VB.out.cell 1 _ rfl)
          have p0 := rg (V7.out.cell 0 _ rfl)
          have p1 := rg (V7.out.cell 1 _ rfl)
          have p2 := rg (V7.out.cell 2 _ rfl)
          have CN := Lib.hid (fun w' (h : Below w7.heap.size w7 w') => nextEdge_c p pa pc (some ⟨bb, off, none⟩) sc (endB s) w' ((hp.below B7.out).below h) ok.out hsB)
          have hb : Below w7.heap.size w7 w7 := Below.refl _ _
          go_wp2_with fail
          rw [← HW7.out, ← hqB.out, ← hqA.out]
          refine wp_region_tail_below 5 (by kernel_rfl) (by kernel_rfl) (by kernel_rfl) (by simp only [List.take_succ_cons, List.take_zero]; rfl) (by simp only [List.drop_succ_cons, List.drop_zero]; rfl) ?_
          repeat (go_big_quiet_step (((go_at_call 83; exact Calls.regrown_of (CN.out _ (grown_of ⟨⟨_, _⟩, rfl⟩))))))
          refine wpQuiet_nil ?_
          intro w2 hw'
          replace hb := upw hb (grown_of hw')
          have hw2 := grown_of hw'
          clear hw'
          have C8 := Lib.hid (C7.out.below hw2)
          have V8 := Lib.hid (V7.out.below hw2)
          have B8 := Lib.hid (upw B7.out hw2)
          have VA8 := Lib.hid (VA.out.below hw2)
          have VB8 := Lib.hid (VB.out.below hw2)
          clear a0 a1 b0 b1 p0 p1 p2 hb hw2 CN
          have hK1 := hK.out
          go_wp2_with fail
          refine (corners1_c p ok.out (relAll (SCto p m) id) bm be r g k c w.heap.size (endA s) (nextE p (endB s)) _ C8.out hsA (next_has hsB)).mono ?_
          rintro e w9 ⟨rfl, hC9, hG9⟩
          have C9 := Lib.hid hC9
          have V9 := Lib.hid (V8.out.grown hG9 hvr)
          have B9 := Lib.hid (B8.out.grown hG9 B8.out.size (fun k hk => by cases hk; exact hBr))
          have VA9 := Lib.hid (VA8.out.grown hG9 nA)
          have VB9 := Lib.hid (VB8.out.grown hG9 nB)
          clear hC9 hG9 hK1
          have a0 := rg (VA9.out.cell 0 _ rfl)
          have a1 := rg (VA9.out.cell 1 _ rfl)
          have b0 := rg (VB9.out.cell 0 _ rfl)
          have b1 := rg (VB9.out.cell 1 _ rfl)
          have p0 := rg (V9.out.cell 0 _ rfl)
          have p1 := rg (V9.out.cell 1 _ rfl)
          have p2 := rg (V9.out.cell 2 _ rfl)
          have CN := Lib.hid (fun w' (h : Below w9.heap.size w9 w') => nextEdge_c p pa pc (some ⟨bb, off, none⟩) sc (endA s) w' ((hp.below B9.out).below h) ok.out hsA)
          have hb : Below w9.heap.size w9 w9 := Below.refl _ _
          go_wp2_with fail
          refine wp_region_tail_below 5 (by kernel_rfl) (by kernel_rfl) (by kernel_rfl) (by simp only [List.take_succ_cons, List.take_zero]; rfl) (by simp only [List.drop_succ_cons, List.drop_zero]; rfl) ?_
          repeat (go_big_quiet_step (((go_at_call 83; exact Calls.regrown_of (CN.out _ (grown_of ⟨⟨_, _⟩, rfl⟩))))))
          refine wpQuiet_nil ?_
          intro w2 hw'
          replace hb := upw hb (grown_of hw')
          have hw2 := grown_of hw'
          clear hw'
          have C10 := Lib.hid (C9.out.below hw2)
          have V10 := Lib.hid (V9.out.below hw2)
          have B10 := Lib.hid (upw B9.out hw2)
          clear a0 a1 b0 b1 p0 p1 p2 hb hw2 CN
          have hK1 := hK.out
          go_wp2_with fail
          refine (corners1_c p ok.out (relab (relAll (SCto p m) id) (code (endA s)) (code (nextE p (endB s)))) bm be r g k c w.heap.size (nextE p (endA s)) (endB s) _ C10.out (next_has hsA) hsB).mono ?_
          rintro e w11 ⟨rfl, hC11, hG11⟩
          have C11 : Hid (Cl w11 bm be r g k c w.heap.size (clsL (edgesOf p) (clsOf (relAll (SCto p (m + 1)) id))) (edgesOf p)) := Lib.hid (by rw [hT.out, relAll_two]; exact hC11)
          have V11 := Lib.hid (V10.out.grown hG11 hvr)
          have B11 := Lib.hid (B10.out.grown hG11 B10.out.size (fun k hk => by cases hk; exact hBr))
          clear hC11 hG11 hK1
          go_wp2_with fail
          go_roundw
          case rel => exact ⟨m + 1, by omega, by go_num, C11, V11, B11⟩
          case measure => simp [intOf]; omega
        · obtain rfl : m = p.seams.length := by omega
          rw [SCto_all] at hC
          have e0 := hC.out.ed.cell 0 _ rfl
          go_wp2_with fail
          clear e0
          go_loopw [12, 14, 56] (fun q _ i wr => ∃ j : Nat, j ≤ k ∧ i = .int .i64 j ∧ q = .int .i64 (((edgesOf p).take j).countP (hitE (relAll (SC p) id)) : Nat) ∧ Hid (Cl wr bm be r g k c w.heap.size (clsL (edgesOf p) (clsOf (relAll (SC p) id))) (edgesOf p)) ∧ Hid (Below w.heap.size w wr)) (fun _ _ i _ => k - (intOf i).toNat)
          case atStart => exact ⟨0, Nat.zero_le _, rfl, by simp, hC, hB⟩
          case round =>
            clear hC hB hV
            obtain ⟨j, hj, rfl, rfl, hC, hB⟩ := hrel
            by_cases hlt3 : j < k
            · have hje : j < (edgesOf p).length := by rw [← HN.out]; exact hlt3
              obtain ⟨c0, c1⟩ := hC.out.own.edge hje
              simp only [Nat.zero_add] at c0 c1
              have hcl : ((edgesOf p).take j).countP (hitE (relAll (SC p) id)) ≤ 80 := by
                have := List.countP_le_length (p := hitE (relAll (SC p) id)) (l := (edgesOf p).take j)
                rw [List.length_take] at this
                omega
              have hcs := Lib.hid (countP_take (hitE (relAll (SC p) id)) (edgesOf p) j hje)
              obtain ⟨e, he⟩ : ∃ e, e = (edgesOf p)[j] := ⟨_, rfl⟩
              have hem : Hid (e ∈ edgesOf p) := Lib.hid (by rw [he]; exact List.getElem_mem _)
              rw [← he] at c0 c1 hcs
              replace he := Lib.hid he
              obtain ⟨q, hq⟩ : ∃ q, q = ((edgesOf p).take j).countP (hitE (relAll (SC p) id)) := ⟨_, rfl⟩
              rw [← hq] at hcl hcs
              rw [← hq]
              replace hq := Lib.hid hq
              have hb3 := new_below wr (.cells #[.int .i64 e.piece, .int .i64 e.number] 98)
              have VE := Var.new2 wr (.int .i64 e.piece) (.int .i64 e.number) 98
              have C3 := Lib.hid (hC.out.below hb3)
              have B3 := Lib.hid (upw hB.out hb3)
              have m0 := rg (C3.out.mp.cell 0 _ rfl)
              have d0 := rg (VE.cell 0 _ rfl)
              have d1 := rg (VE.cell 1 _ rfl)
              have lk := look_rg C3.out.don hem.out
              obtain ⟨z, hz⟩ : ∃ z, z = clsOf (relAll (SC p) id) e := ⟨_, rfl⟩
              rw [← hz] at lk
              have hhit : Hid (hitE (relAll (SC p) id) e = (z == e)) := Lib.hid (by rw [hz]; rfl)
              replace hz := Lib.hid hz
              obtain ⟨w3, hw3⟩ : ∃ w3, w3 = wr.alloc (.cells #[.int .i64 e.piece, .int .i64 e.number] 98) := ⟨_, rfl⟩
              rw [← hw3] at C3 B3 m0 d0 d1 lk
              have HW3 := Lib.hid hw3
              have hb : Below w3.heap.size w3 w3 := Below.refl _ _
              clear hw3 hb3 VE
              cases ht : z == e
              · have hcs1 : Hid (((edgesOf p).take (j + 1)).countP (hitE (relAll (SC p) id)) = q) := Lib.hid (by rw [hcs.out, hhit.out, ht]; simp)
                go_wp2_with fail
                rw [← HW3.out]
                refine wp_region_quiet_below (by kernel_rfl) (by kernel_rfl) ?_
                repeat (go_big_quiet_step ((fail)))
                refine wpQuiet_nil ?_
                intro w2 hw'
                replace hb := upw hb (grown_of hw')
                have hw2 := grown_of hw'
                clear hw'
                have C4 := Lib.hid (C3.out.below hw2)
                have B4 := Lib.hid (upw B3.out hw2)
                clear m0 d0 d1 lk hb hw2 c0 c1
                go_wp2_with fail
                go_roundw
                case rel => exact ⟨j + 1, by omega, by go_num, by rw [hcs1.out], C4, B4⟩
                case measure => simp [intOf]; omega
              · have hcs1 : Hid (((edgesOf p).take (j + 1)).countP (hitE (relAll (SC p) id)) = q + 1) := Lib.hid (by rw [hcs.out, hhit.out, ht]; simp)
                go_wp2_with fail
                rw [← HW3.out]
                refine wp_region_quiet_below (by kernel_rfl) (by kernel_rfl) ?_
                repeat (go_big_quiet_step ((fail)))
                refine wpQuiet_nil ?_
                intro w2 hw'
                replace hb := upw hb (grown_of hw')
                have hw2 := grown_of hw'
                clear hw'
                have C4 := Lib.hid (C3.out.below hw2)
                have B4 := Lib.hid (upw B3.out hw2)
                clear m0 d0 d1 lk hb hw2 c0 c1
                go_wp2_with fail
                go_roundw
                case rel => exact ⟨j + 1, by omega, by go_num, by rw [hcs1.out]; go_num, C4, B4⟩
                case measure => simp [intOf]; omega
            · obtain rfl : j = k := by omega
              rw [List.take_of_length_le (by rw [HN.out]; exact Nat.le_refl _), hfinC.out]
              go_wp2_with fail
              go_ret
              exact ⟨rfl, hB.out⟩
end
end Go.Proofs.Ytlmhiocmldhkhaa
