/- Chapter 8, patterns: corners and Euler's number, the program's and the reference's. -/
import Derived.Test.YtlmhiocmldhkhaaP08c3
import Derived.Deep.RegionHeld3
namespace Go.Proofs.Ytlmhiocmldhkhaa
open Go.RowKit

def coOf (p : Pattern) : Int := if okPattern p then (cornersOf p : Nat) else 0
def coCode (p : Pattern) : Int := if okPattern p then 0 else 1
theorem cornersOf_le {p : Pattern} (ok : Okp p) : cornersOf p ≤ 80 := by
  unfold cornersOf
  refine Nat.le_trans List.countP_le_length ?_
  unfold codes
  rw [List.length_map]; exact edges_length ok
theorem filter_two {α : Type} (q : α → Bool) (l : List α) : l.length = (l.filter q).length + (l.filter fun x => !q x).length := by
  induction l with
  | nil => rfl
  | cons x l ih => cases h : q x <;> simp [h] <;> omega
theorem edges_open {p : Pattern} (ok : Okp p) : (edgesOf p).length = (openOf p).length + 2 * p.seams.length := by
  have h1 : ((edgesOf p).filter fun e => !isOpen p e).length = 2 * p.seams.length := by
    rw [← ends_length]
    refine Nat.le_antisymm (List.Nodup.length_le_of_subset ((edges_nodup p).filter _) fun e he => ?_) (List.Nodup.length_le_of_subset ok.once fun e he => ?_)
    · rw [List.mem_filter] at he
      have h2 := he.2
      apply Classical.byContradiction
      intro hn
      rw [show isOpen p e = true by simp [isOpen, mate_none.2 hn]] at h2
      simp at h2
    · rw [List.mem_filter]
      have h2 : hasEdge p e = true := by
        unfold ends at he
        obtain ⟨s, hs, he⟩ := List.mem_flatMap.1 he
        have := ok.seam s hs
        simp only [List.mem_cons, List.not_mem_nil, or_false] at he
        rcases he with he | he
        · rw [he]; exact this.1
        · rw [he]; exact this.2
      refine ⟨mem_edges.2 h2, ?_⟩
      cases hm : mate p e with
      | none => exact absurd he (mate_none.1 hm)
      | some m => simp [isOpen, hm]
  have h2 := filter_two (isOpen p) (edgesOf p)
  unfold openOf
  omega
def euOf (p : Pattern) : Int := if okPattern p then (cornersOf p : Nat) - ((edgesOf p).length - p.seams.length) + p.pieces.length else 0
theorem euOf_ok {p : Pattern} (h : okPattern p = true) : euOf p = (cornersOf p : Nat) - ((edgesOf p).length - p.seams.length) + p.pieces.length := by simp [euOf, h]
theorem euOf_open {p : Pattern} (h : okPattern p = true) : euOf p = (cornersOf p : Nat) - ((openOf p).length + p.seams.length) + p.pieces.length := by
  rw [euOf_ok h]
  have := edges_open (okp_of h)
  omega
set_option maxHeartbeats 800000 in
theorem implCornersOf_c (p : Pattern) (pa : Option Addr) (pc : Nat) (sa : Option Addr) (sc : Nat) (w : World) (hp : LieP w pa sa p) (hl : totPattern p ≤ 1048576) :
    Calls Try.prog 22 #[.agg #[.slice pa p.pieces.length pc, .slice sa p.seams.length sc, .int .i64 p.openings]] w fun en w' => en = .returned (.tuple #[.int .i64 (coOf p), .int .i64 (coCode p)]) ∧ Below w.heap.size w w' := by
  obtain ⟨w1, hw1, V, hs1, hb⟩ := patW_new p pa pc sa sc w
  obtain ⟨c0, c1, c2, _⟩ := PatV.of V (hp.below hb)
  replace hw1 := Lib.hid hw1
  replace hs1 := Lib.hid hs1
  cases h1 : okPattern p
  · have hr : coCode p = 1 := by simp [coCode, h1]
    have hr' : coOf p = 0 := by simp [coOf, h1]
    rw [hr, hr']
    clear hr hr'
    go_enter Try.func22, Try.ntmps22
    go_wp2_with fail
    rw [hw1.out]
    refine (as_boolB h1 (implValidPattern_c p _ _ _ _ _ (hp.below hb) hl)).mono ?_
    rintro e w2 ⟨rfl, hb2⟩
    replace hb := upw hb hb2
    go_wp2_with fail
    go_ret2
    exact ⟨rfl, hb⟩
  · have hr : coCode p = 0 := by simp [coCode, h1]
    have hr' : coOf p = (cornersOf p : Nat) := by simp [coOf, h1]
    rw [hr, hr']
    clear hr hr'
    have ok := Lib.hid (okp_of h1)
    go_enter Try.func22, Try.ntmps22
    go_wp2_with fail
    rw [hw1.out]
    refine (as_boolB h1 (implValidPattern_c p _ _ _ _ _ (hp.below hb) hl)).mono ?_
    rintro e w2 ⟨rfl, hb2⟩
    replace hb := upw hb hb2
    have V2 := V.below hb2
    clear c0 c1 c2
    obtain ⟨c0, c1, c2, _⟩ := PatV.of V2 (hp.below hb)
    go_wp2_with fail
    refine (corners_c p _ _ _ _ _ (hp.below hb) hl ok.out).mono ?_
    rintro e w3 ⟨rfl, hb3⟩
    replace hb := upw hb hb3
    go_wp2_with fail
    go_ret2
    exact ⟨rfl, hb⟩
set_option maxRecDepth 100000 in
set_option maxHeartbeats 1600000 in
theorem implEulerOf_c (p : Pattern) (pa : Option Addr) (pc : Nat) (sa : Option Addr) (sc : Nat) (w : World) (hp : LieP w pa sa p) (hl : totPattern p ≤ 1048576) :
    Calls Try.prog 23 #[.agg #[.slice pa p.pieces.length pc, .slice sa p.seams.length sc, .int .i64 p.openings]] w fun en w' => en = .returned (.tuple #[.int .i64 (euOf p), .int .i64 (coCode p)]) ∧ Below w.heap.size w w' := by
  have l2 := (tot_okp hl).2
  obtain ⟨w1, hw1, V, hs1, hb⟩ := patW_new p pa pc sa sc w
  obtain ⟨c0, c1, c2, _⟩ := PatV.of V (hp.below hb)
  replace hw1 := Lib.hid hw1
  replace hs1 := Lib.hid hs1
  cases h1 : okPattern p
  · have hr : coCode p = 1 := by simp [coCode, h1]
    have hr' : euOf p = 0 := by simp [euOf, h1]
    rw [hr, hr']
    clear hr hr'
    go_enter Try.func23, Try.ntmps23
    go_wp2_with fail
    rw [hw1.out]
    refine (as_boolB h1 (implValidPattern_c p _ _ _ _ _ (hp.below hb) hl)).mono ?_
    rintro e w2 ⟨rfl, hb2⟩
    replace hb := upw hb hb2
    go_wp2_with fail
    go_ret2
    exact ⟨rfl, hb⟩
  · have hr : coCode p = 0 := by simp [coCode, h1]
    rw [hr]
    clear hr
    have ok := Lib.hid (okp_of h1)
    have l1 := ok.out.n10
    obtain ⟨C, hC⟩ : ∃ C, C = cornersOf p := ⟨_, rfl⟩
    have hCl : C ≤ 80 := by rw [hC]; exact cornersOf_le ok.out
    obtain ⟨n, hn⟩ : ∃ n, n = (edgesOf p).length := ⟨_, rfl⟩
    have hnl : n ≤ 80 := by rw [hn]; exact edges_length ok.out
    have hr' := Lib.hid (euOf_ok h1)
    rw [← hC, ← hn] at hr'
    have x1 : IntKind.i64.wrap ((n : Int) - (p.seams.length : Int)) = (n : Int) - (p.seams.length : Int) := IntWalk.i64_in _ (by omega)
    have x2 : IntKind.i64.wrap ((C : Int) - ((n : Int) - (p.seams.length : Int))) = (C : Int) - ((n : Int) - (p.seams.length : Int)) := IntWalk.i64_in _ (by omega)
    have x3 : IntKind.i64.wrap ((C : Int) - ((n : Int) - (p.seams.length : Int)) + (p.pieces.length : Int)) = (C : Int) - ((n : Int) - (p.seams.length : Int)) + (p.pieces.length : Int) := IntWalk.i64_in _ (by omega)
    replace hn := Lib.hid hn
    replace hC := Lib.hid hC
    go_enter Try.func23, Try.ntmps23
    go_wp2_with fail
    rw [hw1.out]
    refine (as_boolB h1 (implValidPattern_c p _ _ _ _ _ (hp.below hb) hl)).mono ?_
    rintro e w2 ⟨rfl, hb2⟩
    replace hb := upw hb hb2
    have V2 := V.below hb2
    clear c0 c1 c2
    obtain ⟨c0, c1, c2, _⟩ := PatV.of V2 (hp.below hb)
    go_wp2_with fail
    refine wp_region_held_drew (S := (fun w' => w'.cell? ⟨w.heap.size, 0, none⟩ = some (.slice pa p.pieces.length pc) ∧ w'.cell? ⟨w.heap.size, 1, none⟩ = some (.slice sa p.seams.length sc) ∧ w'.cell? ⟨w.heap.size, 2, none⟩ = some (.int .i64 p.openings))) (by kernel_rfl) ⟨c0, c1, c2⟩ (fun hHeld => ?_)
    refine wpAnyH_take (i := 0) (v := _) rfl (by kernel_rfl) (by kernel_rfl) (by kernel_rfl) (fun _ _ _ h => h) (Or.inl ⟨by rfl, (by intro w hSw; (try dsimp only at hSw); go_simp; try with_reducible rfl)⟩) (by assumption) ?_
    go_simp
    refine wpAnyH_take (i := 2) (v := _) rfl (by kernel_rfl) (by kernel_rfl) (by kernel_rfl) (fun _ _ _ h => h) (Or.inl ⟨by rfl, (by intro w hSw; (try dsimp only at hSw); go_simp; try with_reducible rfl)⟩) (by assumption) ?_
    go_simp
    refine wpAnyH_take (i := 5) (v := _) rfl (by kernel_rfl) (by kernel_rfl) (by kernel_rfl) (fun _ _ _ h => h) (Or.inl ⟨by rfl, (by intro w hSw; (try dsimp only at hSw); go_simp; try with_reducible rfl)⟩) (by assumption) ?_
    go_simp
    refine wpAnyH_take (i := 6) (v := _) rfl (by kernel_rfl) (by kernel_rfl) (by kernel_rfl) (fun _ _ _ h => h) (Or.inl ⟨by rfl, (by intro w hSw; (try dsimp only at hSw); go_simp; try with_reducible rfl)⟩) (by assumption) ?_
    go_simp
    refine wpAnyH_take (i := 7) (v := _) rfl (by kernel_rfl) (by kernel_rfl) (by kernel_rfl) (fun _ _ _ h => h) (Or.inl ⟨by rfl, (by intro w hSw; (try dsimp only at hSw); go_simp; try with_reducible rfl)⟩) (by assumption) ?_
    go_simp
    refine wpAnyH_take (i := 10) (v := _) rfl (by kernel_rfl) (by kernel_rfl) (by kernel_rfl) (fun _ _ _ h => h) (Or.inl ⟨by rfl, (by intro w hSw; (try dsimp only at hSw); go_simp; try with_reducible rfl)⟩) (by assumption) ?_
    go_simp
    refine wpAnyH_take (i := 11) (v := _) rfl (by kernel_rfl) (by kernel_rfl) (by kernel_rfl) (fun _ _ _ h => h) (Or.inl ⟨by rfl, (by intro w hSw; (try dsimp only at hSw); go_simp; try with_reducible rfl)⟩) (by assumption) ?_
    go_simp
    refine wpAnyH_take (i := 12) (v := _) rfl (by kernel_rfl) (by kernel_rfl) (by kernel_rfl) (fun _ _ _ h => h) (Or.inl ⟨by rfl, (by intro w hSw; (try dsimp only at hSw); go_simp; try with_reducible rfl)⟩) (by assumption) ?_
    go_simp
    refine wpAnyH_ready (rs := [1]) (by kernel_rfl) (by simp) ?_
    refine AllReadyH.cons rfl (fun K hK => ?_) AllReadyH.nil
    go_simp
    refine (corners_c p _ _ _ _ _ (hp.below hb.drew) hl ok.out).mono ?_
    rintro e w3 ⟨rfl, hb3⟩
    replace hb3 := upw (Below.refl w2.heap.size w2).drew hb3
    rw [← hC.out]
    go_simp
    refine hK.out _ _ (by exact ⟨kept_cell c0 hb3, kept_cell c1 hb3, kept_cell c2 hb3⟩) (fun hHeld => ?_)
    clear hK K
    go_simp
    refine wpAnyH_ready (rs := [3]) (by kernel_rfl) (by simp) ?_
    refine AllReadyH.cons rfl (fun K hK => ?_) AllReadyH.nil
    go_simp
    (refine (edges_c p _ _ _ _ _ (hp.below (upw hb hb3)) ok.out).mono ?_; rintro e w4 ⟨v, rfl, hO, hb4⟩; have hb34 := upw hb3 hb4; obtain ⟨av, cv, rfl, _⟩ := hO.at; clear hO; rw [show (edgesOf p).length = n from hn.out.symm]; go_simp)
    refine hK.out _ _ ⟨kept_cell c0 hb34, kept_cell c1 hb34, kept_cell c2 hb34⟩ (fun hHeld => ?_)
    clear hK K
    go_simp
    refine wpAnyH_take (i := 4) (v := _) rfl (by kernel_rfl) (by kernel_rfl) (by kernel_rfl) (fun _ _ _ h => h) (Or.inl ⟨by rfl, (by intro w hSw; (try dsimp only at hSw); go_simp; try with_reducible rfl)⟩) (by assumption) ?_
    go_simp
    refine wpAnyH_take (i := 8) (v := _) rfl (by kernel_rfl) (by kernel_rfl) (by kernel_rfl) (fun _ _ _ h => h) (Or.inl ⟨by rfl, (by intro w hSw; (try dsimp only at hSw); go_simp; try with_reducible rfl)⟩) (by assumption) ?_
    go_simp
    refine wpAnyH_take (i := 9) (v := _) rfl (by kernel_rfl) (by kernel_rfl) (by kernel_rfl) (fun _ _ _ h => h) (Or.inl ⟨by rfl, (by intro w hSw; (try dsimp only at hSw); go_simp; try with_reducible rfl)⟩) (by assumption) ?_
    go_simp
    refine wpAnyH_take (i := 13) (v := _) rfl (by kernel_rfl) (by kernel_rfl) (by kernel_rfl) (fun _ _ _ h => h) (Or.inl ⟨by rfl, (by intro w hSw; (try dsimp only at hSw); go_simp; try with_reducible rfl)⟩) (by assumption) ?_
    go_simp
    refine wpAnyH_take (i := 14) (v := _) rfl (by kernel_rfl) (by kernel_rfl) (by kernel_rfl) (fun _ _ _ h => h) (Or.inl ⟨by rfl, (by intro w hSw; (try dsimp only at hSw); go_simp; try with_reducible rfl)⟩) (by assumption) ?_
    go_simp
    refine wpAnyH_take (i := 15) (v := _) rfl (by kernel_rfl) (by kernel_rfl) (by kernel_rfl) (fun _ _ _ h => h) (Or.inl ⟨by rfl, (by intro w hSw; (try dsimp only at hSw); go_simp; try with_reducible rfl)⟩) (by assumption) ?_
    go_simp
    refine wpAnyH_done (by kernel_rfl) ?_ _
    go_wp2_with fail
    go_ret2
    exact ⟨by rw [hr'.out]; rfl, upw hb hb34⟩
end Go.Proofs.Ytlmhiocmldhkhaa
