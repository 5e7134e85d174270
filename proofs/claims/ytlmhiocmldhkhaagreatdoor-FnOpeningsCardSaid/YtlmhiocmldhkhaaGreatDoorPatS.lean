/- Patterns, the reference: AddSeam. -/
import Derived.Test.YtlmhiocmldhkhaaGreatDoorPatO
namespace Go.Proofs.YtlmhiocmldhkhaaGreatDoor
open Go.RowKit

def zeroPat : Pattern := ⟨[], [], 0⟩
/-- A seam meets an edge that has one, or one edge twice. -/
def clash (p : Pattern) (s : Seam) : Bool := decide (0 < times p.seams (endA s)) || (decide (0 < times p.seams (endB s)) || (decide (s.A = s.B) && decide (s.EdgeA = s.EdgeB)))
/-- What AddSeam answers. -/
def addRes (p : Pattern) (s : Seam) : Pattern × Int := if okPattern p then (if hasSeam p s then (if clash p s then (zeroPat, 9) else (⟨p.pieces, p.seams ++ [s], p.openings⟩, 0)) else (zeroPat, 2)) else (zeroPat, 1)
theorem addRes_bad {p : Pattern} {s : Seam} (h : okPattern p = false) : addRes p s = (zeroPat, 1) := by unfold addRes; rw [h]; rfl
theorem addRes_range {p : Pattern} {s : Seam} (h : okPattern p = true) (h2 : hasSeam p s = false) : addRes p s = (zeroPat, 2) := by unfold addRes; rw [h, h2]; rfl
theorem addRes_clash {p : Pattern} {s : Seam} (h : okPattern p = true) (h2 : hasSeam p s = true) (h3 : clash p s = true) : addRes p s = (zeroPat, 9) := by unfold addRes; rw [h, h2, h3]; rfl
theorem addRes_ok {p : Pattern} {s : Seam} (h : okPattern p = true) (h2 : hasSeam p s = true) (h3 : clash p s = false) : addRes p s = (⟨p.pieces, p.seams ++ [s], p.openings⟩, 0) := by unfold addRes; rw [h, h2, h3]; rfl
theorem own_zeroPat (B : Nat) (w : World) : OwnPat B w none 0 none 0 [] zeroPat :=
  ⟨World.ownsRow_nil _ _ _ _, ⟨rfl, fun i j hi => absurd hi (Nat.not_lt_zero _), fun i h1 => absurd h1 (Nat.not_lt_zero _)⟩, World.ownsRow_nil _ _ _ _, fun r h => by simp at h, apart_none _⟩
/-- What the walks of AddSeam carry: the pattern's variable and rows, the seam's variable, the result's. -/
structure AddV (B0 : Nat) (w wn : World) (pa : Option Addr) (pc : Nat) (sa : Option Addr) (sc : Nat) (rs : List RawP) (p : Pattern) (s : Seam) : Prop where
  pv : PatV wn w.heap.size pa pc sa sc p
  own : OwnPat B0 wn pa pc sa sc rs p
  s0 : wn.cell? ⟨w.heap.size + 1, 0, none⟩ = some (.int .i64 s.A)
  s1 : wn.cell? ⟨w.heap.size + 1, 1, none⟩ = some (.int .i64 s.EdgeA)
  s2 : wn.cell? ⟨w.heap.size + 1, 2, none⟩ = some (.int .i64 s.B)
  s3 : wn.cell? ⟨w.heap.size + 1, 3, none⟩ = some (.int .i64 s.EdgeB)
  res : Own (w.heap.size + 1 + 1) wn 27 (.slice (some ⟨w.heap.size + 1 + 1, 0, none⟩) 1 1) [zeroT]
  up : Below w.heap.size w wn
theorem AddV.later {B0 : Nat} {w wn w' : World} {pa : Option Addr} {pc : Nat} {sa : Option Addr} {sc : Nat} {rs : List RawP} {p : Pattern} {s : Seam} (h : AddV B0 w wn pa pc sa sc rs p s) (hb : Below wn.heap.size wn w') : AddV B0 w w' pa pc sa sc rs p s :=
  ⟨h.pv.below hb, h.own.later hb, kept_cell h.s0 hb, kept_cell h.s1 hb, kept_cell h.s2 hb, kept_cell h.s3 hb, h.res.later hb, upw h.up hb⟩
theorem AddV.new {B0 : Nat} {w : World} {pa : Option Addr} {pc : Nat} {sa : Option Addr} {sc : Nat} {rs : List RawP} {p : Pattern} {s : Seam} (h : OwnPat B0 w pa pc sa sc rs p) :
    ∃ wn, ((w.alloc (.cells #[.slice pa p.pieces.length pc, .slice sa p.seams.length sc, .int .i64 p.openings] 27)).alloc (.cells #[.int .i64 s.A, .int .i64 s.EdgeA, .int .i64 s.B, .int .i64 s.EdgeB] 46)).alloc (.cells #[.slice none 0 0, .slice none 0 0, .int .i64 0] 27) = wn ∧ AddV B0 w wn pa pc sa sc rs p s := by
  obtain ⟨wa, hwa, hP, hs1, ha⟩ := patV_new p pa pc sa sc w h.lie
  obtain ⟨wb, hwb⟩ : ∃ wb, wb = wa.alloc (.cells #[.int .i64 s.A, .int .i64 s.EdgeA, .int .i64 s.B, .int .i64 s.EdgeB] 46) := ⟨_, rfl⟩
  have hb : Below wa.heap.size wa wb := by rw [hwb]; exact new_below _ _
  obtain ⟨c0, c1, c2, c3⟩ := newSeam_cells wa 46 s
  have hs2 : wb.heap.size = w.heap.size + 1 + 1 := by rw [hwb]; simp [hs1]
  rw [← hwb, hs1] at c0 c1 c2 c3
  obtain ⟨wc, hwc⟩ : ∃ wc, wc = wb.alloc (.cells #[.slice none 0 0, .slice none 0 0, .int .i64 0] 27) := ⟨_, rfl⟩
  have hc : Below wb.heap.size wb wc := by rw [hwc]; exact new_below _ _
  have hR := own_rawT wb 27 zeroT
  rw [hs2] at hR
  refine ⟨wc, by rw [hwc, hwb, hwa], (hP.below hb).below hc, (((h.later ha).later hb).later hc), kept_cell c0 hc, kept_cell c1 hc, kept_cell c2 hc, kept_cell c3 hc, ?_, upw (upw ha hb) hc⟩
  rw [hwc]; exact hR
theorem patW_of {B : Nat} {w : World} {pa : Option Addr} {pc : Nat} {sa : Option Addr} {sc : Nat} {rs : List RawP} {p : Pattern} (h : OwnPat B w pa pc sa sc rs p) (hB : B ≤ w.heap.size) : PatW B (w.alloc (.cells #[.slice pa p.pieces.length pc, .slice sa p.seams.length sc, .int .i64 p.openings] 27)) w.heap.size pa pc sa sc rs p :=
  ⟨h.later (new_below _ _), (own_patC w _ _ _ _ _ _ _ _).base hB, fun r hr => apart_lt (fun k hk => (h.rowlt r hr k hk).2) (fun k hk => by simp at hk; omega), apart_lt (fun k hk => (h.row.lt k hk).2) (fun k hk => by simp at hk; omega), apart_lt (fun k hk => (h.seams.lt k hk).2) (fun k hk => by simp at hk; omega)⟩
set_option maxRecDepth 100000 in
set_option maxHeartbeats 8000000 in
theorem specAddSeam_c (B0 : Nat) (p : Pattern) (pa : Option Addr) (pc : Nat) (sa : Option Addr) (sc : Nat) (rs : List RawP) (s : Seam) (w : World) (hO : OwnPat B0 w pa pc sa sc rs p) (hl : totPattern p ≤ 1048576) :
    Calls Tryz.prog 31 #[.agg #[.slice pa p.pieces.length pc, .slice sa p.seams.length sc, .int .i64 p.openings], .agg #[.int .i64 s.A, .int .i64 s.EdgeA, .int .i64 s.B, .int .i64 s.EdgeB]] w fun e w' => ∃ pa' pc' sa' sc' rs', e = .returned (.tuple #[.agg #[.slice pa' (addRes p s).1.pieces.length pc', .slice sa' (addRes p s).1.seams.length sc', .int .i64 (addRes p s).1.openings], .int .i64 (addRes p s).2]) ∧ OwnPat w.heap.size w' pa' pc' sa' sc' rs' (addRes p s).1 ∧ Below w.heap.size w w' := by
  obtain ⟨w1, hw1, D⟩ := AddV.new (s := s) hO
  replace hw1 := Lib.hid hw1
  have s0 := D.s0
  have s1 := D.s1
  have s2 := D.s2
  have s3 := D.s3
  have hsl : p.seams.length + 1 ≤ 4294967296 := by unfold totPattern at hl; omega
  replace D := Lib.hid D
  have C1 := fun w' hP => l08Times_c p w.heap.size pa pc sa sc (endA s) w' hP hl
  have C2 := fun w' hP => l08Times_c p w.heap.size pa pc sa sc (endB s) w' hP hl
  simp only [endA, endB] at C1 C2
  obtain ⟨T1, hT1⟩ : ∃ T, T = times p.seams (endA s) := ⟨_, rfl⟩
  obtain ⟨T2, hT2⟩ : ∃ T, T = times p.seams (endB s) := ⟨_, rfl⟩
  have hcl0 : clash p s = (decide (0 < T1) || (decide (0 < T2) || (decide (s.A = s.B) && decide (s.EdgeA = s.EdgeB)))) := by rw [hT1, hT2]; rfl
  simp only [endA, endB] at hT1 hT2
  rw [← hT1] at C1
  rw [← hT2] at C2
  replace hT1 := Lib.hid hT1
  replace hT2 := Lib.hid hT2
  replace C1 := Lib.hid C1
  replace C2 := Lib.hid C2
  obtain ⟨q, hq⟩ : ∃ q, q = clash p s := ⟨_, rfl⟩
  rw [← hq] at hcl0
  replace hq := Lib.hid hq
  cases h1 : okPattern p
  · rw [addRes_bad h1]
    go_enter Tryz.func31, Tryz.ntmps31
    go_wp2_with (first | rw [hw1.out] | (go_at_call 28; refine (l08Ok_c p _ _ _ _ _ _ D.out.pv hl).mono ?_; rintro e w2 ⟨rfl, hb2⟩; rw [h1]; replace D := Lib.hid (D.out.later hb2); replace s0 := kept_cell s0 hb2; replace s1 := kept_cell s1 hb2; replace s2 := kept_cell s2 hb2; replace s3 := kept_cell s3 hb2; clear hb2) | (go_at_call 59; refine (l08Seam_c p _ _ _ _ _ s _ D.out.pv hl).mono ?_; rintro e w2 ⟨rfl, hb2⟩; rw [h2]; replace D := Lib.hid (D.out.later hb2); replace s0 := kept_cell s0 hb2; replace s1 := kept_cell s1 hb2; replace s2 := kept_cell s2 hb2; replace s3 := kept_cell s3 hb2; clear hb2) | (go_at_call 60; first | (with_reducible refine (C1.out _ D.out.pv).mono ?_; rintro e w2 ⟨rfl, hb2⟩; replace D := Lib.hid (D.out.later hb2); replace s0 := kept_cell s0 hb2; replace s1 := kept_cell s1 hb2; replace s2 := kept_cell s2 hb2; replace s3 := kept_cell s3 hb2; clear hb2) | (with_reducible refine (C2.out _ D.out.pv).mono ?_; rintro e w2 ⟨rfl, hb2⟩; replace D := Lib.hid (D.out.later hb2); replace s0 := kept_cell s0 hb2; replace s1 := kept_cell s1 hb2; replace s2 := kept_cell s2 hb2; replace s3 := kept_cell s3 hb2; clear hb2)) | ((with_reducible refine at_st 27 (.tmp 4) (.tmp 9) ?_); refine wpList_store_own rfl 27 (.tmp 4) (.tmp 9) rfl (w.heap.size + 1 + 1) 27 _ 1 1 [zeroT] 0 _ (zeroT : RawT) rfl rfl rfl (by kernel_rfl) rfl D.out.res (by simp) ?_; intro wq hRq hgq))
    obtain ⟨q0, q1, q2⟩ := rawT_cells hRq
    have hbq := below_mark D.out.up D.out.res (by omega) hgq
    refine bodyPost_ret (v := .tuple #[.agg #[.slice none 0 0, .slice none 0 0, .int .i64 0], .int .i64 1]) (by simp [results, Tryz.results31, go_sem, q0, q1, q2, zeroT]) rfl ?_
    clear s0 s1 s2 s3
    exact ⟨none, 0, none, 0, [], rfl, own_zeroPat _ _, hbq⟩
  · cases h2 : hasSeam p s
    · rw [addRes_range h1 h2]
      go_enter Tryz.func31, Tryz.ntmps31
      go_wp2_with (first | rw [hw1.out] | (go_at_call 28; refine (l08Ok_c p _ _ _ _ _ _ D.out.pv hl).mono ?_; rintro e w2 ⟨rfl, hb2⟩; rw [h1]; replace D := Lib.hid (D.out.later hb2); replace s0 := kept_cell s0 hb2; replace s1 := kept_cell s1 hb2; replace s2 := kept_cell s2 hb2; replace s3 := kept_cell s3 hb2; clear hb2) | (go_at_call 59; refine (l08Seam_c p _ _ _ _ _ s _ D.out.pv hl).mono ?_; rintro e w2 ⟨rfl, hb2⟩; rw [h2]; replace D := Lib.hid (D.out.later hb2); replace s0 := kept_cell s0 hb2; replace s1 := kept_cell s1 hb2; replace s2 := kept_cell s2 hb2; replace s3 := kept_cell s3 hb2; clear hb2) | (go_at_call 60; first | (with_reducible refine (C1.out _ D.out.pv).mono ?_; rintro e w2 ⟨rfl, hb2⟩; replace D := Lib.hid (D.out.later hb2); replace s0 := kept_cell s0 hb2; replace s1 := kept_cell s1 hb2; replace s2 := kept_cell s2 hb2; replace s3 := kept_cell s3 hb2; clear hb2) | (with_reducible refine (C2.out _ D.out.pv).mono ?_; rintro e w2 ⟨rfl, hb2⟩; replace D := Lib.hid (D.out.later hb2); replace s0 := kept_cell s0 hb2; replace s1 := kept_cell s1 hb2; replace s2 := kept_cell s2 hb2; replace s3 := kept_cell s3 hb2; clear hb2)) | ((with_reducible refine at_st 27 (.tmp 4) (.tmp 13) ?_); refine wpList_store_own rfl 27 (.tmp 4) (.tmp 13) rfl (w.heap.size + 1 + 1) 27 _ 1 1 [zeroT] 0 _ (zeroT : RawT) rfl rfl rfl (by kernel_rfl) rfl D.out.res (by simp) ?_; intro wq hRq hgq))
      obtain ⟨q0, q1, q2⟩ := rawT_cells hRq
      have hbq := below_mark D.out.up D.out.res (by omega) hgq
      refine bodyPost_ret (v := .tuple #[.agg #[.slice none 0 0, .slice none 0 0, .int .i64 0], .int .i64 2]) (by simp [results, Tryz.results31, go_sem, q0, q1, q2, zeroT]) rfl ?_
      clear s0 s1 s2 s3
      exact ⟨none, 0, none, 0, [], rfl, own_zeroPat _ _, hbq⟩
    · by_cases h3 : 0 < T1
      · have h3' : (0 : Int) < (T1 : Nat) := by omega
        have hcl : clash p s = true := by rw [← hq.out, hcl0]; simp [h3]
        clear hcl0
        rw [addRes_clash h1 h2 hcl]
        go_enter Tryz.func31, Tryz.ntmps31
        go_wp2_with (first | rw [hw1.out] | (go_at_call 28; refine (l08Ok_c p _ _ _ _ _ _ D.out.pv hl).mono ?_; rintro e w2 ⟨rfl, hb2⟩; rw [h1]; replace D := Lib.hid (D.out.later hb2); replace s0 := kept_cell s0 hb2; replace s1 := kept_cell s1 hb2; replace s2 := kept_cell s2 hb2; replace s3 := kept_cell s3 hb2; clear hb2) | (go_at_call 59; refine (l08Seam_c p _ _ _ _ _ s _ D.out.pv hl).mono ?_; rintro e w2 ⟨rfl, hb2⟩; rw [h2]; replace D := Lib.hid (D.out.later hb2); replace s0 := kept_cell s0 hb2; replace s1 := kept_cell s1 hb2; replace s2 := kept_cell s2 hb2; replace s3 := kept_cell s3 hb2; clear hb2) | (go_at_call 60; first | (with_reducible refine (C1.out _ D.out.pv).mono ?_; rintro e w2 ⟨rfl, hb2⟩; replace D := Lib.hid (D.out.later hb2); replace s0 := kept_cell s0 hb2; replace s1 := kept_cell s1 hb2; replace s2 := kept_cell s2 hb2; replace s3 := kept_cell s3 hb2; clear hb2) | (with_reducible refine (C2.out _ D.out.pv).mono ?_; rintro e w2 ⟨rfl, hb2⟩; replace D := Lib.hid (D.out.later hb2); replace s0 := kept_cell s0 hb2; replace s1 := kept_cell s1 hb2; replace s2 := kept_cell s2 hb2; replace s3 := kept_cell s3 hb2; clear hb2)) | ((with_reducible refine at_st 27 (.tmp 4) (.tmp 42) ?_); refine wpList_store_own rfl 27 (.tmp 4) (.tmp 42) rfl (w.heap.size + 1 + 1) 27 _ 1 1 [zeroT] 0 _ (zeroT : RawT) rfl rfl rfl (by kernel_rfl) rfl D.out.res (by simp) ?_; intro wq hRq hgq))
        obtain ⟨q0, q1, q2⟩ := rawT_cells hRq
        have hbq := below_mark D.out.up D.out.res (by omega) hgq
        refine bodyPost_ret (v := .tuple #[.agg #[.slice none 0 0, .slice none 0 0, .int .i64 0], .int .i64 9]) (by simp [results, Tryz.results31, go_sem, q0, q1, q2, zeroT]) rfl ?_
        clear s0 s1 s2 s3
        exact ⟨none, 0, none, 0, [], rfl, own_zeroPat _ _, hbq⟩
      · have h3' : ¬ (0 : Int) < (T1 : Nat) := by omega
        by_cases h4 : 0 < T2
        · have h4' : (0 : Int) < (T2 : Nat) := by omega
          have hcl : clash p s = true := by rw [← hq.out, hcl0]; simp [h3, h4]
          clear hcl0
          rw [addRes_clash h1 h2 hcl]
          go_enter Tryz.func31, Tryz.ntmps31
          go_wp2_with (first | rw [hw1.out] | (go_at_call 28; refine (l08Ok_c p _ _ _ _ _ _ D.out.pv hl).mono ?_; rintro e w2 ⟨rfl, hb2⟩; rw [h1]; replace D := Lib.hid (D.out.later hb2); replace s0 := kept_cell s0 hb2; replace s1 := kept_cell s1 hb2; replace s2 := kept_cell s2 hb2; replace s3 := kept_cell s3 hb2; clear hb2) | (go_at_call 59; refine (l08Seam_c p _ _ _ _ _ s _ D.out.pv hl).mono ?_; rintro e w2 ⟨rfl, hb2⟩; rw [h2]; replace D := Lib.hid (D.out.later hb2); replace s0 := kept_cell s0 hb2; replace s1 := kept_cell s1 hb2; replace s2 := kept_cell s2 hb2; replace s3 := kept_cell s3 hb2; clear hb2) | (go_at_call 60; first | (with_reducible refine (C1.out _ D.out.pv).mono ?_; rintro e w2 ⟨rfl, hb2⟩; replace D := Lib.hid (D.out.later hb2); replace s0 := kept_cell s0 hb2; replace s1 := kept_cell s1 hb2; replace s2 := kept_cell s2 hb2; replace s3 := kept_cell s3 hb2; clear hb2) | (with_reducible refine (C2.out _ D.out.pv).mono ?_; rintro e w2 ⟨rfl, hb2⟩; replace D := Lib.hid (D.out.later hb2); replace s0 := kept_cell s0 hb2; replace s1 := kept_cell s1 hb2; replace s2 := kept_cell s2 hb2; replace s3 := kept_cell s3 hb2; clear hb2)) | ((with_reducible refine at_st 27 (.tmp 4) (.tmp 42) ?_); refine wpList_store_own rfl 27 (.tmp 4) (.tmp 42) rfl (w.heap.size + 1 + 1) 27 _ 1 1 [zeroT] 0 _ (zeroT : RawT) rfl rfl rfl (by kernel_rfl) rfl D.out.res (by simp) ?_; intro wq hRq hgq))
          obtain ⟨q0, q1, q2⟩ := rawT_cells hRq
          have hbq := below_mark D.out.up D.out.res (by omega) hgq
          refine bodyPost_ret (v := .tuple #[.agg #[.slice none 0 0, .slice none 0 0, .int .i64 0], .int .i64 9]) (by simp [results, Tryz.results31, go_sem, q0, q1, q2, zeroT]) rfl ?_
          clear s0 s1 s2 s3
          exact ⟨none, 0, none, 0, [], rfl, own_zeroPat _ _, hbq⟩
        · have h4' : ¬ (0 : Int) < (T2 : Nat) := by omega
          by_cases h5 : s.A = s.B
          · by_cases h6 : s.EdgeA = s.EdgeB
            · have hcl : clash p s = true := by rw [← hq.out, hcl0]; simp [h3, h4, h5, h6]
              clear hcl0
              have h5b : (s.A == s.B) = true := by simp [h5]
              replace h5 := Lib.hid h5
              have h6b : (s.EdgeA == s.EdgeB) = true := by simp [h6]
              replace h6 := Lib.hid h6
              rw [addRes_clash h1 h2 hcl]
              go_enter Tryz.func31, Tryz.ntmps31
              go_wp2_with (first | rw [hw1.out] | (go_at_call 28; refine (l08Ok_c p _ _ _ _ _ _ D.out.pv hl).mono ?_; rintro e w2 ⟨rfl, hb2⟩; rw [h1]; replace D := Lib.hid (D.out.later hb2); replace s0 := kept_cell s0 hb2; replace s1 := kept_cell s1 hb2; replace s2 := kept_cell s2 hb2; replace s3 := kept_cell s3 hb2; clear hb2) | (go_at_call 59; refine (l08Seam_c p _ _ _ _ _ s _ D.out.pv hl).mono ?_; rintro e w2 ⟨rfl, hb2⟩; rw [h2]; replace D := Lib.hid (D.out.later hb2); replace s0 := kept_cell s0 hb2; replace s1 := kept_cell s1 hb2; replace s2 := kept_cell s2 hb2; replace s3 := kept_cell s3 hb2; clear hb2) | (go_at_call 60; first | (with_reducible refine (C1.out _ D.out.pv).mono ?_; rintro e w2 ⟨rfl, hb2⟩; replace D := Lib.hid (D.out.later hb2); replace s0 := kept_cell s0 hb2; replace s1 := kept_cell s1 hb2; replace s2 := kept_cell s2 hb2; replace s3 := kept_cell s3 hb2; clear hb2) | (with_reducible refine (C2.out _ D.out.pv).mono ?_; rintro e w2 ⟨rfl, hb2⟩; replace D := Lib.hid (D.out.later hb2); replace s0 := kept_cell s0 hb2; replace s1 := kept_cell s1 hb2; replace s2 := kept_cell s2 hb2; replace s3 := kept_cell s3 hb2; clear hb2)) | ((with_reducible refine at_st 27 (.tmp 4) (.tmp 42) ?_); refine wpList_store_own rfl 27 (.tmp 4) (.tmp 42) rfl (w.heap.size + 1 + 1) 27 _ 1 1 [zeroT] 0 _ (zeroT : RawT) rfl rfl rfl (by kernel_rfl) rfl D.out.res (by simp) ?_; intro wq hRq hgq))
              obtain ⟨q0, q1, q2⟩ := rawT_cells hRq
              have hbq := below_mark D.out.up D.out.res (by omega) hgq
              refine bodyPost_ret (v := .tuple #[.agg #[.slice none 0 0, .slice none 0 0, .int .i64 0], .int .i64 9]) (by simp [results, Tryz.results31, go_sem, q0, q1, q2, zeroT]) rfl ?_
              clear s0 s1 s2 s3
              exact ⟨none, 0, none, 0, [], rfl, own_zeroPat _ _, hbq⟩
            · have hcl : clash p s = false := by rw [← hq.out, hcl0]; simp [h3, h4, h5, h6]
              clear hcl0
              rw [addRes_ok h1 h2 hcl]
              clear hcl hq q
              have h5b : (s.A == s.B) = true := by simp [h5]
              replace h5 := Lib.hid h5
              have h6b : (s.EdgeA == s.EdgeB) = false := by simp [h6]
              replace h6 := Lib.hid h6
              go_enter Tryz.func31, Tryz.ntmps31
              go_wp2_with (first | rw [hw1.out] | (go_at_call 28; refine (l08Ok_c p _ _ _ _ _ _ D.out.pv hl).mono ?_; rintro e w2 ⟨rfl, hb2⟩; rw [h1]; replace D := Lib.hid (D.out.later hb2); replace s0 := kept_cell s0 hb2; replace s1 := kept_cell s1 hb2; replace s2 := kept_cell s2 hb2; replace s3 := kept_cell s3 hb2; clear hb2) | (go_at_call 59; refine (l08Seam_c p _ _ _ _ _ s _ D.out.pv hl).mono ?_; rintro e w2 ⟨rfl, hb2⟩; rw [h2]; replace D := Lib.hid (D.out.later hb2); replace s0 := kept_cell s0 hb2; replace s1 := kept_cell s1 hb2; replace s2 := kept_cell s2 hb2; replace s3 := kept_cell s3 hb2; clear hb2) | (go_at_call 60; first | (with_reducible refine (C1.out _ D.out.pv).mono ?_; rintro e w2 ⟨rfl, hb2⟩; replace D := Lib.hid (D.out.later hb2); replace s0 := kept_cell s0 hb2; replace s1 := kept_cell s1 hb2; replace s2 := kept_cell s2 hb2; replace s3 := kept_cell s3 hb2; clear hb2) | (with_reducible refine (C2.out _ D.out.pv).mono ?_; rintro e w2 ⟨rfl, hb2⟩; replace D := Lib.hid (D.out.later hb2); replace s0 := kept_cell s0 hb2; replace s1 := kept_cell s1 hb2; replace s2 := kept_cell s2 hb2; replace s3 := kept_cell s3 hb2; clear hb2)))
              refine (l08Own_c B0 p w.heap.size pa pc sa sc rs _ D.out.pv D.out.own hl).mono ?_
              rintro e w5 ⟨pa', pc', sa', sc', rs', rfl, hP, hb5⟩
              obtain ⟨B, hB⟩ : ∃ B, Hid (w.heap.size + 1 + 1 + 1 ≤ B) ∧ B ≤ w5.heap.size ∧ OwnPat B w5 pa' pc' sa' sc' rs' p := ⟨_, Lib.hid (by have h9 := (D.out.res.lt (w.heap.size + 1 + 1) rfl).2; omega), hb5.size, hP⟩
              obtain ⟨hB1, hB2, hP5⟩ := hB
              clear hP
              replace D := Lib.hid (D.out.later hb5); replace s0 := kept_cell s0 hb5; replace s1 := kept_cell s1 hb5; replace s2 := kept_cell s2 hb5; replace s3 := kept_cell s3 hb5; clear hb5
              obtain ⟨w6, hw6⟩ : ∃ w6, w6 = w5.alloc (.cells #[.slice pa' p.pieces.length pc', .slice sa' p.seams.length sc', .int .i64 p.openings] 27) := ⟨_, rfl⟩
              have hb6 : Below w5.heap.size w5 w6 := by rw [hw6]; exact new_below _ _
              have DP : PatW B w6 w5.heap.size pa' pc' sa' sc' rs' p := by rw [hw6]; exact patW_of hP5 hB2
              replace hw6 := Lib.hid hw6
              clear hP5
              replace D := Lib.hid (D.out.later hb6); replace s0 := kept_cell s0 hb6; replace s1 := kept_cell s1 hb6; replace s2 := kept_cell s2 hb6; replace s3 := kept_cell s3 hb6; clear hb6
              obtain ⟨x0, x1, x2⟩ := DP.cells
              replace DP := Lib.hid DP
              obtain ⟨w7, hw7⟩ : ∃ w7, w7 = w6.alloc (.cells #[.int .i64 s.A, .int .i64 s.EdgeA, .int .i64 s.B, .int .i64 s.EdgeB] 46) := ⟨_, rfl⟩
              have hb7 : Below w6.heap.size w6 w7 := by rw [hw7]; exact new_below _ _
              have htmp : w7.heap[w6.heap.size]? = some (.cells (Flat.el s).toArray 46 (0, 0)) := by rw [hw7]; exact heap_alloc_new _ _
              have hsz7 : Hid (w7.heap.size = w6.heap.size + 1) := Lib.hid (by rw [hw7]; simp)
              replace hw7 := Lib.hid hw7
              have hr7 := DP.out.pat.seams.later hb7
              have hB7 : B ≤ w7.heap.size := by have := DP.out.lt; have := hb7.size; omega
              have hne : w.heap.size + 1 + 1 ≠ w5.heap.size := by have := DP.out.lt; have := hB1.out; omega
              have hwB : w.heap.size ≤ B := by have := hB1.out; omega
              have hres := Lib.hid (D.out.res.later hb7)
              have hup := Lib.hid (upw D.out.up hb7)
              clear D
              go_wp2_with (first | rw [← hw6.out] | rw [← hw7.out] | (at_builtin; refine wpList_pushTo rfl (.tmp 45) (.tmp 47) 25 rfl B 46 (.agg #[.int .i64 0, .int .i64 0, .int .i64 0, .int .i64 0]) 32 Tryz.underlying25 infoSeam rfl _ p.seams s rfl hr7 w6.heap.size 1 rfl 46 htmp hsl (by decide) hB7 ?_; intro g' cap w8 hO' hg' hl'; have hV8 := (DP.out.var.later hb7).kept hg' (own_apart_ty (DP.out.var.later hb7) hr7 (by decide)); clear x0 x1 x2) | ((with_reducible refine at_st 25 (.tmp 49) (.tmp 48) ?_); refine wpList_store_own rfl 25 (.tmp 49) (.tmp 48) rfl B 27 w5.heap.size 3 3 (patC pa' p.pieces.length pc' sa' p.seams.length sc' p.openings) 1 1 (⟨.slice (some ⟨g', 0, none⟩) (p.seams.length + 1) cap, rfl⟩ : OneCell) rfl rfl rfl (by kernel_rfl) rfl hV8 (by show 1 < 3; omega) ?_; intro w9 hV9 hg9; replace hV9 : Own B w9 27 (.slice (some ⟨w5.heap.size, 0, none⟩) 3 3) (patC pa' p.pieces.length pc' (some ⟨g', 0, none⟩) (p.seams.length + 1) cap p.openings) := hV9; have hD9 := DP.out.pushSeam hb7 hO' hg' hl' hV9 hg9; have hres9 := Lib.hid ((hres.out.kept hg' (own_apart_ty hres.out hr7 (by decide))).kept hg9 (Or.inr (ne_blkP hne))); have hup9 := Lib.hid (below_mark (below_mark hup.out hr7 hwB hg') hV8 hwB hg9); clear hg' hg9 hl' hO' hV8; obtain ⟨x0, x1, x2⟩ := patC_cells hV9; clear hV9; replace hD9 := Lib.hid hD9) | ((with_reducible refine at_st 27 (.tmp 4) (.tmp 50) ?_); refine wpList_store_own rfl 27 (.tmp 4) (.tmp 50) rfl (w.heap.size + 1 + 1) 27 _ 1 1 [zeroT] 0 _ (⟨pa', p.pieces.length, pc', some ⟨g', 0, none⟩, p.seams.length + 1, cap, p.openings⟩ : RawT) rfl rfl rfl (by kernel_rfl) rfl hres9.out (by simp) ?_; intro wq hRq hgq))
              obtain ⟨q0, q1, q2⟩ := rawT_cells hRq
              have hbq := below_mark hup9.out hres9.out (by omega) hgq
              refine bodyPost_ret (v := .tuple #[.agg #[.slice pa' p.pieces.length pc', .slice (some ⟨g', 0, none⟩) (p.seams.length + 1) cap, .int .i64 p.openings], .int .i64 0]) (by simp [results, Tryz.results31, go_sem, q0, q1, q2]) rfl ?_
              have hP9 := hD9.out.pat
              have hB1' := hB1.out
              refine ⟨pa', pc', some ⟨g', 0, none⟩, cap, rs', by simp, ?_, hbq⟩
              exact (hP9.kept hgq (fun r hr => apart_gt (n := B) (fun k hk => (hP9.rowlt r hr k hk).1) (fun k hk => by simp at hk; omega)) (apart_gt (n := B) (fun k hk => (hP9.row.lt k hk).1) (fun k hk => by simp at hk; omega)) (apart_gt (n := B) (fun k hk => (hP9.seams.lt k hk).1) (fun k hk => by simp at hk; omega))).base hwB
          · have hcl : clash p s = false := by rw [← hq.out, hcl0]; simp [h3, h4, h5]
            clear hcl0
            rw [addRes_ok h1 h2 hcl]
            clear hcl hq q
            have h5b : (s.A == s.B) = false := by simp [h5]
            replace h5 := Lib.hid h5
            go_enter Tryz.func31, Tryz.ntmps31
            go_wp2_with (first | rw [hw1.out] | (go_at_call 28; refine (l08Ok_c p _ _ _ _ _ _ D.out.pv hl).mono ?_; rintro e w2 ⟨rfl, hb2⟩; rw [h1]; replace D := Lib.hid (D.out.later hb2); replace s0 := kept_cell s0 hb2; replace s1 := kept_cell s1 hb2; replace s2 := kept_cell s2 hb2; replace s3 := kept_cell s3 hb2; clear hb2) | (go_at_call 59; refine (l08Seam_c p _ _ _ _ _ s _ D.out.pv hl).mono ?_; rintro e w2 ⟨rfl, hb2⟩; rw [h2]; replace D := Lib.hid (D.out.later hb2); replace s0 := kept_cell s0 hb2; replace s1 := kept_cell s1 hb2; replace s2 := kept_cell s2 hb2; replace s3 := kept_cell s3 hb2; clear hb2) | (go_at_call 60; first | (with_reducible refine (C1.out _ D.out.pv).mono ?_; rintro e w2 ⟨rfl, hb2⟩; replace D := Lib.hid (D.out.later hb2); replace s0 := kept_cell s0 hb2; replace s1 := kept_cell s1 hb2; replace s2 := kept_cell s2 hb2; replace s3 := kept_cell s3 hb2; clear hb2) | (with_reducible refine (C2.out _ D.out.pv).mono ?_; rintro e w2 ⟨rfl, hb2⟩; replace D := Lib.hid (D.out.later hb2); replace s0 := kept_cell s0 hb2; replace s1 := kept_cell s1 hb2; replace s2 := kept_cell s2 hb2; replace s3 := kept_cell s3 hb2; clear hb2)))
            refine (l08Own_c B0 p w.heap.size pa pc sa sc rs _ D.out.pv D.out.own hl).mono ?_
            rintro e w5 ⟨pa', pc', sa', sc', rs', rfl, hP, hb5⟩
            obtain ⟨B, hB⟩ : ∃ B, Hid (w.heap.size + 1 + 1 + 1 ≤ B) ∧ B ≤ w5.heap.size ∧ OwnPat B w5 pa' pc' sa' sc' rs' p := ⟨_, Lib.hid (by have h9 := (D.out.res.lt (w.heap.size + 1 + 1) rfl).2; omega), hb5.size, hP⟩
            obtain ⟨hB1, hB2, hP5⟩ := hB
            clear hP
            replace D := Lib.hid (D.out.later hb5); replace s0 := kept_cell s0 hb5; replace s1 := kept_cell s1 hb5; replace s2 := kept_cell s2 hb5; replace s3 := kept_cell s3 hb5; clear hb5
            obtain ⟨w6, hw6⟩ : ∃ w6, w6 = w5.alloc (.cells #[.slice pa' p.pieces.length pc', .slice sa' p.seams.length sc', .int .i64 p.openings] 27) := ⟨_, rfl⟩
            have hb6 : Below w5.heap.size w5 w6 := by rw [hw6]; exact new_below _ _
            have DP : PatW B w6 w5.heap.size pa' pc' sa' sc' rs' p := by rw [hw6]; exact patW_of hP5 hB2
            replace hw6 := Lib.hid hw6
            clear hP5
            replace D := Lib.hid (D.out.later hb6); replace s0 := kept_cell s0 hb6; replace s1 := kept_cell s1 hb6; replace s2 := kept_cell s2 hb6; replace s3 := kept_cell s3 hb6; clear hb6
            obtain ⟨x0, x1, x2⟩ := DP.cells
            replace DP := Lib.hid DP
            obtain ⟨w7, hw7⟩ : ∃ w7, w7 = w6.alloc (.cells #[.int .i64 s.A, .int .i64 s.EdgeA, .int .i64 s.B, .int .i64 s.EdgeB] 46) := ⟨_, rfl⟩
            have hb7 : Below w6.heap.size w6 w7 := by rw [hw7]; exact new_below _ _
            have htmp : w7.heap[w6.heap.size]? = some (.cells (Flat.el s).toArray 46 (0, 0)) := by rw [hw7]; exact heap_alloc_new _ _
            have hsz7 : Hid (w7.heap.size = w6.heap.size + 1) := Lib.hid (by rw [hw7]; simp)
            replace hw7 := Lib.hid hw7
            have hr7 := DP.out.pat.seams.later hb7
            have hB7 : B ≤ w7.heap.size := by have := DP.out.lt; have := hb7.size; omega
            have hne : w.heap.size + 1 + 1 ≠ w5.heap.size := by have := DP.out.lt; have := hB1.out; omega
            have hwB : w.heap.size ≤ B := by have := hB1.out; omega
            have hres := Lib.hid (D.out.res.later hb7)
            have hup := Lib.hid (upw D.out.up hb7)
            clear D
            go_wp2_with (first | rw [← hw6.out] | rw [← hw7.out] | (at_builtin; refine wpList_pushTo rfl (.tmp 45) (.tmp 47) 25 rfl B 46 (.agg #[.int .i64 0, .int .i64 0, .int .i64 0, .int .i64 0]) 32 Tryz.underlying25 infoSeam rfl _ p.seams s rfl hr7 w6.heap.size 1 rfl 46 htmp hsl (by decide) hB7 ?_; intro g' cap w8 hO' hg' hl'; have hV8 := (DP.out.var.later hb7).kept hg' (own_apart_ty (DP.out.var.later hb7) hr7 (by decide)); clear x0 x1 x2) | ((with_reducible refine at_st 25 (.tmp 49) (.tmp 48) ?_); refine wpList_store_own rfl 25 (.tmp 49) (.tmp 48) rfl B 27 w5.heap.size 3 3 (patC pa' p.pieces.length pc' sa' p.seams.length sc' p.openings) 1 1 (⟨.slice (some ⟨g', 0, none⟩) (p.seams.length + 1) cap, rfl⟩ : OneCell) rfl rfl rfl (by kernel_rfl) rfl hV8 (by show 1 < 3; omega) ?_; intro w9 hV9 hg9; replace hV9 : Own B w9 27 (.slice (some ⟨w5.heap.size, 0, none⟩) 3 3) (patC pa' p.pieces.length pc' (some ⟨g', 0, none⟩) (p.seams.length + 1) cap p.openings) := hV9; have hD9 := DP.out.pushSeam hb7 hO' hg' hl' hV9 hg9; have hres9 := Lib.hid ((hres.out.kept hg' (own_apart_ty hres.out hr7 (by decide))).kept hg9 (Or.inr (ne_blkP hne))); have hup9 := Lib.hid (below_mark (below_mark hup.out hr7 hwB hg') hV8 hwB hg9); clear hg' hg9 hl' hO' hV8; obtain ⟨x0, x1, x2⟩ := patC_cells hV9; clear hV9; replace hD9 := Lib.hid hD9) | ((with_reducible refine at_st 27 (.tmp 4) (.tmp 50) ?_); refine wpList_store_own rfl 27 (.tmp 4) (.tmp 50) rfl (w.heap.size + 1 + 1) 27 _ 1 1 [zeroT] 0 _ (⟨pa', p.pieces.length, pc', some ⟨g', 0, none⟩, p.seams.length + 1, cap, p.openings⟩ : RawT) rfl rfl rfl (by kernel_rfl) rfl hres9.out (by simp) ?_; intro wq hRq hgq))
            obtain ⟨q0, q1, q2⟩ := rawT_cells hRq
            have hbq := below_mark hup9.out hres9.out (by omega) hgq
            refine bodyPost_ret (v := .tuple #[.agg #[.slice pa' p.pieces.length pc', .slice (some ⟨g', 0, none⟩) (p.seams.length + 1) cap, .int .i64 p.openings], .int .i64 0]) (by simp [results, Tryz.results31, go_sem, q0, q1, q2]) rfl ?_
            have hP9 := hD9.out.pat
            have hB1' := hB1.out
            refine ⟨pa', pc', some ⟨g', 0, none⟩, cap, rs', by simp, ?_, hbq⟩
            exact (hP9.kept hgq (fun r hr => apart_gt (n := B) (fun k hk => (hP9.rowlt r hr k hk).1) (fun k hk => by simp at hk; omega)) (apart_gt (n := B) (fun k hk => (hP9.row.lt k hk).1) (fun k hk => by simp at hk; omega)) (apart_gt (n := B) (fun k hk => (hP9.seams.lt k hk).1) (fun k hk => by simp at hk; omega))).base hwB
end Go.Proofs.YtlmhiocmldhkhaaGreatDoor
