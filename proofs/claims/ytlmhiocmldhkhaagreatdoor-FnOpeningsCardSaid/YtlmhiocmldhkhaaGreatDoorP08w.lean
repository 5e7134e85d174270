/- Chapter 8, patterns: the program's ValidPattern. -/
import Derived.Test.YtlmhiocmldhkhaaGreatDoorMapE
import Derived.Deep.DeepCutAuto
namespace Go.Proofs.YtlmhiocmldhkhaaGreatDoor
open Go.RowKit

def endA (s : Seam) : Edge := ⟨s.A, s.EdgeA⟩
def endB (s : Seam) : Edge := ⟨s.B, s.EdgeB⟩
set_option maxHeartbeats 800000 in
theorem sides_c (s : Seam) (w : World) :
    Calls Tryz.prog 55 #[.agg #[.int .i64 s.A, .int .i64 s.EdgeA, .int .i64 s.B, .int .i64 s.EdgeB]] w fun e w' => e = .returned (.tuple #[.agg #[.int .i64 s.A, .int .i64 s.EdgeA], .agg #[.int .i64 s.B, .int .i64 s.EdgeB]]) ∧ Below w.heap.size w w' := by
  go_enter Tryz.func55, Tryz.ntmps55
  go_wp2_with fail
  go_region
  all_goals
    go_wp2_with fail
    refine bodyPost_ret (v := .tuple #[.agg #[.int .i64 s.A, .int .i64 s.EdgeA], .agg #[.int .i64 s.B, .int .i64 s.EdgeB]]) (by simp [results, Tryz.results55, go_sem]) rfl ⟨rfl, ?_⟩
    exact ((((Below.refl _ _).alloc (by simp) _).alloc (by simp) _).alloc (by simp; omega) _).drew
set_option maxRecDepth 100000 in
set_option maxHeartbeats 1600000 in
theorem hasSeam_c (p : Pattern) (pa : Option Addr) (pc : Nat) (sa : Option Addr) (sc : Nat) (s : Seam) (w : World) (hp : LieP w pa sa p) (hl : totPattern p ≤ 1048576) :
    Calls Tryz.prog 25 #[.agg #[.slice pa p.pieces.length pc, .slice sa p.seams.length sc, .int .i64 p.openings], .agg #[.int .i64 s.A, .int .i64 s.EdgeA, .int .i64 s.B, .int .i64 s.EdgeB]] w fun en w' => en = .returned (.bool (hasSeam p s)) ∧ Below w.heap.size w w' := by
  obtain ⟨w1, hw1, hP, hs1, hb1⟩ := patV_new p pa pc sa sc w hp
  have hb2 := new_below w1 (.cells #[.int .i64 s.A, .int .i64 s.EdgeA, .int .i64 s.B, .int .i64 s.EdgeB] 46)
  obtain ⟨w2, hw2⟩ : ∃ w2, w2 = w1.alloc (.cells #[.int .i64 s.A, .int .i64 s.EdgeA, .int .i64 s.B, .int .i64 s.EdgeB] 46) := ⟨_, rfl⟩
  have HW := Lib.hid (show (w.alloc (.cells #[.slice pa p.pieces.length pc, .slice sa p.seams.length sc, .int .i64 p.openings] 27)).alloc (.cells #[.int .i64 s.A, .int .i64 s.EdgeA, .int .i64 s.B, .int .i64 s.EdgeB] 46) = w2 by rw [hw2, hw1])
  rw [← hw2] at hb2
  replace hP := hP.below hb2
  have hb : Below w.heap.size w w2 := upw hb1 hb2
  clear hw1 hw2 hs1 hb1 hb2
  have HC : ∀ (e : Edge) (r : Bool), hasEdge p e = r → Hid (∀ (w' : World), LieP w' pa sa p → Calls Tryz.prog 56 #[.agg #[.slice pa p.pieces.length pc, .slice sa p.seams.length sc, .int .i64 p.openings], .agg #[.int .i64 e.piece, .int .i64 e.number]] w' fun en w'' => en = .returned (.bool r) ∧ Below w'.heap.size w' w'') := fun e r h => Lib.hid (fun w' hp' => as_boolB h (hasEdge_c p pa pc sa sc e w' hp' hl))
  have hr : hasSeam p s = (hasEdge p (endA s) && hasEdge p (endB s)) := rfl
  rw [hr]
  cases h1 : hasEdge p (endA s)
  · have H1 := HC _ _ h1
    clear HC hr h1
    go_enter Tryz.func25, Tryz.ntmps25
    go_wp2_with fail
    rw [HW.out]
    refine (sides_c s _).mono ?_
    rintro e w3 ⟨rfl, hb3⟩
    replace hb := upw hb hb3
    replace hP := hP.below hb3
    obtain ⟨c0, c1, c2, hL⟩ := hP
    have hlt := block_lt_of_cell c0
    simp only at hlt
    have hb5 : Below w3.heap.size w3 ((w3.alloc (.cells #[.int .i64 s.A, .int .i64 s.EdgeA] 54)).alloc (.cells #[.int .i64 s.B, .int .i64 s.EdgeB] 54)) := upw (new_below _ _) (new_below _ _)
    replace hb := upw hb hb5
    replace hL := hL.below hb5
    clear hb5
    go_wp2_with fail
    refine (H1.out _ hL).mono ?_
    rintro e w6 ⟨rfl, hb6⟩
    replace hb := upw hb hb6
    go_wp2_with fail
    go_ret
    exact ⟨rfl, hb⟩
  · have H1 := HC _ _ h1
    cases h2 : hasEdge p (endB s)
    all_goals
      have H2 := HC _ _ h2
      clear HC hr h1 h2
      go_enter Tryz.func25, Tryz.ntmps25
      go_wp2_with fail
      rw [HW.out]
      refine (sides_c s _).mono ?_
      rintro e w3 ⟨rfl, hb3⟩
      replace hb := upw hb hb3
      replace hP := hP.below hb3
      obtain ⟨c0, c1, c2, hL⟩ := id hP
      have hlt := block_lt_of_cell c0
      simp only at hlt
      obtain ⟨w5, hw5⟩ : ∃ w5, w5 = (w3.alloc (.cells #[.int .i64 s.A, .int .i64 s.EdgeA] 54)).alloc (.cells #[.int .i64 s.B, .int .i64 s.EdgeB] 54) := ⟨_, rfl⟩
      have hb5 : Below w3.heap.size w3 w5 := by rw [hw5]; exact upw (new_below _ _) (new_below _ _)
      have V5 : Var w5 (w3.heap.size + 1) [.int .i64 s.B, .int .i64 s.EdgeB] := by
        rw [hw5, show w3.heap.size + 1 = (w3.alloc (.cells #[.int .i64 s.A, .int .i64 s.EdgeA] 54)).heap.size by simp]; exact Var.new2 _ _ _ _
      replace hb := upw hb hb5
      replace hP := hP.below hb5
      have HW5 := Lib.hid hw5
      clear hw5 hb5
      go_wp2_with fail
      rw [← HW5.out]
      refine (H1.out _ hP.lie).mono ?_
      rintro e w6 ⟨rfl, hb6⟩
      replace hb := upw hb hb6
      clear c0 c1 c2 hL hlt
      obtain ⟨c0, c1, c2, hL⟩ := hP.below hb6
      have d0 := (V5.below hb6).cell 0 _ rfl
      have d1 := (V5.below hb6).cell 1 _ rfl
      go_wp2_with fail
      refine (H2.out _ hL).mono ?_
      rintro e w7 ⟨rfl, hb7⟩
      replace hb := upw hb hb7
      go_wp2_with fail
      go_ret
      exact ⟨rfl, hb⟩
theorem validPattern2_c (p : Pattern) (pa : Option Addr) (pc : Nat) (sa : Option Addr) (sc : Nat) (b : Nat) (s : Seam) (w : World) (hP : PatV w b pa pc sa sc p) (hl : totPattern p ≤ 1048576) :
    Calls Tryz.prog 38 #[.agg #[.int .i64 s.A, .int .i64 s.EdgeA, .int .i64 s.B, .int .i64 s.EdgeB], .pointer (some ⟨b, 0, none⟩)] w fun en w' => en = .returned (.bool (!hasSeam p s)) ∧ Below w.heap.size w w' := by
  obtain ⟨c0, c1, c2, hL⟩ := hP
  have hlt := block_lt_of_cell c0
  simp only at hlt
  have hb := new_below w (.cells #[.int .i64 s.A, .int .i64 s.EdgeA, .int .i64 s.B, .int .i64 s.EdgeB] 46)
  go_enter Tryz.func38, Tryz.ntmps38
  go_wp2_with fail
  refine (hasSeam_c p _ _ _ _ s _ (hL.below hb) hl).mono ?_
  rintro e w2 ⟨rfl, hb2⟩
  replace hb := upw hb hb2
  go_wp2_with fail
  go_ret
  exact ⟨rfl, hb⟩
theorem validPattern2_enters : Enters Tryz.prog 38 := enters_of Tryz.func38 (by kernel_rfl) (by kernel_rfl)
def ev (e : Edge) : Value := ek e
/-- For each edge that the first k seams have the other one. -/
def joinTo (ss : List Seam) (k : Nat) : List (Edge × Edge) := (ss.take k).foldl (fun m s => putE (putE m (endA s) (endB s)) (endB s) (endA s)) []
theorem joinTo_succ (ss : List Seam) (k : Nat) (h : k < ss.length) : joinTo ss (k + 1) = putE (putE (joinTo ss k) (endA ss[k]) (endB ss[k])) (endB ss[k]) (endA ss[k]) := by
  unfold joinTo; rw [List.take_succ_eq_append_getElem h, List.foldl_append]; rfl
set_option maxRecDepth 100000 in
set_option maxHeartbeats 1600000 in
theorem joined_c (p : Pattern) (pa : Option Addr) (pc : Nat) (sa : Option Addr) (sc : Nat) (w : World) (hp : LieP w pa sa p) (hl : totPattern p ≤ 1048576) :
    Calls Tryz.prog 39 #[.agg #[.slice pa p.pieces.length pc, .slice sa p.seams.length sc, .int .i64 p.openings]] w fun en w' => ∃ r, en = .returned (.map (some r)) ∧ w.heap.size ≤ r ∧ MapAt ev w' r (joinTo p.seams p.seams.length) ∧ Below w.heap.size w w' := by
  have l2 : p.seams.length ≤ 1048576 := by unfold totPattern at hl; omega
  obtain ⟨w1, hw1, hP, hs1, hb1⟩ := patV_new p pa pc sa sc w hp
  obtain ⟨w2, hw2⟩ : ∃ w2, w2 = w1.alloc (.map #[] 0) := ⟨_, rfl⟩
  have hb2 : Below w1.heap.size w1 w2 := by rw [hw2]; exact new_below _ _
  have hM : MapAt ev w2 (w.heap.size + 1) [] := by rw [hw2, ← hs1]; exact MapAt.new ev w1
  have hs2 : w2.heap.size = w.heap.size + 1 + 1 := by rw [hw2]; simp [hs1]
  have HW := Lib.hid (show (w.alloc (.cells #[.slice pa p.pieces.length pc, .slice sa p.seams.length sc, .int .i64 p.openings] 27)).alloc (.map #[] 0) = w2 by rw [hw2, hw1])
  replace hP := hP.below hb2
  have hb : Below w.heap.size w w2 := upw hb1 hb2
  obtain ⟨c0, c1, c2, hL⟩ := hP
  clear hw1 hw2 hs1 hb1 hb2 c0 c2
  have hlt2 : w.heap.size + 1 < w2.heap.size := by omega
  clear hs2
  have hmm := @run_makeMap Tryz.prog
  go_enter Tryz.func39, Tryz.ntmps39
  go_wp2_with fail
  clear hmm
  rw [HW.out]
  go_loopw [12] (fun i wr => ∃ k : Nat, k ≤ p.seams.length ∧ i = .int .i64 k ∧ MapAt ev wr (w.heap.size + 1) (joinTo p.seams k) ∧ Below w.heap.size w wr) (fun i _ => p.seams.length - (intOf i).toNat)
  case atStart => exact ⟨0, Nat.zero_le _, rfl, hM, hb⟩
  case round =>
    clear hM hb hL
    obtain ⟨k, hk, rfl, hM, hb⟩ := hrel
    have hx := hp.seams.below hb
    by_cases hlt : k < p.seams.length
    · obtain ⟨b, off, rfl⟩ := hx.addr hlt
      have hbl := hx.lt hlt
      obtain ⟨c0, c1, c2, c3⟩ := hx.seam hlt
      have E := Lib.hid (joinTo_succ p.seams k hlt)
      go_wp2_with fail
      obtain ⟨w3, hw3⟩ : ∃ w3, w3 = wr.alloc (.cells #[.int .i64 p.seams[k].A, .int .i64 p.seams[k].EdgeA, .int .i64 p.seams[k].B, .int .i64 p.seams[k].EdgeB] 46) := ⟨_, rfl⟩
      have hb3 : Below wr.heap.size wr w3 := by rw [hw3]; exact new_below _ _
      rw [← hw3]
      replace hb := upw hb hb3
      replace hM := hM.below hb3
      clear hw3 hb3
      refine (sides_c p.seams[k] _).mono ?_
      rintro e w4 ⟨rfl, hb4⟩
      replace hb := upw hb hb4
      replace hM := hM.below hb4
      have hMl : w.heap.size + 1 < w4.heap.size := hM.lt
      obtain ⟨w5, hw5⟩ : ∃ w5, w5 = (w4.alloc (.cells #[.int .i64 p.seams[k].A, .int .i64 p.seams[k].EdgeA] 54)).alloc (.cells #[.int .i64 p.seams[k].B, .int .i64 p.seams[k].EdgeB] 54) := ⟨_, rfl⟩
      have hb5 : Below w4.heap.size w4 w5 := by rw [hw5]; exact upw (new_below _ _) (new_below _ _)
      have V4 : Var w5 w4.heap.size [.int .i64 p.seams[k].A, .int .i64 p.seams[k].EdgeA] := by rw [hw5]; exact (Var.new2 _ _ _ _).below (new_below _ _)
      have V5 : Var w5 (w4.heap.size + 1) [.int .i64 p.seams[k].B, .int .i64 p.seams[k].EdgeB] := by
        rw [hw5, show w4.heap.size + 1 = (w4.alloc (.cells #[.int .i64 p.seams[k].A, .int .i64 p.seams[k].EdgeA] 54)).heap.size by simp]; exact Var.new2 _ _ _ _
      have HW5 := Lib.hid hw5
      replace hb := upw hb hb5
      replace hM := hM.below hb5
      have d0 := V4.cell 0 _ rfl
      have d1 := V4.cell 1 _ rfl
      have d2 := V5.cell 0 _ rfl
      have d3 := V5.cell 1 _ rfl
      have n1 : some w4.heap.size ≠ some (w.heap.size + 1) := by have := hb4.size; have := hM.lt; have := hMl; exact some_ne (by omega)
      have n2 : some (w4.heap.size + 1) ≠ some (w.heap.size + 1) := by have := hMl; exact some_ne (by omega)
      clear hw5 hb5 V4 V5 c0 c1 c2 c3 hbl hx
      go_wp2_with fail
      rw [← HW5.out]
      obtain ⟨w6, hr6, hM6, hg6⟩ := (hM.below (Below.refl _ _).drew).update Tryz.underlying78 (endA p.seams[k]) (endB p.seams[k])
      obtain ⟨w7, hr7, hM7, hg7⟩ := hM6.update Tryz.underlying78 (endB p.seams[k]) (endA p.seams[k])
      simp only [ek, ev, endA, endB] at hr6 hr7
      have e0 := hg6.cell (a := ⟨w4.heap.size, 0, none⟩) d0 n1
      have e1 := hg6.cell (a := ⟨w4.heap.size, 1, none⟩) d1 n1
      have e2 := hg6.cell (a := ⟨w4.heap.size + 1, 0, none⟩) d2 n2
      have e3 := hg6.cell (a := ⟨w4.heap.size + 1, 1, none⟩) d3 n2
      have f0 := hg7.cell e0 n1
      have f1 := hg7.cell e1 n1
      have f2 := hg7.cell e2 n2
      have f3 := hg7.cell e3 n2
      go_region_held3 (fun w' => w'.cell? ⟨w4.heap.size, 0, none⟩ = some (.int .i64 p.seams[k].A) ∧ w'.cell? ⟨w4.heap.size, 1, none⟩ = some (.int .i64 p.seams[k].EdgeA) ∧ w'.cell? ⟨w4.heap.size + 1, 0, none⟩ = some (.int .i64 p.seams[k].B) ∧ w'.cell? ⟨w4.heap.size + 1, 1, none⟩ = some (.int .i64 p.seams[k].EdgeB)) (first | exact ⟨d0, d1, d2, d3⟩ | exact ⟨e0, e1, e2, e3⟩ | exact ⟨f0, f1, f2, f3⟩) (first | fail)
      go_wp2_with fail
      go_roundw
      case rel => exact ⟨k + 1, by omega, by go_num, by rw [E.out]; exact hM7, ((hb.drew.grown hg6 hb.size (by simp)).grown hg7 (hb.drew.grown hg6 hb.size (by simp)).size (by simp))⟩
      case measure => simp [intOf]; omega
    · obtain rfl : k = p.seams.length := by omega
      go_wp2_with fail
      go_ret
      exact ⟨_, rfl, by omega, hM, hb⟩
def fillE {β : Type} (L : List (Edge × β)) : List (Edge × β) := L.foldl (fun m x => putE m x.1 x.2) []
theorem fillE_snoc {β : Type} (L : List (Edge × β)) (x : Edge × β) : fillE (L ++ [x]) = putE (fillE L) x.1 x.2 := by simp [fillE, List.foldl_append]
theorem snoc_cases {α : Type} (L : List α) : L = [] ∨ ∃ M x, L = M ++ [x] := by
  rcases List.eq_nil_or_concat L with h | ⟨M, x, h⟩
  · exact Or.inl h
  · exact Or.inr ⟨M, x, by simpa using h⟩
theorem fillE_keys {β : Type} : ∀ (n : Nat) (L : List (Edge × β)), L.length = n → (∀ e, e ∈ keysE (fillE L) ↔ e ∈ keysE L) ∧ (fillE L).length ≤ n ∧ ((fillE L).length = n ↔ (keysE L).Nodup)
  | 0, L, h => by
    obtain rfl : L = [] := List.eq_nil_of_length_eq_zero h
    simp [fillE, keysE]
  | n + 1, L, h => by
    rcases snoc_cases L with rfl | ⟨M, x, rfl⟩
    · simp at h
    · have hM : M.length = n := by simpa using h
      obtain ⟨h1, h2, h3⟩ := fillE_keys n M hM
      rw [fillE_snoc]
      have hk : keysE (M ++ [x]) = keysE M ++ [x.1] := by simp [keysE]
      by_cases hx : x.1 ∈ keysE (fillE M)
      · have h4 := putE_old (v := x.2) hx
        have h5 : (putE (fillE M) x.1 x.2).length = (fillE M).length := by have := congrArg List.length h4; simpa [keysE] using this
        refine ⟨fun e => ?_, by omega, ?_⟩
        · rw [h4, h1, hk]
          simp only [List.mem_append, List.mem_singleton]
          constructor
          · exact fun h => Or.inl h
          · rintro (h | rfl)
            · exact h
            · exact (h1 _).1 hx
        · rw [hk, h5]
          constructor
          · intro h; omega
          · intro h
            have := (List.nodup_append.1 h).2.2 x.1 ((h1 _).1 hx) x.1 (by simp)
            exact absurd rfl this
      · have h4 := putE_new (v := x.2) hx
        have h5 : (putE (fillE M) x.1 x.2).length = (fillE M).length + 1 := by rw [h4]; simp
        have hx' : ¬ x.1 ∈ keysE M := fun h => hx ((h1 _).2 h)
        refine ⟨fun e => ?_, by omega, ?_⟩
        · rw [h4, hk]
          have := h1 e
          simp only [keysE, List.map_append, List.mem_append, List.map_cons, List.map_nil] at this ⊢
          rw [this]
        · rw [hk, h5]
          constructor
          · intro h
            refine List.nodup_append.2 ⟨h3.1 (by omega), by simp, fun a ha b hb => ?_⟩
            simp only [List.mem_singleton] at hb
            subst hb
            exact fun e => hx' (e ▸ ha)
          · intro h
            have := h3.2 (List.nodup_append.1 h).1
            omega
def pairsOf (ss : List Seam) : List (Edge × Edge) := ss.flatMap fun s => [(endA s, endB s), (endB s, endA s)]
theorem pairs_append (xs ys : List Seam) : pairsOf (xs ++ ys) = pairsOf xs ++ pairsOf ys := by simp [pairsOf]
theorem pairs_keys (ss : List Seam) : keysE (pairsOf ss) = ends ss := by
  induction ss with
  | nil => rfl
  | cons s ss ih => simp only [pairsOf, List.flatMap_cons, keysE, List.map_append, ends] at *; rw [ih]; rfl
theorem joinTo_fill (ss : List Seam) : joinTo ss ss.length = fillE (pairsOf ss) := by
  unfold joinTo; rw [List.take_length]
  have : ∀ (ss : List Seam) (m : List (Edge × Edge)), ss.foldl (fun m s => putE (putE m (endA s) (endB s)) (endB s) (endA s)) m = (pairsOf ss).foldl (fun m x => putE m x.1 x.2) m := by
    intro ss
    induction ss with
    | nil => intro m; rfl
    | cons s ss ih => intro m; simp only [List.foldl_cons, pairsOf, List.flatMap_cons, List.foldl_append] at *; exact ih _
  exact this ss []
theorem joined_len (ss : List Seam) : (joinTo ss ss.length).length ≤ 2 * ss.length ∧ ((joinTo ss ss.length).length = 2 * ss.length ↔ (ends ss).Nodup) := by
  have hl : (pairsOf ss).length = 2 * ss.length := by
    have := congrArg List.length (pairs_keys ss)
    rw [ends_length] at this
    simpa [keysE] using this
  obtain ⟨_, h2, h3⟩ := fillE_keys _ (pairsOf ss) hl
  rw [joinTo_fill]
  exact ⟨h2, by rw [h3, pairs_keys]⟩
end Go.Proofs.YtlmhiocmldhkhaaGreatDoor
