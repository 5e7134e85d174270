/- Chapter 8, patterns: validity: the contracts of the program's functions and of the reference's. -/
import Derived.Test.YtlmhiocmldhkhaaGreatDoorP08b
import Derived.Test.YtlmhiocmldhkhaaGreatDoorNames
import Derived.Test.YtlmhiocmldhkhaaGreatDoorSearch
import Derived.Deep.RegionHeld3
namespace Go.Proofs.YtlmhiocmldhkhaaGreatDoor
open Go.RowKit

/-- A list has a number that is not in a range. -/
def outs (xs : List Int) (lo hi : Int) : Bool := xs.any fun n => !inr n lo hi
theorem outs_false {xs : List Int} {lo hi : Int} : outs xs lo hi = false ↔ ∀ x ∈ xs, lo ≤ x ∧ x ≤ hi := by
  simp [outs, inr]
theorem outside1_c (n lo hi : Int) (p q : Addr) (w : World) (h1 : w.cell? p = some (.int .i64 lo)) (h2 : w.cell? q = some (.int .i64 hi)) :
    Calls Tryz.prog 74 #[.int .i64 n, .pointer (some p), .pointer (some q)] w fun e w' => e = .returned (.bool (!inr n lo hi)) ∧ w = w' := by
  go_enter Tryz.func74, Tryz.ntmps74
  go_wp2_with fail
  refine (within_c _ _ _ _).mono ?_
  rintro e w' ⟨rfl, rfl⟩
  go_wp2_with fail
  go_ret
  exact ⟨rfl, rfl⟩
theorem outside1_enters : Enters Tryz.prog 74 := enters_of Tryz.func74 (by kernel_rfl) (by kernel_rfl)
theorem outside_c (a : Option Addr) (xs : List Int) (c : Nat) (lo hi : Int) (w : World) (hx : At w a xs) (hl : xs.length ≤ 9223372036854775807) :
    Calls Tryz.prog 52 #[.slice a xs.length c, .int .i64 lo, .int .i64 hi] w fun e w' => e = .returned (.bool (outs xs lo hi)) ∧ Below w.heap.size w w' := by
  have hb0 : Below w.heap.size w ((w.alloc (.cells #[.int .i64 lo] 2)).alloc (.cells #[.int .i64 hi] 2)) := ((Below.refl _ _).alloc (by simp) _).alloc (by simp) _
  go_enter Tryz.func52, Tryz.ntmps52
  go_wp2_with fail
  refine (containsInts_any _ xs _ _ _ (fun n => !inr n lo hi) _ outside1_enters (hx.below hb0) hl (fun x _ w' hb' => ?_)).mono ?_
  · have e1 : w'.cell? ⟨w.heap.size, 0, none⟩ = some (.int .i64 lo) := by rw [hb'.cell (p := ⟨w.heap.size, 0, none⟩) (by simp; omega)]; go_simp
    have e2 : w'.cell? ⟨w.heap.size + 1, 0, none⟩ = some (.int .i64 hi) := by rw [hb'.cell (p := ⟨w.heap.size + 1, 0, none⟩) (by simp)]; go_simp
    exact Calls.grown_same (by simpa using outside1_c x lo hi _ _ w' e1 e2)
  rintro e w2 ⟨rfl, hb2⟩
  go_wp2_with fail
  go_ret
  exact ⟨rfl, upw hb0 hb2⟩
def okPiece (x : Piece) : Bool := isName x.name && inr x.edges.length 3 8 && !outs x.edges 1 10000
@[ext] structure Edge where
  piece : Int
  number : Int
deriving DecidableEq
def nEdges (p : Pattern) (i : Int) : Int := ((p.pieces.getD i.toNat ⟨⟨#[]⟩, []⟩).edges.length : Nat)
def hasEdge (p : Pattern) (e : Edge) : Bool := inr e.piece 0 ((p.pieces.length : Int) - 1) && inr e.number 0 (nEdges p e.piece - 1)
def hasSeam (p : Pattern) (s : Seam) : Bool := hasEdge p ⟨s.A, s.EdgeA⟩ && hasEdge p ⟨s.B, s.EdgeB⟩
def ends (ss : List Seam) : List Edge := ss.flatMap fun s => [⟨s.A, s.EdgeA⟩, ⟨s.B, s.EdgeB⟩]
theorem ends_length (ss : List Seam) : (ends ss).length = 2 * ss.length := by
  induction ss with
  | nil => rfl
  | cons s ss ih => simp only [ends, List.flatMap_cons, List.length_append, List.length_cons, List.length_nil] at *; omega
theorem ends_append (xs ys : List Seam) : ends (xs ++ ys) = ends xs ++ ends ys := by simp [ends]
def times (ss : List Seam) (e : Edge) : Nat := (ends ss).count e
def okPattern (p : Pattern) : Bool := (inr p.pieces.length 1 10 && !(p.pieces.any fun x => !okPiece x)) && (!(p.seams.any fun s => !hasSeam p s) && (decide (ends p.seams).Nodup && inr p.openings 0 100))
/-- What lies in a row, of one piece. -/
structure PieV (w : World) (b o : Nat) (ea : Option Addr) (ec : Nat) (x : Piece) : Prop where
  c0 : w.cell? ⟨b, o, none⟩ = some (.string x.name)
  c1 : w.cell? ⟨b, o + 1, none⟩ = some (.slice ea x.edges.length ec)
  edges : At w ea x.edges
theorem PieV.below {w w' : World} {b o : Nat} {ea : Option Addr} {ec : Nat} {x : Piece} (h : PieV w b o ea ec x) (hb : Below w.heap.size w w') : PieV w' b o ea ec x := ⟨kept_cell h.c0 hb, kept_cell h.c1 hb, h.edges.below hb⟩
theorem At.pieV {w : World} {b off : Nat} {ps : List Piece} (h : At w (some ⟨b, off, none⟩) ps) {i : Nat} (hi : i < ps.length) : ∃ a c, PieV w b (off + i * 2) a c ps[i] := by
  obtain ⟨a, c, h0, h1, h2⟩ := h.piece hi
  exact ⟨a, c, h0, h1, h2⟩
/-- A variable that holds a pattern. -/
structure PatV (w : World) (b : Nat) (pa : Option Addr) (pc : Nat) (sa : Option Addr) (sc : Nat) (p : Pattern) : Prop where
  c0 : w.cell? ⟨b, 0, none⟩ = some (.slice pa p.pieces.length pc)
  c1 : w.cell? ⟨b, 1, none⟩ = some (.slice sa p.seams.length sc)
  c2 : w.cell? ⟨b, 2, none⟩ = some (.int .i64 p.openings)
  lie : LieP w pa sa p
theorem PatV.below {w w' : World} {b : Nat} {pa : Option Addr} {pc : Nat} {sa : Option Addr} {sc : Nat} {p : Pattern} (h : PatV w b pa pc sa sc p) (hb : Below w.heap.size w w') : PatV w' b pa pc sa sc p :=
  ⟨kept_cell h.c0 hb, kept_cell h.c1 hb, kept_cell h.c2 hb, h.lie.below hb⟩
theorem patV_new (p : Pattern) (pa : Option Addr) (pc : Nat) (sa : Option Addr) (sc : Nat) (w : World) (hp : LieP w pa sa p) : ∃ w1, w.alloc (.cells #[.slice pa p.pieces.length pc, .slice sa p.seams.length sc, .int .i64 p.openings] 27) = w1 ∧ PatV w1 w.heap.size pa pc sa sc p ∧ w1.heap.size = w.heap.size + 1 ∧ Below w.heap.size w w1 := by
  refine ⟨_, rfl, ⟨?_, ?_, ?_, hp.below (new_below _ _)⟩, by simp, new_below _ _⟩ <;> go_simp
/-- A piece by its number. -/
theorem LieP.pieV {w : World} {pa sa : Option Addr} {p : Pattern} (h : LieP w pa sa p) {i : Nat} (hi : i < p.pieces.length) : ∃ b off ea ec, pa = some ⟨b, off, none⟩ ∧ b < w.heap.size ∧ PieV w b (off + i * 2) ea ec p.pieces[i] := by
  obtain ⟨b, off, rfl⟩ := h.pieces.addr hi
  obtain ⟨ea, ec, hV⟩ := h.pieces.pieV hi
  exact ⟨b, off, ea, ec, rfl, h.pieces.lt hi, hV⟩
theorem nEdges_get {p : Pattern} {i : Nat} (hi : i < p.pieces.length) : nEdges p i = (p.pieces[i].edges.length : Int) := by
  simp [nEdges, hi]
set_option maxHeartbeats 800000 in
theorem isPiece_c (x : Piece) (a : Option Addr) (c : Nat) (w : World) (hA : At w a x.edges) (hn : x.name.size ≤ 9223372036854775807) (hl : x.edges.length ≤ 9223372036854775807) :
    Calls Tryz.prog 23 #[.agg #[.string x.name, .slice a x.edges.length c]] w fun e w' => e = .returned (.bool (okPiece x)) ∧ Below w.heap.size w w' := by
  have hb0 := new_below w (.cells #[.string x.name, .slice a x.edges.length c] 36)
  cases h1 : isName x.name
  · go_enter Tryz.func23, Tryz.ntmps23
    go_wp2_with (first | (go_at_call 51; refine (implIsName_c _ _ hn).mono ?_; rintro e w' ⟨rfl, rfl⟩) | (go_at_call 34; refine (within_c _ _ _ _).mono ?_; rintro e w' ⟨rfl, rfl⟩) | (go_at_call 52; refine (outside_c _ _ _ _ _ _ (hA.below hb0) hl).mono ?_; rintro e w2 ⟨rfl, hb2⟩; replace hb0 := upw hb0 hb2))
    go_ret
    exact ⟨ret_bool (by simp [okPiece, h1]), hb0⟩
  · cases h2 : inr x.edges.length 3 8
    · go_enter Tryz.func23, Tryz.ntmps23
      go_wp2_with (first | (go_at_call 51; refine (implIsName_c _ _ hn).mono ?_; rintro e w' ⟨rfl, rfl⟩) | (go_at_call 34; refine (within_c _ _ _ _).mono ?_; rintro e w' ⟨rfl, rfl⟩) | (go_at_call 52; refine (outside_c _ _ _ _ _ _ (hA.below hb0) hl).mono ?_; rintro e w2 ⟨rfl, hb2⟩; replace hb0 := upw hb0 hb2))
      go_ret
      exact ⟨ret_bool (by simp [okPiece, h1, h2]), hb0⟩
    · cases h3 : outs x.edges 1 10000
      · go_enter Tryz.func23, Tryz.ntmps23
        go_wp2_with (first | (go_at_call 51; refine (implIsName_c _ _ hn).mono ?_; rintro e w' ⟨rfl, rfl⟩) | (go_at_call 34; refine (within_c _ _ _ _).mono ?_; rintro e w' ⟨rfl, rfl⟩) | (go_at_call 52; refine (outside_c _ _ _ _ _ _ (hA.below hb0) hl).mono ?_; rintro e w2 ⟨rfl, hb2⟩; replace hb0 := upw hb0 hb2))
        go_ret
        exact ⟨ret_bool (by simp [okPiece, h1, h2, h3]), hb0⟩
      · go_enter Tryz.func23, Tryz.ntmps23
        go_wp2_with (first | (go_at_call 51; refine (implIsName_c _ _ hn).mono ?_; rintro e w' ⟨rfl, rfl⟩) | (go_at_call 34; refine (within_c _ _ _ _).mono ?_; rintro e w' ⟨rfl, rfl⟩) | (go_at_call 52; refine (outside_c _ _ _ _ _ _ (hA.below hb0) hl).mono ?_; rintro e w2 ⟨rfl, hb2⟩; replace hb0 := upw hb0 hb2))
        go_ret
        exact ⟨ret_bool (by simp [okPiece, h1, h2, h3]), hb0⟩
theorem validPattern1_c (x : Piece) (a : Option Addr) (c : Nat) (w : World) (hA : At w a x.edges) (hn : x.name.size ≤ 9223372036854775807) (hl : x.edges.length ≤ 9223372036854775807) :
    Calls Tryz.prog 36 #[.agg #[.string x.name, .slice a x.edges.length c]] w fun e w' => e = .returned (.bool (!okPiece x)) ∧ Below w.heap.size w w' := by
  have hb0 := new_below w (.cells #[.string x.name, .slice a x.edges.length c] 36)
  go_enter Tryz.func36, Tryz.ntmps36
  go_wp2_with fail
  refine (isPiece_c x _ _ _ (hA.below hb0) hn hl).mono ?_
  rintro e w2 ⟨rfl, hb2⟩
  go_wp2_with fail
  go_ret
  exact ⟨rfl, upw hb0 hb2⟩
theorem validPattern1_enters : Enters Tryz.prog 36 := enters_of Tryz.func36 (by kernel_rfl) (by kernel_rfl)
set_option maxHeartbeats 400000 in
theorem indexPieces_any (a : Option Addr) (xs : List Piece) (c : Nat) (K : Nat) (cap : Array Value) (p : Piece → Bool) (w : World) (hK : Enters Tryz.prog K) (hx : At w a xs) (hl : xs.length ≤ 9223372036854775807)
    (hf : ∀ x ∈ xs, ∀ w' ea ec, Below w.heap.size w w' → At w' ea x.edges → Calls Tryz.prog K (#[.agg #[.string x.name, .slice ea x.edges.length ec]] ++ cap) w' fun e w'' => e = .returned (.bool (p x)) ∧ Below w'.heap.size w' w'') :
    Calls Tryz.prog 66 #[.slice a xs.length c, .func (.func K) #[] cap] w fun e w' => e = .returned (.int .i64 (firstIdx p xs)) ∧ Below w.heap.size w w' := by
  have HF := Lib.hid hf
  clear hf
  unfold Enters at hK
  go_enter Tryz.func66, Tryz.ntmps66
  go_wp2
  go_loopw [8] (fun i wr => ∃ k : Nat, k ≤ xs.length ∧ i = .int .i64 k ∧ Nosofar p xs k ∧ Below w.heap.size w wr) (fun i _ => xs.length - (intOf i).toNat)
  case atStart => exact ⟨0, Nat.zero_le _, rfl, nosofar_zero, Below.refl _ _⟩
  case round =>
    obtain ⟨k, hk, rfl, hs, hb⟩ := hrel
    have HS := Lib.hid hs
    clear hs
    replace hx := hx.below hb
    by_cases hlt : k < xs.length
    · obtain ⟨b, off, rfl⟩ := hx.addr hlt
      obtain ⟨ea, ec, c0, c1, hA⟩ := hx.piece hlt
      cases hp : p xs[k]
      · go_wp2_with fail
        refine (HF.out _ (List.getElem_mem hlt) _ _ _ hb hA).mono ?_
        rintro e w2 ⟨rfl, hb2⟩
        replace hb := upw hb hb2
        go_wp2_with fail
        go_roundw
        case rel => exact ⟨k + 1, by omega, by go_num, nosofar_succ HS.out hp, hb⟩
        case measure => simp [intOf]; omega
      · go_wp2_with fail
        refine (HF.out _ (List.getElem_mem hlt) _ _ _ hb hA).mono ?_
        rintro e w2 ⟨rfl, hb2⟩
        replace hb := upw hb hb2
        go_wp2_with fail
        go_ret
        exact ⟨ret_int (firstIdx_some hlt HS.out hp).symm, hb⟩
    · go_wp2
      go_ret
      exact ⟨ret_int (firstIdx_none (by omega) HS.out).symm, hb⟩
theorem containsPieces_any (a : Option Addr) (xs : List Piece) (c : Nat) (K : Nat) (cap : Array Value) (p : Piece → Bool) (w : World) (hK : Enters Tryz.prog K) (hx : At w a xs) (hl : xs.length ≤ 9223372036854775807)
    (hf : ∀ x ∈ xs, ∀ w' ea ec, Below w.heap.size w w' → At w' ea x.edges → Calls Tryz.prog K (#[.agg #[.string x.name, .slice ea x.edges.length ec]] ++ cap) w' fun e w'' => e = .returned (.bool (p x)) ∧ Below w'.heap.size w' w'') :
    Calls Tryz.prog 35 #[.slice a xs.length c, .func (.func K) #[] cap] w fun e w' => e = .returned (.bool (xs.any p)) ∧ Below w.heap.size w w' := by
  have HF := Lib.hid hf
  clear hf
  go_enter Tryz.func35, Tryz.ntmps35
  go_wp2_with fail
  refine (indexPieces_any _ _ _ _ _ _ _ hK hx hl HF.out).mono ?_
  rintro e w2 ⟨rfl, hb⟩
  go_wp2_with fail
  go_ret
  exact ⟨ret_bool (firstIdx_pos p xs), hb⟩
set_option maxRecDepth 100000 in
set_option maxHeartbeats 800000 in
theorem hasEdge_c (p : Pattern) (pa : Option Addr) (pc : Nat) (sa : Option Addr) (sc : Nat) (e : Edge) (w : World) (hp : LieP w pa sa p) (hl : totPattern p ≤ 1048576) :
    Calls Tryz.prog 56 #[.agg #[.slice pa p.pieces.length pc, .slice sa p.seams.length sc, .int .i64 p.openings], .agg #[.int .i64 e.piece, .int .i64 e.number]] w fun en w' => en = .returned (.bool (hasEdge p e)) ∧ Below w.heap.size w w' := by
  have l1 : p.pieces.length ≤ 1048576 := by unfold totPattern totPieces at hl; omega
  obtain ⟨ep, en⟩ := e
  simp only
  obtain ⟨w1, hw1, hP, hs1, hb1⟩ := patV_new p pa pc sa sc w hp
  obtain ⟨w2, hw2⟩ : ∃ w2, w2 = w1.alloc (.cells #[.int .i64 ep, .int .i64 en] 54) := ⟨_, rfl⟩
  have V : Var w2 (w.heap.size + 1) [.int .i64 ep, .int .i64 en] := by rw [hw2, ← hs1]; exact Var.new2 _ _ _ _
  have hb2 : Below w1.heap.size w1 w2 := by rw [hw2]; exact new_below _ _
  replace hP := hP.below hb2
  have hb : Below w.heap.size w w2 := upw hb1 hb2
  have d0 := rg (V.cell 0 _ rfl)
  have d1 := rg (V.cell 1 _ rfl)
  have c0 := rg hP.c0
  have HW := Lib.hid (show (w.alloc (.cells #[.slice pa p.pieces.length pc, .slice sa p.seams.length sc, .int .i64 p.openings] 27)).alloc (.cells #[.int .i64 ep, .int .i64 en] 54) = w2 by rw [hw2, hw1])
  clear hw1 hw2 V hb1 hb2 hs1
  cases h1 : inr ep 0 ((p.pieces.length : Int) - 1)
  · have hr : hasEdge p ⟨ep, en⟩ = false := by simp [hasEdge, h1]
    rw [hr]
    go_enter Tryz.func56, Tryz.ntmps56
    go_wp2_with fail
    rw [HW.out]
    refine wp_region_quiet_below (by kernel_rfl) (by kernel_rfl) ?_
    repeat (go_big_quiet_step ((go_at_call 34; exact Calls.regrown_same (as_bool h1 (within_c _ _ _ _)))))
    refine wpQuiet_nil ?_
    intro w2 hw'
    replace hb := upw hb (grown_of hw')
    clear hw'
    go_wp2_with fail
    go_ret
    exact ⟨rfl, hb⟩
  · have h1' := inr_true.1 h1
    obtain ⟨i, rfl⟩ := Int.eq_ofNat_of_zero_le h1'.1
    have hilt : i < p.pieces.length := by omega
    obtain ⟨b, off, ea, ec, rfl, hbl, hV⟩ := hP.lie.pieV hilt
    have l2 : p.pieces[i].edges.length ≤ 1048576 := by
      have := sumN_mem totPiece p.pieces i hilt
      unfold totPattern totPieces at hl; unfold totPiece at *; omega
    have hr : hasEdge p ⟨(i : Int), en⟩ = inr en 0 ((p.pieces[i].edges.length : Int) - 1) := by
      have hn : nEdges p i = (p.pieces[i].edges.length : Int) := nEdges_get hilt
      simp [hasEdge, h1, hn]
    rw [hr]
    have c3 := rg hV.c1
    replace hr := Lib.hid hr
    replace hP := Lib.hid hP
    replace hV := Lib.hid hV
    cases h2 : inr en 0 ((p.pieces[i].edges.length : Int) - 1)
    all_goals
      go_enter Tryz.func56, Tryz.ntmps56
      go_wp2_with fail
      rw [HW.out]
      refine wp_region_quiet_below (by kernel_rfl) (by kernel_rfl) ?_
      repeat (go_big_quiet_step ((go_at_call 34; first | with_reducible exact Calls.regrown_same (as_bool h1 (within_c (i : Int) _ _ _)) | with_reducible exact Calls.regrown_same (as_bool h2 (within_c en _ _ _)))))
      refine wpQuiet_nil ?_
      intro w2 hw'
      replace hb := upw hb (grown_of hw')
      clear hw'
      go_wp2_with fail
      go_ret
      exact ⟨rfl, hb⟩
end Go.Proofs.YtlmhiocmldhkhaaGreatDoor
