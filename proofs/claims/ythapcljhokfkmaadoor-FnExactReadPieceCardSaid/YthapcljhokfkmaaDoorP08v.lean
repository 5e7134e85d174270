/- Chapter 8, patterns: validity: the contracts of the program's functions and of the reference's. -/
import Derived.Test.YthapcljhokfkmaaDoorP08b
import Derived.Test.YthapcljhokfkmaaDoorNames
import Derived.Test.YthapcljhokfkmaaDoorSearch
import Derived.Deep.RegionHeld3
namespace Go.Proofs.YthapcljhokfkmaaDoor
open Go.RowKit

/-- A list has a number that is not in a range. -/
def outs (xs : List Int) (lo hi : Int) : Bool := xs.any fun n => !inr n lo hi
theorem outs_false {xs : List Int} {lo hi : Int} : outs xs lo hi = false ↔ ∀ x ∈ xs, lo ≤ x ∧ x ≤ hi := by
  simp [outs, inr]
theorem outside1_c (n lo hi : Int) (p q : Addr) (w : World) (h1 : w.cell? p = some (.int .i64 lo)) (h2 : w.cell? q = some (.int .i64 hi)) :
    Calls Tryd.prog 106 #[.int .i64 n, .pointer (some p), .pointer (some q)] w fun e w' => e = .returned (.bool (!inr n lo hi)) ∧ w = w' := by
  go_enter Tryd.func106, Tryd.ntmps106
  go_wp2_with fail
  refine (within_c _ _ _ _).mono ?_
  rintro e w' ⟨rfl, rfl⟩
  go_wp2_with fail
  go_ret
  exact ⟨rfl, rfl⟩
theorem outside1_enters : Enters Tryd.prog 106 := enters_of Tryd.func106 (by kernel_rfl) (by kernel_rfl)
theorem outside_c (a : Option Addr) (xs : List Int) (c : Nat) (lo hi : Int) (w : World) (hx : At w a xs) (hl : xs.length ≤ 9223372036854775807) :
    Calls Tryd.prog 88 #[.slice a xs.length c, .int .i64 lo, .int .i64 hi] w fun e w' => e = .returned (.bool (outs xs lo hi)) ∧ Below w.heap.size w w' := by
  have hb0 : Below w.heap.size w ((w.alloc (.cells #[.int .i64 lo] 2)).alloc (.cells #[.int .i64 hi] 2)) := ((Below.refl _ _).alloc (by simp) _).alloc (by simp) _
  go_enter Tryd.func88, Tryd.ntmps88
  go_wp2_with fail
  refine (containsInts_any _ xs _ _ _ (fun n => !inr n lo hi) _ outside1_enters (hx.below hb0) hl (fun x _ w' hb' => ?_)).mono ?_
  · have e1 : w'.cell? ⟨w.heap.size, 0, none⟩ = some (.int .i64 lo) := by rw [hb'.cell (p := ⟨w.heap.size, 0, none⟩) (by simp; omega)]; go_simp
    have e2 : w'.cell? ⟨w.heap.size + 1, 0, none⟩ = some (.int .i64 hi) := by rw [hb'.cell (p := ⟨w.heap.size + 1, 0, none⟩) (by simp)]; go_simp
    exact Calls.grown_same (by simpa using outside1_c x lo hi _ _ w' e1 e2)
  rintro e w2 ⟨rfl, hb2⟩
  go_wp2_with fail
  go_ret
  exact ⟨rfl, upw hb0 hb2⟩
def okPiece (x : Piece) : Bool := isName x.name && inr x.edges.length 3 8 && !outs x.edges 1 10000
@[ext] structure Edge where
  piece : Int
  number : Int
deriving DecidableEq
def nEdges (p : Pattern) (i : Int) : Int := ((p.pieces.getD i.toNat ⟨⟨#[]⟩, []⟩).edges.length : Nat)
def hasEdge (p : Pattern) (e : Edge) : Bool := inr e.piece 0 ((p.pieces.length : Int) - 1) && inr e.number 0 (nEdges p e.piece - 1)
def hasSeam (p : Pattern) (s : Seam) : Bool := hasEdge p ⟨s.A, s.EdgeA⟩ && hasEdge p ⟨s.B, s.EdgeB⟩
def ends (ss : List Seam) : List Edge := ss.flatMap fun s => [⟨s.A, s.EdgeA⟩, ⟨s.B, s.EdgeB⟩]
theorem ends_length (ss : List Seam) : (ends ss).length = 2 * ss.length := by
  induction ss with
  | nil => rfl
  | cons s ss ih => simp only [ends, List.flatMap_cons, List.length_append, List.length_cons, List.length_nil] at *; omega
theorem ends_append (xs ys : List Seam) : ends (xs ++ ys) = ends xs ++ ends ys := by simp [ends]
def times (ss : List Seam) (e : Edge) : Nat := (ends ss).count e
def okPattern (p : Pattern) : Bool := (inr p.pieces.length 1 10 && !(p.pieces.any fun x => !okPiece x)) && (!(p.seams.any fun s => !hasSeam p s) && (decide (ends p.seams).Nodup && inr p.openings 0 100))
/-- What lies in a row, of one piece. -/
structure PieV (w : World) (b o : Nat) (ea : Option Addr) (ec : Nat) (x : Piece) : Prop where
  c0 : w.cell? ⟨b, o, none⟩ = some (.string x.name)
  c1 : w.cell? ⟨b, o + 1, none⟩ = some (.slice ea x.edges.length ec)
  edges : At w ea x.edges
theorem PieV.below {w w' : World} {b o : Nat} {ea : Option Addr} {ec : Nat} {x : Piece} (h : PieV w b o ea ec x) (hb : Below w.heap.size w w') : PieV w' b o ea ec x := ⟨kept_cell h.c0 hb, kept_cell h.c1 hb, h.edges.below hb⟩
theorem At.pieV {w : World} {b off : Nat} {ps : List Piece} (h : At w (some ⟨b, off, none⟩) ps) {i : Nat} (hi : i < ps.length) : ∃ a c, PieV w b (off + i * 2) a c ps[i] := by
  obtain ⟨a, c, h0, h1, h2⟩ := h.piece hi
  exact ⟨a, c, h0, h1, h2⟩
/-- A variable that holds a pattern. -/
structure PatV (w : World) (b : Nat) (pa : Option Addr) (pc : Nat) (sa : Option Addr) (sc : Nat) (p : Pattern) : Prop where
  c0 : w.cell? ⟨b, 0, none⟩ = some (.slice pa p.pieces.length pc)
  c1 : w.cell? ⟨b, 1, none⟩ = some (.slice sa p.seams.length sc)
  c2 : w.cell? ⟨b, 2, none⟩ = some (.int .i64 p.openings)
  lie : LieP w pa sa p
theorem PatV.below {w w' : World} {b : Nat} {pa : Option Addr} {pc : Nat} {sa : Option Addr} {sc : Nat} {p : Pattern} (h : PatV w b pa pc sa sc p) (hb : Below w.heap.size w w') : PatV w' b pa pc sa sc p :=
  ⟨kept_cell h.c0 hb, kept_cell h.c1 hb, kept_cell h.c2 hb, h.lie.below hb⟩
/-- A piece by its number. -/
theorem LieP.pieV {w : World} {pa sa : Option Addr} {p : Pattern} (h : LieP w pa sa p) {i : Nat} (hi : i < p.pieces.length) : ∃ b off ea ec, pa = some ⟨b, off, none⟩ ∧ b < w.heap.size ∧ PieV w b (off + i * 2) ea ec p.pieces[i] := by
  obtain ⟨b, off, rfl⟩ := h.pieces.addr hi
  obtain ⟨ea, ec, hV⟩ := h.pieces.pieV hi
  exact ⟨b, off, ea, ec, rfl, h.pieces.lt hi, hV⟩
theorem nEdges_get {p : Pattern} {i : Nat} (hi : i < p.pieces.length) : nEdges p i = (p.pieces[i].edges.length : Int) := by
  simp [nEdges, hi]
set_option maxHeartbeats 800000 in
theorem isPiece_c (x : Piece) (a : Option Addr) (c : Nat) (w : World) (hA : At w a x.edges) (hn : x.name.size ≤ 9223372036854775807) (hl : x.edges.length ≤ 9223372036854775807) :
    Calls Tryd.prog 71 #[.agg #[.string x.name, .slice a x.edges.length c]] w fun e w' => e = .returned (.bool (okPiece x)) ∧ Below w.heap.size w w' := by
  have hb0 := new_below w (.cells #[.string x.name, .slice a x.edges.length c] 41)
  cases h1 : isName x.name
  · go_enter Tryd.func71, Tryd.ntmps71
    go_wp2_with (first | (go_at_call 87; refine (implIsName_c _ _ hn).mono ?_; rintro e w' ⟨rfl, rfl⟩) | (go_at_call 54; refine (within_c _ _ _ _).mono ?_; rintro e w' ⟨rfl, rfl⟩) | (go_at_call 88; refine (outside_c _ _ _ _ _ _ (hA.below hb0) hl).mono ?_; rintro e w2 ⟨rfl, hb2⟩; replace hb0 := upw hb0 hb2))
    go_ret
    exact ⟨ret_bool (by simp [okPiece, h1]), hb0⟩
  · cases h2 : inr x.edges.length 3 8
    · go_enter Tryd.func71, Tryd.ntmps71
      go_wp2_with (first | (go_at_call 87; refine (implIsName_c _ _ hn).mono ?_; rintro e w' ⟨rfl, rfl⟩) | (go_at_call 54; refine (within_c _ _ _ _).mono ?_; rintro e w' ⟨rfl, rfl⟩) | (go_at_call 88; refine (outside_c _ _ _ _ _ _ (hA.below hb0) hl).mono ?_; rintro e w2 ⟨rfl, hb2⟩; replace hb0 := upw hb0 hb2))
      go_ret
      exact ⟨ret_bool (by simp [okPiece, h1, h2]), hb0⟩
    · cases h3 : outs x.edges 1 10000
      · go_enter Tryd.func71, Tryd.ntmps71
        go_wp2_with (first | (go_at_call 87; refine (implIsName_c _ _ hn).mono ?_; rintro e w' ⟨rfl, rfl⟩) | (go_at_call 54; refine (within_c _ _ _ _).mono ?_; rintro e w' ⟨rfl, rfl⟩) | (go_at_call 88; refine (outside_c _ _ _ _ _ _ (hA.below hb0) hl).mono ?_; rintro e w2 ⟨rfl, hb2⟩; replace hb0 := upw hb0 hb2))
        go_ret
        exact ⟨ret_bool (by simp [okPiece, h1, h2, h3]), hb0⟩
      · go_enter Tryd.func71, Tryd.ntmps71
        go_wp2_with (first | (go_at_call 87; refine (implIsName_c _ _ hn).mono ?_; rintro e w' ⟨rfl, rfl⟩) | (go_at_call 54; refine (within_c _ _ _ _).mono ?_; rintro e w' ⟨rfl, rfl⟩) | (go_at_call 88; refine (outside_c _ _ _ _ _ _ (hA.below hb0) hl).mono ?_; rintro e w2 ⟨rfl, hb2⟩; replace hb0 := upw hb0 hb2))
        go_ret
        exact ⟨ret_bool (by simp [okPiece, h1, h2, h3]), hb0⟩
end Go.Proofs.YthapcljhokfkmaaDoor
