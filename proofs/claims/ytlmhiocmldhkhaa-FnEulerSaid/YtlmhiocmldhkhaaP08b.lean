/- Chapter 8, patterns: the law's own copies of patterns, and its comparisons. -/
import Derived.Test.YtlmhiocmldhkhaaP08
import Derived.Deep.Heap
namespace Go.Proofs.Ytlmhiocmldhkhaa
open Go.RowKit

/-- A piece as it lies in a row: its name, and where its edges lie. -/
structure RawP where
  name : ByteArray
  a : Option Addr
  n : Nat
  c : Nat
instance : Flat RawP := ⟨2, by decide, fun x => [.string x.name, .slice x.a x.n x.c], fun _ => rfl, fun x u h => by simp at h; rcases h with h | h <;> subst h <;> rfl, fun _ => True⟩
theorem Own.held {α : Type} [Flat α] {B : Nat} {w w' : World} {e : TypeId} {v : Value} {xs : List α} (h : Own B w e v xs) (_hs : w.heap.size ≤ w'.heap.size) (hk : ∀ k, v.ownBlock = some k → w'.heap[k]? = w.heap[k]?) : Own B w' e v xs := by
  refine ⟨h.1, ?_⟩
  rcases h.2 with h2 | ⟨g, cap, cur, rfl, hb, hg, h4⟩
  · exact Or.inl h2
  · exact Or.inr ⟨g, cap, cur, rfl, hb, by rw [hk g rfl]; exact hg, h4⟩
theorem Own.past {α : Type} [Flat α] {B G : Nat} {w w' : World} {e : TypeId} {v : Value} {xs : List α} (h : Own B w e v xs) (hg : w.grownBy w' (some G)) (hB : G < B) : Own B w' e v xs :=
  h.kept hg (by
    cases hv : v.ownBlock with
    | none => exact Or.inl rfl
    | some k => exact Or.inr (by have := (h.lt k hv).1; simp; omega))
/-- What the call owns of a piece, of pieces, of a pattern. -/
structure OwnPiece (B : Nat) (w : World) (r : RawP) (x : Piece) : Prop where
  name : r.name = x.name
  len : r.n = x.edges.length
  own : Own B w 2 (.slice r.a r.n r.c) x.edges
theorem OwnPiece.later {B : Nat} {w w' : World} {r : RawP} {x : Piece} (h : OwnPiece B w r x) (hb : Below w.heap.size w w') : OwnPiece B w' r x := ⟨h.name, h.len, h.own.later hb⟩
theorem OwnPiece.base {B B' : Nat} {w : World} {r : RawP} {x : Piece} (h : OwnPiece B w r x) (hB : B' ≤ B) : OwnPiece B' w r x := ⟨h.name, h.len, h.own.base hB⟩
/-- Two rows lie in two blocks. -/
def Apart (a b : Option Nat) : Prop := a = none ∨ a ≠ b
theorem Apart.symm {a b : Option Nat} (h : Apart a b) : Apart b a := by
  rcases h with rfl | h
  · cases b with
    | none => exact Or.inl rfl
    | some k => exact Or.inr (by simp)
  · exact Or.inr fun e => h e.symm
def blk (r : RawP) : Option Nat := (Value.slice r.a r.n r.c).ownBlock
structure OwnPieces (B : Nat) (w : World) (rs : List RawP) (ps : List Piece) : Prop where
  len : rs.length = ps.length
  apart : ∀ i j (hi : i < rs.length) (hj : j < rs.length), i ≠ j → Apart (blk rs[i]) (blk rs[j])
  each : ∀ i (h1 : i < rs.length) (h2 : i < ps.length), OwnPiece B w rs[i] ps[i]
theorem OwnPieces.later {B : Nat} {w w' : World} {rs : List RawP} {ps : List Piece} (h : OwnPieces B w rs ps) (hb : Below w.heap.size w w') : OwnPieces B w' rs ps := ⟨h.len, h.apart, fun i h1 h2 => (h.each i h1 h2).later hb⟩
theorem OwnPieces.base {B B' : Nat} {w : World} {rs : List RawP} {ps : List Piece} (h : OwnPieces B w rs ps) (hB : B' ≤ B) : OwnPieces B' w rs ps := ⟨h.len, h.apart, fun i h1 h2 => (h.each i h1 h2).base hB⟩
theorem OwnPieces.at {B : Nat} {w : World} {rs : List RawP} {ps : List Piece} {a : Option Addr} (h : OwnPieces B w rs ps) (hA : At w a rs) : At w a ps := by
  by_cases h0 : ps = []
  · exact Or.inl h0
  · rcases hA with h1 | ⟨b, off, rfl, hlt, hc⟩
    · subst h1
      exact Or.inl (List.eq_nil_of_length_eq_zero h.len.symm)
    · refine Or.inr ⟨b, off, rfl, hlt, fun i hi => ?_⟩
      have hr : i < rs.length := by rw [h.len]; exact hi
      obtain ⟨cs, he, hcell⟩ := hc i hr
      have hp := h.each i hr hi
      refine ⟨cs, ⟨rs[i].a, rs[i].c, ?_, hp.own.at_n⟩, hcell⟩
      rw [← hp.name, ← hp.len]; exact he
structure OwnPat (B : Nat) (w : World) (pa : Option Addr) (pc : Nat) (sa : Option Addr) (sc : Nat) (rs : List RawP) (p : Pattern) : Prop where
  row : Own B w 55 (.slice pa p.pieces.length pc) rs
  pieces : OwnPieces B w rs p.pieces
  seams : Own B w 36 (.slice sa p.seams.length sc) p.seams
  far : ∀ r ∈ rs, Apart (blk r) (Value.slice pa p.pieces.length pc).ownBlock ∧ Apart (blk r) (Value.slice sa p.seams.length sc).ownBlock
  two : Apart (Value.slice sa p.seams.length sc).ownBlock (Value.slice pa p.pieces.length pc).ownBlock
theorem OwnPat.later {B : Nat} {w w' : World} {pa : Option Addr} {pc : Nat} {sa : Option Addr} {sc : Nat} {rs : List RawP} {p : Pattern} (h : OwnPat B w pa pc sa sc rs p) (hb : Below w.heap.size w w') : OwnPat B w' pa pc sa sc rs p :=
  ⟨h.row.later hb, h.pieces.later hb, h.seams.later hb, h.far, h.two⟩
theorem OwnPat.base {B B' : Nat} {w : World} {pa : Option Addr} {pc : Nat} {sa : Option Addr} {sc : Nat} {rs : List RawP} {p : Pattern} (h : OwnPat B w pa pc sa sc rs p) (hB : B' ≤ B) : OwnPat B' w pa pc sa sc rs p :=
  ⟨h.row.base hB, h.pieces.base hB, h.seams.base hB, h.far, h.two⟩
theorem OwnPat.lie {B : Nat} {w : World} {pa : Option Addr} {pc : Nat} {sa : Option Addr} {sc : Nat} {rs : List RawP} {p : Pattern} (h : OwnPat B w pa pc sa sc rs p) : LieP w pa sa p :=
  ⟨h.pieces.at h.row.at_n, h.seams.at_n⟩
/-- A variable's cells. -/
structure Var (w : World) (b : Nat) (cs : List Value) : Prop where
  cell : ∀ j v, cs[j]? = some v → w.cell? ⟨b, j, none⟩ = some v
  free : ∀ j v, cs[j]? = some v → w.frozen? ⟨b, j, none⟩ = false
theorem Var.below {w w' : World} {b : Nat} {cs : List Value} (h : Var w b cs) (hb : Below w.heap.size w w') : Var w' b cs :=
  ⟨fun j v hv => kept_cell (h.cell j v hv) hb, fun j v hv => by
    rw [hb.frozen (p := ⟨b, j, none⟩) (block_lt_of_cell (h.cell j v hv))]; exact h.free j v hv⟩
theorem Var.grown {w w' : World} {b : Nat} {row : Option Nat} {cs : List Value} (h : Var w b cs) (hg : w.grownBy w' row) (hne : some b ≠ row) : Var w' b cs := by
  refine ⟨fun j v hv => hg.cell (h.cell j v hv) hne, fun j v hv => ?_⟩
  have e : w'.heap[b]? = w.heap[b]? := hg.block b (block_lt_of_cell (h.cell j v hv)) hne
  rw [← h.free j v hv]; unfold World.frozen?; rw [e]
theorem Var.set {w : World} {b : Nat} {cs : List Value} (h : Var w b cs) (j : Nat) (v : Value) (hj : j < cs.length) : Var (w.setCell ⟨b, j, none⟩ v) b (cs.set j v) := by
  obtain ⟨u, hu⟩ : ∃ u, cs[j]? = some u := ⟨_, List.getElem?_eq_getElem hj⟩
  have hcj := h.cell j u hu
  refine ⟨fun i x hx => ?_, fun i x hx => ?_⟩
  · by_cases hij : j = i
    · subst hij
      rw [List.getElem?_set_self hj] at hx
      cases hx
      go_simp
    · rw [List.getElem?_set_ne hij] at hx
      have hci := h.cell i x hx
      have hij' : i ≠ j := fun e => hij e.symm
      go_simp
  · obtain ⟨y, hy⟩ : ∃ y, cs[i]? = some y := by
      have : i < (cs.set j v).length := (List.getElem?_eq_some_iff.1 hx).1
      rw [List.length_set] at this
      exact ⟨_, List.getElem?_eq_getElem this⟩
    have hfi := h.free i y hy
    go_simp
theorem Var.new1 (w : World) (a : Value) (t : TypeId) : Var (w.alloc (.cells #[a] t)) w.heap.size [a] := by
  constructor
  · intro j v h
    rcases j with _ | j
    · simp at h; subst h; go_simp
    · simp at h
  · intro j v h
    rcases j with _ | j
    · go_simp
    · simp at h
theorem Var.new2 (w : World) (a b : Value) (t : TypeId) : Var (w.alloc (.cells #[a, b] t)) w.heap.size [a, b] := by
  constructor
  · intro j v h
    rcases j with _ | _ | j
    · simp at h; subst h; go_simp
    · simp at h; subst h; go_simp
    · simp at h
  · intro j v h
    rcases j with _ | _ | j
    · go_simp
    · go_simp
    · simp at h
theorem Var.new3 (w : World) (a b c : Value) (t : TypeId) : Var (w.alloc (.cells #[a, b, c] t)) w.heap.size [a, b, c] := by
  constructor
  · intro j v h
    rcases j with _ | _ | _ | j
    · simp at h; subst h; go_simp
    · simp at h; subst h; go_simp
    · simp at h; subst h; go_simp
    · simp at h
  · intro j v h
    rcases j with _ | _ | _ | j
    · go_simp
    · go_simp
    · go_simp
    · simp at h
theorem Var.new4 (w : World) (a b c d : Value) (t : TypeId) : Var (w.alloc (.cells #[a, b, c, d] t)) w.heap.size [a, b, c, d] := by
  constructor
  · intro j v h
    rcases j with _ | _ | _ | _ | j
    · simp at h; subst h; go_simp
    · simp at h; subst h; go_simp
    · simp at h; subst h; go_simp
    · simp at h; subst h; go_simp
    · simp at h
  · intro j v h
    rcases j with _ | _ | _ | _ | j
    · go_simp
    · go_simp
    · go_simp
    · go_simp
    · simp at h
theorem grown_setCell (w : World) (a : Addr) (v : Value) : w.grownBy (w.setCell a v) (some a.block) :=
  ⟨rfl, rfl, rfl, by simp, fun k _ hk => Go.Deep.blk_setCell_other w a v k (fun e => hk (by rw [e]))⟩
theorem some_ne {a b : Nat} (h : a ≠ b) : some a ≠ some b := fun e => h (Option.some.inj e)
theorem new_below (w : World) (o : Obj) : Below w.heap.size w (w.alloc o) := (Below.refl _ _).alloc (Nat.le_refl _) _
theorem infoPiece : (Try.prog.info? 55).map (fun i => (i.zero, i.size, i.bytes)) = some (some (.agg #[.string ⟨#[]⟩, .slice none 0 0]), 2, 40) := by kernel_rfl
set_option maxHeartbeats 800000 in
theorem toPiece_c (x : Piece) (a : Option Addr) (c : Nat) (w : World) (hA : At w a x.edges) (hl : x.edges.length ≤ 1048576) :
    Calls Try.prog 63 #[.agg #[.string x.name, .slice a x.edges.length c]] w fun e w' => ∃ r : RawP, e = .returned (.agg #[.string r.name, .slice r.a r.n r.c]) ∧ OwnPiece w.heap.size w' r x ∧ Below w.heap.size w w' := by
  obtain ⟨w1, hw1⟩ : ∃ w1, w1 = w.alloc (.cells #[.string x.name, .slice a x.edges.length c] 87) := ⟨_, rfl⟩
  obtain ⟨w2, hw2⟩ : ∃ w2, w2 = w1.alloc (.cells #[.string ⟨#[]⟩, .slice none 0 0] 55) := ⟨_, rfl⟩
  obtain ⟨w3, hw3⟩ : ∃ w3, w3 = w2.alloc (.cells #[.string x.name, .slice none 0 0] 55) := ⟨_, rfl⟩
  have s1 : w1.heap.size = w.heap.size + 1 := by rw [hw1]; simp
  have s2 : w2.heap.size = w.heap.size + 1 + 1 := by rw [hw2]; simp [s1]
  have b1 : Below w.heap.size w w1 := by rw [hw1]; exact new_below _ _
  have b2 : Below w1.heap.size w1 w2 := by rw [hw2]; exact new_below _ _
  have b3 : Below w2.heap.size w2 w3 := by rw [hw3]; exact new_below _ _
  have V2 : Var w3 (w.heap.size + 1) [.string ⟨#[]⟩, .slice none 0 0] := by rw [← s1]; exact Var.below (by rw [hw2]; exact Var.new2 _ _ _ _) b3
  have V3 : Var w3 (w.heap.size + 1 + 1) [.string x.name, .slice none 0 0] := by rw [← s2]; rw [hw3]; exact Var.new2 _ _ _ _
  have hb : Below w.heap.size w w3 := upw (upw b1 b2) b3
  have s3 : w3.heap.size = w.heap.size + 1 + 1 + 1 := by rw [hw3]; simp [s2]
  have hs := Lib.hid (show ((w.alloc (.cells #[.string x.name, .slice a x.edges.length c] 87)).alloc (.cells #[.string ⟨#[]⟩, .slice none 0 0] 55)).alloc (.cells #[.string x.name, .slice none 0 0] 55) = w3 by rw [hw3, hw2, hw1])
  replace s3 := Lib.hid s3
  clear hw1 hw2 hw3 s1 s2 b1 b2 b3
  go_enter Try.func63, Try.ntmps63
  go_wp2_with fail
  rw [hs.out]
  refine (toInt64S_any _ _ _ _ (hA.below hb) hl).mono ?_
  rintro e w4 ⟨v, rfl, hO, hb4⟩
  obtain ⟨a', c', rfl, _⟩ := hO.at
  replace V2 := V2.below hb4
  replace V3 := V3.below hb4
  have hsz := hb.size
  replace hb := upw hb hb4
  have d0 := V2.cell 0 _ rfl
  have d1 := V2.cell 1 _ rfl
  have d2 := V3.cell 0 _ rfl
  have d3 := V3.cell 1 _ rfl
  have f0 := V2.free 0 _ rfl
  have f1 := V2.free 1 _ rfl
  have f2 := V3.free 0 _ rfl
  have f3 := V3.free 1 _ rfl
  clear V2 V3
  go_wp2_with fail
  have hb5 := (((hb.setCell (p := ⟨w.heap.size + 1 + 1, 1, none⟩) (by simp; omega) (.slice a' x.edges.length c')).setCell (p := ⟨w.heap.size + 1, 0, none⟩) (by simp) (.string x.name)).setCell (p := ⟨w.heap.size + 1, 1, none⟩) (by simp) (.slice a' x.edges.length c'))
  refine bodyPost_ret (v := .agg #[.string x.name, .slice a' x.edges.length c']) (by simp [results, Try.results63, go_sem, d0, d1]) rfl ⟨⟨x.name, a', x.edges.length, c'⟩, rfl, ⟨rfl, rfl, ?_⟩, hb5⟩
  have h3 := s3.out
  exact (((hO.past (grown_setCell _ _ _) (by simp; omega)).past (grown_setCell _ _ _) (by simp; omega)).past (grown_setCell _ _ _) (by simp; omega)).base hsz
set_option maxHeartbeats 800000 in
theorem toPieceS_c (a : Option Addr) (ps : List Piece) (c : Nat) (w : World) (hx : At w a ps) (hl : ps.length ≤ 1048576) (hl2 : ∀ x ∈ ps, x.edges.length ≤ 1048576) :
    Calls Try.prog 32 #[.slice a ps.length c] w fun e w' => ∃ v rs, e = .returned v ∧ Own w.heap.size w' 55 v rs ∧ OwnPieces w.heap.size w' rs ps ∧ (∀ r ∈ rs, Apart (blk r) v.ownBlock) ∧ Below w.heap.size w w' := by
  obtain ⟨i0, hi, hz0, hz1, hz2⟩ := info_parts infoPiece
  replace hl2 := Lib.hid hl2
  go_enter Try.func32, Try.ntmps32
  go_wp2_with (at_make; refine wpList_make_full _ rfl (.tmp 6) (.tmp 6) 29 rfl w.heap.size 55 i0 (.agg #[.string ⟨#[]⟩, .slice none 0 0]) 2 Try.underlying29 hi hz0 hz1 .i64 .i64 _ _ ps.length rfl rfl rfl rfl (by rw [hz2]; omega) (by unfold maxLen; omega) (Nat.le_refl _) ?_; intro w1 hown hg)
  have hb1 : Below w.heap.size w w1 := (Below.refl _ _).grown hg (Nat.le_refl _) (by simp)
  have HO : Own w.heap.size w1 55 (.slice (some ⟨w.heap.size, 0, none⟩) ps.length ps.length) (List.replicate ps.length (⟨⟨#[]⟩, none, 0, 0⟩ : RawP)) := by
    unfold Own; rw [List.length_replicate, ← made_flat (⟨⟨#[]⟩, none, 0, 0⟩ : RawP) _ rfl]; exact hown
  have hsz1 := (HO.lt w.heap.size rfl).2
  clear hown hg
  go_loopw [4] (fun i wr => ∃ (k : Nat) (rs : List RawP), k ≤ ps.length ∧ i = .int .i64 k ∧ rs.length = ps.length ∧ Own w.heap.size wr 55 (.slice (some ⟨w.heap.size, 0, none⟩) ps.length ps.length) rs ∧ (∀ j, j < k → ∀ (h1 : j < rs.length) (h2 : j < ps.length), OwnPiece (w.heap.size + 1) wr rs[j] ps[j]) ∧ (∀ j l, j < k → l < k → ∀ (h1 : j < rs.length) (h2 : l < rs.length), j ≠ l → Apart (blk rs[j]) (blk rs[l])) ∧ Below w.heap.size w wr) (fun i _ => ps.length - (intOf i).toNat)
  case atStart => exact ⟨0, _, Nat.zero_le _, rfl, List.length_replicate, HO, fun j h => absurd h (Nat.not_lt_zero _), fun j l h => absurd h (Nat.not_lt_zero _), hb1⟩
  case round =>
    clear HO hb1 hsz1
    obtain ⟨k, rs, hk, rfl, hrl, hO, hE, hA2, hb⟩ := hrel
    replace hA2 := Lib.hid hA2
    have hsz1 := (hO.lt w.heap.size rfl).2
    replace hrl := Lib.hid hrl
    replace hE := Lib.hid hE
    by_cases hlt : k < ps.length
    · have hx := hx.below hb
      obtain ⟨b, off, rfl⟩ := hx.addr hlt
      obtain ⟨ea, ec, c0, c1, hA⟩ := hx.piece hlt
      have hkr : k < rs.length := by rw [hrl.out]; exact hlt
      go_wp2_with fail
      refine (toPiece_c ps[k] ea ec _ hA (hl2.out _ (List.getElem_mem hlt))).mono ?_
      rintro e w2 ⟨r, rfl, hP, hb2⟩
      go_wp2_with (refine wpList_store_own rfl 55 (.tmp 21) (.tmp 20) rfl w.heap.size 55 _ _ _ rs k _ r rfl (by simp [Flat.k]) rfl (by kernel_rfl) hrl.out.symm (hO.later hb2) hkr ?_; intro w3 hO3 hg3)
      go_roundw
      case rel =>
        have hnew : ∀ j, j < k → ∀ (h1 : j < rs.length), Apart (blk rs[j]) (blk r) := fun j hj h1 => by
          have ho := (hE.out j hj h1 (by rw [← hrl.out]; exact h1)).own
          refine Apart.symm ?_
          cases hv : blk r with
          | none => exact Or.inl rfl
          | some b =>
            right; intro e
            have a1 := (hP.own.lt b hv).1
            have a2 := (ho.lt b e.symm).2
            omega
        refine ⟨k + 1, _, by omega, by go_num, by rw [List.length_set]; exact hrl.out, hO3, fun j hj h1 h2 => ?_, fun j l hj hl' h1 h2 hne => ?_, (upw hb hb2).grown hg3 (upw hb hb2).size (by simp)⟩
        rotate_left
        · by_cases hjk : j = k
          · subst hjk
            rw [List.getElem_set_self, List.getElem_set_ne (fun h => hne h)]
            exact (hnew l (by omega) (by simpa using h2)).symm
          · by_cases hlk : l = k
            · subst hlk
              rw [List.getElem_set_self, List.getElem_set_ne (fun h => hne h.symm)]
              exact hnew j (by omega) (by simpa using h1)
            · rw [List.getElem_set_ne (fun h => hjk h.symm), List.getElem_set_ne (fun h => hlk h.symm)]
              exact hA2.out j l (by omega) (by omega) (by simpa using h1) (by simpa using h2) hne
        have past : ∀ {r : RawP} {x : Piece}, OwnPiece (w.heap.size + 1) w2 r x → OwnPiece (w.heap.size + 1) w3 r x := fun h => ⟨h.name, h.len, h.own.past hg3 (Nat.lt_succ_self _)⟩
        by_cases hjk : j = k
        · subst hjk
          rw [List.getElem_set_self]
          exact past (hP.base hsz1)
        · rw [List.getElem_set_ne (fun h => hjk h.symm)]
          exact past ((hE.out j (by omega) (by rw [hrl.out]; exact h2) h2).later hb2)
      case measure => simp [intOf]; omega
    · go_wp2
      go_ret
      exact ⟨_, _, rfl, hO, ⟨hrl.out, fun i j h1 h2 hne => hA2.out i j (by have := hrl.out; omega) (by have := hrl.out; omega) h1 h2 hne, fun i h1 h2 => (hE.out i (by omega) h1 h2).base (Nat.le_succ _)⟩, fun r hr => by
        obtain ⟨i, hi, rfl⟩ := List.mem_iff_getElem.1 hr
        have ho := (hE.out i (by have := hrl.out; omega) hi (by rw [← hrl.out]; exact hi)).own
        cases hv : blk rs[i] with
        | none => exact Or.inl rfl
        | some b =>
          right; intro e
          have a1 := (ho.lt b hv).1
          simp [Value.ownBlock] at e
          omega, hb⟩
set_option maxHeartbeats 1600000 in
theorem toPattern_c (p : Pattern) (a : Option Addr) (c : Nat) (b : Option Addr) (d : Nat) (w : World) (hp : LieP w a b p) (hl : totPattern p ≤ 1048576) :
    Calls Try.prog 8 #[.agg #[.slice a p.pieces.length c, .slice b p.seams.length d, .int .i64 p.openings]] w fun e w' => ∃ pa pc sa sc rs, e = .returned (.agg #[.slice pa p.pieces.length pc, .slice sa p.seams.length sc, .int .i64 p.openings]) ∧ OwnPat w.heap.size w' pa pc sa sc rs p ∧ Below w.heap.size w w' := by
  have l1 : p.pieces.length ≤ 1048576 := by unfold totPattern totPieces at hl; omega
  have l2 : p.seams.length ≤ 1048576 := by unfold totPattern at hl; omega
  have l3 : ∀ x ∈ p.pieces, x.edges.length ≤ 1048576 := fun x hx => by
    obtain ⟨i, hi, rfl⟩ := List.mem_iff_getElem.1 hx
    have := sumN_mem totPiece p.pieces i hi
    unfold totPattern totPieces at hl; unfold totPiece at *; omega
  obtain ⟨w1, hw1⟩ : ∃ w1, w1 = w.alloc (.cells #[.slice a p.pieces.length c, .slice b p.seams.length d, .int .i64 p.openings] 25) := ⟨_, rfl⟩
  obtain ⟨w2, hw2⟩ : ∃ w2, w2 = w1.alloc (.cells #[.slice none 0 0, .slice none 0 0, .int .i64 0] 32) := ⟨_, rfl⟩
  obtain ⟨w3, hw3⟩ : ∃ w3, w3 = w2.alloc (.cells #[.slice none 0 0, .slice none 0 0, .int .i64 0] 32) := ⟨_, rfl⟩
  have s1 : w1.heap.size = w.heap.size + 1 := by rw [hw1]; simp
  have s2 : w2.heap.size = w.heap.size + 1 + 1 := by rw [hw2]; simp [s1]
  have s3 : w3.heap.size = w.heap.size + 1 + 1 + 1 := by rw [hw3]; simp [s2]
  have b1 : Below w.heap.size w w1 := by rw [hw1]; exact new_below _ _
  have b2 : Below w1.heap.size w1 w2 := by rw [hw2]; exact new_below _ _
  have b3 : Below w2.heap.size w2 w3 := by rw [hw3]; exact new_below _ _
  have V1 : Var w3 w.heap.size [.slice a p.pieces.length c, .slice b p.seams.length d, .int .i64 p.openings] := Var.below (Var.below (by rw [hw1]; exact Var.new3 _ _ _ _ _) b2) b3
  have V2 : Var w3 (w.heap.size + 1) [.slice none 0 0, .slice none 0 0, .int .i64 0] := by rw [← s1]; exact Var.below (by rw [hw2]; exact Var.new3 _ _ _ _ _) b3
  have V3 : Var w3 (w.heap.size + 1 + 1) [.slice none 0 0, .slice none 0 0, .int .i64 0] := by rw [← s2]; rw [hw3]; exact Var.new3 _ _ _ _ _
  have hb : Below w.heap.size w w3 := upw (upw b1 b2) b3
  have hs := Lib.hid (show ((w.alloc (.cells #[.slice a p.pieces.length c, .slice b p.seams.length d, .int .i64 p.openings] 25)).alloc (.cells #[.slice none 0 0, .slice none 0 0, .int .i64 0] 32)).alloc (.cells #[.slice none 0 0, .slice none 0 0, .int .i64 0] 32) = w3 by rw [hw3, hw2, hw1])
  replace s3 := Lib.hid s3
  clear hw1 hw2 hw3 s1 s2 b1 b2 b3
  go_enter Try.func8, Try.ntmps8
  go_wp2_with fail
  rw [hs.out]
  refine (toPieceS_c _ _ _ _ (hp.pieces.below hb) l1 l3).mono ?_
  rintro e w4 ⟨v, rs, rfl, hO, hP, hF, hb4⟩
  have hrl := hP.len
  obtain ⟨a', c', rfl, _⟩ := hO.at
  rw [hrl] at hF
  rw [hrl] at hO
  rw [hrl]
  replace V1 := V1.below hb4
  replace V2 := V2.below hb4
  replace V3 := V3.below hb4
  have hsz := hb.size
  have hsz4 := hb4.size
  replace hb := upw hb hb4
  have e0 := V1.cell 1 _ rfl
  have d2 := V3.cell 0 _ rfl
  have f2 := V3.free 0 _ rfl
  replace hrl := Lib.hid hrl
  have h3 := s3.out
  replace h3 : w.heap.size + 1 + 1 < w4.heap.size := by omega
  have n0 : w.heap.size ≠ w.heap.size + 1 + 1 := by omega
  have n1 : w.heap.size + 1 ≠ w.heap.size + 1 + 1 := by omega
  go_wp2_with fail
  obtain ⟨w5, hw5⟩ : ∃ w5, w5 = w4.setCell ⟨w.heap.size + 1 + 1, 0, none⟩ (.slice a' p.pieces.length c') := ⟨_, rfl⟩
  rw [← hw5]
  replace hb : Below w.heap.size w w5 := by rw [hw5]; exact hb.setCell (show w.heap.size ≤ w.heap.size + 1 + 1 by omega) _
  have hg5 : w4.grownBy w5 (some (w.heap.size + 1 + 1)) := by rw [hw5]; exact grown_setCell _ _ _
  have hz3 := s3.out
  replace hO := hO.past hg5 (by omega)
  replace hP : OwnPieces w3.heap.size w5 rs p.pieces := ⟨hP.len, hP.apart, fun i h1 h2 => ⟨(hP.each i h1 h2).name, (hP.each i h1 h2).len, (hP.each i h1 h2).own.past hg5 (by omega)⟩⟩
  have V1' : Var w5 w.heap.size [.slice a p.pieces.length c, .slice b p.seams.length d, .int .i64 p.openings] := V1.grown hg5 (some_ne n0)
  have V2' : Var w5 (w.heap.size + 1) [.slice none 0 0, .slice none 0 0, .int .i64 0] := V2.grown hg5 (some_ne n1)
  have V3' : Var w5 (w.heap.size + 1 + 1) [.slice a' p.pieces.length c', .slice none 0 0, .int .i64 0] := by rw [hw5]; exact V3.set 0 _ (by simp)
  have hs5 : w3.heap.size ≤ w5.heap.size := by have := hg5.size; omega
  clear V1 V2 V3 e0 d2 f2 hw5 hg5 h3 hz3
  refine (toSeamS_any _ _ _ _ (hp.seams.below hb) l2).mono ?_
  rintro e w6 ⟨v6, rfl, hO6, hb6⟩
  have hF6 : ∀ r ∈ rs, Apart (blk r) v6.ownBlock := fun r hr => by
    obtain ⟨i, hi, rfl⟩ := List.mem_iff_getElem.1 hr
    have ho := (hP.each i hi (by rw [← hrl.out]; exact hi)).own
    refine Apart.symm ?_
    cases hv : v6.ownBlock with
    | none => exact Or.inl rfl
    | some b =>
      right; intro e
      have a1 := (hO6.lt b hv).1
      have a2 := (ho.lt b e.symm).2
      omega
  have hT6 : Apart v6.ownBlock (Value.slice a' p.pieces.length c').ownBlock := own_apart hO hO6 (Nat.le_refl _)
  replace hF := Lib.hid hF
  replace hF6 := Lib.hid hF6
  replace hT6 := Lib.hid hT6
  obtain ⟨a6, c6, rfl, _⟩ := hO6.at
  replace V1' := V1'.below hb6
  replace V2' := V2'.below hb6
  replace V3' := V3'.below hb6
  replace hO := hO.later hb6
  replace hP := hP.later hb6
  replace hb := upw hb hb6
  have hs6 := hb6.size
  have e2 := V1'.cell 2 _ rfl
  have d0 := V2'.cell 0 _ rfl
  have d1 := V2'.cell 1 _ rfl
  have d2 := V2'.cell 2 _ rfl
  have f0 := V2'.free 0 _ rfl
  have f1 := V2'.free 1 _ rfl
  have f2 := V2'.free 2 _ rfl
  have g0 := V3'.cell 0 _ rfl
  have g1 := V3'.cell 1 _ rfl
  have g2 := V3'.cell 2 _ rfl
  have k0 := V3'.free 0 _ rfl
  have k1 := V3'.free 1 _ rfl
  have k2 := V3'.free 2 _ rfl
  clear V1' V2' V3'
  have hbf := (((((hb.setCell (p := ⟨w.heap.size + 1 + 1, 1, none⟩) (show w.heap.size ≤ w.heap.size + 1 + 1 by omega) (.slice a6 p.seams.length c6)).setCell (p := ⟨w.heap.size + 1 + 1, 2, none⟩) (show w.heap.size ≤ w.heap.size + 1 + 1 by omega) (.int .i64 p.openings)).setCell (p := ⟨w.heap.size + 1, 0, none⟩) (by simp) (.slice a' p.pieces.length c')).setCell (p := ⟨w.heap.size + 1, 1, none⟩) (by simp) (.slice a6 p.seams.length c6)).setCell (p := ⟨w.heap.size + 1, 2, none⟩) (by simp) (.int .i64 p.openings))
  have HBF := Lib.hid hbf
  clear hbf
  go_wp2_with fail
  refine bodyPost_ret (v := .agg #[.slice a' p.pieces.length c', .slice a6 p.seams.length c6, .int .i64 p.openings]) (by simp [results, Try.results8, go_sem, d0, d1, d2]) rfl ⟨a', c', a6, c6, rs, rfl, ?_, HBF.out⟩
  have h3 := s3.out
  have five : ∀ {α : Type} [Flat α] {e : TypeId} {v : Value} {xs : List α}, Own w3.heap.size w6 e v xs → Own w.heap.size (((((w6.setCell ⟨w.heap.size + 1 + 1, 1, none⟩ (.slice a6 p.seams.length c6)).setCell ⟨w.heap.size + 1 + 1, 2, none⟩ (.int .i64 p.openings)).setCell ⟨w.heap.size + 1, 0, none⟩ (.slice a' p.pieces.length c')).setCell ⟨w.heap.size + 1, 1, none⟩ (.slice a6 p.seams.length c6)).setCell ⟨w.heap.size + 1, 2, none⟩ (.int .i64 p.openings)) e v xs := fun h =>
    (((((h.past (grown_setCell _ _ _) (show w.heap.size + 1 + 1 < _ by omega)).past (grown_setCell _ _ _) (show w.heap.size + 1 + 1 < _ by omega)).past (grown_setCell _ _ _) (show w.heap.size + 1 < _ by omega)).past (grown_setCell _ _ _) (show w.heap.size + 1 < _ by omega)).past (grown_setCell _ _ _) (show w.heap.size + 1 < _ by omega)).base hsz
  exact ⟨five hO, ⟨hP.len, hP.apart, fun i h1 h2 => ⟨(hP.each i h1 h2).name, (hP.each i h1 h2).len, five (hP.each i h1 h2).own⟩⟩, five (hO6.base hs5), fun r hr => ⟨hF.out r hr, hF6.out r hr⟩, hT6.out⟩
theorem eqPiece_same (x : Piece) (a : Option Addr) (c : Nat) (a' : Option Addr) (c' : Nat) (w : World) (hx : At w a x.edges) (hy : At w a' x.edges) (hl : x.edges.length ≤ 9223372036854775807) :
    Calls Try.prog 72 #[.agg #[.string x.name, .slice a x.edges.length c], .agg #[.string x.name, .slice a' x.edges.length c']] w fun e w' => e = .returned (.bool true) ∧ Below w.heap.size w w' := by
  obtain ⟨w1, hw1⟩ : ∃ w1, w1 = (w.alloc (.cells #[.string x.name, .slice a x.edges.length c] 55)).alloc (.cells #[.string x.name, .slice a' x.edges.length c'] 55) := ⟨_, rfl⟩
  have hb : Below w.heap.size w w1 := by rw [hw1]; exact upw (new_below _ _) (new_below _ _)
  replace hw1 := Lib.hid hw1
  go_enter Try.func72, Try.ntmps72
  go_wp2_with fail
  rw [← hw1.out]
  refine (eqInt64S_same _ _ _ _ _ _ (hx.below hb) (hy.below hb) hl).mono ?_
  rintro e w2 ⟨rfl, hb2⟩
  replace hb := upw hb hb2
  go_wp2_with fail
  go_ret
  exact ⟨rfl, hb⟩
theorem eqPieceS_same (a : Option Addr) (ps : List Piece) (c : Nat) (a' : Option Addr) (c' : Nat) (w : World) (hx : At w a ps) (hy : At w a' ps) (hl : ps.length ≤ 9223372036854775807) (hl2 : ∀ x ∈ ps, x.edges.length ≤ 9223372036854775807) :
    Calls Try.prog 38 #[.slice a ps.length c, .slice a' ps.length c'] w fun e w' => e = .returned (.bool true) ∧ Below w.heap.size w w' := by
  replace hl2 := Lib.hid hl2
  have hne : ((ps.length : Int) != ps.length) = false := by simp
  go_enter Try.func38, Try.ntmps38
  go_wp2_with fail
  go_loopw [5] (fun i wr => ∃ k : Nat, k ≤ ps.length ∧ i = .int .i64 k ∧ Below w.heap.size w wr) (fun i _ => ps.length - (intOf i).toNat)
  case atStart => exact ⟨0, Nat.zero_le _, rfl, Below.refl _ _⟩
  case round =>
    obtain ⟨k, hk, rfl, hb⟩ := hrel
    replace hx := hx.below hb
    replace hy := hy.below hb
    by_cases hlt : k < ps.length
    · obtain ⟨b, off, rfl⟩ := hx.addr hlt
      obtain ⟨b', off', rfl⟩ := hy.addr hlt
      obtain ⟨ea, ec, c0, c1, hA⟩ := hx.piece hlt
      obtain ⟨ea', ec', c2, c3, hA'⟩ := hy.piece hlt
      have hl3 := hl2.out _ (List.getElem_mem hlt)
      replace c0 := rg c0
      replace c1 := rg c1
      replace c2 := rg c2
      replace c3 := rg c3
      go_wp2_with fail
      refine wp_region_quiet_below (by kernel_rfl) (by kernel_rfl) ?_
      repeat (go_big_quiet_step ((go_at_call 72; exact Calls.regrown_of (eqPiece_same _ _ _ _ _ _ (hA.below (grown_of ⟨⟨_, _⟩, rfl⟩)) (hA'.below (grown_of ⟨⟨_, _⟩, rfl⟩)) hl3))))
      refine wpQuiet_nil ?_
      intro w2 hw'
      replace hb := upw hb (grown_of hw')
      clear hw'
      go_wp2_with fail
      go_roundw
      case rel => exact ⟨k + 1, by omega, by go_num, hb⟩
      case measure => simp [intOf]; omega
    · go_wp2_with fail
      go_ret
      exact ⟨rfl, hb⟩
set_option maxHeartbeats 800000 in
theorem eqPattern_same (p : Pattern) (a : Option Addr) (c : Nat) (b : Option Addr) (d : Nat) (a' : Option Addr) (c' : Nat) (b' : Option Addr) (d' : Nat) (w : World) (hx : LieP w a b p) (hy : LieP w a' b' p) (hl : totPattern p ≤ 1048576) :
    Calls Try.prog 11 #[.agg #[.slice a p.pieces.length c, .slice b p.seams.length d, .int .i64 p.openings], .agg #[.slice a' p.pieces.length c', .slice b' p.seams.length d', .int .i64 p.openings]] w fun e w' => e = .returned (.bool true) ∧ Below w.heap.size w w' := by
  have l1 : p.pieces.length ≤ 1048576 := by unfold totPattern totPieces at hl; omega
  have l2 : p.seams.length ≤ 1048576 := by unfold totPattern at hl; omega
  have l3 : ∀ x ∈ p.pieces, x.edges.length ≤ 9223372036854775807 := fun x hx => by
    obtain ⟨i, hi, rfl⟩ := List.mem_iff_getElem.1 hx
    have := sumN_mem totPiece p.pieces i hi
    unfold totPattern totPieces at hl; unfold totPiece at *; omega
  clear hl
  obtain ⟨w1, hw1⟩ : ∃ w1, w1 = (w.alloc (.cells #[.slice a p.pieces.length c, .slice b p.seams.length d, .int .i64 p.openings] 32)).alloc (.cells #[.slice a' p.pieces.length c', .slice b' p.seams.length d', .int .i64 p.openings] 32) := ⟨_, rfl⟩
  have hb : Below w.heap.size w w1 := by rw [hw1]; exact upw (new_below _ _) (new_below _ _)
  have V1 : Var w1 w.heap.size [.slice a p.pieces.length c, .slice b p.seams.length d, .int .i64 p.openings] := by rw [hw1]; exact (Var.new3 _ _ _ _ _).below (new_below _ _)
  have V2 : Var w1 (w.heap.size + 1) [.slice a' p.pieces.length c', .slice b' p.seams.length d', .int .i64 p.openings] := by
    rw [hw1, show w.heap.size + 1 = (w.alloc (.cells #[.slice a p.pieces.length c, .slice b p.seams.length d, .int .i64 p.openings] 32)).heap.size by simp]; exact Var.new3 _ _ _ _ _
  replace hw1 := Lib.hid hw1
  go_enter Try.func11, Try.ntmps11
  go_wp2_with fail
  rw [← hw1.out]
  refine (eqPieceS_same _ _ _ _ _ _ (hx.pieces.below hb) (hy.pieces.below hb) (by omega) l3).mono ?_
  rintro e w2 ⟨rfl, hb2⟩
  replace hb := upw hb hb2
  replace V1 := V1.below hb2
  replace V2 := V2.below hb2
  have c1 := V1.cell 1 _ rfl
  have d1 := V2.cell 1 _ rfl
  go_wp2_with fail
  refine (eqSeamS_same _ _ _ _ _ _ (hx.seams.below hb) (hy.seams.below hb) (by omega)).mono ?_
  rintro e w3 ⟨rfl, hb3⟩
  replace hb := upw hb hb3
  replace V1 := V1.below hb3
  replace V2 := V2.below hb3
  have c2 := V1.cell 2 _ rfl
  have d2 := V2.cell 2 _ rfl
  have hne : (p.openings != p.openings) = false := by simp
  go_wp2_with fail
  go_ret
  exact ⟨rfl, hb⟩
end Go.Proofs.Ytlmhiocmldhkhaa
