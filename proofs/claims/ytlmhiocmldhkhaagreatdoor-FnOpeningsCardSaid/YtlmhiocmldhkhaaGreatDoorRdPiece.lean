/- Chapter 8: a piece read back from its text. -/
import Derived.Test.YtlmhiocmldhkhaaGreatDoorReadU
import Derived.Test.YtlmhiocmldhkhaaGreatDoorPieceT
namespace Go.Proofs.YtlmhiocmldhkhaaGreatDoor
open Go.RowKit

theorem name_free {nm : ByteArray} (h : isName nm = true) : (32 : UInt8) ∉ nm.data.toList := by
  intro hm
  obtain ⟨i, hi, he⟩ := List.mem_iff_getElem.1 hm
  have hs : i < nm.size := by simpa using hi
  have h2 : nameByte (byteAt nm i) = true := by
    cases hb : nameByte (byteAt nm i)
    · rw [isName_bad hs hb] at h; cases h
    · rfl
  have h3 : byteAt nm i = 32 := by
    rw [byteAt_get hs]
    have : nm[i] = 32 := he
    rw [this]; rfl
  rw [h3] at h2
  revert h2; decide
theorem txt_list (nm : ByteArray) (xs : List Int) : (txt nm xs).data.toList = Lib.join (nm.data.toList :: xs.map Lib.itoa) [32] := by
  rw [Lib.join_cons]; simp [txt]
theorem txt_parts {nm : ByteArray} (h : (32 : UInt8) ∉ nm.data.toList) (xs : List Int) : parts 32 (txt nm xs) = nm :: xs.map decT := by
  unfold parts
  rw [txt_list, splitC_join _ (by simp) (fun y hy => by
    rcases List.mem_cons.1 hy with rfl | hy
    · exact h
    · obtain ⟨n, _, rfl⟩ := List.mem_map.1 hy; exact itoa_free isSep_blank n), List.map_cons, List.map_map]
  congr 1
/-- The piece with a text. -/
noncomputable def readPiece (s : ByteArray) : Option Piece := unread fun x => okPiece x = true ∧ txt x.name x.edges = s
theorem okPiece_name {x : Piece} (h : okPiece x = true) : isName x.name = true := by
  unfold okPiece at h
  simp only [Bool.and_eq_true] at h
  exact h.1.1
theorem piece_shape {s : ByteArray} {x : Piece} (h : okPiece x = true) (e : txt x.name x.edges = s) : parts 32 s = x.name :: x.edges.map decT := by
  rw [← e]; exact txt_parts (name_free (okPiece_name h)) _
theorem edges_back {x : Piece} (h : okPiece x = true) : allNums (x.edges.map decT) = true ∧ (x.edges.map decT).map rd = x.edges := by
  have h3 := (okPiece_facts h).2.2.1
  constructor
  · unfold allNums
    rw [List.all_eq_true]
    intro p hp
    obtain ⟨n, hn, rfl⟩ := List.mem_map.1 hp
    have := h3 n hn
    rw [rdB_dec (by omega)]; rfl
  · rw [List.map_map]
    conv => rhs; rw [← List.map_id x.edges]
    apply List.map_congr_left
    intro n hn
    have := h3 n hn
    show (rdB (decT n)).getD 0 = n
    rw [rdB_dec (by omega)]; rfl
theorem piece_uniq {x y : Piece} (hx : okPiece x = true) (hy : okPiece y = true) (e : txt x.name x.edges = txt y.name y.edges) : x = y := by
  have h1 := piece_shape hx rfl
  have h2 := piece_shape hy rfl
  rw [e, h2] at h1
  have h3 := (List.cons.inj h1).1
  have h4 : x.edges = y.edges := by rw [← (edges_back hx).2, ← (edges_back hy).2, (List.cons.inj h1).2]
  cases x; cases y
  simp only [Piece.mk.injEq] at *
  exact ⟨h3.symm, h4⟩
theorem readPiece_some {s : ByteArray} {x : Piece} (h : okPiece x = true) (e : txt x.name x.edges = s) : readPiece s = some x :=
  unread_some (fun x y hx hy => piece_uniq hx.1 hy.1 (hx.2.trans hy.2.symm)) ⟨h, e⟩
theorem readPiece_none {s : ByteArray} (h : ∀ x, okPiece x = true → txt x.name x.edges = s → False) : readPiece s = none := unread_none fun x hx => h x hx.1 hx.2
theorem parts_head (c : UInt8) (s : ByteArray) : ∃ p ps, parts c s = p :: ps := by
  match h : parts c s with
  | [] =>
    have := congrArg List.length h
    rw [parts_length, splitC_length] at this
    simp at this
  | p :: ps => exact ⟨p, ps, rfl⟩
theorem txt_of_parts {s p : ByteArray} {ps : List ByteArray} (h : parts 32 s = p :: ps) (ha : allNums ps = true) : txt p (ps.map rd) = s := by
  apply Go.WideShapes.bytes_inj
  rw [txt_list, List.map_map]
  have e : ps.map (Lib.itoa ∘ rd) = ps.map (fun q => q.data.toList) := by
    apply List.map_congr_left
    intro q hq
    unfold allNums at ha
    rw [List.all_eq_true] at ha
    obtain ⟨n, hn⟩ := Option.isSome_iff_exists.1 (ha q hq)
    show Lib.itoa ((rdB q).getD 0) = q.data.toList
    rw [hn]
    exact (readDec_some hn).1
  rw [e, ← List.map_cons (f := fun q : ByteArray => q.data.toList), ← h, parts_lists, join_splitC]
/-- What the reference finds. -/
theorem piece_bad {s p : ByteArray} {ps : List ByteArray} (h : parts 32 s = p :: ps) {k : Nat} (hk : k < ps.length) (hn : rdB ps[k] = none) : readPiece s = none :=
  readPiece_none fun x hx e => by
    rw [piece_shape hx e] at h
    obtain ⟨_, h2⟩ := List.cons.inj h
    have ha := (edges_back hx).1
    subst h2
    unfold allNums at ha
    rw [List.all_eq_true] at ha
    have := ha _ (List.getElem_mem hk)
    rw [hn] at this; cases this
theorem piece_unfit {s p : ByteArray} {ps : List ByteArray} (h : parts 32 s = p :: ps) (hf : okPiece ⟨p, ps.map rd⟩ = false) : readPiece s = none :=
  readPiece_none fun x hx e => by
    rw [piece_shape hx e] at h
    obtain ⟨h1, h2⟩ := List.cons.inj h
    subst h1; subst h2
    rw [(edges_back hx).2] at hf
    rw [show (⟨x.name, x.edges⟩ : Piece) = x from rfl, hx] at hf
    cases hf
theorem piece_read {s p : ByteArray} {ps : List ByteArray} (h : parts 32 s = p :: ps) (ha : allNums ps = true) (hf : okPiece ⟨p, ps.map rd⟩ = true) : readPiece s = some ⟨p, ps.map rd⟩ :=
  readPiece_some hf (txt_of_parts h ha)
/-- What the program finds. -/
def pieceHead (s : ByteArray) : ByteArray := ⟨(Lib.cut s.data.toList [32]).1.toArray⟩
def pieceRest (s : ByteArray) : ByteArray := ⟨(Lib.cut s.data.toList [32]).2.1.toArray⟩
theorem piece_cut (s : ByteArray) : (parts 32 s = pieceHead s :: parts 32 (pieceRest s) ∧ (pieceHead s).size + (pieceRest s).size + 1 = s.size) ∨ (parts 32 s = [s] ∧ pieceRest s = ⟨#[]⟩ ∧ pieceHead s = s) := by
  by_cases hc : (32 : UInt8) ∈ s.data.toList
  · obtain ⟨a, b, e, ha⟩ := splitC_some hc
    refine Or.inl ⟨?_, ?_⟩
    · unfold pieceHead pieceRest parts
      rw [e, cut_first b ha, splitC_cons b ha]
      simp
    · unfold pieceHead pieceRest
      rw [e, cut_first b ha]
      show (List.toArray a).size + (List.toArray b).size + 1 = s.size
      rw [← size_len s, e]
      simp; omega
  · refine Or.inr ⟨parts_end hc, ?_, ?_⟩
    · unfold pieceRest; rw [cut_free hc]
    · unfold pieceHead; rw [cut_free hc]
/-- So many numbers as the rest has blanks, and one more. -/
def cntR (s : ByteArray) : Nat := Lib.countByte (pieceRest s).data.toList 32 + 1
theorem cntR_eq (s : ByteArray) : cntR s = (parts 32 (pieceRest s)).length := by
  unfold cntR Lib.countByte; rw [parts_length, splitC_length]
theorem piece_none {s : ByteArray} (h : numsN 32 (cntR s) (pieceRest s) = none) : readPiece s = none :=
  readPiece_none fun x hx e => by
    have hsh := piece_shape hx e
    rcases piece_cut s with ⟨h1, _⟩ | ⟨h1, _, _⟩
    · rw [h1] at hsh
      have h2 := (List.cons.inj hsh).2
      rw [numsN_good (cntR_eq s).symm (by rw [h2]; exact (edges_back hx).1)] at h
      cases h
    · rw [h1] at hsh
      have h2 := congrArg List.length (List.cons.inj hsh).2
      have := (okPiece_facts hx).1
      simp at h2
      omega
theorem piece_final {s : ByteArray} {xs : List Int} (h : numsN 32 (cntR s) (pieceRest s) = some xs) : readPiece s = if pieceText ⟨pieceHead s, xs⟩ = s then some ⟨pieceHead s, xs⟩ else none := by
  by_cases he : pieceText ⟨pieceHead s, xs⟩ = s
  · rw [if_pos he]
    cases ho : okPiece ⟨pieceHead s, xs⟩
    · rw [pieceText_false ho] at he
      subst he
      have e : pieceRest ⟨#[]⟩ = ⟨#[]⟩ := rfl
      rw [numsN_bad (k := 0) (by rw [e]; decide) (by
        have e2 : parts 32 (pieceRest ⟨#[]⟩) = [⟨#[]⟩] := by rw [e]; rfl
        have hh : rdB (⟨#[]⟩ : ByteArray) = none := rdB_short (by decide)
        simp only [e2]; exact hh)] at h
      cases h
    · rw [pieceText_true ho] at he
      exact readPiece_some ho he
  · rw [if_neg he]
    refine readPiece_none fun y hy e => he ?_
    have hsh := piece_shape hy e
    rcases piece_cut s with ⟨h1, _⟩ | ⟨h1, _, _⟩
    · rw [h1] at hsh
      obtain ⟨k1, k2⟩ := List.cons.inj hsh
      rw [numsN_good (cntR_eq s).symm (by rw [k2]; exact (edges_back hy).1), k2, (edges_back hy).2] at h
      have hx : (⟨pieceHead s, xs⟩ : Piece) = y := by rw [k1, ← Option.some.inj h]
      rw [hx, pieceText_true hy, e]
    · rw [h1] at hsh
      have h2 := congrArg List.length (List.cons.inj hsh).2
      have := (okPiece_facts hy).1
      simp at h2
      omega
theorem ReadPiece_len (s : ByteArray) : ((readPiece s).getD ⟨⟨#[]⟩, []⟩).edges.length ≤ 8 := by
  by_cases h : ∃ x, okPiece x = true ∧ txt x.name x.edges = s
  · obtain ⟨x, h1, h2⟩ := h
    rw [readPiece_some h1 h2]
    exact (okPiece_facts h1).2.1
  · rw [readPiece_none fun x h1 h2 => h ⟨x, h1, h2⟩]
    exact Nat.zero_le _
end Go.Proofs.YtlmhiocmldhkhaaGreatDoor
