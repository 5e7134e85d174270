/- Chapter 8: a piece's text, as the program and the reference write it. -/
import Derived.Test.YtlmhiocmldhkhaaGreatDoorNumText
import Derived.Test.YtlmhiocmldhkhaaGreatDoorP08v
namespace Go.Proofs.YtlmhiocmldhkhaaGreatDoor
open Go.RowKit

theorem okPiece_edge' {x : Piece} {k : Nat} (hk : k < x.edges.length) (h : inr x.edges[k] 1 10000 = false) : okPiece x = false := by
  have : outs x.edges 1 10000 = true := List.any_eq_true.2 ⟨_, List.getElem_mem hk, by simp [h]⟩
  simp [okPiece, this]
theorem okPiece_all' {x : Piece} (h : Nosofar (fun n => !inr n 1 10000) x.edges x.edges.length) : okPiece x = (isName x.name && inr x.edges.length 3 8) := by
  have : outs x.edges 1 10000 = false := nosofar_any h (Nat.le_refl _)
  simp [okPiece, this]
/-- Numbers behind a name, a blank ahead of each. -/
def txt (nm : ByteArray) (xs : List Int) : ByteArray := nm ++ ⟨(Lib.joinTail [32] (xs.map Lib.itoa)).toArray⟩
theorem txt_nil (nm : ByteArray) : txt nm [] = nm := by
  apply Go.WideShapes.bytes_inj
  simp [txt, Lib.joinTail]
theorem txt_step (nm : ByteArray) (xs : List Int) (x : Int) : txt nm (xs ++ [x]) = txt nm xs ++ (⟨#[32]⟩ ++ decT x) := by
  apply Go.WideShapes.bytes_inj
  simp [txt, decT, Lib.joinTail]
theorem txt_join (nm : ByteArray) (xs : List Int) (h : 0 < xs.length) : nm ++ ⟨#[32]⟩ ++ numsT ⟨#[32]⟩ xs = txt nm xs := by
  match xs, h with
  | y :: ys, _ =>
    apply Go.WideShapes.bytes_inj
    unfold txt numsT
    rw [List.map_cons, Lib.join_cons]
    simp [Lib.joinTail]
theorem numsT_size (xs : List Int) (h : xs.length ≤ 1000) (hr : ∀ x ∈ xs, -9223372036854775808 ≤ x ∧ x ≤ 9223372036854775807) : (numsT ⟨#[32]⟩ xs).size ≤ 1000 * 22 := by
  have e : (numsT ⟨#[32]⟩ xs).size = (Lib.join (xs.map Lib.itoa) [32]).length := by
    show (List.toArray _).size = _
    simp
  rw [e]
  match xs with
  | [] => simp [Lib.join]
  | y :: ys =>
    rw [List.map_cons, Lib.join_cons, List.length_append]
    have h1 := Lib.itoa_length_le y (hr y (by simp)).1 (hr y (by simp)).2
    have h2 := joinTail_length [32] 21 (ys.map Lib.itoa) (fun x hx => by
      obtain ⟨z, hz, rfl⟩ := List.mem_map.1 hx
      have := hr z (List.mem_cons_of_mem _ hz)
      exact Lib.itoa_length_le z this.1 this.2)
    rw [List.length_map] at h2
    rw [List.length_cons] at h
    simp only [List.length_cons, List.length_nil] at h2
    omega
/-- A piece's text. -/
def pieceText (x : Piece) : ByteArray := cond (okPiece x) (txt x.name x.edges) ⟨#[]⟩
theorem pieceText_true {x : Piece} (h : okPiece x = true) : pieceText x = txt x.name x.edges := by simp [pieceText, h]
theorem pieceText_false {x : Piece} (h : okPiece x = false) : pieceText x = ⟨#[]⟩ := by simp [pieceText, h]
theorem okPiece_facts {x : Piece} (h : okPiece x = true) : 3 ≤ x.edges.length ∧ x.edges.length ≤ 8 ∧ (∀ n ∈ x.edges, 1 ≤ n ∧ n ≤ 10000) ∧ x.name.size ≤ 12 := by
  unfold okPiece at h
  simp only [Bool.and_eq_true, Bool.not_eq_true'] at h
  obtain ⟨⟨h1, h2⟩, h3⟩ := h
  have := inr_true.1 h2
  exact ⟨by omega, by omega, outs_false.1 h3, (isName_size h1).2⟩
set_option maxHeartbeats 800000 in
theorem l08One_c' (x : Piece) (b o : Nat) (ea : Option Addr) (ec : Nat) (w : World) (hV : PieV w b o ea ec x) (hn : x.name.size ≤ 9223372036854775807) (hl : x.edges.length ≤ 9223372036854775807) :
    Calls Tryz.prog 57 #[.pointer (some ⟨b, o, none⟩)] w fun e w' => e = .returned (.bool (okPiece x)) ∧ w = w' := by
  obtain ⟨c0, c1, hA⟩ := hV
  go_enter Tryz.func57, Tryz.ntmps57
  go_wp2
  go_loop [3] (fun i => ∃ k : Nat, k ≤ x.edges.length ∧ i = .int .i64 k ∧ Nosofar (fun n => !inr n 1 10000) x.edges k) (fun i => x.edges.length - (intOf i).toNat)
  case atStart => exact ⟨0, Nat.zero_le _, rfl, nosofar_zero⟩
  case round =>
    obtain ⟨k, hk, rfl, hS⟩ := hrel
    replace hS := Lib.hid hS
    by_cases hlt : k < x.edges.length
    · obtain ⟨b', off', rfl⟩ := hA.addr hlt
      have c2 := hA.int hlt
      cases h1 : inr x.edges[k] 1 10000
      · have e := Lib.hid (okPiece_edge' hlt h1)
        go_wp2_with fail
        refine (as_bool h1 (l00In_c _ _ _ _)).mono ?_
        rintro e w' ⟨rfl, rfl⟩
        go_wp2_with fail
        go_ret
        exact ⟨ret_bool e.out.symm, rfl⟩
      · have HS := Lib.hid (nosofar_succ (hk := hlt) hS.out (by simp [h1]))
        go_wp2_with fail
        refine (as_bool h1 (l00In_c _ _ _ _)).mono ?_
        rintro e w' ⟨rfl, rfl⟩
        go_wp2_with fail
        go_round
        case rel => exact ⟨k + 1, by omega, by go_num, HS.out⟩
        case measure => simp [intOf]; omega
    · obtain rfl : k = x.edges.length := by omega
      have e := Lib.hid (okPiece_all' hS.out)
      cases h1 : isName x.name
      all_goals
        go_wp2_with (first | (go_at_call 79; refine (as_bool h1 (specIsName_c _ _ hn)).mono ?_; rintro e w' ⟨rfl, rfl⟩) | (go_at_call 58; refine (l00In_c _ _ _ _).mono ?_; rintro e w' ⟨rfl, rfl⟩))
        go_ret
        exact ⟨ret_bool (by rw [e.out, h1]; simp), rfl⟩
set_option maxRecDepth 100000 in
set_option maxHeartbeats 1600000 in
theorem implPieceText_c (x : Piece) (a : Option Addr) (c : Nat) (w : World) (hA : At w a x.edges) (ht : totPiece x ≤ 1048576) (hT : Tab w) :
    Calls Tryz.prog 9 #[.agg #[.string x.name, .slice a x.edges.length c]] w fun e w' => e = .returned (.string (pieceText x)) ∧ Below w.heap.size w w' := by
  have hn : x.name.size ≤ 9223372036854775807 := by unfold totPiece at ht; omega
  have hl : x.edges.length ≤ 9223372036854775807 := by unfold totPiece at ht; omega
  obtain ⟨w1, hw1⟩ : ∃ w1, w1 = w.alloc (.cells #[.string x.name, .slice a x.edges.length c] 36) := ⟨_, rfl⟩
  have hb : Below w.heap.size w w1 := by rw [hw1]; exact new_below _ _
  have c0 : w1.cell? ⟨w.heap.size, 0, none⟩ = some (.string x.name) := by rw [hw1]; go_simp
  have c1 : w1.cell? ⟨w.heap.size, 1, none⟩ = some (.slice a x.edges.length c) := by rw [hw1]; go_simp
  cases h1 : okPiece x
  · have e1 := Lib.hid (pieceText_false h1)
    go_enter Tryz.func9, Tryz.ntmps9
    go_wp2_with fail
    rw [← hw1]
    go_wp2_with fail
    refine (as_boolB h1 (isPiece_c _ _ _ _ (hA.below hb) hn hl)).mono ?_
    rintro e w2 ⟨rfl, hb2⟩
    go_wp2_with fail
    go_ret
    exact ⟨by rw [e1.out]; rfl, upw hb hb2⟩
  · obtain ⟨f1, f2, f3, f4⟩ := okPiece_facts h1
    have e1 := Lib.hid ((pieceText_true h1).trans (txt_join x.name x.edges (by omega)).symm)
    replace f3 := Lib.hid f3
    replace hT := Lib.hid hT
    go_enter Tryz.func9, Tryz.ntmps9
    go_wp2_with fail
    rw [← hw1]
    go_wp2_with fail
    refine (as_boolB h1 (isPiece_c _ _ _ _ (hA.below hb) hn hl)).mono ?_
    rintro e w2 ⟨rfl, hb2⟩
    have d0 := rg (kept_cell c0 hb2)
    have d1 := rg (kept_cell c1 hb2)
    have hsz : w.heap.size < w2.heap.size := by have h1 := hb2.size; rw [hw1] at h1; simp at h1; omega
    replace hb := upw hb hb2
    clear c0 c1
    have hz := numsT_size x.edges (by omega) (fun n hn => by have := f3.out n hn; omega)
    have hN : ∀ w', Below w2.heap.size w2 w' → Calls Tryz.prog 24 #[.string ⟨#[32]⟩, .slice a x.edges.length c] w' fun e w'' => e = .returned (.string (numsT ⟨#[32]⟩ x.edges)) ∧ Below w'.heap.size w' w'' :=
      fun w' hb' => numbersText_c _ _ _ _ w' (hA.below (upw hb hb')) (by omega) (by omega) (fun n hn => by have := f3.out n hn; omega) (by decide) (hT.out.below (upw hb hb'))
    replace hN := Lib.hid hN
    go_wp2_with fail
    refine wp_region_quiet_below (by kernel_rfl) (by kernel_rfl) ?_
    repeat (go_big_quiet_step ((go_at_call 24; exact Calls.regrown_of (hN.out _ (grown_of ⟨⟨_, _⟩, rfl⟩)))))
    refine wpQuiet_nil ?_
    intro w2 hw'
    replace hb := upw hb (grown_of hw')
    clear hw'
    go_wp2_with fail
    go_ret
    exact ⟨by rw [e1.out]; rfl, hb⟩
end Go.Proofs.YtlmhiocmldhkhaaGreatDoor
