/- FnExactReadPiece: for all texts the law returns true, and the text reads behind the call as before. -/
import Derived.Test.YthapcljhokfkmaaDoorRdPieceC
import Derived.Test.YthapcljhokfkmaaDoorLaidR
import Derived.Test.YthapcljhokfkmaaDoorCards
import Derived.Test.YthapcljhokfkmaaDoorTie
import Derived.SevenTiedAt
import Derived.ChangeMaps5
namespace Go.Proofs.YthapcljhokfkmaaDoor
open Go.ChangeShapes Go.WideShapes Go.ChangeAt Go.RowKit

theorem markPiece_c (B : Nat) (nm : ByteArray) (a : Option Addr) (xs : List Int) (c : Nat) (m : Int) (w : World) (hO : Own B w 2 (.slice a xs.length c) xs) (hl : xs.length ≤ 8) (h0 : 0 ≤ m) (h1 : m ≤ 100) :
    Calls Tryd.prog 22 #[.agg #[.string nm, .slice a xs.length c], .int .i64 m] w fun e w' => e = .returned (.int .i64 (m + xs.length)) ∧ Own B w' 2 (.slice a xs.length c) (marks m xs.length) ∧ w.grownBy w' (Value.slice a xs.length c).ownBlock := by
  have hb : Below w.heap.size w (w.alloc (.cells #[.string nm, .slice a xs.length c] 41)) := new_below _ _
  go_enter Tryd.func22, Tryd.ntmps22
  go_wp2_with fail
  refine (markInt64S_any B _ xs m _ (hO.later hb) (by omega) h0 (by omega)).mono ?_
  rintro e w2 ⟨rfl, hO2, hg2⟩
  go_wp2_with fail
  go_ret
  exact ⟨rfl, hO2, grownBy_trans ⟨hb.os, hb.tape, hb.output, hb.size, fun k hk _ => hb.block k hk⟩ hg2⟩
theorem heldPiece_c (nm : ByteArray) (a : Option Addr) (n c : Nat) (m : Int) (w : World) (hx : At w a (marks m n)) (hl : n ≤ 8) (h0 : 0 ≤ m) (h1 : m ≤ 100) :
    Calls Tryd.prog 23 #[.agg #[.string nm, .slice a n c], .int .i64 m] w fun e w' => e = .returned (.int .i64 (m + n)) ∧ Below w.heap.size w w' := by
  have hb : Below w.heap.size w (w.alloc (.cells #[.string nm, .slice a n c] 41)) := new_below _ _
  have hneg : ¬ m + (n : Int) < 0 := by omega
  go_enter Tryd.func23, Tryd.ntmps23
  go_wp2_with fail
  refine (heldInt64S_any a n c m _ (hx.below hb) (by omega) h0 (by omega)).mono ?_
  rintro e w2 ⟨rfl, hb2⟩
  go_wp2_with fail
  go_ret
  exact ⟨rfl, upw hb hb2⟩
set_option maxRecDepth 100000 in
set_option maxHeartbeats 4000000 in
theorem lawReadPiece (s : ByteArray) (w : World) (hn : s.size ≤ 9223372036854775807) (hT : TabR w) :
    Calls Tryd.prog 6 #[.string s] w fun e w' => e = .returned (.bool true) ∧ Below w.heap.size w w' := by
  by_cases hs : s.size ≤ 1048576
  · have S1 := Lib.hid (fun w' => specReadPiece_c s w' hs)
    have S2 := Lib.hid (fun w' hb => implReadPiece_c s w' (hT.below (w' := w') hb) hs)
    have hlen := ReadPiece_len s
    obtain ⟨x, hx⟩ : ∃ x, x = (readPiece s).getD ⟨⟨#[]⟩, []⟩ := ⟨_, rfl⟩
    rw [← hx] at S1 S2 hlen
    replace hx := Lib.hid hx
    obtain ⟨b, hbb⟩ : ∃ b, b = (readPiece s).isSome := ⟨_, rfl⟩
    rw [← hbb] at S1 S2
    replace hbb := Lib.hid hbb
    obtain ⟨nm, es⟩ := x
    simp only at S1 S2 hlen
    have hs' : ¬ 1048576 < (s.size : Int) := by omega
    go_enter Tryd.func6, Tryd.ntmps6
    go_wp2_with fail
    refine (S1.out w).mono ?_
    rintro e w1 ⟨pa, pc, rfl, hOw, hb1⟩
    have hB2 : Below w1.heap.size w1 (w1.alloc (.cells #[.string nm, .slice pa es.length pc] 41)) := new_below _ _
    have hX3 := Lib.hid (own_raw w1 41 ⟨nm, pa, es.length, pc⟩)
    change Hid (Own w1.heap.size (w1.alloc (.cells #[.string nm, .slice pa es.length pc] 41)) _ _ _) at hX3
    have hb2 := upw hb1 hB2
    replace hOw := Lib.hid (hOw.later hB2)
    go_wp2_with fail
    refine (S2.out _ hb2).mono ?_
    rintro e w3 ⟨ga, gc, rfl, hOg, hb3⟩
    have hsz3 := hb3.size
    replace hX3 := Lib.hid (hX3.out.later hb3)
    have hap := Lib.hid (own_apart' hOg hOw.out (Nat.le_refl _))
    replace hOw := Lib.hid (hOw.out.later hb3)
    replace hb3 := upw hb2 hb3
    have hB4 : Below w3.heap.size w3 (w3.alloc (.cells #[.string nm, .slice ga es.length gc] 41)) := new_below _ _
    have hX5 := Lib.hid (own_raw w3 41 ⟨nm, ga, es.length, gc⟩)
    change Hid (Own w3.heap.size (w3.alloc (.cells #[.string nm, .slice ga es.length gc] 41)) _ _ _) at hX5
    replace hX3 := Lib.hid (hX3.out.later hB4)
    replace hOw := Lib.hid (hOw.out.later hB4)
    replace hOg := Lib.hid ((hOg.base (by have := hb2.size; omega : w.heap.size ≤ _)).later hB4)
    have hb4 := upw hb3 hB4
    obtain ⟨q0, q1⟩ := raw_cells hX3.out
    obtain ⟨r0, r1⟩ := raw_cells hX5.out
    go_wp2_with fail
    refine (eqPiece_same ⟨nm, es⟩ ga gc pa pc _ hOg.out.at' hOw.out.at' (by show es.length ≤ _; omega)).mono ?_
    rintro e w5 ⟨rfl, hb5⟩
    clear q0 q1 r0 r1
    replace hX3 := Lib.hid (hX3.out.later hb5)
    replace hX5 := Lib.hid (hX5.out.later hb5)
    replace hOw := Lib.hid (hOw.out.later hb5)
    replace hOg := Lib.hid (hOg.out.later hb5)
    replace hb5 := upw hb4 hb5
    obtain ⟨r0, r1⟩ := raw_cells hX5.out
    go_wp2_with fail
    refine (markPiece_c w.heap.size nm ga es gc 1 _ hOg.out hlen (by omega) (by omega)).mono ?_
    rintro e w6 ⟨rfl, hM, hg6⟩
    clear r0 r1
    replace hX3 := Lib.hid (hX3.out.other hOg.out hg6 (by decide))
    replace hX5 := Lib.hid (hX5.out.other hOg.out hg6 (by decide))
    replace hOw := Lib.hid (hOw.out.kept hg6 hap.out)
    have hb6 := below_mark hb5 hOg.out (Nat.le_refl _) hg6
    clear hOg hg6 hap
    replace hM := Lib.hid hM
    obtain ⟨r0, r1⟩ := raw_cells hX5.out
    go_wp2_with fail
    refine (heldPiece_c nm ga es.length gc 1 _ hM.out.at_n hlen (by omega) (by omega)).mono ?_
    rintro e w7 ⟨rfl, hb7⟩
    clear r0 r1
    replace hX3 := Lib.hid (hX3.out.later hb7)
    replace hX5 := Lib.hid (hX5.out.later hb7)
    replace hOw := Lib.hid (hOw.out.later hb7)
    replace hM := Lib.hid (hM.out.later hb7)
    replace hb7 := upw hb6 hb7
    have hneg : ¬ 1 + (es.length : Int) < 0 := by omega
    go_wp2_with fail
    refine (S2.out _ hb7).mono ?_
    rintro e w8 ⟨ha, hc, rfl, hOh, hb8⟩
    replace hX3 := Lib.hid (hX3.out.later hb8)
    replace hX5 := Lib.hid (hX5.out.later hb8)
    replace hOw := Lib.hid (hOw.out.later hb8)
    replace hM := Lib.hid (hM.out.later hb8)
    replace hb8 := upw hb7 hb8
    have hB9 : Below w8.heap.size w8 (w8.alloc (.cells #[.string nm, .slice ha es.length hc] 41)) := new_below _ _
    have hX9 := Lib.hid (own_raw w8 41 ⟨nm, ha, es.length, hc⟩)
    change Hid (Own w8.heap.size (w8.alloc (.cells #[.string nm, .slice ha es.length hc] 41)) _ _ _) at hX9
    replace hX3 := Lib.hid (hX3.out.later hB9)
    replace hX5 := Lib.hid (hX5.out.later hB9)
    replace hOw := Lib.hid (hOw.out.later hB9)
    replace hOh := Lib.hid (hOh.later hB9)
    replace hM := Lib.hid (hM.out.later hB9)
    have hb9 := upw hb8 hB9
    obtain ⟨q0, q1⟩ := raw_cells hX3.out
    obtain ⟨r0, r1⟩ := raw_cells hX9.out
    go_wp2_with fail
    refine (eqPiece_same ⟨nm, es⟩ ha hc pa pc _ hOh.out.at' hOw.out.at' (by show es.length ≤ _; omega)).mono ?_
    rintro e w10 ⟨rfl, hb10⟩
    clear q0 q1 r0 r1
    replace hX5 := Lib.hid (hX5.out.later hb10)
    replace hM := Lib.hid (hM.out.later hb10)
    replace hb10 := upw hb9 hb10
    obtain ⟨r0, r1⟩ := raw_cells hX5.out
    go_wp2_with fail
    refine (heldPiece_c nm ga es.length gc 1 _ hM.out.at_n hlen (by omega) (by omega)).mono ?_
    rintro e w11 ⟨rfl, hb11⟩
    go_wp2_with fail
    go_ret
    exact ⟨rfl, upw hb10 hb11⟩
  · have hs' : 1048576 < (s.size : Int) := by omega
    go_enter Tryd.func6, Tryd.ntmps6
    go_wp2_with fail
    go_ret
    exact ⟨rfl, Below.refl _ _⟩

theorem EReadPiece.own : ownKnob Tryd.prog.godebug = none := by kernel_rfl
theorem EReadPiece.laidOut : laidOutB Tryd.prog = true := by kernel_rfl

set_option maxRecDepth 100000 in
theorem EReadPiece.lifted (os : Os) (started : os.Started) (H : Type) (enc : TypeId × Value → H) :
    ReturnsInHanded {} Tryd.checked os 6 .any (fun w args => (Rows.fnExactReadPieceSpec.pre enc Tryd.prog Tryd.f6 [] false w args ∧ laidMet Tryd.prog laidLR w) ∧ sizedMet enc Tryd.prog Tryd.f6 (OpenSpec.ofChange Rows.fnExactReadPieceSpec) false w args) (Rows.fnExactReadPieceSpec.post enc Tryd.prog Tryd.f6 false true false false) := by
  refine returns_laid_shaped (C := Tryd.checked) (X := fun w _ => laidMet Tryd.prog laidLR w) (fun _ _ _ hh h => h.of_heap hh) EReadPiece.own started (by kernel_rfl) Tryd.func6
    (ChangeSpec.witness_at (enc := enc) (C := Tryd.checked) (os := os) (X := fun w _ => laidMet Tryd.prog laidLR w) false (laidWorldR os) #[.string ByteArray.empty] 8 rfl (by kernel_rfl) (by kernel_rfl) (by kernel_rfl) (by kernel_rfl) (by kernel_rfl) (laid_metR os _)) ?_
  intro W base args ds gs before hval0 hW _ _ hL hsh
  have hval : ∀ (j : Nat) t v, Tryd.f6.params[j]? = some t → args[j]? = some v → Value.okWide Tryd.prog W .any base t v := hval0
  have hW' := hW
  obtain ⟨p, q, hA0, hV, rfl, _, _⟩ := hW
  have hA : DataW.TrodAll enc Tryd.prog W 0 (fun _ => true) true Tryd.f6.params.toList args.toList ds p := hA0
  rw [Tryd.params6] at hA hval
  obtain ⟨v0, vs0, d0, ds0, p0, q0, hargs, rfl, rfl, h0, r0⟩ := trodAll_cons hA
  obtain ⟨rfl, rfl, rfl⟩ := trodAll_nil r0
  obtain rfl : args = #[v0] := by cases args; simp_all
  obtain ⟨rfl, rfl⟩ := trodVars_none hV
  have hlt : ∀ x ∈ p0 ++ [], x.block < W.heap.size := fun x hx => by simpa using hW'.lt x (by simpa using hx)
  clear hA0 hval0
  have k0 := h0
  obtain ⟨x0, rfl, _, _, wf0⟩ := Go.ChangeMaps.open_string Tryd.underlying9 (hval 0 9 v0 rfl rfl) h0
  refine (lawReadPiece x0 W (by unfold maxLen at wf0; exact wf0) (tabR_of_laid hL hsh)).mono fun e W' ⟨he, hb⟩ => ?_
  subst he
  refine ⟨_, rfl, _, _, _, [], p0 ++ [], [], hW', ?_, ?_, rfl, hb.frame _, fun h => by cases h⟩
  · exact trodAll_mk1 (shut_bool Tryd.underlying4 _)
  · exact trodAll_cons_mk (Below.trod EReadPiece.laidOut (by kernel_rfl) (of_decide_eq_true (by kernel_rfl)) k0 hb (fun x hx => hlt x (by simp [hx]))) (trodAll_mk0)

theorem EReadPiece.holds : Rows.FnExactReadPieceSaid :=
  OpenClaim.holds_of_wide 6 Tryd.f6 rfl rfl rfl rfl rfl rfl rfl ⟨rfl, rfl, rfl, rfl, rfl⟩ rfl rfl rfl rfl rfl (by kernel_rfl) Tryd.func6 (by kernel_rfl)
    (of_decide_eq_true (by kernel_rfl)) (by unfold Func.isWrapper; first | (rw [if_pos (by decide +kernel)]; kernel_rfl) | (rw [if_neg (by decide +kernel)]; exact ⟨rfl, rfl⟩))
    (fun os started H enc _ => EReadPiece.lifted os started H enc)

theorem EReadPiece.card_holds : Rows.FnExactReadPieceCardSaid :=
  Claim7.holds_tied_plain_at .later [] [.data, .data, .data, .data, .sentinel, .sentinel, .pinned] true Rows.fnExactReadPieceCard.stood.harness Rows.fnExactReadPieceCard.stood.looks
    EReadPiece.holds (fun _ h => by cases h) (by kernel_rfl) (fun _ h => by cases h) fnExactReadPiece_row_tie rfl ⟨rfl, rfl⟩ (by kernel_rfl) rfl
    (fun f fn hf hfn => by
      obtain rfl : f = 6 := Option.some.inj ((show Tryd.prog.funcNamed "loop.example/g01043/laws.FnExactReadPiece" = some 6 by kernel_rfl).symm.trans hf) |>.symm
      obtain rfl : fn = Tryd.f6 := (Option.some.inj (Tryd.func6.symm.trans hfn)).symm
      exact ⟨by kernel_rfl, fun j t ht => by
        rw [Tryd.params6] at ht
        have h3 : t = 9 := by
          rcases j with _ | j
          · simpa using ht.symm
          · simp at ht
        subst h3
        exact (show Tryd.prog.wantsStandIn 9 = false by kernel_rfl)⟩)
    (by kernel_rfl)

end Go.Proofs.YthapcljhokfkmaaDoor
