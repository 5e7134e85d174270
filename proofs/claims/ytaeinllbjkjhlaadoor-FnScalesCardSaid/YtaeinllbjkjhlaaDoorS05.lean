/- Sizes read back from texts: the program's and the reference's. (Printed by wip/genS05.py.) -/
import Derived.Test.YtaeinllbjkjhlaaDoorS04
namespace Go.Proofs.YtaeinllbjkjhlaaDoor
open Go.ChangeShapes Go.WideShapes Go.ChangeAt Go.RowKit

theorem sz_first (s : ByteArray) : ∃ p ps, parts 46 s = p :: ps := by
  match h : parts 46 s with
  | [] =>
    have h1 := congrArg List.length h
    rw [parts_length] at h1
    exact absurd (List.eq_nil_of_length_eq_zero h1) (splitC_ne 46 _)
  | p :: ps => exact ⟨p, ps, rfl⟩
set_option maxHeartbeats 1600000 in
theorem implReadSize_c (s : ByteArray) (w : World) (hT : TabR w) (hs : s.size ≤ 1048576) :
    Calls Tryd.prog 18 #[.string s] w fun e w' => e = numRes (readSz s) ∧ Below w.heap.size w w' := by
  have hC := strCutSuf s ⟨#[46, 53]⟩ w (by omega)
  have e1 : (⟨(Lib.trimSuffix s.data.toList (⟨#[46, 53]⟩ : ByteArray).data.toList).toArray⟩ : ByteArray) = szHead s := rfl
  have e2 : Lib.hasSuffix s.data.toList (⟨#[46, 53]⟩ : ByteArray).data.toList = szHas s := rfl
  rw [e1, e2] at hC
  clear e1 e2
  have hD := readDecimal_c (szHead s) w hT (Nat.le_trans (szHead_size s) hs)
  have hF := Lib.hid (fun n (h : rdB (szHead s) = some n) => sz_final h)
  have hN1 := Lib.hid (fun (h : rdB (szHead s) = none) => sz_none1 h)
  have hN2 := Lib.hid (fun n (h : rdB (szHead s) = some n) (h2 : inr n 0 120 = false) => sz_none2 h h2)
  obtain ⟨hd, hhd⟩ : ∃ x, x = szHead s := ⟨_, rfl⟩
  obtain ⟨b, hbb⟩ : ∃ x, x = szHas s := ⟨_, rfl⟩
  rw [← hhd] at hC hD hF hN1 hN2
  rw [← hbb] at hC hF
  clear hhd hbb
  replace hC := Lib.hid hC
  cases h1 : rdB hd with
  | none =>
    rw [numRes_none (hN1.out h1)]
    rw [numRes_none h1] at hD
    replace hD := Lib.hid hD
    clear hF hN1 hN2
    go_enter Tryd.func18, Tryd.ntmps18
    go_wp2_with fail
    refine hC.out.mono ?_
    rintro e w' ⟨rfl, rfl⟩
    go_wp2_with fail
    refine hD.out.mono ?_
    rintro e w2 ⟨rfl, hb⟩
    go_wp2_with fail
    go_ret2
    exact ⟨rfl, hb⟩
  | some n =>
    rw [numRes_some h1] at hD
    replace hD := Lib.hid hD
    cases h2 : inr n 0 120
    · rw [numRes_none (hN2.out n h1 h2)]
      clear hF hN1 hN2
      go_enter Tryd.func18, Tryd.ntmps18
      go_wp2_with fail
      refine hC.out.mono ?_
      rintro e w' ⟨rfl, rfl⟩
      go_wp2_with fail
      refine hD.out.mono ?_
      rintro e w2 ⟨rfl, hb⟩
      go_wp2_with ((with_reducible refine (as_bool h2 (within_c _ _ _ _)).mono ?_); rintro e w' ⟨rfl, rfl⟩)
      go_ret2
      exact ⟨rfl, hb⟩
    · have hn := inr_true.1 h2
      have hf := hF.out n h1
      have hS := Lib.hid (fun t w' (h : -9223372036854775808 ≤ t ∧ t ≤ 9223372036854775807) (hb : Below w.heap.size w w') => implSizeText_c t w' h (hT.below hb).tab)
      clear hF hN1 hN2 h1
      cases b with
      | false =>
        have eb : n * 2 + bit false = n * 2 := by simp [bit]
        rw [eb] at hf
        clear eb
        by_cases he : sizeT (n * 2) = s
        · rw [if_pos he] at hf
          rw [numRes_some hf]
          have ht := str_same he
          obtain ⟨z, hz⟩ : ∃ z, z = sizeT (n * 2) := ⟨_, rfl⟩
          have hSz := hS.out (n * 2)
          rw [← hz] at ht hSz
          replace hSz := Lib.hid hSz
          clear hz he hf hS
          go_enter Tryd.func18, Tryd.ntmps18
          go_wp2_with fail
          refine hC.out.mono ?_
          rintro e w' ⟨rfl, rfl⟩
          go_wp2_with fail
          refine hD.out.mono ?_
          rintro e w2 ⟨rfl, hb⟩
          go_wp2_with ((with_reducible refine (as_bool h2 (within_c _ _ _ _)).mono ?_); rintro e w' ⟨rfl, rfl⟩)
          refine (hSz.out _ (by omega) hb).mono ?_
          rintro e w3 ⟨rfl, hb3⟩
          go_wp2_with fail
          go_ret2
          exact ⟨rfl, upw hb hb3⟩
        · rw [if_neg he] at hf
          rw [numRes_none hf]
          have ht := str_other he
          obtain ⟨z, hz⟩ : ∃ z, z = sizeT (n * 2) := ⟨_, rfl⟩
          have hSz := hS.out (n * 2)
          rw [← hz] at ht hSz
          replace hSz := Lib.hid hSz
          clear hz he hf hS
          go_enter Tryd.func18, Tryd.ntmps18
          go_wp2_with fail
          refine hC.out.mono ?_
          rintro e w' ⟨rfl, rfl⟩
          go_wp2_with fail
          refine hD.out.mono ?_
          rintro e w2 ⟨rfl, hb⟩
          go_wp2_with ((with_reducible refine (as_bool h2 (within_c _ _ _ _)).mono ?_); rintro e w' ⟨rfl, rfl⟩)
          refine (hSz.out _ (by omega) hb).mono ?_
          rintro e w3 ⟨rfl, hb3⟩
          go_wp2_with fail
          go_ret2
          exact ⟨rfl, upw hb hb3⟩
      | true =>
        have eb : n * 2 + bit true = n * 2 + 1 := by simp [bit]
        rw [eb] at hf
        clear eb
        by_cases he : sizeT (n * 2 + 1) = s
        · rw [if_pos he] at hf
          rw [numRes_some hf]
          have ht := str_same he
          obtain ⟨z, hz⟩ : ∃ z, z = sizeT (n * 2 + 1) := ⟨_, rfl⟩
          have hSz := hS.out (n * 2 + 1)
          rw [← hz] at ht hSz
          replace hSz := Lib.hid hSz
          clear hz he hf hS
          go_enter Tryd.func18, Tryd.ntmps18
          go_wp2_with fail
          refine hC.out.mono ?_
          rintro e w' ⟨rfl, rfl⟩
          go_wp2_with fail
          refine hD.out.mono ?_
          rintro e w2 ⟨rfl, hb⟩
          go_wp2_with ((with_reducible refine (as_bool h2 (within_c _ _ _ _)).mono ?_); rintro e w' ⟨rfl, rfl⟩)
          refine (hSz.out _ (by omega) hb).mono ?_
          rintro e w3 ⟨rfl, hb3⟩
          go_wp2_with fail
          go_ret2
          exact ⟨rfl, upw hb hb3⟩
        · rw [if_neg he] at hf
          rw [numRes_none hf]
          have ht := str_other he
          obtain ⟨z, hz⟩ : ∃ z, z = sizeT (n * 2 + 1) := ⟨_, rfl⟩
          have hSz := hS.out (n * 2 + 1)
          rw [← hz] at ht hSz
          replace hSz := Lib.hid hSz
          clear hz he hf hS
          go_enter Tryd.func18, Tryd.ntmps18
          go_wp2_with fail
          refine hC.out.mono ?_
          rintro e w' ⟨rfl, rfl⟩
          go_wp2_with fail
          refine hD.out.mono ?_
          rintro e w2 ⟨rfl, hb⟩
          go_wp2_with ((with_reducible refine (as_bool h2 (within_c _ _ _ _)).mono ?_); rintro e w' ⟨rfl, rfl⟩)
          refine (hSz.out _ (by omega) hb).mono ?_
          rintro e w3 ⟨rfl, hb3⟩
          go_wp2_with fail
          go_ret2
          exact ⟨rfl, upw hb hb3⟩
set_option maxHeartbeats 1600000 in
theorem specReadSize_c (s : ByteArray) (w : World) (hs : s.size ≤ 1048576) :
    Calls Tryd.prog 20 #[.string s] w fun e w' => e = numRes (readSz s) ∧ Below w.heap.size w w' := by
  have hP := l01Split_c s 46 w hs
  have hsm := parts_small (c := 46) (s := s)
  obtain ⟨p, ps, hps⟩ := sz_first s
  rw [hps] at hP hsm
  have hp : p.size ≤ 1048576 := Nat.le_trans (hsm p (by simp)) hs
  have hD := fun w' => l01Number_c p w' hp
  have hU := Lib.hid (fun h => sz_unfit hps h)
  have hO := Lib.hid (fun n h1 h2 h3 => sz_spec hps (n := n) h1 h2 h3)
  have hlen := Lib.hid (show ps.length ≤ s.size from by have h1 := parts_length 46 s; rw [hps] at h1; have := splitC_length_le 46 s.data.toList; rw [size_len] at this; simp only [List.length_cons] at h1; omega)
  clear hsm hps
  replace hP := Lib.hid hP
  have hl0 : ps.length ≤ 1048576 := by have := hlen.out; omega
  cases h1 : rdB p with
  | none =>
    rw [numRes_none (hU.out (fun ⟨n, h, _⟩ => by rw [h1] at h; cases h))]
    simp only [numRes_none h1] at hD
    replace hD := Lib.hid hD
    clear hU hO
    go_enter Tryd.func20, Tryd.ntmps20
    go_wp2_with fail
    refine hP.out.mono ?_
    rintro e w1 ⟨v, rfl, hOw, hb1⟩
    obtain ⟨a, c, rfl, hA⟩ := hOw.at
    obtain ⟨ba, oa, rfl⟩ := hA.addr (i := 0) (by simp)
    have c0 := hA.str (i := 0) (by simp)
    simp only [List.getElem_cons_zero, Nat.add_zero] at c0
    go_wp2_with fail
    refine (hD.out _).mono ?_
    rintro e w2 ⟨rfl, hb2⟩
    have hb := upw hb1 hb2
    go_wp2_with fail
    go_ret2
    exact ⟨rfl, hb⟩
  | some n =>
    simp only [numRes_some h1] at hD
    replace hD := Lib.hid hD
    have hnr := readDec_range h1
    by_cases hl2 : 1 < ps.length
    · have hn := hU.out (fun ⟨_, _, _, h⟩ => by rcases h with rfl | rfl <;> simp at hl2)
      rw [numRes_none hn]
      clear hU hO hn
      go_enter Tryd.func20, Tryd.ntmps20
      go_wp2_with fail
      refine hP.out.mono ?_
      rintro e w1 ⟨v, rfl, hOw, hb1⟩
      obtain ⟨a, c, rfl, hA⟩ := hOw.at
      obtain ⟨ba, oa, rfl⟩ := hA.addr (i := 0) (by simp)
      have c0 := hA.str (i := 0) (by simp)
      simp only [List.getElem_cons_zero, Nat.add_zero] at c0
      go_wp2_with fail
      refine (hD.out _).mono ?_
      rintro e w2 ⟨rfl, hb2⟩
      have hb := upw hb1 hb2
      have hq : (2 : Int) < (ps.length : Int) + 1 := by omega
      have hq2 : decide (2 < ps.length + 1) = true := by simp; omega
      go_wp2_with fail
      go_ret2
      exact ⟨rfl, hb⟩
    · have hq2 : decide (2 < ps.length + 1) = false := by simp; omega
      have hq3 : ¬ (2 : Int) < (ps.length : Int) + 1 := by omega
      rcases ps with _ | ⟨q, _ | ⟨r, ps⟩⟩
      · clear hq2 hq3 hl2 hl0 hlen
        cases h2 : inr n 0 60
        · have hn := hU.out (fun ⟨m, h, hr, _⟩ => by rw [h1] at h; cases h; rw [inr_true.2 hr] at h2; cases h2)
          rw [numRes_none hn]
          clear hU hO hn
          go_enter Tryd.func20, Tryd.ntmps20
          go_wp2_with fail
          refine hP.out.mono ?_
          rintro e w1 ⟨v, rfl, hOw, hb1⟩
          obtain ⟨a, c, rfl, hA⟩ := hOw.at
          obtain ⟨ba, oa, rfl⟩ := hA.addr (i := 0) (by simp)
          have c0 := hA.str (i := 0) (by simp)
          simp only [List.getElem_cons_zero, Nat.add_zero] at c0
          go_wp2_with fail
          refine (hD.out _).mono ?_
          rintro e w2 ⟨rfl, hb2⟩
          have hb := upw hb1 hb2
          go_wp2_with ((with_reducible refine (as_bool h2 (l00In_c _ _ _ _)).mono ?_); rintro e w' ⟨rfl, rfl⟩)
          go_ret2
          exact ⟨rfl, hb⟩
        · have hn := inr_true.1 h2
          have ho : inr (2 * n) 0 120 = true := inr_true.2 (by omega)
          have hr := hO.out n h1 hn (Or.inl rfl)
          have e0 : 2 * n + (([] : List ByteArray).length : Nat) = 2 * n := by simp
          rw [e0, if_pos ho] at hr
          rw [numRes_some hr]
          clear hU hO hr e0
          go_enter Tryd.func20, Tryd.ntmps20
          go_wp2_with fail
          refine hP.out.mono ?_
          rintro e w1 ⟨v, rfl, hOw, hb1⟩
          obtain ⟨a, c, rfl, hA⟩ := hOw.at
          obtain ⟨ba, oa, rfl⟩ := hA.addr (i := 0) (by simp)
          have c0 := hA.str (i := 0) (by simp)
          simp only [List.getElem_cons_zero, Nat.add_zero] at c0
          go_wp2_with fail
          refine (hD.out _).mono ?_
          rintro e w2 ⟨rfl, hb2⟩
          have hb := upw hb1 hb2
          go_wp2_with (first | ((with_reducible refine (as_bool h2 (l00In_c _ _ _ _)).mono ?_); rintro e w' ⟨rfl, rfl⟩) | ((with_reducible refine (as_bool ho (l03Half_c _ _)).mono ?_); rintro e w' ⟨rfl, rfl⟩))
          go_ret2
          exact ⟨rfl, hb⟩
      · clear hq2 hq3 hl2 hl0 hlen
        by_cases h5 : q = ⟨#[53]⟩
        · subst h5
          cases h2 : inr n 0 60
          · have hn := hU.out (fun ⟨m, h, hr, _⟩ => by rw [h1] at h; cases h; rw [inr_true.2 hr] at h2; cases h2)
            rw [numRes_none hn]
            clear hU hO hn
            go_enter Tryd.func20, Tryd.ntmps20
            go_wp2_with fail
            refine hP.out.mono ?_
            rintro e w1 ⟨v, rfl, hOw, hb1⟩
            obtain ⟨a, c, rfl, hA⟩ := hOw.at
            obtain ⟨ba, oa, rfl⟩ := hA.addr (i := 0) (by simp)
            have c0 := hA.str (i := 0) (by simp)
            simp only [List.getElem_cons_zero, Nat.add_zero] at c0
            have c1 := hA.str (i := 1) (by simp)
            simp only [List.getElem_cons_succ, List.getElem_cons_zero] at c1
            go_wp2_with fail
            refine (hD.out _).mono ?_
            rintro e w2 ⟨rfl, hb2⟩
            replace c1 := kept_cell c1 hb2
            have hb := upw hb1 hb2
            go_wp2_with ((with_reducible refine (as_bool h2 (l00In_c _ _ _ _)).mono ?_); rintro e w' ⟨rfl, rfl⟩)
            go_ret2
            exact ⟨rfl, hb⟩
          · have hn := inr_true.1 h2
            have hr := hO.out n h1 hn (Or.inr rfl)
            have e0 : 2 * n + (([⟨#[53]⟩] : List ByteArray).length : Nat) = 2 * n + 1 := by simp
            rw [e0] at hr
            have e9 : (2 * n + 2 - 1 : Int) = 2 * n + 1 := by omega
            cases ho : inr (2 * n + 1) 0 120
            · rw [ho, if_neg (by decide)] at hr
              rw [numRes_none hr]
              clear hU hO hr e0
              go_enter Tryd.func20, Tryd.ntmps20
              go_wp2_with fail
              refine hP.out.mono ?_
              rintro e w1 ⟨v, rfl, hOw, hb1⟩
              obtain ⟨a, c, rfl, hA⟩ := hOw.at
              obtain ⟨ba, oa, rfl⟩ := hA.addr (i := 0) (by simp)
              have c0 := hA.str (i := 0) (by simp)
              simp only [List.getElem_cons_zero, Nat.add_zero] at c0
              have c1 := hA.str (i := 1) (by simp)
              simp only [List.getElem_cons_succ, List.getElem_cons_zero] at c1
              go_wp2_with fail
              refine (hD.out _).mono ?_
              rintro e w2 ⟨rfl, hb2⟩
              replace c1 := kept_cell c1 hb2
              have hb := upw hb1 hb2
              go_wp2_with (first | ((with_reducible refine (as_bool h2 (l00In_c _ _ _ _)).mono ?_); rintro e w' ⟨rfl, rfl⟩) | ((with_reducible refine (as_bool ho (l03Half_c _ _)).mono ?_); rintro e w' ⟨rfl, rfl⟩))
              go_ret2
              exact ⟨rfl, hb⟩
            · rw [ho, if_pos rfl] at hr
              rw [numRes_some hr]
              clear hU hO hr e0
              go_enter Tryd.func20, Tryd.ntmps20
              go_wp2_with fail
              refine hP.out.mono ?_
              rintro e w1 ⟨v, rfl, hOw, hb1⟩
              obtain ⟨a, c, rfl, hA⟩ := hOw.at
              obtain ⟨ba, oa, rfl⟩ := hA.addr (i := 0) (by simp)
              have c0 := hA.str (i := 0) (by simp)
              simp only [List.getElem_cons_zero, Nat.add_zero] at c0
              have c1 := hA.str (i := 1) (by simp)
              simp only [List.getElem_cons_succ, List.getElem_cons_zero] at c1
              go_wp2_with fail
              refine (hD.out _).mono ?_
              rintro e w2 ⟨rfl, hb2⟩
              replace c1 := kept_cell c1 hb2
              have hb := upw hb1 hb2
              go_wp2_with (first | ((with_reducible refine (as_bool h2 (l00In_c _ _ _ _)).mono ?_); rintro e w' ⟨rfl, rfl⟩) | ((with_reducible refine (as_bool ho (l03Half_c _ _)).mono ?_); rintro e w' ⟨rfl, rfl⟩))
              go_ret2
              exact ⟨rfl, hb⟩
        · have hn := hU.out (fun ⟨m, _, _, h⟩ => by rcases h with h | h; cases h; exact h5 (List.cons.inj h).1)
          rw [numRes_none hn]
          clear hU hO hn
          have t1 : (q.toList == ({ data := #[53] } : ByteArray).toList) = false := str_other h5
          have t2 : ¬ q.toList = [53] := fun h => by
            have t := t1
            rw [h] at t
            simp only [Lib.toList_data] at t
            exact absurd t (by decide)
          have t3 : (q.toList == [53]) = false := by simpa using t2
          go_enter Tryd.func20, Tryd.ntmps20
          go_wp2_with fail
          refine hP.out.mono ?_
          rintro e w1 ⟨v, rfl, hOw, hb1⟩
          obtain ⟨a, c, rfl, hA⟩ := hOw.at
          obtain ⟨ba, oa, rfl⟩ := hA.addr (i := 0) (by simp)
          have c0 := hA.str (i := 0) (by simp)
          simp only [List.getElem_cons_zero, Nat.add_zero] at c0
          have c1 := hA.str (i := 1) (by simp)
          simp only [List.getElem_cons_succ, List.getElem_cons_zero] at c1
          go_wp2_with fail
          refine (hD.out _).mono ?_
          rintro e w2 ⟨rfl, hb2⟩
          replace c1 := kept_cell c1 hb2
          have hb := upw hb1 hb2
          go_wp2_with fail
          go_ret2
          exact ⟨rfl, hb⟩
      · simp at hl2
end Go.Proofs.YtaeinllbjkjhlaaDoor
