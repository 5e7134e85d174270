/- Chapter 10, hides: the contracts of the program's functions and of the reference's. -/
import Derived.Test.YtgjgfmbaajoahaaDoorHideMath
import Derived.Test.YtgjgfmbaajoahaaDoorTrimLay
import Derived.Test.YtgjgfmbaajoahaaDoorSearch
import Derived.Test.YtgjgfmbaajoahaaDoorNames
namespace Go.Proofs.YtgjgfmbaajoahaaDoor
open Go.RowKit

theorem trim_c (s : ByteArray) (w : World) (hs : s.size ≤ 9223372036854775807) :
    Calls Tryd.prog 16 #[.string s, .string ⟨#[97, 98, 99, 120]⟩] w fun e w' => e = .returned (.string ⟨(Lib.trimS s.data.toList cs4).toArray⟩) ∧ Below w.heap.size w w' :=
  Any.strings_Trim_laid trimLay (by kernel_rfl) s ⟨#[97, 98, 99, 120]⟩ w hs (by decide) (ascii_of_all (by decide))
theorem kept_cell {w w' : World} {a : Addr} {v : Value} (h : w.cell? a = some v) (hb : Below w.heap.size w w') : w'.cell? a = some v := by rw [hb.cell (block_lt_of_cell h)]; exact h
theorem newB (w : World) (o : Obj) : Below w.heap.size w (w.alloc o) := (Below.refl _ _).alloc (Nat.le_refl _) _
/-- The program's test of a row: it is bad. -/
def badRow (n : Nat) (r : ByteArray) : Bool := !okRow n r
theorem hideN_get {xs : List ByteArray} (h : 0 < xs.length) : hideN xs = xs[0].size := by
  unfold hideN
  rw [List.head?_eq_getElem?, List.getElem?_eq_getElem h]; rfl
theorem okHide_any (xs : List ByteArray) : (inr xs.length 1 6 && !xs.any (badRow (hideN xs))) = okHide xs := by
  unfold okHide badRow
  congr 1
  rw [List.not_any_eq_all_not]
  congr 1
  funext x; simp
theorem validHide1_c (r : ByteArray) (xs : List ByteArray) (a : Option Addr) (c : Nat) (g : Nat) (w : World) (hs : r.size ≤ 9223372036854775807) (hx : At w a xs) (h0 : 0 < xs.length) (hg : w.cell? ⟨g, 0, none⟩ = some (.slice a xs.length c)) :
    Calls Tryd.prog 15 #[.string r, .pointer (some ⟨g, 0, none⟩)] w fun e w' => e = .returned (.bool (badRow (hideN xs) r)) ∧ Below w.heap.size w w' := by
  have hn := hideN_get h0
  have hb := Below.refl w.heap.size w
  obtain ⟨b, off, rfl⟩ := hx.addr h0
  have c0 := hx.str h0
  simp only [Nat.add_zero] at c0
  obtain ⟨n, hn1⟩ : ∃ n, n = xs[0].size := ⟨_, rfl⟩
  have hnn := hn1.symm
  have ht := trim_empty r
  have HC := Lib.hid (fun w' => trim_c r w' hs)
  obtain ⟨t, ht1⟩ : ∃ t : ByteArray, t = ⟨(Lib.trimS r.data.toList cs4).toArray⟩ := ⟨_, rfl⟩
  rw [← ht1] at HC ht
  have hr : badRow (hideN xs) r = !(inr r.size 1 6 && (r.size == n) && r.data.toList.all okF) := by rw [hn, hnn]; rfl
  rw [hr]
  replace hr := Lib.hid hr
  clear hn hn1 ht1
  have hne : ((r.size : Int) != n) = !(r.size == n) := by rw [Bool.eq_iff_iff]; simp; omega
  cases h1 : inr r.size 1 6
  · try rw [h2] at hne
    go_enter Tryd.func15, Tryd.ntmps15
    go_wp2_with (go_at_call 13; refine (within_c _ _ _ _).mono ?_; rintro e w' ⟨rfl, rfl⟩)
    go_ret
    exact ⟨ret_bool (by simp), hb⟩
  · cases h2 : r.size == n
    · try rw [h2] at hne
      go_enter Tryd.func15, Tryd.ntmps15
      go_wp2_with (go_at_call 13; refine (within_c _ _ _ _).mono ?_; rintro e w' ⟨rfl, rfl⟩)
      go_ret
      exact ⟨ret_bool (by simp), hb⟩
    · rw [h2] at hne
      cases h3 : r.data.toList.all okF
      · rw [h3] at ht
        simp at ht
        go_enter Tryd.func15, Tryd.ntmps15
        go_wp2_with (first | (go_at_call 13; refine (within_c _ _ _ _).mono ?_; rintro e w' ⟨rfl, rfl⟩) | (go_at_call 16; refine (HC.out _).mono ?_; rintro e w2 ⟨rfl, hb2⟩))
        go_ret
        exact ⟨ret_bool (by simp [ht]), hb2⟩
      · rw [h3] at ht
        simp at ht
        go_enter Tryd.func15, Tryd.ntmps15
        go_wp2_with (first | (go_at_call 13; refine (within_c _ _ _ _).mono ?_; rintro e w' ⟨rfl, rfl⟩) | (go_at_call 16; refine (HC.out _).mono ?_; rintro e w2 ⟨rfl, hb2⟩))
        go_ret
        exact ⟨ret_bool (by simp), hb2⟩
theorem validHide1_enters : Enters Tryd.prog 15 := enters_of Tryd.func15 (by kernel_rfl) (by kernel_rfl)
theorem implValidHide_c (a : Option Addr) (xs : List ByteArray) (c : Nat) (w : World) (hx : At w a xs) (hl : xs.length ≤ 9223372036854775807) (hs : ∀ x ∈ xs, x.size ≤ 9223372036854775807) :
    Calls Tryd.prog 8 #[.slice a xs.length c] w fun e w' => e = .returned (.bool (okHide xs)) ∧ Below w.heap.size w w' := by
  replace hs := Lib.hid hs
  have hok := Lib.hid (okHide_any xs)
  cases h1 : inr xs.length 1 6
  · go_enter Tryd.func8, Tryd.ntmps8
    go_wp2_with (go_at_call 13; refine (within_c _ _ _ _).mono ?_; rintro e w' ⟨rfl, rfl⟩)
    go_ret
    exact ⟨ret_bool (by rw [← hok.out, h1]; rfl), newB _ _⟩
  · have h0 : 0 < xs.length := by have := inr_true.1 h1; omega
    have hb := newB w (.cells #[.slice a xs.length c] 22)
    have hc : (w.alloc (.cells #[.slice a xs.length c] 22)).cell? ⟨w.heap.size, 0, none⟩ = some (.slice a xs.length c) := by simp
    obtain ⟨w1, hw1⟩ : ∃ w1, w1 = w.alloc (.cells #[.slice a xs.length c] 22) := ⟨_, rfl⟩
    rw [← hw1] at hb hc
    have hx1 := hx.below hb
    have HF := Lib.hid (containsStrs_any a xs c 15 #[.pointer (some ⟨w.heap.size, 0, none⟩)] (badRow (hideN xs)) w1 validHide1_enters hx1 hl (fun x hm w' hb' => by simpa using validHide1_c x xs a c w.heap.size w' (hs.out x hm) (hx1.below hb') h0 (kept_cell hc hb')))
    go_enter Tryd.func8, Tryd.ntmps8
    go_wp2_with (first | (go_at_call 13; refine (within_c _ _ _ _).mono ?_; rintro e w' ⟨rfl, rfl⟩) | (rw [← hw1]; refine HF.out.mono ?_; rintro e w2 ⟨rfl, hb2⟩))
    go_ret
    exact ⟨ret_bool (by rw [← hok.out, h1]; rfl), upw hb hb2⟩
theorem l10Quality_c (n : Int) (w : World) : Calls Tryd.prog 18 #[.int .u8 n] w fun e w' => e = .returned (.int .i64 (qualS n)) ∧ w = w' := by
  unfold qualS
  cases h1 : n == 97
  · cases h2 : n == 98
    · cases h3 : n == 99
      · cases h4 : n == 120
        · go_enter Tryd.func18, Tryd.ntmps18
          go_wp2_with fail
          go_ret
          exact ⟨ret_int (by simp), rfl⟩
        · go_enter Tryd.func18, Tryd.ntmps18
          go_wp2_with fail
          go_ret
          exact ⟨ret_int (by simp), rfl⟩
      · go_enter Tryd.func18, Tryd.ntmps18
        go_wp2_with fail
        go_ret
        exact ⟨ret_int (by simp), rfl⟩
    · go_enter Tryd.func18, Tryd.ntmps18
      go_wp2_with fail
      go_ret
      exact ⟨ret_int (by simp), rfl⟩
  · go_enter Tryd.func18, Tryd.ntmps18
    go_wp2_with fail
    go_ret
    exact ⟨ret_int (by simp), rfl⟩
theorem qualityOf_c (n : Int) (w : World) : Calls Tryd.prog 20 #[.int .u8 n] w fun e w' => e = .returned (.int .i64 (qualI n)) ∧ w = w' := by
  unfold qualI
  cases h1 : n == 97
  · cases h2 : n == 98
    · cases h3 : n == 99
      · go_enter Tryd.func20, Tryd.ntmps20
        go_wp2_with fail
        go_ret
        exact ⟨ret_int (by simp), rfl⟩
      · go_enter Tryd.func20, Tryd.ntmps20
        go_wp2_with fail
        go_ret
        exact ⟨ret_int (by simp), rfl⟩
    · go_enter Tryd.func20, Tryd.ntmps20
      go_wp2_with fail
      go_ret
      exact ⟨ret_int (by simp), rfl⟩
  · go_enter Tryd.func20, Tryd.ntmps20
    go_wp2_with fail
    go_ret
    exact ⟨ret_int (by simp), rfl⟩
set_option maxHeartbeats 800000 in
theorem l10Ok_c (a : Option Addr) (xs : List ByteArray) (c : Nat) (w : World) (hx : At w a xs) (hl : xs.length ≤ 9223372036854775807) (hs : ∀ x ∈ xs, x.size ≤ 9223372036854775807) :
    Calls Tryd.prog 12 #[.slice a xs.length c] w fun e w' => e = .returned (.bool (okHide xs)) ∧ Below w.heap.size w w' := by
  replace hs := Lib.hid hs
  have hok := Lib.hid (okHide_any xs)
  go_enter Tryd.func12, Tryd.ntmps12
  go_wp2_with fail
  go_loopw [3] (fun i wr => ∃ k : Nat, k ≤ xs.length ∧ i = .int .i64 k ∧ Nosofar (badRow (hideN xs)) xs k ∧ Below w.heap.size w wr) (fun i _ => xs.length - (intOf i).toNat)
  case atStart => exact ⟨0, Nat.zero_le _, rfl, nosofar_zero, Below.refl _ _⟩
  case round =>
    obtain ⟨k, hk, rfl, HS0, hb⟩ := hrel
    have HS := Lib.hid HS0
    clear HS0
    replace hx := hx.below hb
    by_cases hlt : k < xs.length
    · have h0 : 0 < xs.length := by omega
      have hn := hideN_get h0
      obtain ⟨b, off, rfl⟩ := hx.addr hlt
      have c0 := hx.str hlt
      have d0 := hx.str h0
      simp only [Nat.add_zero] at d0
      have hsk := hs.out _ (List.getElem_mem hlt)
      have hrow := Lib.hid (okRow_iff xs[0].size xs[k])
      have hbad : Hid (okRow xs[0].size xs[k] = false → Ending.returned (.bool false) = .returned (.bool (okHide xs))) := Lib.hid fun h => ret_bool (by
        rw [← hok.out]
        have : xs.any (badRow (hideN xs)) = true := List.any_eq_true.2 ⟨_, List.getElem_mem hlt, by unfold badRow; rw [hn, h]; rfl⟩
        rw [this]; simp)
      have hgood : Hid (okRow xs[0].size xs[k] = true → Nosofar (badRow (hideN xs)) xs (k + 1)) := Lib.hid fun h => nosofar_succ (hk := hlt) HS.out (by unfold badRow; rw [hn, h]; rfl)
      clear hn
      obtain ⟨r, hr1⟩ : ∃ r, r = xs[k] := ⟨_, rfl⟩
      obtain ⟨m, hm1⟩ : ∃ m, m = xs[0].size := ⟨_, rfl⟩
      rw [← hr1] at c0 hsk hrow hbad hgood
      rw [← hm1] at hrow hbad hgood
      have hm2 := hm1.symm
      replace hr1 := Lib.hid hr1
      clear hm1
      have hne : ((r.size : Int) != m) = !(r.size == m) := by rw [Bool.eq_iff_iff]; simp; omega
      have c1 := rg c0
      have d1 := rg d0
      cases h1 : r.size == m
      · rw [h1] at hne
        go_wp2_with fail
        refine wp_region_quiet_below (by kernel_rfl) (by kernel_rfl) ?_
        repeat (go_big_quiet_step ((go_at_call 17; exact Calls.regrown_same (as_bool h2 (l00In_c _ _ _ _)))))
        refine wpQuiet_nil ?_
        intro w2 hw'
        replace hb := upw hb (grown_of hw')
        clear hw'
        go_wp2_with fail
        go_ret
        exact ⟨hbad.out (by rw [hrow.out, h1]; simp), hb⟩
      · rw [h1] at hne
        cases h2 : inr r.size 1 6
        · go_wp2_with fail
          refine wp_region_quiet_below (by kernel_rfl) (by kernel_rfl) ?_
          repeat (go_big_quiet_step ((go_at_call 17; exact Calls.regrown_same (as_bool h2 (l00In_c _ _ _ _)))))
          refine wpQuiet_nil ?_
          intro w2 hw'
          replace hb := upw hb (grown_of hw')
          clear hw'
          go_wp2_with fail
          go_ret
          exact ⟨hbad.out (by rw [hrow.out, h2]; simp), hb⟩
        · go_wp2_with fail
          refine wp_region_quiet_below (by kernel_rfl) (by kernel_rfl) ?_
          repeat (go_big_quiet_step ((go_at_call 17; exact Calls.regrown_same (as_bool h2 (l00In_c _ _ _ _)))))
          refine wpQuiet_nil ?_
          intro w2 hw'
          replace hb := upw hb (grown_of hw')
          have hw2 := grown_of hw'
          clear hw'
          replace hx := hx.below hw2
          clear c0 d0 c1 d1 hw2
          go_wp2_with fail
          go_loopw [4] (fun i wr => ∃ j : Nat, j ≤ r.size ∧ i = .int .i64 j ∧ Sofar (fun i => okN (byteAt r i)) j ∧ Below w2.heap.size w2 wr) (fun i _ => r.size - (intOf i).toNat)
          case atStart => exact ⟨0, Nat.zero_le _, rfl, sofar_zero, Below.refl _ _⟩
          case round =>
            obtain ⟨j, hj, rfl, hT0, hb3⟩ := hrel
            have HT := Lib.hid hT0
            clear hT0
            replace hx := hx.below hb3
            have c0 := hx.str hlt
            rw [← hr1.out] at c0
            have c1 := rg c0
            by_cases hjt : j < r.size
            · have bk := byteAt_get hjt
              cases h3 : okN (byteAt r j)
              · have h4 : decide (qualS (byteAt r j) < 0) = true := by rw [qual_bad, h3]; rfl
                rw [bk] at h4
                clear bk
                simp only [decide_eq_true_eq] at h4
                go_wp2_with (go_at_call 18; refine (l10Quality_c _ _).mono ?_; rintro e w' ⟨rfl, rfl⟩)
                go_ret
                exact ⟨hbad.out (by rw [hrow.out, h2, h1, allUpto_false hjt h3]; rfl), upw hb hb3⟩
              · have h4 : ¬ qualS (byteAt r j) < 0 := by have := qual_ok h3; omega
                rw [bk] at h4
                clear bk
                go_wp2_with (go_at_call 18; refine (l10Quality_c _ _).mono ?_; rintro e w' ⟨rfl, rfl⟩)
                go_roundw
                case rel => exact ⟨j + 1, by omega, by go_num, sofar_succ HT.out h3, hb3⟩
                case measure => simp [intOf]; omega
            · go_wp2_with fail
              go_roundw
              case rel => exact ⟨k + 1, by omega, by go_num, hgood.out (by rw [hrow.out, h2, h1, sofar_all HT.out (by omega)]; rfl), upw hb hb3⟩
              case measure => simp [intOf]; omega
    · go_wp2_with (go_at_call 17; refine (l00In_c _ _ _ _).mono ?_; rintro e w' ⟨rfl, rfl⟩)
      go_ret
      exact ⟨ret_bool (by rw [← hok.out, nosofar_any HS.out (show xs.length ≤ k by omega)]; simp), hb⟩
theorem specValidHide_c (a : Option Addr) (xs : List ByteArray) (c : Nat) (w : World) (hx : At w a xs) (hl : xs.length ≤ 9223372036854775807) (hs : ∀ x ∈ xs, x.size ≤ 9223372036854775807) :
    Calls Tryd.prog 6 #[.slice a xs.length c] w fun e w' => e = .returned (.bool (okHide xs)) ∧ Below w.heap.size w w' := by
  have hb := Below.refl w.heap.size w
  have HC := Lib.hid (l10Ok_c a xs c w hx hl hs)
  go_enter Tryd.func6, Tryd.ntmps6
  go_wp2_with fail
  refine HC.out.mono ?_
  rintro e w2 ⟨rfl, hb2⟩
  go_wp2_with fail
  go_ret
  exact ⟨rfl, hb2⟩
theorem okHide_len {xs : List ByteArray} (h : okHide xs = true) : 1 ≤ xs.length ∧ xs.length ≤ 6 := by
  unfold okHide at h
  simp only [Bool.and_eq_true] at h
  have := inr_true.1 h.1
  omega
theorem okHide_row {xs : List ByteArray} (h : okHide xs = true) {k : Nat} (hk : k < xs.length) : xs[k].size = hideN xs ∧ 1 ≤ hideN xs ∧ hideN xs ≤ 6 ∧ ∀ j, j < xs[k].size → okN (byteAt xs[k] j) = true := by
  unfold okHide at h
  simp only [Bool.and_eq_true, List.all_eq_true] at h
  have := h.2 _ (List.getElem_mem hk)
  rw [okRow_iff] at this
  simp only [Bool.and_eq_true, beq_iff_eq] at this
  have h1 := inr_true.1 this.1.1
  exact ⟨this.1.2, by omega, by omega, fun j hj => allUpto_iff.1 this.2 j hj⟩
theorem sizeOf_c (a : Option Addr) (xs : List ByteArray) (c : Nat) (w : World) (hx : At w a xs) (h0 : 0 < xs.length) :
    Calls Tryd.prog 19 #[.slice a xs.length c] w fun e w' => e = .returned (.tuple #[.int .i64 xs.length, .int .i64 (hideN xs)]) ∧ Below w.heap.size w w' := by
  have hn := hideN_get h0
  obtain ⟨b, off, rfl⟩ := hx.addr h0
  have d0 := hx.str h0
  simp only [Nat.add_zero] at d0
  rw [hn]
  clear hn
  have d1 := rg d0
  have hb := Below.refl w.heap.size w
  go_enter Tryd.func19, Tryd.ntmps19
  go_wp2_with fail
  refine wp_region_quiet_below (by kernel_rfl) (by kernel_rfl) ?_
  repeat (go_big_quiet_step ((fail)))
  refine wpQuiet_nil ?_
  intro w2 hw'
  replace hb := upw hb (grown_of hw')
  clear hw'
  go_wp2_with fail
  go_ret2
  exact ⟨rfl, hb⟩
set_option maxHeartbeats 800000 in
theorem implQualityAt_c (a : Option Addr) (xs : List ByteArray) (c : Nat) (y x : Int) (w : World) (hx : At w a xs) (hl : xs.length ≤ 9223372036854775807) (hs : ∀ x ∈ xs, x.size ≤ 9223372036854775807) :
    Calls Tryd.prog 11 #[.slice a xs.length c, .int .i64 y, .int .i64 x] w fun e w' => e = .returned (.tuple #[.int .i64 (qualRes xs y x).1, .int .i64 (qualRes xs y x).2]) ∧ Below w.heap.size w w' := by
  have hb := Below.refl w.heap.size w
  have HV := Lib.hid (implValidHide_c a xs c w hx hl hs)
  obtain ⟨r, hr⟩ : ∃ r, r = qualRes xs y x := ⟨_, rfl⟩
  rw [← hr]
  replace hr := Lib.hid hr
  cases h1 : okHide xs
  · rw [h1] at HV
    have e := Lib.hid (show r = (0, 1) by rw [hr.out, qualRes, h1]; rfl)
    go_enter Tryd.func11, Tryd.ntmps11
    go_wp2_with fail
    refine HV.out.mono ?_
    rintro e w2 ⟨rfl, hb2⟩
    go_wp2_with fail
    go_ret2
    exact ⟨by rw [e.out]; rfl, hb2⟩
  · rw [h1] at HV
    have hn := okHide_len h1
    have h0 : 0 < xs.length := by omega
    have hrow := Lib.hid (fun (k : Nat) (hk : k < xs.length) => okHide_row h1 hk)
    have h00 := hrow.out 0 h0
    obtain ⟨m, hm⟩ : ∃ m, m = hideN xs := ⟨_, rfl⟩
    have hm1 : 1 ≤ m ∧ m ≤ 6 := by omega
    replace hrow := Lib.hid (fun (k : Nat) (hk : k < xs.length) => show xs[k].size = m by rw [hm]; exact (hrow.out k hk).1)
    have HS := Lib.hid (fun w' hb' => sizeOf_c a xs c w' (hx.below (w' := w') hb') h0)
    rw [← hm] at HS
    have h1' : r = if inr y 0 ((xs.length : Int) - 1) && inr x 0 ((m : Int) - 1) then (qualI (byteAt (xs.getD y.toNat ⟨#[]⟩) x.toNat), 0) else (0, 2) := by rw [hr.out, qualRes, h1, hm]; rfl
    replace h1' := Lib.hid h1'
    clear h00 h1 hm hs
    cases h2 : inr y 0 ((xs.length : Int) - 1)
    · have e := Lib.hid (show r = (0, 2) by rw [h1'.out, h2]; rfl)
      go_enter Tryd.func11, Tryd.ntmps11
      go_wp2_with fail
      refine HV.out.mono ?_
      rintro e w2 ⟨rfl, hb2⟩
      go_wp2_with fail
      refine (HS.out _ hb2).mono ?_
      rintro e w3 ⟨rfl, hb3⟩
      replace hb2 := upw hb2 hb3
      go_wp2_with (go_at_call 13; refine (within_c _ _ _ _).mono ?_; rintro e w' ⟨rfl, rfl⟩)
      go_ret2
      exact ⟨by rw [e.out]; rfl, hb2⟩
    · cases h3 : inr x 0 ((m : Int) - 1)
      · have e := Lib.hid (show r = (0, 2) by rw [h1'.out, h2, h3]; rfl)
        go_enter Tryd.func11, Tryd.ntmps11
        go_wp2_with fail
        refine HV.out.mono ?_
        rintro e w2 ⟨rfl, hb2⟩
        go_wp2_with fail
        refine (HS.out _ hb2).mono ?_
        rintro e w3 ⟨rfl, hb3⟩
        replace hb2 := upw hb2 hb3
        go_wp2_with (go_at_call 13; refine (within_c _ _ _ _).mono ?_; rintro e w' ⟨rfl, rfl⟩)
        go_ret2
        exact ⟨by rw [e.out]; rfl, hb2⟩
      · have hy := inr_true.1 h2
        have hx9 := inr_true.1 h3
        obtain ⟨k, rfl⟩ : ∃ k : Nat, y = k := ⟨y.toNat, by omega⟩
        obtain ⟨j, rfl⟩ : ∃ j : Nat, x = j := ⟨x.toNat, by omega⟩
        have hk : k < xs.length := by omega
        have hj0 : j < m := by omega
        have hj : j < xs[k].size := by rw [hrow.out k hk]; exact hj0
        obtain ⟨v, hv⟩ : ∃ v, v = xs[k] := ⟨_, rfl⟩
        have e : r = (qualI (byteAt v j), 0) := by
          rw [h1'.out, h2, h3, hv]
          simp [List.getD_eq_getElem?_getD, hk]
        replace e := Lib.hid e
        clear hy hx9
        obtain ⟨b, off, rfl⟩ := hx.addr hk
        go_enter Tryd.func11, Tryd.ntmps11
        go_wp2_with fail
        refine HV.out.mono ?_
        rintro e w2 ⟨rfl, hb2⟩
        go_wp2_with fail
        refine (HS.out _ hb2).mono ?_
        rintro e w3 ⟨rfl, hb3⟩
        replace hb2 := upw hb2 hb3
        have c0 := (hx.below hb2).str hk
        rw [← hv] at c0 hj
        replace hv := Lib.hid hv
        have bk := byteAt_get hj
        rw [bk] at e
        clear bk
        go_wp2_with (first | (go_at_call 13; refine (within_c _ _ _ _).mono ?_; rintro e w' ⟨rfl, rfl⟩) | (go_at_call 20; refine (qualityOf_c _ _).mono ?_; rintro e w' ⟨rfl, rfl⟩))
        go_ret2
        exact ⟨by rw [e.out]; rfl, hb2⟩
set_option maxHeartbeats 800000 in
theorem specQualityAt_c (a : Option Addr) (xs : List ByteArray) (c : Nat) (y x : Int) (w : World) (hx : At w a xs) (hl : xs.length ≤ 9223372036854775807) (hs : ∀ x ∈ xs, x.size ≤ 9223372036854775807) :
    Calls Tryd.prog 10 #[.slice a xs.length c, .int .i64 y, .int .i64 x] w fun e w' => e = .returned (.tuple #[.int .i64 (qualRes xs y x).1, .int .i64 (qualRes xs y x).2]) ∧ Below w.heap.size w w' := by
  have hb := Below.refl w.heap.size w
  have HV := Lib.hid (l10Ok_c a xs c w hx hl hs)
  obtain ⟨r, hr⟩ : ∃ r, r = qualRes xs y x := ⟨_, rfl⟩
  rw [← hr]
  replace hr := Lib.hid hr
  cases h1 : okHide xs
  · rw [h1] at HV
    have e := Lib.hid (show r = (0, 1) by rw [hr.out, qualRes, h1]; rfl)
    go_enter Tryd.func10, Tryd.ntmps10
    go_wp2_with fail
    refine HV.out.mono ?_
    rintro e w2 ⟨rfl, hb2⟩
    go_wp2_with fail
    go_ret2
    exact ⟨by rw [e.out]; rfl, hb2⟩
  · rw [h1] at HV
    have hn := okHide_len h1
    have h0 : 0 < xs.length := by omega
    have hrow := Lib.hid (fun (k : Nat) (hk : k < xs.length) => okHide_row h1 hk)
    have h00 := hrow.out 0 h0
    obtain ⟨m, hm⟩ : ∃ m, m = hideN xs := ⟨_, rfl⟩
    have hm1 : 1 ≤ m ∧ m ≤ 6 := by omega
    replace hrow := Lib.hid (fun (k : Nat) (hk : k < xs.length) => show xs[k].size = m ∧ ∀ j, j < xs[k].size → okN (byteAt xs[k] j) = true by rw [hm]; exact ⟨(hrow.out k hk).1, (hrow.out k hk).2.2.2⟩)
    have hs0 : xs[0].size = m := (hrow.out 0 h0).1
    have h1' : r = if inr y 0 ((xs.length : Int) - 1) && inr x 0 ((m : Int) - 1) then (qualI (byteAt (xs.getD y.toNat ⟨#[]⟩) x.toNat), 0) else (0, 2) := by rw [hr.out, qualRes, h1, hm]; rfl
    replace h1' := Lib.hid h1'
    clear h00 h1 hm hs
    cases h2 : inr y 0 ((xs.length : Int) - 1)
    · have e := Lib.hid (show r = (0, 2) by rw [h1'.out, h2]; rfl)
      go_enter Tryd.func10, Tryd.ntmps10
      go_wp2_with fail
      refine HV.out.mono ?_
      rintro e w2 ⟨rfl, hb2⟩
      go_wp2_with (go_at_call 17; refine (l00In_c _ _ _ _).mono ?_; rintro e w' ⟨rfl, rfl⟩)
      go_ret2
      exact ⟨by rw [e.out]; rfl, hb2⟩
    · obtain ⟨b, off, rfl⟩ := hx.addr h0
      cases h3 : inr x 0 ((m : Int) - 1)
      · have e := Lib.hid (show r = (0, 2) by rw [h1'.out, h2, h3]; rfl)
        go_enter Tryd.func10, Tryd.ntmps10
        go_wp2_with fail
        refine HV.out.mono ?_
        rintro e w2 ⟨rfl, hb2⟩
        have d0 := (hx.below hb2).str h0
        simp only [Nat.add_zero] at d0
        go_wp2_with (go_at_call 17; refine (l00In_c _ _ _ _).mono ?_; rintro e w' ⟨rfl, rfl⟩)
        go_ret2
        exact ⟨by rw [e.out]; rfl, hb2⟩
      · have hy := inr_true.1 h2
        have hx9 := inr_true.1 h3
        obtain ⟨k, rfl⟩ : ∃ k : Nat, y = k := ⟨y.toNat, by omega⟩
        obtain ⟨j, rfl⟩ : ∃ j : Nat, x = j := ⟨x.toNat, by omega⟩
        have hk : k < xs.length := by omega
        have hj0 : j < m := by omega
        have hj : j < xs[k].size := by rw [(hrow.out k hk).1]; exact hj0
        have hq := Lib.hid (qual_ok ((hrow.out k hk).2 j hj)).1
        obtain ⟨v, hv⟩ : ∃ v, v = xs[k] := ⟨_, rfl⟩
        have e : r = (qualI (byteAt v j), 0) := by
          rw [h1'.out, h2, h3, hv]
          simp [List.getD_eq_getElem?_getD, hk]
        rw [← hv] at hq
        rw [← hq.out] at e
        clear hq
        replace e := Lib.hid e
        clear hy hx9
        go_enter Tryd.func10, Tryd.ntmps10
        go_wp2_with fail
        refine HV.out.mono ?_
        rintro e w2 ⟨rfl, hb2⟩
        have d0 := (hx.below hb2).str h0
        simp only [Nat.add_zero] at d0
        have c0 := (hx.below hb2).str hk
        rw [← hv] at c0 hj
        replace hv := Lib.hid hv
        have bk := byteAt_get hj
        rw [bk] at e
        clear bk
        go_wp2_with (first | (go_at_call 17; refine (l00In_c _ _ _ _).mono ?_; rintro e w' ⟨rfl, rfl⟩) | (go_at_call 18; refine (l10Quality_c _ _).mono ?_; rintro e w' ⟨rfl, rfl⟩))
        go_ret2
        exact ⟨by rw [e.out]; rfl, hb2⟩
end Go.Proofs.YtgjgfmbaajoahaaDoor
