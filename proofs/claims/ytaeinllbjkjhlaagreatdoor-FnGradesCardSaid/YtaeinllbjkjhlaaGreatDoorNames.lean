/- Names: what IsName computes, in the program and in the reference. -/
import Derived.Test.YtaeinllbjkjhlaaGreatDoorNum
import Derived.Lib.Bytes
namespace Go.Proofs.YtaeinllbjkjhlaaGreatDoor
open Go.RowKit

/-- The byte at a place, as a number. -/
def byteAt (s : ByteArray) (i : Nat) : Int := ((s.data.toList.getD i 0).toNat : Int)
theorem byteAt_get {s : ByteArray} {i : Nat} (h : i < s.size) : byteAt s i = (s[i].toNat : Int) := by
  unfold byteAt
  have h' : i < s.data.toList.length := by simpa using h
  rw [List.getD_eq_getElem?_getD, List.getElem?_eq_getElem h']; rfl
def small (c : Int) : Bool := inr c 97 122
def digitB (c : Int) : Bool := inr c 48 57
def nameByte (c : Int) : Bool := small c || digitB c || c == 45
def isName (s : ByteArray) : Bool := (inr s.size 1 12 && small (byteAt s 0)) && allUpto s.size fun i => nameByte (byteAt s i)
theorem isName_size {s : ByteArray} (h : isName s = true) : 1 ≤ s.size ∧ s.size ≤ 12 := by
  simp only [isName, Bool.and_eq_true] at h
  have := inr_true.1 h.1.1
  omega
theorem isName_short {s : ByteArray} (h : ¬ (1 ≤ s.size ∧ s.size ≤ 12)) : isName s = false := by
  cases hn : isName s
  · rfl
  · exact absurd (isName_size hn) h
theorem isName_first {s : ByteArray} (h : small (byteAt s 0) = false) : isName s = false := by simp [isName, h]
theorem isName_bad {s : ByteArray} {i : Nat} (hi : i < s.size) (h : nameByte (byteAt s i) = false) : isName s = false := by
  have := allUpto_false (p := fun i => nameByte (byteAt s i)) hi h
  simp [isName, this]
theorem isName_all {s : ByteArray} (h : 1 ≤ s.size ∧ s.size ≤ 12) (h0 : small (byteAt s 0) = true) (hs : Sofar (fun i => nameByte (byteAt s i)) s.size) : isName s = true := by
  simp [isName, h0, sofar_all hs (Nat.le_refl _), inr]; omega
theorem nameByte_small {c : Int} (h : small c = true) : nameByte c = true := by simp [nameByte, h]
set_option maxHeartbeats 1600000 in
theorem implIsName_c (s : ByteArray) (w : World) (hs : s.size ≤ 9223372036854775807) : Calls Tryz.prog 55 #[.string s] w fun e w' => e = .returned (.bool (isName s)) ∧ w = w' := by
  by_cases h1 : s.size < 1
  · have e := isName_short (s := s) (by omega)
    rw [e]
    replace e := Lib.hid e
    have h1' : (s.size : Int) < 1 := by omega
    go_enter Tryz.func55, Tryz.ntmps55
    go_wp2
    go_ret
    exact ⟨rfl, rfl⟩
  · by_cases h2 : 12 < s.size
    · have e := isName_short (s := s) (by omega)
      rw [e]
      replace e := Lib.hid e
      have h1' : ¬ (s.size : Int) < 1 := by omega
      have h2' : 12 < (s.size : Int) := by omega
      go_enter Tryz.func55, Tryz.ntmps55
      go_wp2
      go_ret
      exact ⟨rfl, rfl⟩
    · have h1' : ¬ (s.size : Int) < 1 := by omega
      have h2' : ¬ 12 < (s.size : Int) := by omega
      have h0 : 0 < s.size := by omega
      have b0 := byteAt_get h0
      cases h3 : small (byteAt s 0)
      · have e := isName_first h3
        rw [e]
        replace e := Lib.hid e
        rw [b0] at h3
        have h3' := inr_false.1 h3
        clear h3 b0
        by_cases h4 : (s[0].toNat : Int) < 97
        · go_enter Tryz.func55, Tryz.ntmps55
          go_wp2
          go_ret
          exact ⟨rfl, rfl⟩
        · have h5 : 122 < (s[0].toNat : Int) := by omega
          go_enter Tryz.func55, Tryz.ntmps55
          go_wp2
          go_ret
          exact ⟨rfl, rfl⟩
      · have h3' := inr_true.1 (show inr (byteAt s 0) 97 122 = true from h3)
        rw [b0] at h3'
        obtain ⟨h4, h5⟩ := h3'
        replace h4 : ¬ (s[0].toNat : Int) < 97 := by omega
        replace h5 : ¬ 122 < (s[0].toNat : Int) := by omega
        have H3 := Lib.hid h3
        clear h3 b0
        go_enter Tryz.func55, Tryz.ntmps55
        go_wp2
        go_loop [3] (fun i => ∃ k : Nat, 1 ≤ k ∧ k ≤ s.size ∧ i = .int .i64 k ∧ Sofar (fun i => nameByte (byteAt s i)) k) (fun i => s.size - (intOf i).toNat)
        case atStart => exact ⟨1, Nat.le_refl _, by omega, rfl, sofar_succ sofar_zero (nameByte_small H3.out)⟩
        case round =>
          obtain ⟨k, hk1, hk, rfl, hS⟩ := hrel
          clear h4 h5
          replace hS := Lib.hid hS
          by_cases hlt : k < s.size
          · have bk := byteAt_get hlt
            cases hn : nameByte (byteAt s k)
            · have e := Lib.hid (isName_bad hlt hn)
              rw [bk] at hn
              simp only [nameByte, Bool.or_eq_false_iff, small, digitB, inr_false, beq_eq_false_iff_ne] at hn
              obtain ⟨⟨n1, n2⟩, n3⟩ := hn
              have n4 : ((s[k].toNat : Int) != 45) = true := by simpa using n3
              replace n1 := Lib.hid n1
              replace n2 := Lib.hid n2
              clear bk n3
              go_wp2
              all_goals first
                | (go_ret; exact ⟨ret_bool e.out.symm, rfl⟩)
                | (exfalso; have := n1.out; have := n2.out; omega)
            · have HS := Lib.hid (sofar_succ hS.out hn)
              rw [bk] at hn
              simp only [nameByte, Bool.or_eq_true, small, digitB, inr_true, beq_iff_eq] at hn
              replace hn := Lib.hid hn
              clear bk
              go_wp2
              all_goals first
                | (go_round; (case rel => exact ⟨k + 1, by omega, by omega, by go_num, HS.out⟩); (case measure => simp [intOf]; omega))
                | (exfalso; have := hn.out; omega)
                | (exfalso; have := hn.out; simp_all; omega)
          · obtain rfl : k = s.size := by omega
            have e := isName_all ⟨by omega, by omega⟩ H3.out hS.out
            replace e := Lib.hid e
            go_wp2
            go_ret
            exact ⟨ret_bool e.out.symm, rfl⟩
theorem l01Small_c (c : Int) (w : World) : Calls Tryz.prog 100 #[.int .u8 c] w fun e w' => e = .returned (.bool (small c)) ∧ w = w' := by
  by_cases h1 : 97 ≤ c
  · by_cases h2 : c ≤ 122
    · have e : small c = true := inr_true.2 ⟨h1, h2⟩
      rw [e]
      replace e := Lib.hid e
      go_enter Tryz.func100, Tryz.ntmps100
      go_wp2
      go_ret
      exact ⟨rfl, rfl⟩
    · have e : small c = false := inr_false.2 (by omega)
      rw [e]
      replace e := Lib.hid e
      go_enter Tryz.func100, Tryz.ntmps100
      go_wp2
      go_ret
      exact ⟨by simp, rfl⟩
  · have e : small c = false := inr_false.2 (by omega)
    rw [e]
    replace e := Lib.hid e
    go_enter Tryz.func100, Tryz.ntmps100
    go_wp2
    go_ret
    exact ⟨by simp, rfl⟩
theorem l01Digit_c (c : Int) (w : World) : Calls Tryz.prog 101 #[.int .u8 c] w fun e w' => e = .returned (.bool (digitB c)) ∧ w = w' := by
  by_cases h1 : 48 ≤ c
  · by_cases h2 : c ≤ 57
    · have e : digitB c = true := inr_true.2 ⟨h1, h2⟩
      rw [e]
      replace e := Lib.hid e
      go_enter Tryz.func101, Tryz.ntmps101
      go_wp2
      go_ret
      exact ⟨rfl, rfl⟩
    · have e : digitB c = false := inr_false.2 (by omega)
      rw [e]
      replace e := Lib.hid e
      go_enter Tryz.func101, Tryz.ntmps101
      go_wp2
      go_ret
      exact ⟨by simp, rfl⟩
  · have e : digitB c = false := inr_false.2 (by omega)
    rw [e]
    replace e := Lib.hid e
    go_enter Tryz.func101, Tryz.ntmps101
    go_wp2
    go_ret
    exact ⟨by simp, rfl⟩
theorem toList_len (s : ByteArray) : s.toList.length = s.size := by
  rw [Lib.toList_data]; rfl
set_option maxHeartbeats 1600000 in
theorem specIsName_c (s : ByteArray) (w : World) (hs : s.size ≤ 9223372036854775807) : Calls Tryz.prog 53 #[.string s] w fun e w' => e = .returned (.bool (isName s)) ∧ w = w' := by
  by_cases h1 : s.size < 1
  · obtain rfl : s = ⟨#[]⟩ := by
      have : s.data.size = 0 := by have : s.data.size = s.size := rfl; omega
      cases s; simp at this; simp [this]
    go_enter Tryz.func53, Tryz.ntmps53
    go_wp2
    go_ret
    exact ⟨rfl, rfl⟩
  · have n1 : s.toList ≠ [] := fun e => by
      have : s.toList.length = s.size := toList_len s
      rw [e] at this; simp at this; omega
    have n2 : s.toList.isEmpty = false := by simpa using n1
    replace n1 : ¬ s.toList = [] := n1
    by_cases h2 : 12 < s.size
    · have e := isName_short (s := s) (by omega)
      rw [e]
      replace e := Lib.hid e
      have h2' : 12 < (s.size : Int) := by omega
      go_enter Tryz.func53, Tryz.ntmps53
      go_wp2
      go_ret
      exact ⟨rfl, rfl⟩
    · have h2' : ¬ 12 < (s.size : Int) := by omega
      have h0 : 0 < s.size := by omega
      have b0 := byteAt_get h0
      cases h3 : small (byteAt s 0)
      · have e := isName_first h3
        rw [e]
        replace e := Lib.hid e
        rw [b0] at h3
        clear b0
        go_enter Tryz.func53, Tryz.ntmps53
        go_wp2_with (go_at_call 100; refine (l01Small_c _ _).mono ?_; rintro e w' ⟨rfl, rfl⟩)
        go_ret
        exact ⟨rfl, rfl⟩
      · have H3 := Lib.hid h3
        rw [b0] at h3
        clear b0
        go_enter Tryz.func53, Tryz.ntmps53
        go_wp2_with (go_at_call 100; refine (l01Small_c _ _).mono ?_; rintro e w' ⟨rfl, rfl⟩)
        go_loop [3] (fun i => ∃ k : Nat, k ≤ s.size ∧ i = .int .i64 k ∧ Sofar (fun i => nameByte (byteAt s i)) k) (fun i => s.size - (intOf i).toNat)
        case atStart => exact ⟨0, Nat.zero_le _, rfl, sofar_zero⟩
        case round =>
          obtain ⟨k, hk, rfl, hS⟩ := hrel
          clear h3
          replace hS := Lib.hid hS
          by_cases hlt : k < s.size
          · have bk := byteAt_get hlt
            cases h1 : small (byteAt s k)
            · cases h2 : digitB (byteAt s k)
              · cases h3 : byteAt s k == 45
                · have e := Lib.hid (isName_bad hlt (show nameByte (byteAt s k) = false by simp [nameByte, h1, h2, h3]))
                  simp only [bk] at h1 h2 h3
                  replace bk := Lib.hid bk
                  have h3' : ((s[k].toNat : Int) != 45) = true := by simpa using h3
                  go_wp2_with (first | (go_at_call 100; refine (l01Small_c _ _).mono ?_; rintro e w' ⟨rfl, rfl⟩) | (go_at_call 101; refine (l01Digit_c _ _).mono ?_; rintro e w' ⟨rfl, rfl⟩))
                  go_ret
                  exact ⟨ret_bool e.out.symm, rfl⟩
                · have hn : nameByte (byteAt s k) = true := by simp [nameByte, h1, h2, h3]
                  have HS := Lib.hid (sofar_succ hS.out hn)
                  clear hn
                  simp only [bk] at h1 h2 h3
                  replace bk := Lib.hid bk
                  try (have h3' : ((s[k].toNat : Int) != 45) = false := by simpa using h3)
                  go_wp2_with (first | (go_at_call 100; refine (l01Small_c _ _).mono ?_; rintro e w' ⟨rfl, rfl⟩) | (go_at_call 101; refine (l01Digit_c _ _).mono ?_; rintro e w' ⟨rfl, rfl⟩))
                  go_round
                  case rel => exact ⟨k + 1, by omega, by go_num, HS.out⟩
                  case measure => simp [intOf]; omega
              · have hn : nameByte (byteAt s k) = true := by simp [nameByte, h1, h2]
                have HS := Lib.hid (sofar_succ hS.out hn)
                clear hn
                simp only [bk] at h1 h2
                replace bk := Lib.hid bk
                try (have h3' : ((s[k].toNat : Int) != 45) = false := by simpa using h3)
                go_wp2_with (first | (go_at_call 100; refine (l01Small_c _ _).mono ?_; rintro e w' ⟨rfl, rfl⟩) | (go_at_call 101; refine (l01Digit_c _ _).mono ?_; rintro e w' ⟨rfl, rfl⟩))
                go_round
                case rel => exact ⟨k + 1, by omega, by go_num, HS.out⟩
                case measure => simp [intOf]; omega
            · have hn : nameByte (byteAt s k) = true := by simp [nameByte, h1]
              have HS := Lib.hid (sofar_succ hS.out hn)
              clear hn
              simp only [bk] at h1
              replace bk := Lib.hid bk
              try (have h3' : ((s[k].toNat : Int) != 45) = false := by simpa using h3)
              go_wp2_with (first | (go_at_call 100; refine (l01Small_c _ _).mono ?_; rintro e w' ⟨rfl, rfl⟩) | (go_at_call 101; refine (l01Digit_c _ _).mono ?_; rintro e w' ⟨rfl, rfl⟩))
              go_round
              case rel => exact ⟨k + 1, by omega, by go_num, HS.out⟩
              case measure => simp [intOf]; omega
          · obtain rfl : k = s.size := by omega
            have e := isName_all ⟨by omega, by omega⟩ H3.out hS.out
            replace e := Lib.hid e
            go_wp2
            go_ret
            exact ⟨ret_bool e.out.symm, rfl⟩
end Go.Proofs.YtaeinllbjkjhlaaGreatDoor
