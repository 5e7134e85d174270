/- Feet and lasts: what the small functions on one of them answer. -/
import Derived.Test.YtaeinllbjkjhlaaGreatDoorFoot
import Derived.Test.YtaeinllbjkjhlaaGreatDoorLastT
import Derived.Test.YtaeinllbjkjhlaaGreatDoorNames
import Derived.Test.YtaeinllbjkjhlaaGreatDoorL09
import Derived.Test.YtaeinllbjkjhlaaGreatDoorLists
namespace Go.Proofs.YtaeinllbjkjhlaaGreatDoor
open Go.RowKit

/-- A foot is valid. -/
def okFoot (f : Foot) : Bool := inr f.Length 500 5000 && inr f.Ball 500 5000 && inr f.Instep 500 5000 && inr f.Heel 500 5000
theorem okFoot_iff {f : Foot} : okFoot f = true ↔ (500 ≤ f.Length ∧ f.Length ≤ 5000) ∧ (500 ≤ f.Ball ∧ f.Ball ≤ 5000) ∧ (500 ≤ f.Instep ∧ f.Instep ≤ 5000) ∧ (500 ≤ f.Heel ∧ f.Heel ≤ 5000) := by
  simp [okFoot, inr, and_assoc]
def fourOf (f : Foot) : List Int := [f.Length, f.Ball, f.Instep, f.Heel]
theorem outs_four (f : Foot) : outs (fourOf f) 500 5000 = !okFoot f := by
  simp [outs, fourOf, okFoot, Bool.not_and, Bool.or_assoc]
def lastFoot (x : Last) : Foot := ⟨x.Length, x.Ball, x.Instep, x.Heel⟩
/-- A last is valid. -/
def okLast (x : Last) : Bool := isName x.Name && okFoot (lastFoot x) && inr x.Pitch 0 1000
theorem l02One_c (n : Int) (w : World) : Calls Tryz.prog 123 #[.int .i64 n] w fun e w' => e = .returned (.bool (inr n 500 5000)) ∧ w = w' := by
  go_enter Tryz.func123, Tryz.ntmps123
  go_wp2_with (go_at_call 69; refine (l00In_c _ _ _ _).mono ?_; rintro e w' ⟨rfl, rfl⟩)
  go_ret
  exact ⟨rfl, rfl⟩
theorem l02Foot_c (f : Foot) (w : World) : Calls Tryz.prog 104 #[.agg #[.int .i64 f.Length, .int .i64 f.Ball, .int .i64 f.Instep, .int .i64 f.Heel]] w fun e w' => e = .returned (.bool (okFoot f)) ∧ Below w.heap.size w w' := by
  cases h1 : inr f.Length 500 5000
  · go_enter Tryz.func104, Tryz.ntmps104
    go_wp2_with (go_at_call 123; refine (l02One_c _ _).mono ?_; rintro e w' ⟨rfl, rfl⟩)
    go_ret
    exact ⟨ret_bool (by simp [okFoot, h1]), (Below.refl _ _).alloc (by simp) _⟩
  · cases h2 : inr f.Ball 500 5000
    · go_enter Tryz.func104, Tryz.ntmps104
      go_wp2_with (go_at_call 123; refine (l02One_c _ _).mono ?_; rintro e w' ⟨rfl, rfl⟩)
      go_ret
      exact ⟨ret_bool (by simp [okFoot, h1, h2]), (Below.refl _ _).alloc (by simp) _⟩
    · cases h3 : inr f.Instep 500 5000
      · go_enter Tryz.func104, Tryz.ntmps104
        go_wp2_with (go_at_call 123; refine (l02One_c _ _).mono ?_; rintro e w' ⟨rfl, rfl⟩)
        go_ret
        exact ⟨ret_bool (by simp [okFoot, h1, h2, h3]), (Below.refl _ _).alloc (by simp) _⟩
      · cases h4 : inr f.Heel 500 5000
        · go_enter Tryz.func104, Tryz.ntmps104
          go_wp2_with (go_at_call 123; refine (l02One_c _ _).mono ?_; rintro e w' ⟨rfl, rfl⟩)
          go_ret
          exact ⟨ret_bool (by simp [okFoot, h1, h2, h3, h4]), (Below.refl _ _).alloc (by simp) _⟩
        · go_enter Tryz.func104, Tryz.ntmps104
          go_wp2_with (go_at_call 123; refine (l02One_c _ _).mono ?_; rintro e w' ⟨rfl, rfl⟩)
          go_ret
          exact ⟨ret_bool (by simp [okFoot, h1, h2, h3, h4]), (Below.refl _ _).alloc (by simp) _⟩
theorem own_four (w : World) (t : TypeId) (f : Foot) : Own w.heap.size (w.alloc (.cells #[.int .i64 f.Length, .int .i64 f.Ball, .int .i64 f.Instep, .int .i64 f.Heel] t)) t (.slice (some ⟨w.heap.size, 0, none⟩) 4 4) (fourOf f) := own_row w t (fourOf f) (by simp [fourOf])
theorem measures_c (f : Foot) (w : World) : Calls Tryz.prog 98 #[.agg #[.int .i64 f.Length, .int .i64 f.Ball, .int .i64 f.Instep, .int .i64 f.Heel]] w fun e w' => ∃ g, e = .returned (.slice (some ⟨g, 0, none⟩) 4 4) ∧ Own w.heap.size w' 2 (.slice (some ⟨g, 0, none⟩) 4 4) (fourOf f) ∧ Below w.heap.size w w' := by
  have hb : Below w.heap.size w (w.alloc (.cells #[.int .i64 f.Length, .int .i64 f.Ball, .int .i64 f.Instep, .int .i64 f.Heel] 25)) := (Below.refl _ _).alloc (Nat.le_refl _) _
  have hO := own_four (w.alloc (.cells #[.int .i64 f.Length, .int .i64 f.Ball, .int .i64 f.Instep, .int .i64 f.Heel] 25)) 2 f
  go_enter Tryz.func98, Tryz.ntmps98
  go_wp2_with fail
  go_ret
  refine ⟨w.heap.size + 1, rfl, ?_, hb.alloc hb.size _⟩
  have := hO.base hb.size
  simpa using this
theorem validFoot_c (f : Foot) (w : World) : Calls Tryz.prog 88 #[.agg #[.int .i64 f.Length, .int .i64 f.Ball, .int .i64 f.Instep, .int .i64 f.Heel]] w fun e w' => e = .returned (.bool (okFoot f)) ∧ Below w.heap.size w w' := by
  have hb0 : Below w.heap.size w (w.alloc (.cells #[.int .i64 f.Length, .int .i64 f.Ball, .int .i64 f.Instep, .int .i64 f.Heel] 25)) := (Below.refl _ _).alloc (Nat.le_refl _) _
  have hof := outs_four f
  obtain ⟨q, hq⟩ : ∃ q, q = okFoot f := ⟨_, rfl⟩
  rw [← hq] at hof ⊢
  replace hq := Lib.hid hq
  go_enter Tryz.func88, Tryz.ntmps88
  go_wp2_with fail
  refine (measures_c f _).mono ?_
  rintro e w2 ⟨g, rfl, hO, hb2⟩
  have hb := upw hb0 hb2
  have hcc := outside_c (some ⟨g, 0, none⟩) (fourOf f) 4 500 5000 w2 hO.at' (by simp [fourOf])
  rw [hof] at hcc
  go_wp2_with fail
  refine hcc.mono ?_
  rintro e w3 ⟨rfl, hb3⟩
  go_wp2_with fail
  go_ret
  exact ⟨by simp, upw hb hb3⟩
theorem l04Foot_c (x : Last) (w : World) : Calls Tryz.prog 105 #[.agg #[.string x.Name, .int .i64 x.Length, .int .i64 x.Ball, .int .i64 x.Instep, .int .i64 x.Heel, .int .i64 x.Pitch]] w fun e w' => e = .returned (.agg #[.int .i64 x.Length, .int .i64 x.Ball, .int .i64 x.Instep, .int .i64 x.Heel]) ∧ Below w.heap.size w w' := by
  go_enter Tryz.func105, Tryz.ntmps105
  go_wp2_with fail
  refine bodyPost_ret (v := .agg #[.int .i64 x.Length, .int .i64 x.Ball, .int .i64 x.Instep, .int .i64 x.Heel]) (by simp [results, Tryz.results105, go_sem]) rfl ⟨rfl, ?_⟩
  exact ((Below.refl _ _).alloc (by simp) _).alloc (by simp) _
theorem lastFoot_c (x : Last) (w : World) : Calls Tryz.prog 50 #[.agg #[.string x.Name, .int .i64 x.Length, .int .i64 x.Ball, .int .i64 x.Instep, .int .i64 x.Heel, .int .i64 x.Pitch]] w fun e w' => e = .returned (.agg #[.int .i64 x.Length, .int .i64 x.Ball, .int .i64 x.Instep, .int .i64 x.Heel]) ∧ Below w.heap.size w w' := by
  go_enter Tryz.func50, Tryz.ntmps50
  go_wp2_with fail
  refine bodyPost_ret (v := .agg #[.int .i64 x.Length, .int .i64 x.Ball, .int .i64 x.Instep, .int .i64 x.Heel]) (by simp [results, Tryz.results50, go_sem]) rfl ⟨rfl, ?_⟩
  exact ((Below.refl _ _).alloc (by simp) _).alloc (by simp) _
theorem new_last (w : World) (x : Last) : Below w.heap.size w (w.alloc (.cells #[.string x.Name, .int .i64 x.Length, .int .i64 x.Ball, .int .i64 x.Instep, .int .i64 x.Heel, .int .i64 x.Pitch] 30)) := (Below.refl _ _).alloc (Nat.le_refl _) _
theorem l04One_c (x : Last) (w : World) (hn : x.Name.size ≤ 9223372036854775807) : Calls Tryz.prog 66 #[.agg #[.string x.Name, .int .i64 x.Length, .int .i64 x.Ball, .int .i64 x.Instep, .int .i64 x.Heel, .int .i64 x.Pitch]] w fun e w' => e = .returned (.bool (okLast x)) ∧ Below w.heap.size w w' := by
  obtain ⟨w1, hw1⟩ : ∃ w1, w1 = w.alloc (.cells #[.string x.Name, .int .i64 x.Length, .int .i64 x.Ball, .int .i64 x.Instep, .int .i64 x.Heel, .int .i64 x.Pitch] 30) := ⟨_, rfl⟩
  have hb := new_last w x
  obtain ⟨k0, k1, k2, k3, k4, k5⟩ := newLast_cells w 30 x
  rw [← hw1] at hb k0 k1 k2 k3 k4 k5
  replace hw1 := Lib.hid hw1
  have hf := l02Foot_c (lastFoot x)
  simp only [lastFoot] at hf
  replace hf := Lib.hid hf
  cases h1 : isName x.Name
  · have hff := Lib.hid (show okFoot ⟨x.Length, x.Ball, x.Instep, x.Heel⟩ = okFoot (lastFoot x) from rfl)
    have hb := hb
    go_enter Tryz.func66, Tryz.ntmps66
    go_wp2_with (first | rw [← hw1.out] | (go_at_call 53; refine (specIsName_c _ _ hn).mono ?_; rintro e w' ⟨rfl, rfl⟩) | (go_at_call 105; refine (l04Foot_c x _).mono ?_; rintro e w2 ⟨rfl, hb2⟩; replace k5 := kept_cell k5 hb2; replace hb := upw hb hb2; clear hb2) | (go_at_call 104; refine (hf.out _).mono ?_; rintro e w3 ⟨rfl, hb3⟩; rw [hff.out]; replace k5 := kept_cell k5 hb3; replace hb := upw hb hb3; clear hb3) | (go_at_call 69; refine (l00In_c _ _ _ _).mono ?_; rintro e w' ⟨rfl, rfl⟩))
    go_ret
    exact ⟨ret_bool (by simp [okLast, h1]), hb⟩
  · cases h2 : okFoot (lastFoot x)
    · have hff := Lib.hid (show okFoot ⟨x.Length, x.Ball, x.Instep, x.Heel⟩ = okFoot (lastFoot x) from rfl)
      have hb := hb
      go_enter Tryz.func66, Tryz.ntmps66
      go_wp2_with (first | rw [← hw1.out] | (go_at_call 53; refine (specIsName_c _ _ hn).mono ?_; rintro e w' ⟨rfl, rfl⟩) | (go_at_call 105; refine (l04Foot_c x _).mono ?_; rintro e w2 ⟨rfl, hb2⟩; replace k5 := kept_cell k5 hb2; replace hb := upw hb hb2; clear hb2) | (go_at_call 104; refine (hf.out _).mono ?_; rintro e w3 ⟨rfl, hb3⟩; rw [hff.out]; replace k5 := kept_cell k5 hb3; replace hb := upw hb hb3; clear hb3) | (go_at_call 69; refine (l00In_c _ _ _ _).mono ?_; rintro e w' ⟨rfl, rfl⟩))
      go_ret
      exact ⟨ret_bool (by simp [okLast, h1, h2]), hb⟩
    · cases h3 : inr x.Pitch 0 1000
      · have hff := Lib.hid (show okFoot ⟨x.Length, x.Ball, x.Instep, x.Heel⟩ = okFoot (lastFoot x) from rfl)
        have hb := hb
        go_enter Tryz.func66, Tryz.ntmps66
        go_wp2_with (first | rw [← hw1.out] | (go_at_call 53; refine (specIsName_c _ _ hn).mono ?_; rintro e w' ⟨rfl, rfl⟩) | (go_at_call 105; refine (l04Foot_c x _).mono ?_; rintro e w2 ⟨rfl, hb2⟩; replace k5 := kept_cell k5 hb2; replace hb := upw hb hb2; clear hb2) | (go_at_call 104; refine (hf.out _).mono ?_; rintro e w3 ⟨rfl, hb3⟩; rw [hff.out]; replace k5 := kept_cell k5 hb3; replace hb := upw hb hb3; clear hb3) | (go_at_call 69; refine (l00In_c _ _ _ _).mono ?_; rintro e w' ⟨rfl, rfl⟩))
        go_ret
        exact ⟨ret_bool (by simp [okLast, h1, h2, h3]), hb⟩
      · have hff := Lib.hid (show okFoot ⟨x.Length, x.Ball, x.Instep, x.Heel⟩ = okFoot (lastFoot x) from rfl)
        have hb := hb
        go_enter Tryz.func66, Tryz.ntmps66
        go_wp2_with (first | rw [← hw1.out] | (go_at_call 53; refine (specIsName_c _ _ hn).mono ?_; rintro e w' ⟨rfl, rfl⟩) | (go_at_call 105; refine (l04Foot_c x _).mono ?_; rintro e w2 ⟨rfl, hb2⟩; replace k5 := kept_cell k5 hb2; replace hb := upw hb hb2; clear hb2) | (go_at_call 104; refine (hf.out _).mono ?_; rintro e w3 ⟨rfl, hb3⟩; rw [hff.out]; replace k5 := kept_cell k5 hb3; replace hb := upw hb hb3; clear hb3) | (go_at_call 69; refine (l00In_c _ _ _ _).mono ?_; rintro e w' ⟨rfl, rfl⟩))
        go_ret
        exact ⟨ret_bool (by simp [okLast, h1, h2, h3]), hb⟩
theorem validLast_c (x : Last) (w : World) (hn : x.Name.size ≤ 9223372036854775807) : Calls Tryz.prog 42 #[.agg #[.string x.Name, .int .i64 x.Length, .int .i64 x.Ball, .int .i64 x.Instep, .int .i64 x.Heel, .int .i64 x.Pitch]] w fun e w' => e = .returned (.bool (okLast x)) ∧ Below w.heap.size w w' := by
  obtain ⟨w1, hw1⟩ : ∃ w1, w1 = w.alloc (.cells #[.string x.Name, .int .i64 x.Length, .int .i64 x.Ball, .int .i64 x.Instep, .int .i64 x.Heel, .int .i64 x.Pitch] 30) := ⟨_, rfl⟩
  have hb := new_last w x
  obtain ⟨k0, k1, k2, k3, k4, k5⟩ := newLast_cells w 30 x
  rw [← hw1] at hb k0 k1 k2 k3 k4 k5
  replace hw1 := Lib.hid hw1
  have hf := validFoot_c (lastFoot x)
  simp only [lastFoot] at hf
  replace hf := Lib.hid hf
  cases h1 : isName x.Name
  · have hff := Lib.hid (show okFoot ⟨x.Length, x.Ball, x.Instep, x.Heel⟩ = okFoot (lastFoot x) from rfl)
    have hb := hb
    go_enter Tryz.func42, Tryz.ntmps42
    go_wp2_with (first | rw [← hw1.out] | (go_at_call 55; refine (implIsName_c _ _ hn).mono ?_; rintro e w' ⟨rfl, rfl⟩) | (go_at_call 50; refine (lastFoot_c x _).mono ?_; rintro e w2 ⟨rfl, hb2⟩; replace k5 := kept_cell k5 hb2; replace hb := upw hb hb2; clear hb2) | (go_at_call 88; refine (hf.out _).mono ?_; rintro e w3 ⟨rfl, hb3⟩; rw [hff.out]; replace k5 := kept_cell k5 hb3; replace hb := upw hb hb3; clear hb3) | (go_at_call 64; refine (within_c _ _ _ _).mono ?_; rintro e w' ⟨rfl, rfl⟩))
    go_ret
    exact ⟨ret_bool (by simp [okLast, h1]), hb⟩
  · cases h2 : okFoot (lastFoot x)
    · have hff := Lib.hid (show okFoot ⟨x.Length, x.Ball, x.Instep, x.Heel⟩ = okFoot (lastFoot x) from rfl)
      have hb := hb
      go_enter Tryz.func42, Tryz.ntmps42
      go_wp2_with (first | rw [← hw1.out] | (go_at_call 55; refine (implIsName_c _ _ hn).mono ?_; rintro e w' ⟨rfl, rfl⟩) | (go_at_call 50; refine (lastFoot_c x _).mono ?_; rintro e w2 ⟨rfl, hb2⟩; replace k5 := kept_cell k5 hb2; replace hb := upw hb hb2; clear hb2) | (go_at_call 88; refine (hf.out _).mono ?_; rintro e w3 ⟨rfl, hb3⟩; rw [hff.out]; replace k5 := kept_cell k5 hb3; replace hb := upw hb hb3; clear hb3) | (go_at_call 64; refine (within_c _ _ _ _).mono ?_; rintro e w' ⟨rfl, rfl⟩))
      go_ret
      exact ⟨ret_bool (by simp [okLast, h1, h2]), hb⟩
    · cases h3 : inr x.Pitch 0 1000
      · have hff := Lib.hid (show okFoot ⟨x.Length, x.Ball, x.Instep, x.Heel⟩ = okFoot (lastFoot x) from rfl)
        have hb := hb
        go_enter Tryz.func42, Tryz.ntmps42
        go_wp2_with (first | rw [← hw1.out] | (go_at_call 55; refine (implIsName_c _ _ hn).mono ?_; rintro e w' ⟨rfl, rfl⟩) | (go_at_call 50; refine (lastFoot_c x _).mono ?_; rintro e w2 ⟨rfl, hb2⟩; replace k5 := kept_cell k5 hb2; replace hb := upw hb hb2; clear hb2) | (go_at_call 88; refine (hf.out _).mono ?_; rintro e w3 ⟨rfl, hb3⟩; rw [hff.out]; replace k5 := kept_cell k5 hb3; replace hb := upw hb hb3; clear hb3) | (go_at_call 64; refine (within_c _ _ _ _).mono ?_; rintro e w' ⟨rfl, rfl⟩))
        go_ret
        exact ⟨ret_bool (by simp [okLast, h1, h2, h3]), hb⟩
      · have hff := Lib.hid (show okFoot ⟨x.Length, x.Ball, x.Instep, x.Heel⟩ = okFoot (lastFoot x) from rfl)
        have hb := hb
        go_enter Tryz.func42, Tryz.ntmps42
        go_wp2_with (first | rw [← hw1.out] | (go_at_call 55; refine (implIsName_c _ _ hn).mono ?_; rintro e w' ⟨rfl, rfl⟩) | (go_at_call 50; refine (lastFoot_c x _).mono ?_; rintro e w2 ⟨rfl, hb2⟩; replace k5 := kept_cell k5 hb2; replace hb := upw hb hb2; clear hb2) | (go_at_call 88; refine (hf.out _).mono ?_; rintro e w3 ⟨rfl, hb3⟩; rw [hff.out]; replace k5 := kept_cell k5 hb3; replace hb := upw hb hb3; clear hb3) | (go_at_call 64; refine (within_c _ _ _ _).mono ?_; rintro e w' ⟨rfl, rfl⟩))
        go_ret
        exact ⟨ret_bool (by simp [okLast, h1, h2, h3]), hb⟩
end Go.Proofs.YtaeinllbjkjhlaaGreatDoor
