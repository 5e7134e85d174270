/- Chapter 10, pieces of hides: the contracts of the program's functions and of the reference's. -/
import Derived.Test.YtakjfpdcnfmffaaCut
import Derived.Test.YtakjfpdcnfmffaaNum
import Derived.Test.YtakjfpdcnfmffaaSearch
namespace Go.Proofs.Ytakjfpdcnfmffaa
open Go.RowKit

/-- A piece is valid. -/
def okCut (x : Cut) : Bool := inr x.Width 1 6 && inr x.Height 1 6 && inr x.Quality 1 3 && inr x.Worth 0 1000
/-- Pieces are valid. -/
def okCuts (xs : List Cut) : Bool := decide ((xs.length : Int) ≤ 4) && !xs.any fun x => !okCut x
theorem validCut_c (x : Cut) (w : World) : Calls Try.prog 54 #[.agg #[.int .i64 x.Width, .int .i64 x.Height, .int .i64 x.Quality, .int .i64 x.Worth]] w fun e w' => e = .returned (.bool (okCut x)) ∧ Below w.heap.size w w' := by
  cases h1 : inr x.Width 1 6
  · go_enter Try.func54, Try.ntmps54
    go_wp2_with (go_at_call 48; refine (within_c _ _ _ _).mono ?_; rintro e w' ⟨rfl, rfl⟩)
    go_ret
    exact ⟨ret_bool (by simp [okCut, h1]), (Below.refl _ _).alloc (by simp) _⟩
  · cases h2 : inr x.Height 1 6
    · go_enter Try.func54, Try.ntmps54
      go_wp2_with (go_at_call 48; refine (within_c _ _ _ _).mono ?_; rintro e w' ⟨rfl, rfl⟩)
      go_ret
      exact ⟨ret_bool (by simp [okCut, h1, h2]), (Below.refl _ _).alloc (by simp) _⟩
    · cases h3 : inr x.Quality 1 3
      · go_enter Try.func54, Try.ntmps54
        go_wp2_with (go_at_call 48; refine (within_c _ _ _ _).mono ?_; rintro e w' ⟨rfl, rfl⟩)
        go_ret
        exact ⟨ret_bool (by simp [okCut, h1, h2, h3]), (Below.refl _ _).alloc (by simp) _⟩
      · cases h4 : inr x.Worth 0 1000
        · go_enter Try.func54, Try.ntmps54
          go_wp2_with (go_at_call 48; refine (within_c _ _ _ _).mono ?_; rintro e w' ⟨rfl, rfl⟩)
          go_ret
          exact ⟨ret_bool (by simp [okCut, h1, h2, h3, h4]), (Below.refl _ _).alloc (by simp) _⟩
        · go_enter Try.func54, Try.ntmps54
          go_wp2_with (go_at_call 48; refine (within_c _ _ _ _).mono ?_; rintro e w' ⟨rfl, rfl⟩)
          go_ret
          exact ⟨ret_bool (by simp [okCut, h1, h2, h3, h4]), (Below.refl _ _).alloc (by simp) _⟩
theorem l10One_c (x : Cut) (w : World) : Calls Try.prog 71 #[.agg #[.int .i64 x.Width, .int .i64 x.Height, .int .i64 x.Quality, .int .i64 x.Worth]] w fun e w' => e = .returned (.bool (okCut x)) ∧ Below w.heap.size w w' := by
  cases h1 : inr x.Width 1 6
  · go_enter Try.func71, Try.ntmps71
    go_wp2_with (go_at_call 44; refine (l00In_c _ _ _ _).mono ?_; rintro e w' ⟨rfl, rfl⟩)
    go_ret
    exact ⟨ret_bool (by simp [okCut, h1]), (Below.refl _ _).alloc (by simp) _⟩
  · cases h2 : inr x.Height 1 6
    · go_enter Try.func71, Try.ntmps71
      go_wp2_with (go_at_call 44; refine (l00In_c _ _ _ _).mono ?_; rintro e w' ⟨rfl, rfl⟩)
      go_ret
      exact ⟨ret_bool (by simp [okCut, h1, h2]), (Below.refl _ _).alloc (by simp) _⟩
    · cases h3 : inr x.Quality 1 3
      · go_enter Try.func71, Try.ntmps71
        go_wp2_with (go_at_call 44; refine (l00In_c _ _ _ _).mono ?_; rintro e w' ⟨rfl, rfl⟩)
        go_ret
        exact ⟨ret_bool (by simp [okCut, h1, h2, h3]), (Below.refl _ _).alloc (by simp) _⟩
      · cases h4 : inr x.Worth 0 1000
        · go_enter Try.func71, Try.ntmps71
          go_wp2_with (go_at_call 44; refine (l00In_c _ _ _ _).mono ?_; rintro e w' ⟨rfl, rfl⟩)
          go_ret
          exact ⟨ret_bool (by simp [okCut, h1, h2, h3, h4]), (Below.refl _ _).alloc (by simp) _⟩
        · go_enter Try.func71, Try.ntmps71
          go_wp2_with (go_at_call 44; refine (l00In_c _ _ _ _).mono ?_; rintro e w' ⟨rfl, rfl⟩)
          go_ret
          exact ⟨ret_bool (by simp [okCut, h1, h2, h3, h4]), (Below.refl _ _).alloc (by simp) _⟩
theorem validCuts1_c (x : Cut) (w : World) : Calls Try.prog 53 #[.agg #[.int .i64 x.Width, .int .i64 x.Height, .int .i64 x.Quality, .int .i64 x.Worth]] w fun e w' => e = .returned (.bool (!okCut x)) ∧ Below w.heap.size w w' := by
  go_enter Try.func53, Try.ntmps53
  go_wp2_with fail
  refine (validCut_c x _).mono ?_
  rintro e w2 ⟨rfl, hb2⟩
  go_wp2_with fail
  go_ret
  exact ⟨rfl, upw ((Below.refl _ _).alloc (by simp) _) hb2⟩
theorem validCuts1_enters : Enters Try.prog 53 := enters_of Try.func53 (by kernel_rfl) (by kernel_rfl)
theorem implValidCuts_c (a : Option Addr) (xs : List Cut) (c : Nat) (w : World) (hx : At w a xs) (hl : xs.length ≤ 9223372036854775807) :
    Calls Try.prog 27 #[.slice a xs.length c] w fun e w' => e = .returned (.bool (okCuts xs)) ∧ Below w.heap.size w w' := by
  cases h1 : decide ((xs.length : Int) ≤ 4)
  · go_enter Try.func27, Try.ntmps27
    go_wp2_with fail
    go_ret
    exact ⟨ret_bool (by simp [okCuts]; simp at h1; omega), Below.refl _ _⟩
  · go_enter Try.func27, Try.ntmps27
    go_wp2_with fail
    refine (containsCuts_any _ xs _ _ _ (fun x => !okCut x) _ validCuts1_enters hx hl (fun x _ w' hb' => by simpa using validCuts1_c x w')).mono ?_
    rintro e w2 ⟨rfl, hb2⟩
    go_wp2_with fail
    go_ret
    exact ⟨ret_bool (by simp [okCuts, h1]), hb2⟩
theorem l10Cuts_c (a : Option Addr) (xs : List Cut) (c : Nat) (w : World) (hx : At w a xs) (hl : xs.length ≤ 9223372036854775807) :
    Calls Try.prog 50 #[.slice a xs.length c] w fun e w' => e = .returned (.bool (okCuts xs)) ∧ Below w.heap.size w w' := by
  go_enter Try.func50, Try.ntmps50
  go_wp2
  go_loopw [3] (fun i wr => ∃ k : Nat, k ≤ xs.length ∧ i = .int .i64 k ∧ Nosofar (fun x => !okCut x) xs k ∧ Below w.heap.size w wr) (fun i _ => xs.length - (intOf i).toNat)
  case atStart => exact ⟨0, Nat.zero_le _, rfl, nosofar_zero, Below.refl _ _⟩
  case round =>
    obtain ⟨k, hk, rfl, hs, hb⟩ := hrel
    have HS := Lib.hid hs
    clear hs
    replace hx := hx.below hb
    by_cases hlt : k < xs.length
    · obtain ⟨b, off, rfl⟩ := hx.addr hlt
      obtain ⟨c0, c1, c2, c3⟩ := hx.cut hlt
      cases hp : okCut xs[k]
      · go_wp2_with fail
        refine (l10One_c xs[k] _).mono ?_
        rintro e w2 ⟨rfl, hb2⟩
        replace hb := upw hb hb2
        go_wp2_with fail
        go_ret
        exact ⟨ret_bool (by simp [okCuts]; intro _; exact ⟨_, List.getElem_mem hlt, hp⟩), hb⟩
      · go_wp2_with fail
        refine (l10One_c xs[k] _).mono ?_
        rintro e w2 ⟨rfl, hb2⟩
        replace hb := upw hb hb2
        go_wp2_with fail
        go_roundw
        case rel => exact ⟨k + 1, by omega, by go_num, nosofar_succ (hk := hlt) HS.out (by simp [hp]), hb⟩
        case measure => simp [intOf]; omega
    · go_wp2_with fail
      go_ret
      exact ⟨ret_bool (by simp only [okCuts, nosofar_any HS.out (show xs.length ≤ k by omega)]; simp), hb⟩
theorem specValidCuts_c (a : Option Addr) (xs : List Cut) (c : Nat) (w : World) (hx : At w a xs) (hl : xs.length ≤ 9223372036854775807) :
    Calls Try.prog 25 #[.slice a xs.length c] w fun e w' => e = .returned (.bool (okCuts xs)) ∧ Below w.heap.size w w' := by
  have hb := Below.refl w.heap.size w
  go_enter Try.func25, Try.ntmps25
  go_wp2_with fail
  refine (l10Cuts_c _ _ _ _ hx hl).mono ?_
  rintro e w2 ⟨rfl, hb2⟩
  replace hb := upw hb hb2
  go_wp2_with fail
  go_ret
  exact ⟨rfl, hb⟩
end Go.Proofs.Ytakjfpdcnfmffaa
