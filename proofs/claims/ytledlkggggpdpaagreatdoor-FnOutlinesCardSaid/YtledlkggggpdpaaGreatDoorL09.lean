/- Chapter 9, edges and allowances: the contracts of the program's functions and of the reference's. -/
import Derived.Test.YtledlkggggpdpaaGreatDoorStrip
import Derived.Test.YtledlkggggpdpaaGreatDoorNum
import Derived.Test.YtledlkggggpdpaaGreatDoorSearch
namespace Go.Proofs.YtledlkggggpdpaaGreatDoor
open Go.RowKit

/-- A list has a number that is not in a range. -/
def outs (xs : List Int) (lo hi : Int) : Bool := xs.any fun n => !inr n lo hi
theorem outs_false {xs : List Int} {lo hi : Int} : outs xs lo hi = false ↔ ∀ x ∈ xs, lo ≤ x ∧ x ≤ hi := by
  simp [outs, inr]
theorem outside1_c (n lo hi : Int) (p q : Addr) (w : World) (h1 : w.cell? p = some (.int .i64 lo)) (h2 : w.cell? q = some (.int .i64 hi)) :
    Calls Tryz.prog 212 #[.int .i64 n, .pointer (some p), .pointer (some q)] w fun e w' => e = .returned (.bool (!inr n lo hi)) ∧ w = w' := by
  go_enter Tryz.func212, Tryz.ntmps212
  go_wp2_with fail
  refine (within_c _ _ _ _).mono ?_
  rintro e w' ⟨rfl, rfl⟩
  go_wp2_with fail
  go_ret
  exact ⟨rfl, rfl⟩
theorem outside1_enters : Enters Tryz.prog 212 := enters_of Tryz.func212 (by kernel_rfl) (by kernel_rfl)
theorem outside_c (a : Option Addr) (xs : List Int) (c : Nat) (lo hi : Int) (w : World) (hx : At w a xs) (hl : xs.length ≤ 9223372036854775807) :
    Calls Tryz.prog 163 #[.slice a xs.length c, .int .i64 lo, .int .i64 hi] w fun e w' => e = .returned (.bool (outs xs lo hi)) ∧ Below w.heap.size w w' := by
  have hb0 : Below w.heap.size w ((w.alloc (.cells #[.int .i64 lo] 2)).alloc (.cells #[.int .i64 hi] 2)) := ((Below.refl _ _).alloc (by simp) _).alloc (by simp) _
  go_enter Tryz.func163, Tryz.ntmps163
  go_wp2_with fail
  refine (containsInts_any _ xs _ _ _ (fun n => !inr n lo hi) _ outside1_enters (hx.below hb0) hl (fun x _ w' hb' => ?_)).mono ?_
  · have e1 : w'.cell? ⟨w.heap.size, 0, none⟩ = some (.int .i64 lo) := by rw [hb'.cell (p := ⟨w.heap.size, 0, none⟩) (by simp; omega)]; go_simp
    have e2 : w'.cell? ⟨w.heap.size + 1, 0, none⟩ = some (.int .i64 hi) := by rw [hb'.cell (p := ⟨w.heap.size + 1, 0, none⟩) (by simp)]; go_simp
    exact Calls.grown_same (by simpa using outside1_c x lo hi _ _ w' e1 e2)
  rintro e w2 ⟨rfl, hb2⟩
  go_wp2_with fail
  go_ret
  exact ⟨rfl, upw hb0 hb2⟩
/-- A strip is valid. -/
def okStrip (x : Strip) : Bool := inr x.Length 1 5000 && inr x.Allow 0 200 && inr x.Left 0 200 && inr x.Right 0 200
theorem validStrip_c (x : Strip) (w : World) : Calls Tryz.prog 122 #[.agg #[.int .i64 x.Length, .int .i64 x.Allow, .int .i64 x.Left, .int .i64 x.Right]] w fun e w' => e = .returned (.bool (okStrip x)) ∧ Below w.heap.size w w' := by
  cases h1 : inr x.Length 1 5000
  · go_enter Tryz.func122, Tryz.ntmps122
    go_wp2_with (go_at_call 113; refine (within_c _ _ _ _).mono ?_; rintro e w' ⟨rfl, rfl⟩)
    go_ret
    exact ⟨ret_bool (by simp [okStrip, h1]), (Below.refl _ _).alloc (by simp) _⟩
  · cases h2 : inr x.Allow 0 200
    · go_enter Tryz.func122, Tryz.ntmps122
      go_wp2_with (go_at_call 113; refine (within_c _ _ _ _).mono ?_; rintro e w' ⟨rfl, rfl⟩)
      go_ret
      exact ⟨ret_bool (by simp [okStrip, h1, h2]), (Below.refl _ _).alloc (by simp) _⟩
    · cases h3 : inr x.Left 0 200
      · go_enter Tryz.func122, Tryz.ntmps122
        go_wp2_with (go_at_call 113; refine (within_c _ _ _ _).mono ?_; rintro e w' ⟨rfl, rfl⟩)
        go_ret
        exact ⟨ret_bool (by simp [okStrip, h1, h2, h3]), (Below.refl _ _).alloc (by simp) _⟩
      · cases h4 : inr x.Right 0 200
        · go_enter Tryz.func122, Tryz.ntmps122
          go_wp2_with (go_at_call 113; refine (within_c _ _ _ _).mono ?_; rintro e w' ⟨rfl, rfl⟩)
          go_ret
          exact ⟨ret_bool (by simp [okStrip, h1, h2, h3, h4]), (Below.refl _ _).alloc (by simp) _⟩
        · go_enter Tryz.func122, Tryz.ntmps122
          go_wp2_with (go_at_call 113; refine (within_c _ _ _ _).mono ?_; rintro e w' ⟨rfl, rfl⟩)
          go_ret
          exact ⟨ret_bool (by simp [okStrip, h1, h2, h3, h4]), (Below.refl _ _).alloc (by simp) _⟩
theorem validStrips1_c (x : Strip) (w : World) : Calls Tryz.prog 135 #[.agg #[.int .i64 x.Length, .int .i64 x.Allow, .int .i64 x.Left, .int .i64 x.Right]] w fun e w' => e = .returned (.bool (!okStrip x)) ∧ Below w.heap.size w w' := by
  go_enter Tryz.func135, Tryz.ntmps135
  go_wp2_with fail
  refine (validStrip_c x _).mono ?_
  rintro e w2 ⟨rfl, hb2⟩
  go_wp2_with fail
  go_ret
  exact ⟨rfl, upw ((Below.refl _ _).alloc (by simp) _) hb2⟩
theorem validStrips1_enters : Enters Tryz.prog 135 := enters_of Tryz.func135 (by kernel_rfl) (by kernel_rfl)
/-- Edges are valid. -/
def okStrips (xs : List Strip) : Bool := inr xs.length 3 12 && !xs.any fun x => !okStrip x
theorem okStrips_iff {xs : List Strip} : okStrips xs = true ↔ (3 ≤ xs.length ∧ xs.length ≤ 12) ∧ ∀ x ∈ xs, okStrip x = true := by
  simp [okStrips, inr]; omega
theorem implValidStrips_c (a : Option Addr) (xs : List Strip) (c : Nat) (w : World) (hx : At w a xs) (hl : xs.length ≤ 9223372036854775807) :
    Calls Tryz.prog 39 #[.slice a xs.length c] w fun e w' => e = .returned (.bool (okStrips xs)) ∧ Below w.heap.size w w' := by
  cases h1 : inr xs.length 3 12
  · go_enter Tryz.func39, Tryz.ntmps39
    go_wp2_with fail
    refine (within_c _ _ _ _).mono ?_
    rintro e w' ⟨rfl, rfl⟩
    go_wp2_with fail
    go_ret
    exact ⟨ret_bool (by simp [okStrips, h1]), Below.refl _ _⟩
  · go_enter Tryz.func39, Tryz.ntmps39
    go_wp2_with fail
    refine (within_c _ _ _ _).mono ?_
    rintro e w' ⟨rfl, rfl⟩
    go_wp2_with fail
    refine (containsStrips_any _ xs _ _ _ (fun x => !okStrip x) _ validStrips1_enters hx hl (fun x _ w' hb' => by simpa using validStrips1_c x w')).mono ?_
    rintro e w2 ⟨rfl, hb2⟩
    go_wp2_with fail
    go_ret
    exact ⟨ret_bool (by simp [okStrips, h1]), hb2⟩
theorem l09Allow_c (n : Int) (w : World) : Calls Tryz.prog 117 #[.int .i64 n] w fun e w' => e = .returned (.bool (inr n 0 200)) ∧ w = w' := by
  go_enter Tryz.func117, Tryz.ntmps117
  go_wp2_with fail
  refine (l00In_c _ _ _ _).mono ?_
  rintro e w' ⟨rfl, rfl⟩
  go_wp2_with fail
  go_ret
  exact ⟨rfl, rfl⟩
theorem l09One_c (x : Strip) (b off : Nat) (w : World) (c0 : w.cell? ⟨b, off, none⟩ = some (.int .i64 x.Length)) (c1 : w.cell? ⟨b, off + 1, none⟩ = some (.int .i64 x.Allow)) (c2 : w.cell? ⟨b, off + 2, none⟩ = some (.int .i64 x.Left)) (c3 : w.cell? ⟨b, off + 3, none⟩ = some (.int .i64 x.Right)) :
    Calls Tryz.prog 131 #[.pointer (some ⟨b, off, none⟩)] w fun e w' => e = .returned (.bool (okStrip x)) ∧ w = w' := by
  cases h1 : inr x.Length 1 5000
  · go_enter Tryz.func131, Tryz.ntmps131
    go_wp2_with (first | (go_at_call 116; refine (l00In_c _ _ _ _).mono ?_; rintro e w' ⟨rfl, rfl⟩) | (go_at_call 117; refine (l09Allow_c _ _).mono ?_; rintro e w' ⟨rfl, rfl⟩))
    go_ret
    exact ⟨ret_bool (by simp [okStrip, h1]), rfl⟩
  · cases h2 : inr x.Allow 0 200
    · go_enter Tryz.func131, Tryz.ntmps131
      go_wp2_with (first | (go_at_call 116; refine (l00In_c _ _ _ _).mono ?_; rintro e w' ⟨rfl, rfl⟩) | (go_at_call 117; refine (l09Allow_c _ _).mono ?_; rintro e w' ⟨rfl, rfl⟩))
      go_ret
      exact ⟨ret_bool (by simp [okStrip, h1, h2]), rfl⟩
    · cases h3 : inr x.Left 0 200
      · go_enter Tryz.func131, Tryz.ntmps131
        go_wp2_with (first | (go_at_call 116; refine (l00In_c _ _ _ _).mono ?_; rintro e w' ⟨rfl, rfl⟩) | (go_at_call 117; refine (l09Allow_c _ _).mono ?_; rintro e w' ⟨rfl, rfl⟩))
        go_ret
        exact ⟨ret_bool (by simp [okStrip, h1, h2, h3]), rfl⟩
      · cases h4 : inr x.Right 0 200
        · go_enter Tryz.func131, Tryz.ntmps131
          go_wp2_with (first | (go_at_call 116; refine (l00In_c _ _ _ _).mono ?_; rintro e w' ⟨rfl, rfl⟩) | (go_at_call 117; refine (l09Allow_c _ _).mono ?_; rintro e w' ⟨rfl, rfl⟩))
          go_ret
          exact ⟨ret_bool (by simp [okStrip, h1, h2, h3, h4]), rfl⟩
        · go_enter Tryz.func131, Tryz.ntmps131
          go_wp2_with (first | (go_at_call 116; refine (l00In_c _ _ _ _).mono ?_; rintro e w' ⟨rfl, rfl⟩) | (go_at_call 117; refine (l09Allow_c _ _).mono ?_; rintro e w' ⟨rfl, rfl⟩))
          go_ret
          exact ⟨ret_bool (by simp [okStrip, h1, h2, h3, h4]), rfl⟩
theorem l09Ok_c (a : Option Addr) (xs : List Strip) (c : Nat) (w : World) (hx : At w a xs) (hl : xs.length ≤ 9223372036854775807) :
    Calls Tryz.prog 115 #[.slice a xs.length c] w fun e w' => e = .returned (.bool (okStrips xs)) ∧ w = w' := by
  go_enter Tryz.func115, Tryz.ntmps115
  go_wp2
  go_loop [3] (fun i => ∃ k : Nat, k ≤ xs.length ∧ i = .int .i64 k ∧ Nosofar (fun x => !okStrip x) xs k) (fun i => xs.length - (intOf i).toNat)
  case atStart => exact ⟨0, Nat.zero_le _, rfl, nosofar_zero⟩
  case round =>
    obtain ⟨k, hk, rfl, hs⟩ := hrel
    have HS := Lib.hid hs
    clear hs
    by_cases hlt : k < xs.length
    · obtain ⟨b, off, rfl⟩ := hx.addr hlt
      obtain ⟨c0, c1, c2, c3⟩ := hx.strip hlt
      cases hp : okStrip xs[k]
      · go_wp2_with fail
        refine (l09One_c xs[k] b _ _ c0 c1 c2 c3).mono ?_
        rintro e w' ⟨rfl, rfl⟩
        go_wp2_with fail
        go_ret
        exact ⟨ret_bool (by simp [okStrips]; intro _; exact ⟨_, List.getElem_mem hlt, hp⟩), rfl⟩
      · go_wp2_with fail
        refine (l09One_c xs[k] b _ _ c0 c1 c2 c3).mono ?_
        rintro e w' ⟨rfl, rfl⟩
        go_wp2_with fail
        go_round
        case rel => exact ⟨k + 1, by omega, by go_num, nosofar_succ (hk := hlt) HS.out (by simp [hp])⟩
        case measure => simp [intOf]; omega
    · go_wp2_with fail
      refine (l00In_c _ _ _ _).mono ?_
      rintro e w' ⟨rfl, rfl⟩
      go_wp2_with fail
      go_ret
      exact ⟨ret_bool (by simp only [okStrips, nosofar_any HS.out (show xs.length ≤ k by omega)]; simp), rfl⟩
theorem specValidStrips_c (a : Option Addr) (xs : List Strip) (c : Nat) (w : World) (hx : At w a xs) (hl : xs.length ≤ 9223372036854775807) :
    Calls Tryz.prog 40 #[.slice a xs.length c] w fun e w' => e = .returned (.bool (okStrips xs)) ∧ Below w.heap.size w w' := by
  go_enter Tryz.func40, Tryz.ntmps40
  go_wp2_with fail
  refine (l09Ok_c _ _ _ _ hx hl).mono ?_
  rintro e w' ⟨rfl, rfl⟩
  go_wp2_with fail
  go_ret
  exact ⟨rfl, Below.refl _ _⟩
/-- What is left of a length behind folds. -/
def foldLeft (n : Int) (xs : List Int) (t : Int) : Int := n - sumI xs - t * xs.length
def foldOk (n : Int) (xs : List Int) (t : Int) : Bool := inr n 1 5000 && decide (xs.length ≤ 10) && !outs xs 0 200 && inr t 0 100
def foldRes (n : Int) (xs : List Int) (t : Int) : Int × Int := if foldOk n xs t then (if foldLeft n xs t < 1 then (0, 6) else (foldLeft n xs t, 0)) else (0, 2)
theorem foldRes_small {n : Int} {xs : List Int} {t : Int} (h : foldOk n xs t = true) (h5 : foldLeft n xs t < 1) : foldRes n xs t = (0, 6) := by simp [foldRes, h, h5]
theorem foldRes_big {n : Int} {xs : List Int} {t : Int} (h : foldOk n xs t = true) (h5 : ¬ foldLeft n xs t < 1) : foldRes n xs t = (n - sumI xs - t * xs.length, 0) := by rw [foldRes, if_pos h, if_neg h5]; rfl
theorem sum_fold {xs : List Int} (h : outs xs 0 200 = false) (k : Nat) : 0 ≤ sumI (xs.take k) ∧ sumI (xs.take k) ≤ 200 * xs.length := by
  have h1 : ∀ x ∈ xs, 0 ≤ x ∧ x ≤ 200 := outs_false.1 h
  have h2 : ∀ ys : List Int, (∀ y ∈ ys, 0 ≤ y ∧ y ≤ 200) → 0 ≤ sumI ys ∧ sumI ys ≤ 200 * ys.length := by
    intro ys
    induction ys with
    | nil => intro _; simp [sumI_nil]
    | cons y ys ih =>
      intro hy
      have := ih (fun z hz => hy z (by simp [hz]))
      have := hy y (by simp)
      rw [sumI_cons, List.length_cons]; omega
  have h3 := h2 (xs.take k) (fun y hy => h1 y (List.mem_of_mem_take hy))
  have h4 : (xs.take k).length ≤ xs.length := List.length_take_le' _ _
  omega
end Go.Proofs.YtledlkggggpdpaaGreatDoor
