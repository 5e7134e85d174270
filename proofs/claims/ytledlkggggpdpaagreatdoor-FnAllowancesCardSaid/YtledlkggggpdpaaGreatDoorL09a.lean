/- Chapter 9, an allowance that is given to an edge: the contracts of the program's function and of the reference's. -/
import Derived.Test.YtledlkggggpdpaaGreatDoorL09m
namespace Go.Proofs.YtledlkggggpdpaaGreatDoor
open Go.RowKit

def allowOk (xs : List Strip) (k m : Int) : Bool := inr k 0 ((xs.length : Int) - 1) && inr m 0 200
def setAllow (xs : List Strip) (n : Nat) (m : Int) : List Strip := xs.set n ⟨(xs.getD n ⟨0, 0, 0, 0⟩).Length, m, (xs.getD n ⟨0, 0, 0, 0⟩).Left, (xs.getD n ⟨0, 0, 0, 0⟩).Right⟩
def addAllow (xs : List Strip) (k m : Int) : List Strip := if okStrips xs && allowOk xs k m then setAllow xs k.toNat m else []
def addAllowCode (xs : List Strip) (k m : Int) : Int := if okStrips xs then (if allowOk xs k m then 0 else 2) else 1
theorem AddAllow_len (xs : List Strip) (k m : Int) : (addAllow xs k m).length ≤ 12 := by
  unfold addAllow
  split
  · rename_i h
    simp only [Bool.and_eq_true] at h
    have := (okStrips_iff.1 h.1).1
    simp [setAllow]; omega
  · simp
set_option maxHeartbeats 2000000 in
theorem implAddAllow_c (a : Option Addr) (xs : List Strip) (c : Nat) (k m : Int) (w : World) (hx : At w a xs) (hl : xs.length ≤ 9223372036854775807) (_hk : -9223372036854775808 ≤ k ∧ k ≤ 9223372036854775807) (_hm : -9223372036854775808 ≤ m ∧ m ≤ 9223372036854775807) :
    Calls Tryz.prog 20 #[.slice a xs.length c, .int .i64 k, .int .i64 m] w fun e w' => ∃ v, e = .returned (.tuple #[v, .int .i64 (addAllowCode xs k m)]) ∧ Own w.heap.size w' 54 v (addAllow xs k m) ∧ Below w.heap.size w w' := by
  have hb := Below.refl w.heap.size w
  cases h1 : okStrips xs
  · have hr : addAllowCode xs k m = 1 := by simp [addAllowCode, h1]
    have hr' : addAllow xs k m = [] := by simp [addAllow, h1]
    rw [hr, hr']
    go_enter Tryz.func20, Tryz.ntmps20
    go_wp2_with fail
    refine (implValidStrips_c _ _ _ _ hx hl).mono ?_
    rintro e w2 ⟨rfl, hb2⟩
    replace hb := upw hb hb2
    go_wp2_with fail
    go_ret2
    exact ⟨_, rfl, World.ownsRow_nil _ _ _ _, hb⟩
  · have hlen := (okStrips_iff.1 h1).1
    cases h2 : inr k 0 ((xs.length : Int) - 1)
    · have hr : addAllowCode xs k m = 2 := by simp [addAllowCode, allowOk, h1, h2]
      have hr' : addAllow xs k m = [] := by simp [addAllow, allowOk, h1, h2]
      rw [hr, hr']
      go_enter Tryz.func20, Tryz.ntmps20
      go_wp2_with fail
      refine (implValidStrips_c _ _ _ _ hx hl).mono ?_
      rintro e w2 ⟨rfl, hb2⟩
      replace hb := upw hb hb2
      go_wp2_with (go_at_call 113; refine (within_c _ _ _ _).mono ?_; rintro e w' ⟨rfl, rfl⟩)
      go_ret2
      exact ⟨_, rfl, World.ownsRow_nil _ _ _ _, hb⟩
    · cases h3 : inr m 0 200
      · have hr : addAllowCode xs k m = 2 := by simp [addAllowCode, allowOk, h1, h2, h3]
        have hr' : addAllow xs k m = [] := by simp [addAllow, allowOk, h1, h2, h3]
        rw [hr, hr']
        go_enter Tryz.func20, Tryz.ntmps20
        go_wp2_with fail
        refine (implValidStrips_c _ _ _ _ hx hl).mono ?_
        rintro e w2 ⟨rfl, hb2⟩
        replace hb := upw hb hb2
        go_wp2_with (go_at_call 113; refine (within_c _ _ _ _).mono ?_; rintro e w' ⟨rfl, rfl⟩)
        go_ret2
        exact ⟨_, rfl, World.ownsRow_nil _ _ _ _, hb⟩
      · have hr : addAllowCode xs k m = 0 := by simp [addAllowCode, allowOk, h1, h2, h3]
        have hr' : addAllow xs k m = setAllow xs k.toNat m := by simp [addAllow, allowOk, h1, h2, h3]
        have h2' := inr_true.1 h2
        rw [hr, hr']
        clear hr hr'
        obtain ⟨n, rfl⟩ := Int.eq_ofNat_of_zero_le h2'.1
        rw [Int.toNat_natCast]
        have hlt : n < xs.length := by omega
        have hsn : a = none → c = 0 := fun e => by
          obtain ⟨b, off, h⟩ := hx.addr hlt
          rw [e] at h; cases h
        go_enter Tryz.func20, Tryz.ntmps20
        go_wp2_with fail
        refine (implValidStrips_c _ _ _ _ hx hl).mono ?_
        rintro e w2 ⟨rfl, hb2⟩
        replace hb := upw hb hb2
        go_wp2_with (go_at_call 113; refine (within_c _ _ _ _).mono ?_; rintro e w' ⟨rfl, rfl⟩)
        refine (cloneStrips_any _ _ _ _ (hx.below hb) (by omega) hsn).mono ?_
        rintro e w3 ⟨v3, rfl, hO3, hb3⟩
        replace hb := upw hb hb3
        rcases hO3.cases with ⟨rfl, he⟩ | ⟨g, cap, rfl⟩
        · subst he; simp at hlt
        · have hO4 : Own w2.heap.size w3 54 (.slice (some ⟨g, 0, none⟩) xs.length cap) (xs.set n xs[n]) := by rw [List.set_getElem_self]; exact hO3
          go_wp2_with (refine wpList_store_field rfl 2 (.tmp 31) (.tmp 29) rfl w2.heap.size 54 _ _ _ xs n _ 1 xs[n] (⟨xs[n].Length, m, xs[n].Left, xs[n].Right⟩ : Strip) _ rfl (by simp [Flat.k]) (by decide) rfl rfl rfl (by kernel_rfl) rfl hO4 hlt ?_; intro w5 hO5 hg5)
          go_ret2
          exact ⟨_, rfl, by unfold setAllow; simp only [List.getD_eq_getElem?_getD, List.getElem?_eq_getElem hlt, Option.getD_some]; exact hO5.base hb2.size, below_mark hb hO3 hb2.size hg5⟩
set_option maxHeartbeats 2000000 in
theorem specAddAllow_c (a : Option Addr) (xs : List Strip) (c : Nat) (k m : Int) (w : World) (hx : At w a xs) (hl : xs.length ≤ 9223372036854775807) (_hk : -9223372036854775808 ≤ k ∧ k ≤ 9223372036854775807) (_hm : -9223372036854775808 ≤ m ∧ m ≤ 9223372036854775807) :
    Calls Tryz.prog 21 #[.slice a xs.length c, .int .i64 k, .int .i64 m] w fun e w' => ∃ v, e = .returned (.tuple #[v, .int .i64 (addAllowCode xs k m)]) ∧ Own w.heap.size w' 54 v (addAllow xs k m) ∧ Below w.heap.size w w' := by
  have hb := Below.refl w.heap.size w
  cases h1 : okStrips xs
  · have hr : addAllowCode xs k m = 1 := by simp [addAllowCode, h1]
    have hr' : addAllow xs k m = [] := by simp [addAllow, h1]
    rw [hr, hr']
    go_enter Tryz.func21, Tryz.ntmps21
    go_wp2_with fail
    refine (l09Ok_c _ _ _ _ hx hl).mono ?_
    rintro e w' ⟨rfl, rfl⟩
    go_wp2_with fail
    go_ret2
    exact ⟨_, rfl, World.ownsRow_nil _ _ _ _, hb⟩
  · have hlen := (okStrips_iff.1 h1).1
    cases h2 : inr k 0 ((xs.length : Int) - 1)
    · have hr : addAllowCode xs k m = 2 := by simp [addAllowCode, allowOk, h1, h2]
      have hr' : addAllow xs k m = [] := by simp [addAllow, allowOk, h1, h2]
      rw [hr, hr']
      go_enter Tryz.func21, Tryz.ntmps21
      go_wp2_with fail
      refine (l09Ok_c _ _ _ _ hx hl).mono ?_
      rintro e w' ⟨rfl, rfl⟩
      go_wp2_with (first | (go_at_call 116; refine (l00In_c _ _ _ _).mono ?_; rintro e w' ⟨rfl, rfl⟩) | (go_at_call 117; refine (l09Allow_c _ _).mono ?_; rintro e w' ⟨rfl, rfl⟩))
      go_ret2
      exact ⟨_, rfl, World.ownsRow_nil _ _ _ _, hb⟩
    · cases h3 : inr m 0 200
      · have hr : addAllowCode xs k m = 2 := by simp [addAllowCode, allowOk, h1, h2, h3]
        have hr' : addAllow xs k m = [] := by simp [addAllow, allowOk, h1, h2, h3]
        rw [hr, hr']
        go_enter Tryz.func21, Tryz.ntmps21
        go_wp2_with fail
        refine (l09Ok_c _ _ _ _ hx hl).mono ?_
        rintro e w' ⟨rfl, rfl⟩
        go_wp2_with (first | (go_at_call 116; refine (l00In_c _ _ _ _).mono ?_; rintro e w' ⟨rfl, rfl⟩) | (go_at_call 117; refine (l09Allow_c _ _).mono ?_; rintro e w' ⟨rfl, rfl⟩))
        go_ret2
        exact ⟨_, rfl, World.ownsRow_nil _ _ _ _, hb⟩
      · have hr : addAllowCode xs k m = 0 := by simp [addAllowCode, allowOk, h1, h2, h3]
        have hr' : addAllow xs k m = setAllow xs k.toNat m := by simp [addAllow, allowOk, h1, h2, h3]
        have h2' := inr_true.1 h2
        rw [hr, hr']
        clear hr hr'
        obtain ⟨n, rfl⟩ := Int.eq_ofNat_of_zero_le h2'.1
        rw [Int.toNat_natCast]
        have hlt : n < xs.length := by omega
        obtain ⟨b, off, rfl⟩ := hx.addr hlt
        go_enter Tryz.func21, Tryz.ntmps21
        go_wp2_with fail
        refine (l09Ok_c _ _ _ _ hx hl).mono ?_
        rintro e w' ⟨rfl, rfl⟩
        go_wp2_with (first | (go_at_call 116; refine (l00In_c _ _ _ _).mono ?_; rintro e w' ⟨rfl, rfl⟩) | (go_at_call 117; refine (l09Allow_c _ _).mono ?_; rintro e w' ⟨rfl, rfl⟩) | (at_builtin; refine wpList_pushall rfl (.tmp 24) (.tmp 25) 41 rfl w.heap.size 54 (.agg #[.int .i64 0, .int .i64 0, .int .i64 0, .int .i64 0]) 32 Tryz.underlying41 infoStrip rfl _ [] xs rfl (own_new _ _) _ _ rfl (fun h => by cases h) (hx.below ((Below.refl _ _).alloc (Nat.le_refl _) _)) (by simp; omega) (by decide) (by simp) ?_; intro v3 w3 hO3 hg3; simp only [List.nil_append] at hO3; have hb3 : Below w.heap.size w w3 := (hb.alloc (Nat.le_refl _) _).grown hg3 (by simp) (fun k hk => by have : w.heap.size = k := Option.some.inj hk; omega); clear hg3; obtain ⟨g, cap, rfl⟩ := hO3.row (by omega); have hc := hO3.at'.strip hlt; simp only [Nat.zero_add] at hc; obtain ⟨c0, c1, c2, c3⟩ := hc) | (refine wpList_store_own rfl 54 (.tmp 36) (.tmp 35) rfl w.heap.size 54 _ _ _ xs n _ (⟨xs[n].Length, m, xs[n].Left, xs[n].Right⟩ : Strip) rfl (by simp [Flat.k]) rfl (by kernel_rfl) rfl (hO3.later ((Below.refl _ _).alloc (Nat.le_refl _) _)) hlt ?_; intro w5 hO5 hg5))
        go_ret2
        exact ⟨_, rfl, by unfold setAllow; simp only [List.getD_eq_getElem?_getD, List.getElem?_eq_getElem hlt, Option.getD_some]; exact hO5, below_mark (hb3.alloc hb3.size _) (hO3.later ((Below.refl _ _).alloc (Nat.le_refl _) _)) (Nat.le_refl _) hg5⟩
end Go.Proofs.YtledlkggggpdpaaGreatDoor
