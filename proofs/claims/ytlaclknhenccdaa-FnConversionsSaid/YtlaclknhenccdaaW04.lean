/- Chapter 3, the least width that is wide enough: the program's and the reference's. -/
import Derived.Test.YtlaclknhenccdaaW03
namespace Go.Proofs.Ytlaclknhenccdaa
open Go.RowKit

def wfOk (h g : Int) : Bool := inr h 0 120 && inr g 0 5000
def wfAt (x : Foot) (h g : Int) (k : Nat) : Bool := decide (g ≤ girthN x h k)
def wfRes (x : Foot) (h g : Int) : Int × Int := if okWid x then (if wfOk h g then (if firstAt x.Heel.toNat (wfAt x h g) = -1 then (0, 10) else (firstAt x.Heel.toNat (wfAt x h g), 0)) else (0, 2)) else (0, 1)
theorem wfRes_some {x : Foot} {h g : Int} (h1 : okWid x = true) (h2 : inr h 0 120 = true) (h3 : inr g 0 5000 = true) {k : Nat} (hk : k < x.Heel.toNat) (hn : Noneyet (wfAt x h g) k) (hp : wfAt x h g k = true) : wfRes x h g = ((k : Int), 0) := by
  have e := firstAt_some hk hn hp
  have e' : ¬ ((k : Int) = -1) := by omega
  simp [wfRes, wfOk, h1, h2, h3, e, e']
theorem wfRes_none {x : Foot} {h g : Int} (h1 : okWid x = true) (h2 : inr h 0 120 = true) (h3 : inr g 0 5000 = true) (hn : Noneyet (wfAt x h g) x.Heel.toNat) : wfRes x h g = (0, 10) := by
  have e := firstAt_none (Nat.le_refl _) hn
  simp [wfRes, wfOk, h1, h2, h3, e]
/-- What the law asks of it. -/
theorem wf_law {x : Foot} {h g : Int} (e : (wfRes x h g).2 = 0) : ∃ k : Nat, (wfRes x h g).1 = k ∧ okWid x = true ∧ (0 ≤ h ∧ h ≤ 120) ∧ (k : Int) < x.Heel ∧ g ≤ girthN x h k ∧ ∀ j : Nat, j < k → girthN x h j < g := by
  cases h1 : okWid x
  · simp [wfRes, h1] at e
  · cases h2 : inr h 0 120
    · simp [wfRes, wfOk, h1, h2] at e
    · cases h3 : inr g 0 5000
      · simp [wfRes, wfOk, h1, h3] at e
      · by_cases hany : ∃ k, k < x.Heel.toNat ∧ wfAt x h g k = true ∧ Noneyet (wfAt x h g) k
        · obtain ⟨k, hk, hp, hn⟩ := hany
          refine ⟨k, by rw [wfRes_some h1 h2 h3 hk hn hp], rfl, inr_true.1 h2, by omega, by simpa [wfAt] using hp, fun j hj => ?_⟩
          have := hn j hj
          simpa [wfAt] using this
        · exfalso
          have hn : Noneyet (wfAt x h g) x.Heel.toNat := by
            intro j
            induction j using Nat.strongRecOn with
            | _ j ih =>
              intro hj
              cases hp : wfAt x h g j with
              | false => rfl
              | true => exact absurd ⟨j, hj, hp, fun i hi => ih i hi (by omega)⟩ hany
          rw [wfRes_none h1 h2 h3 hn] at e
          cases e
set_option maxHeartbeats 1600000 in
theorem implWidthFor_c (x : Foot) (h g : Int) (w : World) :
    Calls Try.prog 29 #[.agg #[.int .i64 x.Length, .int .i64 x.Ball, .int .i64 x.Instep, .int .i64 x.Heel], .int .i64 h, .int .i64 g] w fun e w' => e = .returned (.tuple #[.int .i64 (wfRes x h g).1, .int .i64 (wfRes x h g).2]) ∧ Below w.heap.size w w' := by
  obtain ⟨w1, hw1, hb, c0, c1, c2, c3⟩ := four_new w 51 x
  replace hw1 := Lib.hid hw1
  cases h1 : okWid x
  · have e0 : wfRes x h g = (0, 1) := by simp [wfRes, h1]
    rw [e0]
    clear e0
    go_enter Try.func29, Try.ntmps29
    go_wp2_with (rw [← hw1.out])
    refine (as_boolB h1 (implValidWidths_c x w1)).mono ?_
    rintro e w2 ⟨rfl, hb2⟩
    go_wp2_with fail
    go_ret2
    exact ⟨rfl, upw hb hb2⟩
  · have o := okWid_iff.1 h1
    have o4 := o.2.2.2
    clear o
    cases h2 : inr h 0 120
    · have e0 : wfRes x h g = (0, 2) := by simp [wfRes, wfOk, h1, h2]
      rw [e0]
      clear e0
      go_enter Try.func29, Try.ntmps29
      go_wp2_with (rw [← hw1.out])
      refine (as_boolB h1 (implValidWidths_c x w1)).mono ?_
      rintro e w2 ⟨rfl, hb2⟩
      go_wp2_with fail
      refine (as_bool h2 (isHalf_c _ _)).mono ?_
      rintro e w' ⟨rfl, rfl⟩
      go_wp2_with fail
      go_ret2
      exact ⟨rfl, upw hb hb2⟩
    · cases h3 : inr g 0 5000
      · have e0 : wfRes x h g = (0, 2) := by simp [wfRes, wfOk, h1, h3]
        rw [e0]
        clear e0
        go_enter Try.func29, Try.ntmps29
        go_wp2_with (rw [← hw1.out])
        refine (as_boolB h1 (implValidWidths_c x w1)).mono ?_
        rintro e w2 ⟨rfl, hb2⟩
        go_wp2_with fail
        refine (as_bool h2 (isHalf_c _ _)).mono ?_
        rintro e w' ⟨rfl, rfl⟩
        go_wp2_with fail
        refine (as_bool h3 (within_c _ _ _ _)).mono ?_
        rintro e w' ⟨rfl, rfl⟩
        go_wp2_with fail
        go_ret2
        exact ⟨rfl, upw hb hb2⟩
      · have i2 := inr_true.1 h2
        have i3 := inr_true.1 h3
        have hS := Lib.hid (fun (k : Nat) (hk : k < x.Heel.toNat) (hn : Noneyet (wfAt x h g) k) (hp : wfAt x h g k = true) => show wfRes x h g = ((k : Int), 0) from wfRes_some h1 h2 h3 hk hn hp)
        have hN := Lib.hid (fun (hn : Noneyet (wfAt x h g) x.Heel.toNat) => show wfRes x h g = (0, 10) from wfRes_none h1 h2 h3 hn)
        have hG := Lib.hid (fun w' (k : Nat) (hk : k ≤ 12) => girth_c x h k w' h1 i2 (by omega))
        have hB0 := Lib.hid (fun (k : Nat) (hk : k ≤ 12) => (girthN_bound (k := (k : Int)) h1 i2 (by omega)).2.2)
        obtain ⟨A, hA⟩ : ∃ A, A = wfRes x h g := ⟨_, rfl⟩
        rw [← hA] at hS hN ⊢
        replace hA := Lib.hid hA
        obtain ⟨n, hn⟩ : ∃ n, n = x.Heel.toNat := ⟨_, rfl⟩
        have hnI : x.Heel = (n : Int) := by omega
        rw [← hn] at hS hN
        have hn12 : n ≤ 12 := by omega
        rw [hnI] at c3
        have hHn := Lib.hid hnI
        clear hn o4 hnI
        rw [hHn.out]
        go_enter Try.func29, Try.ntmps29
        go_wp2_with (rw [← hHn.out, ← hw1.out])
        rw [← hHn.out]
        refine (as_boolB h1 (implValidWidths_c x w1)).mono ?_
        rintro e w2 ⟨rfl, hb2⟩
        replace c0 := kept_cell c0 hb2
        replace c1 := kept_cell c1 hb2
        replace c2 := kept_cell c2 hb2
        replace c3 := kept_cell c3 hb2
        replace hb := upw hb hb2
        clear hb2
        go_wp2_with fail
        refine (as_bool h2 (isHalf_c _ _)).mono ?_
        rintro e w' ⟨rfl, rfl⟩
        go_wp2_with fail
        refine (as_bool h3 (within_c _ _ _ _)).mono ?_
        rintro e w' ⟨rfl, rfl⟩
        go_wp2_with fail
        go_loopw [8, 24] (fun _ i wr => ∃ k : Nat, k ≤ n ∧ i = .int .i64 k ∧ Hid (Noneyet (wfAt x h g) k) ∧ Below w2.heap.size w2 wr) (fun _ i _ => n - (intOf i).toNat)
        case atStart => exact ⟨0, Nat.zero_le _, rfl, Lib.hid noneyet_zero, Below.refl _ _⟩
        case round =>
          obtain ⟨k, hk, rfl, hno, hB⟩ := hrel
          obtain ⟨wa, hwa⟩ : ∃ wo : World, wo = wr := ⟨_, rfl⟩
          subst hwa
          have d0 := kept_cell c0 hB
          have d1 := kept_cell c1 hB
          have d2 := kept_cell c2 hB
          have d3 := kept_cell c3 hB
          by_cases hlt : k < n
          · have hC := Lib.hid (hG.out wa k (by omega))
            rw [hHn.out] at hC
            have hbd := hB0.out k (by omega)
            have hE := Lib.hid (show wfAt x h g k = decide (g ≤ girthN x h k) from rfl)
            have hSk := Lib.hid (fun hp => hS.out k hlt hno.out hp)
            generalize girthN x h k = G at *
            by_cases hp : g ≤ G
            · have hA2 := Lib.hid (hSk.out (by rw [hE.out]; simpa using hp))
              go_wp2_with fail
              refine hC.out.mono ?_
              rintro e w3 ⟨rfl, hb3⟩
              go_wp2_with fail
              go_ret2
              exact ⟨by rw [hA2.out]; rfl, upw hb (upw hB hb3)⟩
            · have hno2 := Lib.hid (noneyet_succ hno.out (by rw [hE.out]; simpa using hp))
              go_wp2_with fail
              refine hC.out.mono ?_
              rintro e w3 ⟨rfl, hb3⟩
              go_wp2_with fail
              go_roundw
              case rel => exact ⟨k + 1, by omega, by first | rfl | go_num, hno2, upw hB hb3⟩
              case measure => first | (simp [intOf]; done) | (simp [intOf]; omega)
          · obtain rfl : k = n := by omega
            have hA2 := Lib.hid (hN.out hno.out)
            go_wp2_with fail
            go_ret2
            exact ⟨by rw [hA2.out]; rfl, upw hb hB⟩
set_option maxHeartbeats 1600000 in
theorem specWidthFor_c (x : Foot) (h g : Int) (w : World) :
    Calls Try.prog 30 #[.agg #[.int .i64 x.Length, .int .i64 x.Ball, .int .i64 x.Instep, .int .i64 x.Heel], .int .i64 h, .int .i64 g] w fun e w' => e = .returned (.tuple #[.int .i64 (wfRes x h g).1, .int .i64 (wfRes x h g).2]) ∧ Below w.heap.size w w' := by
  obtain ⟨w1, hw1, hb, c0, c1, c2, c3⟩ := four_new w 51 x
  replace hw1 := Lib.hid hw1
  cases h1 : okWid x
  · have e0 : wfRes x h g = (0, 1) := by simp [wfRes, h1]
    rw [e0]
    clear e0
    go_enter Try.func30, Try.ntmps30
    go_wp2_with (rw [← hw1.out])
    refine (as_boolB h1 (l03Widths_c x w1)).mono ?_
    rintro e w2 ⟨rfl, hb2⟩
    go_wp2_with fail
    go_ret2
    exact ⟨rfl, upw hb hb2⟩
  · have o := okWid_iff.1 h1
    have o4 := o.2.2.2
    clear o
    cases h2 : inr h 0 120
    · have e0 : wfRes x h g = (0, 2) := by simp [wfRes, wfOk, h1, h2]
      rw [e0]
      clear e0
      go_enter Try.func30, Try.ntmps30
      go_wp2_with (rw [← hw1.out])
      refine (as_boolB h1 (l03Widths_c x w1)).mono ?_
      rintro e w2 ⟨rfl, hb2⟩
      go_wp2_with fail
      refine (as_bool h2 (l03Half_c _ _)).mono ?_
      rintro e w' ⟨rfl, rfl⟩
      go_wp2_with fail
      go_ret2
      exact ⟨rfl, upw hb hb2⟩
    · cases h3 : inr g 0 5000
      · have e0 : wfRes x h g = (0, 2) := by simp [wfRes, wfOk, h1, h3]
        rw [e0]
        clear e0
        go_enter Try.func30, Try.ntmps30
        go_wp2_with (rw [← hw1.out])
        refine (as_boolB h1 (l03Widths_c x w1)).mono ?_
        rintro e w2 ⟨rfl, hb2⟩
        go_wp2_with fail
        refine (as_bool h2 (l03Half_c _ _)).mono ?_
        rintro e w' ⟨rfl, rfl⟩
        go_wp2_with fail
        refine (as_bool h3 (l00In_c _ _ _ _)).mono ?_
        rintro e w' ⟨rfl, rfl⟩
        go_wp2_with fail
        go_ret2
        exact ⟨rfl, upw hb hb2⟩
      · have i2 := inr_true.1 h2
        have i3 := inr_true.1 h3
        have hS := Lib.hid (fun (k : Nat) (hk : k < x.Heel.toNat) (hn : Noneyet (wfAt x h g) k) (hp : wfAt x h g k = true) => show wfRes x h g = ((k : Int), 0) from wfRes_some h1 h2 h3 hk hn hp)
        have hN := Lib.hid (fun (hn : Noneyet (wfAt x h g) x.Heel.toNat) => show wfRes x h g = (0, 10) from wfRes_none h1 h2 h3 hn)
        have hG := Lib.hid (fun w' (k : Nat) (hk : k ≤ 12) => l03Girth_c x h k w' h1 i2 (by omega))
        have hB0 := Lib.hid (fun (k : Nat) (hk : k ≤ 12) => (girthN_bound (k := (k : Int)) h1 i2 (by omega)).2.2)
        obtain ⟨A, hA⟩ : ∃ A, A = wfRes x h g := ⟨_, rfl⟩
        rw [← hA] at hS hN ⊢
        replace hA := Lib.hid hA
        obtain ⟨n, hn⟩ : ∃ n, n = x.Heel.toNat := ⟨_, rfl⟩
        have hnI : x.Heel = (n : Int) := by omega
        rw [← hn] at hS hN
        have hn12 : n ≤ 12 := by omega
        rw [hnI] at c3
        have hHn := Lib.hid hnI
        clear hn o4 hnI
        rw [hHn.out]
        go_enter Try.func30, Try.ntmps30
        go_wp2_with (rw [← hHn.out, ← hw1.out])
        rw [← hHn.out]
        refine (as_boolB h1 (l03Widths_c x w1)).mono ?_
        rintro e w2 ⟨rfl, hb2⟩
        replace c0 := kept_cell c0 hb2
        replace c1 := kept_cell c1 hb2
        replace c2 := kept_cell c2 hb2
        replace c3 := kept_cell c3 hb2
        replace hb := upw hb hb2
        clear hb2
        go_wp2_with fail
        refine (as_bool h2 (l03Half_c _ _)).mono ?_
        rintro e w' ⟨rfl, rfl⟩
        go_wp2_with fail
        refine (as_bool h3 (l00In_c _ _ _ _)).mono ?_
        rintro e w' ⟨rfl, rfl⟩
        go_wp2_with fail
        go_loopw [8] (fun i wr => ∃ k : Nat, k ≤ n ∧ i = .int .i64 k ∧ Hid (Noneyet (wfAt x h g) k) ∧ Below w2.heap.size w2 wr) (fun i _ => n - (intOf i).toNat)
        case atStart => exact ⟨0, Nat.zero_le _, rfl, Lib.hid noneyet_zero, Below.refl _ _⟩
        case round =>
          obtain ⟨k, hk, rfl, hno, hB⟩ := hrel
          obtain ⟨wa, hwa⟩ : ∃ wo : World, wo = wr := ⟨_, rfl⟩
          subst hwa
          have d0 := kept_cell c0 hB
          have d1 := kept_cell c1 hB
          have d2 := kept_cell c2 hB
          have d3 := kept_cell c3 hB
          by_cases hlt : k < n
          · have hC := Lib.hid (hG.out wa k (by omega))
            rw [hHn.out] at hC
            have hbd := hB0.out k (by omega)
            have hE := Lib.hid (show wfAt x h g k = decide (g ≤ girthN x h k) from rfl)
            have hSk := Lib.hid (fun hp => hS.out k hlt hno.out hp)
            generalize girthN x h k = G at *
            by_cases hp : g ≤ G
            · have hA2 := Lib.hid (hSk.out (by rw [hE.out]; simpa using hp))
              go_wp2_with fail
              refine hC.out.mono ?_
              rintro e w3 ⟨rfl, hb3⟩
              go_wp2_with fail
              go_ret2
              exact ⟨by rw [hA2.out]; rfl, upw hb (upw hB hb3)⟩
            · have hno2 := Lib.hid (noneyet_succ hno.out (by rw [hE.out]; simpa using hp))
              go_wp2_with fail
              refine hC.out.mono ?_
              rintro e w3 ⟨rfl, hb3⟩
              go_wp2_with fail
              go_roundw
              case rel => exact ⟨k + 1, by omega, by first | rfl | go_num, hno2, upw hB hb3⟩
              case measure => first | (simp [intOf]; done) | (simp [intOf]; omega)
          · obtain rfl : k = n := by omega
            have hA2 := Lib.hid (hN.out hno.out)
            go_wp2_with fail
            go_ret2
            exact ⟨by rw [hA2.out]; rfl, upw hb hB⟩
end Go.Proofs.Ytlaclknhenccdaa
