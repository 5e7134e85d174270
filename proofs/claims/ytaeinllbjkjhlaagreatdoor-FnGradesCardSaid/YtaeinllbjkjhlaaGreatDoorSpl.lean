/- The reference's spoiling of a text. -/
import Derived.Test.YtaeinllbjkjhlaaGreatDoorSep
import Derived.Lib.Strings
namespace Go.Proofs.YtaeinllbjkjhlaaGreatDoor
open Go.RowKit

theorem off_gtS {g k : Nat} (h : g < k) : Off (some ⟨k, 0, none⟩) g := fun b o e => by
  simp only [Option.some.injEq, Addr.mk.injEq] at e
  omega

theorem textS_c (g M : Nat) (a : Option Addr) (xs : List ByteArray) (c : Nat) (w : World) (hS : SrcAt w g (M + 2)) (hx : At w a xs) (ho : Off a g) (h0 : 0 < xs.length) (hl : xs.length ≤ 9223372036854775807) :
    Calls Tryz.prog 111 #[.pointer (some ⟨g, 0, none⟩), .slice a xs.length c] w fun e w' => ∃ v : ByteArray, e = .returned (.string v) ∧ v ∈ xs ∧ SrcAt w' g M ∧ w.grownBy w' (some g) := by
  go_enter Tryz.func111, Tryz.ntmps111
  go_wp2_with fail
  refine (pick_c g M xs.length w hS (by omega) (by omega)).mono ?_
  rintro e w2 ⟨v, rfl, v0, v1, hS2, hg2⟩
  obtain ⟨k, rfl⟩ : ∃ k : Nat, v = k := ⟨v.toNat, by omega⟩
  have hk : k < xs.length := by omega
  have hx2 := hx.offF (Or.inr ho) hg2
  obtain ⟨b, off, rfl⟩ := hx2.addr hk
  have c0 := hx2.str hk
  go_wp2_with fail
  go_ret
  exact ⟨_, rfl, List.getElem_mem hk, hS2, hg2⟩
def spoilTexts : List ByteArray := [⟨#[32]⟩, ⟨#[48]⟩, ⟨#[45]⟩, ⟨#[120]⟩, ⟨#[49]⟩, ⟨#[57]⟩, ⟨#[46]⟩]
theorem spoil_size : ∀ x ∈ spoilTexts, x.size ≤ 1 := by decide +kernel
set_option maxRecDepth 100000 in
set_option maxHeartbeats 2000000 in
theorem l01Spoil_c (g M : Nat) (t : ByteArray) (w : World) (hS : SrcAt w g (M + 8)) (ht : t.size ≤ 1000000) :
    Calls Tryz.prog 83 #[.pointer (some ⟨g, 0, none⟩), .string t] w fun e w' => ∃ s : ByteArray, e = .returned (.string s) ∧ s.size ≤ 2 * t.size + 1 ∧ SrcAt w' g M ∧ w.grownBy w' (some g) := by
  have D := Lib.hid (Dr.start hS)
  clear hS
  go_enter Tryz.func83, Tryz.ntmps83
  go_wp2_with fail
  refine (pick_c g (M + 6) 5 w (D.out.src.less (by omega)) (by omega) (by omega)).mono ?_
  rintro e w1 ⟨v, rfl, v0, v1, hS2, hg2⟩
  replace D := Lib.hid (D.out.drew hS2 hg2)
  clear hS2 hg2
  by_cases h0 : v = 0
  · subst h0
    have hW : IntKind.i64.wrap ((t.size : Int) + 1) = (t.size : Int) + 1 := IntWalk.i64_in _ (by omega)
    go_wp2_with fail
    try rw [hW]
    refine (pick_c g (M + 4) ((t.size : Int) + 1) w1 (D.out.src.less (by omega)) (by omega) (by omega)).mono ?_
    rintro e w2 ⟨p, rfl, p0, p1, hS2, hg2⟩
    replace D := Lib.hid (D.out.drew hS2 hg2)
    clear hS2 hg2 hW
    obtain ⟨k, rfl⟩ : ∃ k : Nat, p = k := ⟨p.toNat, by omega⟩
    have hk : k ≤ t.size := by omega
    clear p0 p1
    have hkI : (k : Int) ≤ t.size := by omega
    go_wp2_with fail
    refine wp_region_held_drew (S := (fun _ => True)) (by kernel_rfl) trivial (fun hHeld => ?_)
    obtain ⟨wo, hwo⟩ : ∃ wo, wo = w2.drew := ⟨_, rfl⟩
    rw [← hwo]
    replace D := Lib.hid (D.out.later (w' := wo) (by rw [hwo]; exact (Below.refl _ _).drew))
    clear hwo
    refine wpAnyH_take (i := 0) (v := _) rfl (by kernel_rfl) (by kernel_rfl) (by kernel_rfl) (fun _ _ _ h => h) (Or.inl ⟨by rfl, (by intro w hSw; (try dsimp only at hSw); go_simp; try with_reducible rfl)⟩) (by assumption) ?_
    go_simp
    refine wpAnyH_take (i := 1) (v := _) rfl (by kernel_rfl) (by kernel_rfl) (by kernel_rfl) (fun _ _ _ h => h) (Or.inl ⟨by rfl, (by intro w hSw; (try dsimp only at hSw); go_simp; try with_reducible rfl)⟩) (by assumption) ?_
    go_simp
    refine wpAnyH_take (i := 2) (v := _) rfl (by kernel_rfl) (by kernel_rfl) (by kernel_rfl) (fun _ _ _ h => h) (Or.inl ⟨by rfl, (by intro w hSw; (try dsimp only at hSw); go_simp; try with_reducible rfl)⟩) (by assumption) ?_
    go_simp
    refine wpAnyH_take (i := 3) (v := _) rfl (by kernel_rfl) (by kernel_rfl) (by kernel_rfl) (fun _ _ _ h => h) (Or.inl ⟨by rfl, (by intro w hSw; (try dsimp only at hSw); go_simp; try with_reducible rfl)⟩) (by assumption) ?_
    go_simp
    refine wpAnyH_take (i := 7) (v := _) rfl (by kernel_rfl) (by kernel_rfl) (by kernel_rfl) (fun _ _ _ h => h) (Or.inl ⟨by rfl, (by intro w hSw; (try dsimp only at hSw); go_simp; try with_reducible rfl)⟩) (by assumption) ?_
    go_simp
    refine wpAnyH_take (i := 8) (v := _) rfl (by kernel_rfl) (by kernel_rfl) (by kernel_rfl) (fun _ _ _ h => h) (Or.inl ⟨by rfl, (by intro w hSw; (try dsimp only at hSw); go_simp; try with_reducible rfl)⟩) (by assumption) ?_
    go_simp
    refine wpAnyH_take (i := 9) (v := _) rfl (by kernel_rfl) (by kernel_rfl) (by kernel_rfl) (fun _ _ _ h => h) (Or.inl ⟨by rfl, (by intro w hSw; (try dsimp only at hSw); go_simp; try with_reducible rfl)⟩) (by assumption) ?_
    go_simp
    have hgl1 : g < wo.heap.size := D.out.src.lt
    refine wpAnyH_ready (rs := [4]) (by kernel_rfl) (by simp) ?_
    refine AllReadyH.cons rfl (fun K hK => ?_) AllReadyH.nil
    go_simp
    (obtain ⟨wt, hwt⟩ : ∃ wt, wt = wo.alloc (.cells #[.string ⟨#[32]⟩, .string ⟨#[48]⟩, .string ⟨#[45]⟩, .string ⟨#[120]⟩, .string ⟨#[49]⟩, .string ⟨#[57]⟩, .string ⟨#[46]⟩] 9) := ⟨_, rfl⟩; rw [← hwt]; have hA : At wt (some ⟨wo.heap.size, 0, none⟩) spoilTexts := (by rw [hwt]; exact (own_alloc wo 9 _ spoilTexts rfl (by decide)).at'); replace D := Lib.hid (D.out.later (w' := wt) (by rw [hwt]; exact newB _ _)); clear hwt)
    refine hK.out _ _ trivial (fun hHeld => ?_)
    clear hK K
    go_simp
    refine wpAnyH_ready (rs := [5]) (by kernel_rfl) (by simp) ?_
    refine AllReadyH.cons rfl (fun K hK => ?_) AllReadyH.nil
    go_simp
    (refine (textS_c g (M + 2) _ spoilTexts 7 wt (D.out.src.less (by omega)) hA (off_gtS hgl1) (by decide) (by decide)).mono ?_; rintro e w4 ⟨u, rfl, hu, hS2, hg2⟩; replace D := Lib.hid (D.out.drew hS2 hg2); clear hS2 hg2)
    refine hK.out _ _ trivial (fun hHeld => ?_)
    clear hK K
    go_simp
    have hu1 := spoil_size u hu
    have n1 : ¬ 9223372036854775807 < k + u.size := by omega
    have n2 : ¬ 9223372036854775807 < k + u.size + (t.size - k) := by omega
    refine wpAnyH_take (i := 6) (v := _) rfl (by kernel_rfl) (by kernel_rfl) (by kernel_rfl) (fun _ _ _ h => h) (Or.inl ⟨by rfl, (by intro w hSw; (try dsimp only at hSw); go_simp; try with_reducible rfl)⟩) (by assumption) ?_
    go_simp
    refine wpAnyH_take (i := 10) (v := _) rfl (by kernel_rfl) (by kernel_rfl) (by kernel_rfl) (fun _ _ _ h => h) (Or.inl ⟨by rfl, (by intro w hSw; (try dsimp only at hSw); go_simp; try with_reducible rfl)⟩) (by assumption) ?_
    go_simp
    refine wpAnyH_take (i := 11) (v := _) rfl (by kernel_rfl) (by kernel_rfl) (by kernel_rfl) (fun _ _ _ h => h) (Or.inl ⟨by rfl, (by intro w hSw; (try dsimp only at hSw); go_simp; try with_reducible rfl)⟩) (by assumption) ?_
    go_simp
    refine wpAnyH_done (by kernel_rfl) ?_ _
    have hz : Hid ((t.extract 0 k ++ u ++ t.extract k t.size).size ≤ 2 * t.size + 1) := Lib.hid (by simp; omega)
    clear hHeld n1 n2
    go_wp2_with fail
    go_ret
    exact ⟨_, rfl, hz.out, D.out.src.less (by omega), D.out.up⟩
  · have h0B : (v == 0) = false := beq_eq_false_iff_ne.2 h0
    by_cases h1 : v = 1
    · subst h1
      by_cases he : t.size = 0
      · have heB : t.toList.isEmpty = true := by rw [Lib.toList_data, List.isEmpty_iff_length_eq_zero]; simpa using he
        replace he := Lib.hid he
        go_wp2_with fail
        go_ret
        exact ⟨t, rfl, by omega, D.out.src.less (by omega), D.out.up⟩
      · have heB : t.toList.isEmpty = false := by
          rw [← Bool.not_eq_true, Lib.toList_data, List.isEmpty_iff_length_eq_zero]; simpa using he
        have ht0 : 0 < t.size := by omega
        replace he := Lib.hid he
        go_wp2_with fail
        refine (pick_c g (M + 4) t.size w1 (D.out.src.less (by omega)) (by omega) (by omega)).mono ?_
        rintro e w2 ⟨p, rfl, p0, p1, hS2, hg2⟩
        replace D := Lib.hid (D.out.drew hS2 hg2)
        clear hS2 hg2
        obtain ⟨k, rfl⟩ : ∃ k : Nat, p = k := ⟨p.toNat, by omega⟩
        have hk : k < t.size := by omega
        clear p0 p1
        have hkI : (k : Int) ≤ t.size := by omega
        have hkJ : (k : Int) + 1 ≤ t.size := by omega
        have hkW : IntKind.i64.wrap ((k : Int) + 1) = (k : Int) + 1 := IntWalk.i64_in _ (by omega)
        have hkN : ((k : Int) + 1).toNat = k + 1 := by omega
        have hk0 : (0 : Int) ≤ (k : Int) + 1 := by omega
        have n2 : ¬ 9223372036854775807 < k + (t.size - (k + 1)) := by omega
        have n3 : ¬ 9223372036854775807 < min k t.size + (t.size - (k + 1)) := by omega
        go_wp2_with fail
        refine wp_region_held_drew (S := (fun _ => True)) (by kernel_rfl) trivial (fun hHeld => ?_)
        obtain ⟨wo, hwo⟩ : ∃ wo, wo = w2.drew := ⟨_, rfl⟩
        rw [← hwo]
        replace D := Lib.hid (D.out.later (w' := wo) (by rw [hwo]; exact (Below.refl _ _).drew))
        clear hwo
        refine wpAnyH_take (i := 0) (v := _) rfl (by kernel_rfl) (by kernel_rfl) (by kernel_rfl) (fun _ _ _ h => h) (Or.inl ⟨by rfl, (by intro w hSw; (try dsimp only at hSw); go_simp; try with_reducible rfl)⟩) (by assumption) ?_
        go_simp
        refine wpAnyH_take (i := 1) (v := _) rfl (by kernel_rfl) (by kernel_rfl) (by kernel_rfl) (fun _ _ _ h => h) (Or.inl ⟨by rfl, (by intro w hSw; (try dsimp only at hSw); go_simp; try with_reducible rfl)⟩) (by assumption) ?_
        go_simp
        refine wpAnyH_take (i := 2) (v := _) rfl (by kernel_rfl) (by kernel_rfl) (by kernel_rfl) (fun _ _ _ h => h) (Or.inl ⟨by rfl, (by intro w hSw; (try dsimp only at hSw); go_simp; try with_reducible rfl)⟩) (by assumption) ?_
        go_simp
        refine wpAnyH_take (i := 3) (v := _) rfl (by kernel_rfl) (by kernel_rfl) (by kernel_rfl) (fun _ _ _ h => h) (Or.inl ⟨by rfl, (by intro w hSw; (try dsimp only at hSw); go_simp; try with_reducible rfl)⟩) (by assumption) ?_
        go_simp
        refine wpAnyH_take (i := 4) (v := _) rfl (by kernel_rfl) (by kernel_rfl) (by kernel_rfl) (fun _ _ _ h => h) (Or.inl ⟨by rfl, (by intro w hSw; (try dsimp only at hSw); go_simp; try with_reducible rfl)⟩) (by assumption) ?_
        go_simp
        refine wpAnyH_take (i := 5) (v := _) rfl (by kernel_rfl) (by kernel_rfl) (by kernel_rfl) (fun _ _ _ h => h) (Or.inl ⟨by rfl, (by intro w hSw; (try dsimp only at hSw); go_simp; try with_reducible rfl)⟩) (by assumption) ?_
        go_simp
        refine wpAnyH_take (i := 6) (v := _) rfl (by kernel_rfl) (by kernel_rfl) (by kernel_rfl) (fun _ _ _ h => h) (Or.inl ⟨by rfl, (by intro w hSw; (try dsimp only at hSw); go_simp; try with_reducible rfl)⟩) (by assumption) ?_
        go_simp
        refine wpAnyH_take (i := 7) (v := _) rfl (by kernel_rfl) (by kernel_rfl) (by kernel_rfl) (fun _ _ _ h => h) (Or.inl ⟨by rfl, (by intro w hSw; (try dsimp only at hSw); go_simp; try with_reducible rfl)⟩) (by assumption) ?_
        go_simp
        refine wpAnyH_take (i := 8) (v := _) rfl (by kernel_rfl) (by kernel_rfl) (by kernel_rfl) (fun _ _ _ h => h) (Or.inl ⟨by rfl, (by intro w hSw; (try dsimp only at hSw); go_simp; try with_reducible rfl)⟩) (by assumption) ?_
        go_simp
        refine wpAnyH_done (by kernel_rfl) ?_ _
        have hz : Hid ((t.extract 0 k ++ t.extract (k + 1) t.size).size ≤ 2 * t.size + 1) := Lib.hid (by simp; omega)
        clear hHeld n2 n3
        go_wp2_with fail
        go_ret
        exact ⟨_, rfl, hz.out, D.out.src.less (by omega), D.out.up⟩
    · have h1B : (v == 1) = false := beq_eq_false_iff_ne.2 h1
      clear h0 h1
      go_wp2_with fail
      go_ret
      exact ⟨t, rfl, by omega, D.out.src.less (by omega), D.out.up⟩
end Go.Proofs.YtaeinllbjkjhlaaGreatDoor
