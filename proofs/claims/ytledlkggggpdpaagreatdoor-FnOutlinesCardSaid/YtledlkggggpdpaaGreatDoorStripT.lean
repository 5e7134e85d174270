/- Chapter 9: an edge's text, as the program and the reference write it. -/
import Derived.Test.YtledlkggggpdpaaGreatDoorNumText
import Derived.Test.YtledlkggggpdpaaGreatDoorL09
import Derived.Test.YtledlkggggpdpaaGreatDoorSmall
import Derived.Deep.RegionHeld3
namespace Go.Proofs.YtledlkggggpdpaaGreatDoor
open Go.RowKit

theorem new_below (w : World) (o : Obj) : Below w.heap.size w (w.alloc o) := (Below.refl _ _).alloc (Nat.le_refl _) _
theorem own_two (w : World) (t : TypeId) (x y : Int) : Own w.heap.size (w.alloc (.cells #[.int .i64 x, .int .i64 y] t)) t (.slice (some ⟨w.heap.size, 0, none⟩) 2 2) [x, y] :=
  ⟨rfl, .inr ⟨w.heap.size, 2, #[.int .i64 x, .int .i64 y], rfl, Nat.le_refl _, heap_alloc_new _ _, Nat.le_refl _, by unfold maxLen; omega, rfl, rfl⟩⟩
theorem at_two (w : World) (t : TypeId) (x y : Int) : At (w.alloc (.cells #[.int .i64 x, .int .i64 y] t)) (some ⟨w.heap.size, 0, none⟩) [x, y] := (own_two w t x y).at'
theorem numsT_two (c : UInt8) (a b : Int) : numsT ⟨#[c]⟩ [a, b] = decT a ++ ⟨#[c]⟩ ++ decT b := by
  apply Go.WideShapes.bytes_inj
  unfold numsT
  rw [List.map_cons, Lib.join_cons]
  simp [Lib.joinTail, decT]
def stripTxt (x : Strip) : ByteArray := decT x.Length ++ ⟨#[43]⟩ ++ decT x.Allow ++ ⟨#[40]⟩ ++ numsT ⟨#[44]⟩ [x.Left, x.Right] ++ ⟨#[41]⟩
theorem stripTxt_eq (x : Strip) : decT x.Length ++ ⟨#[43]⟩ ++ decT x.Allow ++ ⟨#[40]⟩ ++ decT x.Left ++ ⟨#[44]⟩ ++ decT x.Right ++ ⟨#[41]⟩ = stripTxt x := by
  unfold stripTxt
  rw [numsT_two]
  apply Go.WideShapes.bytes_inj
  simp
/-- An edge's text. -/
def stripText (x : Strip) : ByteArray := cond (okStrip x) (stripTxt x) ⟨#[]⟩
theorem stripText_true {x : Strip} (h : okStrip x = true) : stripText x = stripTxt x := by simp [stripText, h]
theorem stripText_false {x : Strip} (h : okStrip x = false) : stripText x = ⟨#[]⟩ := by simp [stripText, h]
structure StripIn (x : Strip) : Prop where
  l0 : 1 ≤ x.Length
  l1 : x.Length ≤ 5000
  a0 : 0 ≤ x.Allow
  a1 : x.Allow ≤ 200
  f0 : 0 ≤ x.Left
  f1 : x.Left ≤ 200
  r0 : 0 ≤ x.Right
  r1 : x.Right ≤ 200
theorem okStrip_in {x : Strip} (h : okStrip x = true) : StripIn x := by
  unfold okStrip at h
  simp only [Bool.and_eq_true] at h
  obtain ⟨⟨⟨h1, h2⟩, h3⟩, h4⟩ := h
  exact ⟨(inr_true.1 h1).1, (inr_true.1 h1).2, (inr_true.1 h2).1, (inr_true.1 h2).2, (inr_true.1 h3).1, (inr_true.1 h3).2, (inr_true.1 h4).1, (inr_true.1 h4).2⟩
theorem decT_size' (n : Int) (h0 : 0 ≤ n) (h1 : n ≤ 5000) : (decT n).size ≤ 21 := decT_size n (by omega) (by omega)
set_option maxRecDepth 100000 in
set_option maxHeartbeats 1600000 in
theorem l09Text_c (x : Strip) (b o : Nat) (w : World) (c0 : w.cell? ⟨b, o, none⟩ = some (.int .i64 x.Length)) (c1 : w.cell? ⟨b, o + 1, none⟩ = some (.int .i64 x.Allow)) (c2 : w.cell? ⟨b, o + 2, none⟩ = some (.int .i64 x.Left)) (c3 : w.cell? ⟨b, o + 3, none⟩ = some (.int .i64 x.Right)) (hk : StripIn x) :
    Calls Tryz.prog 127 #[.pointer (some ⟨b, o, none⟩)] w fun e w' => e = .returned (.string (stripTxt x)) ∧ Below w.heap.size w w' := by
  rw [← stripTxt_eq]
  obtain ⟨l0, l1, a0, a1, f0, f1, r0, r1⟩ := hk
  have z0 := decT_size' x.Length (by omega) (by omega)
  have z1 := decT_size' x.Allow (by omega) (by omega)
  have z2 := decT_size' x.Left (by omega) (by omega)
  have z3 := decT_size' x.Right (by omega) (by omega)
  have D0 := Lib.hid (fun w' => l01Dec_c x.Length w' (by omega) (by omega))
  have D1 := Lib.hid (fun w' => l01Dec_c x.Allow w' (by omega) (by omega))
  have D2 := Lib.hid (fun w' => l01Dec_c x.Left w' (by omega) (by omega))
  have D3 := Lib.hid (fun w' => l01Dec_c x.Right w' (by omega) (by omega))
  replace c0 := rg c0
  replace c1 := rg c1
  replace c2 := rg c2
  replace c3 := rg c3
  have hb : Below w.heap.size w w := Below.refl _ _
  go_enter Tryz.func127, Tryz.ntmps127
  go_wp2_with fail
  refine wp_region_quiet_below (by kernel_rfl) (by kernel_rfl) ?_
  repeat (go_big_quiet_step ((go_at_call 201; first | with_reducible exact Calls.regrown_of (D0.out _) | with_reducible exact Calls.regrown_of (D1.out _) | with_reducible exact Calls.regrown_of (D2.out _) | with_reducible exact Calls.regrown_of (D3.out _))))
  refine wpQuiet_nil ?_
  intro w2 hw'
  replace hb := upw hb (grown_of hw')
  clear hw'
  go_wp2_with fail
  go_ret
  exact ⟨rfl, hb⟩
theorem specStripText_c (x : Strip) (w : World) (_hn : Rep.ok x) :
    Calls Tryz.prog 37 #[.agg #[.int .i64 x.Length, .int .i64 x.Allow, .int .i64 x.Left, .int .i64 x.Right]] w fun e w' => e = .returned (.string (stripText x)) ∧ Below w.heap.size w w' := by
  have hb : Below w.heap.size w (w.alloc (.cells #[.int .i64 x.Length, .int .i64 x.Allow, .int .i64 x.Left, .int .i64 x.Right] 54)) := new_below _ _
  cases h1 : okStrip x
  · have e1 := Lib.hid (stripText_false h1)
    go_enter Tryz.func37, Tryz.ntmps37
    go_wp2_with fail
    refine (as_bool h1 (l09One_c x _ _ _ (by go_simp) (by go_simp) (by go_simp) (by go_simp))).mono ?_
    rintro e w' ⟨rfl, rfl⟩
    go_wp2_with fail
    go_ret
    exact ⟨by rw [e1.out]; rfl, hb⟩
  · have e1 := Lib.hid (stripText_true h1)
    have hT := Lib.hid (l09Text_c x w.heap.size 0 (w.alloc (.cells #[.int .i64 x.Length, .int .i64 x.Allow, .int .i64 x.Left, .int .i64 x.Right] 54)) (by go_simp) (by go_simp) (by go_simp) (by go_simp) (okStrip_in h1))
    go_enter Tryz.func37, Tryz.ntmps37
    go_wp2_with fail
    refine (as_bool h1 (l09One_c x _ _ _ (by go_simp) (by go_simp) (by go_simp) (by go_simp))).mono ?_
    rintro e w' ⟨rfl, rfl⟩
    go_wp2_with fail
    refine hT.out.mono ?_
    rintro e w2 ⟨rfl, hb2⟩
    go_wp2_with fail
    go_ret
    exact ⟨by rw [e1.out]; rfl, upw hb hb2⟩
set_option maxRecDepth 100000 in
set_option maxHeartbeats 3200000 in
theorem implStripText_c (x : Strip) (w : World) (_hn : Rep.ok x) (hT : Tab w) :
    Calls Tryz.prog 30 #[.agg #[.int .i64 x.Length, .int .i64 x.Allow, .int .i64 x.Left, .int .i64 x.Right]] w fun e w' => e = .returned (.string (stripText x)) ∧ Below w.heap.size w w' := by
  obtain ⟨w1, hw1⟩ : ∃ w1, w1 = w.alloc (.cells #[.int .i64 x.Length, .int .i64 x.Allow, .int .i64 x.Left, .int .i64 x.Right] 54) := ⟨_, rfl⟩
  have hb : Below w.heap.size w w1 := by rw [hw1]; exact new_below _ _
  have c0 : w1.cell? ⟨w.heap.size, 0, none⟩ = some (.int .i64 x.Length) := by rw [hw1]; go_simp
  have c1 : w1.cell? ⟨w.heap.size, 1, none⟩ = some (.int .i64 x.Allow) := by rw [hw1]; go_simp
  have c2 : w1.cell? ⟨w.heap.size, 2, none⟩ = some (.int .i64 x.Left) := by rw [hw1]; go_simp
  have c3 : w1.cell? ⟨w.heap.size, 3, none⟩ = some (.int .i64 x.Right) := by rw [hw1]; go_simp
  cases h1 : okStrip x
  · have e1 := Lib.hid (stripText_false h1)
    go_enter Tryz.func30, Tryz.ntmps30
    go_wp2_with fail
    rw [← hw1]
    go_wp2_with fail
    refine (as_boolB h1 (validStrip_c x _)).mono ?_
    rintro e w2 ⟨rfl, hb2⟩
    go_wp2_with fail
    go_ret
    exact ⟨by rw [e1.out]; rfl, upw hb hb2⟩
  · obtain ⟨l0, l1, a0, a1, f0, f1, r0, r1⟩ := okStrip_in h1
    have e1 := Lib.hid (stripText_true h1)
    replace hT := Lib.hid hT
    have z0 := decT_size' x.Length (by omega) (by omega)
    have z1 := decT_size' x.Allow (by omega) (by omega)
    have z2 : (numsT ⟨#[44]⟩ [x.Left, x.Right]).size ≤ 43 := by
      have z2 := decT_size' x.Left (by omega) (by omega)
      have z3 := decT_size' x.Right (by omega) (by omega)
      have h2 : (⟨#[44]⟩ : ByteArray).size = 1 := rfl
      rw [numsT_two, ByteArray.size_append, ByteArray.size_append]
      omega
    have n1 : ¬ 9223372036854775807 < (decT x.Length).size + 1 := by omega
    have n2 : ¬ 9223372036854775807 < (decT x.Length).size + 1 + (decT x.Allow).size := by omega
    have n3 : ¬ 9223372036854775807 < (decT x.Length).size + 1 + (decT x.Allow).size + 1 := by omega
    have n4 : ¬ 9223372036854775807 < (decT x.Length).size + 1 + (decT x.Allow).size + 1 + (numsT ⟨#[44]⟩ [x.Left, x.Right]).size := by omega
    have n5 : ¬ 9223372036854775807 < (decT x.Length).size + 1 + (decT x.Allow).size + 1 + (numsT ⟨#[44]⟩ [x.Left, x.Right]).size + 1 := by omega
    go_enter Tryz.func30, Tryz.ntmps30
    go_wp2_with fail
    rw [← hw1]
    go_wp2_with fail
    refine (as_boolB h1 (validStrip_c x _)).mono ?_
    rintro e w2 ⟨rfl, hb2⟩
    replace hb := upw hb hb2
    replace c0 := kept_cell c0 hb2
    replace c1 := kept_cell c1 hb2
    replace c2 := kept_cell c2 hb2
    replace c3 := kept_cell c3 hb2
    go_wp2_with fail
    refine wp_region_held_drew (S := (fun w' => w'.cell? ⟨w.heap.size, 0, none⟩ = some (.int .i64 x.Length) ∧ w'.cell? ⟨w.heap.size, 1, none⟩ = some (.int .i64 x.Allow) ∧ w'.cell? ⟨w.heap.size, 2, none⟩ = some (.int .i64 x.Left) ∧ w'.cell? ⟨w.heap.size, 3, none⟩ = some (.int .i64 x.Right))) (by kernel_rfl) ⟨c0, c1, c2, c3⟩ (fun hHeld => ?_)
    refine wpAnyH_take (i := 0) (v := _) rfl (by kernel_rfl) (by kernel_rfl) (by kernel_rfl) (fun _ _ _ h => h) (Or.inl ⟨by rfl, (by intro w hSw; (try dsimp only at hSw); go_simp; try with_reducible rfl)⟩) (by assumption) ?_
    go_simp
    refine wpAnyH_take (i := 1) (v := _) rfl (by kernel_rfl) (by kernel_rfl) (by kernel_rfl) (fun _ _ _ h => h) (Or.inl ⟨by rfl, (by intro w hSw; (try dsimp only at hSw); go_simp; try with_reducible rfl)⟩) (by assumption) ?_
    go_simp
    refine wpAnyH_take (i := 4) (v := _) rfl (by kernel_rfl) (by kernel_rfl) (by kernel_rfl) (fun _ _ _ h => h) (Or.inl ⟨by rfl, (by intro w hSw; (try dsimp only at hSw); go_simp; try with_reducible rfl)⟩) (by assumption) ?_
    go_simp
    refine wpAnyH_take (i := 5) (v := _) rfl (by kernel_rfl) (by kernel_rfl) (by kernel_rfl) (fun _ _ _ h => h) (Or.inl ⟨by rfl, (by intro w hSw; (try dsimp only at hSw); go_simp; try with_reducible rfl)⟩) (by assumption) ?_
    go_simp
    refine wpAnyH_take (i := 9) (v := _) rfl (by kernel_rfl) (by kernel_rfl) (by kernel_rfl) (fun _ _ _ h => h) (Or.inl ⟨by rfl, (by intro w hSw; (try dsimp only at hSw); go_simp; try with_reducible rfl)⟩) (by assumption) ?_
    go_simp
    refine wpAnyH_take (i := 10) (v := _) rfl (by kernel_rfl) (by kernel_rfl) (by kernel_rfl) (fun _ _ _ h => h) (Or.inl ⟨by rfl, (by intro w hSw; (try dsimp only at hSw); go_simp; try with_reducible rfl)⟩) (by assumption) ?_
    go_simp
    refine wpAnyH_take (i := 11) (v := _) rfl (by kernel_rfl) (by kernel_rfl) (by kernel_rfl) (fun _ _ _ h => h) (Or.inl ⟨by rfl, (by intro w hSw; (try dsimp only at hSw); go_simp; try with_reducible rfl)⟩) (by assumption) ?_
    go_simp
    refine wpAnyH_take (i := 12) (v := _) rfl (by kernel_rfl) (by kernel_rfl) (by kernel_rfl) (fun _ _ _ h => h) (Or.inl ⟨by rfl, (by intro w hSw; (try dsimp only at hSw); go_simp; try with_reducible rfl)⟩) (by assumption) ?_
    go_simp
    refine wpAnyH_ready (rs := [2, 13]) (by kernel_rfl) (by simp) ?_
    refine (AllReadyH.cons rfl (fun K hK => ?_) (AllReadyH.cons rfl (fun K hK => ?_) AllReadyH.nil))
    · go_simp
      refine (decimal_c x.Length _ (by omega) (by omega) (hT.out.below (upw hb (Below.refl w2.heap.size w2).drew))).mono ?_
      rintro e w3 ⟨rfl, hb3⟩
      have hB3 := upw (Below.refl w2.heap.size w2).drew hb3
      go_simp
      refine hK.out _ _ (by exact ⟨kept_cell c0 hB3, kept_cell c1 hB3, kept_cell c2 hB3, kept_cell c3 hB3⟩) (fun hHeld => ?_)
      clear hK K
      go_simp
      refine wpAnyH_take (i := 3) (v := _) rfl (by kernel_rfl) (by kernel_rfl) (by kernel_rfl) (fun _ _ _ h => h) (Or.inl ⟨by rfl, (by intro w hSw; (try dsimp only at hSw); go_simp; try with_reducible rfl)⟩) (by assumption) ?_
      go_simp
      refine wpAnyH_ready (rs := [6, 13]) (by kernel_rfl) (by simp) ?_
      refine (AllReadyH.cons rfl (fun K hK => ?_) (AllReadyH.cons rfl (fun K hK => ?_) AllReadyH.nil))
      · go_simp
        refine (decimal_c x.Allow _ (by omega) (by omega) (hT.out.below (upw hb hB3))).mono ?_
        rintro e w4 ⟨rfl, hb4⟩
        have hB4 := upw hB3 hb4
        go_simp
        refine hK.out _ _ (by exact ⟨kept_cell c0 hB4, kept_cell c1 hB4, kept_cell c2 hB4, kept_cell c3 hB4⟩) (fun hHeld => ?_)
        clear hK K
        go_simp
        refine wpAnyH_take (i := 7) (v := _) rfl (by kernel_rfl) (by kernel_rfl) (by kernel_rfl) (fun _ _ _ h => h) (Or.inl ⟨by rfl, (by intro w hSw; (try dsimp only at hSw); go_simp; try with_reducible rfl)⟩) (by assumption) ?_
        go_simp
        refine wpAnyH_take (i := 8) (v := _) rfl (by kernel_rfl) (by kernel_rfl) (by kernel_rfl) (fun _ _ _ h => h) (Or.inl ⟨by rfl, (by intro w hSw; (try dsimp only at hSw); go_simp; try with_reducible rfl)⟩) (by assumption) ?_
        go_simp
        refine wpAnyH_ready (rs := [13]) (by kernel_rfl) (by simp) ?_
        refine (AllReadyH.cons rfl (fun K hK => ?_) AllReadyH.nil)
        have hB5 := upw hB4 (new_below w4 (.cells #[.int .i64 x.Left, .int .i64 x.Right] 2))
        have hA5 := at_two w4 2 x.Left x.Right
        go_simp
        refine hK.out _ _ (by exact ⟨kept_cell c0 hB5, kept_cell c1 hB5, kept_cell c2 hB5, kept_cell c3 hB5⟩) (fun hHeld => ?_)
        clear hK K
        go_simp
        refine wpAnyH_ready (rs := [14]) (by kernel_rfl) (by simp) ?_
        refine (AllReadyH.cons rfl (fun K hK => ?_) AllReadyH.nil)
        go_simp
        refine (numbersText_c _ _ [x.Left, x.Right] _ _ hA5 (by simp) (by simp) (by simp; omega) (by decide) (hT.out.below (upw hb hB5))).mono ?_
        rintro e w6 ⟨rfl, hb6⟩
        have hB6 := upw hB5 hb6
        have hA6 := hA5.below hb6
        go_simp
        refine hK.out _ _ (by exact ⟨kept_cell c0 hB6, kept_cell c1 hB6, kept_cell c2 hB6, kept_cell c3 hB6⟩) (fun hHeld => ?_)
        clear hK K
        go_simp
        refine wpAnyH_take (i := 15) (v := _) rfl (by kernel_rfl) (by kernel_rfl) (by kernel_rfl) (fun _ _ _ h => h) (Or.inl ⟨by rfl, (by intro w hSw; (try dsimp only at hSw); go_simp; try with_reducible rfl)⟩) (by assumption) ?_
        go_simp
        refine wpAnyH_take (i := 16) (v := _) rfl (by kernel_rfl) (by kernel_rfl) (by kernel_rfl) (fun _ _ _ h => h) (Or.inl ⟨by rfl, (by intro w hSw; (try dsimp only at hSw); go_simp; try with_reducible rfl)⟩) (by assumption) ?_
        go_simp
        refine wpAnyH_take (i := 17) (v := _) rfl (by kernel_rfl) (by kernel_rfl) (by kernel_rfl) (fun _ _ _ h => h) (Or.inl ⟨by rfl, (by intro w hSw; (try dsimp only at hSw); go_simp; try with_reducible rfl)⟩) (by assumption) ?_
        go_simp
        refine wpAnyH_done (by kernel_rfl) ?_ _
        go_wp2_with fail
        go_ret
        exact ⟨by rw [e1.out]; rfl, upw hb hB6⟩
      · have hB4 := upw hB3 (new_below w3 (.cells #[.int .i64 x.Left, .int .i64 x.Right] 2))
        have hA4 := at_two w3 2 x.Left x.Right
        go_simp
        refine hK.out _ _ (by exact ⟨kept_cell c0 hB4, kept_cell c1 hB4, kept_cell c2 hB4, kept_cell c3 hB4⟩) (fun hHeld => ?_)
        clear hK K
        go_simp
        refine wpAnyH_ready (rs := [6]) (by kernel_rfl) (by simp) ?_
        refine (AllReadyH.cons rfl (fun K hK => ?_) AllReadyH.nil)
        go_simp
        refine (decimal_c x.Allow _ (by omega) (by omega) (hT.out.below (upw hb hB4))).mono ?_
        rintro e w5 ⟨rfl, hb5⟩
        have hB5 := upw hB4 hb5
        have hA5 := hA4.below hb5
        go_simp
        refine hK.out _ _ (by exact ⟨kept_cell c0 hB5, kept_cell c1 hB5, kept_cell c2 hB5, kept_cell c3 hB5⟩) (fun hHeld => ?_)
        clear hK K
        go_simp
        refine wpAnyH_take (i := 7) (v := _) rfl (by kernel_rfl) (by kernel_rfl) (by kernel_rfl) (fun _ _ _ h => h) (Or.inl ⟨by rfl, (by intro w hSw; (try dsimp only at hSw); go_simp; try with_reducible rfl)⟩) (by assumption) ?_
        go_simp
        refine wpAnyH_take (i := 8) (v := _) rfl (by kernel_rfl) (by kernel_rfl) (by kernel_rfl) (fun _ _ _ h => h) (Or.inl ⟨by rfl, (by intro w hSw; (try dsimp only at hSw); go_simp; try with_reducible rfl)⟩) (by assumption) ?_
        go_simp
        refine wpAnyH_ready (rs := [14]) (by kernel_rfl) (by simp) ?_
        refine (AllReadyH.cons rfl (fun K hK => ?_) AllReadyH.nil)
        go_simp
        refine (numbersText_c _ _ [x.Left, x.Right] _ _ hA5 (by simp) (by simp) (by simp; omega) (by decide) (hT.out.below (upw hb hB5))).mono ?_
        rintro e w6 ⟨rfl, hb6⟩
        have hB6 := upw hB5 hb6
        have hA6 := hA5.below hb6
        go_simp
        refine hK.out _ _ (by exact ⟨kept_cell c0 hB6, kept_cell c1 hB6, kept_cell c2 hB6, kept_cell c3 hB6⟩) (fun hHeld => ?_)
        clear hK K
        go_simp
        refine wpAnyH_take (i := 15) (v := _) rfl (by kernel_rfl) (by kernel_rfl) (by kernel_rfl) (fun _ _ _ h => h) (Or.inl ⟨by rfl, (by intro w hSw; (try dsimp only at hSw); go_simp; try with_reducible rfl)⟩) (by assumption) ?_
        go_simp
        refine wpAnyH_take (i := 16) (v := _) rfl (by kernel_rfl) (by kernel_rfl) (by kernel_rfl) (fun _ _ _ h => h) (Or.inl ⟨by rfl, (by intro w hSw; (try dsimp only at hSw); go_simp; try with_reducible rfl)⟩) (by assumption) ?_
        go_simp
        refine wpAnyH_take (i := 17) (v := _) rfl (by kernel_rfl) (by kernel_rfl) (by kernel_rfl) (fun _ _ _ h => h) (Or.inl ⟨by rfl, (by intro w hSw; (try dsimp only at hSw); go_simp; try with_reducible rfl)⟩) (by assumption) ?_
        go_simp
        refine wpAnyH_done (by kernel_rfl) ?_ _
        go_wp2_with fail
        go_ret
        exact ⟨by rw [e1.out]; rfl, upw hb hB6⟩
    · have hB3 : Below w2.heap.size w2 ((w2.alloc (.cells #[.int .i64 x.Left, .int .i64 x.Right] 2)).drew) := (new_below _ _).drew
      have hA3 := (at_two w2 2 x.Left x.Right).below (Below.refl _ _).drew
      go_simp
      refine hK.out _ _ (by exact ⟨kept_cell c0 hB3, kept_cell c1 hB3, kept_cell c2 hB3, kept_cell c3 hB3⟩) (fun hHeld => ?_)
      clear hK K
      go_simp
      refine wpAnyH_ready (rs := [2]) (by kernel_rfl) (by simp) ?_
      refine (AllReadyH.cons rfl (fun K hK => ?_) AllReadyH.nil)
      go_simp
      refine (decimal_c x.Length _ (by omega) (by omega) (hT.out.below (upw hb hB3))).mono ?_
      rintro e w4 ⟨rfl, hb4⟩
      have hB4 := upw hB3 hb4
      have hA4 := hA3.below hb4
      go_simp
      refine hK.out _ _ (by exact ⟨kept_cell c0 hB4, kept_cell c1 hB4, kept_cell c2 hB4, kept_cell c3 hB4⟩) (fun hHeld => ?_)
      clear hK K
      go_simp
      refine wpAnyH_take (i := 3) (v := _) rfl (by kernel_rfl) (by kernel_rfl) (by kernel_rfl) (fun _ _ _ h => h) (Or.inl ⟨by rfl, (by intro w hSw; (try dsimp only at hSw); go_simp; try with_reducible rfl)⟩) (by assumption) ?_
      go_simp
      refine wpAnyH_ready (rs := [6]) (by kernel_rfl) (by simp) ?_
      refine (AllReadyH.cons rfl (fun K hK => ?_) AllReadyH.nil)
      go_simp
      refine (decimal_c x.Allow _ (by omega) (by omega) (hT.out.below (upw hb hB4))).mono ?_
      rintro e w5 ⟨rfl, hb5⟩
      have hB5 := upw hB4 hb5
      have hA5 := hA4.below hb5
      go_simp
      refine hK.out _ _ (by exact ⟨kept_cell c0 hB5, kept_cell c1 hB5, kept_cell c2 hB5, kept_cell c3 hB5⟩) (fun hHeld => ?_)
      clear hK K
      go_simp
      refine wpAnyH_take (i := 7) (v := _) rfl (by kernel_rfl) (by kernel_rfl) (by kernel_rfl) (fun _ _ _ h => h) (Or.inl ⟨by rfl, (by intro w hSw; (try dsimp only at hSw); go_simp; try with_reducible rfl)⟩) (by assumption) ?_
      go_simp
      refine wpAnyH_take (i := 8) (v := _) rfl (by kernel_rfl) (by kernel_rfl) (by kernel_rfl) (fun _ _ _ h => h) (Or.inl ⟨by rfl, (by intro w hSw; (try dsimp only at hSw); go_simp; try with_reducible rfl)⟩) (by assumption) ?_
      go_simp
      refine wpAnyH_ready (rs := [14]) (by kernel_rfl) (by simp) ?_
      refine (AllReadyH.cons rfl (fun K hK => ?_) AllReadyH.nil)
      go_simp
      refine (numbersText_c _ _ [x.Left, x.Right] _ _ hA5 (by simp) (by simp) (by simp; omega) (by decide) (hT.out.below (upw hb hB5))).mono ?_
      rintro e w6 ⟨rfl, hb6⟩
      have hB6 := upw hB5 hb6
      have hA6 := hA5.below hb6
      go_simp
      refine hK.out _ _ (by exact ⟨kept_cell c0 hB6, kept_cell c1 hB6, kept_cell c2 hB6, kept_cell c3 hB6⟩) (fun hHeld => ?_)
      clear hK K
      go_simp
      refine wpAnyH_take (i := 15) (v := _) rfl (by kernel_rfl) (by kernel_rfl) (by kernel_rfl) (fun _ _ _ h => h) (Or.inl ⟨by rfl, (by intro w hSw; (try dsimp only at hSw); go_simp; try with_reducible rfl)⟩) (by assumption) ?_
      go_simp
      refine wpAnyH_take (i := 16) (v := _) rfl (by kernel_rfl) (by kernel_rfl) (by kernel_rfl) (fun _ _ _ h => h) (Or.inl ⟨by rfl, (by intro w hSw; (try dsimp only at hSw); go_simp; try with_reducible rfl)⟩) (by assumption) ?_
      go_simp
      refine wpAnyH_take (i := 17) (v := _) rfl (by kernel_rfl) (by kernel_rfl) (by kernel_rfl) (fun _ _ _ h => h) (Or.inl ⟨by rfl, (by intro w hSw; (try dsimp only at hSw); go_simp; try with_reducible rfl)⟩) (by assumption) ?_
      go_simp
      refine wpAnyH_done (by kernel_rfl) ?_ _
      go_wp2_with fail
      go_ret
      exact ⟨by rw [e1.out]; rfl, upw hb hB6⟩
end Go.Proofs.YtledlkggggpdpaaGreatDoor
