/- Chapter 7: an outline's text, as the program and the reference write it. -/
import Derived.Test.YtledlkggggpdpaaGreatDoorNumText
import Derived.Test.YtledlkggggpdpaaGreatDoorL07v
import Derived.Test.YtledlkggggpdpaaGreatDoorSmall
namespace Go.Proofs.YtledlkggggpdpaaGreatDoor
open Go.RowKit

theorem numsT_pair (c : UInt8) (a b : Int) : numsT ⟨#[c]⟩ [a, b] = decT a ++ ⟨#[c]⟩ ++ decT b := by
  apply Go.WideShapes.bytes_inj
  unfold numsT
  rw [List.map_cons, Lib.join_cons]
  simp [Lib.joinTail, decT]
/-- A spot's text. -/
def spotT (p : Spot) : ByteArray := numsT ⟨#[44]⟩ [p.X, p.Y]
theorem spotT_eq (p : Spot) : spotT p = decT p.X ++ ⟨#[44]⟩ ++ decT p.Y := numsT_pair 44 p.X p.Y
theorem spotT_size {p : Spot} (h : okSpot p = true) : (spotT p).size ≤ 43 := by
  have h1 := okSpot_iff.1 h
  have z0 := decT_size p.X (by omega) (by omega)
  have z1 := decT_size p.Y (by omega) (by omega)
  have h2 : (⟨#[44]⟩ : ByteArray).size = 1 := rfl
  rw [spotT_eq, ByteArray.size_append, ByteArray.size_append]
  omega
/-- Spots' texts, a blank between them. -/
def outT (xs : List Spot) : ByteArray := ⟨(Lib.join ((xs.map spotT).map (·.data.toList)) [32]).toArray⟩
theorem outT_nil : outT [] = ⟨#[]⟩ := rfl
theorem outT_one (p : Spot) : outT [p] = ⟨#[]⟩ ++ spotT p := by
  apply Go.WideShapes.bytes_inj
  simp [outT, Lib.join_one]
theorem outT_step (xs : List Spot) (p : Spot) (h : 0 < xs.length) : outT (xs ++ [p]) = outT xs ++ ⟨#[32]⟩ ++ spotT p := by
  match xs, h with
  | y :: ys, _ =>
    apply Go.WideShapes.bytes_inj
    unfold outT
    rw [List.cons_append, List.map_cons, List.map_cons, Lib.join_cons, List.map_cons, List.map_cons, Lib.join_cons]
    simp [Lib.joinTail]
theorem outT_take (xs : List Spot) (_hk : ∀ x ∈ xs, okSpot x = true) (k : Nat) (hlt : k < xs.length) (h0 : 0 < k) : outT (xs.take k) ++ ⟨#[32]⟩ ++ spotT xs[k] = outT (xs.take (k + 1)) := by
  rw [List.take_succ_eq_append_getElem hlt, outT_step _ _ (by rw [List.length_take]; omega)]
theorem outT_size (xs : List Spot) (hk : ∀ x ∈ xs, okSpot x = true) : ∀ k, k ≤ xs.length → (outT (xs.take k)).size ≤ 44 * k
  | 0, _ => by rw [List.take_zero]; exact Nat.zero_le _
  | k + 1, h => by
    have ih := outT_size xs hk k (by omega)
    have hz := spotT_size (hk _ (List.getElem_mem (show k < xs.length by omega)))
    have h2 : (⟨#[32]⟩ : ByteArray).size = 1 := rfl
    have h3 : (⟨#[]⟩ : ByteArray).size = 0 := rfl
    by_cases h0 : 0 < k
    · rw [← outT_take xs hk k (by omega) h0, ByteArray.size_append, ByteArray.size_append]
      omega
    · obtain rfl : k = 0 := by omega
      rw [List.take_succ_eq_append_getElem (show 0 < xs.length by omega), List.take_zero, List.nil_append, outT_one, ByteArray.size_append]
      omega
/-- An outline's text. -/
def outlineText (xs : List Spot) : ByteArray := cond (okOutline xs) (outT xs) ⟨#[]⟩
theorem outlineText_true {xs : List Spot} (h : okOutline xs = true) : outlineText xs = outT xs := by simp [outlineText, h]
theorem outlineText_false {xs : List Spot} (h : okOutline xs = false) : outlineText xs = ⟨#[]⟩ := by simp [outlineText, h]
set_option maxRecDepth 100000 in
set_option maxHeartbeats 1600000 in
theorem l07Text_c (a : Option Addr) (xs : List Spot) (c : Nat) (w : World) (hx : At w a xs) (hl : xs.length ≤ 24) (hk : ∀ x ∈ xs, okSpot x = true) :
    Calls Tryz.prog 177 #[.slice a xs.length c] w fun e w' => e = .returned (.string (outT xs)) ∧ Below w.heap.size w w' := by
  have hsz := Lib.hid (outT_size xs hk)
  replace hk := Lib.hid hk
  have r0 : Hid (⟨#[]⟩ = outT (xs.take 0)) := Lib.hid rfl
  go_enter Tryz.func177, Tryz.ntmps177
  go_wp2_with fail
  go_loopw [3, 4] (fun s i wr => ∃ (k : Nat) (t : ByteArray), k ≤ xs.length ∧ t.size ≤ 44 * k ∧ i = .int .i64 k ∧ s = .string t ∧ Hid (t = outT (xs.take k)) ∧ Below w.heap.size w wr) (fun _ i _ => xs.length - (intOf i).toNat)
  case atStart => exact ⟨0, _, Nat.zero_le _, Nat.zero_le _, rfl, rfl, r0, Below.refl _ _⟩
  case round =>
    obtain ⟨k, t, hle, hts, rfl, rfl, ht, hb⟩ := hrel
    have hx2 := hx.below hb
    by_cases hlt : k < xs.length
    · obtain ⟨b, off, rfl⟩ := hx2.addr hlt
      obtain ⟨c0, c1⟩ := hx2.spot hlt
      have hkk := okSpot_iff.1 (hk.out _ (List.getElem_mem hlt))
      have z0 := decT_size xs[k].X (by omega) (by omega)
      have z1 := decT_size xs[k].Y (by omega) (by omega)
      have D0 := Lib.hid (fun w' => l01Dec_c xs[k].X w' (by omega) (by omega))
      have D1 := Lib.hid (fun w' => l01Dec_c xs[k].Y w' (by omega) (by omega))
      have hs2 := Lib.hid (hsz.out (k + 1) (by omega))
      have eS := Lib.hid (spotT_eq xs[k])
      replace c0 := rg c0
      replace c1 := rg c1
      clear hx2
      have hd : (⟨#[44]⟩ : ByteArray).size = 1 := rfl
      by_cases h0 : 0 < k
      · have E : Hid (t ++ ⟨#[32]⟩ ++ (decT xs[k].X ++ ⟨#[44]⟩ ++ decT xs[k].Y) = outT (xs.take (k + 1))) := Lib.hid (by have := outT_take xs hk.out k hlt h0; rw [eS.out] at this; rw [ht.out]; exact this)
        go_wp2_with fail
        refine wp_region_quiet_below (by kernel_rfl) (by kernel_rfl) ?_
        repeat (go_big_quiet_step ((go_at_call 201; first | with_reducible exact Calls.regrown_of (D0.out _) | with_reducible exact Calls.regrown_of (D1.out _))))
        refine wpQuiet_nil ?_
        intro w2 hw'
        replace hb := upw hb (grown_of hw')
        clear hw'
        go_wp2_with fail
        go_roundw
        case rel => exact ⟨k + 1, _, by omega, by rw [E.out]; exact hs2.out, by go_num, rfl, E, hb⟩
        case measure => simp [intOf]; omega
      · obtain rfl : k = 0 := by omega
        simp only [Nat.zero_mul, Nat.add_zero] at c0 c1
        have E : Hid (t ++ (decT xs[0].X ++ ⟨#[44]⟩ ++ decT xs[0].Y) = outT (xs.take (0 + 1))) := Lib.hid (by rw [ht.out, List.take_zero, outT_nil, List.take_succ_eq_append_getElem hlt, List.take_zero, List.nil_append, outT_one, eS.out])
        go_wp2_with fail
        refine wp_region_quiet_below (by kernel_rfl) (by kernel_rfl) ?_
        repeat (go_big_quiet_step ((go_at_call 201; first | with_reducible exact Calls.regrown_of (D0.out _) | with_reducible exact Calls.regrown_of (D1.out _))))
        refine wpQuiet_nil ?_
        intro w2 hw'
        replace hb := upw hb (grown_of hw')
        clear hw'
        go_wp2_with fail
        go_roundw
        case rel => exact ⟨0 + 1, _, by omega, by rw [E.out]; exact hs2.out, by go_num, rfl, E, hb⟩
        case measure => simp [intOf]; omega
    · obtain rfl : k = xs.length := by omega
      rw [List.take_length] at ht
      go_wp2_with fail
      go_ret
      exact ⟨by rw [ht.out]; rfl, hb⟩
theorem specOutlineText_c (a : Option Addr) (xs : List Spot) (c : Nat) (w : World) (hx : At w a xs) (hl : xs.length ≤ 9223372036854775807) :
    Calls Tryz.prog 88 #[.slice a xs.length c] w fun e w' => e = .returned (.string (outlineText xs)) ∧ Below w.heap.size w w' := by
  cases h1 : okOutline xs
  · have e1 := Lib.hid (outlineText_false h1)
    go_enter Tryz.func88, Tryz.ntmps88
    go_wp2_with fail
    refine (as_boolB h1 (l07Ok_c _ _ _ _ hx hl)).mono ?_
    rintro e w2 ⟨rfl, hb⟩
    go_wp2_with fail
    go_ret
    exact ⟨by rw [e1.out]; rfl, hb⟩
  · have e1 := Lib.hid (outlineText_true h1)
    have hk := (okOutline_iff.1 h1).1
    have hT := Lib.hid (fun w' (hb : Below w.heap.size w w') => l07Text_c a xs c w' (hx.below hb) hk.1.2 hk.2)
    go_enter Tryz.func88, Tryz.ntmps88
    go_wp2_with fail
    refine (as_boolB h1 (l07Ok_c _ _ _ _ hx hl)).mono ?_
    rintro e w2 ⟨rfl, hb⟩
    go_wp2_with fail
    refine (hT.out _ hb).mono ?_
    rintro e w3 ⟨rfl, hb3⟩
    go_wp2_with fail
    go_ret
    exact ⟨by rw [e1.out]; rfl, upw hb hb3⟩
theorem nb_ (w : World) (o : Obj) : Below w.heap.size w (w.alloc o) := (Below.refl _ _).alloc (Nat.le_refl _) _
theorem own_pair (w : World) (t : TypeId) (x y : Int) : Own w.heap.size (w.alloc (.cells #[.int .i64 x, .int .i64 y] t)) t (.slice (some ⟨w.heap.size, 0, none⟩) 2 2) [x, y] :=
  ⟨rfl, .inr ⟨w.heap.size, 2, #[.int .i64 x, .int .i64 y], rfl, Nat.le_refl _, heap_alloc_new _ _, Nat.le_refl _, by unfold maxLen; omega, rfl, rfl⟩⟩
theorem at_pair (w : World) (t : TypeId) (x y : Int) : At (w.alloc (.cells #[.int .i64 x, .int .i64 y] t)) (some ⟨w.heap.size, 0, none⟩) [x, y] := (own_pair w t x y).at'
set_option maxRecDepth 100000 in
set_option maxHeartbeats 3200000 in
theorem outlineText_c (a : Option Addr) (xs : List Spot) (c : Nat) (w : World) (hx : At w a xs) (hl : xs.length ≤ 1000) (h3 : 0 < xs.length) (hk : ∀ x ∈ xs, (-9223372036854775808 ≤ x.X ∧ x.X ≤ 9223372036854775807) ∧ (-9223372036854775808 ≤ x.Y ∧ x.Y ≤ 9223372036854775807)) (hT : Tab w) :
    Calls Tryz.prog 175 #[.slice a xs.length c] w fun e w' => e = .returned (.string (outT xs)) ∧ Below w.heap.size w w' := by
  have hO0 := Lib.hid (own_new (α := ByteArray) w 9)
  have hb0 : Below w.heap.size w (w.alloc (.cells #[] 9)) := nb_ _ _
  replace hk := Lib.hid hk
  replace hT := Lib.hid hT
  go_enter Tryz.func175, Tryz.ntmps175
  go_wp2_with fail
  go_loopw [3, 5, 9] (fun v _ i wr => ∃ k : Nat, k ≤ xs.length ∧ i = .int .i64 k ∧ Hid (Own w.heap.size wr 9 v ((xs.take k).map spotT)) ∧ Below w.heap.size w wr) (fun _ _ i _ => xs.length - (intOf i).toNat)
  case atStart => exact ⟨0, Nat.zero_le _, rfl, hO0, hb0⟩
  case round =>
    obtain ⟨k, hle, rfl, hO, hb⟩ := hrel
    by_cases hlt : k < xs.length
    · have hx2 := hx.below hb
      obtain ⟨b, off, rfl⟩ := hx2.addr hlt
      have hbl := hx2.lt hlt
      obtain ⟨c0, c1⟩ := hx2.spot hlt
      have hrx := hk.out _ (List.getElem_mem hlt)
      have E : Hid ((xs.take (k + 1)).map spotT = (xs.take k).map spotT ++ [spotT xs[k]]) := Lib.hid (by rw [List.take_succ_eq_append_getElem hlt, List.map_append]; rfl)
      obtain ⟨X, hX⟩ : ∃ X, X = xs[k].X := ⟨_, rfl⟩
      obtain ⟨Y, hY⟩ : ∃ Y, Y = xs[k].Y := ⟨_, rfl⟩
      have hS : Hid (numsT ⟨#[44]⟩ [X, Y] = spotT xs[k]) := Lib.hid (by rw [hX, hY]; rfl)
      rw [← hX] at c0 hrx
      rw [← hY] at c1 hrx
      obtain ⟨S, hSe⟩ : ∃ S, S = spotT xs[k] := ⟨_, rfl⟩
      rw [← hSe] at hS E
      replace hX := Lib.hid hX
      replace hY := Lib.hid hY
      replace hSe := Lib.hid hSe
      have e1 : (wr.alloc (.cells #[.int .i64 X, .int .i64 Y] 106)).heap.size = wr.heap.size + 1 := by simp
      have hA2 := at_pair (wr.alloc (.cells #[.int .i64 X, .int .i64 Y] 106)) 2 X Y
      rw [e1] at hA2
      have hbA : Below wr.heap.size wr ((wr.alloc (.cells #[.int .i64 X, .int .i64 Y] 106)).alloc (.cells #[.int .i64 X, .int .i64 Y] 2)) := upw (nb_ _ _) (nb_ _ _)
      have hN := Lib.hid (numbersText_c ⟨#[44]⟩ (some ⟨wr.heap.size + 1, 0, none⟩) [X, Y] 2 _ hA2 (by simp) (by simp) (by simp; omega) (by decide) (hT.out.below (upw hb hbA)))
      rw [hS.out] at hN
      have hlk : Hid (((xs.take k).map spotT).length ≤ 1000) := Lib.hid (by rw [List.length_map, List.length_take]; omega)
      clear hx2 hA2 e1
      replace hbA := Lib.hid hbA
      go_wp2_with fail
      refine hN.out.mono ?_
      rintro e w2 ⟨rfl, hb2⟩
      replace hb2 := upw hbA.out hb2
      replace hb := upw hb hb2
      have hsz := hb.size
      have hO2 := Lib.hid (hO.out.later hb2)
      have hb3 : Below w2.heap.size w2 (w2.alloc (.cells #[.string S] 9)) := nb_ _ _
      go_wp2_with (at_builtin; refine wpList_push rfl (.tmp 13) (.tmp 20) 126 rfl w.heap.size 9 (.string ⟨#[]⟩) 16 Tryz.underlying126 infoStr rfl _ _ S rfl (hO2.out.later hb3) _ _ rfl 9 (heap_alloc_new _ _) (by have := hlk.out; omega) (by decide) (by simp; omega) ?_; intro v1 w7 hO1 hg1)
      go_roundw
      case rel => exact ⟨k + 1, by omega, by go_num, Lib.hid (by rw [E.out]; exact hO1), below_mark (upw hb hb3) (hO2.out.later hb3) (Nat.le_refl _) hg1⟩
      case measure => simp [intOf]; omega
    · obtain rfl : k = xs.length := by omega
      rw [List.take_length] at hO
      have hlm : (xs.map spotT).length = xs.length := List.length_map _
      obtain ⟨g, cap, hv⟩ := hO.out.row (by rw [hlm]; exact h3)
      rw [hv] at hO ⊢
      have hcap := own_cap2 hO.out
      have hgl := (hO.out.lt g rfl).2
      have hA := hO.out.at'
      have hz : ∀ x ∈ xs, (spotT x).size ≤ 43 := fun x hx => by
        have h1 := hk.out x hx
        have z0 := decT_size x.X (by omega) (by omega)
        have z1 := decT_size x.Y (by omega) (by omega)
        have h2 : (⟨#[44]⟩ : ByteArray).size = 1 := rfl
        rw [spotT_eq, ByteArray.size_append, ByteArray.size_append]
        omega
      have hjl : (Lib.join ((xs.map spotT).map (fun s : ByteArray => s.data.toList)) (⟨#[32]⟩ : ByteArray).data.toList).length ≤ 140737488355328 := by
        obtain ⟨y, ys, hys⟩ : ∃ y ys, xs = y :: ys := by
          cases xs with
          | nil => simp at h3
          | cons y ys => exact ⟨y, ys, rfl⟩
        rw [hys] at hz hl ⊢
        rw [List.map_cons, List.map_cons, Lib.join_cons, List.length_append]
        have h1 := hz y (by simp)
        have h2 := joinTail_length (⟨#[32]⟩ : ByteArray).data.toList 43 ((ys.map spotT).map (fun s : ByteArray => s.data.toList)) (fun x hx => by
          obtain ⟨z, hz1, rfl⟩ := List.mem_map.1 hx
          obtain ⟨z2, hz2, rfl⟩ := List.mem_map.1 hz1
          have := hz z2 (List.mem_cons_of_mem _ hz2)
          exact this)
        rw [List.length_map, List.length_map] at h2
        rw [List.length_cons] at hl
        have h4 : (⟨#[32]⟩ : ByteArray).data.toList.length = 1 := rfl
        have h5 : (spotT y).data.toList.length ≤ 43 := h1
        rw [h4] at h2
        omega
      have hJ := Lib.hid (joinMany g 0 cap (xs.map spotT) ⟨#[32]⟩ wr (fun j s hj => by
        obtain ⟨hj1, hj2⟩ := List.getElem?_eq_some_iff.1 hj
        have := hA.str hj1
        rw [hj2] at this
        exact this) hgl (by rw [hlm]; omega) hcap.1 hjl)
      rw [hlm] at hJ ⊢
      clear hA hcap hjl hz
      go_wp2_with fail
      refine hJ.out.mono ?_
      rintro e w2 ⟨rfl, hb2⟩
      replace hb := upw hb hb2
      have hv2 : outT xs = ⟨(Lib.join (List.map ((fun x : ByteArray => x.data.toList) ∘ spotT) xs) [32]).toArray⟩ := by unfold outT; rw [List.map_map]
      replace hv2 := Lib.hid hv2
      go_wp2_with fail
      go_ret
      exact ⟨by rw [hv2.out]; rfl, hb⟩
theorem implOutlineText_c (a : Option Addr) (xs : List Spot) (c : Nat) (w : World) (hx : At w a xs) (hl : xs.length ≤ 9223372036854775807) (hT : Tab w) :
    Calls Tryz.prog 82 #[.slice a xs.length c] w fun e w' => e = .returned (.string (outlineText xs)) ∧ Below w.heap.size w w' := by
  cases h1 : okOutline xs
  · have e1 := Lib.hid (outlineText_false h1)
    go_enter Tryz.func82, Tryz.ntmps82
    go_wp2_with fail
    refine (as_boolB h1 (implValidOutline_c _ _ _ _ hx hl)).mono ?_
    rintro e w2 ⟨rfl, hb⟩
    go_wp2_with fail
    go_ret
    exact ⟨by rw [e1.out]; rfl, hb⟩
  · have e1 := Lib.hid (outlineText_true h1)
    have hk := (okOutline_iff.1 h1).1
    have hI := Lib.hid (fun w' (hb : Below w.heap.size w w') => outlineText_c a xs c w' (hx.below hb) (by omega) (by omega) (fun x hx => by have := okSpot_iff.1 (hk.2 x hx); omega) (hT.below hb))
    go_enter Tryz.func82, Tryz.ntmps82
    go_wp2_with fail
    refine (as_boolB h1 (implValidOutline_c _ _ _ _ hx hl)).mono ?_
    rintro e w2 ⟨rfl, hb⟩
    go_wp2_with fail
    refine (hI.out _ hb).mono ?_
    rintro e w3 ⟨rfl, hb3⟩
    go_wp2_with fail
    go_ret
    exact ⟨by rw [e1.out]; rfl, upw hb hb3⟩
end Go.Proofs.YtledlkggggpdpaaGreatDoor
