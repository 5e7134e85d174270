/- Chapter 4, lasts as texts, written and read back: the program. -/
import Derived.Test.YtaeinllbjkjhlaaGreatDoorLas3
import Derived.Test.YtaeinllbjkjhlaaGreatDoorFootT
namespace Go.Proofs.YtaeinllbjkjhlaaGreatDoor
open Go.RowKit

theorem count_splitC (c : UInt8) : ∀ (n : Nat) (l : List UInt8), l.length ≤ n → Lib.count l [c] + 1 = (splitC c l).length
  | 0, l, h => by
    obtain rfl : l = [] := List.length_eq_zero_iff.1 (by omega)
    rw [Lib.count_miss (index_free (by simp)), splitC_free (by simp)]; rfl
  | n + 1, l, h => by
    by_cases hm : c ∈ l
    · obtain ⟨a, b, rfl, ha⟩ := splitC_some hm
      have hl : b.length ≤ n := by simp at h; omega
      rw [Lib.count_hit (i := a.length) (by simp) (index_first b ha), splitC_cons b ha]
      have e : (a ++ c :: b).drop (a.length + [c].length) = b := by
        rw [show a.length + [c].length = (a ++ [c]).length by simp, show a ++ c :: b = (a ++ [c]) ++ b by simp, List.drop_left]
      rw [e, List.length_cons, ← count_splitC c n b hl]
      omega
    · rw [Lib.count_miss (index_free hm), splitC_free hm]; rfl
theorem split_c (s : ByteArray) (c : UInt8) (w : World) (hT : TabR w) (hs : s.size ≤ 1000000) :
    Calls Tryz.prog 46 #[.string s, .string ⟨#[c]⟩] w fun e w' => ∃ v, e = .returned v ∧ Own w.heap.size w' 9 v (parts c s) ∧ Below w.heap.size w w' := by
  obtain ⟨m, hm⟩ := hT.ml
  have hS := strSplit s ⟨#[c]⟩ m w (by omega) hm (Nat.le_refl 1)
  have hcnt : Lib.countB s ⟨#[c]⟩ + 1 = (splitC c s.data.toList).length := count_splitC c _ _ (Nat.le_refl _)
  have hps : Lib.splitB ⟨#[c]⟩ 0 (Lib.countB s ⟨#[c]⟩) s = parts c s := by
    refine parts_of ?_
    rw [Lib.splitB_data]
    exact (splitK_eq c _ _).2 (by omega)
  rw [hps, hcnt] at hS
  have hl : (parts c s).length = (splitC c s.data.toList).length := parts_length _ _
  refine hS.mono ?_
  rintro e w' ⟨rfl, rfl⟩
  have hlen := splitC_length_le c s.data.toList
  rw [size_len] at hlen
  refine ⟨_, rfl, ?_, newB _ _⟩
  rw [← hl]
  exact own_alloc w 9 _ (parts c s) (by simp only [flat, Flat.el]; rw [List.map_eq_flatMap]) (by omega)
def lastTxt (x : Last) : ByteArray := x.Name ++ ⟨#[32]⟩ ++ footTxt (lastFoot x) ++ ⟨#[32, 112, 105, 116, 99, 104, 32]⟩ ++ decT x.Pitch
theorem name_free {s : ByteArray} (h : isName s = true) : (32 : UInt8) ∉ s.data.toList := fun hm => by
  obtain ⟨i, hi, e⟩ := List.getElem_of_mem hm
  have h1 : allUpto s.size (fun i => nameByte (byteAt s i)) = true := by
    simp only [isName, Bool.and_eq_true] at h
    exact h.2
  have h2 := allUpto_iff.1 h1 i (by rw [← size_len]; exact hi)
  have h3 : byteAt s i = 32 := by
    unfold byteAt
    rw [List.getD_eq_getElem?_getD, List.getElem?_eq_getElem hi, e]; rfl
  rw [h3] at h2
  revert h2
  decide
theorem parts_last {x : Last} (h : okLast x = true) : parts 32 (lastTxt x) = [x.Name, footTxt (lastFoot x), ⟨#[112, 105, 116, 99, 104]⟩, decT x.Pitch] := by
  have hn := name_free (okLast_iff2.1 h).1
  have hf : (32 : UInt8) ∉ (footTxt (lastFoot x)).data.toList := numsT_free isSep_blank (by decide) _
  have hd : (32 : UInt8) ∉ (decT x.Pitch).data.toList := by rw [decT_list]; exact itoa_free isSep_blank _
  have hp : (32 : UInt8) ∉ ([112, 105, 116, 99, 104] : List UInt8) := by decide
  have e : (lastTxt x).data.toList = x.Name.data.toList ++ 32 :: ((footTxt (lastFoot x)).data.toList ++ 32 :: ([112, 105, 116, 99, 104] ++ 32 :: (decT x.Pitch).data.toList)) := by
    unfold lastTxt; simp
  unfold parts
  rw [e, splitC_cons _ hn, splitC_cons _ hf, splitC_cons _ hp, splitC_free hd]
  simp
theorem footTxt_len {x : Last} (h : okLast x = true) : (footTxt (lastFoot x)).size ≤ 100 := by
  obtain ⟨_, ⟨h1, h2, h3, h4⟩, _⟩ := okLast_iff2.1 h
  have hi : ∀ n : Int, 500 ≤ n ∧ n ≤ 5000 → (Lib.itoa n).length ≤ 21 := fun n hn => Lib.itoa_length_le n (by omega) (by omega)
  have a0 := hi _ h1; have a1 := hi _ h2; have a2 := hi _ h3; have a3 := hi _ h4
  have e : (footTxt (lastFoot x)).size = (Lib.join ((fourOf (lastFoot x)).map Lib.itoa) [47]).length := by
    show (List.toArray _).size = _
    simp
  rw [e]
  simp only [fourOf, lastFoot, List.map_cons, List.map_nil, Lib.join_cons, Lib.joinTail, List.flatten_cons, List.flatten_nil, List.length_append, List.length_cons, List.length_nil]
  omega
theorem decP_len {x : Last} (h : okLast x = true) : (decT x.Pitch).size ≤ 21 := by
  obtain ⟨_, _, h5⟩ := okLast_iff2.1 h
  have a4 : (Lib.itoa x.Pitch).length ≤ 21 := Lib.itoa_length_le _ (by omega) (by omega)
  have : (decT x.Pitch).size = (Lib.itoa x.Pitch).length := by
    show (List.toArray _).size = _
    simp
  omega
theorem lastTxt_size {x : Last} (h : okLast x = true) : (lastTxt x).size ≤ 1000000 := by
  have an := isName_size (okLast_iff2.1 h).1
  have e2 := footTxt_len h
  have e3 := decP_len h
  have e4 : (⟨#[32]⟩ : ByteArray).size = 1 := rfl
  have e5 : (⟨#[32, 112, 105, 116, 99, 104, 32]⟩ : ByteArray).size = 7 := rfl
  unfold lastTxt
  simp only [ByteArray.size_append]
  omega
set_option maxHeartbeats 1600000 in
theorem lastText_ok (x : Last) (w : World) (h : okLast x = true) (hT : Tab w) :
    Calls Tryz.prog 11 #[.agg #[.string x.Name, .int .i64 x.Length, .int .i64 x.Ball, .int .i64 x.Instep, .int .i64 x.Heel, .int .i64 x.Pitch]] w fun e w' => e = .returned (.string (lastTxt x)) ∧ Below w.heap.size w w' := by
  obtain ⟨hn, hfo, hp⟩ := okLast_iff2.1 h
  have hns := isName_size hn
  have hf : okFoot (lastFoot x) = true := okFoot_iff.2 hfo
  obtain ⟨w1, hw1⟩ : ∃ w1, w1 = w.alloc (.cells #[.string x.Name, .int .i64 x.Length, .int .i64 x.Ball, .int .i64 x.Instep, .int .i64 x.Heel, .int .i64 x.Pitch] 30) := ⟨_, rfl⟩
  have D : Sp w w1 [ite' 30 (.slice (some ⟨w.heap.size, 0, none⟩) 6 6) (lastC x)] := by rw [hw1]; exact (Sp.refl w).add (newB w _) (own_lastC w _ x)
  have k1 := Lib.hid (fun w' => validLast_c x w' (by omega))
  rw [h] at k1
  have k2 := Lib.hid (fun w' => lastFoot_c x w')
  have k3 := Lib.hid (fun w' hT' => footText_ok (lastFoot x) w' hf hT')
  have k4 := Lib.hid (fun w' hT' => decimal_c x.Pitch w' (by omega) (by omega) hT')
  replace hT := hT.below D.up
  replace hT := Lib.hid hT
  replace hw1 := Lib.hid hw1
  replace D := Lib.hid D
  have hL := Lib.hid (show lastTxt x = x.Name ++ ⟨#[32]⟩ ++ footTxt (lastFoot x) ++ ⟨#[32, 112, 105, 116, 99, 104, 32]⟩ ++ decT x.Pitch from rfl)
  have hz1 := footTxt_len h
  have hz2 := decP_len h
  simp only [lastFoot] at k3 hL hz1
  generalize footTxt ⟨x.Length, x.Ball, x.Instep, x.Heel⟩ = F at k3 hL hz1
  generalize decT x.Pitch = P at k4 hL hz2
  have n1 : ¬ 9223372036854775807 < x.Name.size + 1 := by omega
  have n2 : ¬ 9223372036854775807 < x.Name.size + 1 + F.size := by omega
  have n3 : ¬ 9223372036854775807 < x.Name.size + 1 + F.size + 7 := by omega
  have n4 : ¬ 9223372036854775807 < x.Name.size + 1 + F.size + 7 + P.size := by omega
  rw [hL.out]
  clear hL h hn hfo hp hf
  obtain ⟨x0, x1, x2, x3, x4, x5⟩ := lastC_cells (D.out.get 0 rfl)
  go_enter Tryz.func11, Tryz.ntmps11
  go_wp2_with (rw [← hw1.out])
  refine (k1.out _).mono ?_
  rintro e w2 ⟨rfl, hb⟩
  replace D := Lib.hid (D.out.later hb)
  replace hT := Lib.hid (hT.out.below hb)
  clear hb hw1 k1 x0 x1 x2 x3 x4 x5
  obtain ⟨x0, x1, x2, x3, x4, x5⟩ := lastC_cells (D.out.get 0 rfl)
  go_wp2_with fail
  replace x0 := rg x0
  replace x1 := rg x1
  replace x2 := rg x2
  replace x3 := rg x3
  replace x4 := rg x4
  replace x5 := rg x5
  refine wp_region_quiet_below (by kernel_rfl) (by kernel_rfl) ?_
  repeat (go_big_quiet_step (first | (go_at_call 50; exact Calls.regrown_of (k2.out _)) | (go_at_call 49; exact Calls.regrown_of (k3.out _ (hT.out.below (grown_of ⟨⟨_, _⟩, rfl⟩)))) | (go_at_call 51; exact Calls.regrown_of (k4.out _ (hT.out.below (grown_of ⟨⟨_, _⟩, rfl⟩))))))
  refine wpQuiet_nil ?_
  intro wq hw'
  have hb := grown_of hw'
  clear hw'
  go_wp2_with fail
  go_ret
  exact ⟨rfl, upw D.out.up hb⟩
set_option maxRecDepth 100000 in
set_option maxHeartbeats 3200000 in
theorem readLast_ok (x : Last) (w : World) (h : okLast x = true) (hT : TabR w) :
    Calls Tryz.prog 10 #[.string (lastTxt x)] w fun e w' => e = .returned (.tuple #[.agg #[.string x.Name, .int .i64 x.Length, .int .i64 x.Ball, .int .i64 x.Instep, .int .i64 x.Heel, .int .i64 x.Pitch], .bool true]) ∧ Below w.heap.size w w' := by
  have hT0 := Lib.hid hT
  obtain ⟨hn, hfo, hp⟩ := okLast_iff2.1 h
  have hf : okFoot (lastFoot x) = true := okFoot_iff.2 hfo
  obtain ⟨w1, hw1⟩ : ∃ w1, w1 = w.alloc (.cells #[.string { data := #[] }, .int .i64 0, .int .i64 0, .int .i64 0, .int .i64 0, .int .i64 0] 30) := ⟨_, rfl⟩
  have D : Sp w w1 [ite' 30 (.slice (some ⟨w.heap.size, 0, none⟩) 1 1) [(⟨ByteArray.empty, 0, 0, 0, 0, 0⟩ : Last)]] := by rw [hw1]; exact (Sp.refl w).add (newB w _) (own_last1 w _ ⟨ByteArray.empty, 0, 0, 0, 0, 0⟩)
  have k1 := Lib.hid (fun w' hT' => split_c (lastTxt x) 32 w' hT' (lastTxt_size h))
  have k2 := Lib.hid (fun w' hT' => readFoot_ok (lastFoot x) w' hf hT')
  have k3 := Lib.hid (fun w' hT' => readDecimal_c (decT x.Pitch) w' hT' (by
    have h1 : (Lib.itoa x.Pitch).length ≤ 21 := Lib.itoa_length_le _ (by omega) (by omega)
    have h2 : (decT x.Pitch).size = (Lib.itoa x.Pitch).length := by
      show (List.toArray _).size = _
      simp
    omega))
  rw [rdB_dec (by omega)] at k3
  rw [numRes_some rfl] at k3
  have k4 := Lib.hid (fun w' hT' => lastText_ok x w' h hT')
  rw [parts_last h] at k1
  simp only [lastFoot] at k1 k2
  generalize footTxt ⟨x.Length, x.Ball, x.Instep, x.Heel⟩ = F at k1 k2
  generalize decT x.Pitch = P at k1 k3
  obtain ⟨S, hS⟩ : ∃ S, S = lastTxt x := ⟨_, rfl⟩
  rw [← hS] at k1 k4 ⊢
  clear hS
  have hSS : (S.toList == S.toList) = true := by simp
  replace hT := hT.below D.up
  replace hT := Lib.hid hT
  replace hw1 := Lib.hid hw1
  replace D := Lib.hid D
  clear h hn hfo hp hf
  go_enter Tryz.func10, Tryz.ntmps10
  go_wp2_with (rw [← hw1.out])
  refine (k1.out _ hT.out).mono ?_
  rintro e w2 ⟨v, rfl, hO, hb⟩
  obtain ⟨a1, c1, rfl, -⟩ := hO.at
  replace D := Lib.hid (D.out.add hb hO)
  replace hT := Lib.hid (hT.out.below hb)
  clear hb hO hw1 k1
  obtain ⟨bk, off, hae⟩ := (D.out.get 0 rfl : Own _ _ _ _ [x.Name, F, ⟨#[112, 105, 116, 99, 104]⟩, P]).at'.addr (i := 0) (by simp)
  obtain rfl := hae
  have y1 := (D.out.get 0 rfl : Own _ _ _ _ [x.Name, F, ⟨#[112, 105, 116, 99, 104]⟩, P]).at'.str (i := 1) (by simp)
  simp only [List.getElem_cons_zero, List.getElem_cons_succ] at y1
  go_wp2_with fail
  refine (k2.out _ hT.out).mono ?_
  rintro e w3 ⟨rfl, hb⟩
  replace D := Lib.hid (D.out.later hb)
  replace hT := Lib.hid (hT.out.below hb)
  clear hb k2 y1
  obtain ⟨wn, hwn⟩ : ∃ wn, wn = w3.alloc (.cells #[.int .i64 x.Length, .int .i64 x.Ball, .int .i64 x.Instep, .int .i64 x.Heel] 25) := ⟨_, rfl⟩
  replace D := Lib.hid (D.out.add (w' := wn) (by rw [hwn]; exact newB w3 _) (by rw [hwn]; exact own_footC w3 25 ⟨x.Length, x.Ball, x.Instep, x.Heel⟩))
  replace hT := Lib.hid (hT.out.below (w' := wn) (by rw [hwn]; exact newB w3 _))
  replace hwn := Lib.hid hwn
  have y3 := (D.out.get 1 rfl : Own _ _ _ _ [x.Name, F, ⟨#[112, 105, 116, 99, 104]⟩, P]).at'.str (i := 3) (by simp)
  simp only [List.getElem_cons_zero, List.getElem_cons_succ] at y3
  obtain ⟨nf, hnf⟩ : ∃ b, b = w3.heap.size := ⟨_, rfl⟩
  go_wp2_with (rw [← hwn.out])
  rw [← hnf] at D ⊢
  clear hnf hwn w3
  refine (k3.out _ hT.out).mono ?_
  rintro e w3 ⟨rfl, hb⟩
  replace D := Lib.hid (D.out.later hb)
  replace hT := Lib.hid (hT.out.below hb)
  clear hb k3 y3
  go_wp2_with fail
  refine wp_region_held_drew (S := (fun w' => w'.cell? ⟨bk, off, none⟩ = some (.string x.Name) ∧ w'.cell? ⟨nf, 0, none⟩ = some (.int .i64 x.Length) ∧ w'.cell? ⟨nf, 1, none⟩ = some (.int .i64 x.Ball) ∧ w'.cell? ⟨nf, 2, none⟩ = some (.int .i64 x.Instep) ∧ w'.cell? ⟨nf, 3, none⟩ = some (.int .i64 x.Heel))) (by kernel_rfl) ⟨by simpa using (D.out.get 1 rfl : Own _ _ _ _ [x.Name, F, ⟨#[112, 105, 116, 99, 104]⟩, P]).at'.str (i := 0) (by simp), (footC_cells (D.out.get 0 rfl : Own _ _ _ _ (footC ⟨x.Length, x.Ball, x.Instep, x.Heel⟩))).1, (footC_cells (D.out.get 0 rfl : Own _ _ _ _ (footC ⟨x.Length, x.Ball, x.Instep, x.Heel⟩))).2.1, (footC_cells (D.out.get 0 rfl : Own _ _ _ _ (footC ⟨x.Length, x.Ball, x.Instep, x.Heel⟩))).2.2.1, (footC_cells (D.out.get 0 rfl : Own _ _ _ _ (footC ⟨x.Length, x.Ball, x.Instep, x.Heel⟩))).2.2.2⟩ (fun hHeld => ?_)
  obtain ⟨wo, hwo⟩ : ∃ wo, wo = w3.drew := ⟨_, rfl⟩
  rw [← hwo] at hHeld ⊢
  have hbo : Below w3.heap.size w3 wo := by rw [hwo]; exact (Below.refl _ _).drew
  replace D := Lib.hid (D.out.later hbo)
  replace hT := Lib.hid (hT.out.below hbo)
  clear hwo hbo
  refine wpAnyH_take (i := 0) (v := _) rfl (by kernel_rfl) (by kernel_rfl) (by kernel_rfl) (fun _ _ _ h => h) (Or.inl ⟨by rfl, (by intro w hSw; (try dsimp only at hSw); go_simp; try with_reducible rfl)⟩) (by assumption) ?_
  go_simp
  refine wpAnyH_take (i := 1) (v := _) rfl (by kernel_rfl) (by kernel_rfl) (by kernel_rfl) (fun _ _ _ h => h) (Or.inl ⟨by rfl, (by intro w hSw; (try dsimp only at hSw); go_simp; try with_reducible rfl)⟩) (by assumption) ?_
  go_simp
  refine wpAnyH_take (i := 2) (v := _) rfl (by kernel_rfl) (by kernel_rfl) (by kernel_rfl) (fun _ _ _ h => h) (Or.inl ⟨by rfl, (by intro w hSw; (try dsimp only at hSw); go_simp; try with_reducible rfl)⟩) (by assumption) ?_
  go_simp
  refine wpAnyH_take (i := 3) (v := _) rfl (by kernel_rfl) (by kernel_rfl) (by kernel_rfl) (fun _ _ _ h => h) (Or.inl ⟨by rfl, (by intro w hSw; (try dsimp only at hSw); go_simp; try with_reducible rfl)⟩) (by assumption) ?_
  go_simp
  refine wpAnyH_take (i := 4) (v := _) rfl (by kernel_rfl) (by kernel_rfl) (by kernel_rfl) (fun _ _ _ h => h) (Or.inl ⟨by rfl, (by intro w hSw; (try dsimp only at hSw); go_simp; try with_reducible rfl)⟩) (by assumption) ?_
  go_simp
  refine wpAnyH_take (i := 5) (v := _) rfl (by kernel_rfl) (by kernel_rfl) (by kernel_rfl) (fun _ _ _ h => h) (Or.inl ⟨by rfl, (by intro w hSw; (try dsimp only at hSw); go_simp; try with_reducible rfl)⟩) (by assumption) ?_
  go_simp
  refine wpAnyH_take (i := 6) (v := _) rfl (by kernel_rfl) (by kernel_rfl) (by kernel_rfl) (fun _ _ _ h => h) (Or.inl ⟨by rfl, (by intro w hSw; (try dsimp only at hSw); go_simp; try with_reducible rfl)⟩) (by assumption) ?_
  go_simp
  refine wpAnyH_take (i := 7) (v := _) rfl (by kernel_rfl) (by kernel_rfl) (by kernel_rfl) (fun _ _ _ h => h) (Or.inl ⟨by rfl, (by intro w hSw; (try dsimp only at hSw); go_simp; try with_reducible rfl)⟩) (by assumption) ?_
  go_simp
  refine wpAnyH_take (i := 8) (v := _) rfl (by kernel_rfl) (by kernel_rfl) (by kernel_rfl) (fun _ _ _ h => h) (Or.inl ⟨by rfl, (by intro w hSw; (try dsimp only at hSw); go_simp; try with_reducible rfl)⟩) (by assumption) ?_
  go_simp
  refine wpAnyH_take (i := 9) (v := _) rfl (by kernel_rfl) (by kernel_rfl) (by kernel_rfl) (fun _ _ _ h => h) (Or.inl ⟨by rfl, (by intro w hSw; (try dsimp only at hSw); go_simp; try with_reducible rfl)⟩) (by assumption) ?_
  go_simp
  refine wpAnyH_take (i := 10) (v := _) rfl (by kernel_rfl) (by kernel_rfl) (by kernel_rfl) (fun _ _ _ h => h) (Or.inl ⟨by rfl, (by intro w hSw; (try dsimp only at hSw); go_simp; try with_reducible rfl)⟩) (by assumption) ?_
  go_simp
  refine wpAnyH_take (i := 11) (v := _) rfl (by kernel_rfl) (by kernel_rfl) (by kernel_rfl) (fun _ _ _ h => h) (Or.inl ⟨by rfl, (by intro w hSw; (try dsimp only at hSw); go_simp; try with_reducible rfl)⟩) (by assumption) ?_
  go_simp
  refine wpAnyH_take (i := 12) (v := _) rfl (by kernel_rfl) (by kernel_rfl) (by kernel_rfl) (fun _ _ _ h => h) (Or.inl ⟨by rfl, (by intro w hSw; (try dsimp only at hSw); go_simp; try with_reducible rfl)⟩) (by assumption) ?_
  go_simp
  refine wpAnyH_ready (rs := [13]) (by kernel_rfl) (by simp) ?_
  refine AllReadyH.cons rfl (fun K hK => ?_) AllReadyH.nil
  go_simp
  obtain ⟨wt, hwt⟩ : ∃ wt, wt = wo.alloc (.cells #[.string { data := #[] }, .int .i64 0, .int .i64 0, .int .i64 0, .int .i64 0, .int .i64 0] 30) := ⟨_, rfl⟩
  rw [← hwt]
  have hst : Below wo.heap.size wo wt := by rw [hwt]; exact newB _ _
  have V0 : Own wo.heap.size wt 30 (.slice (some ⟨wo.heap.size, 0, none⟩) 1 1) [(⟨ByteArray.empty, 0, 0, 0, 0, 0⟩ : Last)] := by rw [hwt]; exact own_last1 wo _ ⟨ByteArray.empty, 0, 0, 0, 0, 0⟩
  clear hwt
  replace D := Lib.hid (D.out.add hst V0)
  replace hT := Lib.hid (hT.out.below hst)
  obtain ⟨nx, hnx⟩ : ∃ b, b = wo.heap.size := ⟨_, rfl⟩
  rw [← hnx] at D ⊢
  clear hnx hst V0
  refine hK.out _ _ ⟨by simpa using (D.out.get 2 rfl : Own _ _ _ _ [x.Name, F, ⟨#[112, 105, 116, 99, 104]⟩, P]).at'.str (i := 0) (by simp), (footC_cells (D.out.get 1 rfl : Own _ _ _ _ (footC ⟨x.Length, x.Ball, x.Instep, x.Heel⟩))).1, (footC_cells (D.out.get 1 rfl : Own _ _ _ _ (footC ⟨x.Length, x.Ball, x.Instep, x.Heel⟩))).2.1, (footC_cells (D.out.get 1 rfl : Own _ _ _ _ (footC ⟨x.Length, x.Ball, x.Instep, x.Heel⟩))).2.2.1, (footC_cells (D.out.get 1 rfl : Own _ _ _ _ (footC ⟨x.Length, x.Ball, x.Instep, x.Heel⟩))).2.2.2⟩ (fun hHeld => ?_)
  clear hK K
  go_simp
  refine wpAnyH_ready (rs := [14]) (by kernel_rfl) (by simp) ?_
  refine AllReadyH.cons rfl (fun K hK => ?_) AllReadyH.nil
  refine cast (if_pos (by rfl)).symm ?_
  refine wp_store_own 30 (.tmp 9) (.tmp 42) rfl w.heap.size 30 nx 1 1 [(⟨ByteArray.empty, 0, 0, 0, 0, 0⟩ : Last)] 0 _ (x : Last) rfl rfl rfl (by kernel_rfl) rfl (D.out.get 0 rfl) (by simp) ?_
  intro wz V1 hgz
  replace D := Lib.hid (D.out.set 0 rfl V1 hgz (Or.inl rfl))
  have hTz := hT0.out.below D.out.up
  refine hK.out _ _ ⟨by simpa using (D.out.get 2 rfl : Own _ _ _ _ [x.Name, F, ⟨#[112, 105, 116, 99, 104]⟩, P]).at'.str (i := 0) (by simp), (footC_cells (D.out.get 1 rfl : Own _ _ _ _ (footC ⟨x.Length, x.Ball, x.Instep, x.Heel⟩))).1, (footC_cells (D.out.get 1 rfl : Own _ _ _ _ (footC ⟨x.Length, x.Ball, x.Instep, x.Heel⟩))).2.1, (footC_cells (D.out.get 1 rfl : Own _ _ _ _ (footC ⟨x.Length, x.Ball, x.Instep, x.Heel⟩))).2.2.1, (footC_cells (D.out.get 1 rfl : Own _ _ _ _ (footC ⟨x.Length, x.Ball, x.Instep, x.Heel⟩))).2.2.2⟩ (fun hHeld => ?_)
  clear hK K
  go_simp
  refine wpAnyH_done (by kernel_rfl) ?_ _
  obtain ⟨x0, x1, x2, x3, x4, x5⟩ := last1_cells (D.out.get 0 rfl : Own _ _ _ _ [x])
  go_wp2_with fail
  refine (k4.out _ hTz.tab).mono ?_
  rintro e w5 ⟨rfl, hb⟩
  replace D := Lib.hid (D.out.later hb)
  clear hb k4 hTz hT0 x0 x1 x2 x3 x4 x5
  obtain ⟨x0, x1, x2, x3, x4, x5⟩ := last1_cells (D.out.get 0 rfl : Own _ _ _ _ [x])
  go_wp2_with ((with_reducible refine at_st 30 (.tmp 2) (.tmp 56) ?_); refine wpList_store_own rfl 30 (.tmp 2) (.tmp 56) rfl w.heap.size 30 _ 1 1 ([⟨ByteArray.empty, 0, 0, 0, 0, 0⟩] : List Last) 0 _ x rfl rfl rfl (by kernel_rfl) rfl (D.out.get 3 rfl) (by simp) ?_; intro wy hRy hgy)
  have Dz := D.out.set 3 rfl hRy hgy (Or.inl rfl)
  obtain ⟨q0, q1, q2, q3, q4, q5⟩ := last1_cells hRy
  refine bodyPost_ret (v := .tuple #[.agg #[.string x.Name, .int .i64 x.Length, .int .i64 x.Ball, .int .i64 x.Instep, .int .i64 x.Heel, .int .i64 x.Pitch], .bool true]) (by simp [results, Tryz.results10, go_sem, q0, q1, q2, q3, q4, q5]) rfl ?_
  exact ⟨rfl, Dz.up⟩
end Go.Proofs.YtaeinllbjkjhlaaGreatDoor
