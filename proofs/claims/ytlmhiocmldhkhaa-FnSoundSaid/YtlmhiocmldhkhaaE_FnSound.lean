/- FnSound: for all bytes the law returns true, and the bytes read behind the call as before. -/
import Derived.Test.YtlmhiocmldhkhaaA2P
import Derived.Test.YtlmhiocmldhkhaaA2
import Derived.Test.YtlmhiocmldhkhaaP08u
namespace Go.Proofs.Ytlmhiocmldhkhaa
open Go.ChangeShapes Go.WideShapes Go.ChangeAt Go.RowKit

theorem parts_pos (p : Pattern) : ∀ x ∈ partsL p, 0 ≤ x := by
  intro x hx
  obtain ⟨i, hi, rfl⟩ := List.mem_iff_getElem.1 hx
  have e : (partsL p)[i] = _ := labs_get _ _ i hi
  rw [e]; omega
/-- What the told fault has to be, and when the pattern is sound. -/
structure SoundOk (X Y : List Int) (n o m fk fa fc : Int) (snd : Bool) : Prop where
  code : snd = (fc == 3)
  seam : ∀ k (h : k < X.length), (∀ j (hj : j < X.length), j < k → X[j] ≤ m) → m < X[k] → fk = 1 ∧ fa = k ∧ fc = 0
  part : (∀ j (hj : j < X.length), X[j] ≤ m) → ∀ k (h : k < Y.length), (∀ j (hj : j < Y.length), j < k → Y[j] = 0) → Y[k] ≠ 0 → fk = 2 ∧ fa = k ∧ fc = 0
  open_ : (∀ j (hj : j < X.length), X[j] ≤ m) → (∀ j (hj : j < Y.length), Y[j] = 0) → n ≠ o → fk = 3 ∧ fa = n ∧ fc = 0
  sound : (∀ j (hj : j < X.length), X[j] ≤ m) → (∀ j (hj : j < Y.length), Y[j] = 0) → n = o → snd = true
theorem sound_ok {p : Pattern} (ok : Okp p) {m : Int} (hm : 0 ≤ m ∧ m ≤ 10000) : SoundOk (diffs p) (partsL p) (openings p).length p.openings m (ff p m).1 (ff p m).2.1 (ff p m).2.2 (isSnd p m) := by
  have h1 := okp_iff.2 ok
  have h2 : inr m 0 10000 = true := inr_true.2 hm
  have hc : cdOf p m = 0 := by unfold cdOf; rw [h1, h2]; rfl
  have hff : ff p m = if (faultOf p m).1 = 0 then (0, 0, 3) else ((faultOf p m).1, (faultOf p m).2, 0) := by unfold ff; rw [h1, h2]; rfl
  have hsn : isSnd p m = decide ((faultOf p m).1 = 0) := by unfold isSnd; rw [hc]; simp
  have hdn : (∀ j (hj : j < (diffs p).length), (diffs p)[j] ≤ m) → dIdx p m = -1 := fun h => firstIdx_none (k := (diffs p).length) (Nat.le_refl _) fun j _ hj => by simpa using h j hj
  have hpn : (∀ j (hj : j < (partsL p).length), (partsL p)[j] = 0) → pIdx p = -1 := fun h => firstIdx_none (k := (partsL p).length) (Nat.le_refl _) fun j _ hj => by simp [h j hj]
  refine ⟨?_, ?_, ?_, ?_, ?_⟩
  · rw [hff, hsn]
    by_cases h : (faultOf p m).1 = 0
    · rw [if_pos h]; simp [h]
    · rw [if_neg h]; simp [h]
  · intro k h hj hk
    have hd : dIdx p m = k := firstIdx_some h (fun j hjk hj' => by simpa using hj j hj' hjk) (by simpa using hk)
    have hf : faultOf p m = (1, (k : Int)) := by unfold faultOf; rw [hd, if_pos (by omega)]
    rw [hff, hf]; simp
  · intro hX k h hj hk
    have hd := hdn hX
    have hpos := parts_pos p _ (List.getElem_mem h)
    have hp : pIdx p = k := firstIdx_some h (fun j hjk hj' => by simp [hj j hj' hjk]) (by simp; omega)
    have hf : faultOf p m = (2, (k : Int)) := by unfold faultOf; rw [hd, hp, if_neg (by omega), if_pos (by omega)]
    rw [hff, hf]; simp
  · intro hX hY hn
    have hf : faultOf p m = (3, ((openings p).length : Int)) := by unfold faultOf; rw [hdn hX, hpn hY, if_neg (by omega), if_neg (by omega), if_pos hn]
    rw [hff, hf]; simp
  · intro hX hY hn
    have hf : faultOf p m = (0, 0) := by unfold faultOf; rw [hdn hX, hpn hY, if_neg (by omega), if_neg (by omega), if_neg (fun h => h hn)]
    rw [hsn, hf]; rfl
set_option maxRecDepth 100000 in
set_option maxHeartbeats 8000000 in
theorem lawSound (a : Option Addr) (L : List UInt8) (c : Nat) (a' : Option Addr) (M : List UInt8) (c' : Nat) (w : World) (hx : At w a L) (hlx : L.length ≤ 9223372036854775807) (hy : At w a' M) (hly : M.length ≤ 9223372036854775807) :
    Calls Try.prog 4 #[.slice a L.length c, .slice a' M.length c'] w fun e w' => e = .returned (.bool true) ∧ Below w.heap.size w w' := by
  have hlong := a2Long_c a a' L M c c' w
  by_cases hg : 3000 < L.length ∨ 3000 < M.length
  · have e : (decide (3000 < L.length) || decide (3000 < M.length)) = true := by simpa using hg
    rw [e] at hlong
    go_enter Try.func4, Try.ntmps4
    go_wp2_with (go_at_call 14; refine hlong.mono ?_; rintro e w1 ⟨rfl, rfl⟩)
    go_ret
    exact ⟨rfl, Below.refl _ _⟩
  · have e : (decide (3000 < L.length) || decide (3000 < M.length)) = false := by simp; omega
    rw [e] at hlong
    have hL3 : L.length ≤ 3000 := by omega
    have hM3 : M.length ≤ 3000 := by omega
    clear e hg
    go_enter Try.func4, Try.ntmps4
    go_wp2_with fail
    refine hlong.mono ?_
    rintro e w1 ⟨rfl, rfl⟩
    go_wp2_with fail
    refine (A2Pattern_c a L c w hx hlx).mono ?_
    rintro e w1 ⟨p, pa, pc, sa, sc, rfl, ⟨rs, hP⟩, hok, hb1⟩
    obtain ⟨w2, hw2⟩ : ∃ w2, w2 = w1.alloc (.cells #[.slice pa p.pieces.length pc, .slice sa p.seams.length sc, .int .i64 p.openings] 32) := ⟨_, rfl⟩
    have hb2 : Below w1.heap.size w1 w2 := by rw [hw2]; exact new_below _ _
    have D : PatW w.heap.size w2 w1.heap.size pa pc sa sc rs p := by rw [hw2]; exact patW_of hP hb1.size
    have hb := upw hb1 hb2
    replace hw2 := Lib.hid hw2
    replace D := Lib.hid D
    clear hP hb1 hb2 hlong
    have htot : totPattern p ≤ 1048576 := by have := (okp_small hok).1; omega
    go_wp2_with (rw [← hw2.out])
    refine (a2At_c a' M c' 0 3 w2 (hy.below hb) hM3 (by omega) (by omega) (by omega)).mono ?_
    rintro e w3 ⟨m, rfl, m0, m1, rfl⟩
    have hS := sound_ok hok (m := m) (by omega)
    have hokb := okp_iff.2 hok
    have hcd : cdOf p m = 0 := by unfold cdOf; rw [hokb, inr_true.2 (by omega : 0 ≤ m ∧ m ≤ 10000)]; rfl
    have C1 := fun w' h => implIsSound_c p pa pc sa sc m w' h htot (by omega)
    have C2 := fun w' h => implFirstFault_c p pa pc sa sc m w' h htot (by omega)
    have C3 := fun w' h => specSeamDifferences_c p pa pc sa sc w' h htot
    have C4 := fun w' h => specPartsOf_c p pa pc sa sc w' h htot
    have C5 := fun w' h => specOpeningsOf_c p pa pc sa sc w' h htot
    rw [hcd] at C1
    simp only [sdOf, sdCode, paOf, paCode, opOf, opCode, hokb, if_true] at C3 C4 C5
    have hXl : (diffs p).length ≤ 1048576 := by rw [diffs_length]; unfold totPattern at htot; omega
    have hYl : (partsL p).length ≤ 1048576 := by rw [partsL_length]; unfold totPattern totPieces at htot; omega
    have hol := openings_length hok
    generalize (ff p m).1 = fk at *
    generalize (ff p m).2.1 = fa at *
    generalize (ff p m).2.2 = fc at *
    generalize isSnd p m = snd at *
    generalize diffs p = X at *
    generalize partsL p = Y at *
    generalize openings p = O at *
    replace C1 := Lib.hid C1
    replace C2 := Lib.hid C2
    replace C3 := Lib.hid C3
    replace C4 := Lib.hid C4
    replace C5 := Lib.hid C5
    clear hokb hcd
    obtain ⟨y0, y1, y2⟩ := D.out.cells
    have hs10 : (fc == 3) = snd := hS.code.symm
    replace hS := Lib.hid hS
    go_wp2_with fail
    refine (C1.out _ D.out.pat.lie).mono ?_
    rintro e w4 ⟨rfl, hb4⟩
    replace y0 := kept_cell y0 hb4
    replace y1 := kept_cell y1 hb4
    replace y2 := kept_cell y2 hb4
    replace D := Lib.hid (D.out.later hb4)
    replace hb := upw hb hb4
    clear hb4
    go_wp2_with fail
    refine (C2.out _ D.out.pat.lie).mono ?_
    rintro e w5 ⟨rfl, hb5⟩
    replace y0 := kept_cell y0 hb5
    replace y1 := kept_cell y1 hb5
    replace y2 := kept_cell y2 hb5
    replace D := Lib.hid (D.out.later hb5)
    replace hb := upw hb hb5
    clear hb5
    go_wp2_with fail
    refine (C3.out _ D.out.pat.lie).mono ?_
    rintro e w6 ⟨v3, rfl, hO3, hb6⟩
    obtain ⟨a3, c3, rfl, hA3⟩ := hO3.at
    replace y0 := kept_cell y0 hb6
    replace y1 := kept_cell y1 hb6
    replace y2 := kept_cell y2 hb6
    replace D := Lib.hid (D.out.later hb6)
    replace hb := upw hb hb6
    clear hb6
    go_wp2_with fail
    refine (C4.out _ D.out.pat.lie).mono ?_
    rintro e w7 ⟨v4, rfl, hO4, hb7⟩
    obtain ⟨a4, c4, rfl, hA4⟩ := hO4.at
    replace hA3 := hA3.below hb7
    replace y0 := kept_cell y0 hb7
    replace y1 := kept_cell y1 hb7
    replace y2 := kept_cell y2 hb7
    replace D := Lib.hid (D.out.later hb7)
    replace hb := upw hb hb7
    clear hb7
    go_wp2_with fail
    refine (C5.out _ D.out.pat.lie).mono ?_
    rintro e w8 ⟨v5, rfl, hO5, hb8⟩
    obtain ⟨a5, c5, rfl, hA5⟩ := hO5.at
    replace hA3 := hA3.below hb8
    replace hA4 := hA4.below hb8
    replace y0 := kept_cell y0 hb8
    replace y1 := kept_cell y1 hb8
    replace y2 := kept_cell y2 hb8
    replace D := Lib.hid (D.out.later hb8)
    replace hb := upw hb hb8
    clear hb8
    clear C1 C2 C3 C4 C5 D hO3 hO4 hO5 hA5
    go_wp2_with fail
    go_loopw [18] (fun i wr => ∃ k : Nat, k ≤ X.length ∧ i = .int .i64 k ∧ Hid (∀ j (hj : j < X.length), j < k → X[j] ≤ m) ∧ Below w8.heap.size w8 wr) (fun i _ => X.length - (intOf i).toNat)
    case atStart => exact ⟨0, Nat.zero_le _, rfl, Lib.hid (fun j _ h => absurd h (Nat.not_lt_zero _)), Below.refl _ _⟩
    case round =>
      obtain ⟨k, hk, rfl, hall, hbl⟩ := hrel
      by_cases hlt : k < X.length
      · have hA := hA3.below hbl
        obtain ⟨b3, o3, rfl⟩ := hA.addr hlt
        have c0 := hA.int hlt
        have hse := Lib.hid (hS.out.seam k hlt hall.out)
        have hst := Lib.hid (fun (h : X[k] ≤ m) => (fun j (hj : j < X.length) (hjk : j < k + 1) => (by
          by_cases e : j = k
          · subst e; exact h
          · exact hall.out j hj (by omega) : X[j] ≤ m)))
        generalize X[k] = z at c0 hse hst
        by_cases hm : m < z
        · obtain ⟨rfl, rfl, rfl⟩ := hse.out hm
          go_wp2_with fail
          go_ret
          exact ⟨by simp, upw hb hbl⟩
        · have hst2 := Lib.hid (hst.out (by omega))
          clear hst hse
          go_wp2_with fail
          go_roundw
          case rel => exact ⟨k + 1, by omega, by go_num, hst2, hbl⟩
          case measure => simp [intOf]; omega
      · have hX : Hid (∀ j (hj : j < X.length), X[j] ≤ m) := Lib.hid fun j hj => hall.out j hj (by omega)
        replace hb := upw hb hbl
        replace hA4 := hA4.below hbl
        replace y2 := kept_cell y2 hbl
        obtain ⟨w9, hw9⟩ : ∃ w9 : World, w9 = wr := ⟨_, rfl⟩
        subst hw9
        clear hall hA3 hbl
        go_wp2_with fail
        go_loopw [19] (fun i wr => ∃ k : Nat, k ≤ Y.length ∧ i = .int .i64 k ∧ Hid (∀ j (hj : j < Y.length), j < k → Y[j] = 0) ∧ Below w9.heap.size w9 wr) (fun i _ => Y.length - (intOf i).toNat)
        case atStart => exact ⟨0, Nat.zero_le _, rfl, Lib.hid (fun j _ h => absurd h (Nat.not_lt_zero _)), Below.refl _ _⟩
        case round =>
          obtain ⟨k, hk, rfl, hall, hbl⟩ := hrel
          by_cases hlt : k < Y.length
          · have hA := hA4.below hbl
            obtain ⟨b3, o3, rfl⟩ := hA.addr hlt
            have c0 := hA.int hlt
            have hse := Lib.hid (hS.out.part hX.out k hlt hall.out)
            have hst := Lib.hid (fun (h : Y[k] = 0) => (fun j (hj : j < Y.length) (hjk : j < k + 1) => (by
              by_cases e : j = k
              · subst e; exact h
              · exact hall.out j hj (by omega) : Y[j] = 0)))
            generalize Y[k] = z at c0 hse hst
            by_cases hm : z = 0
            · have hst2 := Lib.hid (hst.out hm)
              clear hst hse
              subst hm
              go_wp2_with fail
              go_roundw
              case rel => exact ⟨k + 1, by omega, by go_num, hst2, hbl⟩
              case measure => simp [intOf]; omega
            · obtain ⟨rfl, rfl, rfl⟩ := hse.out hm
              go_wp2_with fail
              go_ret
              exact ⟨by simp, upw hb hbl⟩
          · have hY : Hid (∀ j (hj : j < Y.length), Y[j] = 0) := Lib.hid fun j hj => hall.out j hj (by omega)
            replace hb := upw hb hbl
            replace y2 := kept_cell y2 hbl
            clear hall hA4 hbl
            by_cases hn : (O.length : Int) = p.openings
            · have h1 := hS.out.sound hX.out hY.out hn
              go_wp2_with fail
              go_ret
              exact ⟨by rw [h1]; rfl, hb⟩
            · obtain ⟨rfl, rfl, rfl⟩ := hS.out.open_ hX.out hY.out hn
              go_wp2_with fail
              go_ret
              exact ⟨by simp, hb⟩
end Go.Proofs.Ytlmhiocmldhkhaa
