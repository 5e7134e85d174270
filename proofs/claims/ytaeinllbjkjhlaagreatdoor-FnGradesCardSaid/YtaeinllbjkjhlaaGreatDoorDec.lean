/- Numbers in decimal, as the reference writes them. -/
import Derived.Test.YtaeinllbjkjhlaaGreatDoorRows
import Derived.Test.YtaeinllbjkjhlaaGreatDoorSrc

import Derived.Laws.BytesArg
import Derived.Lib.ItoaLen
import Derived.Deep.AppendLies
namespace Go.Proofs.YtaeinllbjkjhlaaGreatDoor
open Go.RowKit

/-- The digits of a number, none for 0. -/
def digsZ (k : Int) : List UInt8 := if k = 0 then [] else Lib.decDigits k.natAbs
theorem digsZ_zero : digsZ 0 = [] := rfl
theorem decDigits_big {u : Nat} (h : ¬ u < 10) : Lib.decDigits u = Lib.decDigits (u / 10) ++ [UInt8.ofNat (48 + u % 10)] := by rw [Lib.decDigits, dif_neg h]
theorem digsZ_step {k : Int} (h : k ≠ 0) : digsZ k = digsZ (Int.tdiv k 10) ++ [UInt8.ofNat (48 + k.natAbs % 10)] := by
  have e1 : (Int.tdiv k 10).natAbs = k.natAbs / 10 := by rw [Int.natAbs_tdiv]; rfl
  unfold digsZ
  rw [if_neg h, e1]
  by_cases h1 : k.natAbs < 10
  · have h2 : Int.tdiv k 10 = 0 := by
      have : (Int.tdiv k 10).natAbs = 0 := by rw [e1]; omega
      omega
    rw [if_pos h2, Lib.decDigits_one h1, Nat.mod_eq_of_lt h1]; rfl
  · have h2 : ¬ Int.tdiv k 10 = 0 := fun h => by
      have : (Int.tdiv k 10).natAbs = 0 := by rw [h]; rfl
      rw [e1] at this; omega
    rw [if_neg h2, decDigits_big h1]
/-- A number's text. -/
def decT (n : Int) : ByteArray := ⟨(Lib.itoa n).toArray⟩
theorem decT_size (n : Int) (h0 : -9223372036854775808 ≤ n) (h1 : n ≤ 9223372036854775807) : (decT n).size ≤ 21 := by
  have := Lib.itoa_length_le n h0 h1
  show (List.toArray _).size ≤ 21
  simpa using this
theorem itoa_digs {n : Int} (h : n ≠ 0) : Lib.itoa n = if n < 0 then 45 :: digsZ n else digsZ n := by
  unfold Lib.itoa digsZ
  rw [if_neg h]
  split
  · rfl
  · rw [show n.toNat = n.natAbs by omega]
theorem itoa_zero : Lib.itoa 0 = [48] := by unfold Lib.itoa; rw [if_neg (by omega)]; exact Lib.decDigits_one (by decide)
theorem nums_bytes (L : List UInt8) : strOfNums (L.map fun x => (x.toNat : Int)) = ⟨L.toArray⟩ := by
  unfold strOfNums
  congr 1
  rw [List.map_map]
  congr 1
  conv => rhs; rw [← List.map_id L]
  apply List.map_congr_left
  intro x _
  simp
theorem cat_byte (c : UInt8) (out : List UInt8) : (⟨#[c]⟩ ++ ⟨out.toArray⟩ : ByteArray) = ⟨(c :: out).toArray⟩ := by
  apply Go.WideShapes.bytes_inj
  simp
theorem infoByte : (Tryz.prog.info? 5).map (fun i => (i.zero, i.size, i.bytes)) = some (some (.int .u8 0), 1, 1) := by kernel_rfl
theorem own_byte (w : World) (x : UInt8) : Own w.heap.size (w.alloc (.cells #[.int .u8 (x.toNat : Int)] 5)) 5 (.slice (some ⟨w.heap.size, 0, none⟩) 1 1) [x] :=
  ⟨rfl, .inr ⟨w.heap.size, 1, #[.int .u8 (x.toNat : Int)], rfl, Nat.le_refl _, heap_alloc_new _ _, Nat.le_refl _, by unfold maxLen; omega, rfl, rfl⟩⟩
theorem conv_bytes (w : World) (b n c : Nat) (L : List UInt8) (hA : At w (some ⟨b, 0, none⟩) L) (hn : n = L.length) : (convert 22 9 (.slice (some ⟨b, 0, none⟩) n c)).run Tryz.prog w = .ok (.string ⟨L.toArray⟩) w := by
  have h := run_convert_bytes_arg (P := Tryz.prog) w 22 5 Tryz.underlying22 Tryz.underlying5 b 0 n c (L.map fun x => (x.toNat : Int)) (by simp [hn]) (fun i hi => by
    have hl : i < L.length := by omega
    rw [hA.byte hl]
    simp [hl]) 9 Tryz.underlying9
  rw [h, nums_bytes]
set_option maxRecDepth 100000 in
set_option maxHeartbeats 1600000 in
theorem l01Dec_c (n : Int) (w : World) (h0 : -9223372036854775808 ≤ n) (h1 : n ≤ 9223372036854775807) :
    Calls Tryz.prog 110 #[.int .i64 n] w fun e w' => e = .returned (.string (decT n)) ∧ Below w.heap.size w w' := by
  have hO0 := Lib.hid (own_new (α := UInt8) w 5)
  have hb0 : Below w.heap.size w (w.alloc (.cells #[] 5)) := (Below.refl _ _).alloc (Nat.le_refl _) _
  go_enter Tryz.func110, Tryz.ntmps110
  go_wp2_with fail
  go_loopw [3, 4, 5] (fun v k _ wr => ∃ (z : Int) (L : List UInt8), k = .int .i64 z ∧ Hid (digsZ z ++ L = digsZ n) ∧ Hid (Own w.heap.size wr 5 v L) ∧ -9223372036854775808 ≤ z ∧ z ≤ 9223372036854775807 ∧ L.length ≤ 30 ∧ Below w.heap.size w wr) (fun _ k _ _ => (intOf k).natAbs)
  case atStart => exact ⟨n, [], rfl, Lib.hid (by simp), hO0, h0, h1, by simp, hb0⟩
  case round =>
    obtain ⟨z, L, rfl, hd, hO, z0, z1, hl, hb⟩ := hrel
    by_cases hz : z = 0
    · subst hz
      have hL : Hid (L = digsZ n) := Lib.hid (by have := hd.out; rw [digsZ_zero] at this; simpa using this)
      clear hd
      by_cases hn : n = 0
      · have hLe : L = [] := by rw [hL.out, hn]; rfl
        subst hLe
        subst hn
        have hr : Hid (decT 0 = ⟨#[48]⟩) := Lib.hid (by unfold decT; rw [itoa_zero])
        replace hL := Lib.hid hL
        rcases hO.out.cases with ⟨hv, _⟩ | ⟨g, cap, hv⟩
        · rw [hv] at hO ⊢
          go_wp2_with fail
          go_ret
          exact ⟨by rw [hr.out]; rfl, hb⟩
        · rw [hv] at hO ⊢
          go_wp2_with fail
          go_ret
          exact ⟨by rw [hr.out]; rfl, hb⟩
      · have hpos : 0 < L.length := by
          rw [hL.out]
          unfold digsZ
          rw [if_neg hn, Lib.decDigits_length]
          have := Lib.nDigits_pos n.natAbs
          omega
        obtain ⟨g, cap, hv⟩ := hO.out.row hpos
        rw [hv] at hO ⊢
        have hcv := conv_bytes wr g L.length cap L hO.out.at' rfl
        have hne : ((L.length : Int) == 0) = false := beq_eq_false_iff_ne.2 (by omega)
        by_cases hneg : n < 0
        · have hr : Hid (decT n = ⟨(45 :: L).toArray⟩) := Lib.hid (by unfold decT; rw [itoa_digs hn, if_pos hneg, hL.out])
          replace hL := Lib.hid hL
          replace hn := Lib.hid hn
          go_wp2_with fail
          go_ret
          refine ⟨?_, hb⟩
          rw [hr.out]
          exact congrArg (fun x => Ending.returned (.string x)) (cat_byte 45 L)
        · have hr : Hid (decT n = ⟨L.toArray⟩) := Lib.hid (by unfold decT; rw [itoa_digs hn, if_neg hneg, hL.out])
          replace hL := Lib.hid hL
          replace hn := Lib.hid hn
          go_wp2_with fail
          go_ret
          exact ⟨by rw [hr.out]; rfl, hb⟩
    · have hs := Lib.hid (digsZ_step hz)
      have hQb : -9223372036854775808 ≤ Int.tdiv z 10 ∧ Int.tdiv z 10 ≤ 9223372036854775807 ∧ (Int.tdiv z 10).natAbs < z.natAbs := by
        have e1 : (Int.tdiv z 10).natAbs = z.natAbs / 10 := by rw [Int.natAbs_tdiv]; rfl
        omega
      have hRb : (Int.tmod z 10).natAbs = z.natAbs % 10 := by rw [Int.natAbs_tmod]; rfl
      have hlen : Hid (L.length + 1 ≤ 30) := Lib.hid (by
        have h1 := congrArg List.length hd.out
        rw [hs.out] at h1
        simp only [List.length_append, List.length_singleton] at h1
        have h2 : (digsZ n).length ≤ 20 := by
          unfold digsZ
          split
          · simp
          · rw [Lib.decDigits_length]; exact Lib.nDigits_le20 _ (by omega)
        omega)
      obtain ⟨Q, hQ⟩ : ∃ Q, Q = Int.tdiv z 10 := ⟨_, rfl⟩
      obtain ⟨R, hR⟩ : ∃ R, R = Int.tmod z 10 := ⟨_, rfl⟩
      rw [← hQ] at hQb hs
      rw [← hR] at hRb
      obtain ⟨m, hm⟩ : ∃ m, m = z.natAbs % 10 := ⟨_, rfl⟩
      have hm9 : m ≤ 9 := by omega
      rw [← hm] at hRb hs
      have hq1 := hQ.symm
      have hr1 := hR.symm
      clear hQ hR
      obtain ⟨c, hc⟩ : ∃ c, c = UInt8.ofNat (48 + m) := ⟨_, rfl⟩
      have hcn : (c.toNat : Int) = 48 + m := by
        rw [hc]
        simp only [UInt8.toNat_ofNat']
        omega
      rw [← hc] at hs
      have hd2 : Hid (digsZ Q ++ ([c] ++ L) = digsZ n) := Lib.hid (by rw [← hd.out, hs.out, List.append_assoc])
      replace hc := Lib.hid hc
      replace hm := Lib.hid hm
      replace hz := Lib.hid hz
      replace hd := Lib.hid hd
      have hqm := Lib.hid hQb.2.2
      obtain ⟨hq3, hq4, _⟩ := hQb
      obtain ⟨a, cc, hv, hn0⟩ : ∃ a cc, u3 = .slice a L.length cc ∧ (a = none → cc = 0) := by
        rcases hO.out.cases with ⟨hv, hL⟩ | ⟨g, cap, hv⟩
        · exact ⟨none, 0, by rw [hv, hL]; rfl, fun _ => rfl⟩
        · exact ⟨_, cap, hv, fun h => by cases h⟩
      rw [hv] at hO ⊢
      have hb2 : Below wr.heap.size wr (wr.alloc (.cells #[.int .u8 (c.toNat : Int)] 5)) := (Below.refl _ _).alloc (Nat.le_refl _) _
      have hown := Lib.hid ((own_byte wr c).base hb.size)
      have hb3 := upw hb hb2
      have hne : (z != 0) = true := by have := hz.out; simpa using this
      by_cases hneg : R < 0
      · have e1 : 48 + -R = (c.toNat : Int) := by omega
        have e3 : (c.toNat : Int) % 256 = (c.toNat : Int) := by omega
        have r1 : -9 ≤ R := by omega
        have r2 : R ≤ 9 := by omega
        replace hRb := Lib.hid hRb
        replace hcn := Lib.hid hcn
        go_wp2_with (at_builtin; refine Hid.out ?_)
        refine Lib.hid ?_
        refine wpList_pushall rfl (.tmp 21) (.tmp 22) 22 rfl w.heap.size 5 (.int .u8 0) 1 Tryz.underlying22 infoByte rfl _ [c] L rfl hown.out a cc rfl hn0 (hO.out.at'.below hb2) (by simp; omega) (by decide) (by simp; have := hb.size; omega) ?_
        intro v1 w7 hO1 hg1
        have hb7 := below_mark hb3 hown.out (Nat.le_refl _) hg1
        go_wp2_with fail
        go_roundw
        case rel => exact ⟨Q, [c] ++ L, rfl, hd2, Lib.hid hO1, hq3, hq4, by have := hlen.out; simp; omega, hb7⟩
        case measure => have := hqm.out; simpa [intOf] using this
      · have e1 : 48 + R = (c.toNat : Int) := by omega
        have e3 : (c.toNat : Int) % 256 = (c.toNat : Int) := by omega
        have r1 : -9 ≤ R := by omega
        have r2 : R ≤ 9 := by omega
        replace hRb := Lib.hid hRb
        replace hcn := Lib.hid hcn
        go_wp2_with (at_builtin; refine Hid.out ?_)
        refine Lib.hid ?_
        refine wpList_pushall rfl (.tmp 21) (.tmp 22) 22 rfl w.heap.size 5 (.int .u8 0) 1 Tryz.underlying22 infoByte rfl _ [c] L rfl hown.out a cc rfl hn0 (hO.out.at'.below hb2) (by simp; omega) (by decide) (by simp; have := hb.size; omega) ?_
        intro v1 w7 hO1 hg1
        have hb7 := below_mark hb3 hown.out (Nat.le_refl _) hg1
        go_wp2_with fail
        go_roundw
        case rel => exact ⟨Q, [c] ++ L, rfl, hd2, Lib.hid hO1, hq3, hq4, by have := hlen.out; simp; omega, hb7⟩
        case measure => have := hqm.out; simpa [intOf] using this
end Go.Proofs.YtaeinllbjkjhlaaGreatDoor
