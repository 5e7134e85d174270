/- The middle of feet: the reference. -/
import Derived.Test.YtlaclknhenccdaaMid4
namespace Go.Proofs.Ytlaclknhenccdaa
open Go.RowKit

theorem l02Ok_ok (a : Option Addr) (fs : List Foot) (c : Nat) (w : World) (hx : At w a fs) (hl : fs.length ≤ 30) (hv : ∀ f ∈ fs, okFoot f = true) :
    Calls Try.prog 156 #[.slice a fs.length c] w fun e w' => e = .returned (.bool true) ∧ Below w.heap.size w w' := by
  replace hv := Lib.hid hv
  go_enter Try.func156, Try.ntmps156
  go_wp2_with fail
  go_loopw [3] (fun i wr => ∃ k : Nat, k ≤ fs.length ∧ i = .int .i64 k ∧ Below w.heap.size w wr) (fun i _ => fs.length - (intOf i).toNat)
  case atStart => exact ⟨0, Nat.zero_le _, rfl, Below.refl _ _⟩
  case round =>
    obtain ⟨k, hk, rfl, hb⟩ := hrel
    by_cases hlt : k < fs.length
    · have hxb := hx.below hb
      obtain ⟨b, off, ha⟩ := hxb.addr hlt
      subst ha
      obtain ⟨x0, x1, x2, x3⟩ := hxb.foot hlt
      have hfo := hv.out _ (List.getElem_mem hlt)
      generalize fs[k] = f at *
      clear hxb
      go_wp2_with fail
      refine (as_boolB hfo (l02Foot_c f _)).mono ?_
      rintro e w2 ⟨rfl, hb2⟩
      go_wp2_with fail
      go_roundw
      case rel => exact ⟨k + 1, by omega, by first | rfl | go_num, upw hb hb2⟩
      case measure => first | (simp [intOf]; done) | (simp [intOf]; omega)
    · have h30 : decide ((fs.length : Int) ≤ 30) = true := by simp; omega
      have h30' : (fs.length : Int) ≤ 30 := by omega
      go_wp2_with fail
      go_ret
      exact ⟨rfl, hb⟩
theorem l02Code_ok (a : Option Addr) (fs : List Foot) (c : Nat) (m : Int) (w : World) (hx : At w a fs) (hl : fs.length ≤ 30) (hn : 0 < fs.length) (hv : ∀ f ∈ fs, okFoot f = true) (hm : 0 ≤ m ∧ m ≤ 5000) :
    Calls Try.prog 109 #[.slice a fs.length c, .int .i64 m] w fun e w' => e = .returned (.int .i64 0) ∧ Below w.heap.size w w' := by
  have h1 : inr m 0 5000 = true := inr_true.2 hm
  have h2 : ((fs.length : Int) == 0) = false := beq_eq_false_iff_ne.2 (by omega)
  have hC := Lib.hid (l02Ok_ok a fs c w hx hl hv)
  replace hv := Lib.hid hv
  go_enter Try.func109, Try.ntmps109
  go_wp2_with fail
  refine hC.out.mono ?_
  rintro e w2 ⟨rfl, hb⟩
  go_wp2_with fail
  refine (as_bool h1 (l00In_c _ _ _ _)).mono ?_
  rintro e w' ⟨rfl, rfl⟩
  go_wp2_with fail
  go_ret
  exact ⟨rfl, hb⟩
set_option maxHeartbeats 800000 in
theorem l02Column_c (a : Option Addr) (fs : List Foot) (c k : Nat) (w : World) (hx : At w a fs) (hl : fs.length ≤ 1000) (hk4 : k < 4) :
    Calls Try.prog 158 #[.slice a fs.length c, .int .i64 k] w fun e w' => ∃ v, e = .returned v ∧ Own w.heap.size w' 2 v (col k fs) ∧ Below w.heap.size w w' := by
  have D := Lib.hid ((Sp.refl w).add (newB w (.cells #[] 2)) (own_new (α := Int) w 2))
  have hkI : (k : Int) < 4 := by omega
  go_enter Try.func158, Try.ntmps158
  go_wp2_with fail
  go_loopw [5, 6] (fun v i wr => ∃ j : Nat, j ≤ fs.length ∧ i = .int .i64 j ∧ Hid (Sp w wr [ite' 2 v (col k (fs.take j))])) (fun _ i _ => fs.length - (intOf i).toNat)
  case atStart => exact ⟨0, by omega, rfl, D⟩
  case round =>
    clear D
    obtain ⟨j, hj, rfl, D⟩ := hrel
    obtain ⟨wb, hwb⟩ : ∃ wo : World, wo = wr := ⟨_, rfl⟩
    subst hwb
    have hxb := hx.below D.out.up
    by_cases hjl : j < fs.length
    · obtain ⟨b, off, ha⟩ := hxb.addr hjl
      subst ha
      obtain ⟨x0, x1, x2, x3⟩ := hxb.foot hjl
      have hE := Lib.hid (show col k (fs.take (j + 1)) = col k (fs.take j) ++ [kindOf k fs[j]] from col_take_succ k fs j hjl)
      have hLl : (col k (fs.take j)).length + 1 ≤ 4294967296 := by rw [col_length]; simp; omega
      obtain ⟨f, hf⟩ : ∃ f, f = fs[j] := ⟨_, rfl⟩
      rw [← hf] at x0 x1 x2 x3 hE
      clear hf
      obtain ⟨L, hL⟩ : ∃ L, L = col k (fs.take j) := ⟨_, rfl⟩
      rw [← hL] at D hE hLl
      replace hL := Lib.hid hL
      clear hxb
      go_wp2_with fail
      refine (l02Four_c f wb).mono ?_
      rintro e w6 ⟨gm, rfl, hM, hb6⟩
      have d0 := hM.at'.int (i := k) (by rw [four_length]; exact hk4)
      rw [kindOf_get, Nat.zero_add] at d0
      replace D := Lib.hid (D.out.later hb6)
      clear hb6 hM x0 x1 x2 x3
      obtain ⟨z, hz⟩ : ∃ z, z = kindOf k f := ⟨_, rfl⟩
      rw [← hz] at d0 hE
      clear hz
      have hsz := D.out.up.size
      go_wp2_with (at_builtin; refine wpList_pushTo rfl (.tmp 14) (.tmp 23) 24 rfl w.heap.size 2 (.int .i64 0) 8 Try.underlying24 infoInt rfl _ L z rfl ((D.out.get 0 rfl).later (newB _ _)) _ _ rfl 2 (heap_alloc_new _ _) hLl (by decide) (by simp; omega) ?_; intro g' cap w7 hO7 hg7 hl7)
      have D7 := Lib.hid ((D.out.later (newB _ _)).push 0 rfl hO7 hg7 hl7)
      go_roundw
      case rel => exact ⟨j + 1, by omega, by first | rfl | go_num, Lib.hid (by rw [hE.out]; exact D7.out)⟩
      case measure => first | (simp [intOf]; done) | (simp [intOf]; omega)
    · obtain rfl : j = fs.length := by omega
      rw [List.take_length] at D
      go_wp2_with fail
      go_ret
      exact ⟨_, rfl, D.out.get 0 rfl, D.out.up⟩
end Go.Proofs.Ytlaclknhenccdaa
