/- The feet and the days of some bytes. -/
import Derived.Test.YtokoallbhbgkkaaG05
namespace Go.Proofs.Ytokoallbhbgkkaa
open Go.RowKit

set_option maxHeartbeats 2000000 in
theorem A2Feet_c (a : Option Addr) (L : List UInt8) (c : Nat) (w : World) (hx : At w a L) (hl : L.length ≤ 9223372036854775807) :
    Calls Try.prog 38 #[.slice a L.length c] w fun e w' => ∃ v fs, e = .returned v ∧ Own w.heap.size w' 39 v fs ∧ (∀ f ∈ fs, NearF f) ∧ (1 ≤ fs.length ∧ fs.length ≤ 8) ∧ Below w.heap.size w w' := by
  go_enter Try.func38, Try.ntmps38
  go_wp2_with fail
  refine (l00From_c a L c w hx hl).mono ?_
  rintro e w1 ⟨rfl, hS, hb⟩
  go_wp2_with fail
  refine (l02Near_c _ 100 w1 (hS.less (by omega))).mono ?_
  rintro e w2 ⟨v, fs, rfl, hO, hn, hl7, hS2, hg2⟩
  go_wp2_with fail
  refine (l02Draw_c _ 90 w2 (hS2.less (by omega))).mono ?_
  rintro e w3 ⟨f, rfl, hf, _, hg3⟩
  have hlt := hS.lt
  have hb3 := drew_up hb (grownBy_trans hg2 hg3) (Nat.le_refl _)
  have hO3 := hO.drew hlt hg3
  have hsz : w1.heap.size ≤ w3.heap.size := Nat.le_trans hg2.size hg3.size
  clear hO hS hS2 hg2 hg3
  obtain ⟨wt, hwt⟩ : ∃ wt, wt = w3.alloc (.cells #[.int .i64 f.Length, .int .i64 f.Ball, .int .i64 f.Instep, .int .i64 f.Heel] 39) := ⟨_, rfl⟩
  have hct : Below w3.heap.size w3 wt := by rw [hwt]; exact newB _ _
  have htmp : wt.heap[w3.heap.size]? = some (.cells (Flat.el f).toArray 39 (0, 0)) := by rw [hwt]; exact heap_alloc_new _ _
  replace hwt := Lib.hid hwt
  have hrw := hO3.later hct
  have hBw : w1.heap.size ≤ wt.heap.size := Nat.le_trans hsz hct.size
  have hfl : fs.length + 1 ≤ 4294967296 := by omega
  replace hn := Lib.hid hn
  go_wp2_with (first | rw [← hwt.out] | (at_builtin; refine wpList_pushTo rfl (.tmp 7) (.tmp 10) 61 rfl w1.heap.size 39 (.agg #[.int .i64 0, .int .i64 0, .int .i64 0, .int .i64 0]) 32 Try.underlying61 infoFoot rfl _ fs f rfl hrw w3.heap.size 1 rfl 39 htmp hfl (by decide) hBw ?_; intro g' cap wq hO' hg' hl'))
  go_ret
  have hw1 : w.heap.size ≤ w1.heap.size := hb.size
  have hrl : (fs ++ [f]).length = fs.length + 1 := by simp
  have hgl : wt.grownBy wq v.ownBlock := hg'
  have hbz := below_mark (upw hb3 hct) hrw hw1 hgl
  refine ⟨_, fs ++ [f], rfl, hO'.base hw1, fun y hy => ?_, by omega, hbz⟩
  rcases List.mem_append.1 hy with hy | hy
  · exact hn.out y hy
  · simp only [List.mem_singleton] at hy; rw [hy]; exact hf.near
set_option maxRecDepth 100000 in
set_option maxHeartbeats 4000000 in
theorem A2Days_c (a : Option Addr) (L : List UInt8) (c n : Nat) (w : World) (hx : At w a L) (hl : L.length ≤ 9223372036854775807) (hn : n ≤ 8) :
    Calls Try.prog 39 #[.slice a L.length c, .int .i64 (n : Int)] w fun e w' => ∃ (v : Value) (ds : List Int), e = .returned v ∧ Own w.heap.size w' 2 v ds ∧ ds.length = n ∧ ds.Pairwise (· < ·) ∧ (∀ d ∈ ds, 0 ≤ d ∧ d ≤ 2000) ∧ Below w.heap.size w w' := by
  go_enter Try.func39, Try.ntmps39
  go_wp2_with fail
  refine (l00From_c a L c w hx hl).mono ?_
  rintro e w1 ⟨rfl, hS, hb⟩
  have hlt := hS.lt
  obtain ⟨g, hg⟩ : ∃ g, g = w.heap.size := ⟨_, rfl⟩
  obtain ⟨w2, hw2⟩ : ∃ w2, w2 = w1.alloc (.cells #[] 2) := ⟨_, rfl⟩
  have hb2 : Below w1.heap.size w1 w2 := by rw [hw2]; exact newB _ _
  have hN : Own w1.heap.size w2 2 (.slice (some ⟨w1.heap.size, 0, none⟩) 0 0) ([] : List Int) := by rw [hw2]; exact own_new w1 _
  have hG : w1.grownBy w2 (some w.heap.size) := drew_below _ hb2
  replace hS := hS.later hb2
  replace hw2 := Lib.hid hw2
  go_wp2_with (rw [← hw2.out])
  refine (pick_c w.heap.size 1000 100 w2 (hS.less (by omega)) (by omega) (by omega)).mono ?_
  rintro e w3 ⟨t, rfl, t0, t1, hS3, hg3⟩
  replace hN := Lib.hid (hN.drew hlt hg3)
  replace hG := grownBy_trans hG hg3
  have ht : 0 ≤ t ∧ t ≤ 99 := by omega
  clear hS hb2 hg3 t0 t1 hw2
  go_wp2_with fail
  go_loopw [6, 7, 8] (fun v at_ i wr => ∃ (k : Nat) (ds : List Int) (z : Int), k ≤ n ∧ i = .int .i64 k ∧ at_ = .int .i64 z ∧ (0 ≤ z ∧ z ≤ 100 + 200 * (k : Int)) ∧ ds.length = k ∧ Hid (ds.Pairwise (· < ·) ∧ ∀ d ∈ ds, 0 ≤ d ∧ d < z) ∧ Hid (Own w1.heap.size wr 2 v ds) ∧ Hid (SrcAt wr w.heap.size (1000 - 2 * k)) ∧ w1.grownBy wr (some w.heap.size)) (fun _ _ i _ => n - (intOf i).toNat)
  case atStart => exact ⟨0, [], t, Nat.zero_le _, rfl, rfl, by omega, rfl, Lib.hid ⟨List.Pairwise.nil, fun d hd => by simp at hd⟩, hN, Lib.hid hS3, hG⟩
  case round =>
    clear hN hS3 hG ht
    obtain ⟨k, ds, z, hk, rfl, rfl, hz, hdl, hds, hN, hS3, hG⟩ := hrel
    obtain ⟨wa, hwa⟩ : ∃ wo : World, wo = wr := ⟨_, rfl⟩
    subst hwa
    subst hdl
    by_cases hkn : ds.length < n
    · obtain ⟨wt, hwt⟩ : ∃ wt, wt = wa.alloc (.cells #[.int .i64 z] 2) := ⟨_, rfl⟩
      have hct : Below wa.heap.size wa wt := by rw [hwt]; exact newB _ _
      have htmp : wt.heap[wa.heap.size]? = some (.cells (Flat.el z).toArray 2 (0, 0)) := by rw [hwt]; exact heap_alloc_new _ _
      replace hwt := Lib.hid hwt
      have hrw := hN.out.later hct
      have hBw : w1.heap.size ≤ wt.heap.size := Nat.le_trans hG.size hct.size
      have hfl : ds.length + 1 ≤ 4294967296 := by omega
      have hknI : (ds.length : Int) < n := by omega
      go_wp2_with (first | rw [← hwt.out] | (at_builtin; refine wpList_pushTo rfl (.tmp 19) (.tmp 21) 22 rfl w1.heap.size 2 (.int .i64 0) 8 Try.underlying22 infoInt rfl _ ds z rfl hrw wa.heap.size 1 rfl 2 htmp hfl (by decide) hBw ?_; intro g' cap wq hO' hg' hl'; have hSq := (hS3.out.later hct).markG hrw hlt hg'; have hGq : w1.grownBy wq (some w.heap.size) := ⟨hg'.os.trans (hct.os.trans hG.os), hg'.tape.trans (hct.tape.trans hG.tape), hg'.output.trans (hct.output.trans hG.output), Nat.le_trans hBw hg'.size, fun j hj hne => (hg'.block j (Nat.lt_of_lt_of_le hj hBw) (fun e => by have := (hrw.lt j e.symm).1; omega)).trans ((hct.block j (Nat.lt_of_lt_of_le hj hG.size)).trans (hG.block j hj hne))⟩; clear hg' hl' hrw htmp hct hwt))
      refine (pick_c w.heap.size (1000 - 2 * (ds.length + 1)) 200 wq (hSq.less (by omega)) (by omega) (by omega)).mono ?_
      rintro e w5 ⟨u, rfl, u0, u1, hS5, hg5⟩
      have hO5 := hO'.drew hlt hg5
      have hu : 0 ≤ u ∧ u ≤ 199 := by omega
      have hds2 : Hid ((ds ++ [z]).Pairwise (· < ·) ∧ ∀ d ∈ ds ++ [z], 0 ≤ d ∧ d < z + (1 + u)) := Lib.hid (by
        obtain ⟨h1, h2⟩ := hds.out
        refine ⟨List.pairwise_append.2 ⟨h1, List.pairwise_singleton _ _, fun x hx' y hy' => ?_⟩, fun d hd => ?_⟩
        · simp only [List.mem_singleton] at hy'; rw [hy']; exact (h2 x hx').2
        · rcases List.mem_append.1 hd with hd | hd
          · have := h2 d hd; omega
          · simp only [List.mem_singleton] at hd; omega)
      have hG5 := grownBy_trans hGq hg5
      have hdl2 : (ds ++ [z]).length = ds.length + 1 := by simp
      replace hdl2 := Lib.hid hdl2
      clear u0 u1 hg5 hGq hO' hSq hds hS3 hN hG
      go_wp2_with fail
      go_roundw
      case rel => exact ⟨ds.length + 1, ds ++ [z], z + (1 + u), by omega, by go_num, by first | rfl | go_num, by omega, hdl2.out, hds2, Lib.hid hO5, Lib.hid hS5, hG5⟩
      case measure => simp [intOf]; omega
    · obtain rfl : ds.length = n := by omega
      go_wp2_with fail
      go_ret
      have hd := hds.out
      exact ⟨_, ds, rfl, hN.out.base hb.size, rfl, hd.1, fun d h => by have := hd.2 d h; omega, drew_up hb hG (Nat.le_refl _)⟩
end Go.Proofs.Ytokoallbhbgkkaa
