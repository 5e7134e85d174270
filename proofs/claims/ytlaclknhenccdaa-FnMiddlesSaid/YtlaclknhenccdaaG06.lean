/- The feet and the days of some bytes. -/
import Derived.Test.YtlaclknhenccdaaG05
namespace Go.Proofs.Ytlaclknhenccdaa
open Go.RowKit

set_option maxHeartbeats 2000000 in
theorem A2Feet_c (a : Option Addr) (L : List UInt8) (c : Nat) (w : World) (hx : At w a L) (hl : L.length ≤ 9223372036854775807) :
    Calls Try.prog 38 #[.slice a L.length c] w fun e w' => ∃ v fs, e = .returned v ∧ Own w.heap.size w' 62 v fs ∧ (∀ f ∈ fs, NearF f) ∧ (1 ≤ fs.length ∧ fs.length ≤ 8) ∧ Below w.heap.size w w' := by
  go_enter Try.func38, Try.ntmps38
  go_wp2_with fail
  refine (l00From_c a L c w hx hl).mono ?_
  rintro e w1 ⟨rfl, hS, hb⟩
  go_wp2_with fail
  refine (l02Near_c _ 100 w1 (hS.less (by omega))).mono ?_
  rintro e w2 ⟨v, fs, rfl, hO, hn, hl7, hS2, hg2⟩
  go_wp2_with fail
  refine (l02Draw_c _ 90 w2 (hS2.less (by omega))).mono ?_
  rintro e w3 ⟨f, rfl, hf, _, hg3⟩
  have hlt := hS.lt
  have hb3 := drew_up hb (grownBy_trans hg2 hg3) (Nat.le_refl _)
  have hO3 := hO.drew hlt hg3
  have hsz : w1.heap.size ≤ w3.heap.size := Nat.le_trans hg2.size hg3.size
  clear hO hS hS2 hg2 hg3
  obtain ⟨wt, hwt⟩ : ∃ wt, wt = w3.alloc (.cells #[.int .i64 f.Length, .int .i64 f.Ball, .int .i64 f.Instep, .int .i64 f.Heel] 62) := ⟨_, rfl⟩
  have hct : Below w3.heap.size w3 wt := by rw [hwt]; exact newB _ _
  have htmp : wt.heap[w3.heap.size]? = some (.cells (Flat.el f).toArray 62 (0, 0)) := by rw [hwt]; exact heap_alloc_new _ _
  replace hwt := Lib.hid hwt
  have hrw := hO3.later hct
  have hBw : w1.heap.size ≤ wt.heap.size := Nat.le_trans hsz hct.size
  have hfl : fs.length + 1 ≤ 4294967296 := by omega
  replace hn := Lib.hid hn
  go_wp2_with (first | rw [← hwt.out] | (at_builtin; refine wpList_pushTo rfl (.tmp 7) (.tmp 10) 58 rfl w1.heap.size 62 (.agg #[.int .i64 0, .int .i64 0, .int .i64 0, .int .i64 0]) 32 Try.underlying58 infoFoot rfl _ fs f rfl hrw w3.heap.size 1 rfl 62 htmp hfl (by decide) hBw ?_; intro g' cap wq hO' hg' hl'))
  go_ret
  have hw1 : w.heap.size ≤ w1.heap.size := hb.size
  have hrl : (fs ++ [f]).length = fs.length + 1 := by simp
  have hgl : wt.grownBy wq v.ownBlock := hg'
  have hbz := below_mark (upw hb3 hct) hrw hw1 hgl
  refine ⟨_, fs ++ [f], rfl, hO'.base hw1, fun y hy => ?_, by omega, hbz⟩
  rcases List.mem_append.1 hy with hy | hy
  · exact hn.out y hy
  · simp only [List.mem_singleton] at hy; rw [hy]; exact hf.near
end Go.Proofs.Ytlaclknhenccdaa
