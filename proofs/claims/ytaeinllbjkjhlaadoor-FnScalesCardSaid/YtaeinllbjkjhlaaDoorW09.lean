/- Chapter 3, what the draws and the law ask for. -/
import Derived.Test.YtaeinllbjkjhlaaDoorW06
import Derived.Test.YtaeinllbjkjhlaaDoorSrc
namespace Go.Proofs.YtaeinllbjkjhlaaDoor
open Go.RowKit

theorem text3_c (g M : Nat) (a : Option Addr) (xs : List ByteArray) (c : Nat) (w : World) (hS : SrcAt w g (M + 2)) (hx : At w a xs) (ho : Off a g) (h0 : 0 < xs.length) (hl : xs.length ≤ 9223372036854775807) :
    Calls Tryd.prog 36 #[.pointer (some ⟨g, 0, none⟩), .slice a xs.length c] w fun e w' => ∃ v : ByteArray, e = .returned (.string v) ∧ v ∈ xs ∧ SrcAt w' g M ∧ w.grownBy w' (some g) := by
  go_enter Tryd.func36, Tryd.ntmps36
  go_wp2_with fail
  refine (pick_c g M xs.length w hS (by omega) (by omega)).mono ?_
  rintro e w2 ⟨v, rfl, v0, v1, hS2, hg2⟩
  obtain ⟨k, rfl⟩ : ∃ k : Nat, v = k := ⟨v.toNat, by omega⟩
  have hk : k < xs.length := by omega
  have hx2 := hx.offF (Or.inr ho) hg2
  obtain ⟨b, off, rfl⟩ := hx2.addr hk
  have c0 := hx2.str hk
  go_wp2_with fail
  go_ret
  exact ⟨_, rfl, List.getElem_mem hk, hS2, hg2⟩
theorem drawHalf_c (g M : Nat) (w : World) (hS : SrcAt w g (M + 4)) :
    Calls Tryd.prog 31 #[.pointer (some ⟨g, 0, none⟩)] w fun e w' => ∃ v : Int, e = .returned (.int .i64 v) ∧ -1 ≤ v ∧ v ≤ 9223372036854775807 ∧ SrcAt w' g M ∧ w.grownBy w' (some g) := by
  go_enter Tryd.func31, Tryd.ntmps31
  go_wp2_with fail
  refine (one_c g (M + 2) 10 w hS (by omega) (by omega)).mono ?_
  rintro e w2 ⟨b, rfl, hS2, hg2⟩
  cases b
  · go_wp2_with fail
    refine (pick_c g M 100 w2 hS2 (by omega) (by omega)).mono ?_
    rintro e w3 ⟨v, rfl, v0, v1, hS3, hg3⟩
    go_wp2_with fail
    go_ret
    exact ⟨_, rfl, by omega, by omega, hS3, grownBy_trans hg2 hg3⟩
  · have hb : Below w2.heap.size w2 (w2.alloc (.cells #[.int .i64 (-1), .int .i64 0, .int .i64 120, .int .i64 121, .int .i64 9223372036854775807] 2)) := newB _ _
    have hA := at_lits w2 2 [-1, 0, 120, 121, 9223372036854775807]
    go_wp2_with fail
    refine (among_c g M _ [-1, 0, 120, 121, 9223372036854775807] _ _ (hS2.later hb) hA (off_new hS2.lt) (by simp) (by simp)).mono ?_
    rintro e w3 ⟨v, rfl, hv, hS3, hg3⟩
    go_wp2_with fail
    go_ret
    simp at hv
    exact ⟨_, rfl, by omega, by omega, hS3, grownBy_trans (grownBy_trans hg2 (drew_below g hb)) hg3⟩
end Go.Proofs.YtaeinllbjkjhlaaDoor
