/- Numbers in decimal, as the program writes them, and numbers with a separator. -/
import Derived.Test.YtaeinllbjkjhlaaDoorDec
import Derived.Test.YtaeinllbjkjhlaaDoorTextLay
import Derived.Lib.AppendIntMem
import Derived.Lib.Join
namespace Go.Proofs.YtaeinllbjkjhlaaDoor
open Go.RowKit

/-- The table of powers of ten lies as its initialiser lays it. -/
def Tab (w : World) : Prop := Lib.TabIs Tryd.prog w "internal/strconv.uint64pow10" .u64 Lib.pow10Tab
theorem Tab.below {w w' : World} (h : Tab w) (hb : Below w.heap.size w w') : Tab w' := Lib.tabBelow_of_tabIs h w' hb
theorem cat_lists (a b : List UInt8) : (⟨a.toArray⟩ ++ ⟨b.toArray⟩ : ByteArray) = ⟨(a ++ b).toArray⟩ := by
  apply Go.WideShapes.bytes_inj
  simp
theorem bytes_list (s : ByteArray) : s = ⟨s.data.toList.toArray⟩ := by
  apply Go.WideShapes.bytes_inj
  simp
theorem joinTail_length (sep : List UInt8) (m : Nat) : ∀ r : List (List UInt8), (∀ x ∈ r, x.length ≤ m) → (Lib.joinTail sep r).length ≤ r.length * (sep.length + m)
  | [], _ => by simp [Lib.joinTail]
  | x :: r, h => by
    have ih := joinTail_length sep m r fun y hy => h y (List.mem_cons_of_mem _ hy)
    have hx := h x (by simp)
    unfold Lib.joinTail at *
    simp only [List.map_cons, List.flatten_cons, List.length_append, List.length_cons] at *
    rw [Nat.add_mul]
    omega
theorem own_cap2 {α : Type} [Flat α] {B : Nat} {w : World} {e : TypeId} {g n c : Nat} {xs : List α} (h : Own B w e (.slice (some ⟨g, 0, none⟩) n c) xs) : xs.length ≤ c ∧ c ≤ maxLen := by
  rcases h.2 with ⟨h', _⟩ | ⟨g', cap', cur, h', hb, hg, hnc, hcm, hcs, htake⟩
  · simp at h'
  · simp only [Value.slice.injEq, Option.some.injEq, Addr.mk.injEq, and_true] at h'
    obtain ⟨rfl, _, rfl⟩ := h'
    exact ⟨hnc, hcm⟩
theorem decimal_c (n : Int) (w : World) (h0 : -9223372036854775808 ≤ n) (h1 : n ≤ 9223372036854775807) (hT : Tab w) :
    Calls Tryd.prog 37 #[.int .i64 n] w fun e w' => e = .returned (.string (decT n)) ∧ Below w.heap.size w w' := by
  have h := Lib.hid (fmtTen n h0 h1 w hT)
  go_enter Tryd.func37, Tryd.ntmps37
  go_wp2_with fail
  refine h.out.mono ?_
  rintro e w' ⟨rfl, k, os, hw⟩
  have hb : Below w.heap.size w w' := by rw [hw]; exact Lib.below_grow _ w (Nat.le_refl _) k os
  clear hw
  go_wp2_with fail
  go_ret
  exact ⟨rfl, hb⟩
/-- Numbers with a separator. -/
def numsT (sep : ByteArray) (xs : List Int) : ByteArray := ⟨(Lib.join (xs.map Lib.itoa) sep.data.toList).toArray⟩
theorem infoStr : (Tryd.prog.info? 9).map (fun i => (i.zero, i.size, i.bytes)) = some (some (.string ⟨#[]⟩), 1, 16) := by kernel_rfl
end Go.Proofs.YtaeinllbjkjhlaaDoor
