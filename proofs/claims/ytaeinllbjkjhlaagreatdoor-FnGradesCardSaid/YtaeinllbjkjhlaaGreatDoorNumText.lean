/- Numbers in decimal, as the program writes them, and numbers with a separator. -/
import Derived.Test.YtaeinllbjkjhlaaGreatDoorDec
import Derived.Test.YtaeinllbjkjhlaaGreatDoorTextLay
import Derived.Lib.AppendIntMem
import Derived.Lib.Join
namespace Go.Proofs.YtaeinllbjkjhlaaGreatDoor
open Go.RowKit

/-- The table of powers of ten lies as its initialiser lays it. -/
def Tab (w : World) : Prop := Lib.TabIs Tryz.prog w "internal/strconv.uint64pow10" .u64 Lib.pow10Tab
theorem Tab.below {w w' : World} (h : Tab w) (hb : Below w.heap.size w w') : Tab w' := Lib.tabBelow_of_tabIs h w' hb
theorem cat_lists (a b : List UInt8) : (⟨a.toArray⟩ ++ ⟨b.toArray⟩ : ByteArray) = ⟨(a ++ b).toArray⟩ := by
  apply Go.WideShapes.bytes_inj
  simp
theorem bytes_list (s : ByteArray) : s = ⟨s.data.toList.toArray⟩ := by
  apply Go.WideShapes.bytes_inj
  simp
theorem joinTail_length (sep : List UInt8) (m : Nat) : ∀ r : List (List UInt8), (∀ x ∈ r, x.length ≤ m) → (Lib.joinTail sep r).length ≤ r.length * (sep.length + m)
  | [], _ => by simp [Lib.joinTail]
  | x :: r, h => by
    have ih := joinTail_length sep m r fun y hy => h y (List.mem_cons_of_mem _ hy)
    have hx := h x (by simp)
    unfold Lib.joinTail at *
    simp only [List.map_cons, List.flatten_cons, List.length_append, List.length_cons] at *
    rw [Nat.add_mul]
    omega
theorem own_cap2 {α : Type} [Flat α] {B : Nat} {w : World} {e : TypeId} {g n c : Nat} {xs : List α} (h : Own B w e (.slice (some ⟨g, 0, none⟩) n c) xs) : xs.length ≤ c ∧ c ≤ maxLen := by
  rcases h.2 with ⟨h', _⟩ | ⟨g', cap', cur, h', hb, hg, hnc, hcm, hcs, htake⟩
  · simp at h'
  · simp only [Value.slice.injEq, Option.some.injEq, Addr.mk.injEq, and_true] at h'
    obtain ⟨rfl, _, rfl⟩ := h'
    exact ⟨hnc, hcm⟩
theorem decimal_c (n : Int) (w : World) (h0 : -9223372036854775808 ≤ n) (h1 : n ≤ 9223372036854775807) (hT : Tab w) :
    Calls Tryz.prog 51 #[.int .i64 n] w fun e w' => e = .returned (.string (decT n)) ∧ Below w.heap.size w w' := by
  have h := Lib.hid (fmtTen n h0 h1 w hT)
  go_enter Tryz.func51, Tryz.ntmps51
  go_wp2_with fail
  refine h.out.mono ?_
  rintro e w' ⟨rfl, k, os, hw⟩
  have hb : Below w.heap.size w w' := by rw [hw]; exact Lib.below_grow _ w (Nat.le_refl _) k os
  clear hw
  go_wp2_with fail
  go_ret
  exact ⟨rfl, hb⟩
/-- Numbers with a separator. -/
def numsT (sep : ByteArray) (xs : List Int) : ByteArray := ⟨(Lib.join (xs.map Lib.itoa) sep.data.toList).toArray⟩
theorem infoStr : (Tryz.prog.info? 9).map (fun i => (i.zero, i.size, i.bytes)) = some (some (.string ⟨#[]⟩), 1, 16) := by kernel_rfl
set_option maxRecDepth 100000 in
set_option maxHeartbeats 1600000 in
theorem numbersText_c (sep : ByteArray) (a : Option Addr) (xs : List Int) (c : Nat) (w : World) (hx : At w a xs) (hl : xs.length ≤ 1000) (h0 : 0 < xs.length) (hr : ∀ x ∈ xs, -9223372036854775808 ≤ x ∧ x ≤ 9223372036854775807) (hs : sep.size ≤ 1000) (hT : Tab w) :
    Calls Tryz.prog 79 #[.string sep, .slice a xs.length c] w fun e w' => e = .returned (.string (numsT sep xs)) ∧ Below w.heap.size w w' := by
  have hO0 := Lib.hid (own_new (α := ByteArray) w 9)
  have hb0 : Below w.heap.size w (w.alloc (.cells #[] 9)) := (Below.refl _ _).alloc (Nat.le_refl _) _
  replace hr := Lib.hid hr
  replace hT := Lib.hid hT
  go_enter Tryz.func79, Tryz.ntmps79
  go_wp2_with fail
  go_loopw [5, 7, 11] (fun v _ i wr => ∃ k : Nat, k ≤ xs.length ∧ i = .int .i64 k ∧ Hid (Own w.heap.size wr 9 v ((xs.take k).map decT)) ∧ Below w.heap.size w wr) (fun _ _ i _ => xs.length - (intOf i).toNat)
  case atStart => exact ⟨0, Nat.zero_le _, rfl, hO0, hb0⟩
  case round =>
    obtain ⟨k, hk, rfl, hO, hb⟩ := hrel
    by_cases hlt : k < xs.length
    · have hx2 := hx.below hb
      obtain ⟨b, off, rfl⟩ := hx2.addr hlt
      have hbl := hx2.lt hlt
      have c0 := hx2.int hlt
      have hrx := hr.out _ (List.getElem_mem hlt)
      have E : Hid ((xs.take (k + 1)).map decT = (xs.take k).map decT ++ [decT xs[k]]) := Lib.hid (by rw [List.take_succ_eq_append_getElem hlt, List.map_append]; rfl)
      obtain ⟨x, hxe⟩ : ∃ x, x = xs[k] := ⟨_, rfl⟩
      rw [← hxe] at c0 hrx E
      replace hxe := Lib.hid hxe
      have hD := Lib.hid (decimal_c x wr hrx.1 hrx.2 (hT.out.below hb))
      have hlk : Hid (((xs.take k).map decT).length ≤ 1000) := Lib.hid (by rw [List.length_map, List.length_take]; omega)
      clear hx2
      go_wp2_with fail
      refine hD.out.mono ?_
      rintro e w2 ⟨rfl, hb2⟩
      replace hb := upw hb hb2
      have hsz := hb.size
      have hO2 := Lib.hid (hO.out.later hb2)
      have hb3 : Below w2.heap.size w2 (w2.alloc (.cells #[.string (decT x)] 9)) := (Below.refl _ _).alloc (Nat.le_refl _) _
      go_wp2_with (at_builtin; refine wpList_push rfl (.tmp 15) (.tmp 18) 72 rfl w.heap.size 9 (.string ⟨#[]⟩) 16 Tryz.underlying72 infoStr rfl _ _ (decT x) rfl (hO2.out.later hb3) _ _ rfl 9 (heap_alloc_new _ _) (by have := hlk.out; omega) (by decide) (by simp; omega) ?_; intro v1 w7 hO1 hg1)
      go_roundw
      case rel => exact ⟨k + 1, by omega, by go_num, Lib.hid (by rw [E.out]; exact hO1), below_mark (upw hb hb3) (hO2.out.later hb3) (Nat.le_refl _) hg1⟩
      case measure => simp [intOf]; omega
    · obtain rfl : k = xs.length := by omega
      rw [List.take_length] at hO
      have hlm : (xs.map decT).length = xs.length := List.length_map _
      obtain ⟨g, cap, hv⟩ := hO.out.row (by rw [hlm]; exact h0)
      rw [hv] at hO ⊢
      have hcap := own_cap2 hO.out
      have hgl := (hO.out.lt g rfl).2
      have hA := hO.out.at'
      have hmm : (xs.map decT).map (fun s : ByteArray => s.data.toList) = xs.map Lib.itoa := by
        rw [List.map_map]
        apply List.map_congr_left
        intro x _
        simp [decT]
      have hjl : (Lib.join ((xs.map decT).map (fun s : ByteArray => s.data.toList)) sep.data.toList).length ≤ 140737488355328 := by
        rw [hmm]
        obtain ⟨y, ys, hys⟩ : ∃ y ys, xs = y :: ys := by
          cases xs with
          | nil => simp at h0
          | cons y ys => exact ⟨y, ys, rfl⟩
        have hle : ∀ x ∈ xs, (Lib.itoa x).length ≤ 21 := fun x hx => Lib.itoa_length_le x (hr.out x hx).1 (hr.out x hx).2
        rw [hys] at hle hl ⊢
        rw [List.map_cons, Lib.join_cons, List.length_append]
        have h1 := hle y (by simp)
        have h2 := joinTail_length sep.data.toList 21 (ys.map Lib.itoa) (fun x hx => by
          obtain ⟨z, hz, rfl⟩ := List.mem_map.1 hx
          exact hle z (List.mem_cons_of_mem _ hz))
        rw [List.length_map] at h2
        have h3 : sep.data.toList.length ≤ 1000 := hs
        have h4 : ys.length ≤ 1000 := by have h6 := hl; rw [List.length_cons] at h6; omega
        have h5 : ys.length * (sep.data.toList.length + 21) ≤ 1000 * 1021 := Nat.mul_le_mul h4 (by omega)
        omega
      have hJ := joinMany g 0 cap (xs.map decT) sep wr (fun j s hj => by
        obtain ⟨hj1, hj2⟩ := List.getElem?_eq_some_iff.1 hj
        have := hA.str hj1
        rw [hj2] at this
        exact this) hgl (by rw [hlm]; omega) hcap.1 hjl
      rw [hmm] at hJ
      replace hJ := Lib.hid hJ
      rw [hlm] at hJ ⊢
      clear hA hcap hjl hmm
      go_wp2_with fail
      refine hJ.out.mono ?_
      rintro e w2 ⟨rfl, hb2⟩
      replace hb := upw hb hb2
      go_wp2_with fail
      go_ret
      exact ⟨rfl, hb⟩
end Go.Proofs.YtaeinllbjkjhlaaGreatDoor
