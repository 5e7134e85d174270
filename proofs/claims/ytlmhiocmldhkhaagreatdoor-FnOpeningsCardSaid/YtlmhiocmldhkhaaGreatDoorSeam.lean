/- Seam: the type, how it lies in cells, and what the functions on it and on lists of it compute. (Printed by wip/genflat.py.) -/
import Derived.Test.YtlmhiocmldhkhaaGreatDoorRows
import Derived.Test.YtlmhiocmldhkhaaGreatDoorBase
namespace Go.Proofs.YtlmhiocmldhkhaaGreatDoor
open Go.RowKit

@[ext] structure Seam where
  A : Int
  EdgeA : Int
  B : Int
  EdgeB : Int
deriving DecidableEq

instance : Flat Seam := ⟨4, by decide, fun s => [.int .i64 s.A, .int .i64 s.EdgeA, .int .i64 s.B, .int .i64 s.EdgeB], fun _ => rfl, fun x u h => by simp at h; rcases h with h | h | h | h <;> subst h <;> rfl, fun s => (-9223372036854775808 ≤ s.A ∧ s.A ≤ 9223372036854775807) ∧ (-9223372036854775808 ≤ s.EdgeA ∧ s.EdgeA ≤ 9223372036854775807) ∧ (-9223372036854775808 ≤ s.B ∧ s.B ≤ 9223372036854775807) ∧ (-9223372036854775808 ≤ s.EdgeB ∧ s.EdgeB ≤ 9223372036854775807)⟩

theorem At.seam {w : World} {b off : Nat} {xs : List Seam} (h : At w (some ⟨b, off, none⟩) xs) {i : Nat} (hi : i < xs.length) :
    w.cell? ⟨b, off + i * 4, none⟩ = some (.int .i64 xs[i].A) ∧ w.cell? ⟨b, off + i * 4 + 1, none⟩ = some (.int .i64 xs[i].EdgeA) ∧ w.cell? ⟨b, off + i * 4 + 2, none⟩ = some (.int .i64 xs[i].B) ∧ w.cell? ⟨b, off + i * 4 + 3, none⟩ = some (.int .i64 xs[i].EdgeB) := by
  obtain ⟨cs, hr, hc⟩ := h.elem hi
  have h0 := hc 0 (.int .i64 xs[i].A) (by rw [hr]; rfl)
  have h1 := hc 1 (.int .i64 xs[i].EdgeA) (by rw [hr]; rfl)
  have h2 := hc 2 (.int .i64 xs[i].B) (by rw [hr]; rfl)
  have h3 := hc 3 (.int .i64 xs[i].EdgeB) (by rw [hr]; rfl)
  exact ⟨by simpa [Rep.k, Flat.k] using h0, by simpa [Rep.k, Flat.k] using h1, by simpa [Rep.k, Flat.k] using h2, by simpa [Rep.k, Flat.k] using h3⟩

theorem seam_eq (p q : Seam) : (p == q) = (p.A == q.A && p.EdgeA == q.EdgeA && p.B == q.B && p.EdgeB == q.EdgeB) := by
  cases p; cases q; rw [Bool.eq_iff_iff]; simp [Seam.mk.injEq, and_assoc]

theorem seam_neq (a1 a2 : Int) (edgea1 edgea2 : Int) (b1 b2 : Int) (edgeb1 edgeb2 : Int) (w : World) : (binOp .neq 46 (.agg #[.int .i64 a1, .int .i64 edgea1, .int .i64 b1, .int .i64 edgeb1]) (.agg #[.int .i64 a2, .int .i64 edgea2, .int .i64 b2, .int .i64 edgeb2])).run Tryz.prog w = .ok (.bool (!((⟨a1, edgea1, b1, edgeb1⟩ : Seam) == ⟨a2, edgea2, b2, edgeb2⟩))) w := by
  by_cases h0 : a1 = a2 <;> by_cases h1 : edgea1 = edgea2 <;> by_cases h2 : b1 = b2 <;> by_cases h3 : edgeb1 = edgeb2 <;> simp [go_sem, h0, h1, h2, h3, seam_eq]
theorem seam_eql (a1 a2 : Int) (edgea1 edgea2 : Int) (b1 b2 : Int) (edgeb1 edgeb2 : Int) (w : World) : (binOp .eql 46 (.agg #[.int .i64 a1, .int .i64 edgea1, .int .i64 b1, .int .i64 edgeb1]) (.agg #[.int .i64 a2, .int .i64 edgea2, .int .i64 b2, .int .i64 edgeb2])).run Tryz.prog w = .ok (.bool (((⟨a1, edgea1, b1, edgeb1⟩ : Seam) == ⟨a2, edgea2, b2, edgeb2⟩))) w := by
  by_cases h0 : a1 = a2 <;> by_cases h1 : edgea1 = edgea2 <;> by_cases h2 : b1 = b2 <;> by_cases h3 : edgeb1 = edgeb2 <;> simp [go_sem, h0, h1, h2, h3, seam_eq]

/-- The cells of a new variable. -/
theorem newSeam_cells (w : World) (t : TypeId) (s : Seam) : (w.alloc (.cells #[.int .i64 s.A, .int .i64 s.EdgeA, .int .i64 s.B, .int .i64 s.EdgeB] t)).cell? ⟨w.heap.size, 0, none⟩ = some (.int .i64 s.A) ∧ (w.alloc (.cells #[.int .i64 s.A, .int .i64 s.EdgeA, .int .i64 s.B, .int .i64 s.EdgeB] t)).cell? ⟨w.heap.size, 1, none⟩ = some (.int .i64 s.EdgeA) ∧ (w.alloc (.cells #[.int .i64 s.A, .int .i64 s.EdgeA, .int .i64 s.B, .int .i64 s.EdgeB] t)).cell? ⟨w.heap.size, 2, none⟩ = some (.int .i64 s.B) ∧ (w.alloc (.cells #[.int .i64 s.A, .int .i64 s.EdgeA, .int .i64 s.B, .int .i64 s.EdgeB] t)).cell? ⟨w.heap.size, 3, none⟩ = some (.int .i64 s.EdgeB) := by
  refine ⟨?_, ?_, ?_, ?_⟩ <;> go_simp

set_option maxHeartbeats 400000 in
theorem indexSeams_any (a : Option Addr) (xs : List Seam) (c : Nat) (K : Nat) (cap : Array Value) (p : Seam → Bool) (w : World) (hK : Enters Tryz.prog K) (hx : At w a xs) (hl : xs.length ≤ 9223372036854775807)
    (hf : ∀ x ∈ xs, ∀ w', Below w.heap.size w w' → Calls Tryz.prog K (#[.agg #[.int .i64 x.A, .int .i64 x.EdgeA, .int .i64 x.B, .int .i64 x.EdgeB]] ++ cap) w' fun e w'' => e = .returned (.bool (p x)) ∧ Below w'.heap.size w' w'') :
    Calls Tryz.prog 67 #[.slice a xs.length c, .func (.func K) #[] cap] w fun e w' => e = .returned (.int .i64 (firstIdx p xs)) ∧ Below w.heap.size w w' := by
  have HF := Lib.hid hf
  clear hf
  unfold Enters at hK
  go_enter Tryz.func67, Tryz.ntmps67
  go_wp2
  go_loopw [8] (fun i wr => ∃ k : Nat, k ≤ xs.length ∧ i = .int .i64 k ∧ Nosofar p xs k ∧ Below w.heap.size w wr) (fun i _ => xs.length - (intOf i).toNat)
  case atStart => exact ⟨0, Nat.zero_le _, rfl, nosofar_zero, Below.refl _ _⟩
  case round =>
    obtain ⟨k, hk, rfl, hs, hb⟩ := hrel
    have HS := Lib.hid hs
    clear hs
    replace hx := hx.below hb
    by_cases hlt : k < xs.length
    · obtain ⟨b, off, rfl⟩ := hx.addr hlt
      obtain ⟨c0, c1, c2, c3⟩ := hx.seam hlt
      cases hp : p xs[k]
      · go_wp2_with fail
        refine (HF.out _ (List.getElem_mem hlt) _ hb).mono ?_
        rintro e w2 ⟨rfl, hb2⟩
        replace hb := upw hb hb2
        go_wp2_with fail
        go_roundw
        case rel => exact ⟨k + 1, by omega, by go_num, nosofar_succ HS.out hp, hb⟩
        case measure => simp [intOf]; omega
      · go_wp2_with fail
        refine (HF.out _ (List.getElem_mem hlt) _ hb).mono ?_
        rintro e w2 ⟨rfl, hb2⟩
        replace hb := upw hb hb2
        go_wp2_with fail
        go_ret
        exact ⟨ret_int (firstIdx_some hlt HS.out hp).symm, hb⟩
    · go_wp2
      go_ret
      exact ⟨ret_int (firstIdx_none (by omega) HS.out).symm, hb⟩
theorem containsSeams_any (a : Option Addr) (xs : List Seam) (c : Nat) (K : Nat) (cap : Array Value) (p : Seam → Bool) (w : World) (hK : Enters Tryz.prog K) (hx : At w a xs) (hl : xs.length ≤ 9223372036854775807)
    (hf : ∀ x ∈ xs, ∀ w', Below w.heap.size w w' → Calls Tryz.prog K (#[.agg #[.int .i64 x.A, .int .i64 x.EdgeA, .int .i64 x.B, .int .i64 x.EdgeB]] ++ cap) w' fun e w'' => e = .returned (.bool (p x)) ∧ Below w'.heap.size w' w'') :
    Calls Tryz.prog 37 #[.slice a xs.length c, .func (.func K) #[] cap] w fun e w' => e = .returned (.bool (xs.any p)) ∧ Below w.heap.size w w' := by
  have HF := Lib.hid hf
  clear hf
  go_enter Tryz.func37, Tryz.ntmps37
  go_wp2_with fail
  refine (indexSeams_any _ _ _ _ _ _ _ hK hx hl HF.out).mono ?_
  rintro e w2 ⟨rfl, hb⟩
  go_wp2_with fail
  go_ret
  exact ⟨ret_bool (firstIdx_pos p xs), hb⟩

theorem infoSeam : (Tryz.prog.info? 46).map (fun i => (i.zero, i.size, i.bytes)) = some (some (.agg #[.int .i64 0, .int .i64 0, .int .i64 0, .int .i64 0]), 4, 32) := by kernel_rfl

theorem cloneSeams_any (a : Option Addr) (xs : List Seam) (c : Nat) (w : World) (hx : At w a xs) (hl : xs.length ≤ 4294967296) (hc : a = none → c = 0) :
    Calls Tryz.prog 26 #[.slice a xs.length c] w fun e w' => ∃ v, e = .returned v ∧ Own w.heap.size w' 46 v xs ∧ Below w.heap.size w w' := by
  have hq := fun w a n c => Lib.run_eql_slice_nil (P := Tryz.prog) w 25 46 a n c 0 0 Tryz.underlying25
  cases a with
  | none =>
    have hy : xs = [] := by
      rcases hx with h | ⟨b, off, h, _⟩
      · exact h
      · cases h
    subst hy
    go_enter Tryz.func26, Tryz.ntmps26
    go_wp2
    go_ret
    exact ⟨_, rfl, World.ownsRow_nil _ _ _ _, Below.refl _ _⟩
  | some ad =>
    go_enter Tryz.func26, Tryz.ntmps26
    go_wp2_with (at_builtin; refine wpList_pushall rfl (.tmp 5) (.tmp 6) 25 rfl w.heap.size 46 (.agg #[.int .i64 0, .int .i64 0, .int .i64 0, .int .i64 0]) 32 Tryz.underlying25 infoSeam rfl _ [] xs rfl (own_new _ _) _ _ rfl (fun h => by cases h) (hx.below ((Below.refl _ _).alloc (Nat.le_refl _) _)) (by simp; omega) (by decide) (by simp) ?_; intro v1 w1 hO1 hg1)
    go_ret
    exact ⟨_, rfl, by simpa using hO1, ((Below.refl _ _).alloc (Nat.le_refl _) _).grown hg1 (by simp) (fun k hk => by have : w.heap.size = k := Option.some.inj hk; omega)⟩

end Go.Proofs.YtlmhiocmldhkhaaGreatDoor
