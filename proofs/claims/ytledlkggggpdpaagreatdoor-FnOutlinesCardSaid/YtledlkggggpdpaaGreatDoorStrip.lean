/- Strip: the type, how it lies in cells, and what the functions on it and on lists of it compute. (Printed by wip/genflat.py.) -/
import Derived.Test.YtledlkggggpdpaaGreatDoorRows
import Derived.Test.YtledlkggggpdpaaGreatDoorBase
namespace Go.Proofs.YtledlkggggpdpaaGreatDoor
open Go.RowKit

@[ext] structure Strip where
  Length : Int
  Allow : Int
  Left : Int
  Right : Int
deriving DecidableEq

instance : Flat Strip := ⟨4, by decide, fun s => [.int .i64 s.Length, .int .i64 s.Allow, .int .i64 s.Left, .int .i64 s.Right], fun _ => rfl, fun x u h => by simp at h; rcases h with h | h | h | h <;> subst h <;> rfl, fun s => (-9223372036854775808 ≤ s.Length ∧ s.Length ≤ 9223372036854775807) ∧ (-9223372036854775808 ≤ s.Allow ∧ s.Allow ≤ 9223372036854775807) ∧ (-9223372036854775808 ≤ s.Left ∧ s.Left ≤ 9223372036854775807) ∧ (-9223372036854775808 ≤ s.Right ∧ s.Right ≤ 9223372036854775807)⟩

theorem At.strip {w : World} {b off : Nat} {xs : List Strip} (h : At w (some ⟨b, off, none⟩) xs) {i : Nat} (hi : i < xs.length) :
    w.cell? ⟨b, off + i * 4, none⟩ = some (.int .i64 xs[i].Length) ∧ w.cell? ⟨b, off + i * 4 + 1, none⟩ = some (.int .i64 xs[i].Allow) ∧ w.cell? ⟨b, off + i * 4 + 2, none⟩ = some (.int .i64 xs[i].Left) ∧ w.cell? ⟨b, off + i * 4 + 3, none⟩ = some (.int .i64 xs[i].Right) := by
  obtain ⟨cs, hr, hc⟩ := h.elem hi
  have h0 := hc 0 (.int .i64 xs[i].Length) (by rw [hr]; rfl)
  have h1 := hc 1 (.int .i64 xs[i].Allow) (by rw [hr]; rfl)
  have h2 := hc 2 (.int .i64 xs[i].Left) (by rw [hr]; rfl)
  have h3 := hc 3 (.int .i64 xs[i].Right) (by rw [hr]; rfl)
  exact ⟨by simpa [Rep.k, Flat.k] using h0, by simpa [Rep.k, Flat.k] using h1, by simpa [Rep.k, Flat.k] using h2, by simpa [Rep.k, Flat.k] using h3⟩

theorem strip_eq (p q : Strip) : (p == q) = (p.Length == q.Length && p.Allow == q.Allow && p.Left == q.Left && p.Right == q.Right) := by
  cases p; cases q; rw [Bool.eq_iff_iff]; simp [Strip.mk.injEq, and_assoc]

theorem strip_neq (length1 length2 : Int) (allow1 allow2 : Int) (left1 left2 : Int) (right1 right2 : Int) (w : World) : (binOp .neq 54 (.agg #[.int .i64 length1, .int .i64 allow1, .int .i64 left1, .int .i64 right1]) (.agg #[.int .i64 length2, .int .i64 allow2, .int .i64 left2, .int .i64 right2])).run Tryz.prog w = .ok (.bool (!((⟨length1, allow1, left1, right1⟩ : Strip) == ⟨length2, allow2, left2, right2⟩))) w := by
  by_cases h0 : length1 = length2 <;> by_cases h1 : allow1 = allow2 <;> by_cases h2 : left1 = left2 <;> by_cases h3 : right1 = right2 <;> simp [go_sem, h0, h1, h2, h3, strip_eq]
theorem strip_eql (length1 length2 : Int) (allow1 allow2 : Int) (left1 left2 : Int) (right1 right2 : Int) (w : World) : (binOp .eql 54 (.agg #[.int .i64 length1, .int .i64 allow1, .int .i64 left1, .int .i64 right1]) (.agg #[.int .i64 length2, .int .i64 allow2, .int .i64 left2, .int .i64 right2])).run Tryz.prog w = .ok (.bool (((⟨length1, allow1, left1, right1⟩ : Strip) == ⟨length2, allow2, left2, right2⟩))) w := by
  by_cases h0 : length1 = length2 <;> by_cases h1 : allow1 = allow2 <;> by_cases h2 : left1 = left2 <;> by_cases h3 : right1 = right2 <;> simp [go_sem, h0, h1, h2, h3, strip_eq]

/-- The cells of a new variable. -/
theorem newStrip_cells (w : World) (t : TypeId) (s : Strip) : (w.alloc (.cells #[.int .i64 s.Length, .int .i64 s.Allow, .int .i64 s.Left, .int .i64 s.Right] t)).cell? ⟨w.heap.size, 0, none⟩ = some (.int .i64 s.Length) ∧ (w.alloc (.cells #[.int .i64 s.Length, .int .i64 s.Allow, .int .i64 s.Left, .int .i64 s.Right] t)).cell? ⟨w.heap.size, 1, none⟩ = some (.int .i64 s.Allow) ∧ (w.alloc (.cells #[.int .i64 s.Length, .int .i64 s.Allow, .int .i64 s.Left, .int .i64 s.Right] t)).cell? ⟨w.heap.size, 2, none⟩ = some (.int .i64 s.Left) ∧ (w.alloc (.cells #[.int .i64 s.Length, .int .i64 s.Allow, .int .i64 s.Left, .int .i64 s.Right] t)).cell? ⟨w.heap.size, 3, none⟩ = some (.int .i64 s.Right) := by
  refine ⟨?_, ?_, ?_, ?_⟩ <;> go_simp

section
attribute [local go_sem ↓] strip_neq
set_option maxHeartbeats 400000 in
theorem equalStrips_any (a a' : Option Addr) (xs ys : List Strip) (c c' : Nat) (w : World) (hx : At w a xs) (hy : At w a' ys)
   (hlx : xs.length ≤ 9223372036854775807) (_hly : ys.length ≤ 9223372036854775807) :
    Calls Tryz.prog 133 #[.slice a xs.length c, .slice a' ys.length c'] w fun e w' => e = .returned (.bool (xs == ys)) ∧ Below w.heap.size w w' := by
  by_cases hl : xs.length = ys.length
  · have hne : ((xs.length : Int) != ys.length) = false := by simp [hl]
    have HL := Lib.hid hl
    clear hl _hly
    go_enter Tryz.func133, Tryz.ntmps133
    go_wp2
    go_loopw [13, 5] (fun i _ wr => ∃ k : Nat, k ≤ xs.length ∧ i = .int .i64 k ∧ Upto xs ys k ∧ Below w.heap.size w wr) (fun i _ _ => xs.length - (intOf i).toNat)
    case atStart => exact ⟨0, Nat.zero_le _, rfl, upto_zero, Below.refl _ _⟩
    case round =>
      obtain ⟨k, hk, rfl, heq, hb⟩ := hrel
      have HE := Lib.hid heq
      clear heq
      have hx := hx.below hb
      have hy := hy.below hb
      by_cases hlt : k < xs.length
      · have hlt' : k < ys.length := by rw [← HL.out]; exact hlt
        obtain ⟨b, off, rfl⟩ := hx.addr hlt
        obtain ⟨b', off', rfl⟩ := hy.addr hlt'
        obtain ⟨c0, c1, c2, c3⟩ := hx.strip hlt
        obtain ⟨d0, d1, d2, d3⟩ := hy.strip hlt'
        have c0 := rg c0
        have d0 := rg d0
        have c1 := rg c1
        have d1 := rg d1
        have c2 := rg c2
        have d2 := rg d2
        have c3 := rg c3
        have d3 := rg d3
        go_wp2
        refine wp_region_quiet_below (by kernel_rfl) (by kernel_rfl) ?_
        repeat (go_big_quiet_step (fail))
        refine wpQuiet_nil ?_
        intro w2 hw'
        have hb := upw hb (grown_of hw')
        clear hw'
        go_wp2
        · have he : (!xs[k] == ys[k]) = true := by assumption
          go_ret
          exact ⟨ret_bool (beq_of_ne hlt hlt' (by simpa using he)).symm, hb⟩
        · have he : (!xs[k] == ys[k]) = false := by assumption
          go_roundw
          case rel => exact ⟨k + 1, by omega, by go_num, upto_succ HE.out (by simpa using he), hb⟩
          case measure => simp [intOf]; omega
      · go_wp2
        go_ret
        exact ⟨ret_bool (beq_of_upto HL.out (by omega) HE.out).symm, hb⟩
  · have hne : ((xs.length : Int) != ys.length) = true := by simp; omega
    go_enter Tryz.func133, Tryz.ntmps133
    go_wp2
    go_ret
    exact ⟨ret_bool (beq_of_len hl).symm, Below.refl _ _⟩

end
section
attribute [local go_sem ↓] strip_neq
set_option maxHeartbeats 400000 in
theorem specSameStrips_any (a a' : Option Addr) (xs ys : List Strip) (c c' : Nat) (w : World) (hx : At w a xs) (hy : At w a' ys)
   (hlx : xs.length ≤ 9223372036854775807) (_hly : ys.length ≤ 9223372036854775807) :
    Calls Tryz.prog 35 #[.slice a xs.length c, .slice a' ys.length c'] w fun e w' => e = .returned (.bool (xs == ys)) ∧ Below w.heap.size w w' := by
  by_cases hl : xs.length = ys.length
  · have hne : ((xs.length : Int) != ys.length) = false := by simp [hl]
    have HL := Lib.hid hl
    clear hl _hly
    go_enter Tryz.func35, Tryz.ntmps35
    go_wp2
    go_loopw [5] (fun i wr => ∃ k : Nat, k ≤ xs.length ∧ i = .int .i64 k ∧ Upto xs ys k ∧ Below w.heap.size w wr) (fun i _ => xs.length - (intOf i).toNat)
    case atStart => exact ⟨0, Nat.zero_le _, rfl, upto_zero, Below.refl _ _⟩
    case round =>
      obtain ⟨k, hk, rfl, heq, hb⟩ := hrel
      have HE := Lib.hid heq
      clear heq
      have hx := hx.below hb
      have hy := hy.below hb
      by_cases hlt : k < xs.length
      · have hlt' : k < ys.length := by rw [← HL.out]; exact hlt
        obtain ⟨b, off, rfl⟩ := hx.addr hlt
        obtain ⟨b', off', rfl⟩ := hy.addr hlt'
        obtain ⟨c0, c1, c2, c3⟩ := hx.strip hlt
        obtain ⟨d0, d1, d2, d3⟩ := hy.strip hlt'
        have c0 := rg c0
        have d0 := rg d0
        have c1 := rg c1
        have d1 := rg d1
        have c2 := rg c2
        have d2 := rg d2
        have c3 := rg c3
        have d3 := rg d3
        go_wp2
        refine wp_region_quiet_below (by kernel_rfl) (by kernel_rfl) ?_
        repeat (go_big_quiet_step (fail))
        refine wpQuiet_nil ?_
        intro w2 hw'
        have hb := upw hb (grown_of hw')
        clear hw'
        go_wp2
        · have he : (!xs[k] == ys[k]) = true := by assumption
          go_ret
          exact ⟨ret_bool (beq_of_ne hlt hlt' (by simpa using he)).symm, hb⟩
        · have he : (!xs[k] == ys[k]) = false := by assumption
          go_roundw
          case rel => exact ⟨k + 1, by omega, by go_num, upto_succ HE.out (by simpa using he), hb⟩
          case measure => simp [intOf]; omega
      · go_wp2
        go_ret
        exact ⟨ret_bool (beq_of_upto HL.out (by omega) HE.out).symm, hb⟩
  · have hne : ((xs.length : Int) != ys.length) = true := by simp; omega
    go_enter Tryz.func35, Tryz.ntmps35
    go_wp2
    go_ret
    exact ⟨ret_bool (beq_of_len hl).symm, Below.refl _ _⟩

end
theorem implSameStrips_any (a a' : Option Addr) (xs ys : List Strip) (c c' : Nat) (w : World) (hx : At w a xs) (hy : At w a' ys)
   (hlx : xs.length ≤ 9223372036854775807) (hly : ys.length ≤ 9223372036854775807) :
    Calls Tryz.prog 38 #[.slice a xs.length c, .slice a' ys.length c'] w fun e w' => e = .returned (.bool (xs == ys)) ∧ Below w.heap.size w w' := by
  go_enter Tryz.func38, Tryz.ntmps38
  go_wp2_with (go_at_call 133; refine (equalStrips_any _ _ _ _ _ _ _ hx hy hlx hly).mono ?_; rintro e w2 ⟨rfl, hb2⟩)
  go_ret
  exact ⟨rfl, hb2⟩

set_option maxHeartbeats 400000 in
theorem indexStrips_any (a : Option Addr) (xs : List Strip) (c : Nat) (K : Nat) (cap : Array Value) (p : Strip → Bool) (w : World) (hK : Enters Tryz.prog K) (hx : At w a xs) (hl : xs.length ≤ 9223372036854775807)
    (hf : ∀ x ∈ xs, ∀ w', Below w.heap.size w w' → Calls Tryz.prog K (#[.agg #[.int .i64 x.Length, .int .i64 x.Allow, .int .i64 x.Left, .int .i64 x.Right]] ++ cap) w' fun e w'' => e = .returned (.bool (p x)) ∧ Below w'.heap.size w' w'') :
    Calls Tryz.prog 203 #[.slice a xs.length c, .func (.func K) #[] cap] w fun e w' => e = .returned (.int .i64 (firstIdx p xs)) ∧ Below w.heap.size w w' := by
  have HF := Lib.hid hf
  clear hf
  unfold Enters at hK
  go_enter Tryz.func203, Tryz.ntmps203
  go_wp2
  go_loopw [8] (fun i wr => ∃ k : Nat, k ≤ xs.length ∧ i = .int .i64 k ∧ Nosofar p xs k ∧ Below w.heap.size w wr) (fun i _ => xs.length - (intOf i).toNat)
  case atStart => exact ⟨0, Nat.zero_le _, rfl, nosofar_zero, Below.refl _ _⟩
  case round =>
    obtain ⟨k, hk, rfl, hs, hb⟩ := hrel
    have HS := Lib.hid hs
    clear hs
    replace hx := hx.below hb
    by_cases hlt : k < xs.length
    · obtain ⟨b, off, rfl⟩ := hx.addr hlt
      obtain ⟨c0, c1, c2, c3⟩ := hx.strip hlt
      cases hp : p xs[k]
      · go_wp2_with fail
        refine (HF.out _ (List.getElem_mem hlt) _ hb).mono ?_
        rintro e w2 ⟨rfl, hb2⟩
        replace hb := upw hb hb2
        go_wp2_with fail
        go_roundw
        case rel => exact ⟨k + 1, by omega, by go_num, nosofar_succ HS.out hp, hb⟩
        case measure => simp [intOf]; omega
      · go_wp2_with fail
        refine (HF.out _ (List.getElem_mem hlt) _ hb).mono ?_
        rintro e w2 ⟨rfl, hb2⟩
        replace hb := upw hb hb2
        go_wp2_with fail
        go_ret
        exact ⟨ret_int (firstIdx_some hlt HS.out hp).symm, hb⟩
    · go_wp2
      go_ret
      exact ⟨ret_int (firstIdx_none (by omega) HS.out).symm, hb⟩
theorem containsStrips_any (a : Option Addr) (xs : List Strip) (c : Nat) (K : Nat) (cap : Array Value) (p : Strip → Bool) (w : World) (hK : Enters Tryz.prog K) (hx : At w a xs) (hl : xs.length ≤ 9223372036854775807)
    (hf : ∀ x ∈ xs, ∀ w', Below w.heap.size w w' → Calls Tryz.prog K (#[.agg #[.int .i64 x.Length, .int .i64 x.Allow, .int .i64 x.Left, .int .i64 x.Right]] ++ cap) w' fun e w'' => e = .returned (.bool (p x)) ∧ Below w'.heap.size w' w'') :
    Calls Tryz.prog 134 #[.slice a xs.length c, .func (.func K) #[] cap] w fun e w' => e = .returned (.bool (xs.any p)) ∧ Below w.heap.size w w' := by
  have HF := Lib.hid hf
  clear hf
  go_enter Tryz.func134, Tryz.ntmps134
  go_wp2_with fail
  refine (indexStrips_any _ _ _ _ _ _ _ hK hx hl HF.out).mono ?_
  rintro e w2 ⟨rfl, hb⟩
  go_wp2_with fail
  go_ret
  exact ⟨ret_bool (firstIdx_pos p xs), hb⟩

theorem specSameStrips_c (a : Option Addr) (xs : List Strip) (c : Nat) (a' : Option Addr) (ys : List Strip) (c' : Nat) (w : World) (hx : At w a xs) (hlx : xs.length ≤ 9223372036854775807) (hy : At w a' ys) (hly : ys.length ≤ 9223372036854775807) :
    Calls Tryz.prog 35 #[.slice a xs.length c, .slice a' ys.length c'] w fun e w' => e = .returned (.bool (xs == ys)) ∧ Below w.heap.size w w' := specSameStrips_any a a' xs ys c c' w hx hy hlx hly

theorem implSameStrips_c (a : Option Addr) (xs : List Strip) (c : Nat) (a' : Option Addr) (ys : List Strip) (c' : Nat) (w : World) (hx : At w a xs) (hlx : xs.length ≤ 9223372036854775807) (hy : At w a' ys) (hly : ys.length ≤ 9223372036854775807) :
    Calls Tryz.prog 38 #[.slice a xs.length c, .slice a' ys.length c'] w fun e w' => e = .returned (.bool (xs == ys)) ∧ Below w.heap.size w w' := implSameStrips_any a a' xs ys c c' w hx hy hlx hly

theorem infoStrip : (Tryz.prog.info? 54).map (fun i => (i.zero, i.size, i.bytes)) = some (some (.agg #[.int .i64 0, .int .i64 0, .int .i64 0, .int .i64 0]), 4, 32) := by kernel_rfl

theorem cloneStrips_any (a : Option Addr) (xs : List Strip) (c : Nat) (w : World) (hx : At w a xs) (hl : xs.length ≤ 4294967296) (hc : a = none → c = 0) :
    Calls Tryz.prog 114 #[.slice a xs.length c] w fun e w' => ∃ v, e = .returned v ∧ Own w.heap.size w' 54 v xs ∧ Below w.heap.size w w' := by
  have hq := fun w a n c => Lib.run_eql_slice_nil (P := Tryz.prog) w 41 54 a n c 0 0 Tryz.underlying41
  cases a with
  | none =>
    have hy : xs = [] := by
      rcases hx with h | ⟨b, off, h, _⟩
      · exact h
      · cases h
    subst hy
    go_enter Tryz.func114, Tryz.ntmps114
    go_wp2
    go_ret
    exact ⟨_, rfl, World.ownsRow_nil _ _ _ _, Below.refl _ _⟩
  | some ad =>
    go_enter Tryz.func114, Tryz.ntmps114
    go_wp2_with (at_builtin; refine wpList_pushall rfl (.tmp 5) (.tmp 6) 41 rfl w.heap.size 54 (.agg #[.int .i64 0, .int .i64 0, .int .i64 0, .int .i64 0]) 32 Tryz.underlying41 infoStrip rfl _ [] xs rfl (own_new _ _) _ _ rfl (fun h => by cases h) (hx.below ((Below.refl _ _).alloc (Nat.le_refl _) _)) (by simp; omega) (by decide) (by simp) ?_; intro v1 w1 hO1 hg1)
    go_ret
    exact ⟨_, rfl, by simpa using hO1, ((Below.refl _ _).alloc (Nat.le_refl _) _).grown hg1 (by simp) (fun k hk => by have : w.heap.size = k := Option.some.inj hk; omega)⟩

end Go.Proofs.YtledlkggggpdpaaGreatDoor
