/- Cut: the type, how it lies in cells, and what the functions on it and on lists of it compute. (Printed by wip/genflat.py.) -/
import Derived.Test.YtakjfpdcnfmffaaRows
import Derived.Test.YtakjfpdcnfmffaaBase
namespace Go.Proofs.Ytakjfpdcnfmffaa
open Go.RowKit

@[ext] structure Cut where
  Width : Int
  Height : Int
  Quality : Int
  Worth : Int
deriving DecidableEq

instance : Flat Cut := ⟨4, by decide, fun s => [.int .i64 s.Width, .int .i64 s.Height, .int .i64 s.Quality, .int .i64 s.Worth], fun _ => rfl, fun x u h => by simp at h; rcases h with h | h | h | h <;> subst h <;> rfl, fun s => (-9223372036854775808 ≤ s.Width ∧ s.Width ≤ 9223372036854775807) ∧ (-9223372036854775808 ≤ s.Height ∧ s.Height ≤ 9223372036854775807) ∧ (-9223372036854775808 ≤ s.Quality ∧ s.Quality ≤ 9223372036854775807) ∧ (-9223372036854775808 ≤ s.Worth ∧ s.Worth ≤ 9223372036854775807)⟩

theorem At.cut {w : World} {b off : Nat} {xs : List Cut} (h : At w (some ⟨b, off, none⟩) xs) {i : Nat} (hi : i < xs.length) :
    w.cell? ⟨b, off + i * 4, none⟩ = some (.int .i64 xs[i].Width) ∧ w.cell? ⟨b, off + i * 4 + 1, none⟩ = some (.int .i64 xs[i].Height) ∧ w.cell? ⟨b, off + i * 4 + 2, none⟩ = some (.int .i64 xs[i].Quality) ∧ w.cell? ⟨b, off + i * 4 + 3, none⟩ = some (.int .i64 xs[i].Worth) := by
  obtain ⟨cs, hr, hc⟩ := h.elem hi
  have h0 := hc 0 (.int .i64 xs[i].Width) (by rw [hr]; rfl)
  have h1 := hc 1 (.int .i64 xs[i].Height) (by rw [hr]; rfl)
  have h2 := hc 2 (.int .i64 xs[i].Quality) (by rw [hr]; rfl)
  have h3 := hc 3 (.int .i64 xs[i].Worth) (by rw [hr]; rfl)
  exact ⟨by simpa [Rep.k, Flat.k] using h0, by simpa [Rep.k, Flat.k] using h1, by simpa [Rep.k, Flat.k] using h2, by simpa [Rep.k, Flat.k] using h3⟩

theorem cut_eq (p q : Cut) : (p == q) = (p.Width == q.Width && p.Height == q.Height && p.Quality == q.Quality && p.Worth == q.Worth) := by
  cases p; cases q; rw [Bool.eq_iff_iff]; simp [Cut.mk.injEq, and_assoc]

theorem cut_neq (width1 width2 : Int) (height1 height2 : Int) (quality1 quality2 : Int) (worth1 worth2 : Int) (w : World) : (binOp .neq 70 (.agg #[.int .i64 width1, .int .i64 height1, .int .i64 quality1, .int .i64 worth1]) (.agg #[.int .i64 width2, .int .i64 height2, .int .i64 quality2, .int .i64 worth2])).run Try.prog w = .ok (.bool (!((⟨width1, height1, quality1, worth1⟩ : Cut) == ⟨width2, height2, quality2, worth2⟩))) w := by
  by_cases h0 : width1 = width2 <;> by_cases h1 : height1 = height2 <;> by_cases h2 : quality1 = quality2 <;> by_cases h3 : worth1 = worth2 <;> simp [go_sem, h0, h1, h2, h3, cut_eq]
theorem cut_eql (width1 width2 : Int) (height1 height2 : Int) (quality1 quality2 : Int) (worth1 worth2 : Int) (w : World) : (binOp .eql 70 (.agg #[.int .i64 width1, .int .i64 height1, .int .i64 quality1, .int .i64 worth1]) (.agg #[.int .i64 width2, .int .i64 height2, .int .i64 quality2, .int .i64 worth2])).run Try.prog w = .ok (.bool (((⟨width1, height1, quality1, worth1⟩ : Cut) == ⟨width2, height2, quality2, worth2⟩))) w := by
  by_cases h0 : width1 = width2 <;> by_cases h1 : height1 = height2 <;> by_cases h2 : quality1 = quality2 <;> by_cases h3 : worth1 = worth2 <;> simp [go_sem, h0, h1, h2, h3, cut_eq]

theorem toCut_any (width : Int) (height : Int) (quality : Int) (worth : Int) (w : World) :
    Calls Try.prog 51 #[.agg #[.int .i64 width, .int .i64 height, .int .i64 quality, .int .i64 worth]] w fun e w' => e = .returned (.agg #[.int .i64 width, .int .i64 height, .int .i64 quality, .int .i64 worth]) ∧ Below w.heap.size w w' := by
  go_enter Try.func51, Try.ntmps51
  go_wp2
  refine bodyPost_ret (v := .agg #[.int .i64 width, .int .i64 height, .int .i64 quality, .int .i64 worth]) (by simp [results, Try.results51, go_sem]) rfl ⟨rfl, ?_⟩
  exact (((Below.refl _ _).alloc (by simp) _).alloc (by simp) _).alloc (by simp; omega) _

theorem eqCut_any (p q : Cut) (w : World) :
    Calls Try.prog 55 #[.agg #[.int .i64 p.Width, .int .i64 p.Height, .int .i64 p.Quality, .int .i64 p.Worth], .agg #[.int .i64 q.Width, .int .i64 q.Height, .int .i64 q.Quality, .int .i64 q.Worth]] w fun e w' => e = .returned (.bool (p == q)) ∧ Below w.heap.size w w' := by
  rw [cut_eq]
  go_enter Try.func55, Try.ntmps55
  go_wp2
  all_goals go_ret
  all_goals refine ⟨?_, ((Below.refl _ _).alloc (by simp) _).alloc (by simp) _⟩
  all_goals simp_all

theorem szCutS_ok (a : Option Addr) (n c : Nat) (l : Int) (w : World) (hn : (n : Int) ≤ l) (hl' : l ≤ 1048576) :
    Calls Try.prog 24 #[.slice a n c, .int .i64 l] w fun e w' => e = .returned (.int .i64 (l - n)) ∧ Below w.heap.size w w' := by
  go_enter Try.func24, Try.ntmps24
  go_wp2
  go_ret
  exact ⟨rfl, Below.refl _ _⟩
theorem szCutS_no (a : Option Addr) (n c : Nat) (l : Int) (w : World) (hn : n ≤ 9223372036854775807) (h : l < n) (h0 : 0 ≤ l) :
    Calls Try.prog 24 #[.slice a n c, .int .i64 l] w fun e w' => e = .returned (.int .i64 (-1)) ∧ Below w.heap.size w w' := by
  go_enter Try.func24, Try.ntmps24
  go_wp2
  go_ret
  exact ⟨rfl, Below.refl _ _⟩

set_option maxHeartbeats 400000 in
theorem eqCutS_any (a a' : Option Addr) (xs ys : List Cut) (c c' : Nat) (w : World) (hx : At w a xs) (hy : At w a' ys)
   (hlx : xs.length ≤ 9223372036854775807) (hly : ys.length ≤ 9223372036854775807) :
    Calls Try.prog 28 #[.slice a xs.length c, .slice a' ys.length c'] w fun e w' => e = .returned (.bool (xs == ys)) ∧ Below w.heap.size w w' := by
  by_cases hl : xs.length = ys.length
  · have hne : ((xs.length : Int) != ys.length) = false := by simp [hl]
    have HL := Lib.hid hl
    clear hl hly
    go_enter Try.func28, Try.ntmps28
    go_wp2
    go_loopw [5] (fun i wr => ∃ k : Nat, k ≤ xs.length ∧ i = .int .i64 k ∧ Upto xs ys k ∧ Below w.heap.size w wr) (fun i _ => xs.length - (intOf i).toNat)
    case atStart => exact ⟨0, Nat.zero_le _, rfl, upto_zero, Below.refl _ _⟩
    case round =>
      obtain ⟨k, hk, rfl, heq, hb⟩ := hrel
      have HE := Lib.hid heq
      clear heq
      have hx := hx.below hb
      have hy := hy.below hb
      by_cases hlt : k < xs.length
      · have hlt' : k < ys.length := by rw [← HL.out]; exact hlt
        obtain ⟨b, off, rfl⟩ := hx.addr hlt
        obtain ⟨b', off', rfl⟩ := hy.addr hlt'
        obtain ⟨c0, c1, c2, c3⟩ := hx.cut hlt
        obtain ⟨d0, d1, d2, d3⟩ := hy.cut hlt'
        have c0 := rg c0
        have d0 := rg d0
        have c1 := rg c1
        have d1 := rg d1
        have c2 := rg c2
        have d2 := rg d2
        have c3 := rg c3
        have d3 := rg d3
        go_wp2
        refine wp_region_quiet_below (by kernel_rfl) (by kernel_rfl) ?_
        repeat (go_big_quiet_step ((go_at_call 55; exact Calls.regrown_of (eqCut_any _ _ _))))
        refine wpQuiet_nil ?_
        intro w2 hw'
        have hb := upw hb (grown_of hw')
        clear hw'
        go_wp2
        · have he : (!xs[k] == ys[k]) = true := by assumption
          go_ret
          exact ⟨ret_bool (beq_of_ne hlt hlt' (by simpa using he)).symm, hb⟩
        · have he : (!xs[k] == ys[k]) = false := by assumption
          go_roundw
          case rel => exact ⟨k + 1, by omega, by go_num, upto_succ HE.out (by simpa using he), hb⟩
          case measure => simp [intOf]; omega
      · go_wp2
        go_ret
        exact ⟨ret_bool (beq_of_upto HL.out (by omega) HE.out).symm, hb⟩
  · have hne : ((xs.length : Int) != ys.length) = true := by simp; omega
    go_enter Try.func28, Try.ntmps28
    go_wp2
    go_ret
    exact ⟨ret_bool (beq_of_len hl).symm, Below.refl _ _⟩

theorem eqCutS_same (a a' : Option Addr) (xs : List Cut) (c c' : Nat) (w : World) (hx : At w a xs) (hy : At w a' xs) (hl : xs.length ≤ 9223372036854775807) :
    Calls Try.prog 28 #[.slice a xs.length c, .slice a' xs.length c'] w fun e w' => e = .returned (.bool true) ∧ Below w.heap.size w w' := by
  simpa using eqCutS_any a a' xs xs c c' w hx hy hl hl
set_option maxHeartbeats 400000 in
theorem indexCuts_any (a : Option Addr) (xs : List Cut) (c : Nat) (K : Nat) (cap : Array Value) (p : Cut → Bool) (w : World) (hK : Enters Try.prog K) (hx : At w a xs) (hl : xs.length ≤ 9223372036854775807)
    (hf : ∀ x ∈ xs, ∀ w', Below w.heap.size w w' → Calls Try.prog K (#[.agg #[.int .i64 x.Width, .int .i64 x.Height, .int .i64 x.Quality, .int .i64 x.Worth]] ++ cap) w' fun e w'' => e = .returned (.bool (p x)) ∧ Below w'.heap.size w' w'') :
    Calls Try.prog 72 #[.slice a xs.length c, .func (.func K) #[] cap] w fun e w' => e = .returned (.int .i64 (firstIdx p xs)) ∧ Below w.heap.size w w' := by
  have HF := Lib.hid hf
  clear hf
  unfold Enters at hK
  go_enter Try.func72, Try.ntmps72
  go_wp2
  go_loopw [8] (fun i wr => ∃ k : Nat, k ≤ xs.length ∧ i = .int .i64 k ∧ Nosofar p xs k ∧ Below w.heap.size w wr) (fun i _ => xs.length - (intOf i).toNat)
  case atStart => exact ⟨0, Nat.zero_le _, rfl, nosofar_zero, Below.refl _ _⟩
  case round =>
    obtain ⟨k, hk, rfl, hs, hb⟩ := hrel
    have HS := Lib.hid hs
    clear hs
    replace hx := hx.below hb
    by_cases hlt : k < xs.length
    · obtain ⟨b, off, rfl⟩ := hx.addr hlt
      obtain ⟨c0, c1, c2, c3⟩ := hx.cut hlt
      cases hp : p xs[k]
      · go_wp2_with fail
        refine (HF.out _ (List.getElem_mem hlt) _ hb).mono ?_
        rintro e w2 ⟨rfl, hb2⟩
        replace hb := upw hb hb2
        go_wp2_with fail
        go_roundw
        case rel => exact ⟨k + 1, by omega, by go_num, nosofar_succ HS.out hp, hb⟩
        case measure => simp [intOf]; omega
      · go_wp2_with fail
        refine (HF.out _ (List.getElem_mem hlt) _ hb).mono ?_
        rintro e w2 ⟨rfl, hb2⟩
        replace hb := upw hb hb2
        go_wp2_with fail
        go_ret
        exact ⟨ret_int (firstIdx_some hlt HS.out hp).symm, hb⟩
    · go_wp2
      go_ret
      exact ⟨ret_int (firstIdx_none (by omega) HS.out).symm, hb⟩
theorem containsCuts_any (a : Option Addr) (xs : List Cut) (c : Nat) (K : Nat) (cap : Array Value) (p : Cut → Bool) (w : World) (hK : Enters Try.prog K) (hx : At w a xs) (hl : xs.length ≤ 9223372036854775807)
    (hf : ∀ x ∈ xs, ∀ w', Below w.heap.size w w' → Calls Try.prog K (#[.agg #[.int .i64 x.Width, .int .i64 x.Height, .int .i64 x.Quality, .int .i64 x.Worth]] ++ cap) w' fun e w'' => e = .returned (.bool (p x)) ∧ Below w'.heap.size w' w'') :
    Calls Try.prog 52 #[.slice a xs.length c, .func (.func K) #[] cap] w fun e w' => e = .returned (.bool (xs.any p)) ∧ Below w.heap.size w w' := by
  have HF := Lib.hid hf
  clear hf
  go_enter Try.func52, Try.ntmps52
  go_wp2_with fail
  refine (indexCuts_any _ _ _ _ _ _ _ hK hx hl HF.out).mono ?_
  rintro e w2 ⟨rfl, hb⟩
  go_wp2_with fail
  go_ret
  exact ⟨ret_bool (firstIdx_pos p xs), hb⟩

theorem infoCut : (Try.prog.info? 70).map (fun i => (i.zero, i.size, i.bytes)) = some (some (.agg #[.int .i64 0, .int .i64 0, .int .i64 0, .int .i64 0]), 4, 32) := by kernel_rfl

set_option maxHeartbeats 400000 in
theorem toCutS_any (a : Option Addr) (xs : List Cut) (c : Nat) (w : World) (hx : At w a xs) (hlx : xs.length ≤ 1048576) :
    Calls Try.prog 26 #[.slice a xs.length c] w fun e w' => ∃ v, e = .returned v ∧ Own w.heap.size w' 70 v xs ∧ Below w.heap.size w w' := by
  obtain ⟨i0, hi, hz0, hz1, hz2⟩ := info_parts infoCut
  go_enter Try.func26, Try.ntmps26
  go_wp2_with (at_make; refine wpList_make_full _ rfl (.tmp 6) (.tmp 6) 43 rfl w.heap.size 70 i0 (.agg #[.int .i64 0, .int .i64 0, .int .i64 0, .int .i64 0]) 4 Try.underlying43 hi hz0 hz1 .i64 .i64 _ _ xs.length rfl rfl rfl rfl (by rw [hz2]; omega) (by unfold maxLen; omega) (Nat.le_refl _) ?_; intro w1 hown hg)
  have hb1 : Below w.heap.size w w1 := (Below.refl _ _).grown hg (Nat.le_refl _) (by simp)
  have HO : Own w.heap.size w1 70 (.slice (some ⟨w.heap.size, 0, none⟩) xs.length xs.length) (filled ⟨0, 0, 0, 0⟩ xs 0) := by
    rw [filled_zero]; unfold Own; rw [List.length_replicate, ← made_flat (⟨0, 0, 0, 0⟩ : Cut) _ rfl]; exact hown
  clear hown hg
  go_loopw [4] (fun i wr => ∃ k : Nat, k ≤ xs.length ∧ i = .int .i64 k ∧ Own w.heap.size wr 70 (.slice (some ⟨w.heap.size, 0, none⟩) xs.length xs.length) (filled ⟨0, 0, 0, 0⟩ xs k) ∧ Below w.heap.size w wr) (fun i _ => xs.length - (intOf i).toNat)
  case atStart => exact ⟨0, Nat.zero_le _, rfl, HO, hb1⟩
  case round =>
    obtain ⟨k, hk, rfl, hO, hb⟩ := hrel
    by_cases hlt : k < xs.length
    · have hx := hx.below hb
      obtain ⟨b, off, rfl⟩ := hx.addr hlt
      obtain ⟨c0, c1, c2, c3⟩ := hx.cut hlt
      go_wp2_with (first | (go_at_call 51; refine (toCut_any _ _ _ _ _).mono ?_; rintro e w2 ⟨rfl, hb2⟩) | (refine wpList_store_own rfl 70 (.tmp 21) (.tmp 20) rfl w.heap.size 70 _ _ _ (filled (⟨0, 0, 0, 0⟩ : Cut) xs k) k _ xs[k] rfl rfl rfl (by kernel_rfl) (filled_length _ _ _ hk).symm (hO.later hb2) (by rw [filled_length _ _ _ hk]; exact hlt) ?_; intro w3 hO3 hg3))
      go_roundw
      case rel => exact ⟨k + 1, by omega, by go_num, by rw [← filled_succ _ _ _ hlt]; exact hO3, (upw hb hb2).grown hg3 (upw hb hb2).size (by simp)⟩
      case measure => simp [intOf]; omega
    · go_wp2
      go_ret
      exact ⟨_, rfl, by rw [filled_full _ _ (by omega)] at hO; exact hO, hb⟩

theorem opens_lcut : Opens Try.prog 72 Cut := by
  intro H enc w fuel cs x h
  obtain ⟨hl, n, hf⟩ := trod_fields Try.underlying72 (by kernel_rfl) h
  match cs, hl with
  | [v0, v1, v2, v3], _ =>
    obtain ⟨y0, g0⟩ := hf 0 _ v0 rfl rfl
    obtain ⟨z0, r0, k0⟩ := opens_int Try.underlying2 g0
    obtain ⟨y1, g1⟩ := hf 1 _ v1 rfl rfl
    obtain ⟨z1, r1, k1⟩ := opens_int Try.underlying2 g1
    obtain ⟨y2, g2⟩ := hf 2 _ v2 rfl rfl
    obtain ⟨z2, r2, k2⟩ := opens_int Try.underlying2 g2
    obtain ⟨y3, g3⟩ := hf 3 _ v3 rfl rfl
    obtain ⟨z3, r3, k3⟩ := opens_int Try.underlying2 g3
    cases r0; cases r1; cases r2; cases r3
    exact ⟨⟨z0, z1, z2, z3⟩, rfl, k0, k1, k2, k3⟩
theorem opens_lcuts : Opens Try.prog 40 (List Cut) := opens_slice Try.underlying40 (by kernel_rfl) opens_lcut
end Go.Proofs.Ytakjfpdcnfmffaa
