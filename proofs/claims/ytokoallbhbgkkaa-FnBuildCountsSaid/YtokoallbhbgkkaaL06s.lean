/- Chapter 6, the program: CountBuilds. -/
import Derived.Test.YtokoallbhbgkkaaL06r
import Derived.Test.YtokoallbhbgkkaaBuildCount
import Derived.Test.YtokoallbhbgkkaaTail
namespace Go.Proofs.Ytokoallbhbgkkaa
open Go.RowKit

theorem gen_same {α : Type} {n : Nat} {f g : Nat → α} (h : ∀ i, i < n → f i = g i) : gen n f = gen n g := by
  unfold gen; exact List.map_congr_left fun i hi => h i (List.mem_range.1 hi)
theorem gen_put {α : Type} (n : Nat) (f : Nat → α) (k : Nat) (v : α) : (gen n f).set k v = gen n (fun x => if x = k then v else f x) := by
  apply List.ext_getElem
  · simp [gen]
  · intro i h1 h2
    rw [gen_get, List.getElem_set]
    by_cases h : k = i
    · rw [if_pos h, if_pos h.symm]
    · rw [if_neg h, if_neg (fun e => h e.symm), gen_get]
/-- Counts of which those below k have been made with one layer more. -/
def mixC (c : Nat → Nat) (l k : Nat) (x : Nat) : Int := if x < k then (nblAdd c l x : Nat) else (c x : Nat)
theorem mixC_start (c : Nat → Nat) (l x : Nat) : mixC c l l x = (c x : Nat) := by
  unfold mixC; split
  · rw [nblAdd_lt (by assumption)]
  · rfl
theorem mixC_step (c : Nat → Nat) {l k : Nat} (h0 : 0 < l) (hk : l ≤ k) : (fun x => if x = k then mixC c l k k + mixC c l k (k - l) else mixC c l k x) = mixC c l (k + 1) := by
  funext x
  by_cases h : x = k
  · subst h
    rw [if_pos rfl]
    unfold mixC
    rw [if_neg (Nat.lt_irrefl _), if_pos (by omega), if_pos (by omega), nblAdd_ge h0 hk, Int.natCast_add]
  · rw [if_neg h]
    unfold mixC
    by_cases h2 : x < k
    · rw [if_pos h2, if_pos (by omega)]
    · rw [if_neg h2, if_neg (by omega)]
theorem mixC_end (c : Nat → Nat) {l k x : Nat} (h : x < k) : mixC c l k x = (nblAdd c l x : Nat) := by unfold mixC; rw [if_pos h]
theorem own_madeZ {B : Nat} {w1 : World} {v : Value} {n : Nat} (h : w1.ownsRow B 2 1 v (n + 1) (madeCells (Value.int .i64 0).cells ((n + 1) * 1)).toList) : Own B w1 2 v (gen (n + 1) (fun _ => (0 : Int))) := by
  have e : gen (n + 1) (fun _ => (0 : Int)) = List.replicate (n + 1) 0 := by
    apply List.ext_getElem
    · simp [gen]
    · intro i h1 h2; rw [gen_get, List.getElem_replicate]
  rw [e]; unfold Own; rw [List.length_replicate, ← made_flat (0 : Int) _ rfl]; exact h
set_option maxRecDepth 100000 in
set_option maxHeartbeats 4000000 in
theorem countBuilds_c (a : Option Addr) (ls : List Int) (c : Nat) (s : Nat) (w : World) (hx : At w a ls) (hl : layOk ls = true) (hs : s ≤ 1000) (hB : ∀ j k, j ≤ ls.length → k ≤ s → nbl (ls.take j) k ≤ 1000000000000) :
    Calls Try.prog 28 #[.slice a ls.length c, .int .i64 s] w fun e w' => e = .returned (.tuple #[.int .i64 (nbl ls s : Nat), .int .i64 0]) ∧ Below w.heap.size w w' := by
  have hLO := layOk_is hl
  have hlen := hLO.len
  have hcd := layersCode_c a ls c s w hx (by omega)
  rw [code_zero hl (by omega) (by omega)] at hcd
  obtain ⟨i0, hi, hz0, hz1, hz2⟩ := info_parts infoInt
  replace hB := Lib.hid hB
  have HT : Hid (∀ j, j < ls.length → ls.take (j + 1) = ls.take j ++ [ls.getD j 0]) := Lib.hid fun j hj => by rw [List.take_succ_eq_append_getElem hj]; simp [hj]
  go_enter Try.func28, Try.ntmps28
  go_wp2_with (first | (go_at_call 75; refine hcd.mono ?_; rintro e w1 ⟨rfl, rfl⟩) | (at_make; refine wpList_make_full _ rfl (.tmp 18) (.tmp 18) 22 rfl w.heap.size 2 i0 (.int .i64 0) 1 Try.underlying22 hi hz0 hz1 .i64 .i64 _ _ (s + 1) rfl rfl rfl rfl (by rw [hz2]; omega) (by unfold maxLen; omega) (Nat.le_refl _) ?_; intro w1 hown hg; have hO := own_madeZ hown; clear hown) | (refine wpList_store_own rfl 2 (.tmp 21) (.const (.int .i64 1)) rfl w.heap.size 2 w.heap.size (s + 1) (s + 1) _ 0 0 1 rfl (by simp [Flat.k]) rfl (by kernel_rfl) (gen_length _ _).symm hO (by rw [gen_length]; omega) ?_; intro w2 hO2 hg2))
  rw [gen_put] at hO2
  have hO3 : Own w.heap.size w2 2 (.slice (some ⟨w.heap.size, 0, none⟩) (s + 1) (s + 1)) (gen (s + 1) (fun x => (nbl (ls.take 0) x : Int))) := by
    rw [gen_same (g := fun x => if x = 0 then (1 : Int) else 0) fun i _ => by
      rw [List.take_zero, nbl_nil]; unfold nbl0; by_cases h : i = 0 <;> simp [h]]
    exact hO2
  have hb2 : Below w.heap.size w w2 := ((Below.refl _ _).grown hg (Nat.le_refl _) (by simp)).grown hg2 hg.size (fun k hk => by simp at hk; omega)
  clear hO hO2 hg hg2 hi hz0 hz1 hz2
  go_wp2_with fail
  go_loopw [24] (fun i wr => ∃ j : Nat, j ≤ ls.length ∧ i = .int .i64 j ∧ Own w.heap.size wr 2 (.slice (some ⟨w.heap.size, 0, none⟩) (s + 1) (s + 1)) (gen (s + 1) (fun x => (nbl (ls.take j) x : Int))) ∧ Below w.heap.size w wr) (fun i _ => ls.length - (intOf i).toNat)
  case atStart => exact ⟨0, Nat.zero_le _, rfl, hO3, hb2⟩
  case round =>
    clear hO3 hb2
    obtain ⟨j, hj, rfl, hO, hb⟩ := hrel
    by_cases hlt : j < ls.length
    · have hxr := hx.below hb
      obtain ⟨b, off, rfl⟩ := hxr.addr hlt
      have c0 := hxr.int hlt
      have hle := hLO.each j hlt
      obtain ⟨l, hl2⟩ : ∃ l : Nat, ls[j] = l := ⟨ls[j].toNat, by omega⟩
      rw [hl2] at c0 hle
      have hnx : Hid (nbl (ls.take (j + 1)) = nblAdd (nbl (ls.take j)) l) := Lib.hid (by rw [nbl_take hlt, hl2]; rfl)
      replace hl2 := Lib.hid hl2
      have hB0 := Lib.hid (fun k hk => hB.out j k hj hk)
      have hB1 := Lib.hid (fun k hk => hB.out (j + 1) k hlt hk)
      rw [hnx.out] at hB1
      obtain ⟨cc, hcc⟩ : ∃ cc, cc = nbl (ls.take j) := ⟨_, rfl⟩
      rw [← hcc] at hO hnx hB0 hB1
      replace hcc := Lib.hid hcc
      obtain ⟨wo, hwo⟩ : ∃ wo : World, wo = wr := ⟨_, rfl⟩
      subst hwo
      go_wp2_with fail
      go_loopw [10] (fun i wr => ∃ k : Nat, l ≤ k ∧ (k ≤ l ∨ k ≤ s + 1) ∧ i = .int .i64 k ∧ Own w.heap.size wr 2 (.slice (some ⟨w.heap.size, 0, none⟩) (s + 1) (s + 1)) (gen (s + 1) (mixC cc l k)) ∧ Below w.heap.size w wr) (fun i _ => s + 1 - (intOf i).toNat)
      case atStart => exact ⟨l, Nat.le_refl _, Or.inl (Nat.le_refl _), rfl, by rw [gen_same (fun i _ => mixC_start cc l i)]; exact hO, hb⟩
      case round =>
        clear hO hb hxr
        obtain ⟨k, hk1, hk2, rfl, hO, hb⟩ := hrel
        by_cases hks : k ≤ s
        · have d0 := hO.at'.int (i := k) (by rw [gen_length]; omega)
          have d1 := hO.at'.int (i := k - l) (by rw [gen_length]; omega)
          rw [gen_get, Nat.zero_add] at d0 d1
          have v0 : 0 ≤ mixC cc l k k ∧ mixC cc l k k ≤ 1000000000000 := by
            have := hB0.out k hks
            unfold mixC; rw [if_neg (Nat.lt_irrefl _)]; omega
          have v1 : 0 ≤ mixC cc l k (k - l) ∧ mixC cc l k (k - l) ≤ 1000000000000 := by
            have := hB1.out (k - l) (by omega)
            unfold mixC; rw [if_pos (by omega)]; omega
          have hst : Hid ((gen (s + 1) (mixC cc l k)).set k (mixC cc l k k + mixC cc l k (k - l)) = gen (s + 1) (mixC cc l (k + 1))) := Lib.hid (by
            rw [gen_put, mixC_step cc (by omega) hk1])
          generalize mixC cc l k k = A at d0 v0 hst
          generalize mixC cc l k (k - l) = E at d1 v1 hst
          have hkI : (k : Int) < ((s + 1 : Nat) : Int) := by omega
          have hklI : (k : Int) - l < ((s + 1 : Nat) : Int) := by omega
          have hl0 : 0 ≤ (k : Int) - l := by omega
          obtain ⟨wi, hwi⟩ : ∃ wi : World, wi = wr := ⟨_, rfl⟩
          subst hwi
          replace d0 := rg d0
          replace d1 := rg d1
          have hgl := Lib.hid (gen_length (s + 1) (mixC cc l k))
          go_wp2_with fail
          refine wp_region_tail_below 12 (by kernel_rfl) (by kernel_rfl) (by kernel_rfl) (by simp only [List.take_succ_cons, List.take_zero]; rfl) (by simp only [List.drop_succ_cons, List.drop_zero]; rfl) ?_
          repeat (go_big_quiet_step ((fail)))
          refine wpQuiet_nil ?_
          intro w2 hw'
          replace hb := upw hb (grown_of hw')
          have hw2 := grown_of hw'
          clear hw'
          replace hO := hO.later hw2
          clear hw2 d0 d1
          go_wp2_with (refine wpList_store_own rfl 2 (.tmp 45) (.tmp 44) rfl w.heap.size 2 w.heap.size (s + 1) (s + 1) _ k k _ rfl (by simp [Flat.k]) rfl (by kernel_rfl) hgl.out.symm hO (by rw [hgl.out]; omega) ?_; intro w3 hO3 hg3)
          rw [hst.out] at hO3
          go_roundw
          case rel => exact ⟨k + 1, by omega, by omega, by go_num, hO3, hb.grown hg3 hb.size (fun k hk => by simp at hk; omega)⟩
          case measure => simp [intOf]; omega
        · have hfin : Hid (gen (s + 1) (mixC cc l k) = gen (s + 1) (fun x => (nbl (ls.take (j + 1)) x : Int))) := Lib.hid (gen_same fun i hi => by rw [mixC_end cc (by omega), hnx.out])
          go_wp2_with fail
          go_roundw
          case rel => exact ⟨j + 1, by omega, by go_num, by rw [← hfin.out]; exact hO, hb⟩
          case measure => simp [intOf]; omega
    · obtain rfl : j = ls.length := by omega
      rw [List.take_length] at hO
      have d0 := hO.at'.int (i := s) (by rw [gen_length]; omega)
      rw [gen_get, Nat.zero_add] at d0
      have v0 := hB.out ls.length s (Nat.le_refl _) (Nat.le_refl _)
      rw [List.take_length] at v0
      have v1 : ¬ (1000000000000 : Int) < (nbl ls s : Nat) := by omega
      have hsI : (s : Int) < ((s + 1 : Nat) : Int) := by omega
      generalize hN : nbl ls s = N at d0 v0 v1
      replace hN := Lib.hid hN
      go_wp2_with fail
      go_ret2
      exact ⟨by rw [hN.out]; rfl, hb⟩
end Go.Proofs.Ytokoallbhbgkkaa
