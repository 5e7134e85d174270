/- Growth, the program: the line through lengths over days. -/
import Derived.Test.YtokoallbhbgkkaaG02
namespace Go.Proofs.Ytokoallbhbgkkaa
open Go.RowKit

theorem ne_blkG {a b n c : Nat} (h : b ≠ a) : (Value.slice (some ⟨a, 0, none⟩) n c).ownBlock ≠ some b := fun e => h (Option.some.inj (show some a = some b from e)).symm
def growV (ds : List Int) (fs : List Foot) : RawG × Int := if fs.length < 2 then (⟨0, 0, 0, 0, 0⟩, 3) else (⟨numG ds (lens fs), denG ds, sumI ds, sumI (lens fs), fs.length⟩, 0)
theorem lens_length (fs : List Foot) : (lens fs).length = fs.length := by simp [lens]
theorem lens_ok {fs : List Foot} (h : ∀ f ∈ fs, okFoot f = true) : ∀ l ∈ lens fs, 0 ≤ l ∧ l ≤ 5000 := by
  intro l hl
  obtain ⟨f, hf, rfl⟩ := List.mem_map.1 hl
  have := okFoot_iff.1 (h f hf)
  omega
structure DayB (dk sk pk qk : Int) : Prop where
  d : 0 ≤ dk ∧ dk ≤ 16000
  s : 0 ≤ sk ∧ sk ≤ 40000
  p : 0 ≤ pk ∧ pk ≤ 80000000
  q : 0 ≤ qk ∧ qk ≤ 32000000
theorem sum_nonneg : ∀ {xs : List Int} {M : Int}, (∀ x ∈ xs, 0 ≤ x ∧ x ≤ M) → 0 ≤ M → 0 ≤ sumI xs ∧ sumI xs ≤ M * xs.length
  | [], _, _, _ => by simp [sumI_nil]
  | x :: xs, M, h, hM => by
    have h1 := h x (by simp)
    have h2 := sum_nonneg (xs := xs) (fun y hy => h y (by simp [hy])) hM
    rw [sumI_cons, List.length_cons]
    have : M * ((xs.length + 1 : Nat) : Int) = M * xs.length + M := by rw [Int.natCast_add, Int.mul_add]; omega
    omega
theorem day_bounds {ds : List Int} {fs : List Foot} (D : DaysOk ds fs) (k : Nat) : DayB (sumI (ds.take k)) (sumI ((lens fs).take k)) (prI (ds.take k) ((lens fs).take k)) (sqI (ds.take k)) := by
  have h1 : ∀ d ∈ ds.take k, 0 ≤ d ∧ d ≤ 2000 := fun d hd => D.day d (List.mem_of_mem_take hd)
  have h2 : ∀ l ∈ (lens fs).take k, 0 ≤ l ∧ l ≤ 5000 := fun l hl => lens_ok D.ok l (List.mem_of_mem_take hl)
  have l1 : (ds.take k).length ≤ 8 := by have := D.len; have := D.n8; rw [List.length_take]; omega
  have l2 : ((lens fs).take k).length ≤ 8 := by have := D.n8; rw [List.length_take, lens_length]; omega
  have a1 := sum_nonneg h1 (by omega)
  have a2 := sum_nonneg h2 (by omega)
  have a3 := pr_bound h1 h2
  have a4 := sq_bound h1
  refine ⟨?_, ?_, ?_, ?_⟩ <;> omega
set_option maxRecDepth 100000 in
set_option maxHeartbeats 8000000 in
theorem growthOf_ok (a a' : Option Addr) (ds : List Int) (fs : List Foot) (c c' : Nat) (day : Int) (w : World) (hx : At w a ds) (hy : At w a' fs) (D : DaysOk ds fs) (hday : 0 ≤ day ∧ day ≤ 20000) :
    Calls Try.prog 83 #[.slice a ds.length c, .slice a' fs.length c', .int .i64 day] w fun e w' => e = .returned (.tuple #[.agg #[.int .i64 (growV ds fs).1.a, .int .i64 (growV ds fs).1.b, .int .i64 (growV ds fs).1.d, .int .i64 (growV ds fs).1.s, .int .i64 (growV ds fs).1.n], .int .i64 (growV ds fs).2]) ∧ Below w.heap.size w w' := by
  have hdl := D.len
  have hn8 := D.n8
  obtain ⟨w1, hw1⟩ : ∃ w1, w1 = w.alloc (.cells #[.int .i64 0, .int .i64 0, .int .i64 0, .int .i64 0, .int .i64 0] 103) := ⟨_, rfl⟩
  have hb : Below w.heap.size w w1 := by rw [hw1]; exact newB _ _
  have hR : Own w.heap.size w1 103 (.slice (some ⟨w.heap.size, 0, none⟩) 1 1) [(⟨0, 0, 0, 0, 0⟩ : RawG)] := by rw [hw1]; exact own_rawG w _ ⟨0, 0, 0, 0, 0⟩
  replace hw1 := Lib.hid hw1
  replace hR := Lib.hid hR
  have hv := Lib.hid (fun w' h => validFeet_ok a' fs c' w' h (by omega) D.ok)
  have ho : outs ds 0 10000 = false := outs_false.2 fun d hd => by have := D.day d hd; omega
  have hoc := fun w' h => outside_c a ds c 0 10000 w' h (by omega)
  rw [ho] at hoc
  replace hoc := Lib.hid hoc
  have hin : inr day 0 20000 = true := inr_true.2 hday
  have hB := Lib.hid (day_bounds D)
  have hrise := Lib.hid D.rise
  have hlens := Lib.hid (lens_length fs)
  obtain ⟨G, hG⟩ : ∃ G, G = growV ds fs := ⟨_, rfl⟩
  rw [← hG]
  replace hG := Lib.hid hG
  have hdlI : ((ds.length : Int) != (fs.length : Int)) = false := by simp [hdl]
  have hdayd := Lib.hid D.day
  have hfok := Lib.hid D.ok
  replace hdl := Lib.hid hdl
  clear ho D
  go_enter Try.func83, Try.ntmps83
  go_wp2_with (first | rw [← hw1.out] | (go_at_call 117; refine (hv.out _ (hy.below hb)).mono ?_; rintro e w2 ⟨rfl, hb2⟩; replace hR := Lib.hid (hR.out.later hb2); replace hb := upw hb hb2; clear hb2) | (go_at_call 76; refine (hoc.out _ (hx.below hb)).mono ?_; rintro e w3 ⟨rfl, hb3⟩; replace hR := Lib.hid (hR.out.later hb3); replace hb := upw hb hb3; clear hb3; obtain ⟨w4, hw4⟩ : ∃ w4, w4 = w3.alloc (.cells #[.int .i64 0, .int .i64 0, .int .i64 0, .int .i64 0, .int .i64 (fs.length : Int)] 103) := ⟨_, rfl⟩; have hb4 : Below w3.heap.size w3 w4 := (by rw [hw4]; exact newB _ _); have hV : Own w3.heap.size w4 103 (.slice (some ⟨w3.heap.size, 0, none⟩) 5 5) (growC 0 0 0 0 fs.length) := (by rw [hw4]; exact own_growC w3 _ 0 0 0 0 fs.length); replace hw4 := Lib.hid hw4; have hne := Lib.hid (show w.heap.size < w3.heap.size from (hR.out.lt _ rfl).2); replace hR := Lib.hid (hR.out.later hb4); replace hb := upw hb hb4; clear hb4; replace hV := Lib.hid hV) | rw [← hw4.out] | (go_at_call 62; refine (within_c _ _ _ _).mono ?_; rintro e w' ⟨rfl, rfl⟩; rw [hin]))
  clear hv hoc hin hdlI hw4 hw1
  have hws := hne.out
  go_loopw [10, 11, 41] (fun pv qv i wr => ∃ k : Nat, k ≤ ds.length ∧ i = .int .i64 k ∧ pv = .int .i64 (prI (ds.take k) ((lens fs).take k)) ∧ qv = .int .i64 (sqI (ds.take k)) ∧ Hid (Own w3.heap.size wr 103 (.slice (some ⟨w3.heap.size, 0, none⟩) 5 5) (growC 0 0 (sumI (ds.take k)) (sumI ((lens fs).take k)) fs.length)) ∧ Hid (Own w.heap.size wr 103 (.slice (some ⟨w.heap.size, 0, none⟩) 1 1) [(⟨0, 0, 0, 0, 0⟩ : RawG)]) ∧ Below w.heap.size w wr) (fun _ _ i _ => ds.length - (intOf i).toNat)
  case atStart => exact ⟨0, Nat.zero_le _, rfl, rfl, rfl, hV, hR, hb⟩
  case round =>
    clear hV hR hb
    obtain ⟨k, hk, rfl, rfl, rfl, hV, hR, hb⟩ := hrel
    have hBk := hB.out k
    by_cases hlt : k < ds.length
    · have hlf : k < fs.length := by rw [← hdl.out]; exact hlt
      have hll : k < (lens fs).length := by rw [hlens.out]; exact hlf
      have hB1 := hB.out (k + 1)
      have hx1 := hx.below hb
      have hy1 := hy.below hb
      obtain ⟨b1, o1, rfl⟩ := hx1.addr hlt
      obtain ⟨b2, o2, rfl⟩ := hy1.addr hlf
      have c0 := hx1.int hlt
      have c1 := (hy1.foot hlf).1
      have hd := hdayd.out _ (List.getElem_mem hlt)
      have hl := lens_ok hfok.out _ (List.getElem_mem hll)
      have eL : (lens fs)[k] = fs[k].Length := by simp [lens]
      have E1 := sumI_take ds k hlt
      have E2 := sumI_take (lens fs) k hll
      have E3 := sq_take ds k hlt
      have E4 := pr_take ds (lens fs) k hlt hll
      rw [E1, E2, E3, E4] at hB1
      have hprev : Hid (∀ h : 0 < k, ds[k - 1]'(by omega) < ds[k]) := Lib.hid fun h => (List.pairwise_iff_getElem.1 hrise.out) (k - 1) k (by omega) hlt (by omega)
      have cp : 0 < k → wr.cell? ⟨b1, o1 + (k - 1), none⟩ = some (.int .i64 (ds[k - 1]'(by omega))) := fun h => hx1.int (by omega)
      rw [eL] at E2 E4 hl hB1
      have hcell := growC_cells hV.out
      have HE := Lib.hid (And.intro E1 (And.intro E2 (And.intro E3 E4)))
      clear E1 E2 E3 E4 eL
      obtain ⟨y0, y1, y2, y3', y4⟩ := hcell
      clear y0 y1 y3' y4
      obtain ⟨a1, a2, a3, a4⟩ := hBk
      obtain ⟨a5, a6, a7, a8⟩ := hB1
      have hdl1 : Hid (ds[k] * fs[k].Length = ds[k] * fs[k].Length) := Lib.hid rfl
      clear hdl1
      generalize sumI (ds.take k) = Dk at *
      generalize sumI ((lens fs).take k) = Sk at *
      generalize prI (ds.take k) ((lens fs).take k) = Pk at *
      generalize sqI (ds.take k) = Qk at *
      generalize fs[k].Length = l at *
      generalize hdk : ds[k] = d at *
      replace hdk := Lib.hid hdk
      generalize hdl1 : d * l = dl at *
      generalize hdd1 : d * d = dd at *
      have hwlt : w3.heap.size ≠ w.heap.size := by omega
      have hb2w : b2 < w.heap.size := hy.lt hlf
      have hkI : (k : Int) < ds.length := by omega
      have hsw : IntKind.i64.wrap (Sk + l) = Sk + l := IntWalk.i64_in _ (by omega)
      have hkF : (k : Int) < fs.length := by omega
      rcases Nat.eq_zero_or_pos k with h0 | h0
      · have hd0 : decide ((0 : Int) < (k : Int)) = false := by simp; omega
        have hn0 : ¬ (0 : Int) < (k : Int) := by omega
        replace h0 := Lib.hid h0
        clear cp
        go_wp2_with ((with_reducible refine at_st 2 (.tmp 62) (.tmp 61) ?_); refine wpList_store_own rfl 2 (.tmp 62) (.tmp 61) rfl w3.heap.size 103 w3.heap.size 5 5 (growC 0 0 Dk Sk fs.length) 2 2 (⟨.int .i64 (Dk + d), rfl⟩ : OneCell) rfl rfl rfl (by kernel_rfl) rfl hV.out (by show 2 < 5; omega) ?_; intro w5 hV5 hg5; replace hV5 : Own w3.heap.size w5 103 (.slice (some ⟨w3.heap.size, 0, none⟩) 5 5) (growC 0 0 (Dk + d) Sk fs.length) := hV5; have hR5 := Lib.hid (hR.out.kept hg5 (Or.inr (ne_blkG (by omega)))); have c5 := hg5.cell c1 (fun e => by have := Option.some.inj e; simp at this; omega); have hb5 := below_mark hb hV.out (by omega) hg5; clear y2 hg5; have y3 := (growC_cells hV5).2.2.2.1; replace hV5 := Lib.hid hV5)
        refine wp_region_heldS (S := (fun w' => w'.cell? ⟨w3.heap.size, 3, none⟩ = some (.int .i64 Sk) ∧ w'.cell? ⟨b2, o2 + k * 4, none⟩ = some (.int .i64 l))) 9 (by kernel_rfl) ⟨y3, c5⟩ (fun hHeld => ?_)
        obtain ⟨wo, hwo⟩ : ∃ wo, wo = w5.drew := ⟨_, rfl⟩
        rw [← hwo] at hHeld ⊢
        have hbo : Below w5.heap.size w5 wo := by rw [hwo]; exact (Below.refl _ _).drew
        clear hwo
        refine wpAnyS_take (i := 0) (v := _) rfl (by kernel_rfl) (by kernel_rfl) (by kernel_rfl) (by kernel_rfl) (by kernel_rfl) (fun _ _ _ h => h) (Or.inl ⟨by rfl, (by intro w hSw; (try dsimp only at hSw); go_simp; try with_reducible rfl)⟩) (by assumption) ?_
        go_simp
        refine wpAnyS_take (i := 1) (v := _) rfl (by kernel_rfl) (by kernel_rfl) (by kernel_rfl) (by kernel_rfl) (by kernel_rfl) (fun _ _ _ h => h) (Or.inl ⟨by rfl, (by intro w hSw; (try dsimp only at hSw); go_simp; try with_reducible rfl)⟩) (by assumption) ?_
        go_simp
        refine wpAnyS_take (i := 2) (v := _) rfl (by kernel_rfl) (by kernel_rfl) (by kernel_rfl) (by kernel_rfl) (by kernel_rfl) (fun _ _ _ h => h) (Or.inl ⟨by rfl, (by intro w hSw; (try dsimp only at hSw); go_simp; try with_reducible rfl)⟩) (by assumption) ?_
        go_simp
        refine wpAnyS_take (i := 3) (v := _) rfl (by kernel_rfl) (by kernel_rfl) (by kernel_rfl) (by kernel_rfl) (by kernel_rfl) (fun _ _ _ h => h) (Or.inl ⟨by rfl, (by intro w hSw; (try dsimp only at hSw); go_simp; try with_reducible rfl)⟩) (by assumption) ?_
        go_simp
        refine wpAnyS_take (i := 4) (v := _) rfl (by kernel_rfl) (by kernel_rfl) (by kernel_rfl) (by kernel_rfl) (by kernel_rfl) (fun _ _ _ h => h) (Or.inl ⟨by rfl, (by intro w hSw; (try dsimp only at hSw); go_simp; try with_reducible rfl)⟩) (by assumption) ?_
        go_simp
        refine wpAnyS_take (i := 5) (v := _) rfl (by kernel_rfl) (by kernel_rfl) (by kernel_rfl) (by kernel_rfl) (by kernel_rfl) (fun _ _ _ h => h) (Or.inl ⟨by rfl, (by intro w hSw; (try dsimp only at hSw); go_simp; try with_reducible rfl)⟩) (by assumption) ?_
        go_simp
        refine wpAnyS_take (i := 6) (v := _) rfl (by kernel_rfl) (by kernel_rfl) (by kernel_rfl) (by kernel_rfl) (by kernel_rfl) (fun _ _ _ h => h) (Or.inl ⟨by rfl, (by intro w hSw; (try dsimp only at hSw); go_simp; try with_reducible rfl)⟩) (by assumption) ?_
        go_simp
        refine wpAnyS_take (i := 7) (v := _) rfl (by kernel_rfl) (by kernel_rfl) (by kernel_rfl) (by kernel_rfl) (by kernel_rfl) (fun _ _ _ h => h) (Or.inl ⟨by rfl, (by intro w hSw; (try dsimp only at hSw); go_simp; try with_reducible rfl)⟩) (by assumption) ?_
        go_simp
        have hVo := hV5.out.later hbo
        refine wpAnyS_take (i := 8) (v := _) rfl (by kernel_rfl) (by kernel_rfl) (by kernel_rfl) (by kernel_rfl) (by kernel_rfl) (fun _ _ _ h => h) (Or.inl ⟨by rfl, (by intro w hSw; (try dsimp only at hSw); go_simp; try with_reducible rfl)⟩) (by assumption) ?_
        go_simp
        refine wpAnyS_last (i := 9) (by kernel_rfl) rfl (by kernel_rfl) (fun K hK => ?_)
        (refine cast (if_pos (by rfl)).symm ?_; refine wp_store_own 2 (.tmp 71) (.tmp 70) rfl w3.heap.size 103 w3.heap.size 5 5 (growC 0 0 (Dk + d) Sk fs.length) 3 3 (⟨.int .i64 (Sk + l), rfl⟩ : OneCell) rfl rfl rfl (by kernel_rfl) rfl hVo (by show 3 < 5; omega) ?_; intro w6 hV6 hg6)
        refine hK.out _ _ ?_
        clear hK K
        go_simp
        refine wpAnyS_done (by kernel_rfl) ?_ _
        replace hV6 : Own w3.heap.size w6 103 (.slice (some ⟨w3.heap.size, 0, none⟩) 5 5) (growC 0 0 (Dk + d) (Sk + l) fs.length) := hV6
        have hR6 := Lib.hid ((hR5.out.later hbo).kept hg6 (Or.inr (ne_blkG (by omega))))
        have c6 := hg6.cell (kept_cell c5 hbo) (fun e => by have := Option.some.inj e; simp at this; omega)
        have hb6 := below_mark (upw hb5 hbo) hVo (by omega) hg6
        clear y3 c5 hVo hg6 hHeld c0 c1
        go_wp2_with fail
        go_roundw
        case rel => exact ⟨k + 1, by omega, by go_num, by rw [HE.out.2.2.2], by rw [HE.out.2.2.1], by rw [HE.out.1, HE.out.2.1]; exact Lib.hid hV6, hR6, hb6⟩
        case measure => simp [intOf]; omega
      · have c2 := cp h0
        clear cp
        have hz := hprev.out h0
        have hi1 : ((k : Int) - 1).toNat = k - 1 := by omega
        generalize ds[k - 1]'(by omega) = z at c2 hz
        have hz2 : ¬ d ≤ z := by omega
        have hn0 : (0 : Int) < (k : Int) := by omega
        have hn1 : (k : Int) - 1 < ds.length := by omega
        go_wp2_with ((with_reducible refine at_st 2 (.tmp 62) (.tmp 61) ?_); refine wpList_store_own rfl 2 (.tmp 62) (.tmp 61) rfl w3.heap.size 103 w3.heap.size 5 5 (growC 0 0 Dk Sk fs.length) 2 2 (⟨.int .i64 (Dk + d), rfl⟩ : OneCell) rfl rfl rfl (by kernel_rfl) rfl hV.out (by show 2 < 5; omega) ?_; intro w5 hV5 hg5; replace hV5 : Own w3.heap.size w5 103 (.slice (some ⟨w3.heap.size, 0, none⟩) 5 5) (growC 0 0 (Dk + d) Sk fs.length) := hV5; have hR5 := Lib.hid (hR.out.kept hg5 (Or.inr (ne_blkG (by omega)))); have c5 := hg5.cell c1 (fun e => by have := Option.some.inj e; simp at this; omega); have hb5 := below_mark hb hV.out (by omega) hg5; clear y2 hg5; have y3 := (growC_cells hV5).2.2.2.1; replace hV5 := Lib.hid hV5)
        refine wp_region_heldS (S := (fun w' => w'.cell? ⟨w3.heap.size, 3, none⟩ = some (.int .i64 Sk) ∧ w'.cell? ⟨b2, o2 + k * 4, none⟩ = some (.int .i64 l))) 9 (by kernel_rfl) ⟨y3, c5⟩ (fun hHeld => ?_)
        obtain ⟨wo, hwo⟩ : ∃ wo, wo = w5.drew := ⟨_, rfl⟩
        rw [← hwo] at hHeld ⊢
        have hbo : Below w5.heap.size w5 wo := by rw [hwo]; exact (Below.refl _ _).drew
        clear hwo
        refine wpAnyS_take (i := 0) (v := _) rfl (by kernel_rfl) (by kernel_rfl) (by kernel_rfl) (by kernel_rfl) (by kernel_rfl) (fun _ _ _ h => h) (Or.inl ⟨by rfl, (by intro w hSw; (try dsimp only at hSw); go_simp; try with_reducible rfl)⟩) (by assumption) ?_
        go_simp
        refine wpAnyS_take (i := 1) (v := _) rfl (by kernel_rfl) (by kernel_rfl) (by kernel_rfl) (by kernel_rfl) (by kernel_rfl) (fun _ _ _ h => h) (Or.inl ⟨by rfl, (by intro w hSw; (try dsimp only at hSw); go_simp; try with_reducible rfl)⟩) (by assumption) ?_
        go_simp
        refine wpAnyS_take (i := 2) (v := _) rfl (by kernel_rfl) (by kernel_rfl) (by kernel_rfl) (by kernel_rfl) (by kernel_rfl) (fun _ _ _ h => h) (Or.inl ⟨by rfl, (by intro w hSw; (try dsimp only at hSw); go_simp; try with_reducible rfl)⟩) (by assumption) ?_
        go_simp
        refine wpAnyS_take (i := 3) (v := _) rfl (by kernel_rfl) (by kernel_rfl) (by kernel_rfl) (by kernel_rfl) (by kernel_rfl) (fun _ _ _ h => h) (Or.inl ⟨by rfl, (by intro w hSw; (try dsimp only at hSw); go_simp; try with_reducible rfl)⟩) (by assumption) ?_
        go_simp
        refine wpAnyS_take (i := 4) (v := _) rfl (by kernel_rfl) (by kernel_rfl) (by kernel_rfl) (by kernel_rfl) (by kernel_rfl) (fun _ _ _ h => h) (Or.inl ⟨by rfl, (by intro w hSw; (try dsimp only at hSw); go_simp; try with_reducible rfl)⟩) (by assumption) ?_
        go_simp
        refine wpAnyS_take (i := 5) (v := _) rfl (by kernel_rfl) (by kernel_rfl) (by kernel_rfl) (by kernel_rfl) (by kernel_rfl) (fun _ _ _ h => h) (Or.inl ⟨by rfl, (by intro w hSw; (try dsimp only at hSw); go_simp; try with_reducible rfl)⟩) (by assumption) ?_
        go_simp
        refine wpAnyS_take (i := 6) (v := _) rfl (by kernel_rfl) (by kernel_rfl) (by kernel_rfl) (by kernel_rfl) (by kernel_rfl) (fun _ _ _ h => h) (Or.inl ⟨by rfl, (by intro w hSw; (try dsimp only at hSw); go_simp; try with_reducible rfl)⟩) (by assumption) ?_
        go_simp
        refine wpAnyS_take (i := 7) (v := _) rfl (by kernel_rfl) (by kernel_rfl) (by kernel_rfl) (by kernel_rfl) (by kernel_rfl) (fun _ _ _ h => h) (Or.inl ⟨by rfl, (by intro w hSw; (try dsimp only at hSw); go_simp; try with_reducible rfl)⟩) (by assumption) ?_
        go_simp
        have hVo := hV5.out.later hbo
        refine wpAnyS_take (i := 8) (v := _) rfl (by kernel_rfl) (by kernel_rfl) (by kernel_rfl) (by kernel_rfl) (by kernel_rfl) (fun _ _ _ h => h) (Or.inl ⟨by rfl, (by intro w hSw; (try dsimp only at hSw); go_simp; try with_reducible rfl)⟩) (by assumption) ?_
        go_simp
        refine wpAnyS_last (i := 9) (by kernel_rfl) rfl (by kernel_rfl) (fun K hK => ?_)
        (refine cast (if_pos (by rfl)).symm ?_; refine wp_store_own 2 (.tmp 71) (.tmp 70) rfl w3.heap.size 103 w3.heap.size 5 5 (growC 0 0 (Dk + d) Sk fs.length) 3 3 (⟨.int .i64 (Sk + l), rfl⟩ : OneCell) rfl rfl rfl (by kernel_rfl) rfl hVo (by show 3 < 5; omega) ?_; intro w6 hV6 hg6)
        refine hK.out _ _ ?_
        clear hK K
        go_simp
        refine wpAnyS_done (by kernel_rfl) ?_ _
        replace hV6 : Own w3.heap.size w6 103 (.slice (some ⟨w3.heap.size, 0, none⟩) 5 5) (growC 0 0 (Dk + d) (Sk + l) fs.length) := hV6
        have hR6 := Lib.hid ((hR5.out.later hbo).kept hg6 (Or.inr (ne_blkG (by omega))))
        have c6 := hg6.cell (kept_cell c5 hbo) (fun e => by have := Option.some.inj e; simp at this; omega)
        have hb6 := below_mark (upw hb5 hbo) hVo (by omega) hg6
        clear y3 c5 hVo hg6 hHeld c0 c1
        go_wp2_with fail
        go_roundw
        case rel => exact ⟨k + 1, by omega, by go_num, by rw [HE.out.2.2.2], by rw [HE.out.2.2.1], by rw [HE.out.1, HE.out.2.1]; exact Lib.hid hV6, hR6, hb6⟩
        case measure => simp [intOf]; omega
    · obtain rfl : k = ds.length := by omega
      have e1 : ds.take ds.length = ds := List.take_length
      have e2 : (lens fs).take ds.length = lens fs := List.take_of_length_le (by rw [hlens.out, hdl.out]; exact Nat.le_refl _)
      rw [e1, e2] at hV hBk ⊢
      clear e1 e2 hx hy
      obtain ⟨a1, a2, a3, a4⟩ := hBk
      have hGe : Hid (growV ds fs = if fs.length < 2 then (⟨0, 0, 0, 0, 0⟩, 3) else (⟨(fs.length : Int) * prI ds (lens fs) - sumI ds * sumI (lens fs), (fs.length : Int) * sqI ds - sumI ds * sumI ds, sumI ds, sumI (lens fs), fs.length⟩, 0)) := Lib.hid (by unfold growV numG denG; rw [hdl.out])
      generalize sumI ds = Dk at *
      generalize sumI (lens fs) = Sk at *
      generalize prI ds (lens fs) = Pk at *
      generalize sqI ds = Qk at *
      have m1 : 0 ≤ (fs.length : Int) * Pk ∧ (fs.length : Int) * Pk ≤ 8 * 80000000 := ⟨Int.mul_nonneg (by omega) a3.1, Int.mul_le_mul (by omega) a3.2 a3.1 (by omega)⟩
      have m2 : 0 ≤ Dk * Sk ∧ Dk * Sk ≤ 16000 * 40000 := ⟨Int.mul_nonneg a1.1 a2.1, Int.mul_le_mul a1.2 a2.2 a2.1 (by omega)⟩
      have m3 : 0 ≤ (fs.length : Int) * Qk ∧ (fs.length : Int) * Qk ≤ 8 * 32000000 := ⟨Int.mul_nonneg (by omega) a4.1, Int.mul_le_mul (by omega) a4.2 a4.1 (by omega)⟩
      have m4 : 0 ≤ Dk * Dk ∧ Dk * Dk ≤ 16000 * 16000 := ⟨Int.mul_nonneg a1.1 a1.1, Int.mul_le_mul a1.2 a1.2 a1.1 (by omega)⟩
      generalize x1e : (fs.length : Int) * Pk = x1 at *
      generalize x2e : Dk * Sk = x2 at *
      generalize x3e : (fs.length : Int) * Qk = x3 at *
      generalize x4e : Dk * Dk = x4 at *
      by_cases hs : fs.length < 2
      · have hG2 := Lib.hid (hG.out.trans (hGe.out.trans (if_pos hs)))
        have hsI : (fs.length : Int) < 2 := by omega
        clear hGe hG
        go_wp2_with ((with_reducible refine at_st 103 (.tmp 6) (.tmp 89) ?_); refine wpList_store_own rfl 103 (.tmp 6) (.tmp 89) rfl w.heap.size 103 _ 1 1 [(⟨0, 0, 0, 0, 0⟩ : RawG)] 0 _ (⟨0, 0, 0, 0, 0⟩ : RawG) rfl rfl rfl (by kernel_rfl) rfl hR.out (by simp) ?_; intro wz hRz hgz)
        obtain ⟨q0, q1, q2, q3, q4⟩ := growC_cells (rawG_five hRz)
        have hbz := below_mark hb hR.out (Nat.le_refl _) hgz
        refine bodyPost_ret (v := .tuple #[.agg #[.int .i64 0, .int .i64 0, .int .i64 0, .int .i64 0, .int .i64 0], .int .i64 3]) (by simp [results, Try.results83, go_sem, q0, q1, q2, q3, q4]) rfl ?_
        exact ⟨by rw [hG2.out], hbz⟩
      · have hG2 := Lib.hid (hG.out.trans (hGe.out.trans (if_neg hs)))
        have hsI : ¬ (fs.length : Int) < 2 := by omega
        clear hGe hG
        obtain ⟨y0, y1, y2, y3, y4⟩ := growC_cells hV.out
        have hwlt : w3.heap.size ≠ w.heap.size := by omega
        go_wp2_with (first | ((with_reducible refine at_st 2 (.tmp 108) (.tmp 98) ?_); refine wpList_store_own rfl 2 (.tmp 108) (.tmp 98) rfl w3.heap.size 103 w3.heap.size 5 5 (growC 0 0 Dk Sk fs.length) 0 0 (⟨.int .i64 (x1 - x2), rfl⟩ : OneCell) rfl rfl rfl (by kernel_rfl) rfl hV.out (by show 0 < 5; omega) ?_; intro w5 hV5 hg5; replace hV5 : Own w3.heap.size w5 103 (.slice (some ⟨w3.heap.size, 0, none⟩) 5 5) (growC (x1 - x2) 0 Dk Sk fs.length) := hV5; have hR5 := Lib.hid (hR.out.kept hg5 (Or.inr (ne_blkG (by omega)))); have hb5 := below_mark hb hV.out (by omega) hg5; clear y0 y1 y2 y3 y4 hg5; replace hV5 := Lib.hid hV5) | ((with_reducible refine at_st 2 (.tmp 109) (.tmp 107) ?_); refine wpList_store_own rfl 2 (.tmp 109) (.tmp 107) rfl w3.heap.size 103 w3.heap.size 5 5 (growC (x1 - x2) 0 Dk Sk fs.length) 1 1 (⟨.int .i64 (x3 - x4), rfl⟩ : OneCell) rfl rfl rfl (by kernel_rfl) rfl hV5.out (by show 1 < 5; omega) ?_; intro w6 hV6 hg6; replace hV6 : Own w3.heap.size w6 103 (.slice (some ⟨w3.heap.size, 0, none⟩) 5 5) (growC (x1 - x2) (x3 - x4) Dk Sk fs.length) := hV6; have hR6 := Lib.hid (hR5.out.kept hg6 (Or.inr (ne_blkG (by omega)))); have hb6 := below_mark hb5 hV5.out (by omega) hg6; obtain ⟨y0, y1, y2, y3, y4⟩ := growC_cells hV6; clear hg6 hV6) | ((with_reducible refine at_st 103 (.tmp 6) (.tmp 110) ?_); refine wpList_store_own rfl 103 (.tmp 6) (.tmp 110) rfl w.heap.size 103 _ 1 1 [(⟨0, 0, 0, 0, 0⟩ : RawG)] 0 _ (⟨x1 - x2, x3 - x4, Dk, Sk, fs.length⟩ : RawG) rfl rfl rfl (by kernel_rfl) rfl hR6.out (by simp) ?_; intro wz hRz hgz))
        obtain ⟨q0, q1, q2, q3, q4⟩ := growC_cells (rawG_five hRz)
        have hbz := below_mark hb6 hR6.out (Nat.le_refl _) hgz
        refine bodyPost_ret (v := .tuple #[.agg #[.int .i64 (x1 - x2), .int .i64 (x3 - x4), .int .i64 Dk, .int .i64 Sk, .int .i64 (fs.length : Int)], .int .i64 0]) (by simp [results, Try.results83, go_sem, q0, q1, q2, q3, q4]) rfl ?_
        exact ⟨by rw [hG2.out], hbz⟩
end Go.Proofs.Ytokoallbhbgkkaa
