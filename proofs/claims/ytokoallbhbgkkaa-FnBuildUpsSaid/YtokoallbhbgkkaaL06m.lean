/- Chapter 6, the program: the walk of builds. -/
import Derived.Test.YtokoallbhbgkkaaL06l
import Derived.Test.YtokoallbhbgkkaaStoreH
import Derived.Deep.RegionHeld3
namespace Go.Proofs.Ytokoallbhbgkkaa
open Go.RowKit

theorem infoBuild : (Try.prog.info? 96).map (fun i => (i.zero, i.size, i.bytes)) = some (some (.agg #[.int .i64 0, .slice none 0 0, .bool false]), 3, 40) := by kernel_rfl
theorem bestFrom_skip {lps : List (Int × Int)} {n j : Nat} (hj : j < lps.length) (h : (n : Int) < lps[j].1) : bestFrom lps n j = bestFrom lps n (j + 1) := by
  rw [bestFrom_step lps n j hj]; unfold tryB; rw [if_pos (Or.inr h)]
theorem bestFrom_unknown {lps : List (Int × Int)} {n j : Nat} (hj : j < lps.length) (h : bld lps (n - lps[j].1.toNat) = none) : bestFrom lps n j = bestFrom lps n (j + 1) := by
  rw [bestFrom_step lps n j hj]; unfold tryB; rw [h]; split <;> rfl
theorem bestFrom_known {lps : List (Int × Int)} {n j : Nat} (hj : j < lps.length) (h1 : 1 ≤ lps[j].1 ∧ lps[j].1 ≤ n) {r : Bld} (h : bld lps (n - lps[j].1.toNat) = some r) :
    bestFrom lps n j = if better (r.price + lps[j].2) (r.layers.length + 1) (bestFrom lps n (j + 1)) then some ⟨r.price + lps[j].2, lps[j].1 :: r.layers⟩ else bestFrom lps n (j + 1) := by
  rw [bestFrom_step lps n j hj]; unfold tryB; rw [h, if_neg (by omega)]
theorem own_made0 {B : Nat} {w1 : World} {v : Value} {n : Nat} (h : w1.ownsRow B 96 3 v (n + 1) (madeCells (Value.agg #[.int .i64 0, .slice none 0 0, .bool false]).cells ((n + 1) * 3)).toList) : Own B w1 96 v ((List.replicate (n + 1) rawB0).set 0 rawB0) := by
  have e : (List.replicate (n + 1) rawB0).set 0 rawB0 = List.replicate (n + 1) rawB0 := by simp [List.replicate_succ]
  rw [e]; unfold Own; rw [List.length_replicate, ← made_flat rawB0 _ rfl]; exact h
theorem al_cell {w : World} {a : Addr} {v : Value} {o : Obj} (h : w.cell? a = some v) : (w.alloc o).cell? a = some v := kept_cell h ((Below.refl _ _).alloc (Nat.le_refl _) _)
theorem gr_cell {w w' : World} {b o g : Nat} {v : Value} (h : w.cell? ⟨b, o, none⟩ = some v) (hg : w.grownBy w' (some g)) (hb : b ≠ g) : w'.cell? ⟨b, o, none⟩ = some v := by
  have hl := block_lt_of_cell h
  have e : w'.heap[b]? = w.heap[b]? := hg.block b hl (by simpa using hb)
  rw [← h]; unfold World.cell?; rw [e]
theorem own_far {α : Type} [Flat α] {B : Nat} {w : World} {e : TypeId} {v : Value} {xs : List α} {g : Nat} (h : Own B w e v xs) (hg : g < B) : Asunder v.ownBlock (some g) := by
  cases hv : v.ownBlock with
  | none => exact Or.inl rfl
  | some k => have := h.lt k hv; exact Or.inr fun e => by simp at e; omega
/-- What lies ready for slices.Concat: one layer, and those that follow it. -/
structure TwoParts (w2 : World) (l : Int) (ra : Option Addr) (rc : Nat) (bl : List Int) (W : World) : Prop where
  at2 : At W (some ⟨w2.heap.size + 1, 0, none⟩) [(⟨some ⟨w2.heap.size, 0, none⟩, 1, 1⟩ : RawL), ⟨ra, bl.length, rc⟩]
  each : ∀ i (_h1 : i < [(⟨some ⟨w2.heap.size, 0, none⟩, 1, 1⟩ : RawL), ⟨ra, bl.length, rc⟩].length) (_h2 : i < [[l], bl].length), [(⟨some ⟨w2.heap.size, 0, none⟩, 1, 1⟩ : RawL), ⟨ra, bl.length, rc⟩][i].n = [[l], bl][i].length ∧ At W [(⟨some ⟨w2.heap.size, 0, none⟩, 1, 1⟩ : RawL), ⟨ra, bl.length, rc⟩][i].a [[l], bl][i] ∧ ([(⟨some ⟨w2.heap.size, 0, none⟩, 1, 1⟩ : RawL), ⟨ra, bl.length, rc⟩][i].a = none → [(⟨some ⟨w2.heap.size, 0, none⟩, 1, 1⟩ : RawL), ⟨ra, bl.length, rc⟩][i].c = 0)
  below : Below w2.heap.size w2 W
theorem twoParts (B : Nat) (w2 : World) (l : Int) (ra : Option Addr) (rc : Nat) (bl : List Int) (h : Own B w2 2 (.slice ra bl.length rc) bl) :
    TwoParts w2 l ra rc bl ((w2.alloc (.cells #[.int .i64 l] 2)).alloc (.cells #[.slice (some ⟨w2.heap.size, 0, none⟩) 1 1, .slice ra bl.length rc] 22)).drew := by
  have hb1 : Below w2.heap.size w2 (w2.alloc (.cells #[.int .i64 l] 2)) := (Below.refl _ _).alloc (Nat.le_refl _) _
  have hO1 := own_int1 w2 2 l
  have hO2 := own_row (w2.alloc (.cells #[.int .i64 l] 2)) 22 [(⟨some ⟨w2.heap.size, 0, none⟩, 1, 1⟩ : RawL), ⟨ra, bl.length, rc⟩] (by simp)
  obtain ⟨wa, hwa⟩ : ∃ wa, wa = w2.alloc (.cells #[.int .i64 l] 2) := ⟨_, rfl⟩
  have hsz : wa.heap.size = w2.heap.size + 1 := by rw [hwa]; simp
  rw [← hwa] at hb1 hO1 hO2 ⊢
  have hb2 : Below wa.heap.size wa (wa.alloc (.cells #[.slice (some ⟨w2.heap.size, 0, none⟩) 1 1, .slice ra bl.length rc] 22)).drew := ((Below.refl _ _).alloc (Nat.le_refl _) _).drew
  refine ⟨?_, fun i h1 h2 => ?_, upw hb1 hb2⟩
  · rw [← hsz]
    exact (hO2.later (Below.refl _ _).drew).at'
  · simp only [List.length_cons, List.length_nil] at h1
    rcases (by omega : i = 0 ∨ i = 1) with rfl | rfl
    · exact ⟨rfl, (hO1.later hb2).at', fun h => by cases h⟩
    · refine ⟨rfl, (h.later (upw hb1 hb2)).at', fun e => ?_⟩
      rcases h.cases with ⟨h1, _⟩ | ⟨g, cap, h1⟩
      · simp only [Value.slice.injEq] at h1; exact h1.2.2
      · simp only [Value.slice.injEq] at h1; rw [show ra = none from e] at h1; cases h1.1
set_option maxRecDepth 100000 in
set_option maxHeartbeats 16000000 in
theorem builds_c (a a' : Option Addr) (ls ps : List Int) (c c' n : Nat) (w : World) (hx : At w a ls) (hy : At w a' ps) (hok : LayOk ls) (hp : PriceOk ls ps) (hn : n ≤ 1000) :
    Calls Try.prog 77 #[.slice a ls.length c, .slice a' ps.length c', .int .i64 n] w fun e w' => ∃ g cap rs, e = .returned (.slice (some ⟨g, 0, none⟩) (n + 1) cap) ∧ Table w.heap.size w' g cap (ls.zip ps) (n + 1) (n + 1) rs ∧ Below w.heap.size w w' := by
  have hlen := hok.len
  have HP := Lib.hid hp
  have HZ : Hid ((ls.zip ps).length = ls.length) := Lib.hid (by rw [List.length_zip, hp.len]; omega)
  have HG : Hid (∀ j (h : j < (ls.zip ps).length) (h1 : j < ls.length) (h2 : j < ps.length), (ls.zip ps)[j] = (ls[j], ps[j])) := Lib.hid fun j h h1 h2 => by rw [List.getElem_zip]
  have hpl := Lib.hid hp.len
  clear hp
  obtain ⟨lps, hlps⟩ : ∃ lps, lps = ls.zip ps := ⟨_, rfl⟩
  rw [← hlps] at HZ HG ⊢
  have HB : Hid (∀ (k : Nat) (b : Bld), k ≤ 1000 → IsBld lps k b → 0 ≤ b.price ∧ b.price ≤ 1000000 ∧ b.layers.length ≤ 1000) := Lib.hid fun k b hk hb => bld_bounds HP.out hk (by rw [← hlps]; exact hb)
  replace hlps := Lib.hid hlps
  obtain ⟨i0, hi, hz0, hz1, hz2⟩ := info_parts infoBuild
  go_enter Try.func77, Try.ntmps77
  go_wp2_with (first | (at_make; refine wpList_make_full _ rfl (.tmp 14) (.tmp 14) 97 rfl w.heap.size 96 i0 (.agg #[.int .i64 0, .slice none 0 0, .bool false]) 3 Try.underlying97 hi hz0 hz1 .i64 .i64 _ _ (n + 1) rfl rfl rfl rfl (by rw [hz2]; omega) (by unfold maxLen; omega) (Nat.le_refl _) ?_; intro w1 hown hg; have hO := own_made0 hown; clear hown) | (refine wpList_store_field rfl 4 (.tmp 18) (.const (.bool true)) rfl w.heap.size 96 _ _ _ (List.replicate (n + 1) rawB0) 0 _ 2 rawB0 (⟨0, none, 0, 0, true⟩ : RawB) _ rfl (by simp [Flat.k]) (by decide) rfl rfl rfl (by kernel_rfl) (by simp) hO (by simp) ?_; intro w2 hO2 hg2))
  have hb1 : Below w.heap.size w w1 := (Below.refl _ _).grown hg (Nat.le_refl _) (by simp)
  have hT2 : Table w.heap.size w2 w.heap.size (n + 1) lps (n + 1) 1 ((List.replicate (n + 1) rawB0).set 0 ⟨0, none, 0, 0, true⟩) := by
    refine ⟨by simp, hO2, fun i hi hk => ?_⟩
    obtain rfl : i = 0 := by omega
    rw [List.getElem_set_self, bld_zero]
    exact ⟨rfl, rfl, rfl, World.ownsRow_nil _ _ _ _, Or.inl rfl⟩
  have hb2 := hb1.grown hg2 hb1.size (fun k hk => by simp at hk; omega)
  clear hO hO2 hg hg2 hb1 hi hz0 hz1 hz2
  have hsz2 := hb2.size
  go_loopw [8] (fun i wq => ∃ (k : Nat) (rs : List RawB), 1 ≤ k ∧ k ≤ n + 1 ∧ i = .int .i64 k ∧ Table w.heap.size wq w.heap.size (n + 1) lps (n + 1) k rs ∧ Below w.heap.size w wq) (fun i _ => n + 1 - (intOf i).toNat)
  case atStart => exact ⟨1, _, by omega, by omega, rfl, hT2, hb2⟩
  case round =>
    clear hT2 hb2 hsz2
    obtain ⟨k, rs, hk1, hk, rfl, hT, hbo⟩ := hrel
    by_cases hlt : k ≤ n
    · obtain ⟨wo, hwo⟩ : ∃ wo : World, wo = wr := ⟨_, rfl⟩
      subst hwo
      have hszo := hbo.size
      have hgo := (hT.row.lt w.heap.size rfl).2
      replace hx := hx.below hbo
      replace hy := hy.below hbo
      replace hT := Lib.hid hT
      have hB0 : Below wo.heap.size wo (wo.alloc (.cells #[.int .i64 rawB0.price, .slice rawB0.a rawB0.n rawB0.c, .bool rawB0.known] 96)) := (Below.refl _ _).alloc (Nat.le_refl _) _
      have hO0 := own_rawB wo rawB0
      go_wp2_with fail
      go_loopw [10] (fun i wq => ∃ (j : Nat) (rb : RawB), j ≤ ls.length ∧ i = .int .i64 ((j : Int) - 1) ∧ Own wo.heap.size wq 96 (.slice (some ⟨wo.heap.size, 0, none⟩) 1 1) [rb] ∧ BldIs (wo.heap.size + 1) wq w.heap.size rb (bestFrom lps k j) ∧ Below wo.heap.size wo wq) (fun i _ => ((intOf i) + 1).toNat)
      case atStart => exact ⟨ls.length, rawB0, Nat.le_refl _, rfl, hO0, by rw [← HZ.out, bestFrom_all]; rfl, hB0⟩
      case round =>
        clear hB0 hO0
        obtain ⟨j, rb, hj, rfl, hO, hR, hb⟩ := hrel
        by_cases hj0 : j = 0
        · subst hj0
          have hend : Hid (bestFrom lps k 0 = bld lps k) := Lib.hid (bestFrom_zero lps (by omega))
          obtain ⟨d0, d1, d2⟩ := one_rawB hO
          have hTr := hT.out.later hb
          rw [hend.out] at hR
          have hlr := Lib.hid hTr.len
          go_wp2_with (refine wpList_store_own rfl 96 (.tmp 106) (.tmp 105) rfl w.heap.size 96 w.heap.size (n + 1) (n + 1) rs k _ rb rfl (by simp [Flat.k]) rfl (by kernel_rfl) hlr.out.symm hTr.row (by rw [hlr.out]; omega) ?_; intro w3 hO3 hg3)
          go_roundw
          case rel => exact ⟨k + 1, rs.set k rb, by omega, by omega, by go_num, hTr.put hg3 hO3 (hR.base (by omega)), (upw hbo hb).grown hg3 (upw hbo hb).size (fun k hk => by simp at hk; omega)⟩
          case measure => simp [intOf]; omega
        · have hjl : j - 1 < ls.length := by omega
          have hji : (j : Int) - 1 = ((j - 1 : Nat) : Int) := by omega
          rw [hji]
          have hjz : j - 1 < lps.length := by rw [HZ.out]; exact hjl
          have hjp : j - 1 < ps.length := by rw [hpl.out]; exact hjl
          have hlp := HG.out (j - 1) hjz hjl hjp
          have hl := hok.each (j - 1) hjl
          have hpe := HP.out.each (j - 1) hjp
          obtain ⟨b, off, rfl⟩ := hx.addr hjl
          obtain ⟨b', off', rfl⟩ := hy.addr hjp
          have cl := (hx.below hb).int hjl
          have cp := (hy.below hb).int hjp
          obtain ⟨l, hlE⟩ : ∃ l, l = ls[j - 1] := ⟨_, rfl⟩
          obtain ⟨p, hpE⟩ : ∃ p, p = ps[j - 1] := ⟨_, rfl⟩
          rw [← hlE] at cl hl hlp
          rw [← hpE] at cp hpe hlp
          replace hlE := Lib.hid hlE
          replace hpE := Lib.hid hpE
          have hjj : Hid (bestFrom lps k (j - 1 + 1) = bestFrom lps k j) := Lib.hid (by rw [show j - 1 + 1 = j by omega])
          have hE1 := Lib.hid (fun h => (bestFrom_skip (n := k) hjz h).trans hjj.out)
          have hE2 := Lib.hid (fun h => (bestFrom_unknown (n := k) hjz h).trans hjj.out)
          have hE3 := Lib.hid (fun h1 r h => bestFrom_known (n := k) hjz h1 (r := r) h)
          rw [hlp] at hE1 hE2 hE3
          rw [hjj.out] at hE3
          replace hlp := Lib.hid hlp
          clear hjj
          by_cases h1 : l ≤ k
          · have hTr := hT.out.later hb
            have hbo2 := (hO.lt wo.heap.size rfl).2
            have hm : k - l.toNat < rs.length := by rw [hTr.len]; omega
            have hRm := hTr.each _ hm (by omega)
            obtain ⟨e0, e1, e2⟩ := hTr.row.at'.rawB hm
            rw [Nat.zero_add] at e0 e1 e2
            obtain ⟨rm, hrm⟩ : ∃ rm, rm = rs[k - l.toNat] := ⟨_, rfl⟩
            rw [← hrm] at e0 e1 e2 hRm
            replace hrm := Lib.hid hrm
            rw [show k - l.toNat = ((k : Int) - l).toNat by omega] at e0 e1 e2
            have hbd : (k : Int) - l < ((n + 1 : Nat) : Int) := by omega
            replace hTr := Lib.hid hTr
            cases hbm : bld lps (k - l.toNat) with
            | none =>
              rw [hbm] at hRm
              obtain rfl : rm = rawB0 := hRm
              simp only [rawB0] at e0 e1 e2
              go_wp2_with fail
              go_roundw
              case rel => exact ⟨j - 1, rb, by omega, by go_num, hO, by rw [hE2.out hbm]; exact hR, hb⟩
              case measure => simp [intOf]
            | some r =>
              rw [hbm] at hRm
              obtain ⟨m1, m2, m3, m4, m5⟩ := hRm
              have hrb := HB.out _ _ (by omega : k - l.toNat ≤ 1000) (bld_is _ _ _ hbm)
              replace hE3 := Lib.hid (hE3.out ⟨hl.1, h1⟩ r hbm)
              clear hE1 hE2
              obtain ⟨rp, ra, rn, rc, rk⟩ := rm
              simp only at m1 m2 m3 m4 m5 e0 e1 e2
              subst m1 m2 m3
              obtain ⟨bp, bl⟩ := r
              simp only at hrb m4 m5 e0 e1 e2 hE3
              have hbn := Lib.hid (BldIs.later (w' := wr) hR (Below.refl _ _))
              obtain ⟨wi, hwi⟩ : ∃ wi, wi = wr.alloc (.cells #[.int .i64 bp, .slice ra bl.length rc, .bool true] 96) := ⟨_, rfl⟩
              have hbi : Below wr.heap.size wr wi := by rw [hwi]; exact (Below.refl _ _).alloc (Nat.le_refl _) _
              obtain ⟨f0, f1, f2⟩ : wi.cell? ⟨wr.heap.size, 0, none⟩ = some (.int .i64 bp) ∧ wi.cell? ⟨wr.heap.size, 1, none⟩ = some (.slice ra bl.length rc) ∧ wi.cell? ⟨wr.heap.size, 2, none⟩ = some (.bool true) := by rw [hwi]; refine ⟨?_, ?_, ?_⟩ <;> go_simp
              replace hwi := Lib.hid hwi
              go_wp2_with fail
              rw [← hwi.out]
              replace cl := kept_cell cl hbi
              replace cp := kept_cell cp hbi
              replace hb := upw hb hbi
              replace hO := hO.later hbi
              replace hR := BldIs.later hR hbi
              replace m4 := m4.later hbi
              have hszi := hbi.size
              clear e0 e1 e2 hTr hbn hwi
              have q0 := rg f0
              have q1 := rg cp
              have hsum : -9223372036854775808 ≤ bp + p ∧ bp + p ≤ 9223372036854775807 := by omega
              go_simp
              refine wp_region_quiet_below (by kernel_rfl) (by kernel_rfl) ?_
              repeat (go_big_quiet_step ((fail)))
              refine wpQuiet_nil ?_
              intro w2 hw'
              replace hb := upw hb (grown_of hw')
              have hw2 := grown_of hw'
              clear hw'
              replace cl := kept_cell cl hw2
              replace f1 := kept_cell f1 hw2
              replace hO := hO.later hw2
              replace hR := BldIs.later hR hw2
              replace m4 := m4.later hw2
              have hsz2 := hw2.size
              clear f0 f2 q0 q1 cp hw2
              obtain ⟨d0, d1, d2⟩ := one_rawB hO
              replace hE3 := Lib.hid hE3.out
              cases hbb : bestFrom lps k j with
              | none =>
                rw [hbb] at hR hE3
                obtain rfl : rb = rawB0 := hR
                simp only [rawB0] at d0 d1 d2 hO
                have hE : Hid (bestFrom lps k (j - 1) = some ⟨bp + p, l :: bl⟩) := Lib.hid (by rw [hE3.out]; rfl)
                clear hE3 hbb
                go_wp2_with fail
                refine wp_region_held_drew (S := (fun w' => w'.cell? ⟨b, off + (j - 1), none⟩ = some (.int .i64 l) ∧ w'.cell? ⟨wr.heap.size, 1, none⟩ = some (.slice ra bl.length rc))) (by kernel_rfl) ⟨(by go_simp), (by go_simp)⟩ (fun hHeld => ?_)
                refine wpAnyH_take (i := 0) (v := _) rfl (by kernel_rfl) (by kernel_rfl) (by kernel_rfl) (fun _ _ _ h => h) (Or.inl ⟨by rfl, (by intro w hSw; (try dsimp only at hSw); go_simp; try with_reducible rfl)⟩) (by assumption) ?_
                go_simp
                refine wpAnyH_take (i := 1) (v := _) rfl (by kernel_rfl) (by kernel_rfl) (by kernel_rfl) (fun _ _ _ h => h) (Or.inl ⟨by rfl, (by intro w hSw; (try dsimp only at hSw); go_simp; try with_reducible rfl)⟩) (by assumption) ?_
                go_simp
                refine wpAnyH_take (i := 2) (v := _) rfl (by kernel_rfl) (by kernel_rfl) (by kernel_rfl) (fun _ _ _ h => h) (Or.inl ⟨by rfl, (by intro w hSw; (try dsimp only at hSw); go_simp; try with_reducible rfl)⟩) (by assumption) ?_
                go_simp
                refine wpAnyH_take (i := 3) (v := _) rfl (by kernel_rfl) (by kernel_rfl) (by kernel_rfl) (fun _ _ _ h => h) (Or.inl ⟨by rfl, (by intro w hSw; (try dsimp only at hSw); go_simp; try with_reducible rfl)⟩) (by assumption) ?_
                go_simp
                refine wpAnyH_take (i := 4) (v := _) rfl (by kernel_rfl) (by kernel_rfl) (by kernel_rfl) (fun _ _ _ h => h) (Or.inl ⟨by rfl, (by intro w hSw; (try dsimp only at hSw); go_simp; try with_reducible rfl)⟩) (by assumption) ?_
                go_simp
                refine wpAnyH_take (i := 6) (v := _) rfl (by kernel_rfl) (by kernel_rfl) (by kernel_rfl) (fun _ _ _ h => h) (Or.inl ⟨by rfl, (by intro w hSw; (try dsimp only at hSw); go_simp; try with_reducible rfl)⟩) (by assumption) ?_
                go_simp
                refine wpAnyH_take (i := 7) (v := _) rfl (by kernel_rfl) (by kernel_rfl) (by kernel_rfl) (fun _ _ _ h => h) (Or.inl ⟨by rfl, (by intro w hSw; (try dsimp only at hSw); go_simp; try with_reducible rfl)⟩) (by assumption) ?_
                go_simp
                refine wpAnyH_ready (rs := [5]) (by kernel_rfl) (by simp) ?_
                refine AllReadyH.cons rfl (fun K hK => ?_) AllReadyH.nil
                go_simp
                refine hK.out _ _ ⟨(by go_simp; exact al_cell cl), (by go_simp; exact al_cell f1)⟩ (fun hHeld => ?_)
                clear hK K
                go_simp
                refine wpAnyH_ready (rs := [8]) (by kernel_rfl) (by simp) ?_
                refine AllReadyH.cons rfl (fun K hK => ?_) AllReadyH.nil
                go_simp
                refine hK.out _ _ ⟨(by go_simp; exact al_cell (al_cell cl)), (by go_simp; exact al_cell (al_cell f1))⟩ (fun hHeld => ?_)
                clear hK K
                go_simp
                have hTP := twoParts _ w2 l ra rc bl m4
                refine wpAnyH_ready (rs := [9]) (by kernel_rfl) (by simp) ?_
                refine AllReadyH.cons rfl (fun K hK => ?_) AllReadyH.nil
                go_simp
                refine (concat_c _ 0 _ [[l], bl] _ _ hTP.at2 rfl (by simp) hTP.each (by simp) (by simp; omega)).mono ?_
                rintro e w3 ⟨v3, rfl, hV, hb3⟩
                rw [show [[l], bl].flatten = l :: bl by simp] at hV
                have hbW := upw hTP.below hb3
                have hszW := hTP.below.size
                replace hV := hV.base hszW
                clear hTP hb3
                go_simp
                refine hK.out _ _ ⟨kept_cell cl hbW, kept_cell f1 hbW⟩ (fun hHeld => ?_)
                clear hK K
                go_simp
                obtain ⟨av, cv, rfl, _⟩ := hV.at
                refine wpAnyH_take (i := 10) (v := _) rfl (by kernel_rfl) (by kernel_rfl) (by kernel_rfl) (fun _ _ _ h => h) (Or.inl ⟨by rfl, (by intro w hSw; (try dsimp only at hSw); go_simp; try with_reducible rfl)⟩) (by assumption) ?_
                go_simp
                refine wpAnyH_ready (rs := [11]) (by kernel_rfl) (by simp) ?_
                refine AllReadyH.cons rfl (fun K hK => ?_) AllReadyH.nil
                refine cast (if_pos (by rfl)).symm ?_
                refine wp_store_own 96 (.tmp 9) (.tmp 102) rfl wo.heap.size 96 wo.heap.size 1 1 [_] 0 0 (⟨bp + p, av, (l :: bl).length, cv, true⟩ : RawB) rfl (by simp [Flat.k]) rfl (by kernel_rfl) rfl (hO.later hbW) (by simp) ?_
                intro w4 hO4 hg4
                have hne1 : b ≠ wo.heap.size := by have := hx.lt hjl; omega
                have hne2 : wr.heap.size ≠ wo.heap.size := by omega
                refine hK.out _ _ ⟨gr_cell (kept_cell cl hbW) hg4 hne1, gr_cell (kept_cell f1 hbW) hg4 hne2⟩ (fun hHeld => ?_)
                clear hK K
                go_simp
                refine wpAnyH_done (by kernel_rfl) ?_ _
                have hsz3 := hbW.size
                go_wp2_with fail
                go_roundw
                case rel =>
                  refine ⟨j - 1, _, by omega, by go_num, hO4, ?_, (upw hb hbW).grown hg4 (upw hb hbW).size (fun k hk => by simp at hk; omega)⟩
                  rw [hE.out]
                  refine ⟨rfl, rfl, rfl, ?_, ?_⟩
                  · exact (hV.kept hg4 (own_far hV (by omega))).base (by omega)
                  · exact own_far hV (by omega)
                case measure => simp [intOf]
              | some bb =>
                rw [hbb] at hR hE3
                obtain ⟨n1, n2, n3, n4, n5⟩ := hR
                have hbB := HB.out _ _ (by omega : k ≤ 1000) (bestFrom_is (by omega) _ j rfl _ hbb)
                obtain ⟨sp, sa, sn, sc, sk⟩ := rb
                obtain ⟨cp, cl2⟩ := bb
                simp only at n1 n2 n3 n4 n5 d0 d1 d2 hbB hE3
                subst n1 n2 n3
                clear hbb
                have hE4 : Hid (∀ q : Bool, better (bp + p) (bl.length + 1) (some ⟨sp, cl2⟩) = q → bestFrom lps k (j - 1) = if q then some ⟨bp + p, l :: bl⟩ else some ⟨sp, cl2⟩) := Lib.hid fun q hq => by rw [hE3.out, hq]
                clear hE3
                have hEt : Hid ((bp + p < sp ∨ bp + p = sp ∧ bl.length + 1 < cl2.length) → bestFrom lps k (j - 1) = some ⟨bp + p, l :: bl⟩) := Lib.hid fun h => hE4.out true (better_some.2 h)
                have hEf : Hid (¬ (bp + p < sp ∨ bp + p = sp ∧ bl.length + 1 < cl2.length) → bestFrom lps k (j - 1) = some ⟨sp, cl2⟩) := Lib.hid fun h => hE4.out false (by
                  cases hq : better (bp + p) (bl.length + 1) (some ⟨sp, cl2⟩) with
                  | false => rfl
                  | true => exact absurd (better_some.1 hq) h)
                clear hE4
                have hno : ∀ h : ¬ (bp + p < sp ∨ bp + p = sp ∧ bl.length + 1 < cl2.length), BldIs (wo.heap.size + 1) w2 w.heap.size ⟨sp, sa, cl2.length, sc, true⟩ (bestFrom lps k (j - 1)) := fun h => by
                  rw [hEf.out h]; exact ⟨rfl, rfl, rfl, n4, n5⟩
                replace hno := Lib.hid hno
                clear hEf
                by_cases u1 : bp + p < sp
                · have hE := Lib.hid (hEt.out (Or.inl u1))
                  clear hEt hno
                  go_wp2_with fail
                  refine wp_region_held_drew (S := (fun w' => w'.cell? ⟨b, off + (j - 1), none⟩ = some (.int .i64 l) ∧ w'.cell? ⟨wr.heap.size, 1, none⟩ = some (.slice ra bl.length rc))) (by kernel_rfl) ⟨(by go_simp), (by go_simp)⟩ (fun hHeld => ?_)
                  refine wpAnyH_take (i := 0) (v := _) rfl (by kernel_rfl) (by kernel_rfl) (by kernel_rfl) (fun _ _ _ h => h) (Or.inl ⟨by rfl, (by intro w hSw; (try dsimp only at hSw); go_simp; try with_reducible rfl)⟩) (by assumption) ?_
                  go_simp
                  refine wpAnyH_take (i := 1) (v := _) rfl (by kernel_rfl) (by kernel_rfl) (by kernel_rfl) (fun _ _ _ h => h) (Or.inl ⟨by rfl, (by intro w hSw; (try dsimp only at hSw); go_simp; try with_reducible rfl)⟩) (by assumption) ?_
                  go_simp
                  refine wpAnyH_take (i := 2) (v := _) rfl (by kernel_rfl) (by kernel_rfl) (by kernel_rfl) (fun _ _ _ h => h) (Or.inl ⟨by rfl, (by intro w hSw; (try dsimp only at hSw); go_simp; try with_reducible rfl)⟩) (by assumption) ?_
                  go_simp
                  refine wpAnyH_take (i := 3) (v := _) rfl (by kernel_rfl) (by kernel_rfl) (by kernel_rfl) (fun _ _ _ h => h) (Or.inl ⟨by rfl, (by intro w hSw; (try dsimp only at hSw); go_simp; try with_reducible rfl)⟩) (by assumption) ?_
                  go_simp
                  refine wpAnyH_take (i := 4) (v := _) rfl (by kernel_rfl) (by kernel_rfl) (by kernel_rfl) (fun _ _ _ h => h) (Or.inl ⟨by rfl, (by intro w hSw; (try dsimp only at hSw); go_simp; try with_reducible rfl)⟩) (by assumption) ?_
                  go_simp
                  refine wpAnyH_take (i := 6) (v := _) rfl (by kernel_rfl) (by kernel_rfl) (by kernel_rfl) (fun _ _ _ h => h) (Or.inl ⟨by rfl, (by intro w hSw; (try dsimp only at hSw); go_simp; try with_reducible rfl)⟩) (by assumption) ?_
                  go_simp
                  refine wpAnyH_take (i := 7) (v := _) rfl (by kernel_rfl) (by kernel_rfl) (by kernel_rfl) (fun _ _ _ h => h) (Or.inl ⟨by rfl, (by intro w hSw; (try dsimp only at hSw); go_simp; try with_reducible rfl)⟩) (by assumption) ?_
                  go_simp
                  refine wpAnyH_ready (rs := [5]) (by kernel_rfl) (by simp) ?_
                  refine AllReadyH.cons rfl (fun K hK => ?_) AllReadyH.nil
                  go_simp
                  refine hK.out _ _ ⟨(by go_simp; exact al_cell cl), (by go_simp; exact al_cell f1)⟩ (fun hHeld => ?_)
                  clear hK K
                  go_simp
                  refine wpAnyH_ready (rs := [8]) (by kernel_rfl) (by simp) ?_
                  refine AllReadyH.cons rfl (fun K hK => ?_) AllReadyH.nil
                  go_simp
                  refine hK.out _ _ ⟨(by go_simp; exact al_cell (al_cell cl)), (by go_simp; exact al_cell (al_cell f1))⟩ (fun hHeld => ?_)
                  clear hK K
                  go_simp
                  have hTP := twoParts _ w2 l ra rc bl m4
                  refine wpAnyH_ready (rs := [9]) (by kernel_rfl) (by simp) ?_
                  refine AllReadyH.cons rfl (fun K hK => ?_) AllReadyH.nil
                  go_simp
                  refine (concat_c _ 0 _ [[l], bl] _ _ hTP.at2 rfl (by simp) hTP.each (by simp) (by simp; omega)).mono ?_
                  rintro e w3 ⟨v3, rfl, hV, hb3⟩
                  rw [show [[l], bl].flatten = l :: bl by simp] at hV
                  have hbW := upw hTP.below hb3
                  have hszW := hTP.below.size
                  replace hV := hV.base hszW
                  clear hTP hb3
                  go_simp
                  refine hK.out _ _ ⟨kept_cell cl hbW, kept_cell f1 hbW⟩ (fun hHeld => ?_)
                  clear hK K
                  go_simp
                  obtain ⟨av, cv, rfl, _⟩ := hV.at
                  refine wpAnyH_take (i := 10) (v := _) rfl (by kernel_rfl) (by kernel_rfl) (by kernel_rfl) (fun _ _ _ h => h) (Or.inl ⟨by rfl, (by intro w hSw; (try dsimp only at hSw); go_simp; try with_reducible rfl)⟩) (by assumption) ?_
                  go_simp
                  refine wpAnyH_ready (rs := [11]) (by kernel_rfl) (by simp) ?_
                  refine AllReadyH.cons rfl (fun K hK => ?_) AllReadyH.nil
                  refine cast (if_pos (by rfl)).symm ?_
                  refine wp_store_own 96 (.tmp 9) (.tmp 102) rfl wo.heap.size 96 wo.heap.size 1 1 [_] 0 0 (⟨bp + p, av, (l :: bl).length, cv, true⟩ : RawB) rfl (by simp [Flat.k]) rfl (by kernel_rfl) rfl (hO.later hbW) (by simp) ?_
                  intro w4 hO4 hg4
                  have hne1 : b ≠ wo.heap.size := by have := hx.lt hjl; omega
                  have hne2 : wr.heap.size ≠ wo.heap.size := by omega
                  refine hK.out _ _ ⟨gr_cell (kept_cell cl hbW) hg4 hne1, gr_cell (kept_cell f1 hbW) hg4 hne2⟩ (fun hHeld => ?_)
                  clear hK K
                  go_simp
                  refine wpAnyH_done (by kernel_rfl) ?_ _
                  have hsz3 := hbW.size
                  go_wp2_with fail
                  go_roundw
                  case rel =>
                    refine ⟨j - 1, _, by omega, by go_num, hO4, ?_, (upw hb hbW).grown hg4 (upw hb hbW).size (fun k hk => by simp at hk; omega)⟩
                    rw [hE.out]
                    refine ⟨rfl, rfl, rfl, ?_, ?_⟩
                    · exact (hV.kept hg4 (own_far hV (by omega))).base (by omega)
                    · exact own_far hV (by omega)
                  case measure => simp [intOf]
                · cases u2 : ((bp + p) == sp) with
                  | true =>
                    have u2' : bp + p = sp := by simpa using u2
                    by_cases u3 : (bl.length : Int) + 1 < cl2.length
                    · have hE := Lib.hid (hEt.out (Or.inr ⟨u2', by omega⟩))
                      clear hEt hno
                      replace u2' := Lib.hid u2'
                      go_wp2_with fail
                      refine wp_region_held_drew (S := (fun w' => w'.cell? ⟨b, off + (j - 1), none⟩ = some (.int .i64 l) ∧ w'.cell? ⟨wr.heap.size, 1, none⟩ = some (.slice ra bl.length rc))) (by kernel_rfl) ⟨(by go_simp), (by go_simp)⟩ (fun hHeld => ?_)
                      refine wpAnyH_take (i := 0) (v := _) rfl (by kernel_rfl) (by kernel_rfl) (by kernel_rfl) (fun _ _ _ h => h) (Or.inl ⟨by rfl, (by intro w hSw; (try dsimp only at hSw); go_simp; try with_reducible rfl)⟩) (by assumption) ?_
                      go_simp
                      refine wpAnyH_take (i := 1) (v := _) rfl (by kernel_rfl) (by kernel_rfl) (by kernel_rfl) (fun _ _ _ h => h) (Or.inl ⟨by rfl, (by intro w hSw; (try dsimp only at hSw); go_simp; try with_reducible rfl)⟩) (by assumption) ?_
                      go_simp
                      refine wpAnyH_take (i := 2) (v := _) rfl (by kernel_rfl) (by kernel_rfl) (by kernel_rfl) (fun _ _ _ h => h) (Or.inl ⟨by rfl, (by intro w hSw; (try dsimp only at hSw); go_simp; try with_reducible rfl)⟩) (by assumption) ?_
                      go_simp
                      refine wpAnyH_take (i := 3) (v := _) rfl (by kernel_rfl) (by kernel_rfl) (by kernel_rfl) (fun _ _ _ h => h) (Or.inl ⟨by rfl, (by intro w hSw; (try dsimp only at hSw); go_simp; try with_reducible rfl)⟩) (by assumption) ?_
                      go_simp
                      refine wpAnyH_take (i := 4) (v := _) rfl (by kernel_rfl) (by kernel_rfl) (by kernel_rfl) (fun _ _ _ h => h) (Or.inl ⟨by rfl, (by intro w hSw; (try dsimp only at hSw); go_simp; try with_reducible rfl)⟩) (by assumption) ?_
                      go_simp
                      refine wpAnyH_take (i := 6) (v := _) rfl (by kernel_rfl) (by kernel_rfl) (by kernel_rfl) (fun _ _ _ h => h) (Or.inl ⟨by rfl, (by intro w hSw; (try dsimp only at hSw); go_simp; try with_reducible rfl)⟩) (by assumption) ?_
                      go_simp
                      refine wpAnyH_take (i := 7) (v := _) rfl (by kernel_rfl) (by kernel_rfl) (by kernel_rfl) (fun _ _ _ h => h) (Or.inl ⟨by rfl, (by intro w hSw; (try dsimp only at hSw); go_simp; try with_reducible rfl)⟩) (by assumption) ?_
                      go_simp
                      refine wpAnyH_ready (rs := [5]) (by kernel_rfl) (by simp) ?_
                      refine AllReadyH.cons rfl (fun K hK => ?_) AllReadyH.nil
                      go_simp
                      refine hK.out _ _ ⟨(by go_simp; exact al_cell cl), (by go_simp; exact al_cell f1)⟩ (fun hHeld => ?_)
                      clear hK K
                      go_simp
                      refine wpAnyH_ready (rs := [8]) (by kernel_rfl) (by simp) ?_
                      refine AllReadyH.cons rfl (fun K hK => ?_) AllReadyH.nil
                      go_simp
                      refine hK.out _ _ ⟨(by go_simp; exact al_cell (al_cell cl)), (by go_simp; exact al_cell (al_cell f1))⟩ (fun hHeld => ?_)
                      clear hK K
                      go_simp
                      have hTP := twoParts _ w2 l ra rc bl m4
                      refine wpAnyH_ready (rs := [9]) (by kernel_rfl) (by simp) ?_
                      refine AllReadyH.cons rfl (fun K hK => ?_) AllReadyH.nil
                      go_simp
                      refine (concat_c _ 0 _ [[l], bl] _ _ hTP.at2 rfl (by simp) hTP.each (by simp) (by simp; omega)).mono ?_
                      rintro e w3 ⟨v3, rfl, hV, hb3⟩
                      rw [show [[l], bl].flatten = l :: bl by simp] at hV
                      have hbW := upw hTP.below hb3
                      have hszW := hTP.below.size
                      replace hV := hV.base hszW
                      clear hTP hb3
                      go_simp
                      refine hK.out _ _ ⟨kept_cell cl hbW, kept_cell f1 hbW⟩ (fun hHeld => ?_)
                      clear hK K
                      go_simp
                      obtain ⟨av, cv, rfl, _⟩ := hV.at
                      refine wpAnyH_take (i := 10) (v := _) rfl (by kernel_rfl) (by kernel_rfl) (by kernel_rfl) (fun _ _ _ h => h) (Or.inl ⟨by rfl, (by intro w hSw; (try dsimp only at hSw); go_simp; try with_reducible rfl)⟩) (by assumption) ?_
                      go_simp
                      refine wpAnyH_ready (rs := [11]) (by kernel_rfl) (by simp) ?_
                      refine AllReadyH.cons rfl (fun K hK => ?_) AllReadyH.nil
                      refine cast (if_pos (by rfl)).symm ?_
                      refine wp_store_own 96 (.tmp 9) (.tmp 102) rfl wo.heap.size 96 wo.heap.size 1 1 [_] 0 0 (⟨bp + p, av, (l :: bl).length, cv, true⟩ : RawB) rfl (by simp [Flat.k]) rfl (by kernel_rfl) rfl (hO.later hbW) (by simp) ?_
                      intro w4 hO4 hg4
                      have hne1 : b ≠ wo.heap.size := by have := hx.lt hjl; omega
                      have hne2 : wr.heap.size ≠ wo.heap.size := by omega
                      refine hK.out _ _ ⟨gr_cell (kept_cell cl hbW) hg4 hne1, gr_cell (kept_cell f1 hbW) hg4 hne2⟩ (fun hHeld => ?_)
                      clear hK K
                      go_simp
                      refine wpAnyH_done (by kernel_rfl) ?_ _
                      have hsz3 := hbW.size
                      go_wp2_with fail
                      go_roundw
                      case rel =>
                        refine ⟨j - 1, _, by omega, by go_num, hO4, ?_, (upw hb hbW).grown hg4 (upw hb hbW).size (fun k hk => by simp at hk; omega)⟩
                        rw [hE.out]
                        refine ⟨rfl, rfl, rfl, ?_, ?_⟩
                        · exact (hV.kept hg4 (own_far hV (by omega))).base (by omega)
                        · exact own_far hV (by omega)
                      case measure => simp [intOf]
                    · replace hno := Lib.hid (hno.out (by omega))
                      replace u2' := Lib.hid u2'
                      go_wp2_with fail
                      go_roundw
                      case rel => exact ⟨j - 1, _, by omega, by go_num, hO, hno.out, hb⟩
                      case measure => simp [intOf]
                  | false =>
                    have u2' : ¬ bp + p = sp := by simpa using u2
                    replace hno := Lib.hid (hno.out (by omega))
                    go_wp2_with fail
                    go_roundw
                    case rel => exact ⟨j - 1, _, by omega, by go_num, hO, hno.out, hb⟩
                    case measure => simp [intOf]
          · go_wp2_with fail
            go_roundw
            case rel => exact ⟨j - 1, rb, by omega, by go_num, hO, by rw [hE1.out (by omega)]; exact hR, hb⟩
            case measure => simp [intOf]
    · obtain rfl : k = n + 1 := by omega
      go_wp2_with fail
      go_ret
      exact ⟨w.heap.size, n + 1, rs, rfl, hT, hbo⟩
end Go.Proofs.Ytokoallbhbgkkaa
