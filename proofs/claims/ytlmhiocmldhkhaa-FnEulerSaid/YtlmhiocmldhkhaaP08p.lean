/- Chapter 8, patterns: parts, the program's and the reference's. -/
import Derived.Test.YtlmhiocmldhkhaaP08d
import Derived.Test.YtlmhiocmldhkhaaPartMath
import Derived.Test.YtlmhiocmldhkhaaSmall
namespace Go.Proofs.Ytlmhiocmldhkhaa
open Go.RowKit

/-- Labels, as numbers in a list. -/
def labs (n : Nat) (f : Nat → Nat) : List Int := gen n fun i => ((f i : Nat) : Int)
theorem labs_length (n : Nat) (f : Nat → Nat) : (labs n f).length = n := gen_length _ _
theorem labs_get (n : Nat) (f : Nat → Nat) (i : Nat) (h : i < (labs n f).length) : (labs n f)[i] = ((f i : Nat) : Int) := gen_get _ _ _ _
theorem labs_set (n : Nat) (f : Nat → Nat) (i v : Nat) : (labs n f).set i ((v : Nat) : Int) = labs n (fun j => if j = i then v else f j) := by
  apply List.ext_getElem
  · simp [labs_length]
  · intro j h1 h2
    rw [labs_get, List.getElem_set, labs_get]
    by_cases h : i = j
    · subst h; simp
    · rw [if_neg h, if_neg (fun e => h e.symm)]
theorem labs_succ (k : Nat) : labs (k + 1) id = labs k id ++ [(k : Int)] := by
  simp [labs, gen, List.range_succ]
theorem labs_congr {n : Nat} {f g : Nat → Nat} (h : ∀ i, i < n → f i = g i) : labs n f = labs n g := by
  apply List.ext_getElem
  · simp [labs_length]
  · intro i h1 h2
    rw [labs_get, labs_get, h i (by rw [labs_length] at h1; exact h1)]
/-- All that is equal to one of two numbers becomes the lesser one of both. -/
def joinOne (a b x : Int) : Int := if x = a ∨ x = b then min a b else x
def joinL (L : List Int) (a b : Int) : List Int := L.map (joinOne a b)
theorem joinL_length (L : List Int) (a b : Int) : (joinL L a b).length = L.length := by simp [joinL]
theorem joinL_labs (n : Nat) (f : Nat → Nat) (a b : Nat) : joinL (labs n f) ((f a : Nat) : Int) ((f b : Nat) : Int) = labs n (joinF f a b) := by
  apply List.ext_getElem
  · simp [labs_length, joinL_length]
  · intro i h1 h2
    simp only [joinL, List.getElem_map, labs_get, joinOne, joinF]
    by_cases h : f i = f a ∨ f i = f b
    · rw [if_pos h, if_pos (by omega)]; omega
    · rw [if_neg h, if_neg (by omega)]
set_option maxHeartbeats 800000 in
theorem l08Join_c (B g c n : Nat) (L : List Int) (a b : Int) (w : World) (hO : Own B w 2 (.slice (some ⟨g, 0, none⟩) n c) L) (hn : n = L.length) (hl : n ≤ 4294967296) :
    Calls Try.prog 85 #[.slice (some ⟨g, 0, none⟩) n c, .int .i64 a, .int .i64 b] w fun e w' => e = .returned (.tuple #[]) ∧ Own B w' 2 (.slice (some ⟨g, 0, none⟩) n c) (joinL L a b) ∧ w.grownBy w' (some g) := by
  replace hn := Lib.hid hn
  have hJ := Lib.hid (joinL_length L a b)
  go_enter Try.func85, Try.ntmps85
  go_wp2_with fail
  refine (l00Min_c _ _ _).mono ?_
  rintro e w' ⟨rfl, rfl⟩
  go_wp2_with fail
  go_loopw [7] (fun i wr => ∃ k : Nat, k ≤ n ∧ i = .int .i64 k ∧ Own B wr 2 (.slice (some ⟨g, 0, none⟩) n c) (over (joinL L a b) L k) ∧ w.grownBy wr (some g)) (fun i _ => n - (intOf i).toNat)
  case atStart => exact ⟨0, Nat.zero_le _, rfl, by rw [over_zero]; exact hO, World.grownBy.refl _ _⟩
  case round =>
    clear hO
    obtain ⟨k, hk, rfl, hO, hg⟩ := hrel
    by_cases hlt : k < n
    · have hkL : k < L.length := by rw [← hn.out]; exact hlt
      have hkJ : k < (joinL L a b).length := by rw [hJ.out]; exact hkL
      have hko : k < (over (joinL L a b) L k).length := by rw [over_length _ _ _ hJ.out]; exact hkL
      have c0 := hO.at'.int hko
      have hv : (over (joinL L a b) L k)[k] = L[k] := over_at _ _ _ hJ.out hkL hko
      rw [hv, Nat.zero_add] at c0
      have E := Lib.hid (over_succ (joinL L a b) L k hJ.out hkJ)
      have hov := Lib.hid (over_length (joinL L a b) L k hJ.out)
      have hje : (joinL L a b)[k] = joinOne a b L[k] := by simp [joinL]
      replace hje := Lib.hid hje
      replace hv := Lib.hid hv
      by_cases h1 : L[k] = a ∨ L[k] = b
      · have h2 : joinOne a b L[k] = min a b := if_pos h1
        have hkeep : Hid (∀ w5, Own B w5 2 (.slice (some ⟨g, 0, none⟩) n c) ((over (joinL L a b) L k).set k (min a b)) → Own B w5 2 (.slice (some ⟨g, 0, none⟩) n c) (over (joinL L a b) L (k + 1))) := Lib.hid fun w5 h => by rw [← E.out, hje.out, h2]; exact h
        clear h2
        rcases h1 with h1 | h1
        · have b1 : (L[k] == a) = true := by simpa using h1
          replace h1 := Lib.hid h1
          go_wp2_with (refine wpList_store_own rfl 2 (.tmp 34) (.tmp 33) rfl B 2 _ _ _ (over (joinL L a b) L k) k _ (min a b) rfl (by simp [Flat.k]) rfl (by kernel_rfl) (by rw [hov.out]; exact hn.out) hO hko ?_; intro w5 hO5 hg5)
          go_roundw
          case rel => exact ⟨k + 1, by omega, by go_num, hkeep.out _ hO5, grownBy_trans hg hg5⟩
          case measure => simp [intOf]; omega
        · have b1 : (L[k] == b) = true := by simpa using h1
          replace h1 := Lib.hid h1
          cases b2 : L[k] == a
          · go_wp2_with (refine wpList_store_own rfl 2 (.tmp 34) (.tmp 33) rfl B 2 _ _ _ (over (joinL L a b) L k) k _ (min a b) rfl (by simp [Flat.k]) rfl (by kernel_rfl) (by rw [hov.out]; exact hn.out) hO hko ?_; intro w5 hO5 hg5)
            go_roundw
            case rel => exact ⟨k + 1, by omega, by go_num, hkeep.out _ hO5, grownBy_trans hg hg5⟩
            case measure => simp [intOf]; omega
          · go_wp2_with (refine wpList_store_own rfl 2 (.tmp 34) (.tmp 33) rfl B 2 _ _ _ (over (joinL L a b) L k) k _ (min a b) rfl (by simp [Flat.k]) rfl (by kernel_rfl) (by rw [hov.out]; exact hn.out) hO hko ?_; intro w5 hO5 hg5)
            go_roundw
            case rel => exact ⟨k + 1, by omega, by go_num, hkeep.out _ hO5, grownBy_trans hg hg5⟩
            case measure => simp [intOf]; omega
      · have h2 : joinOne a b L[k] = L[k] := if_neg h1
        have b1 : (L[k] == a) = false := by simp; omega
        have b2 : (L[k] == b) = false := by simp; omega
        have hE : Hid (over (joinL L a b) L (k + 1) = over (joinL L a b) L k) := Lib.hid (by
          rw [← E.out, hje.out, h2, ← hv.out]; exact List.set_getElem_self hko)
        clear h1 h2
        go_wp2_with fail
        go_roundw
        case rel => exact ⟨k + 1, by omega, by go_num, by rw [hE.out]; exact hO, hg⟩
        case measure => simp [intOf]; omega
    · obtain rfl : k = n := by omega
      go_wp2_with fail
      go_end0
      exact ⟨rfl, by rw [over_full _ _ hJ.out (by rw [hn.out]; exact Nat.le_refl _)] at hO; exact hO, hg⟩
/-- Which pieces each seam connects. -/
def SP (p : Pattern) : List (Nat × Nat) := p.seams.map fun s => (s.A.toNat, s.B.toNat)
theorem SP_length (p : Pattern) : (SP p).length = p.seams.length := by simp [SP]
theorem SP_get (p : Pattern) (k : Nat) (h : k < p.seams.length) : (SP p)[k]'(by rw [SP_length]; exact h) = ((p.seams[k]).A.toNat, (p.seams[k]).B.toNat) := by simp [SP]
theorem SP_in {p : Pattern} (ok : Okp p) : ∀ s ∈ SP p, s.1 < p.pieces.length ∧ s.2 < p.pieces.length := by
  intro s hs
  obtain ⟨t, ht, rfl⟩ := List.mem_map.1 hs
  obtain ⟨h1, h2⟩ := ok.seam t ht
  obtain ⟨i, j, e1, hi, _⟩ := hasEdge_get h1
  obtain ⟨i', j', e2, hi', _⟩ := hasEdge_get h2
  have f1 : t.A = i := congrArg Edge.piece e1
  have f2 : t.B = i' := congrArg Edge.piece e2
  simp only
  omega
theorem seam_pieces {p : Pattern} (ok : Okp p) {k : Nat} (h : k < p.seams.length) : ∃ i j : Nat, (p.seams[k]).A = i ∧ (p.seams[k]).B = j ∧ i < p.pieces.length ∧ j < p.pieces.length ∧ (SP p)[k]? = some (i, j) := by
  obtain ⟨h1, h2⟩ := ok.seam _ (List.getElem_mem h)
  obtain ⟨i, j, e1, hi, _⟩ := hasEdge_get h1
  obtain ⟨i', j', e2, hi', _⟩ := hasEdge_get h2
  have f1 : (p.seams[k]).A = i := congrArg Edge.piece e1
  have f2 : (p.seams[k]).B = i' := congrArg Edge.piece e2
  refine ⟨i, i', f1, f2, hi, hi', ?_⟩
  rw [List.getElem?_eq_getElem (by rw [SP_length]; exact h), SP_get p k h, f1, f2]; simp
theorem joinAll_take {S : List (Nat × Nat)} {k : Nat} {s : Nat × Nat} (h : S[k]? = some s) (f : Nat → Nat) : joinAll (S.take (k + 1)) f = joinF (joinAll (S.take k) f) s.1 s.2 := by
  unfold joinAll; rw [List.take_add_one, h]; simp [List.foldl_append]
theorem roundAll_take {S : List (Nat × Nat)} {k : Nat} {s : Nat × Nat} (h : S[k]? = some s) (f : Nat → Nat) : roundAll (S.take (k + 1)) f = stepF (roundAll (S.take k) f) s.1 s.2 := by
  unfold roundAll; rw [List.take_add_one, h]; simp [List.foldl_append]
def partsL (p : Pattern) : List Int := labs p.pieces.length (joinAll (SP p) id)
theorem partsL_length (p : Pattern) : (partsL p).length = p.pieces.length := labs_length _ _
theorem partsL_rounds {p : Pattern} (ok : Okp p) : labs p.pieces.length (rounds (SP p) p.pieces.length) = partsL p := labs_congr (rounds_eq (SP_in ok))
set_option maxRecDepth 100000 in
set_option maxHeartbeats 1600000 in
theorem l08Parts_c (p : Pattern) (b : Nat) (pa : Option Addr) (pc : Nat) (sa : Option Addr) (sc : Nat) (w : World) (hP : PatV w b pa pc sa sc p) (hl : totPattern p ≤ 1048576) (ok : Okp p) :
    Calls Try.prog 54 #[.pointer (some ⟨b, 0, none⟩)] w fun en w' => ∃ v, en = .returned v ∧ Own w.heap.size w' 2 v (partsL p) ∧ Below w.heap.size w w' := by
  have l1 := ok.n10
  have l0 := ok.n1
  have l2 := (tot_okp hl).2
  replace ok := Lib.hid ok
  have HP := Lib.hid hP
  clear hP
  go_enter Try.func54, Try.ntmps54
  go_wp2_with fail
  go_loopw [3, 4] (fun v i wr => ∃ k : Nat, k ≤ p.pieces.length ∧ i = .int .i64 k ∧ Own w.heap.size wr 2 v (labs k id) ∧ Below w.heap.size w wr) (fun _ i _ => p.pieces.length - (intOf i).toNat)
  case atStart => exact ⟨0, Nat.zero_le _, rfl, by simpa [labs, gen] using own_new (α := Int) w 2, new_below _ _⟩
  case round =>
    obtain ⟨k, hk, rfl, hO, hb⟩ := hrel
    obtain ⟨c0, c1, c2, hL⟩ := HP.out.below hb
    clear c1 c2
    have hbs := hb.size
    have hlk := Lib.hid (labs_length k id)
    by_cases hlt : k < p.pieces.length
    · have E := Lib.hid (labs_succ k)
      go_wp2_with (at_builtin; refine wpList_push rfl (.tmp 16) (.tmp 18) 49 rfl w.heap.size 2 (.int .i64 0) 8 Try.underlying49 infoInt rfl _ _ (k : Int) rfl (hO.later (new_below _ _)) _ _ rfl 2 (heap_alloc_new _ _) (by rw [hlk.out]; omega) (by decide) (by simp; omega) ?_; intro v1 w7 hO1 hg1)
      go_roundw
      case rel => exact ⟨k + 1, by omega, by go_num, by rw [E.out]; exact hO1, below_mark (hb.alloc hb.size _) (hO.later (new_below _ _)) (Nat.le_refl _) hg1⟩
      case measure => simp [intOf]; omega
    · obtain rfl : k = p.pieces.length := by omega
      obtain ⟨g, cap, rfl⟩ := hO.row (by rw [hlk.out]; omega)
      rw [hlk.out] at hO ⊢
      go_wp2_with fail
      go_loopw [5] (fun i wr => ∃ m : Nat, m ≤ p.seams.length ∧ i = .int .i64 m ∧ Own w.heap.size wr 2 (.slice (some ⟨g, 0, none⟩) p.pieces.length cap) (labs p.pieces.length (joinAll ((SP p).take m) id)) ∧ Below w.heap.size w wr) (fun i _ => p.seams.length - (intOf i).toNat)
      case atStart => exact ⟨0, Nat.zero_le _, rfl, by simpa [joinAll] using hO, hb⟩
      case round =>
        clear hO hb c0 hL hlk hbs
        obtain ⟨m, hm, rfl, hO, hb⟩ := hrel
        have hP := HP.out.below hb
        obtain ⟨c0, c1, c2, hL⟩ := id hP
        clear c2
        have hlf := Lib.hid (fun f => labs_length p.pieces.length f)
        by_cases hlt2 : m < p.seams.length
        · have hx := hL.seams
          obtain ⟨bb, off, rfl⟩ := hx.addr hlt2
          have hbl := hx.lt hlt2
          obtain ⟨d0, d1, d2, d3⟩ := hx.seam hlt2
          obtain ⟨i, j, eA, eB, hi, hj, hS⟩ := seam_pieces ok.out hlt2
          rw [eA] at d0
          rw [eB] at d2
          have E := Lib.hid (joinAll_take hS id)
          obtain ⟨f, hf⟩ : ∃ f, f = joinAll ((SP p).take m) id := ⟨_, rfl⟩
          rw [← hf] at hO E
          replace hf := Lib.hid hf
          have HS := Lib.hid (And.intro eA (And.intro eB hS))
          clear eA eB hS d1 d3
          have e0 := hO.at'.int (i := i) (by rw [hlf.out]; exact hi)
          have e1 := hO.at'.int (i := j) (by rw [hlf.out]; exact hj)
          rw [labs_get, Nat.zero_add] at e0 e1
          have hJ := Lib.hid (joinL_labs p.pieces.length f i j)
          have HO := Lib.hid hO
          clear hO c0 hL hx
          go_wp2_with fail
          replace c1 := rg c1
          replace d0 := rg d0
          replace d2 := rg d2
          replace e0 := rg e0
          replace e1 := rg e1
          refine wp_region_any (by kernel_rfl) ?_
          refine wpAny_take (i := 0) (v := _) rfl (by kernel_rfl) (by kernel_rfl) (by kernel_rfl) (fun _ _ _ h => h) (Or.inl ⟨by rfl, (by intro w; go_simp; try with_reducible rfl)⟩) ?_
          go_simp
          refine wp_any_tailq_below [1, 2, 3, 4, 5, 6, 7, 8, 9, 10, 11, 12, 13, 14, 15, 16, 17, 18, 19, 20, 21, 22] [23] (by decide +kernel) (by kernel_rfl) (picked_cons rfl (picked_cons rfl (picked_cons rfl (picked_cons rfl (picked_cons rfl (picked_cons rfl (picked_cons rfl (picked_cons rfl (picked_cons rfl (picked_cons rfl (picked_cons rfl (picked_cons rfl (picked_cons rfl (picked_cons rfl (picked_cons rfl (picked_cons rfl (picked_cons rfl (picked_cons rfl (picked_cons rfl (picked_cons rfl (picked_cons rfl (picked_cons rfl picked_nil)))))))))))))))))))))) (picked_cons rfl picked_nil) ?_
          repeat (go_big_quiet_step ((fail)))
          refine wpQuiet_nil ?_
          intro w2 hw'
          replace hb := upw hb (grown_of hw')
          have hw2 := grown_of hw'
          clear hw'
          go_wp2_with (go_at_call 85; refine (l08Join_c w.heap.size g cap p.pieces.length (labs p.pieces.length f) _ _ _ (HO.out.later hw2) (by rw [hlf.out]) (by omega)).mono ?_; rintro e w4 ⟨rfl, hO4, hg4⟩)
          go_roundw
          case rel => exact ⟨m + 1, by omega, by go_num, by rw [E.out, ← hJ.out]; exact hO4, below_mark hb (HO.out.later hw2) (Nat.le_refl _) hg4⟩
          case measure => simp [intOf]; omega
        · obtain rfl : m = p.seams.length := by omega
          have e : (SP p).take p.seams.length = SP p := List.take_of_length_le (by rw [SP_length]; exact Nat.le_refl _)
          rw [e] at hO
          replace e := Lib.hid e
          go_wp2_with fail
          go_ret
          exact ⟨_, rfl, by exact hO, hb⟩
set_option maxRecDepth 100000 in
set_option maxHeartbeats 3200000 in
theorem parts_c (p : Pattern) (pa : Option Addr) (pc : Nat) (sa : Option Addr) (sc : Nat) (w : World) (hp : LieP w pa sa p) (hl : totPattern p ≤ 1048576) (ok : Okp p) :
    Calls Try.prog 50 #[.agg #[.slice pa p.pieces.length pc, .slice sa p.seams.length sc, .int .i64 p.openings]] w fun en w' => ∃ v, en = .returned v ∧ Own w.heap.size w' 2 v (partsL p) ∧ Below w.heap.size w w' := by
  have l1 := ok.n10
  have l0 := ok.n1
  have l2 := (tot_okp hl).2
  obtain ⟨w1, hw1, V, hs1, hb1⟩ := patW_new p pa pc sa sc w
  obtain ⟨w2, hw2⟩ : ∃ w2, w2 = w1.alloc (.cells #[] 2) := ⟨_, rfl⟩
  have hb2 : Below w1.heap.size w1 w2 := by rw [hw2]; exact new_below _ _
  have hO : Own (w.heap.size + 1) w2 2 (.slice (some ⟨w.heap.size + 1, 0, none⟩) 0 0) ([] : List Int) := by
    rw [hw2, ← hs1]; exact own_new (α := Int) w1 2
  have HW := Lib.hid (show (w.alloc (.cells #[.slice pa p.pieces.length pc, .slice sa p.seams.length sc, .int .i64 p.openings] 32)).alloc (.cells #[] 2) = w2 by rw [hw2, hw1])
  replace V := V.below hb2
  have hb : Below w.heap.size w w2 := upw hb1 hb2
  have hz := Lib.hid hs1
  obtain ⟨c0, c1, c2, _⟩ := PatV.of V (hp.below hb)
  clear hw1 hw2 hs1 hb1 hb2
  replace ok := Lib.hid ok
  go_enter Try.func50, Try.ntmps50
  go_wp2_with fail
  rw [HW.out]
  clear c0 c1 c2
  go_loopw [3, 4, 12] (fun v _ i wr => ∃ k : Nat, k ≤ p.pieces.length ∧ i = .int .i64 k ∧ Own (w.heap.size + 1) wr 2 v (labs k id) ∧ Var wr w.heap.size [.slice pa p.pieces.length pc, .slice sa p.seams.length sc, .int .i64 p.openings] ∧ Below w.heap.size w wr) (fun _ _ i _ => p.pieces.length - (intOf i).toNat)
  case atStart => exact ⟨0, Nat.zero_le _, rfl, by simpa [labs, gen] using hO, V, hb⟩
  case round =>
    clear hO V hb
    obtain ⟨k, hk, rfl, hO, V, hb⟩ := hrel
    have hbs := hb.size
    have hlk := Lib.hid (labs_length k id)
    by_cases hlt : k < p.pieces.length
    · have E := Lib.hid (labs_succ k)
      go_wp2_with (at_builtin; refine wpList_push rfl (.tmp 15) (.tmp 17) 49 rfl (w.heap.size + 1) 2 (.int .i64 0) 8 Try.underlying49 infoInt rfl _ _ (k : Int) rfl (hO.later (new_below _ _)) _ _ rfl 2 (heap_alloc_new _ _) (by rw [hlk.out]; omega) (by decide) (by simp; omega) ?_; intro v1 w7 hO1 hg1)
      go_roundw
      case rel => exact ⟨k + 1, by omega, by go_num, by rw [E.out]; exact hO1, (V.below (new_below _ _)).grown hg1 (own_ne hO (Nat.lt_succ_self _)), below_mark (hb.alloc hb.size _) (hO.later (new_below _ _)) (Nat.le_succ _) hg1⟩
      case measure => simp [intOf]; omega
    · obtain rfl : k = p.pieces.length := by omega
      obtain ⟨g, cap, rfl⟩ := hO.row (by rw [hlk.out]; omega)
      have hgB := (hO.lt g rfl).1
      rw [hlk.out] at hO ⊢
      obtain ⟨c0, c1, c2, _⟩ := PatV.of V (hp.below hb)
      clear c1 c2
      go_wp2_with fail
      clear c0
      go_loopw [6, 7, 23] (fun _ _ i wr => ∃ r : Nat, r ≤ p.pieces.length ∧ i = .int .i64 r ∧ Own (w.heap.size + 1) wr 2 (.slice (some ⟨g, 0, none⟩) p.pieces.length cap) (labs p.pieces.length (rounds (SP p) r)) ∧ Var wr w.heap.size [.slice pa p.pieces.length pc, .slice sa p.seams.length sc, .int .i64 p.openings] ∧ Below w.heap.size w wr) (fun _ _ i _ => p.pieces.length - (intOf i).toNat)
      case atStart => exact ⟨0, Nat.zero_le _, rfl, hO, V, hb⟩
      case round =>
        clear hO V hb hbs hlk
        obtain ⟨r, hr, rfl, hO, V, hb⟩ := hrel
        obtain ⟨wo, rfl⟩ : ∃ wo : World, wo = wr := ⟨_, rfl⟩
        have hlf := Lib.hid (fun f => labs_length p.pieces.length f)
        by_cases hlt2 : r < p.pieces.length
        · obtain ⟨c0, c1, c2, _⟩ := PatV.of V (hp.below hb)
          clear c0 c2
          obtain ⟨f, hf⟩ : ∃ f, f = rounds (SP p) r := ⟨_, rfl⟩
          have ER := Lib.hid (show rounds (SP p) (r + 1) = roundAll (SP p) f by rw [hf]; rfl)
          rw [← hf] at hO
          replace hf := Lib.hid hf
          go_wp2_with fail
          clear c1
          go_loopw [6, 7, 28] (fun _ _ i wr => ∃ m : Nat, m ≤ p.seams.length ∧ i = .int .i64 m ∧ Own (w.heap.size + 1) wr 2 (.slice (some ⟨g, 0, none⟩) p.pieces.length cap) (labs p.pieces.length (roundAll ((SP p).take m) f)) ∧ Var wr w.heap.size [.slice pa p.pieces.length pc, .slice sa p.seams.length sc, .int .i64 p.openings] ∧ Below w.heap.size w wr) (fun _ _ i _ => p.seams.length - (intOf i).toNat)
          case atStart => exact ⟨0, Nat.zero_le _, rfl, by simpa [roundAll] using hO, V, hb⟩
          case round =>
            clear hO V hb
            obtain ⟨m, hm, rfl, hO, V, hb⟩ := hrel
            by_cases hlt3 : m < p.seams.length
            · have hx := (hp.below hb).seams
              obtain ⟨bb, off, rfl⟩ := hx.addr hlt3
              have hbl := hx.lt hlt3
              obtain ⟨d0, d1, d2, d3⟩ := hx.seam hlt3
              obtain ⟨i, j, eA, eB, hi, hj, hS⟩ := seam_pieces ok.out hlt3
              have E := Lib.hid (roundAll_take hS f)
              obtain ⟨h, hh⟩ : ∃ h, h = roundAll ((SP p).take m) f := ⟨_, rfl⟩
              rw [← hh] at hO E
              replace hh := Lib.hid hh
              rw [eA] at d0
              rw [eB] at d2
              obtain ⟨sA, hsA⟩ : ∃ x, x = (p.seams[m]).EdgeA := ⟨_, rfl⟩
              obtain ⟨sB, hsB⟩ : ∃ x, x = (p.seams[m]).EdgeB := ⟨_, rfl⟩
              rw [← hsA] at d1
              rw [← hsB] at d3
              have HS := Lib.hid (And.intro eA (And.intro eB (And.intro hS (And.intro hsA hsB))))
              clear eA eB hS hsA hsB
              have hb3 := new_below wr (.cells #[.int .i64 (i : Int), .int .i64 sA, .int .i64 (j : Int), .int .i64 sB] 36)
              obtain ⟨w3, hw3⟩ : ∃ w3, w3 = wr.alloc (.cells #[.int .i64 (i : Int), .int .i64 sA, .int .i64 (j : Int), .int .i64 sB] 36) := ⟨_, rfl⟩
              have VS : Var w3 wr.heap.size [.int .i64 (i : Int), .int .i64 sA, .int .i64 (j : Int), .int .i64 sB] := by rw [hw3]; exact Var.new4 _ _ _ _ _ _
              rw [← hw3] at hb3
              have hgl := (hO.lt g rfl).2
              replace hO := hO.later hb3
              replace V := V.below hb3
              have hzr := hb.size
              replace hb := upw hb hb3
              replace hw3 := Lib.hid hw3
              have e0 := hO.at'.int (i := i) (by rw [hlf.out]; exact hi)
              have e1 := hO.at'.int (i := j) (by rw [hlf.out]; exact hj)
              rw [labs_get, Nat.zero_add] at e0 e1
              have s0 := VS.cell 0 _ rfl
              have s2 := VS.cell 2 _ rfl
              replace e0 := rg e0
              replace e1 := rg e1
              replace s0 := rg s0
              replace s2 := rg s2
              have HO := Lib.hid hO
              clear hO hx
              go_wp2_with fail
              rw [← hw3.out]
              refine wp_region_quiet_below (by kernel_rfl) (by kernel_rfl) ?_
              repeat (go_big_quiet_step ((fail)))
              refine wpQuiet_nil ?_
              intro w2 hw'
              replace hb := upw hb (grown_of hw')
              have hw2 := grown_of hw'
              clear hw'
              have hO := HO.out.later hw2
              replace V := V.below hw2
              replace VS := VS.below hw2
              clear e0 e1 s0 s2 hw2
              have s0 := VS.cell 0 _ rfl
              have s2 := VS.cell 2 _ rfl
              have hmin : (if h j < h i then ((h j : Nat) : Int) else ((h i : Nat) : Int)) = ((min (h i) (h j) : Nat) : Int) := by split <;> omega
              rw [hmin]
              clear hmin
              have hset1 := Lib.hid (labs_set p.pieces.length h i (min (h i) (h j)))
              have hset2 := Lib.hid (labs_set p.pieces.length (fun x => if x = i then min (h i) (h j) else h x) j (min (h i) (h j)))
              obtain ⟨hO5, hg5⟩ := hO.setInt i ((min (h i) (h j) : Nat) : Int)
              rw [hset1.out] at hO5
              obtain ⟨hO6, hg6⟩ := hO5.setInt j ((min (h i) (h j) : Nat) : Int)
              rw [hset2.out] at hO6
              have e0 := hO.at'.int (i := i) (by rw [hlf.out]; exact hi)
              have e1 := hO5.at'.int (i := j) (by rw [hlf.out]; exact hj)
              rw [labs_get, Nat.zero_add] at e0 e1
              have f0 := hO.frz i
              have f1 := hO5.frz j
              have ne0 : g ≠ wr.heap.size := by omega
              go_wp2_with fail
              refine wp_region_held_drew (S := (fun w' => w'.cell? ⟨wr.heap.size, 0, none⟩ = some (.int .i64 (i:Int)) ∧ w'.cell? ⟨wr.heap.size, 2, none⟩ = some (.int .i64 (j:Int)))) (by kernel_rfl) ⟨s0, s2⟩ (fun hHeld => ?_)
              refine wpAnyH_take (i := 0) (v := _) rfl (by kernel_rfl) (by kernel_rfl) (by kernel_rfl) (fun _ _ _ h => h) (Or.inl ⟨by rfl, (by intro w hSw; (try dsimp only at hSw); go_simp; try with_reducible rfl)⟩) (by assumption) ?_
              go_simp
              refine wpAnyH_take (i := 1) (v := _) rfl (by kernel_rfl) (by kernel_rfl) (by kernel_rfl) (fun _ _ _ h => h) (Or.inl ⟨by rfl, (by intro w hSw; (try dsimp only at hSw); go_simp; try with_reducible rfl)⟩) (by assumption) ?_
              go_simp
              refine wpAnyH_take (i := 2) (v := _) rfl (by kernel_rfl) (by kernel_rfl) (by kernel_rfl) (fun _ _ _ h => h) (Or.inl ⟨by rfl, (by intro w hSw; (try dsimp only at hSw); go_simp; try with_reducible rfl)⟩) (by assumption) ?_
              go_simp
              refine wpAnyH_take (i := 3) (v := _) rfl (by kernel_rfl) (by kernel_rfl) (by kernel_rfl) (fun _ _ _ h => h) (Or.inl ⟨by rfl, (by intro w hSw; (try dsimp only at hSw); go_simp; try with_reducible rfl)⟩) (by assumption) ?_
              go_simp
              refine wpAnyH_take (i := 4) (v := _) rfl (by kernel_rfl) (by kernel_rfl) (by kernel_rfl) (fun _ _ _ h => h) (Or.inl ⟨by rfl, (by intro w hSw; (try dsimp only at hSw); go_simp; try with_reducible rfl)⟩) (by assumption) ?_
              go_simp
              refine wpAnyH_take (i := 5) (v := _) rfl (by kernel_rfl) (by kernel_rfl) (by kernel_rfl) (fun _ _ _ h => h) (Or.inl ⟨by rfl, (by intro w hSw; (try dsimp only at hSw); go_simp; try with_reducible rfl)⟩) (by assumption) ?_
              go_simp
              refine wpAnyH_take (i := 6) (v := _) rfl (by kernel_rfl) (by kernel_rfl) (by kernel_rfl) (fun _ _ _ h => h) (Or.inl ⟨by rfl, (by intro w hSw; (try dsimp only at hSw); go_simp; try with_reducible rfl)⟩) (by assumption) ?_
              go_simp
              refine wpAnyH_take (i := 7) (v := _) rfl (by kernel_rfl) (by kernel_rfl) (by kernel_rfl) (fun _ _ _ h => h) (Or.inl ⟨by rfl, (by intro w hSw; (try dsimp only at hSw); go_simp; try with_reducible rfl)⟩) (by assumption) ?_
              go_simp
              refine wpAnyH_take (i := 8) (v := _) rfl (by kernel_rfl) (by kernel_rfl) (by kernel_rfl) (fun _ _ _ h => h) (Or.inl ⟨by rfl, (by intro w hSw; (try dsimp only at hSw); go_simp; try with_reducible rfl)⟩) (by assumption) ?_
              go_simp
              refine wpAnyH_ready (rs := [9]) (by kernel_rfl) (by simp) ?_
              refine AllReadyH.cons rfl (fun K hK => ?_) AllReadyH.nil
              go_simp
              refine hK.out _ _ ⟨(by go_simp), (by go_simp)⟩ (fun hHeld => ?_)
              clear hK K
              go_simp
              refine wpAnyH_take (i := 10) (v := _) rfl (by kernel_rfl) (by kernel_rfl) (by kernel_rfl) (fun _ _ _ h => h) (Or.inl ⟨by rfl, (by intro w hSw; (try dsimp only at hSw); go_simp; try with_reducible rfl)⟩) (by assumption) ?_
              go_simp
              refine wpAnyH_ready (rs := [11]) (by kernel_rfl) (by simp) ?_
              refine AllReadyH.cons rfl (fun K hK => ?_) AllReadyH.nil
              go_simp
              refine hK.out _ _ ⟨(by go_simp), (by go_simp)⟩ (fun hHeld => ?_)
              clear hK K
              go_simp
              refine wpAnyH_done (by kernel_rfl) ?_ _
              go_wp2_with fail
              go_roundw
              case rel =>
                have hst : stepF h i j = fun x => if x = j then min (h i) (h j) else (fun x => if x = i then min (h i) (h j) else h x) x := by
                  funext x
                  unfold stepF
                  by_cases h1 : x = i <;> by_cases h2 : x = j <;> simp [h1, h2]
                refine ⟨m + 1, by omega, by go_num, ?_, ?_, ?_⟩
                · rw [E.out]; show Own _ _ _ _ (labs p.pieces.length (stepF h i j)); rw [hst]; exact hO6.later (Below.refl _ _).drew
                · exact ((V.grown hg5 (some_ne (by omega))).grown hg6 (some_ne (by omega))).below (Below.refl _ _).drew
                · exact (below_mark (below_mark hb hO (Nat.le_succ _) hg5) hO5 (Nat.le_succ _) hg6).drew
              case measure => simp [intOf]; omega
            · obtain rfl : m = p.seams.length := by omega
              have e : (SP p).take p.seams.length = SP p := List.take_of_length_le (by rw [SP_length]; exact Nat.le_refl _)
              rw [e, ← ER.out] at hO
              replace e := Lib.hid e
              go_wp2_with fail
              go_roundw
              case rel => exact ⟨r + 1, by omega, by go_num, hO, V, hb⟩
              case measure => simp [intOf]; omega
        · obtain rfl : r = p.pieces.length := by omega
          have e := Lib.hid (partsL_rounds ok.out)
          go_wp2_with fail
          go_ret
          exact ⟨_, rfl, by rw [← e.out]; exact hO.base (Nat.le_succ w.heap.size), hb⟩
def paOf (p : Pattern) : List Int := if okPattern p then partsL p else []
def paCode (p : Pattern) : Int := if okPattern p then 0 else 1
theorem PartsOf_len (p : Pattern) : (paOf p).length ≤ totPattern p := by
  unfold paOf; split
  · rw [partsL_length]; unfold totPattern totPieces; omega
  · simp
set_option maxHeartbeats 800000 in
theorem implPartsOf_c (p : Pattern) (pa : Option Addr) (pc : Nat) (sa : Option Addr) (sc : Nat) (w : World) (hp : LieP w pa sa p) (hl : totPattern p ≤ 1048576) :
    Calls Try.prog 24 #[.agg #[.slice pa p.pieces.length pc, .slice sa p.seams.length sc, .int .i64 p.openings]] w fun en w' => ∃ v, en = .returned (.tuple #[v, .int .i64 (paCode p)]) ∧ Own w.heap.size w' 2 v (paOf p) ∧ Below w.heap.size w w' := by
  obtain ⟨w1, hw1, V, hs1, hb⟩ := patW_new p pa pc sa sc w
  obtain ⟨c0, c1, c2, _⟩ := PatV.of V (hp.below hb)
  replace hw1 := Lib.hid hw1
  replace hs1 := Lib.hid hs1
  cases h1 : okPattern p
  · have hr : paCode p = 1 := by simp [paCode, h1]
    have hr' : paOf p = [] := by simp [paOf, h1]
    rw [hr, hr']
    clear hr hr'
    go_enter Try.func24, Try.ntmps24
    go_wp2_with fail
    rw [hw1.out]
    refine (as_boolB h1 (implValidPattern_c p _ _ _ _ _ (hp.below hb) hl)).mono ?_
    rintro e w2 ⟨rfl, hb2⟩
    replace hb := upw hb hb2
    go_wp2_with fail
    go_ret2
    exact ⟨_, rfl, World.ownsRow_nil _ _ _ _, hb⟩
  · have hr : paCode p = 0 := by simp [paCode, h1]
    have hr' : paOf p = partsL p := by simp [paOf, h1]
    rw [hr, hr']
    clear hr hr'
    have ok := Lib.hid (okp_of h1)
    go_enter Try.func24, Try.ntmps24
    go_wp2_with fail
    rw [hw1.out]
    refine (as_boolB h1 (implValidPattern_c p _ _ _ _ _ (hp.below hb) hl)).mono ?_
    rintro e w2 ⟨rfl, hb2⟩
    replace hb := upw hb hb2
    clear c0 c1 c2
    obtain ⟨c0, c1, c2, _⟩ := PatV.of (V.below hb2) (hp.below hb)
    have hbs := hb.size
    go_wp2_with fail
    refine (parts_c p _ _ _ _ _ (hp.below hb) hl ok.out).mono ?_
    rintro e w3 ⟨v, rfl, hO, hb3⟩
    replace hb := upw hb hb3
    go_wp2_with fail
    go_ret2
    exact ⟨_, rfl, hO.base hbs, hb⟩
set_option maxHeartbeats 800000 in
theorem specPartsOf_c (p : Pattern) (pa : Option Addr) (pc : Nat) (sa : Option Addr) (sc : Nat) (w : World) (hp : LieP w pa sa p) (hl : totPattern p ≤ 1048576) :
    Calls Try.prog 20 #[.agg #[.slice pa p.pieces.length pc, .slice sa p.seams.length sc, .int .i64 p.openings]] w fun en w' => ∃ v, en = .returned (.tuple #[v, .int .i64 (paCode p)]) ∧ Own w.heap.size w' 2 v (paOf p) ∧ Below w.heap.size w w' := by
  obtain ⟨w1, hw1, V, hs1, hb⟩ := patW_new p pa pc sa sc w
  obtain ⟨c0, c1, c2, _⟩ := PatV.of V (hp.below hb)
  replace hw1 := Lib.hid hw1
  replace hs1 := Lib.hid hs1
  cases h1 : okPattern p
  · have hr : paCode p = 1 := by simp [paCode, h1]
    have hr' : paOf p = [] := by simp [paOf, h1]
    rw [hr, hr']
    clear hr hr'
    go_enter Try.func20, Try.ntmps20
    go_wp2_with fail
    rw [hw1.out]
    refine (as_boolB h1 (l08Ok_c p _ _ _ _ _ _ (PatV.of V (hp.below hb)) hl)).mono ?_
    rintro e w2 ⟨rfl, hb2⟩
    replace hb := upw hb hb2
    go_wp2_with fail
    go_ret2
    exact ⟨_, rfl, World.ownsRow_nil _ _ _ _, hb⟩
  · have hr : paCode p = 0 := by simp [paCode, h1]
    have hr' : paOf p = partsL p := by simp [paOf, h1]
    rw [hr, hr']
    clear hr hr'
    have ok := Lib.hid (okp_of h1)
    go_enter Try.func20, Try.ntmps20
    go_wp2_with fail
    rw [hw1.out]
    refine (as_boolB h1 (l08Ok_c p _ _ _ _ _ _ (PatV.of V (hp.below hb)) hl)).mono ?_
    rintro e w2 ⟨rfl, hb2⟩
    replace hb := upw hb hb2
    have V2 := V.below hb2
    have hbs := hb.size
    go_wp2_with fail
    refine (l08Parts_c p _ _ _ _ _ _ (PatV.of V2 (hp.below hb)) hl ok.out).mono ?_
    rintro e w3 ⟨v, rfl, hO, hb3⟩
    replace hb := upw hb hb3
    go_wp2_with fail
    go_ret2
    exact ⟨_, rfl, hO.base hbs, hb⟩
end Go.Proofs.Ytlmhiocmldhkhaa
