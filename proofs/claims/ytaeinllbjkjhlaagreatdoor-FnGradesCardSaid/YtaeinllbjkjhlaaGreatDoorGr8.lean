/- Chapter 5, gradings: grades read back from texts; two lists of lasts that are the same. (Printed by wip/genGr8.py.) -/
import Derived.Test.YtaeinllbjkjhlaaGreatDoorGr7
namespace Go.Proofs.YtaeinllbjkjhlaaGreatDoor
open Go.RowKit

def ofNums (ns : List Int) : Grade := ⟨ns.getD 0 0, ns.getD 1 0, ns.getD 2 0, ns.getD 3 0, ns.getD 4 0⟩
theorem ofNums_nums : ∀ {ns : List Int}, ns.length = 5 → gNums (ofNums ns) = ns
  | [_, _, _, _, _], _ => rfl
def readG (s : ByteArray) : Option Grade := match numsN 47 5 s with
  | none => none
  | some ns => if okGrade (ofNums ns) then some (ofNums ns) else none
theorem readG_none {s : ByteArray} (h : numsN 47 5 s = none) : readG s = none := by unfold readG; rw [h]
theorem readG_bad {s : ByteArray} {ns : List Int} (h : numsN 47 5 s = some ns) (h2 : okGrade (ofNums ns) = false) : readG s = none := by unfold readG; rw [h]; simp [h2]
theorem readG_ok {s : ByteArray} {ns : List Int} (h : numsN 47 5 s = some ns) (h2 : okGrade (ofNums ns) = true) : readG s = some (ofNums ns) := by unfold readG; rw [h]; simp [h2]
theorem gTxt_pos (g : Grade) : (gTxt g).toList ≠ [] := by
  intro e
  have h5 : 4 < (gNums g).length := Nat.lt_succ_self 4
  have h1 : gTxt g = txtTo g 4 ++ ⟨#[47]⟩ ++ decT (gNums g)[4] := txt_succ h5 (by omega)
  have h2 : (gTxt g).toList.length = (gTxt g).size := toList_len _
  rw [e, h1, size_app, size_app] at h2
  have e1 : (⟨#[47]⟩ : ByteArray).size = 1 := rfl
  simp only [List.length_nil] at h2
  omega
theorem sep47 : isSep 47 := by unfold isSep; decide
/-- A grade that is written is read back. -/
theorem read_grade {g : Grade} (h : okGrade g = true) : readG (gText g) = some g := by
  rw [gText_ok h]
  have hn : numsN 47 5 (gTxt g) = some (gNums g) := numsN_nums sep47 (xs := gNums g) (by simp [gNums]) (fun x hx => by have := gNums_in h x hx; omega)
  have e : ofNums (gNums g) = g := rfl
  rw [readG_ok hn (by rw [e]; exact h), e]
theorem read_empty : readG ⟨#[]⟩ = none := readG_none (numsN_empty (by decide))
set_option maxHeartbeats 1600000 in
theorem implReadGrade_c (s : ByteArray) (w : World) (hT : TabR w) (hs : s.size ≤ 1048576) :
    Calls Tryz.prog 30 #[.string s] w fun e w' => e = .returned (.tuple #[.agg #[.int .i64 ((readG s).getD gradeZ).Length, .int .i64 ((readG s).getD gradeZ).Ball, .int .i64 ((readG s).getD gradeZ).Instep, .int .i64 ((readG s).getD gradeZ).Heel, .int .i64 ((readG s).getD gradeZ).Pitch], .bool (readG s).isSome]) ∧ Below w.heap.size w w' := by
  obtain ⟨w1, hw1⟩ : ∃ w1, w1 = w.alloc (.cells #[.int .i64 0, .int .i64 0, .int .i64 0, .int .i64 0, .int .i64 0] 42) := ⟨_, rfl⟩
  have D : Sp w w1 [ite' 42 (.slice (some ⟨w.heap.size, 0, none⟩) 1 1) [gradeZ]] := by rw [hw1]; exact (Sp.refl w).add (newB w _) (own_grade1 w _ gradeZ)
  replace hw1 := Lib.hid hw1
  replace D := Lib.hid D
  have hT0 := Lib.hid hT
  have k1 := Lib.hid (fun w' hT' => readNumbers_c s 47 5 w' hT' hs (by omega))
  cases hN : numsN 47 5 s with
  | none =>
    rw [readG_none hN]
    rw [hN] at k1
    simp only [Option.isSome_none, Option.getD_none] at k1 ⊢
    clear hT hs hN
    go_enter Tryz.func30, Tryz.ntmps30
    go_wp2_with (rw [← hw1.out])
    refine (k1.out _ (hT0.out.below D.out.up)).mono ?_
    rintro e w2 ⟨v, rfl, hO, hb⟩
    obtain ⟨a1, c1, rfl, -⟩ := hO.at
    replace D := Lib.hid (D.out.add hb hO)
    clear hb hO
    clear k1 hw1
    go_wp2_with ((with_reducible refine at_st 42 (.tmp 2) (.tmp 20) ?_); refine wpList_store_own rfl 42 (.tmp 2) (.tmp 20) rfl w.heap.size 42 _ 1 1 [gradeZ] 0 _ (gradeZ : Grade) rfl rfl rfl (by kernel_rfl) rfl (D.out.get 1 rfl) (by simp) ?_; intro wz hRz hgz)
    have Dz := D.out.set 1 rfl hRz hgz (Or.inl rfl)
    obtain ⟨q0, q1, q2, q3, q4⟩ := grade1_cells hRz
    refine bodyPost_ret (v := .tuple #[.agg #[.int .i64 (gradeZ : Grade).Length, .int .i64 (gradeZ : Grade).Ball, .int .i64 (gradeZ : Grade).Instep, .int .i64 (gradeZ : Grade).Heel, .int .i64 (gradeZ : Grade).Pitch], .bool false]) (by simp [results, Tryz.results30, go_sem, q0, q1, q2, q3, q4]) rfl ?_
    exact ⟨rfl, Dz.up⟩
  | some ns =>
    obtain ⟨h1, h2, -⟩ := numsN_some hN
    have hG := ofNums_nums h2
    obtain ⟨g, hg⟩ : ∃ g, g = ofNums ns := ⟨_, rfl⟩
    rw [← hg] at hG
    subst hG
    have hsg : s = gTxt g := h1
    have k2 := Lib.hid (fun w' hT' => implGradeText_c g w' hT')
    rw [hN] at k1
    simp only [Option.isSome_some, Option.getD_some] at k1
    cases hok : okGrade g
    · rw [readG_bad hN (by rw [← hg]; exact hok)]
      rw [gText_bad hok] at k2
      have hne := gTxt_pos g
      rw [← hsg] at hne
      have hne1 : (({ data := #[] } : ByteArray).toList == s.toList) = false := by
        rw [beq_eq_false_iff_ne]
        intro e
        exact hne (by rw [← e]; simp)
      have hne2 : ([] == s.toList) = false := by rw [beq_eq_false_iff_ne]; exact fun e => hne e.symm
      have hne3 : s.toList.isEmpty = false := by simpa using hne
      have hne4 : ¬ [] = s.toList := fun e => hne e.symm
      simp only [Option.isSome_none, Option.getD_none]
      clear hT hs hN h1 h2 hg hsg hok
      go_enter Tryz.func30, Tryz.ntmps30
      go_wp2_with (rw [← hw1.out])
      refine (k1.out _ (hT0.out.below D.out.up)).mono ?_
      rintro e w2 ⟨v, rfl, hO, hb⟩
      obtain ⟨a1, c1, rfl, -⟩ := hO.at
      replace D := Lib.hid (D.out.add hb hO)
      clear hb hO
      clear k1 hw1
      go_wp2_with fail
      refine (gradeOf_c a1 g 5 c1 _ (D.out.get 0 rfl : Own _ _ _ _ (gNums g)).at' rfl).mono ?_
      rintro e w2 ⟨rfl, hb⟩
      replace D := Lib.hid (D.out.later hb)
      clear hb
      go_wp2_with fail
      refine (k2.out _ (hT0.out.below D.out.up).tab).mono ?_
      rintro e w2 ⟨rfl, hb⟩
      replace D := Lib.hid (D.out.later hb)
      clear hb
      go_wp2_with ((with_reducible refine at_st 42 (.tmp 2) (.tmp 20) ?_); refine wpList_store_own rfl 42 (.tmp 2) (.tmp 20) rfl w.heap.size 42 _ 1 1 [gradeZ] 0 _ (gradeZ : Grade) rfl rfl rfl (by kernel_rfl) rfl (D.out.get 1 rfl) (by simp) ?_; intro wz hRz hgz)
      have Dz := D.out.set 1 rfl hRz hgz (Or.inl rfl)
      obtain ⟨q0, q1, q2, q3, q4⟩ := grade1_cells hRz
      refine bodyPost_ret (v := .tuple #[.agg #[.int .i64 (gradeZ : Grade).Length, .int .i64 (gradeZ : Grade).Ball, .int .i64 (gradeZ : Grade).Instep, .int .i64 (gradeZ : Grade).Heel, .int .i64 (gradeZ : Grade).Pitch], .bool false]) (by simp [results, Tryz.results30, go_sem, q0, q1, q2, q3, q4]) rfl ?_
      exact ⟨rfl, Dz.up⟩
    · rw [readG_ok hN (by rw [← hg]; exact hok), ← hg]
      rw [gText_ok hok, ← hsg] at k2
      have hSS : (s.toList == s.toList) = true := by simp
      simp only [Option.isSome_some, Option.getD_some]
      clear hT hs hN h1 h2 hg hsg hok
      go_enter Tryz.func30, Tryz.ntmps30
      go_wp2_with (rw [← hw1.out])
      refine (k1.out _ (hT0.out.below D.out.up)).mono ?_
      rintro e w2 ⟨v, rfl, hO, hb⟩
      obtain ⟨a1, c1, rfl, -⟩ := hO.at
      replace D := Lib.hid (D.out.add hb hO)
      clear hb hO
      clear k1 hw1
      go_wp2_with fail
      refine (gradeOf_c a1 g 5 c1 _ (D.out.get 0 rfl : Own _ _ _ _ (gNums g)).at' rfl).mono ?_
      rintro e w2 ⟨rfl, hb⟩
      replace D := Lib.hid (D.out.later hb)
      clear hb
      go_wp2_with fail
      refine (k2.out _ (hT0.out.below D.out.up).tab).mono ?_
      rintro e w2 ⟨rfl, hb⟩
      replace D := Lib.hid (D.out.later hb)
      clear hb
      go_wp2_with fail
      refine (gradeOf_c a1 g 5 c1 _ (D.out.get 0 rfl : Own _ _ _ _ (gNums g)).at' rfl).mono ?_
      rintro e w2 ⟨rfl, hb⟩
      replace D := Lib.hid (D.out.later hb)
      clear hb
      go_wp2_with ((with_reducible refine at_st 42 (.tmp 2) (.tmp 22) ?_); refine wpList_store_own rfl 42 (.tmp 2) (.tmp 22) rfl w.heap.size 42 _ 1 1 [gradeZ] 0 _ (g : Grade) rfl rfl rfl (by kernel_rfl) rfl (D.out.get 1 rfl) (by simp) ?_; intro wz hRz hgz)
      have Dz := D.out.set 1 rfl hRz hgz (Or.inl rfl)
      obtain ⟨q0, q1, q2, q3, q4⟩ := grade1_cells hRz
      refine bodyPost_ret (v := .tuple #[.agg #[.int .i64 (g : Grade).Length, .int .i64 (g : Grade).Ball, .int .i64 (g : Grade).Instep, .int .i64 (g : Grade).Heel, .int .i64 (g : Grade).Pitch], .bool true]) (by simp [results, Tryz.results30, go_sem, q0, q1, q2, q3, q4]) rfl ?_
      exact ⟨rfl, Dz.up⟩
theorem five_cells {B : Nat} {w : World} {e : TypeId} {b n c : Nat} {g : Grade} (h : Own B w e (.slice (some ⟨b, 0, none⟩) n c) (gNums g)) : w.cell? ⟨b, 0, none⟩ = some (.int .i64 g.Length) ∧ w.cell? ⟨b, 1, none⟩ = some (.int .i64 g.Ball) ∧ w.cell? ⟨b, 2, none⟩ = some (.int .i64 g.Instep) ∧ w.cell? ⟨b, 3, none⟩ = some (.int .i64 g.Heel) ∧ w.cell? ⟨b, 4, none⟩ = some (.int .i64 g.Pitch) := by
  have hA := h.at'
  have l5 : (gNums g).length = 5 := rfl
  have d0 := hA.int (i := 0) (by rw [l5]; omega)
  have d1 := hA.int (i := 1) (by rw [l5]; omega)
  have d2 := hA.int (i := 2) (by rw [l5]; omega)
  have d3 := hA.int (i := 3) (by rw [l5]; omega)
  have d4 := hA.int (i := 4) (by rw [l5]; omega)
  simp only [Nat.zero_add] at d0 d1 d2 d3 d4
  exact ⟨d0, d1, d2, d3, d4⟩
set_option maxRecDepth 100000 in
set_option maxHeartbeats 3200000 in
theorem specReadGrade_c (s : ByteArray) (w : World) (hs : s.size ≤ 1048576) :
    Calls Tryz.prog 32 #[.string s] w fun e w' => e = .returned (.tuple #[.agg #[.int .i64 ((readG s).getD gradeZ).Length, .int .i64 ((readG s).getD gradeZ).Ball, .int .i64 ((readG s).getD gradeZ).Instep, .int .i64 ((readG s).getD gradeZ).Heel, .int .i64 ((readG s).getD gradeZ).Pitch], .bool (readG s).isSome]) ∧ Below w.heap.size w w' := by
  obtain ⟨w1, hw1⟩ : ∃ w1, w1 = w.alloc (.cells #[.int .i64 0, .int .i64 0, .int .i64 0, .int .i64 0, .int .i64 0] 42) := ⟨_, rfl⟩
  have D : Sp w w1 [ite' 42 (.slice (some ⟨w.heap.size, 0, none⟩) 1 1) [gradeZ]] := by rw [hw1]; exact (Sp.refl w).add (newB w _) (own_grade1 w _ gradeZ)
  replace hw1 := Lib.hid hw1
  replace D := Lib.hid D
  have k1 := Lib.hid (fun w' => l01Split_c s 47 w' hs)
  have hbad := Lib.hid (fun k => @numsN_bad 47 5 s k)
  have hgood := Lib.hid (@numsN_good 47 5 s)
  have hlen := Lib.hid (@numsN_len 47 5 s)
  have hsm := Lib.hid (parts_small (c := 47) (s := s))
  have hno := Lib.hid (@readG_none s)
  have hb5 := Lib.hid (fun ns => @readG_bad s ns)
  have hg5 := Lib.hid (fun ns => @readG_ok s ns)
  generalize parts 47 s = ps at *
  obtain ⟨R, hR⟩ : ∃ R, R = readG s := ⟨_, rfl⟩
  rw [← hR]
  rw [← hR] at hno
  simp only [← hR] at hb5 hg5
  clear hR
  obtain ⟨G, hG0⟩ : ∃ G, G = R.getD gradeZ := ⟨_, rfl⟩
  obtain ⟨Z, hZ0⟩ : ∃ Z, Z = R.isSome := ⟨_, rfl⟩
  rw [← hG0, ← hZ0]
  have fR := Lib.hid (fun o (h : R = o) => (⟨by rw [hG0, h], by rw [hZ0, h]⟩ : G = o.getD gradeZ ∧ Z = o.isSome))
  clear hG0 hZ0
  go_enter Tryz.func32, Tryz.ntmps32
  go_wp2_with (rw [← hw1.out])
  refine (k1.out _).mono ?_
  rintro e w2 ⟨v, rfl, hO, hb⟩
  obtain ⟨a1, c1, rfl, -⟩ := hO.at
  replace D := Lib.hid (D.out.add hb hO)
  clear hb hO k1 hw1
  by_cases hl : ps.length = 5
  · have hlI : ((ps.length : Int) != 5) = false := by simp [hl]
    replace hl := Lib.hid hl
    have hb := newB w2 (.cells #[] 2)
    replace D := Lib.hid (D.out.add hb (own_new (α := Int) w2 2))
    clear hb
    go_wp2_with fail
    go_loopw [5, 6, 7, 8] (fun u5 u6 _ _ wr => ∃ (k : Nat) (v : Value), k ≤ 5 ∧ u5 = v ∧ u6 = .int .i64 k ∧ Hid (allNums (ps.take k) = true) ∧ Hid (Sp w wr [ite' 2 v ((ps.take k).map rd), ite' 9 (.slice a1 ps.length c1) ps, ite' 42 (.slice (some ⟨w.heap.size, 0, none⟩) 1 1) [gradeZ]])) (fun _ u6 _ _ _ => 5 - (intOf u6).toNat)
    case atStart => exact ⟨0, _, Nat.zero_le _, rfl, rfl, Lib.hid rfl, D⟩
    case round =>
      clear D
      obtain ⟨k, v, hk, hu, rfl, hall, D⟩ := hrel
      have hu2 := hu.symm
      subst hu2
      obtain ⟨wa, hwa⟩ : ∃ wo : World, wo = wr := ⟨_, rfl⟩
      subst hwa
      by_cases hlt : k < 5
      · have hlt' : k < ps.length := by rw [hl.out]; exact hlt
        have hltI : (k : Int) < ps.length := by omega
        have hltJ : (k : Int) < 5 := by omega
        obtain ⟨pb, po, hpa⟩ := (D.out.get 1 rfl : Own _ _ _ _ ps).at'.addr hlt'
        obtain rfl := hpa
        have c0 := (D.out.get 1 rfl : Own _ _ _ _ ps).at'.str hlt'
        have hps := Nat.le_trans (hsm.out _ (List.getElem_mem hlt')) hs
        have hD := l01Number_c ps[k] wa hps
        cases hr : rdB ps[k] with
        | none =>
          obtain ⟨hG1, hZ1⟩ := fR.out none (hno.out (hbad.out k hlt' hr))
          simp only [Option.getD_none, Option.isSome_none] at hG1 hZ1
          subst hG1
          subst hZ1
          rw [numRes_none hr] at hD
          replace hD := Lib.hid hD
          generalize ps[k] = p at *
          clear hbad hgood hlen hsm hno hb5 hg5 hr hall hps
          go_wp2_with fail
          refine hD.out.mono ?_
          rintro e w3 ⟨rfl, hb⟩
          replace D := Lib.hid (D.out.later hb)
          clear hb
          go_wp2_with ((with_reducible refine at_st 42 (.tmp 2) (.tmp 31) ?_); refine wpList_store_own rfl 42 (.tmp 2) (.tmp 31) rfl w.heap.size 42 _ 1 1 [gradeZ] 0 _ (gradeZ : Grade) rfl rfl rfl (by kernel_rfl) rfl (D.out.get 2 rfl) (by simp) ?_; intro wz hRz hgz)
          have Dz := D.out.set 2 rfl hRz hgz (Or.inl rfl)
          obtain ⟨q0, q1, q2, q3, q4⟩ := grade1_cells hRz
          refine bodyPost_ret (v := .tuple #[.agg #[.int .i64 (gradeZ : Grade).Length, .int .i64 (gradeZ : Grade).Ball, .int .i64 (gradeZ : Grade).Instep, .int .i64 (gradeZ : Grade).Heel, .int .i64 (gradeZ : Grade).Pitch], .bool false]) (by simp [results, Tryz.results32, go_sem, q0, q1, q2, q3, q4]) rfl ?_
          exact ⟨rfl, Dz.up⟩
        | some x =>
          have E : Hid ((ps.take (k + 1)).map rd = (ps.take k).map rd ++ [x]) := Lib.hid (by rw [List.take_succ_eq_append_getElem hlt', List.map_append]; simp [rd, hr])
          have hall2 : Hid (allNums (ps.take (k + 1)) = true) := Lib.hid (by
            have := hall.out
            unfold allNums at this ⊢
            rw [List.take_succ_eq_append_getElem hlt', List.all_append, this]; simp [hr])
          have hx : -1000000000000000000 < x ∧ x < 1000000000000000000 := readDec_range hr
          have hlk : Hid (((ps.take k).map rd).length ≤ 5) := Lib.hid (by rw [List.length_map, List.length_take]; omega)
          rw [numRes_some hr] at hD
          replace hD := Lib.hid hD
          generalize ps[k] = p at *
          clear hr hall hps
          obtain ⟨L, hL⟩ : ∃ L, L = (ps.take k).map rd := ⟨_, rfl⟩
          rw [← hL] at E hlk
          have D2 : Sp w wa [ite' 2 v L, ite' 9 (.slice (some ⟨pb, po, none⟩) ps.length c1) ps, ite' 42 (.slice (some ⟨w.heap.size, 0, none⟩) 1 1) [gradeZ]] := by rw [hL]; exact D.out
          replace D := Lib.hid D2
          clear D2 hL
          go_wp2_with fail
          refine hD.out.mono ?_
          rintro e w3 ⟨rfl, hb⟩
          replace D := Lib.hid (D.out.later hb)
          clear hb
          go_wp2_with (at_builtin; refine wpList_pushTo rfl (.tmp 32) (.tmp 34) 91 rfl w.heap.size 2 (.int .i64 0) 8 Tryz.underlying91 infoInt rfl _ L x rfl ((D.out.get 0 rfl : Own _ _ _ _ L).later (newB _ _)) _ _ rfl 2 (heap_alloc_new _ _) (by have := hlk.out; omega) (by decide) (by have := D.out.up.size; simp; omega) ?_; intro g' cap w5 hO5 hg5 hl5)
          have D5 := (D.out.later (newB _ _)).push 0 rfl hO5 hg5 hl5
          rw [← E.out] at D5
          go_roundw
          case rel => exact ⟨k + 1, _, by omega, rfl, by first | rfl | go_num, hall2, Lib.hid D5⟩
          case measure => first | (simp [intOf]; done) | (simp [intOf]; omega)
      · obtain rfl : k = 5 := by omega
        have ht5 : ps.take 5 = ps := List.take_of_length_le (by rw [hl.out]; exact Nat.le_refl 5)
        rw [ht5] at D hall
        have hN := hgood.out hl.out hall.out
        have hG := ofNums_nums (ns := ps.map rd) (by rw [List.length_map]; exact hl.out)
        obtain ⟨g, hg⟩ : ∃ g, g = ofNums (ps.map rd) := ⟨_, rfl⟩
        have hB := Lib.hid (fun h => hb5.out _ hN h)
        have hY := Lib.hid (fun h => hg5.out _ hN h)
        rw [← hg] at hG hB hY
        have D2 : Sp w wa [ite' 2 v (gNums g), ite' 9 (.slice a1 ps.length c1) ps, ite' 42 (.slice (some ⟨w.heap.size, 0, none⟩) 1 1) [gradeZ]] := by rw [hG]; exact D.out
        replace D := Lib.hid D2
        clear D2 hG hg hN ht5 hall hbad hgood hlen hsm hno hb5 hg5
        obtain ⟨bn, cn, hv⟩ := (D.out.get 0 rfl : Own _ _ _ _ (gNums g)).row (Nat.succ_pos 4)
        subst hv
        have hw5 : (gNums g).length = 5 := rfl
        rw [hw5] at D ⊢
        go_wp2_with fail
        refine wp_region_held_drew (S := (fun w' => w'.cell? ⟨bn, 0, none⟩ = some (.int .i64 g.Length) ∧ w'.cell? ⟨bn, 1, none⟩ = some (.int .i64 g.Ball) ∧ w'.cell? ⟨bn, 2, none⟩ = some (.int .i64 g.Instep) ∧ w'.cell? ⟨bn, 3, none⟩ = some (.int .i64 g.Heel) ∧ w'.cell? ⟨bn, 4, none⟩ = some (.int .i64 g.Pitch))) (by kernel_rfl) (five_cells (D.out.get 0 rfl : Own _ _ _ _ (gNums g))) (fun hHeld => ?_)
        obtain ⟨wo, hwo⟩ : ∃ wo, wo = wa.drew := ⟨_, rfl⟩
        rw [← hwo] at hHeld ⊢
        have hbo : Below wa.heap.size wa wo := by rw [hwo]; exact (Below.refl _ _).drew
        replace D := Lib.hid (D.out.later hbo)
        clear hwo hbo
        refine wpAnyH_take (i := 0) (v := _) rfl (by kernel_rfl) (by kernel_rfl) (by kernel_rfl) (fun _ _ _ h => h) (Or.inl ⟨by rfl, (by intro w hSw; (try dsimp only at hSw); go_simp; try with_reducible rfl)⟩) (by assumption) ?_
        go_simp
        refine wpAnyH_take (i := 1) (v := _) rfl (by kernel_rfl) (by kernel_rfl) (by kernel_rfl) (fun _ _ _ h => h) (Or.inl ⟨by rfl, (by intro w hSw; (try dsimp only at hSw); go_simp; try with_reducible rfl)⟩) (by assumption) ?_
        go_simp
        refine wpAnyH_take (i := 2) (v := _) rfl (by kernel_rfl) (by kernel_rfl) (by kernel_rfl) (fun _ _ _ h => h) (Or.inl ⟨by rfl, (by intro w hSw; (try dsimp only at hSw); go_simp; try with_reducible rfl)⟩) (by assumption) ?_
        go_simp
        refine wpAnyH_take (i := 3) (v := _) rfl (by kernel_rfl) (by kernel_rfl) (by kernel_rfl) (fun _ _ _ h => h) (Or.inl ⟨by rfl, (by intro w hSw; (try dsimp only at hSw); go_simp; try with_reducible rfl)⟩) (by assumption) ?_
        go_simp
        refine wpAnyH_take (i := 4) (v := _) rfl (by kernel_rfl) (by kernel_rfl) (by kernel_rfl) (fun _ _ _ h => h) (Or.inl ⟨by rfl, (by intro w hSw; (try dsimp only at hSw); go_simp; try with_reducible rfl)⟩) (by assumption) ?_
        go_simp
        refine wpAnyH_take (i := 5) (v := _) rfl (by kernel_rfl) (by kernel_rfl) (by kernel_rfl) (fun _ _ _ h => h) (Or.inl ⟨by rfl, (by intro w hSw; (try dsimp only at hSw); go_simp; try with_reducible rfl)⟩) (by assumption) ?_
        go_simp
        refine wpAnyH_take (i := 6) (v := _) rfl (by kernel_rfl) (by kernel_rfl) (by kernel_rfl) (fun _ _ _ h => h) (Or.inl ⟨by rfl, (by intro w hSw; (try dsimp only at hSw); go_simp; try with_reducible rfl)⟩) (by assumption) ?_
        go_simp
        refine wpAnyH_take (i := 7) (v := _) rfl (by kernel_rfl) (by kernel_rfl) (by kernel_rfl) (fun _ _ _ h => h) (Or.inl ⟨by rfl, (by intro w hSw; (try dsimp only at hSw); go_simp; try with_reducible rfl)⟩) (by assumption) ?_
        go_simp
        refine wpAnyH_take (i := 8) (v := _) rfl (by kernel_rfl) (by kernel_rfl) (by kernel_rfl) (fun _ _ _ h => h) (Or.inl ⟨by rfl, (by intro w hSw; (try dsimp only at hSw); go_simp; try with_reducible rfl)⟩) (by assumption) ?_
        go_simp
        refine wpAnyH_take (i := 9) (v := _) rfl (by kernel_rfl) (by kernel_rfl) (by kernel_rfl) (fun _ _ _ h => h) (Or.inl ⟨by rfl, (by intro w hSw; (try dsimp only at hSw); go_simp; try with_reducible rfl)⟩) (by assumption) ?_
        go_simp
        refine wpAnyH_take (i := 10) (v := _) rfl (by kernel_rfl) (by kernel_rfl) (by kernel_rfl) (fun _ _ _ h => h) (Or.inl ⟨by rfl, (by intro w hSw; (try dsimp only at hSw); go_simp; try with_reducible rfl)⟩) (by assumption) ?_
        go_simp
        refine wpAnyH_take (i := 11) (v := _) rfl (by kernel_rfl) (by kernel_rfl) (by kernel_rfl) (fun _ _ _ h => h) (Or.inl ⟨by rfl, (by intro w hSw; (try dsimp only at hSw); go_simp; try with_reducible rfl)⟩) (by assumption) ?_
        go_simp
        refine wpAnyH_take (i := 12) (v := _) rfl (by kernel_rfl) (by kernel_rfl) (by kernel_rfl) (fun _ _ _ h => h) (Or.inl ⟨by rfl, (by intro w hSw; (try dsimp only at hSw); go_simp; try with_reducible rfl)⟩) (by assumption) ?_
        go_simp
        refine wpAnyH_take (i := 13) (v := _) rfl (by kernel_rfl) (by kernel_rfl) (by kernel_rfl) (fun _ _ _ h => h) (Or.inl ⟨by rfl, (by intro w hSw; (try dsimp only at hSw); go_simp; try with_reducible rfl)⟩) (by assumption) ?_
        go_simp
        refine wpAnyH_take (i := 14) (v := _) rfl (by kernel_rfl) (by kernel_rfl) (by kernel_rfl) (fun _ _ _ h => h) (Or.inl ⟨by rfl, (by intro w hSw; (try dsimp only at hSw); go_simp; try with_reducible rfl)⟩) (by assumption) ?_
        go_simp
        refine wpAnyH_take (i := 15) (v := _) rfl (by kernel_rfl) (by kernel_rfl) (by kernel_rfl) (fun _ _ _ h => h) (Or.inl ⟨by rfl, (by intro w hSw; (try dsimp only at hSw); go_simp; try with_reducible rfl)⟩) (by assumption) ?_
        go_simp
        refine wpAnyH_ready (rs := [16]) (by kernel_rfl) (by simp) ?_
        refine AllReadyH.cons rfl (fun K hK => ?_) AllReadyH.nil
        go_simp
        obtain ⟨wt, hwt⟩ : ∃ wt, wt = wo.alloc (.cells #[.int .i64 0, .int .i64 0, .int .i64 0, .int .i64 0, .int .i64 0] 42) := ⟨_, rfl⟩
        rw [← hwt]
        have hst : Below wo.heap.size wo wt := by rw [hwt]; exact newB _ _
        have V0 : Own wo.heap.size wt 42 (.slice (some ⟨wo.heap.size, 0, none⟩) 1 1) [gradeZ] := by rw [hwt]; exact own_grade1 wo _ gradeZ
        clear hwt
        replace D := Lib.hid (D.out.add hst V0)
        obtain ⟨nx, hnx⟩ : ∃ b, b = wo.heap.size := ⟨_, rfl⟩
        rw [← hnx] at D ⊢
        clear hnx hst V0
        refine hK.out _ _ (five_cells (D.out.get 1 rfl : Own _ _ _ _ (gNums g))) (fun hHeld => ?_)
        clear hK K
        go_simp
        refine wpAnyH_ready (rs := [17]) (by kernel_rfl) (by simp) ?_
        refine AllReadyH.cons rfl (fun K hK => ?_) AllReadyH.nil
        refine cast (if_pos (by rfl)).symm ?_
        refine wp_store_own 42 (.tmp 9) (.tmp 51) rfl w.heap.size 42 nx 1 1 [gradeZ] 0 _ (g : Grade) rfl rfl rfl (by kernel_rfl) rfl (D.out.get 0 rfl) (by simp) ?_
        intro wz V1 hgz
        replace D := Lib.hid (D.out.set 0 rfl V1 hgz (Or.inl rfl))
        refine hK.out _ _ (five_cells (D.out.get 1 rfl : Own _ _ _ _ (gNums g))) (fun hHeld => ?_)
        clear hK K V1 hgz
        go_simp
        refine wpAnyH_done (by kernel_rfl) ?_ _
        obtain ⟨y0, y1, y2, y3, y4⟩ := grade1_cells (D.out.get 0 rfl : Own _ _ _ _ [g])
        have k5 := Lib.hid (fun w' => l05Ok_c g w')
        cases hok : okGrade g
        · obtain ⟨hG1, hZ1⟩ := fR.out none (hB.out hok)
          simp only [Option.getD_none, Option.isSome_none] at hG1 hZ1
          subst hG1
          subst hZ1
          rw [hok] at k5
          clear hB hY hok
          go_wp2_with fail
          refine (k5.out _).mono ?_
          rintro e w5 ⟨rfl, hb⟩
          replace D := Lib.hid (D.out.later hb)
          clear hb
          go_wp2_with ((with_reducible refine at_st 42 (.tmp 2) (.tmp 55) ?_); refine wpList_store_own rfl 42 (.tmp 2) (.tmp 55) rfl w.heap.size 42 _ 1 1 [gradeZ] 0 _ (gradeZ : Grade) rfl rfl rfl (by kernel_rfl) rfl (D.out.get 3 rfl) (by simp) ?_; intro wz hRz hgz)
          have Dz := D.out.set 3 rfl hRz hgz (Or.inl rfl)
          obtain ⟨q0, q1, q2, q3, q4⟩ := grade1_cells hRz
          refine bodyPost_ret (v := .tuple #[.agg #[.int .i64 (gradeZ : Grade).Length, .int .i64 (gradeZ : Grade).Ball, .int .i64 (gradeZ : Grade).Instep, .int .i64 (gradeZ : Grade).Heel, .int .i64 (gradeZ : Grade).Pitch], .bool false]) (by simp [results, Tryz.results32, go_sem, q0, q1, q2, q3, q4]) rfl ?_
          exact ⟨rfl, Dz.up⟩
        · obtain ⟨hG1, hZ1⟩ := fR.out (some g) (hY.out hok)
          simp only [Option.getD_some, Option.isSome_some] at hG1 hZ1
          have hG2 := hG1.symm
          subst hG2
          subst hZ1
          rw [hok] at k5
          clear hB hY hok
          go_wp2_with fail
          refine (k5.out _).mono ?_
          rintro e w5 ⟨rfl, hb⟩
          replace D := Lib.hid (D.out.later hb)
          clear hb y0 y1 y2 y3 y4
          obtain ⟨y0, y1, y2, y3, y4⟩ := grade1_cells (D.out.get 0 rfl : Own _ _ _ _ [g])
          go_wp2_with ((with_reducible refine at_st 42 (.tmp 2) (.tmp 56) ?_); refine wpList_store_own rfl 42 (.tmp 2) (.tmp 56) rfl w.heap.size 42 _ 1 1 [gradeZ] 0 _ (g : Grade) rfl rfl rfl (by kernel_rfl) rfl (D.out.get 3 rfl) (by simp) ?_; intro wz hRz hgz)
          have Dz := D.out.set 3 rfl hRz hgz (Or.inl rfl)
          obtain ⟨q0, q1, q2, q3, q4⟩ := grade1_cells hRz
          refine bodyPost_ret (v := .tuple #[.agg #[.int .i64 (g : Grade).Length, .int .i64 (g : Grade).Ball, .int .i64 (g : Grade).Instep, .int .i64 (g : Grade).Heel, .int .i64 (g : Grade).Pitch], .bool true]) (by simp [results, Tryz.results32, go_sem, q0, q1, q2, q3, q4]) rfl ?_
          exact ⟨rfl, Dz.up⟩
  · have hlI : ((ps.length : Int) != 5) = true := by simp; omega
    obtain ⟨hG1, hZ1⟩ := fR.out none (hno.out (hlen.out hl))
    simp only [Option.getD_none, Option.isSome_none] at hG1 hZ1
    subst hG1
    subst hZ1
    clear hbad hgood hlen hsm hno hb5 hg5
    go_wp2_with ((with_reducible refine at_st 42 (.tmp 2) (.tmp 15) ?_); refine wpList_store_own rfl 42 (.tmp 2) (.tmp 15) rfl w.heap.size 42 _ 1 1 [gradeZ] 0 _ (gradeZ : Grade) rfl rfl rfl (by kernel_rfl) rfl (D.out.get 1 rfl) (by simp) ?_; intro wz hRz hgz)
    have Dz := D.out.set 1 rfl hRz hgz (Or.inl rfl)
    obtain ⟨q0, q1, q2, q3, q4⟩ := grade1_cells hRz
    refine bodyPost_ret (v := .tuple #[.agg #[.int .i64 (gradeZ : Grade).Length, .int .i64 (gradeZ : Grade).Ball, .int .i64 (gradeZ : Grade).Instep, .int .i64 (gradeZ : Grade).Heel, .int .i64 (gradeZ : Grade).Pitch], .bool false]) (by simp [results, Tryz.results32, go_sem, q0, q1, q2, q3, q4]) rfl ?_
    exact ⟨rfl, Dz.up⟩
end Go.Proofs.YtaeinllbjkjhlaaGreatDoor
