/- Chapter 6, the reference: the first build with a sum. -/
import Derived.Test.YtokoallbhbgkkaaL06f
namespace Go.Proofs.Ytokoallbhbgkkaa
open Go.RowKit

theorem greaterL_step {xs ys : List Int} {k : Nat} (h : k < xs.length) (h2 : k < ys.length) (he : greaterL xs ys = greaterL (xs.drop k) (ys.drop k)) :
    (xs[k] ≠ ys[k] → greaterL xs ys = decide (ys[k] < xs[k])) ∧ (xs[k] = ys[k] → greaterL xs ys = greaterL (xs.drop (k + 1)) (ys.drop (k + 1))) := by
  rw [List.drop_eq_getElem_cons h, List.drop_eq_getElem_cons h2] at he
  rw [he]
  constructor
  · intro hc
    conv => lhs; unfold greaterL
    rw [if_neg hc]
  · intro hc
    conv => lhs; unfold greaterL
    rw [if_pos hc]
theorem greaterL_end {xs ys : List Int} {k : Nat} (h : xs.length ≤ k) (he : greaterL xs ys = greaterL (xs.drop k) (ys.drop k)) : greaterL xs ys = false := by
  rw [he, List.drop_of_length_le h]; rfl
/-- The first layer from behind that leads on is the next one of the build. -/
theorem lead_at {ls : List Int} {n : Nat} (hn : 0 < n) {L : List Int} (h : shortest ls n = some L) {j : Nat} (hj : j < ls.length)
    (hno : ∀ x ∈ ls.drop (j + 1), leads ls n x = false) (hl : leads ls n ls[j] = true) : ∃ T, shortest ls (n - ls[j].toNat) = some T ∧ L = ls[j] :: T := by
  obtain ⟨m1, l, m2, T, e1, e2, e3, e4, e5⟩ := shortest_lead hn h
  have hf : ls.reverse.find? (leads ls n) = some l := by
    rw [e1, List.find?_append, List.find?_cons_of_pos e3, List.find?_eq_none.2 (fun x hx => by rw [e2 x hx]; simp)]
    rfl
  have hf2 : ls.reverse.find? (leads ls n) = some ls[j] := by
    have hs : ls = ls.take j ++ ls[j] :: ls.drop (j + 1) := by rw [← List.drop_eq_getElem_cons hj, List.take_append_drop]
    have : ls.reverse = (ls.drop (j + 1)).reverse ++ ls[j] :: (ls.take j).reverse := by
      conv => lhs; rw [hs]
      simp
    rw [this, List.find?_append, List.find?_cons_of_pos hl, List.find?_eq_none.2 (fun x hx => by rw [hno x (List.mem_reverse.1 hx)]; simp)]
    rfl
  rw [hf] at hf2
  obtain rfl := Option.some.inj hf2
  exact ⟨T, e4, e5⟩
theorem lead_some {ls : List Int} {n : Nat} (hn : 0 < n) {L : List Int} (h : shortest ls n = some L) (hno : ∀ x ∈ ls, leads ls n x = false) : False := by
  obtain ⟨m1, l, m2, T, e1, _, e3, _⟩ := shortest_lead hn h
  have : l ∈ ls := List.mem_reverse.1 (by rw [e1]; simp)
  rw [hno l this] at e3
  cases e3

set_option maxHeartbeats 2000000 in
theorem l06Greater_c (a a' : Option Addr) (xs ys : List Int) (c c' : Nat) (w : World) (hx : At w a xs) (hy : At w a' ys) (hl : xs.length = ys.length) (hlx : xs.length ≤ 9223372036854775807) :
    Calls Try.prog 103 #[.slice a xs.length c, .slice a' ys.length c'] w fun e w' => e = .returned (.bool (greaterL xs ys)) ∧ Below w.heap.size w w' := by
  have HL := Lib.hid hl
  clear hl
  go_enter Try.func103, Try.ntmps103
  go_wp2_with fail
  go_loopw [5] (fun i wr => ∃ k : Nat, k ≤ xs.length ∧ i = .int .i64 k ∧ greaterL xs ys = greaterL (xs.drop k) (ys.drop k) ∧ Below w.heap.size w wr) (fun i _ => xs.length - (intOf i).toNat)
  case atStart => exact ⟨0, Nat.zero_le _, rfl, rfl, Below.refl _ _⟩
  case round =>
    obtain ⟨k, hk, rfl, heq, hb⟩ := hrel
    have HE := Lib.hid heq
    clear heq
    by_cases hlt : k < xs.length
    · have hlt' : k < ys.length := by rw [← HL.out]; exact hlt
      obtain ⟨b, off, rfl⟩ := hx.addr hlt
      obtain ⟨b', off', rfl⟩ := hy.addr hlt'
      have c0 := rg ((hx.below hb).int hlt)
      have d0 := rg ((hy.below hb).int hlt')
      cases hne : (xs[k] != ys[k]) with
      | true =>
        go_wp2_with fail
        refine wp_region_quiet_below (by kernel_rfl) (by kernel_rfl) ?_
        repeat (go_big_quiet_step ((fail)))
        refine wpQuiet_nil ?_
        intro w2 hw'
        replace hb := upw hb (grown_of hw')
        clear hw'
        go_wp2_with fail
        replace c0 := rg ((hx.below hb).int hlt)
        replace d0 := rg ((hy.below hb).int hlt')
        refine wp_region_quiet_below (by kernel_rfl) (by kernel_rfl) ?_
        repeat (go_big_quiet_step ((fail)))
        refine wpQuiet_nil ?_
        intro w2 hw'
        replace hb := upw hb (grown_of hw')
        clear hw'
        go_wp2_with fail
        go_ret
        exact ⟨by rw [(greaterL_step hlt hlt' HE.out).1 (by simpa using hne)]; rfl, hb⟩
      | false =>
        go_wp2_with fail
        refine wp_region_quiet_below (by kernel_rfl) (by kernel_rfl) ?_
        repeat (go_big_quiet_step ((fail)))
        refine wpQuiet_nil ?_
        intro w2 hw'
        replace hb := upw hb (grown_of hw')
        clear hw'
        go_wp2_with fail
        go_roundw
        case rel => exact ⟨k + 1, by omega, by go_num, (greaterL_step hlt hlt' HE.out).2 (by simpa using hne), hb⟩
        case measure => simp [intOf]; omega
    · go_wp2_with fail
      go_ret
      exact ⟨by rw [greaterL_end (by omega) HE.out]; rfl, hb⟩
set_option maxHeartbeats 4000000 in
theorem l06First_c (a a' : Option Addr) (ls : List Int) (c c' n m : Nat) (w : World) (hx : At w a ls) (hy : At w a' (fewL ls (n + 1))) (hok : LayOk ls) (hn : n ≤ 1000) (hm : m ≤ n) (L : List Int) (hL : shortest ls m = some L) :
    Calls Try.prog 102 #[.slice a ls.length c, .slice a' (fewL ls (n + 1)).length c', .int .i64 m] w fun e w' => ∃ v, e = .returned v ∧ Own w.heap.size w' 2 v L ∧ Below w.heap.size w w' := by
  have hlen := hok.len
  have hLm := shortest_length hL
  have hfl := Lib.hid (fewL_length ls (n + 1))
  go_enter Try.func102, Try.ntmps102
  go_wp2_with fail
  go_loopw [2, 7] (fun s v wq => ∃ (k : Nat) (T D : List Int), k ≤ n ∧ s = .int .i64 k ∧ shortest ls k = some T ∧ Hid (D ++ T = L) ∧ Own w.heap.size wq 2 v D ∧ Below w.heap.size w wq) (fun s _ _ => (intOf s).toNat)
  case atStart => exact ⟨m, L, [], hm, rfl, hL, Lib.hid rfl, own_new _ _, (Below.refl _ _).alloc (Nat.le_refl _) _⟩
  case round =>
    obtain ⟨k, T, D, hk, rfl, hT, hD, hO, hb⟩ := hrel
    by_cases hk0 : 0 < k
    · obtain ⟨wo, hwo⟩ : ∃ wo : World, wo = wr := ⟨_, rfl⟩
      subst hwo
      have hDl : D.length ≤ 1000 := by
        have h1 := congrArg List.length hD.out
        rw [List.length_append] at h1
        omega
      go_wp2_with fail
      go_loopw [2, 7, 8] (fun s v i wq => ∃ j : Nat, j ≤ ls.length ∧ i = .int .i64 ((j : Int) - 1) ∧ s = .int .i64 k ∧ (∀ x ∈ ls.drop j, leads ls k x = false) ∧ Own w.heap.size wq 2 v D ∧ Below w.heap.size w wq) (fun _ _ i _ => ((intOf i) + 1).toNat)
      case atStart => exact ⟨ls.length, Nat.le_refl _, rfl, rfl, by simp, hO, hb⟩
      case round =>
        clear hO hb
        obtain ⟨j, hj, rfl, rfl, hno, hO, hb⟩ := hrel
        by_cases hj0 : j = 0
        · exfalso
          subst hj0
          exact lead_some hk0 hT hno
        · have hjl : j - 1 < ls.length := by omega
          have hji : (j : Int) - 1 = ((j - 1 : Nat) : Int) := by omega
          rw [hji]
          have hl := hok.each (j - 1) hjl
          have hfr := few_range ls (k - ls[j - 1].toNat)
          have hgr := few_range ls k
          obtain ⟨b, off, rfl⟩ := hx.addr hjl
          obtain ⟨b', off', rfl⟩ := hy.addr (i := 0) (by rw [hfl.out]; omega)
          have hstep : leads ls k ls[j - 1] = false → ∀ x ∈ ls.drop (j - 1), leads ls k x = false := fun h x hx => by
            rw [List.drop_eq_getElem_cons hjl, show j - 1 + 1 = j by omega] at hx
            rcases List.mem_cons.1 hx with rfl | hx
            · exact h
            · exact hno x hx
          have hlead := lead_at hk0 hT hjl (by rw [show j - 1 + 1 = j by omega]; exact hno)
          have c0 := (hx.below hb).int hjl
          by_cases h1 : ls[j - 1] ≤ k
          · have e0 : wr.cell? ⟨b', off' + ((k : Int) - ls[j - 1]).toNat, none⟩ = some (.int .i64 (few ls (k - ls[j - 1].toNat))) := by
              have h := (hy.below hb).int (i := k - ls[j - 1].toNat) (by rw [hfl.out]; omega)
              rw [fewL_get] at h
              rw [show ((k : Int) - ls[j - 1]).toNat = k - ls[j - 1].toNat by omega]
              exact h
            have e1 := (hy.below hb).int (i := k) (by rw [hfl.out]; omega)
            rw [fewL_get] at e1
            have hbd : (k : Int) - ls[j - 1] < ((fewL ls (n + 1)).length : Int) := by rw [hfl.out]; omega
            have hbd1 : k < (fewL ls (n + 1)).length := by rw [hfl.out]; omega
            replace e0 := rg e0
            replace e1 := rg e1
            have hiff := Lib.hid (leads_iff (ls := ls) (n := k) (l := ls[j - 1]))
            have hd1 : decide (ls[j - 1] ≤ (k : Int)) = true := by simpa using h1
            cases hd2 : decide (0 ≤ few ls (k - ls[j - 1].toNat)) with
            | false =>
              have hld : leads ls k ls[j - 1] = false := by
                cases hq : leads ls k ls[j - 1] with
                | false => rfl
                | true => have := (hiff.out.1 hq).2.1; simp at hd2; omega
              go_wp2_with fail
              refine wp_region_quiet_below (by kernel_rfl) (by kernel_rfl) ?_
              repeat (go_big_quiet_step ((fail)))
              refine wpQuiet_nil ?_
              intro w2 hw'
              replace hb := upw hb (grown_of hw')
              have hw2 := grown_of hw'
              clear hw'
              replace hO := hO.later hw2
              clear hw2 c0 e0 e1
              go_wp2_with fail
              go_roundw
              case rel => exact ⟨j - 1, by omega, by go_num, rfl, hstep hld, hO, hb⟩
              case measure => simp [intOf]
            | true =>
              cases hd3 : (few ls (k - ls[j - 1].toNat) + 1 == few ls k) with
              | false =>
                have hld : leads ls k ls[j - 1] = false := by
                  cases hq : leads ls k ls[j - 1] with
                  | false => rfl
                  | true => have := (hiff.out.1 hq).2.2; simp at hd3; omega
                go_wp2_with fail
                refine wp_region_quiet_below (by kernel_rfl) (by kernel_rfl) ?_
                repeat (go_big_quiet_step ((fail)))
                refine wpQuiet_nil ?_
                intro w2 hw'
                replace hb := upw hb (grown_of hw')
                have hw2 := grown_of hw'
                clear hw'
                replace hO := hO.later hw2
                clear hw2 c0 e0 e1
                go_wp2_with fail
                go_roundw
                case rel => exact ⟨j - 1, by omega, by go_num, rfl, hstep hld, hO, hb⟩
                case measure => simp [intOf]
              | true =>
                have hld : leads ls k ls[j - 1] = true := hiff.out.2 ⟨⟨hl.1, h1⟩, by simpa using hd2, by simpa using hd3⟩
                obtain ⟨T', hT', hTe⟩ := hlead hld
                go_wp2_with fail
                refine wp_region_quiet_below (by kernel_rfl) (by kernel_rfl) ?_
                repeat (go_big_quiet_step ((fail)))
                refine wpQuiet_nil ?_
                intro w2 hw'
                replace hb := upw hb (grown_of hw')
                have hw2 := grown_of hw'
                clear hw'
                replace hO := hO.later hw2
                clear hw2 c0 e0 e1
                go_wp2_with (at_builtin; refine wpList_push rfl (.tmp 50) (.tmp 52) 22 rfl w.heap.size 2 (.int .i64 0) 8 Try.underlying22 infoInt rfl _ D (ls[j - 1] : Int) rfl (hO.later ((Below.refl _ _).alloc (Nat.le_refl _) _)) _ _ rfl 2 (heap_alloc_new _ _) (by omega) (by decide) (by have := hb.size; simp; omega) ?_; intro v1 w3 hO1 hg1)
                go_roundw
                case rel => exact ⟨k - ls[j - 1].toNat, T', D ++ [ls[j - 1]], by omega, by go_num, hT', Lib.hid (by have := hD.out; rw [hTe] at this; simpa using this), hO1, below_mark (hb.alloc hb.size _) (hO.later ((Below.refl _ _).alloc (Nat.le_refl _) _)) (Nat.le_refl _) hg1⟩
                case measure => simp [intOf]; omega
          · have hld : leads ls k ls[j - 1] = false := by
              cases hq : leads ls k ls[j - 1] with
              | false => rfl
              | true => exact absurd (leads_iff.1 hq).1.2 h1
            have hd1 : decide (ls[j - 1] ≤ (k : Int)) = false := by simpa using h1
            go_wp2_with fail
            refine wp_region_quiet_below (by kernel_rfl) (by kernel_rfl) ?_
            repeat (go_big_quiet_step ((fail)))
            refine wpQuiet_nil ?_
            intro w2 hw'
            replace hb := upw hb (grown_of hw')
            have hw2 := grown_of hw'
            clear hw'
            replace hO := hO.later hw2
            clear hw2 c0
            go_wp2_with fail
            go_roundw
            case rel => exact ⟨j - 1, by omega, by go_num, rfl, hstep hld, hO, hb⟩
            case measure => simp [intOf]
    · obtain rfl : k = 0 := by omega
      have h0 : shortest ls 0 = some [] := rfl
      rw [h0] at hT
      obtain rfl := Option.some.inj hT
      have hDL : D = L := by have := hD.out; rwa [List.append_nil] at this
      subst hDL
      go_wp2_with fail
      go_ret
      exact ⟨_, rfl, hO, hb⟩
end Go.Proofs.Ytokoallbhbgkkaa
