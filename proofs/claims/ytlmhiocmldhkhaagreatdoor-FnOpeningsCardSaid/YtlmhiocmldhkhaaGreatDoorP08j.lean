/- Chapter 8, patterns: OpenEdges, the program's and the reference's. -/
import Derived.Test.YtlmhiocmldhkhaaGreatDoorP08i
namespace Go.Proofs.YtlmhiocmldhkhaaGreatDoor
open Go.RowKit

theorem At.grown {α : Type} [Flat α] {w w' : World} {b off : Nat} {row : Option Nat} {xs : List α} (h : At w (some ⟨b, off, none⟩) xs) (hg : w.grownBy w' row) (hne : some b ≠ row) : At w' (some ⟨b, off, none⟩) xs := by
  rcases h with h | ⟨b', off', he, hlt, hc⟩
  · exact Or.inl h
  · simp only [Option.some.injEq, Addr.mk.injEq, and_true] at he
    obtain ⟨rfl, rfl⟩ := he
    refine Or.inr ⟨b, off, rfl, Nat.lt_of_lt_of_le hlt hg.size, fun i hi => ?_⟩
    obtain ⟨cs, hr, hcell⟩ := hc i hi
    exact ⟨cs, hr, fun j v hv => hg.cell (hcell j v hv) hne⟩
def oeOf (p : Pattern) : List (List Int) := if okPattern p then (openOf p).map eL else []
def oeCode (p : Pattern) : Int := if okPattern p then 0 else 1
theorem OpenEdges_len (p : Pattern) : (oeOf p).length ≤ 80 ∧ kL 1 (oeOf p) (oeOf p).length ≤ 8388608 ∧ ∀ x ∈ oeOf p, x.length ≤ 9223372036854775807 := by
  unfold oeOf
  cases h : okPattern p
  · simp [kL]
  · simp only [if_true]
    have hl := open_length (okp_of h)
    refine ⟨by simpa using hl, ?_, fun x hx => ?_⟩
    · have : ∀ l : List Edge, ((l.map eL).map List.length).sum = 2 * l.length := by
        intro l
        induction l with
        | nil => rfl
        | cons e l ih => simp only [List.map_cons, List.sum_cons, ih, List.length_cons, eL, List.length_nil]; omega
      unfold kL
      rw [List.take_length, this]; omega
    · obtain ⟨e, _, rfl⟩ := List.mem_map.1 hx
      simp [eL]
set_option maxRecDepth 100000 in
set_option maxHeartbeats 1600000 in
theorem implOpenEdges_c (p : Pattern) (pa : Option Addr) (pc : Nat) (sa : Option Addr) (sc : Nat) (w : World) (hp : LieP w pa sa p) (hl : totPattern p ≤ 1048576) :
    Calls Tryz.prog 6 #[.agg #[.slice pa p.pieces.length pc, .slice sa p.seams.length sc, .int .i64 p.openings]] w fun en w' => ∃ v rs, en = .returned (.tuple #[v, .int .i64 (oeCode p)]) ∧ OwnLists w.heap.size w' v rs (oeOf p) ∧ Below w.heap.size w w' := by
  obtain ⟨w1, hw1, V, hs1, hb⟩ := patW_new p pa pc sa sc w
  obtain ⟨c0, c1, c2, _⟩ := PatV.of V (hp.below hb)
  replace hw1 := Lib.hid hw1
  cases h1 : okPattern p
  · have hr : oeCode p = 1 := by simp [oeCode, h1]
    have hr' : oeOf p = [] := by simp [oeOf, h1]
    rw [hr, hr']
    clear hr hr'
    replace hs1 := Lib.hid hs1
    go_enter Tryz.func6, Tryz.ntmps6
    go_wp2_with fail
    rw [hw1.out]
    refine (as_boolB h1 (implValidPattern_c p _ _ _ _ _ (hp.below hb) hl)).mono ?_
    rintro e w2 ⟨rfl, hb2⟩
    replace hb := upw hb hb2
    go_wp2_with fail
    go_ret2
    exact ⟨_, [], rfl, OwnLists.nil _ _, hb⟩
  · have hr : oeCode p = 0 := by simp [oeCode, h1]
    have hr' : oeOf p = (openOf p).map eL := by simp [oeOf, h1]
    rw [hr, hr']
    clear hr hr'
    have ok := Lib.hid (okp_of h1)
    have hol := open_length ok.out
    have hwl : w.heap.size < w1.heap.size := by omega
    replace hs1 := Lib.hid hs1
    go_enter Tryz.func6, Tryz.ntmps6
    go_wp2_with fail
    rw [hw1.out]
    refine (as_boolB h1 (implValidPattern_c p _ _ _ _ _ (hp.below hb) hl)).mono ?_
    rintro e w2 ⟨rfl, hb2⟩
    have hwl2 : w.heap.size < w2.heap.size := by have := hb2.size; omega
    replace hb := upw hb hb2
    clear c0 c1 c2
    have V2 := V.below hb2
    clear hb2 V
    obtain ⟨c0, c1, c2, _⟩ := PatV.of V2 (hp.below hb)
    obtain ⟨w3, hw3⟩ : ∃ w3, w3 = w2.alloc (.cells #[] 32) := ⟨_, rfl⟩
    have hb3 : Below w2.heap.size w2 w3 := by rw [hw3]; exact new_below _ _
    have hO : OwnLists w.heap.size w3 (.slice (some ⟨w2.heap.size, 0, none⟩) 0 0) [] [] := by rw [hw3]; exact (OwnLists.new w2).base hb.size
    have hs3 : w3.heap.size = w2.heap.size + 1 := by rw [hw3]; simp
    replace hb := upw hb hb3
    replace hw3 := Lib.hid hw3
    replace hO := Lib.hid hO
    go_wp2_with fail
    rw [← hw3.out]
    clear c0 c1 c2
    refine (openEdges_c p _ _ _ _ _ (hp.below hb) hl ok.out).mono ?_
    rintro e w4 ⟨g, n, c, rfl, hn, hgl, hgh, hA, hb4⟩
    replace hO := Lib.hid (hO.out.later hb4)
    replace hb := upw hb hb4
    have hnl : n ≤ 80 := by omega
    have HN := Lib.hid hn
    clear hn
    have hv0 : Hid (∀ k, (Value.slice (some ⟨w2.heap.size, 0, none⟩) 0 0).ownBlock = some k → k ≠ g) := Lib.hid (fun k hk => by simp [Value.ownBlock] at hk; omega)
    clear V2
    go_wp2_with fail
    go_loopw [4, 6, 14] (fun v _ i wr => ∃ (k : Nat) (rs : List RawL), k ≤ n ∧ i = .int .i64 k ∧ Hid (OwnLists w.heap.size wr v rs (((openOf p).take k).map eL)) ∧ Hid (∀ k, v.ownBlock = some k → k ≠ g) ∧ Hid (At wr (some ⟨g, 0, none⟩) (openOf p)) ∧ g < wr.heap.size ∧ Below w.heap.size w wr) (fun _ _ i _ => n - (intOf i).toNat)
    case atStart => exact ⟨0, [], Nat.zero_le _, rfl, hO, hv0, Lib.hid hA, hgh, hb⟩
    case round =>
      clear hO hv0 hA hgh hb
      obtain ⟨k, rs, hk, rfl, hO, hv, hA, hgh, hb⟩ := hrel
      by_cases hlt : k < n
      · have hko : k < (openOf p).length := by rw [← HN.out]; exact hlt
        obtain ⟨c0, c1⟩ := hA.out.edge hko
        simp only [Nat.zero_add] at c0 c1
        obtain ⟨x, hx⟩ : ∃ x, x = (openOf p)[k] := ⟨_, rfl⟩
        have E : Hid (((openOf p).take (k + 1)).map eL = ((openOf p).take k).map eL ++ [[x.piece, x.number]]) := Lib.hid (by rw [List.take_succ_eq_append_getElem hko, List.map_append, ← hx]; rfl)
        rw [← hx] at c0 c1
        replace hx := Lib.hid hx
        have hln : rs.length ≤ 1048576 := by
          have a1 := hO.out.len
          rw [List.length_map, List.length_take] at a1
          omega
        obtain ⟨w5, hw5⟩ : ∃ w5, w5 = wr.alloc (.cells #[.int .i64 x.piece, .int .i64 x.number] 54) := ⟨_, rfl⟩
        have hb5 : Below wr.heap.size wr w5 := by rw [hw5]; exact new_below _ _
        have U : Var w5 wr.heap.size [.int .i64 x.piece, .int .i64 x.number] := by rw [hw5]; exact Var.new2 _ _ _ _
        have hO5 := Lib.hid (hO.out.later hb5)
        have hA5 := Lib.hid (hA.out.below hb5)
        have d0 := U.cell 0 _ rfl
        have d1 := U.cell 1 _ rfl
        have hsz5 : wr.heap.size < w5.heap.size := by rw [hw5]; simp
        replace hb := upw hb hb5
        have hsz := hb.size
        have HB1 := Lib.hid (show Below w5.heap.size w5 ((w5.alloc (.cells #[.int .i64 x.piece, .int .i64 x.number] 2)).alloc (.cells #[.slice (some ⟨w5.heap.size, 0, none⟩) 2 2] 32)) from upw (new_below _ _) (new_below _ _))
        have hZ : Hid (Own w5.heap.size ((w5.alloc (.cells #[.int .i64 x.piece, .int .i64 x.number] 2)).alloc (.cells #[.slice (some ⟨w5.heap.size, 0, none⟩) 2 2] 32)) 2 (.slice (some ⟨w5.heap.size, 0, none⟩) 2 2) [x.piece, x.number]) := Lib.hid ((show Own w5.heap.size (w5.alloc (.cells #[.int .i64 x.piece, .int .i64 x.number] 2)) 2 (.slice (some ⟨w5.heap.size, 0, none⟩) 2 2) [x.piece, x.number] from own_row w5 2 [x.piece, x.number] (by simp)).later (new_below _ _))
        have hsw := Lib.hid (show wr.heap.size + 1 = w5.heap.size by rw [hw5]; simp)
        have HW5 := Lib.hid hw5
        clear hw5 U hb5
        go_wp2_with (at_builtin; refine Hid.out ?_)
        rw [← HW5.out, hsw.out]
        refine Lib.hid ?_
        refine wpList_pushTo rfl (.tmp 18) (.tmp 24) 29 rfl w.heap.size 32 (.slice none 0 0) 24 Tryz.underlying29 infoInts rfl _ rs (⟨some ⟨w5.heap.size, 0, none⟩, 2, 2⟩ : RawL) rfl (hO5.out.row.later HB1.out) _ _ rfl 32 (heap_two _ _ _) (by omega) (by decide) (by simp; omega) ?_
        intro g5 cap5 w6 hO6 hg6 hl6
        have hA6 := Lib.hid ((hA5.out.below HB1.out).grown hg6 (fun e => hv.out _ e.symm rfl))
        have hs6 := hg6.size
        have hgo : g < w6.heap.size := by simp at hs6; omega
        have hb6 := below_mark (upw hb HB1.out) (hO5.out.row.later HB1.out) (Nat.le_refl _) hg6
        have hv6 : Hid (∀ k, (Value.slice (some ⟨g5, 0, none⟩) (rs.length + 1) cap5).ownBlock = some k → k ≠ g) := Lib.hid (fun k hk => by
          simp [Value.ownBlock] at hk
          rcases hl6 with h | h
          · exact hv.out k (h.trans (congrArg some hk))
          · simp at h; omega)
        have hO7 := Lib.hid (hO5.out.push HB1.out ⟨rfl, hZ.out⟩ hsz hO6 hg6 hl6)
        clear hg6 hl6 hO6 hs6
        go_wp2_with fail
        go_roundw
        case rel => exact ⟨k + 1, _, by omega, by go_num, Lib.hid (by rw [E.out]; exact hO7.out), hv6, hA6, hgo, hb6⟩
        case measure => simp [intOf]; omega
      · obtain rfl : k = n := by omega
        have e : (openOf p).take k = openOf p := List.take_of_length_le (by rw [HN.out]; exact Nat.le_refl _)
        rw [e] at hO
        replace e := Lib.hid e
        go_wp2_with fail
        go_ret2
        exact ⟨_, rs, rfl, hO.out, hb⟩
end Go.Proofs.YtlmhiocmldhkhaaGreatDoor
