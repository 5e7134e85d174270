/- Chapter 8, patterns: the reference's list of open edges. -/
import Derived.Test.YtlmhiocmldhkhaaGreatDoorP08h
namespace Go.Proofs.YtlmhiocmldhkhaaGreatDoor
open Go.RowKit

def eL (e : Edge) : List Int := [e.piece, e.number]
def openSome (p : Pattern) (l : List Edge) : List (List Int) := (l.filter (isOpen p)).map eL
theorem openSome_snoc (p : Pattern) (l : List Edge) (e : Edge) : openSome p (l ++ [e]) = openSome p l ++ if isOpen p e then [eL e] else [] := by
  unfold openSome
  rw [List.filter_append, List.map_append]
  cases h : isOpen p e <;> simp [h]
theorem openSome_le (p : Pattern) (l : List Edge) : (openSome p l).length ≤ l.length := by
  unfold openSome; rw [List.length_map]; exact List.length_filter_le _ _
set_option maxRecDepth 100000 in
set_option maxHeartbeats 1600000 in
theorem l08Open_c (p : Pattern) (b : Nat) (pa : Option Addr) (pc : Nat) (sa : Option Addr) (sc : Nat) (w : World) (hP : PatV w b pa pc sa sc p) (hl : totPattern p ≤ 1048576) (ok : Okp p) :
    Calls Tryz.prog 64 #[.pointer (some ⟨b, 0, none⟩)] w fun en w' => ∃ v rs, en = .returned v ∧ OwnLists w.heap.size w' v rs (openSome p (edgesOf p)) ∧ Below w.heap.size w w' := by
  have l1 := ok.n10
  have HP := Lib.hid hP
  have HE := Lib.hid (edgesTo_succ p)
  have HL := Lib.hid (fun n h => edgesTo_length ok n h)
  replace ok := Lib.hid ok
  clear hP
  have hO0 := Lib.hid (OwnLists.new w)
  have hb0 := new_below w (.cells #[] 32)
  go_enter Tryz.func64, Tryz.ntmps64
  go_wp2_with fail
  go_loopw [3, 4, 5] (fun v i _ wr => ∃ (k : Nat) (rs : List RawL), k ≤ p.pieces.length ∧ i = .int .i64 k ∧ Hid (OwnLists w.heap.size wr v rs (openSome p (edgesTo p k))) ∧ Below w.heap.size w wr) (fun _ i _ _ => p.pieces.length - (intOf i).toNat)
  case atStart => exact ⟨0, [], Nat.zero_le _, rfl, hO0, hb0⟩
  case round =>
    clear hb0
    obtain ⟨k, rs, hk, rfl, hO, hb⟩ := hrel
    obtain ⟨wo, rfl⟩ : ∃ wo : World, wo = wr := ⟨_, rfl⟩
    obtain ⟨c0, c1, c2, hL⟩ := HP.out.below hb
    clear c1 c2
    by_cases hlt : k < p.pieces.length
    · have hne := Lib.hid (nE_get hlt)
      have l3 := (ok.out.len _ (List.getElem_mem hlt)).2
      have hEk := Lib.hid (HE.out k)
      obtain ⟨nm, hnm⟩ : ∃ nm, nm = p.pieces[k].edges.length := ⟨_, rfl⟩
      rw [← hnm] at l3 hne
      replace hnm := Lib.hid hnm
      have hLk := Lib.hid (HL.out k (by omega))
      clear hL
      go_wp2_with fail
      clear c0
      go_loopw [3, 5] (fun v i wr => ∃ (m : Nat) (rs : List RawL), m ≤ nm ∧ i = .int .i64 m ∧ Hid (OwnLists w.heap.size wr v rs (openSome p (edgesTo p k ++ rowE k m))) ∧ Below w.heap.size w wr) (fun _ i _ => nm - (intOf i).toNat)
      case atStart => exact ⟨0, rs, Nat.zero_le _, rfl, by simpa [rowE] using hO, hb⟩
      case round =>
        clear hO hb
        obtain ⟨m, rs, hm, rfl, hO, hb⟩ := hrel
        have hP := Lib.hid (HP.out.below hb)
        obtain ⟨c0, c1, c2, hL⟩ := hP.out
        obtain ⟨bb, off, ea, ec, rfl, hbl, hV⟩ := hL.pieV hlt
        have h1 := hV.c1
        rw [← hnm.out] at h1
        clear c1 c2 hL hV
        by_cases hlt2 : m < nm
        · have hrow : Hid (edgesTo p k ++ rowE k (m + 1) = (edgesTo p k ++ rowE k m) ++ [⟨(k : Int), (m : Int)⟩]) := Lib.hid (by rw [rowE_succ, List.append_assoc])
          have hT := Lib.hid (l08Times_c p b _ pc sa sc ⟨(k : Int), (m : Int)⟩ wr hP.out hl)
          have hsn := Lib.hid (openSome_snoc p (edgesTo p k ++ rowE k m) ⟨(k : Int), (m : Int)⟩)
          cases ho : isOpen p ⟨(k : Int), (m : Int)⟩
          · have ht : 0 < times p.seams ⟨(k : Int), (m : Int)⟩ := by
              rcases Nat.eq_zero_or_pos (times p.seams ⟨(k : Int), (m : Int)⟩) with h | h
              · rw [open_times.2 h] at ho; cases ho
              · exact h
            obtain ⟨t, htt⟩ : ∃ t, t = times p.seams ⟨(k : Int), (m : Int)⟩ := ⟨_, rfl⟩
            rw [← htt] at ht hT
            replace htt := Lib.hid htt
            have he : Hid (openSome p (edgesTo p k ++ rowE k (m + 1)) = openSome p (edgesTo p k ++ rowE k m)) := Lib.hid (by rw [hrow.out, hsn.out, ho]; simp)
            replace ho := Lib.hid ho
            go_wp2_with fail
            refine hT.out.mono ?_
            rintro e w3 ⟨rfl, hb3⟩
            replace hb := upw hb hb3
            go_wp2_with fail
            go_roundw
            case rel => exact ⟨m + 1, rs, by omega, by go_num, Lib.hid (by rw [he.out]; exact hO.out.later hb3), hb⟩
            case measure => simp [intOf]; omega
          · have ht : times p.seams ⟨(k : Int), (m : Int)⟩ = 0 := open_times.1 ho
            rw [ht] at hT
            replace ht := Lib.hid ht
            have he : Hid (openSome p (edgesTo p k ++ rowE k (m + 1)) = openSome p (edgesTo p k ++ rowE k m) ++ [[(k : Int), (m : Int)]]) := Lib.hid (by rw [hrow.out, hsn.out, ho]; rfl)
            replace ho := Lib.hid ho
            have hln : rs.length ≤ 1048576 := by
              have a1 := hO.out.len
              have a2 := openSome_le p (edgesTo p k ++ rowE k m)
              rw [List.length_append] at a2
              have a3 : (rowE k m).length = m := by simp [rowE]
              have a4 := hLk.out
              omega
            go_wp2_with fail
            refine hT.out.mono ?_
            rintro e w3 ⟨rfl, hb3⟩
            have hO3 := Lib.hid (hO.out.later hb3)
            replace hb := upw hb hb3
            have hsz := hb.size
            have hB1 : Below w3.heap.size w3 ((w3.alloc (.cells #[.int .i64 (k : Int), .int .i64 (m : Int)] 2)).alloc (.cells #[.slice (some ⟨w3.heap.size, 0, none⟩) 2 2] 32)) := upw (new_below _ _) (new_below _ _)
            have hZ : Hid (Own w3.heap.size ((w3.alloc (.cells #[.int .i64 (k : Int), .int .i64 (m : Int)] 2)).alloc (.cells #[.slice (some ⟨w3.heap.size, 0, none⟩) 2 2] 32)) 2 (.slice (some ⟨w3.heap.size, 0, none⟩) 2 2) [(k : Int), (m : Int)]) := Lib.hid ((show Own w3.heap.size (w3.alloc (.cells #[.int .i64 (k : Int), .int .i64 (m : Int)] 2)) 2 (.slice (some ⟨w3.heap.size, 0, none⟩) 2 2) [(k : Int), (m : Int)] from own_row w3 2 [(k : Int), (m : Int)] (by simp)).later (new_below _ _))
            have HB1 := Lib.hid hB1
            clear hB1
            go_wp2_with (at_builtin; refine wpList_pushTo rfl (.tmp 34) (.tmp 38) 29 rfl w.heap.size 32 (.slice none 0 0) 24 Tryz.underlying29 infoInts rfl _ rs (⟨some ⟨w3.heap.size, 0, none⟩, 2, 2⟩ : RawL) rfl (hO3.out.row.later HB1.out) _ _ rfl 32 (heap_two _ _ _) (by omega) (by decide) (by simp; omega) ?_; intro g5 cap5 w5 hO5 hg5 hl5)
            go_roundw
            case rel => exact ⟨m + 1, _, by omega, by go_num, Lib.hid (by rw [he.out]; exact hO3.out.push HB1.out ⟨rfl, hZ.out⟩ hsz hO5 hg5 hl5), below_mark (upw hb HB1.out) (hO3.out.row.later HB1.out) (Nat.le_refl _) hg5⟩
            case measure => simp [intOf]; omega
        · obtain rfl : m = nm := by omega
          go_wp2_with fail
          go_roundw
          case rel => exact ⟨k + 1, rs, by omega, by go_num, Lib.hid (by rw [hEk.out, hne.out]; exact hO.out), hb⟩
          case measure => simp [intOf]; omega
    · obtain rfl : k = p.pieces.length := by omega
      go_wp2_with fail
      go_ret
      exact ⟨_, rs, rfl, hO.out, hb⟩
end Go.Proofs.YtlmhiocmldhkhaaGreatDoor
