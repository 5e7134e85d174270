/- Chapter 8, patterns: openings, as the program has them. -/
import Derived.Test.YtlmhiocmldhkhaaGreatDoorP08j
namespace Go.Proofs.YtlmhiocmldhkhaaGreatDoor
open Go.RowKit

def evB (b : Bool) : Value := .bool b
def mapSize (w : World) (r : Nat) : Nat := match w.heap[r]? with
  | some (.map es _) => es.size
  | _ => 0
theorem mapSize_of {β : Type} {ev : β → Value} {w : World} {r : Nat} {kvs : List (Edge × β)} (h : MapAt ev w r kvs) : mapSize w r = kvs.length := by
  obtain ⟨es, clock, h1, h2⟩ := h
  unfold mapSize
  rw [h1]
  exact MapAt.len h2
def edgeAt (w : World) (b : Nat) : Edge := ⟨intOf ((w.cell? ⟨b, 0, none⟩).getD undef), intOf ((w.cell? ⟨b, 1, none⟩).getD undef)⟩
theorem edgeAt_of {w : World} {b : Nat} {e : Edge} (V : Var w b [.int .i64 e.piece, .int .i64 e.number]) : edgeAt w b = e := by
  have h0 := V.cell 0 _ rfl
  have h1 := V.cell 1 _ rfl
  unfold edgeAt
  rw [h0, h1]; rfl
/-- What stands while openings are gone round. -/
structure St (w wr : World) (p : Pattern) (pa : Option Addr) (pc : Nat) (sa : Option Addr) (sc : Nat) (rp rd g N : Nat) (kvs : List (Edge × Bool)) (v : Value) (out : List Int) : Prop where
  box : Var wr w.heap.size [.slice pa p.pieces.length pc, .slice sa p.seams.length sc, .int .i64 p.openings]
  prs : MapAt ev wr rp (PP8 p)
  don : MapAt evB wr rd kvs
  opn : At wr (some ⟨g, 0, none⟩) (openOf p)
  own : Own (w.heap.size + 1) wr 2 v out
  o1 : w.heap.size < rp
  o2 : rp < rd
  o3 : rd < g
  o4 : g < N
  ov : ∀ k, v.ownBlock = some k → k ≠ rp ∧ k ≠ rd ∧ k ≠ g ∧ k < N
  sz : N ≤ wr.heap.size
  bel : Below w.heap.size w wr
variable {w wr w' : World} {p : Pattern} {pa : Option Addr} {pc : Nat} {sa : Option Addr} {sc : Nat} {rp rd g N : Nat} {kvs : List (Edge × Bool)} {v : Value} {out : List Int}
theorem St.below (h : St w wr p pa pc sa sc rp rd g N kvs v out) (hb : Below wr.heap.size wr w') : St w w' p pa pc sa sc rp rd g N kvs v out :=
  ⟨h.box.below hb, h.prs.below hb, h.don.below hb, h.opn.below hb, h.own.later hb, h.o1, h.o2, h.o3, h.o4, h.ov, Nat.le_trans h.sz hb.size, upw h.bel hb⟩
theorem St.up (h : St w wr p pa pc sa sc rp rd g N kvs v out) {M : Nat} (h1 : N ≤ M) (h2 : M ≤ wr.heap.size) : St w wr p pa pc sa sc rp rd g M kvs v out :=
  ⟨h.box, h.prs, h.don, h.opn, h.own, h.o1, h.o2, h.o3, Nat.lt_of_lt_of_le h.o4 h1, fun k hk => ⟨(h.ov k hk).1, (h.ov k hk).2.1, (h.ov k hk).2.2.1, Nat.lt_of_lt_of_le (h.ov k hk).2.2.2 h1⟩, h2, h.bel⟩
theorem St.write (h : St w wr p pa pc sa sc rp rd g N kvs v out) {b : Nat} (hg : wr.grownBy w' (some b)) (hN : N ≤ b) : St w w' p pa pc sa sc rp rd g N kvs v out := by
  have h1 := h.o1
  have h2 := h.o2
  have h3 := h.o3
  have h4 := h.o4
  refine ⟨h.box.grown hg (some_ne (by omega)), h.prs.grown hg (some_ne (by omega)), h.don.grown hg (some_ne (by omega)), h.opn.grown hg (some_ne (by omega)), h.own.kept hg ?_, h1, h2, h3, h4, h.ov, Nat.le_trans h.sz hg.size, h.bel.grown hg h.bel.size (fun k hk => by cases hk; omega)⟩
  cases hk : v.ownBlock with
  | none => exact Or.inl rfl
  | some k => exact Or.inr (some_ne (by have := (h.ov k hk).2.2.2; omega))
theorem St.mark (h : St w wr p pa pc sa sc rp rd g N kvs v out) {kvs' : List (Edge × Bool)} (hg : wr.grownBy w' (some rd)) (hM : MapAt evB w' rd kvs') : St w w' p pa pc sa sc rp rd g N kvs' v out := by
  have h1 := h.o1
  have h2 := h.o2
  have h3 := h.o3
  have h4 := h.o4
  refine ⟨h.box.grown hg (some_ne (by omega)), h.prs.grown hg (some_ne (by omega)), hM, h.opn.grown hg (some_ne (by omega)), h.own.kept hg ?_, h1, h2, h3, h4, h.ov, Nat.le_trans h.sz hg.size, h.bel.grown hg h.bel.size (fun k hk => by cases hk; omega)⟩
  cases hk : v.ownBlock with
  | none => exact Or.inl rfl
  | some k => exact Or.inr (some_ne (h.ov k hk).2.1)
theorem St.push {w1 w2 : World} {z : Int} {g5 c5 n5 : Nat} (h : St w wr p pa pc sa sc rp rd g N kvs v out) (hb1 : Below wr.heap.size wr w1) (hO : Own (w.heap.size + 1) w2 2 (.slice (some ⟨g5, 0, none⟩) n5 c5) (out ++ [z])) (hg : w1.grownBy w2 v.ownBlock) (hl : v.ownBlock = some g5 ∨ g5 = w1.heap.size) :
    St w w2 p pa pc sa sc rp rd g w2.heap.size kvs (.slice (some ⟨g5, 0, none⟩) n5 c5) (out ++ [z]) := by
  have k1 := h.below hb1
  have h1 := h.o1
  have h2 := h.o2
  have h3 := h.o3
  have h4 := h.o4
  have h5 := h.sz
  have h6 := hb1.size
  have h7 := hg.size
  have h8 := (hO.lt g5 rfl).2
  have ne : ∀ k, (k = rp ∨ k = rd ∨ k = g) → some k ≠ v.ownBlock := fun k hk e => by have := h.ov k e.symm; omega
  have hbx : some w.heap.size ≠ v.ownBlock := fun e => by have := (h.own.lt _ e.symm).1; omega
  refine ⟨k1.box.grown hg hbx, k1.prs.grown hg (ne _ (by simp)), k1.don.grown hg (ne _ (by simp)), k1.opn.grown hg (ne _ (by simp)), hO, h1, h2, h3, by omega, fun k hk => ?_, Nat.le_refl _, below_mark k1.bel k1.own (Nat.le_succ _) hg⟩
  simp [Value.ownBlock] at hk
  subst hk
  rcases hl with hl | hl
  · have := h.ov _ hl; exact ⟨this.1, this.2.1, this.2.2.1, h8⟩
  · exact ⟨by omega, by omega, by omega, h8⟩
theorem look_pair {w : World} {r : Nat} {p : Pattern} (h : MapAt ev w r (PP8 p)) (e : Edge) :
    (Instr.lookup 78 (.map (some r)) (.agg #[.int .i64 e.piece, .int .i64 e.number]) true).run Tryz.prog w = .ok (.tuple #[.agg #[.int .i64 ((mate p e).getD ⟨0, 0⟩).piece, .int .i64 ((mate p e).getD ⟨0, 0⟩).number], .bool (mate p e).isSome]) w := by
  have := look_ok h e true
  rw [this]
  cases mate p e <;> rfl
theorem zeroBool (w : World) : (zeroValue 4).run Tryz.prog w = .ok (.bool false) w := by kernel_rfl
theorem look_done {w : World} {r : Nat} {kvs : List (Edge × Bool)} {D : List Edge} (h : MapAt evB w r kvs) (hD : ∀ e, lookE kvs e = if e ∈ D then some true else none) (e : Edge) :
    (Instr.lookup 83 (.map (some r)) (.agg #[.int .i64 e.piece, .int .i64 e.number]) false).run Tryz.prog w = .ok (.bool (decide (e ∈ D))) w := by
  have := h.look Tryz.underlying83 e (zeroBool w) false
  rw [hD e] at this
  refine this.trans ?_
  by_cases hd : e ∈ D <;> simp [hd, evB]
theorem undone_pos {p : Pattern} {D : List Edge} {e : Edge} (h : e ∈ openOf p) (hd : ¬ e ∈ D) : 0 < undone p D := by have := undone_cons h hd; omega
set_option maxRecDepth 100000 in
set_option maxHeartbeats 6400000 in
theorem openings_c (p : Pattern) (pa : Option Addr) (pc : Nat) (sa : Option Addr) (sc : Nat) (w : World) (hp : LieP w pa sa p) (hl : totPattern p ≤ 1048576) (ok : Okp p) :
    Calls Tryz.prog 19 #[.agg #[.slice pa p.pieces.length pc, .slice sa p.seams.length sc, .int .i64 p.openings]] w fun en w' => ∃ v, en = .returned v ∧ Own w.heap.size w' 2 v (openings p) ∧ Below w.heap.size w w' := by
  obtain ⟨w1, hw1, V, hs1, hb1⟩ := patW_new p pa pc sa sc w
  obtain ⟨w2, hw2⟩ : ∃ w2, w2 = w1.alloc (.cells #[] 2) := ⟨_, rfl⟩
  have hb2 : Below w1.heap.size w1 w2 := by rw [hw2]; exact new_below _ _
  have hO : Own (w.heap.size + 1) w2 2 (.slice (some ⟨w.heap.size + 1, 0, none⟩) 0 0) ([] : List Int) := by
    rw [hw2, ← hs1]; exact own_new (α := Int) w1 2
  have hs2 : w2.heap.size = w.heap.size + 1 + 1 := by rw [hw2]; simp [hs1]
  have HW := Lib.hid (show (w.alloc (.cells #[.slice pa p.pieces.length pc, .slice sa p.seams.length sc, .int .i64 p.openings] 27)).alloc (.cells #[] 2) = w2 by rw [hw2, hw1])
  replace V := V.below hb2
  have hb : Below w.heap.size w w2 := upw hb1 hb2
  clear hw1 hw2 hs1 hb1 hb2
  have hol := open_length ok
  replace ok := Lib.hid ok
  have HS2 := Lib.hid hs2
  clear hs2
  have hmm := @run_makeMap Tryz.prog
  go_enter Tryz.func19, Tryz.ntmps19
  go_wp2_with fail
  rw [HW.out]
  refine (joined_ok p _ _ _ _ _ (hp.below hb) hl ok.out).mono ?_
  rintro e w3 ⟨rp, rfl, hrp, hM, hb3⟩
  have hrl := hM.lt
  replace hO := hO.later hb3
  replace V := V.below hb3
  replace hb := upw hb hb3
  obtain ⟨w4, hw4⟩ : ∃ w4, w4 = w3.alloc (.map #[] 0) := ⟨_, rfl⟩
  have hb4 : Below w3.heap.size w3 w4 := by rw [hw4]; exact new_below _ _
  have hD : MapAt evB w4 w3.heap.size [] := by rw [hw4]; exact MapAt.new evB w3
  have hwl : w.heap.size < w3.heap.size := by have := HS2.out; omega
  have c0 := V.cell 0 _ rfl
  have c1 := V.cell 1 _ rfl
  have c2 := V.cell 2 _ rfl
  have HW4 := Lib.hid hw4
  replace hO := hO.later hb4
  replace V := V.below hb4
  replace hM := hM.below hb4
  replace hb := upw hb hb4
  have hs4 : w4.heap.size = w3.heap.size + 1 := by rw [hw4]; simp
  clear hw4
  go_wp2_with fail
  clear hmm
  rw [← HW4.out]
  clear c0 c1 c2
  refine (openEdges_c p _ _ _ _ _ (hp.below hb) hl ok.out).mono ?_
  rintro e w5 ⟨g, n, c, rfl, hn, hgl, hgh, hA, hb5⟩
  have hS : St w w5 p pa pc sa sc rp w3.heap.size g w5.heap.size [] (.slice (some ⟨w.heap.size + 1, 0, none⟩) 0 0) [] :=
    ⟨V.below hb5, hM.below hb5, hD.below hb5, hA, hO.later hb5, by have := HS2.out; omega, hrl, by omega, hgh, fun k hk => by
      simp [Value.ownBlock] at hk
      have := HS2.out
      have := hb5.size
      omega, Nat.le_refl _, upw hb hb5⟩
  obtain ⟨rd, hrd⟩ : ∃ rd, rd = w3.heap.size := ⟨_, rfl⟩
  rw [← hrd] at hS
  have hnl : n ≤ 80 := by omega
  have HN := Lib.hid hn
  have HRD := Lib.hid hrd
  replace hS := Lib.hid hS
  clear hrd hn V hM hD hO hb hA hb5 hb4 hb3 hrp hrl hwl hs4 hgl hgh HW HW4 HS2
  go_wp2_with fail
  rw [← HRD.out]
  go_loopw [3, 7, 8, 9, 10, 11, 19] (fun v _ _ _ _ _ i wr => ∃ (k : Nat) (kvs : List (Edge × Bool)) (N : Nat), k ≤ n ∧ i = .int .i64 k ∧ Hid (St w wr p pa pc sa sc rp rd g N kvs v (openTo p k).2) ∧ Hid (∀ e, lookE kvs e = if e ∈ (openTo p k).1 then some true else none) ∧ Hid (kvs.length + undone p (openTo p k).1 ≤ 80)) (fun _ _ _ _ _ _ i _ => n - (intOf i).toNat)
  case atStart => exact ⟨0, [], w5.heap.size, Nat.zero_le _, rfl, hS, Lib.hid (fun e => by simp [openTo, lookE]), Lib.hid (by have := undone_le p []; have := HN.out; simp [openTo]; omega)⟩
  case round =>
    clear hS
    obtain ⟨k, kvs, N, hk, rfl, hS, hD, hU⟩ := hrel
    obtain ⟨wo, rfl⟩ : ∃ wo : World, wo = wr := ⟨_, rfl⟩
    by_cases hlt : k < n
    · have hko : k < (openOf p).length := by rw [← HN.out]; exact hlt
      obtain ⟨c0, c1⟩ := hS.out.opn.edge hko
      simp only [Nat.zero_add] at c0 c1
      obtain ⟨x, hx⟩ : ∃ x, x = (openOf p)[k] := ⟨_, rfl⟩
      have hxo : Hid (x ∈ openOf p) := Lib.hid (by rw [hx]; exact List.getElem_mem _)
      rw [← hx] at c0 c1
      have hT : Hid (openTo p (k + 1) = oneMore p (openTo p k) x) := Lib.hid (by rw [hx]; exact openTo_succ p k hko)
      have hLen := Lib.hid (openTo_length p k (by omega))
      obtain ⟨D0, out, hDO⟩ : ∃ D0 out, openTo p k = (D0, out) := ⟨_, _, rfl⟩
      rw [hDO] at hS hD hU hT hLen
      simp only at hS hD hU hLen
      replace hx := Lib.hid hx
      replace hDO := Lib.hid hDO
      obtain ⟨w6, hw6⟩ : ∃ w6, w6 = (wo.alloc (.cells #[.int .i64 x.piece, .int .i64 x.number] 54)).alloc (.cells #[.int .i64 x.piece, .int .i64 x.number] 54) := ⟨_, rfl⟩
      have hb6 : Below wo.heap.size wo w6 := by rw [hw6]; exact upw (new_below _ _) (new_below _ _)
      have U : Var w6 (wo.heap.size + 1) [.int .i64 x.piece, .int .i64 x.number] := by
        rw [hw6, show wo.heap.size + 1 = (wo.alloc (.cells #[.int .i64 x.piece, .int .i64 x.number] 54)).heap.size by simp]; exact Var.new2 _ _ _ _
      have hs6 : w6.heap.size = wo.heap.size + 1 + 1 := by rw [hw6]; simp
      have hS6 := Lib.hid ((hS.out.below hb6).up (M := wo.heap.size + 1) (by have := hS.out.sz; omega) (by omega))
      have HW6 := Lib.hid hw6
      have hdist : wo.heap.size + 1 ≤ wo.heap.size + 1 := Nat.le_refl _
      clear hw6 hs6
      go_wp2_with fail
      rw [← HW6.out]
      clear c0 c1
      go_loopw [8, 9, 10, 11] (fun s q _ _ wr => ∃ (D : List Edge) (e : Edge) (sI : Int) (b : Nat) (kvs : List (Edge × Bool)) (N : Nat), s = .int .i64 sI ∧ q = .pointer (some ⟨b, 0, none⟩) ∧ Hid (Var wr b [.int .i64 e.piece, .int .i64 e.number]) ∧ N ≤ b ∧ Hid (e ∈ openOf p) ∧ Hid (St w wr p pa pc sa sc rp rd g N kvs u3 out) ∧ Hid (∀ e, lookE kvs e = if e ∈ D then some true else none) ∧ Hid (kvs.length + undone p D ≤ 80) ∧ 0 ≤ sI ∧ sI ≤ 800000 ∧ Hid (sI + 10000 * undone p D ≤ 800000) ∧ Hid (roundOf p D e sI = roundOf p D0 x 0)) (fun _ _ _ _ wr => 81 - mapSize wr rd)
      case atStart => exact ⟨D0, x, 0, wo.heap.size + 1, kvs, wo.heap.size + 1, rfl, rfl, Lib.hid U, hdist, hxo, hS6, hD, hU, by omega, by omega, Lib.hid (by have := hU.out; omega), Lib.hid rfl⟩
      case round =>
        clear hS hD hU U hdist hS6 hb6
        obtain ⟨D, e, sI, b, kvs, N, rfl, rfl, hV, hNb, heo, hS, hD, hU, hs0, hs1, hs2, hR⟩ := hrel
        obtain ⟨w7, rfl⟩ : ∃ w7 : World, w7 = wr := ⟨_, rfl⟩
        have d0 := hV.out.cell 0 _ rfl
        have d1 := hV.out.cell 1 _ rfl
        by_cases hd : e ∈ D
        · have hkd := look_done hS.out.don hD.out e
          rw [decide_eq_true hd] at hkd
          have hRD : Hid (roundOf p D0 x 0 = (D, sI)) := Lib.hid (by rw [← hR.out, roundOf_done hd])
          by_cases hx0 : x ∈ D0
          · have h0 : Hid (D0 = D) := Lib.hid (by have := hRD.out; rw [roundOf_done hx0] at this; exact congrArg Prod.fst this)
            have h1 : sI = 0 := by have := hRD.out; rw [roundOf_done hx0] at this; exact (congrArg Prod.snd this).symm
            subst h1
            have hT1 : Hid (openTo p (k + 1) = (D, out)) := Lib.hid (by rw [hT.out]; unfold oneMore; rw [if_pos hx0, h0.out])
            replace hd := Lib.hid hd
            replace hx0 := Lib.hid hx0
            go_wp2_with fail
            go_roundw
            case rel => exact ⟨k + 1, kvs, N, by omega, by go_num, by rw [hT1.out]; exact hS, by rw [hT1.out]; exact hD, by rw [hT1.out]; exact hU⟩
            case measure => simp [intOf]; omega
          · have hpos : 0 < sI := by have := (round_first (D := D0) ok.out hxo.out).2 hx0; rw [hRD.out] at this; exact this
            have hT1 : Hid (openTo p (k + 1) = (D, out ++ [sI])) := Lib.hid (by rw [hT.out]; unfold oneMore; rw [if_neg hx0, hRD.out])
            replace hd := Lib.hid hd
            replace hx0 := Lib.hid hx0
            have hoB : w.heap.size + 1 ≤ w7.heap.size := by have := hS.out.o1; have := hS.out.o2; have := hS.out.o3; have := hS.out.o4; have := hS.out.sz; omega
            go_wp2_with (at_builtin; refine Hid.out ?_)
            refine Lib.hid ?_
            refine wpList_pushTo rfl (.tmp 58) (.tmp 60) 32 rfl (w.heap.size + 1) 2 (.int .i64 0) 8 Tryz.underlying32 infoInt rfl _ out sI rfl (hS.out.own.later (new_below _ _)) _ _ rfl 2 (heap_alloc_new _ _) (by have := hLen.out; omega) (by decide) (by simp; omega) ?_
            intro g5 cap5 w8 hO8 hg8 hl8
            have hS8 := Lib.hid (hS.out.push (new_below _ _) hO8 hg8 hl8)
            clear hO8 hg8 hl8
            go_wp2_with fail
            go_roundw
            case rel => exact ⟨k + 1, kvs, _, by omega, by go_num, by rw [hT1.out]; exact hS8, by rw [hT1.out]; exact hD, by rw [hT1.out]; exact hU⟩
            case measure => simp [intOf]; omega
        · have hkd := look_done hS.out.don hD.out e
          rw [decide_eq_false hd] at hkd
          obtain ⟨w8, hr8, hM8, hg8⟩ := hS.out.don.update Tryz.underlying83 e true
          simp only [ek, evB] at hr8
          have hS8 := Lib.hid (hS.out.mark hg8 hM8)
          have hrb : some b ≠ some rd := some_ne (by have := hS.out.o3; have := hS.out.o4; omega)
          have hV8 := Lib.hid (hV.out.grown hg8 hrb)
          have hD8 : Hid (∀ d, lookE (putE kvs e true) d = if d ∈ e :: D then some true else none) := Lib.hid (fun d => by
            rw [lookE_put, hD.out d]
            by_cases h : d = e <;> simp [h])
          have hlen8 : Hid ((putE kvs e true).length = kvs.length + 1) := Lib.hid (by
            rw [putE_new (by rw [← lookE_none, hD.out e, if_neg hd])]; simp)
          have hus := undone_cons heo.out hd
          have hU8 : Hid ((putE kvs e true).length + undone p (e :: D) ≤ 80) := Lib.hid (by rw [hlen8.out]; have := hU.out; omega)
          have hms : Hid (mapSize w7 rd = kvs.length) := Lib.hid (mapSize_of hS.out.don)
          have hU7 := Lib.hid (show kvs.length < 80 by have := hU.out; omega)
          have heh := (mem_open.1 heo.out).1
          have hel := edgeLen_in ok.out heh
          have hRs : Hid (roundOf p (e :: D) (follow p e) (sI + edgeLen p e) = roundOf p D0 x 0) := Lib.hid (by rw [← hR.out, roundOf_step ok.out heo.out hd])
          have hfo := Lib.hid (follow_open ok.out heo.out)
          have hNf := Lib.hid (nears_first ok.out heo.out)
          have hsum : sI + edgeLen p e + 10000 * undone p (e :: D) ≤ 800000 := by have := hs2.out; omega
          have hnh := Lib.hid (next_has heh)
          have CL := Lib.hid (fun w' (h : LieP w' pa sa p) => length_c p pa pc sa sc e w' h ok.out heh)
          have CN := Lib.hid (fun w' (h : LieP w' pa sa p) => nextEdge_c p pa pc sa sc e w' h ok.out heh)
          obtain ⟨L, hL⟩ : ∃ L, L = edgeLen p e := ⟨_, rfl⟩
          rw [← hL] at hel hRs hsum CL
          obtain ⟨y, hy⟩ : ∃ y, y = nextE p e := ⟨_, rfl⟩
          rw [← hy] at hNf hnh CN
          obtain ⟨f, hf⟩ : ∃ f, f = follow p e := ⟨_, rfl⟩
          rw [← hf] at hNf hfo hRs
          replace hL := Lib.hid hL
          replace hy := Lib.hid hy
          replace hf := Lib.hid hf
          have hsu : sI + L ≤ 800000 := by omega
          replace hsum := Lib.hid hsum
          replace heh := Lib.hid heh
          replace hd := Lib.hid hd
          replace hus := Lib.hid hus
          have e0 := hV8.out.cell 0 _ rfl
          have e1 := hV8.out.cell 1 _ rfl
          have p0 := hS8.out.box.cell 0 _ rfl
          have p1 := hS8.out.box.cell 1 _ rfl
          have p2 := hS8.out.box.cell 2 _ rfl
          have hML := Lib.hid (hp.below hS8.out.bel)
          clear hM8 hg8
          go_wp2_with fail
          refine (CL.out _ hML.out).mono ?_
          rintro e' w9 ⟨rfl, hb9⟩
          have hS9 := Lib.hid (hS8.out.below hb9)
          have hV9 := Lib.hid (hV8.out.below hb9)
          clear e0 e1 p0 p1 p2 hkd hr8 d0 d1
          have e0 := hV9.out.cell 0 _ rfl
          have e1 := hV9.out.cell 1 _ rfl
          have p0 := hS9.out.box.cell 0 _ rfl
          have p1 := hS9.out.box.cell 1 _ rfl
          have p2 := hS9.out.box.cell 2 _ rfl
          have hML9 := Lib.hid (hp.below hS9.out.bel)
          go_wp2_with fail
          refine (CN.out _ hML9.out).mono ?_
          rintro e' w10 ⟨rfl, hb10⟩
          have hS10 := Lib.hid (hS9.out.below hb10)
          have hV10 := Lib.hid (hV9.out.below hb10)
          clear e0 e1 p0 p1 p2
          have e0 := hV10.out.cell 0 _ rfl
          have e1 := hV10.out.cell 1 _ rfl
          have f0 := hV10.out.free 0 _ rfl
          have f1 := hV10.out.free 1 _ rfl
          have hg11 : w10.grownBy ((w10.setCell ⟨b, 0, none⟩ (.int .i64 y.piece)).setCell ⟨b, 1, none⟩ (.int .i64 y.number)) (some b) := grownBy_trans (grown_setCell _ _ _) (grown_setCell _ _ _)
          have hS11 := Lib.hid (hS10.out.write hg11 hNb)
          have hV11 : Hid (Var ((w10.setCell ⟨b, 0, none⟩ (.int .i64 y.piece)).setCell ⟨b, 1, none⟩ (.int .i64 y.number)) b [.int .i64 y.piece, .int .i64 y.number]) := Lib.hid (by simpa using (hV10.out.set 0 (.int .i64 y.piece) (by simp)).set 1 (.int .i64 y.number) (by simp))
          have hlk := look_pair hS11.out.prs y
          have q0 := hV11.out.cell 0 _ rfl
          have q1 := hV11.out.cell 1 _ rfl
          obtain ⟨z, hz⟩ : ∃ z, z = (mate p y).getD ⟨0, 0⟩ := ⟨_, rfl⟩
          rw [← hz] at hlk
          obtain ⟨w12, hw12⟩ : ∃ w12, w12 = ((w10.setCell ⟨b, 0, none⟩ (.int .i64 y.piece)).setCell ⟨b, 1, none⟩ (.int .i64 y.number)).alloc (.cells #[.int .i64 z.piece, .int .i64 z.number] 54) := ⟨_, rfl⟩
          have hb12 : Below ((w10.setCell ⟨b, 0, none⟩ (.int .i64 y.piece)).setCell ⟨b, 1, none⟩ (.int .i64 y.number)).heap.size ((w10.setCell ⟨b, 0, none⟩ (.int .i64 y.piece)).setCell ⟨b, 1, none⟩ (.int .i64 y.number)) w12 := by rw [hw12]; exact new_below _ _
          have hU12 : Hid (Var w12 w10.heap.size [.int .i64 z.piece, .int .i64 z.number]) := Lib.hid (by
            have e3 : w10.heap.size = ((w10.setCell ⟨b, 0, none⟩ (.int .i64 y.piece)).setCell ⟨b, 1, none⟩ (.int .i64 y.number)).heap.size := by simp
            rw [hw12, e3]; exact Var.new2 _ _ _ _)
          have hS12 := Lib.hid (hS11.out.below hb12)
          have hV12 := Lib.hid (hV11.out.below hb12)
          have hbl : b < w10.heap.size := block_lt_of_cell e0
          have HW12 := Lib.hid hw12
          replace hz := Lib.hid hz
          clear hw12 hb12 hg11
          go_wp2_with fail
          rw [← HW12.out]
          clear e0 e1 f0 f1 hlk q0 q1
          go_loopw [10, 11] (fun q is wr => ∃ (u z : Edge) (b10 : Nat), q = .pointer (some ⟨b10, 0, none⟩) ∧ is = .bool (mate p u).isSome ∧ Hid (Var wr b [.int .i64 u.piece, .int .i64 u.number]) ∧ Hid (Var wr b10 [.int .i64 z.piece, .int .i64 z.number]) ∧ b < b10 ∧ Hid (z = (mate p u).getD ⟨0, 0⟩) ∧ Hid (Nears p u f) ∧ Hid (hasEdge p u = true) ∧ Hid (St w wr p pa pc sa sc rp rd g N (putE kvs e true) u3 out)) (fun _ _ wr => hops p (edgesOf p).length (edgeAt wr b))
          case atStart => exact ⟨y, z, w10.heap.size, rfl, rfl, hV12, hU12, hbl, hz, hNf, hnh, hS12⟩
          case round =>
            clear hS8 hV8 hML hS9 hV9 hML9 hS10 hV10 hS11 hV11 hS12 hV12 hU12 hbl hz hNf hnh CL CN hb9 hb10 hS hV hD
            obtain ⟨u, z, b10, rfl, rfl, hV, hZ, hbb, hz, hN, hu, hS⟩ := hrel
            cases hm : mate p u with
            | none =>
              have hfu : Hid (u = f) := Lib.hid (hN.out.done hm)
              replace hm := Lib.hid hm
              have e0 := hV.out.cell 0 _ rfl
              have e1 := hV.out.cell 1 _ rfl
              have hb13 := new_below wr (.cells #[.int .i64 u.piece, .int .i64 u.number] 54)
              have hV13 := Lib.hid (Var.new2 wr (.int .i64 u.piece) (.int .i64 u.number) 54)
              have hS13 := Lib.hid (hS.out.below hb13)
              have hN13 : N ≤ wr.heap.size := hS.out.sz
              have hms13 := Lib.hid (mapSize_of hS13.out.don)
              clear hb13
              simp only [Option.isSome_none]
              go_wp2_with fail
              go_roundw
              case rel => exact ⟨e :: D, u, sI + L, _, putE kvs e true, N, rfl, rfl, hV13, hN13, by rw [hfu.out]; exact hfo, hS13, hD8, hU8, by omega, by omega, hsum, by rw [hfu.out]; exact hRs⟩
              case measure => have a1 := hms.out; have a2 := hms13.out; have a3 := hlen8.out; have a4 := hU7.out; omega
            | some m =>
              have hst := Lib.hid (hN.out.step hm)
              have hzm : Hid (z = m) := Lib.hid (by rw [hz.out, hm]; rfl)
              have hmh := Lib.hid (mate_has ok.out hm)
              have hnh := Lib.hid (next_has hmh.out)
              replace hm := Lib.hid hm
              rw [hzm.out] at hZ
              have e0 := hV.out.cell 0 _ rfl
              have e1 := hV.out.cell 1 _ rfl
              have z0 := hZ.out.cell 0 _ rfl
              have z1 := hZ.out.cell 1 _ rfl
              have p0 := hS.out.box.cell 0 _ rfl
              have p1 := hS.out.box.cell 1 _ rfl
              have p2 := hS.out.box.cell 2 _ rfl
              have CN := Lib.hid (nextEdge_c p pa pc sa sc m wr (hp.below hS.out.bel) ok.out hmh.out)
              obtain ⟨y, hy⟩ : ∃ y, y = nextE p m := ⟨_, rfl⟩
              rw [← hy] at hst hnh CN
              have hea := Lib.hid (edgeAt_of hV.out)
              replace hy := Lib.hid hy
              simp only [Option.isSome_some]
              go_wp2_with fail
              refine CN.out.mono ?_
              rintro e' w13 ⟨rfl, hb13⟩
              have hS13 := Lib.hid (hS.out.below hb13)
              have hV13 := Lib.hid (hV.out.below hb13)
              have hZ13 := Lib.hid (hZ.out.below hb13)
              clear e0 e1 z0 z1 p0 p1 p2
              have e0 := hV13.out.cell 0 _ rfl
              have e1 := hV13.out.cell 1 _ rfl
              have f0 := hV13.out.free 0 _ rfl
              have f1 := hV13.out.free 1 _ rfl
              have hg14 : w13.grownBy ((w13.setCell ⟨b, 0, none⟩ (.int .i64 y.piece)).setCell ⟨b, 1, none⟩ (.int .i64 y.number)) (some b) := grownBy_trans (grown_setCell _ _ _) (grown_setCell _ _ _)
              have hS14 := Lib.hid (hS13.out.write hg14 hNb)
              have hV14 : Hid (Var ((w13.setCell ⟨b, 0, none⟩ (.int .i64 y.piece)).setCell ⟨b, 1, none⟩ (.int .i64 y.number)) b [.int .i64 y.piece, .int .i64 y.number]) := Lib.hid (by simpa using (hV13.out.set 0 (.int .i64 y.piece) (by simp)).set 1 (.int .i64 y.number) (by simp))
              have hZ14 := Lib.hid (hZ13.out.grown hg14 (some_ne (by omega)))
              have z0 := hZ14.out.cell 0 _ rfl
              have z1 := hZ14.out.cell 1 _ rfl
              obtain ⟨z', hz'⟩ : ∃ z', z' = (mate p y).getD ⟨0, 0⟩ := ⟨_, rfl⟩
              have hb15 := new_below ((w13.setCell ⟨b, 0, none⟩ (.int .i64 y.piece)).setCell ⟨b, 1, none⟩ (.int .i64 y.number)) (.cells #[.int .i64 m.piece, .int .i64 m.number] 54)
              have hS15 := Lib.hid (hS14.out.below hb15)
              have hV15 := Lib.hid (hV14.out.below hb15)
              have hT15 := Var.new2 ((w13.setCell ⟨b, 0, none⟩ (.int .i64 y.piece)).setCell ⟨b, 1, none⟩ (.int .i64 y.number)) (.int .i64 m.piece) (.int .i64 m.number) 54
              have hbl : b < w13.heap.size := block_lt_of_cell e0
              have hsz : ((w13.setCell ⟨b, 0, none⟩ (.int .i64 y.piece)).setCell ⟨b, 1, none⟩ (.int .i64 y.number)).heap.size = w13.heap.size := by simp
              rw [hsz] at hT15
              have hlk := look_pair hS15.out.prs y
              rw [← hz'] at hlk
              have q0 := hV15.out.cell 0 _ rfl
              have q1 := hV15.out.cell 1 _ rfl
              have t0 := hT15.cell 0 _ rfl
              have t1 := hT15.cell 1 _ rfl
              have g0 := hT15.free 0 _ rfl
              have g1 := hT15.free 1 _ rfl
              have hb16 := new_below ((w13.setCell ⟨b, 0, none⟩ (.int .i64 y.piece)).setCell ⟨b, 1, none⟩ (.int .i64 y.number)) (.cells #[.int .i64 z'.piece, .int .i64 z'.number] 54)
              have hS16 := Lib.hid (hS14.out.below hb16)
              have hV16 := Lib.hid (hV14.out.below hb16)
              have hT16 := Var.new2 ((w13.setCell ⟨b, 0, none⟩ (.int .i64 y.piece)).setCell ⟨b, 1, none⟩ (.int .i64 y.number)) (.int .i64 z'.piece) (.int .i64 z'.number) 54
              rw [hsz] at hT16
              replace hT16 := Lib.hid hT16
              have hea16 := Lib.hid (edgeAt_of hV16.out)
              replace hz' := Lib.hid hz'
              clear hb15 hg14 hb16
              go_wp2_with fail
              go_roundw
              case rel => exact ⟨y, z', w13.heap.size, rfl, rfl, hV16, hT16, hbl, hz', Lib.hid hst.out.1, hnh, hS16⟩
              case measure => rw [hea.out, hea16.out]; exact hst.out.2
    · obtain rfl : k = n := by omega
      have hfin : Hid ((openTo p k).2 = openings p) := Lib.hid (by unfold openings; rw [← HN.out])
      rw [hfin.out] at hS
      replace hfin := Lib.hid hfin
      go_wp2_with fail
      go_ret
      exact ⟨_, rfl, hS.out.own.base (Nat.le_succ _), hS.out.bel⟩
end Go.Proofs.YtlmhiocmldhkhaaGreatDoor
