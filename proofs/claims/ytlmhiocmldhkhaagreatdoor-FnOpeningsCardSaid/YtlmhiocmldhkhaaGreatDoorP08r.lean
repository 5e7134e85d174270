/- Chapter 8, patterns: openings, as the reference has them. -/
import Derived.Test.YtlmhiocmldhkhaaGreatDoorP08i
import Derived.Test.YtlmhiocmldhkhaaGreatDoorPartMath
namespace Go.Proofs.YtlmhiocmldhkhaaGreatDoor
open Go.RowKit

instance : Flat Bool := ⟨1, by decide, fun b => [.bool b], fun _ => rfl, fun x u h => by simp at h; subst h; rfl, fun _ => True⟩
theorem At.bool {w : World} {b off : Nat} {xs : List Bool} (h : At w (some ⟨b, off, none⟩) xs) {i : Nat} (hi : i < xs.length) : w.cell? ⟨b, off + i, none⟩ = some (.bool xs[i]) := by
  obtain ⟨cs, hr, hc⟩ := h.elem hi
  have h0 := hc 0 (.bool xs[i]) (by rw [hr]; rfl)
  simpa [Rep.k, Flat.k] using h0
def isF : Option Value → Bool
  | some (.bool b) => !b
  | _ => false
/-- How many places of a row are not marked. -/
def countF (w : World) (b n : Nat) : Nat := (List.range n).countP fun j => isF (w.cell? ⟨b, j, none⟩)
theorem countF_lt {w w' : World} {b n : Nat} {xs ys : List Bool} (h : At w (some ⟨b, 0, none⟩) xs) (h' : At w' (some ⟨b, 0, none⟩) ys) (hn : n = xs.length) (hl : ys.length = xs.length) {k : Nat} (hk : k < xs.length) (hx : xs[k] = false) (hy : ys = xs.set k true) : countF w' b n < countF w b n := by
  subst hy
  unfold countF
  refine countP_lt (x := k) (List.mem_range.2 (by omega)) (fun j hj hp => ?_) ?_ ?_
  · rw [List.mem_range] at hj
    have a := h.bool (i := j) (by omega)
    have b := h'.bool (i := j) (by omega)
    rw [Nat.zero_add] at a b
    rw [a]; rw [b] at hp
    simp only [isF] at hp ⊢
    rw [List.getElem_set] at hp
    split at hp
    · simp at hp
    · exact hp
  · have b := h'.bool (i := k) (by omega)
    rw [Nat.zero_add] at b
    rw [b, List.getElem_set_self]; rfl
  · have a := h.bool (i := k) hk
    rw [Nat.zero_add] at a
    rw [a, hx]; rfl
theorem nodup_inj {α : Type} {l : List α} (hn : l.Nodup) {i j : Nat} (hi : i < l.length) (hj : j < l.length) (h : l[i] = l[j]) : i = j := by
  have hp := List.pairwise_iff_getElem.1 hn
  rcases Nat.lt_trichotomy i j with h1 | h1 | h1
  · exact absurd h (hp i j hi hj h1)
  · exact h1
  · exact absurd h.symm (hp j i hj hi h1)
def seenL (p : Pattern) (D : List Edge) : List Bool := (openOf p).map fun e => decide (e ∈ D)
theorem seenL_length (p : Pattern) (D : List Edge) : (seenL p D).length = (openOf p).length := by simp [seenL]
theorem seenL_get (p : Pattern) (D : List Edge) (k : Nat) (h : k < (seenL p D).length) (h' : k < (openOf p).length) : (seenL p D)[k] = decide ((openOf p)[k] ∈ D) := by simp [seenL]
theorem seenL_set (p : Pattern) (D : List Edge) (k : Nat) (h : k < (openOf p).length) : (seenL p D).set k true = seenL p ((openOf p)[k] :: D) := by
  apply List.ext_getElem
  · simp [seenL_length]
  · intro j h1 h2
    have hj : j < (openOf p).length := by rw [seenL_length] at h2; exact h2
    rw [List.getElem_set, seenL_get p _ j h2 hj, seenL_get p D j (by rw [seenL_length]; exact hj) hj]
    by_cases hkj : k = j
    · subst hkj; simp
    · rw [if_neg hkj]
      have : (openOf p)[j] ≠ (openOf p)[k] := fun e => hkj (nodup_inj (open_nodup p) hj h e).symm
      simp [this]
theorem seenL_nil (p : Pattern) : seenL p [] = List.replicate (openOf p).length false := by
  apply List.ext_getElem
  · simp [seenL]
  · intro i h1 h2; simp [seenL]
theorem openSome_all (p : Pattern) : openSome p (edgesOf p) = (openOf p).map eL := rfl
theorem openSome_get (p : Pattern) (k : Nat) (h : k < (openSome p (edgesOf p)).length) (h' : k < (openOf p).length) : (openSome p (edgesOf p))[k] = eL (openOf p)[k] := by
  simp only [openSome_all, List.getElem_map]
/-- What stands while the reference goes round openings. -/
structure Sp (w wr : World) (p : Pattern) (v : Value) (rs : List RawL) (bs n cb : Nat) (D : List Edge) (vo : Value) (out : List Int) : Prop where
  lst : OwnLists w.heap.size wr v rs (openSome p (edgesOf p))
  seen : Own w.heap.size wr 4 (.slice (some ⟨bs, 0, none⟩) n cb) (seenL p D)
  own : Own w.heap.size wr 2 vo out
  far : ∀ k, vo.ownBlock = some k → bs < k
  old : ∀ k, (v.ownBlock = some k ∨ ∃ r ∈ rs, blkL r = some k) → k < bs
  bel : Below w.heap.size w wr
variable {w wr w' : World} {p : Pattern} {v : Value} {rs : List RawL} {bs n cb : Nat} {D : List Edge} {vo : Value} {out : List Int}
theorem Sp.below (h : Sp w wr p v rs bs n cb D vo out) (hb : Below wr.heap.size wr w') : Sp w w' p v rs bs n cb D vo out :=
  ⟨h.lst.later hb, h.seen.later hb, h.own.later hb, h.far, h.old, upw h.bel hb⟩
theorem lists_kept {B : Nat} {xss : List (List Int)} {row : Option Nat} (h : OwnLists B wr v rs xss) (hg : wr.grownBy w' row) (ho : ∀ k, (v.ownBlock = some k ∨ ∃ r ∈ rs, blkL r = some k) → some k ≠ row) : OwnLists B w' v rs xss := by
  refine ⟨h.row.kept hg ?_, h.len, h.apart, fun i h1 h2 => ⟨(h.each i h1 h2).1, (h.each i h1 h2).2.kept hg ?_⟩, h.far⟩
  · cases hk : v.ownBlock with
    | none => exact Or.inl rfl
    | some k => exact Or.inr (ho k (Or.inl hk))
  · cases hk : (Value.slice rs[i].a rs[i].n rs[i].c).ownBlock with
    | none => exact Or.inl rfl
    | some k => exact Or.inr (ho k (Or.inr ⟨_, List.getElem_mem h1, hk⟩))
theorem Sp.mark (h : Sp w wr p v rs bs n cb D vo out) {D' : List Edge} (hg : wr.grownBy w' (some bs)) (hO : Own w.heap.size w' 4 (.slice (some ⟨bs, 0, none⟩) n cb) (seenL p D')) : Sp w w' p v rs bs n cb D' vo out := by
  refine ⟨lists_kept h.lst hg (fun k hk => some_ne (by have := h.old k hk; omega)), hO, h.own.kept hg ?_, h.far, h.old, below_mark h.bel h.seen (Nat.le_refl _) hg⟩
  cases hk : vo.ownBlock with
  | none => exact Or.inl rfl
  | some k => exact Or.inr (some_ne (by have := h.far k hk; omega))
theorem Sp.push {w1 w2 : World} {z : Int} {g5 c5 n5 : Nat} (h : Sp w wr p v rs bs n cb D vo out) (hb1 : Below wr.heap.size wr w1) (hO : Own w.heap.size w2 2 (.slice (some ⟨g5, 0, none⟩) n5 c5) (out ++ [z])) (hg : w1.grownBy w2 vo.ownBlock) (hl : vo.ownBlock = some g5 ∨ g5 = w1.heap.size) :
    Sp w w2 p v rs bs n cb D (.slice (some ⟨g5, 0, none⟩) n5 c5) (out ++ [z]) := by
  have k1 := h.below hb1
  have hbl := (h.seen.lt bs rfl).2
  have h6 := hb1.size
  refine ⟨lists_kept k1.lst hg (fun k hk e => by have := h.old k hk; have := h.far k e.symm; omega), k1.seen.kept hg (Or.inr (fun e => by have := h.far bs e.symm; omega)), hO, fun k hk => ?_, h.old, below_mark k1.bel k1.own (Nat.le_refl _) hg⟩
  simp [Value.ownBlock] at hk
  subst hk
  rcases hl with hl | hl
  · exact h.far _ hl
  · omega
/-- Where an open edge stands in the list. -/
theorem At.openE {w : World} {b : Nat} (h : At w (some ⟨b, 0, none⟩) (openSome p (edgesOf p))) {k : Nat} (hk : k < (openOf p).length) :
    ∃ a o c, w.cell? ⟨b, k, none⟩ = some (.slice (some ⟨a, o, none⟩) 2 c) ∧ w.cell? ⟨a, o, none⟩ = some (.int .i64 (openOf p)[k].piece) ∧ w.cell? ⟨a, o + 1, none⟩ = some (.int .i64 (openOf p)[k].number) := by
  have hk' : k < (openSome p (edgesOf p)).length := by rw [openSome_all, List.length_map]; exact hk
  obtain ⟨a, c, hc, hA⟩ := h.ints hk'
  have he := openSome_get p k hk' hk
  rw [he] at hc hA
  obtain ⟨a1, o, rfl⟩ := hA.addr (i := 0) (by simp [eL])
  have h0 := hA.int (i := 0) (by simp [eL])
  have h1 := hA.int (i := 1) (by simp [eL])
  exact ⟨a1, o, c, by simpa [eL] using hc, by simpa [eL] using h0, by simpa [eL] using h1⟩
theorem infoBool : (Tryz.prog.info? 4).map (fun i => (i.zero, i.size, i.bytes)) = some (some (.bool false), 1, 1) := by kernel_rfl
set_option maxRecDepth 100000 in
set_option maxHeartbeats 6400000 in
theorem l08Openings_c (p : Pattern) (b : Nat) (pa : Option Addr) (pc : Nat) (sa : Option Addr) (sc : Nat) (w : World) (hP : PatV w b pa pc sa sc p) (hl : totPattern p ≤ 1048576) (ok : Okp p) :
    Calls Tryz.prog 33 #[.pointer (some ⟨b, 0, none⟩)] w fun en w' => ∃ v, en = .returned v ∧ Own w.heap.size w' 2 v (openings p) ∧ Below w.heap.size w w' := by
  obtain ⟨i0, hi, hz0, hz1, hz2⟩ := info_parts infoBool
  have hol := open_length ok
  have HP := Lib.hid hP
  have H0 := Lib.hid (l08Open_c p b pa pc sa sc w hP hl ok)
  replace ok := Lib.hid ok
  clear hP
  go_enter Tryz.func33, Tryz.ntmps33
  go_wp2_with fail
  refine H0.out.mono ?_
  rintro e w1 ⟨v, rs, rfl, hO, hb1⟩
  obtain ⟨a, c, rfl, _⟩ := hO.at
  have hxl : (openSome p (edgesOf p)).length = (openOf p).length := by rw [openSome_all, List.length_map]
  rw [hxl] at hO ⊢
  obtain ⟨n, hn⟩ : ∃ n, n = (openOf p).length := ⟨_, rfl⟩
  rw [← hn] at hO hol ⊢
  have HN := Lib.hid hn
  have HX := Lib.hid hxl
  have hold : ∀ k, ((Value.slice a n c).ownBlock = some k ∨ ∃ r ∈ rs, blkL r = some k) → k < w1.heap.size := fun k hk => by
    rcases hk with hk | ⟨r, hr, hk⟩
    · exact (hO.row.lt k hk).2
    · obtain ⟨i, hi, rfl⟩ := List.mem_iff_getElem.1 hr
      exact ((hO.each i hi (by rw [← hO.len]; exact hi)).2.lt k hk).2
  clear hn hxl
  have hsz1 := hb1.size
  go_wp2_with (at_make; refine wpList_make_full _ rfl (.tmp 15) (.tmp 15) 106 rfl w1.heap.size 4 i0 (.bool false) 1 Tryz.underlying106 hi hz0 hz1 .i64 .i64 _ _ n rfl rfl rfl rfl (by rw [hz2]; omega) (by unfold maxLen; omega) (Nat.le_refl _) ?_; intro w2 hown hg; refine Hid.out ?_)
  have hb2 : Below w1.heap.size w1 w2 := (Below.refl _ _).grown hg (Nat.le_refl _) (by simp)
  have HS : Own w1.heap.size w2 4 (.slice (some ⟨w1.heap.size, 0, none⟩) n n) (seenL p []) := by
    rw [seenL_nil, ← HN.out]
    unfold Own; rw [List.length_replicate, ← made_flat false _ rfl]; exact hown
  have hsl := (HS.lt w1.heap.size rfl).2
  have hS : Sp w (w2.alloc (.cells #[] 2)) p (.slice a n c) rs w1.heap.size n n [] (.slice (some ⟨w2.heap.size, 0, none⟩) 0 0) [] :=
    ⟨(hO.later hb2).later (new_below _ _), (HS.base hsz1).later (new_below _ _), (own_new w2 _).base (by have := hb2.size; omega), fun k hk => by simp [Value.ownBlock] at hk; omega, hold, upw (upw hb1 hb2) (new_below _ _)⟩
  replace hS := Lib.hid hS
  obtain ⟨bs, hbs⟩ : ∃ bs, bs = w1.heap.size := ⟨_, rfl⟩
  rw [← hbs] at hS ⊢
  clear hown hg hb2 HS hsl hold hO hbs hb1 hsz1 hi hz0 hz1 hz2
  refine Lib.hid ?_
  go_wp2_with fail
  go_loopw [5, 6, 7, 8, 9, 10, 11] (fun vo i _ _ _ _ _ wr => ∃ k : Nat, k ≤ n ∧ i = .int .i64 k ∧ Hid (Sp w wr p (.slice a n c) rs bs n n (openTo p k).1 vo (openTo p k).2)) (fun _ i _ _ _ _ _ _ => n - (intOf i).toNat)
  case atStart => exact ⟨0, Nat.zero_le _, rfl, hS⟩
  case round =>
    clear hS
    obtain ⟨k, hk, rfl, hS⟩ := hrel
    obtain ⟨wo, rfl⟩ : ∃ wo : World, wo = wr := ⟨_, rfl⟩
    by_cases hlt : k < n
    · have hko : k < (openOf p).length := by rw [← HN.out]; exact hlt
      obtain ⟨x, hx⟩ : ∃ x, x = (openOf p)[k] := ⟨_, rfl⟩
      have hxo : Hid (x ∈ openOf p) := Lib.hid (by rw [hx]; exact List.getElem_mem _)
      have hT : Hid (openTo p (k + 1) = oneMore p (openTo p k) x) := Lib.hid (by rw [hx]; exact openTo_succ p k hko)
      have hLen := Lib.hid (openTo_length p k (by omega))
      obtain ⟨D0, out, hDO⟩ : ∃ D0 out, openTo p k = (D0, out) := ⟨_, _, rfl⟩
      rw [hDO] at hS hT hLen
      simp only at hS hLen
      have hsk : k < (seenL p D0).length := by rw [seenL_length]; exact hko
      have c0 := hS.out.seen.at'.bool hsk
      rw [seenL_get p D0 k hsk hko, Nat.zero_add, ← hx] at c0
      have HXx := Lib.hid hx
      replace hx := Lib.hid hx
      replace hDO := Lib.hid hDO
      by_cases hx0 : x ∈ D0
      · rw [decide_eq_true hx0] at c0
        have hT1 : Hid (openTo p (k + 1) = (D0, out)) := Lib.hid (by rw [hT.out]; unfold oneMore; rw [if_pos hx0])
        replace hx0 := Lib.hid hx0
        go_wp2_with fail
        go_roundw
        case rel => exact ⟨k + 1, by omega, by go_num, by rw [hT1.out]; exact hS⟩
        case measure => simp [intOf]; omega
      · rw [decide_eq_false hx0] at c0
        have hT1 : Hid (openTo p (k + 1) = ((roundOf p D0 x 0).1, out ++ [(roundOf p D0 x 0).2])) := Lib.hid (by rw [hT.out]; unfold oneMore; rw [if_neg hx0])
        replace hx0 := Lib.hid hx0
        go_wp2_with fail
        clear c0
        go_loopw [7, 8, 9, 10, 11] (fun s q _ _ _ wr => ∃ (D : List Edge) (sI : Int) (m : Nat), s = .int .i64 sI ∧ q = .int .i64 m ∧ m < n ∧ Hid (Sp w wr p (.slice a n c) rs bs n n D u5 out) ∧ 0 ≤ sI ∧ sI ≤ 800000 ∧ Hid (sI + 10000 * undone p D ≤ 800000) ∧ Hid (∀ h : m < (openOf p).length, roundOf p D (openOf p)[m] sI = roundOf p D0 x 0)) (fun _ _ _ _ _ wr => countF wr bs n)
        case atStart => exact ⟨D0, 0, k, rfl, rfl, hlt, hS, by omega, by omega, Lib.hid (by have := undone_le p D0; have := HN.out; omega), Lib.hid (fun h => by rw [← HXx.out])⟩
        case round =>
          clear hS
          obtain ⟨D, sI, m, rfl, rfl, hm, hS, hs0, hs1, hs2, hR⟩ := hrel
          obtain ⟨w7, rfl⟩ : ∃ w7 : World, w7 = wr := ⟨_, rfl⟩
          have hmo : m < (openOf p).length := by rw [← HN.out]; exact hm
          have hsm : m < (seenL p D).length := by rw [seenL_length]; exact hmo
          have c0 := hS.out.seen.at'.bool hsm
          rw [seenL_get p D m hsm hmo, Nat.zero_add] at c0
          obtain ⟨e, he⟩ : ∃ e, e = (openOf p)[m] := ⟨_, rfl⟩
          rw [← he] at c0
          have hR1 : Hid (roundOf p D e sI = roundOf p D0 x 0) := Lib.hid (by rw [he]; exact hR.out hmo)
          by_cases hd : e ∈ D
          · rw [decide_eq_true hd] at c0
            have hRD : Hid (roundOf p D0 x 0 = (D, sI)) := Lib.hid (by rw [← hR1.out, roundOf_done hd])
            have hT2 : Hid (openTo p (k + 1) = (D, out ++ [sI])) := Lib.hid (by rw [hT1.out, hRD.out])
            replace hd := Lib.hid hd
            replace he := Lib.hid he
            have hoB : w.heap.size ≤ w7.heap.size := hS.out.bel.size
            go_wp2_with (at_builtin; refine Hid.out ?_)
            refine Lib.hid ?_
            refine wpList_pushTo rfl (.tmp 102) (.tmp 104) 32 rfl w.heap.size 2 (.int .i64 0) 8 Tryz.underlying32 infoInt rfl _ out sI rfl (hS.out.own.later (new_below _ _)) _ _ rfl 2 (heap_alloc_new _ _) (by have := hLen.out; omega) (by decide) (by simp; omega) ?_
            intro g5 cap5 w8 hO8 hg8 hl8
            have hS8 := Lib.hid (hS.out.push (new_below _ _) hO8 hg8 hl8)
            clear hO8 hg8 hl8
            go_wp2_with fail
            go_roundw
            case rel => exact ⟨k + 1, by omega, by go_num, by rw [hT2.out]; exact hS8⟩
            case measure => simp [intOf]; omega
          · rw [decide_eq_false hd] at c0
            have heo : e ∈ openOf p := by rw [he]; exact List.getElem_mem _
            have heh := (mem_open.1 heo).1
            have hus := undone_cons heo hd
            have hel := edgeLen_in ok.out heh
            have hRs : Hid (roundOf p (e :: D) (follow p e) (sI + edgeLen p e) = roundOf p D0 x 0) := Lib.hid (by rw [← hR1.out, roundOf_step ok.out heo hd])
            have hsum : sI + edgeLen p e + 10000 * undone p (e :: D) ≤ 800000 := by have := hs2.out; omega
            have hset : Hid ((seenL p D).set m true = seenL p (e :: D)) := Lib.hid (by rw [he]; exact seenL_set p D m hmo)
            have hsf : Hid ((seenL p D)[m] = false) := Lib.hid (by rw [seenL_get p D m hsm hmo, ← he]; exact decide_eq_false hd)
            have hfo := follow_open ok.out heo
            obtain ⟨mf, hmf, hmfe⟩ := List.mem_iff_getElem.1 hfo
            have hmfn : mf < n := by rw [HN.out]; exact hmf
            have hRf : Hid (∀ h : mf < (openOf p).length, roundOf p (e :: D) (openOf p)[mf] (sI + edgeLen p e) = roundOf p D0 x 0) := Lib.hid (fun h => by rw [hmfe]; exact hRs.out)
            have HF := Lib.hid (fun w' (h : PatV w' b pa pc sa sc p) => l08Follow_c p b pa pc sa sc e w' h hl ok.out heo)
            obtain ⟨i, j, hij, hpi, hpj⟩ := hasEdge_get heh
            have hELij : edgeLen p e = (p.pieces[i]).edges[j] := by rw [hij]; exact edgeLen_get hpi hpj
            have hep : e.piece = i := by rw [hij]
            have hen : e.number = j := by rw [hij]
            have hpl := ok.out.n10
            have hpe := (ok.out.len _ (List.getElem_mem hpi)).2
            have hel2 := Lib.hid (by rw [HN.out]; exact (seenL_length p D).symm : n = (seenL p D).length)
            obtain ⟨L, hL⟩ : ∃ L, L = edgeLen p e := ⟨_, rfl⟩
            rw [← hL] at hel hsum hRf hELij
            obtain ⟨f, hf⟩ : ∃ f, f = follow p e := ⟨_, rfl⟩
            rw [← hf] at hmfe HF
            have hmu : ∀ j (h : j < (openOf p).length), (openOf p)[j].piece = f.piece ∧ (openOf p)[j].number = f.number → j = mf := fun j h hh => by
              have : (openOf p)[j] = (openOf p)[mf] := by
                rw [hmfe]
                exact Edge.ext hh.1 hh.2
              exact nodup_inj (open_nodup p) h hmf this
            replace hmu := Lib.hid hmu
            replace hmfe := Lib.hid hmfe
            replace hf := Lib.hid hf
            replace hL := Lib.hid hL
            have hsu : sI + L ≤ 800000 := by omega
            replace hsum := Lib.hid hsum
            replace heo := Lib.hid heo
            replace heh := Lib.hid heh
            replace hd := Lib.hid hd
            replace hus := Lib.hid hus
            replace he := Lib.hid he
            clear hRs hfo
            replace hij := Lib.hid hij
            replace hELij := Lib.hid hELij
            go_wp2_with (refine wpList_store_own rfl 4 (.tmp 36) (.const (.bool true)) rfl w.heap.size 4 _ _ _ (seenL p D) m _ true rfl (by simp [Flat.k]) rfl (by kernel_rfl) hel2.out hS.out.seen hsm ?_; intro w8 hO8 hg8; refine Hid.out ?_)
            rw [hset.out] at hO8
            have hS7 := Lib.hid hS.out
            have hS8 := Lib.hid (hS.out.mark hg8 hO8)
            clear hO8 hg8 c0 hS
            have hP8 := Lib.hid (HP.out.below hS8.out.bel)
            obtain ⟨al, ol, hal⟩ : ∃ al ol, a = some ⟨al, ol, none⟩ := (hS8.out.lst.at').addr (i := m) (by rw [HX.out, ← HN.out]; exact hm)
            have hol0 : ol = 0 := by
              rcases hS8.out.lst.row.cases with ⟨h, _⟩ | ⟨g, cc, h⟩
              · simp only [Value.slice.injEq] at h
                rw [hal] at h; cases h.1
              · simp only [Value.slice.injEq] at h
                rw [hal] at h
                simp only [Option.some.injEq, Addr.mk.injEq, and_true] at h
                exact h.1.2
            subst hol0
            subst hal
            obtain ⟨la, lo, lc, l0, l1, l2⟩ := hS8.out.lst.at'.openE (p := p) hmo
            rw [← he.out, hep] at l1
            rw [← he.out, hen] at l2
            obtain ⟨pb, poff, eb, eo, ec, hpaE, hbl, h1, h2⟩ := hP8.out.lie.edgeV hpi hpj
            have p0 := hP8.out.c0
            rw [← hELij.out] at h2
            rw [hpaE] at p0
            replace hpaE := Lib.hid hpaE
            replace p0 := rg p0
            replace h1 := rg h1
            replace h2 := rg h2
            replace l0 := rg l0
            replace l1 := rg l1
            replace l2 := rg l2
            rw [hep, hen] at HF
            replace hep := Lib.hid hep
            replace hen := Lib.hid hen
            have hb : Below w8.heap.size w8 w8 := Below.refl _ _
            refine Lib.hid ?_
            go_wp2_with fail
            refine wp_region_quiet_below (by kernel_rfl) (by kernel_rfl) ?_
            repeat (go_big_quiet_step ((fail)))
            refine wpQuiet_nil ?_
            intro w2 hw'
            replace hb := upw hb (grown_of hw')
            have hw2 := grown_of hw'
            clear hw'
            have hS9 := Lib.hid (hS8.out.below hw2)
            have hP9 := Lib.hid (hP8.out.below hw2)
            clear p0 h1 h2 l0 l1 l2 hbl hw2
            obtain ⟨la, lo, lc, l0, l1, l2⟩ := hS9.out.lst.at'.openE (p := p) hmo
            rw [← he.out, hep.out] at l1
            rw [← he.out, hen.out] at l2
            replace l0 := rg l0
            replace l1 := rg l1
            replace l2 := rg l2
            replace hb := Below.refl w2.heap.size w2
            go_wp2_with fail
            refine wp_region_quiet_below (by kernel_rfl) (by kernel_rfl) ?_
            repeat (go_big_quiet_step ((go_at_call 65; exact Calls.regrown_of (HF.out _ (hP9.out.below (grown_of ⟨⟨_, _⟩, rfl⟩))))))
            refine wpQuiet_nil ?_
            intro w2 hw'
            replace hb := upw hb (grown_of hw')
            have hw2 := grown_of hw'
            clear hw'
            have hS10 := Lib.hid (hS9.out.below hw2)
            clear l0 l1 l2 hw2 hb
            go_wp2_with fail
            go_loopw [8, 11] (fun q jv wr => ∃ (jn kq : Nat), q = .int .i64 kq ∧ jv = .int .i64 jn ∧ jn ≤ n ∧ kq < n ∧ Hid (mf < jn → kq = mf) ∧ Hid (Sp w wr p (.slice (some ⟨al, 0, none⟩) n c) rs bs n n (e :: D) u5 out)) (fun _ jv _ => n - (intOf jv).toNat)
            case atStart => exact ⟨0, m, rfl, rfl, Nat.zero_le _, hm, Lib.hid (fun h => absurd h (Nat.not_lt_zero _)), hS10⟩
            case round =>
              clear hS8 hP8 hS9 hP9 hS10
              obtain ⟨jn, kq, rfl, rfl, hjn, hkq, hmk, hS⟩ := hrel
              by_cases hjl : jn < n
              · have hjo : jn < (openOf p).length := by rw [← HN.out]; exact hjl
                obtain ⟨la, lo, lc, l0, l1, l2⟩ := hS.out.lst.at'.openE (p := p) hjo
                obtain ⟨q, hq⟩ : ∃ q, q = (openOf p)[jn] := ⟨_, rfl⟩
                have hmq : Hid (q.piece = f.piece ∧ q.number = f.number → jn = mf) := Lib.hid (by rw [hq]; exact hmu.out jn hjo)
                have hmq2 : Hid (jn = mf → q = f) := Lib.hid (fun h => by rw [hq, ← hmfe.out]; simp only [h])
                rw [← hq] at l1 l2
                replace hq := Lib.hid hq
                cases t1 : q.piece == f.piece
                · have hne : Hid (jn ≠ mf) := Lib.hid (fun h => by rw [hmq2.out h] at t1; simp at t1)
                  go_wp2_with fail
                  go_roundw
                  case rel => exact ⟨jn + 1, kq, rfl, by go_num, by omega, hkq, Lib.hid (fun h => hmk.out (by have := hne.out; omega)), hS⟩
                  case measure => simp [intOf]; omega
                · cases t2 : q.number == f.number
                  · have hne : Hid (jn ≠ mf) := Lib.hid (fun h => by rw [hmq2.out h] at t2; simp at t2)
                    go_wp2_with fail
                    go_roundw
                    case rel => exact ⟨jn + 1, kq, rfl, by go_num, by omega, hkq, Lib.hid (fun h => hmk.out (by have := hne.out; omega)), hS⟩
                    case measure => simp [intOf]; omega
                  · have he2 : Hid (jn = mf) := Lib.hid (hmq.out ⟨by simpa using t1, by simpa using t2⟩)
                    go_wp2_with fail
                    go_roundw
                    case rel => exact ⟨jn + 1, jn, rfl, by go_num, by omega, hjl, Lib.hid (fun _ => he2.out), hS⟩
                    case measure => simp [intOf]; omega
              · obtain rfl : jn = n := by omega
                have hkm : Hid (kq = mf) := Lib.hid (hmk.out hmfn)
                go_wp2_with fail
                go_roundw
                case rel => exact ⟨e :: D, sI + L, kq, rfl, rfl, hkq, hS, by omega, by omega, hsum, by rw [hkm.out]; exact hRf⟩
                case measure => exact countF_lt hS7.out.seen.at' hS.out.seen.at' hel2.out (by rw [seenL_length, seenL_length]) hsm hsf.out hset.out.symm
    · obtain rfl : k = n := by omega
      have hfin : Hid ((openTo p k).2 = openings p) := Lib.hid (by unfold openings; rw [← HN.out])
      rw [hfin.out] at hS
      replace hfin := Lib.hid hfin
      go_wp2_with fail
      go_ret
      exact ⟨_, rfl, hS.out.own, hS.out.bel⟩
end Go.Proofs.YtlmhiocmldhkhaaGreatDoor
