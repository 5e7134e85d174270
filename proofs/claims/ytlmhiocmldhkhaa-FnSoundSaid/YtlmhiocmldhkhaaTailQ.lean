/- A region that draws its order, some operations of which only read (callees may lay new blocks), and whose other operations wait for all of those, one for another: the first are walked once, quietly, in an order of the prover's choice, the others in theirs, whatever they do. Nothing of the program stands here. -/
import Derived.Test.YtlmhiocmldhkhaaTail
namespace Go.Proofs.Ytlmhiocmldhkhaa
open Go.RowKit

section
variable {P : Program} {ops : Array Oper} {md : Region.Mode} {C : World → Prop}

def tailQ (md : Region.Mode) (ops : Array Oper) (q p : List Nat) : Bool := p.all fun j => q.all fun k => waits md ops ops.size j k
/-- Whatever is not listed is of the ones or of the others. -/
def Parted (listed : Array Bool) (q p : List Nat) : Prop := ∀ j, listed.getD j true = false → j ∈ q ∨ j ∈ p
theorem Parted.set {listed : Array Bool} {q p : List Nat} (h : Parted listed q p) (i : Nat) : Parted (listed.setIfInBounds i true) q p := fun j hj => by
  by_cases hij : i = j
  · subst hij
    have : (listed.setIfInBounds i true).getD i true = true := by
      by_cases hs : i < listed.size <;> simp [hs]
    rw [this] at hj; cases hj
  · rw [getD_set_ne true hij] at hj; exact h j hj
theorem tailQ_spec {listed : Array Bool} {q p : List Nat} {j k : Nat} (hB : tailQ md ops q p = true) (hP : Parted listed q p) (hc : Closed md ops listed) (hn : ¬ j ∈ q) (hj : j ∈ Region.ready md ops listed) (hk : k ∈ q) : listed.getD k true = true := by
  obtain ⟨hun, o, ho, hall⟩ := mem_ready.1 hj
  simp only [tailQ, List.all_eq_true] at hB
  have h := waits_spec hc ops.size j o ho hall (hB j ((hP j hun).resolve_left hn) k hk)
  by_cases hs : k < listed.size
  · simp [hs] at h ⊢; exact h
  · simp [hs] at h

/-- How many of some are not listed. -/
def cntQ (listed : Array Bool) : List Nat → Nat
  | [] => 0
  | k :: l => cntQ listed l + if listed.getD k true = false then 1 else 0
theorem cntQ_far {listed : Array Bool} {i : Nat} : ∀ {q : List Nat}, ¬ i ∈ q → cntQ (listed.setIfInBounds i true) q = cntQ listed q
  | [], _ => rfl
  | k :: l, h => by
    simp only [List.mem_cons, not_or] at h
    simp only [cntQ]; rw [cntQ_far h.2, getD_set_ne true h.1]
theorem cntQ_set {listed : Array Bool} {i : Nat} (hi : listed.getD i true = false) : ∀ {q : List Nat}, q.Nodup → i ∈ q → cntQ (listed.setIfInBounds i true) q + 1 = cntQ listed q
  | [], _, h => absurd h (by simp)
  | k :: l, hd, h => by
    simp only [cntQ]
    obtain ⟨hk, hd⟩ := List.nodup_cons.1 hd
    by_cases hin : i = k
    · subst hin
      have : (listed.setIfInBounds i true).getD i true = true := by
        by_cases hs : i < listed.size <;> simp [hs]
      rw [cntQ_far hk, this, hi]; simp
    · rw [getD_set_ne true hin]
      have hm : i ∈ l := by
        rcases List.mem_cons.1 h with h | h
        · exact absurd h hin
        · exact h
      have := cntQ_set hi hd hm
      omega
theorem cntQ_pos {listed : Array Bool} {i : Nat} {q : List Nat} (hi : listed.getD i true = false) (hd : q.Nodup) (h : i ∈ q) : 1 ≤ cntQ listed q := by have := cntQ_set hi hd h; omega
theorem cntQ_two {listed : Array Bool} {i j : Nat} {q : List Nat} (hi : listed.getD i true = false) (hj : listed.getD j true = false) (hij : i ≠ j) (hd : q.Nodup) (h1 : i ∈ q) (h2 : j ∈ q) : 2 ≤ cntQ listed q := by
  have := cntQ_set hi hd h1
  have := cntQ_pos (listed := listed.setIfInBounds i true) (i := j) (by rw [getD_set_ne true hij]; exact hj) hd h2
  omega

theorem wpAnyQ_first {T : Array Bool → Act → Prop} {q p : List Nat} {i : Nat} {oi : Oper} {v : Value} (hd : q.Nodup) (hi : ops[i]? = some oi) (hsel : ∀ (j : Nat) (o : Oper) cs b, ops[j]? = some o → o.op ≠ .select cs b) (hin : i ∈ q) (hB : tailQ md ops q p = true) :
    ∀ (fuel : Nat) (listed : Array Bool) (a : Act), Parted listed q p → Closed md ops listed → cntQ listed q = fuel + 1 →
      (∀ j oj, ops[j]? = some oj → j ≠ i → listed.getD j true = false → (∀ e ∈ oj.after, Region.binds md e = true → e.on ≠ i) → oi.apart ops oj = true) →
      i ∈ Region.ready md ops listed → YieldsIn P ops C oi v a →
      wpAnyT P md ops C T fuel (listed.setIfInBounds i true) (a.put oi.dst v) → wpAnyT P md ops C T (fuel + 1) listed a := by
  intro fuel
  induction fuel with
  | zero =>
    intro listed a hP hc hn _ hr hy H
    refine ⟨List.ne_nil_of_mem hr, fun j hj => ?_⟩
    have hji : j = i := by
      apply Classical.byContradiction
      intro hji
      by_cases hjn : j ∈ q
      · have := cntQ_two (mem_ready.1 hj).1 (mem_ready.1 hr).1 hji hd hjn hin
        omega
      · have := tailQ_spec hB hP hc hjn hj hin
        rw [(mem_ready.1 hr).1] at this
        cases this
    subst hji
    exact hy.qOp hi H
  | succ fuel ih =>
    intro listed a hP hc hn hfree hr hy H
    refine ⟨List.ne_nil_of_mem hr, fun j hj => ?_⟩
    by_cases hji : j = i
    · subst hji; exact hy.qOp hi H
    · have hjn : j ∈ q := by
        apply Classical.byContradiction
        intro hjn
        have := tailQ_spec hB hP hc hjn hj hin
        rw [(mem_ready.1 hr).1] at this
        cases this
      have h1 := H.2 j (ready_mono hj hji)
      obtain ⟨hjun, oj, hoj, hall⟩ := mem_ready.1 hj
      have hnot : ∀ e ∈ oj.after, Region.binds md e = true → e.on ≠ i := fun e he hb heq => by
        have h1 := hall e he hb
        have h0 := (mem_ready.1 hr).1
        rw [heq] at h1
        rcases Nat.lt_or_ge i listed.size with h' | h'
        · simp [h'] at h0 h1; rw [h0] at h1; cases h1
        · simp [Array.getElem?_eq_none h'] at h1
      have h2 := qOp_put hoj (hfree j oj hoj hji hjun hnot) (fun cs b => hsel i oi cs b hi) (fun cs b => hsel j oj cs b hoj) hy h1
      have hfree' : ∀ k ok, ops[k]? = some ok → k ≠ i → (listed.setIfInBounds j true).getD k true = false →
          (∀ e ∈ ok.after, Region.binds md e = true → e.on ≠ i) → oi.apart ops ok = true := fun k ok hk hki hun hno => by
        refine hfree k ok hk hki ?_ hno
        by_cases hjk : j = k
        · subst hjk; exact hjun
        · rw [getD_set_ne true hjk] at hun; exact hun
      refine qOp_mono (fun a' h3 => ih (listed.setIfInBounds j true) a' (hP.set j) (closed_set hc hj) (by have := cntQ_set hjun hd hjn; omega) hfree' (ready_mono hr (Ne.symm hji)) h3.1 ?_) h2
      rw [Array.setIfInBounds_comm _ _ hji]
      exact h3.2

/-- What is listed behind some. -/
def ordSet : List Nat → Array Bool → Array Bool
  | [], listed => listed
  | k :: l, listed => ordSet l (listed.setIfInBounds k true)
def ordB (md : Region.Mode) (ops : Array Oper) : List Nat → Array Bool → Bool
  | [], _ => true
  | k :: l, listed => (Region.ready md ops listed).contains k && (Region.free md ops listed k && ordB md ops l (listed.setIfInBounds k true))

theorem wpAnyQ_ord {L : Array Bool} {Q : Act → Prop} {q p : List Nat} (hd : q.Nodup) (hs : Region.noSelect ops = true) (hB : tailQ md ops q p = true) : ∀ (ord : List Nat) (l : List Oper) (listed : Array Bool) (a : Act), ord.map (fun i => ops[i]?) = l.map some →
    (∀ k ∈ ord, k ∈ q) → cntQ listed q = l.length → Parted listed q p → Closed md ops listed → ordSet ord listed = L →
    ordB md ops ord listed = true → wpQuiet P ops C Q l a → wpAnyT P md ops C (fun listed a => listed = L ∧ Q a) l.length listed a
  | [], [], _, _, _, _, _, _, _, hL, _, h => ⟨hL, h⟩
  | [], _ :: _, _, _, hm, _, _, _, _, _, _, _ => by simp at hm
  | _ :: _, [], _, _, hm, _, _, _, _, _, _, _ => by simp at hm
  | k :: ord, o :: l, listed, a, hm, hk, hn, hP, hc, hL, hx, h => by
    simp only [List.map_cons, List.cons.injEq] at hm
    obtain ⟨h0, hm⟩ := hm
    simp only [ordB, Bool.and_eq_true] at hx
    obtain ⟨hr, hf, hx⟩ := hx
    have hr : k ∈ Region.ready md ops listed := by simpa using hr
    have hst : qOp P ops C k (wpQuiet P ops C Q l) a := by unfold qOp; simp only [h0]; exact h
    obtain ⟨v, hy, hK⟩ := yieldsIn_of_qOp h0 hst
    simp only [List.length_cons] at hn
    have hkq : k ∈ q := hk k (by simp)
    have hcn := cntQ_set (mem_ready.1 hr).1 hd hkq
    exact wpAnyQ_first hd h0 (Region.noSelect_spec hs) hkq hB l.length listed a hP hc hn (Region.free_spec h0 hf) hr hy
      (wpAnyQ_ord hd hs hB ord l _ _ hm (fun j hj => hk j (List.mem_cons_of_mem _ hj)) (by omega) (hP.set k) (closed_set hc hr) hL hx hK)

/-- From here on one operation comes up at a time. -/
def seqB (md : Region.Mode) (ops : Array Oper) : List Nat → Array Bool → Bool
  | [], listed => (Region.ready md ops listed).isEmpty
  | k :: l, listed => decide (Region.ready md ops listed = [k]) && seqB md ops l (listed.setIfInBounds k true)
theorem wpAny_of_seq {Q : Exit → Act → World → Prop} : ∀ (ord : List Nat) (l : List Oper) (listed : Array Bool) (a : Act) (w : World), ord.map (fun i => ops[i]?) = l.map some →
    seqB md ops ord listed = true → wpList P ops Q l a w → wpAny P md ops Q l.length listed a w
  | [], [], _, _, _, _, hB, h => ⟨by simpa [seqB] using hB, h⟩
  | [], _ :: _, _, _, _, hm, _, _ => by simp at hm
  | _ :: _, [], _, _, _, hm, _, _ => by simp at hm
  | k :: ord, o :: l, listed, a, w, hm, hB, h => by
    simp only [List.map_cons, List.cons.injEq] at hm
    simp only [seqB, Bool.and_eq_true, decide_eq_true_eq] at hB
    refine wpAny_all hB.1 (by simp) fun i hi => ?_
    obtain rfl : i = k := by simpa using hi
    have h1 : wpOp P ops Q i (wpList P ops Q l) a w := by unfold wpOp; simp only [hm.1]; exact h
    exact wpOp_mono (fun a' w' h' => wpAny_of_seq ord l _ a' w' hm.2 hB.2 h') h1

theorem picked {l : List Oper} : ∀ {q : List Nat} {pre : List Oper}, (∀ i ∈ q, i < l.length) → q.filterMap (fun i => l[i]?) = pre → q.map (fun i => l[i]?) = pre.map some
  | [], _, _, h => by subst h; rfl
  | i :: q, _, hq, h => by
    subst h
    have hi := hq i (by simp)
    have ih := picked (q := q) (fun j hj => hq j (List.mem_cons_of_mem _ hj)) rfl
    have e : (fun i => l[i]?) i = some l[i] := List.getElem?_eq_getElem hi
    rw [List.map_cons, List.filterMap_cons_some e, List.map_cons]
    exact congr (congrArg _ e) ih
theorem picked_cons {l : List Oper} {i : Nat} {o : Oper} {q : List Nat} {pre : List Oper} (h : l[i]? = some o) (h' : q.filterMap (fun i => l[i]?) = pre) : (i :: q).filterMap (fun i => l[i]?) = o :: pre := by
  subst h'
  exact List.filterMap_cons_some h
theorem picked_nil {l : List Oper} : ([] : List Nat).filterMap (fun i => l[i]?) = [] := rfl
def closedB (md : Region.Mode) (ops : Array Oper) (listed : Array Bool) : Bool := (List.range ops.size).all fun j => !listed.getD j false || match ops[j]? with
  | some o => o.after.all fun e => !Region.binds md e || listed.getD e.on false
  | none => true
theorem closedB_spec {listed : Array Bool} (h : closedB md ops listed = true) : Closed md ops listed := fun j oj hoj hl e he hb => by
  simp only [closedB, List.all_eq_true, List.mem_range, Bool.or_eq_true, Bool.not_eq_true'] at h
  have h1 := h j (Array.getElem?_eq_some_iff.1 hoj).1
  rw [hl, hoj] at h1
  simp only [Bool.true_eq_false, false_or] at h1
  have h2 := Array.all_eq_true_iff_forall_mem.1 h1 e he
  simpa [hb] using h2
def partedB (ops : Array Oper) (listed : Array Bool) (q p : List Nat) : Bool := decide (listed.size = ops.size) && (List.range ops.size).all fun j => listed.getD j true || (q.contains j || p.contains j)
theorem partedB_spec {listed : Array Bool} {q p : List Nat} (h : partedB ops listed q p = true) : Parted listed q p := fun j hj => by
  simp only [partedB, List.all_eq_true, List.mem_range, Bool.or_eq_true, Bool.and_eq_true, decide_eq_true_eq] at h
  have hs : j < ops.size := by
    rw [← h.1]
    by_cases hs : j < listed.size
    · exact hs
    · simp [hs] at hj
  have := (h.2 j hs).resolve_left (by rw [hj]; decide)
  simpa using this
def splitQ (ops : Array Oper) (listed : Array Bool) (q p : List Nat) : Bool := (q.all fun i => decide (i < ops.size)) && ((p.all fun i => decide (i < ops.size)) && (q.Nodup && (closedB .any ops listed && (partedB ops listed q p &&
  (Region.noSelect ops && (tailQ .any ops q p && (ordB .any ops q listed && (decide (cntQ listed q = q.length) && seqB .any ops p (ordSet q listed)))))))))

theorem wp_any_tailq_below {n : Nat} {listed : Array Bool} {Q : Exit → Act → World → Prop} {a : Act} {w : World} {l : List Oper} (q p : List Nat) {pre post : List Oper} (hS : splitQ l.toArray listed q p = true) (hn : q.length + p.length = n)
    (hpre : q.filterMap (fun i => l[i]?) = pre) (hpost : p.filterMap (fun i => l[i]?) = post)
    (h : wpQuiet P l.toArray (fun w' => ∃ p : Regrown, w' = Go.Sort.grow (redrawn w p.d) p.os) (fun a' => ∀ w', (∃ p : Regrown, w' = Go.Sort.grow (redrawn w p.d) p.os) → wpList P l.toArray Q post a' w') pre a) : wpAny P .any l.toArray Q n listed a w.drew := by
  simp only [splitQ, Bool.and_eq_true, decide_eq_true_eq, List.all_eq_true] at hS
  obtain ⟨hq1, hp1, hd, hcl, hpt, hs, hT, hO, hcn, hq⟩ := hS
  replace hpre := picked (by simpa using hq1) hpre
  replace hpost := picked (by simpa using hp1) hpost
  have hC : ∃ p : Regrown, (w.drew : World) = Go.Sort.grow (redrawn w p.d) p.os := ⟨⟨w.drawn + 1, #[]⟩, by rw [Go.Sort.grow_empty]; rfl⟩
  have hlen : pre.length = q.length := by have := congrArg List.length hpre; simpa using this.symm
  have hlen' : post.length = p.length := by have := congrArg List.length hpost; simpa using this.symm
  have hsum : n = pre.length + post.length := by rw [hlen, hlen', hn]
  have h1 := wpAnyQ_ord (P := P) (C := fun w' => ∃ p : Regrown, w' = Go.Sort.grow (redrawn w p.d) p.os) (md := .any) (L := ordSet q listed) hd hs hT q pre listed a
    (by rw [← hpre]; simp) (fun k hk => hk) (by rw [hcn, hlen]) (partedB_spec hpt) (closedB_spec hcl) rfl hO h
  have h2 := wpAny_of_T (Q' := Q) (m := post.length) (fun listed a' w' hw' hT' => by
    obtain ⟨rfl, hT'⟩ := hT'
    exact wpAny_of_seq p post _ a' w' (by rw [← hpost]; simp) hq (hT' w' hw')) _ _ _ _ hC h1
  rw [hsum]
  exact h2
end
end Go.Proofs.Ytlmhiocmldhkhaa
