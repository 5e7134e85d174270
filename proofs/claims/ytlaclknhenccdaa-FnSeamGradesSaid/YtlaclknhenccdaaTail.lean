/- A region that draws its order, whose first n operations only read (callees may lay new blocks) and whose other operations wait for all of those, one for another: the first are walked once, quietly, the others in their order, whatever they do. Nothing of the program stands here. -/
import Derived.Test.YtlaclknhenccdaaBase
namespace Go.Proofs.Ytlaclknhenccdaa
open Go.RowKit

section
variable {P : Program} {ops : Array Oper} {md : Region.Mode} {C : World → Prop}

/-- Whatever order is picked, for so many operations; T of what is listed then. -/
def wpAnyT (P : Program) (md : Region.Mode) (ops : Array Oper) (C : World → Prop) (T : Array Bool → Act → Prop) : Nat → Array Bool → Act → Prop
  | 0, listed, a => T listed a
  | fuel + 1, listed, a => Region.ready md ops listed ≠ [] ∧ ∀ i ∈ Region.ready md ops listed, qOp P ops C i (wpAnyT P md ops C T fuel (listed.setIfInBounds i true)) a

theorem wpAny_of_T {T : Array Bool → Act → Prop} {Q' : Exit → Act → World → Prop} {m : Nat} (hT : ∀ listed a w, C w → T listed a → wpAny P md ops Q' m listed a w) : ∀ (fuel : Nat) (listed : Array Bool) (a : Act) (w : World), C w →
    wpAnyT P md ops C T fuel listed a → wpAny P md ops Q' (fuel + m) listed a w
  | 0, listed, a, w, hw, h => by rw [Nat.zero_add]; exact hT listed a w hw h
  | fuel + 1, listed, a, w, hw, h => by
    rw [Nat.add_right_comm]
    exact ⟨fun h0 => absurd h0 h.1, fun i hi => wpOp_of_qOp hw (fun a' w' hw' => wpAny_of_T hT fuel _ a' w' hw') (h.2 i hi)⟩

/-- What an operation waits for is listed before it. -/
def Closed (md : Region.Mode) (ops : Array Oper) (listed : Array Bool) : Prop :=
  ∀ j oj, ops[j]? = some oj → listed.getD j false = true → ∀ e ∈ oj.after, Region.binds md e = true → listed.getD e.on false = true
theorem closed_set {listed : Array Bool} {j : Nat} (hc : Closed md ops listed) (hj : j ∈ Region.ready md ops listed) : Closed md ops (listed.setIfInBounds j true) := by
  intro k ok hk hl e he hb
  by_cases hjk : j = k
  · subst hjk
    obtain ⟨_, o, ho, hall⟩ := mem_ready.1 hj
    rw [hk] at ho; cases ho
    exact getD_set_true (hall e he hb)
  · rw [getD_set_ne false hjk] at hl
    exact getD_set_true (hc k ok hk hl e he hb)

/-- An operation waits for another, by so many steps at most. -/
def waits (md : Region.Mode) (ops : Array Oper) : Nat → Nat → Nat → Bool
  | 0, _, _ => false
  | f + 1, j, k => match ops[j]? with
    | none => false
    | some o => o.after.any fun e => Region.binds md e && (e.on == k || waits md ops f e.on k)
theorem waits_spec {listed : Array Bool} (hc : Closed md ops listed) {k : Nat} : ∀ (f j : Nat) (o : Oper), ops[j]? = some o → (∀ e ∈ o.after, Region.binds md e = true → listed.getD e.on false = true) → waits md ops f j k = true → listed.getD k false = true
  | 0, _, _, _, _, h => by simp [waits] at h
  | f + 1, j, o, ho, hall, h => by
    simp only [waits, ho] at h
    obtain ⟨i, hi, h⟩ := Array.any_eq_true.1 h
    simp only [Bool.and_eq_true, Bool.or_eq_true, beq_iff_eq] at h
    obtain ⟨hb, h⟩ := h
    have hm := hall _ (Array.getElem_mem hi) hb
    rcases h with h | h
    · rw [← h]; exact hm
    · cases f with
      | zero => simp [waits] at h
      | succ f =>
        cases ho' : ops[o.after[i].on]? with
        | none => simp [waits, ho'] at h
        | some o' => exact waits_spec hc (f + 1) _ o' ho' (fun e he hb => hc _ o' ho' hm e he hb) h

def tailB (md : Region.Mode) (ops : Array Oper) (n : Nat) : Bool := (List.range ops.size).all fun j => decide (j < n) || (List.range n).all fun k => waits md ops ops.size j k
theorem tail_spec {listed : Array Bool} {n j k : Nat} (hB : tailB md ops n = true) (hc : Closed md ops listed) (hn : n ≤ j) (hj : j ∈ Region.ready md ops listed) (hk : k < n) : listed.getD k true = true := by
  obtain ⟨_, o, ho, hall⟩ := mem_ready.1 hj
  have hjs : j < ops.size := (Array.getElem?_eq_some_iff.1 ho).1
  simp only [tailB, List.all_eq_true, List.mem_range, Bool.or_eq_true, decide_eq_true_eq] at hB
  have h := waits_spec hc ops.size j o ho hall ((hB j hjs).resolve_left (by omega) k hk)
  by_cases hs : k < listed.size
  · simp [hs] at h ⊢; exact h
  · simp [hs] at h

/-- How many of the first k are not listed. -/
def cnt (listed : Array Bool) : Nat → Nat
  | 0 => 0
  | k + 1 => cnt listed k + if listed.getD k true = false then 1 else 0
theorem cnt_far {listed : Array Bool} {i : Nat} : ∀ {n : Nat}, n ≤ i → cnt (listed.setIfInBounds i true) n = cnt listed n
  | 0, _ => rfl
  | n + 1, h => by simp only [cnt]; rw [cnt_far (by omega), getD_set_ne true (by omega)]
theorem cnt_set {listed : Array Bool} {i : Nat} (hi : listed.getD i true = false) : ∀ {n : Nat}, i < n → cnt (listed.setIfInBounds i true) n + 1 = cnt listed n
  | 0, h => absurd h (Nat.not_lt_zero _)
  | n + 1, h => by
    simp only [cnt]
    by_cases hin : i = n
    · subst hin
      have : (listed.setIfInBounds i true).getD i true = true := by
        by_cases hs : i < listed.size <;> simp [hs]
      rw [cnt_far (Nat.le_refl _), this, hi]; simp
    · rw [getD_set_ne true hin]
      have := cnt_set hi (n := n) (by omega)
      omega
theorem cnt_pos {listed : Array Bool} {i n : Nat} (hi : listed.getD i true = false) (h : i < n) : 1 ≤ cnt listed n := by have := cnt_set hi h; omega
theorem cnt_two {listed : Array Bool} {i j n : Nat} (hi : listed.getD i true = false) (hj : listed.getD j true = false) (hij : i ≠ j) (h1 : i < n) (h2 : j < n) : 2 ≤ cnt listed n := by
  have := cnt_set hi h1
  have := cnt_pos (listed := listed.setIfInBounds i true) (i := j) (by rw [getD_set_ne true hij]; exact hj) h2
  omega

theorem wpAnyT_first {T : Array Bool → Act → Prop} {n i : Nat} {oi : Oper} {v : Value} (hi : ops[i]? = some oi) (hsel : ∀ (j : Nat) (o : Oper) cs b, ops[j]? = some o → o.op ≠ .select cs b) (hin : i < n) (hB : tailB md ops n = true) :
    ∀ (fuel : Nat) (listed : Array Bool) (a : Act), Closed md ops listed → cnt listed n = fuel + 1 →
      (∀ j oj, ops[j]? = some oj → j ≠ i → listed.getD j true = false → (∀ e ∈ oj.after, Region.binds md e = true → e.on ≠ i) → oi.apart ops oj = true) →
      i ∈ Region.ready md ops listed → YieldsIn P ops C oi v a →
      wpAnyT P md ops C T fuel (listed.setIfInBounds i true) (a.put oi.dst v) → wpAnyT P md ops C T (fuel + 1) listed a := by
  intro fuel
  induction fuel with
  | zero =>
    intro listed a hc hn _ hr hy H
    refine ⟨List.ne_nil_of_mem hr, fun j hj => ?_⟩
    have hji : j = i := by
      apply Classical.byContradiction
      intro hji
      by_cases hjn : j < n
      · have := cnt_two (mem_ready.1 hj).1 (mem_ready.1 hr).1 hji hjn hin
        omega
      · have := tail_spec hB hc (by omega) hj hin
        rw [(mem_ready.1 hr).1] at this
        cases this
    subst hji
    exact hy.qOp hi H
  | succ fuel ih =>
    intro listed a hc hn hfree hr hy H
    refine ⟨List.ne_nil_of_mem hr, fun j hj => ?_⟩
    by_cases hji : j = i
    · subst hji; exact hy.qOp hi H
    · have hjn : j < n := by
        apply Classical.byContradiction
        intro hjn
        have := tail_spec hB hc (by omega) hj hin
        rw [(mem_ready.1 hr).1] at this
        cases this
      have h1 := H.2 j (ready_mono hj hji)
      obtain ⟨hjun, oj, hoj, hall⟩ := mem_ready.1 hj
      have hnot : ∀ e ∈ oj.after, Region.binds md e = true → e.on ≠ i := fun e he hb heq => by
        have h1 := hall e he hb
        have h0 := (mem_ready.1 hr).1
        rw [heq] at h1
        rcases Nat.lt_or_ge i listed.size with h' | h'
        · simp [h'] at h0 h1; rw [h0] at h1; cases h1
        · simp [Array.getElem?_eq_none h'] at h1
      have h2 := qOp_put hoj (hfree j oj hoj hji hjun hnot) (fun cs b => hsel i oi cs b hi) (fun cs b => hsel j oj cs b hoj) hy h1
      have hfree' : ∀ k ok, ops[k]? = some ok → k ≠ i → (listed.setIfInBounds j true).getD k true = false →
          (∀ e ∈ ok.after, Region.binds md e = true → e.on ≠ i) → oi.apart ops ok = true := fun k ok hk hki hun hno => by
        refine hfree k ok hk hki ?_ hno
        by_cases hjk : j = k
        · subst hjk; exact hjun
        · rw [getD_set_ne true hjk] at hun; exact hun
      refine qOp_mono (fun a' h3 => ih (listed.setIfInBounds j true) a' (closed_set hc hj) (by have := cnt_set hjun hjn; omega) hfree' (ready_mono hr (Ne.symm hji)) h3.1 ?_) h2
      rw [Array.setIfInBounds_comm _ _ hji]
      exact h3.2

/-- What is listed behind so many in the order of the text. -/
def lexSet : Nat → Nat → Array Bool → Array Bool
  | 0, _, listed => listed
  | m + 1, k, listed => lexSet m (k + 1) (listed.setIfInBounds k true)

theorem wpAnyT_lex {L : Array Bool} {Q : Act → Prop} {n m : Nat} (hs : Region.noSelect ops = true) (hB : tailB md ops n = true) : ∀ (l : List Oper) (k : Nat) (listed : Array Bool) (a : Act), (∀ j, j < l.length → l[j]? = ops[k + j]?) →
    k + l.length = n → cnt listed n = l.length → Closed md ops listed → lexSet l.length k listed = L →
    Region.lexFrom md ops (l.length + m) k listed = true → wpQuiet P ops C Q l a → wpAnyT P md ops C (fun listed a => listed = L ∧ Q a) l.length listed a
  | [], _, _, _, _, _, _, _, hL, _, h => ⟨hL, h⟩
  | o :: l, k, listed, a, hl, hk, hn, hc, hL, hx, h => by
    have h0 : ops[k]? = some o := by simpa using (hl 0 (by simp)).symm
    have hx' : Region.lexFrom md ops ((l.length + m) + 1) k listed = true := by
      have e : (o :: l).length + m = (l.length + m) + 1 := by simp; omega
      rw [e] at hx; exact hx
    simp only [Region.lexFrom, Bool.and_eq_true] at hx'
    obtain ⟨⟨hr, hf⟩, hx'⟩ := hx'
    have hr : k ∈ Region.ready md ops listed := by simpa using hr
    have hst : qOp P ops C k (wpQuiet P ops C Q l) a := by unfold qOp; simp only [h0]; exact h
    obtain ⟨v, hy, hK⟩ := yieldsIn_of_qOp h0 hst
    simp only [List.length_cons] at hk hn hL
    have hkn : k < n := by omega
    have hcn := cnt_set (mem_ready.1 hr).1 hkn
    exact wpAnyT_first h0 (Region.noSelect_spec hs) hkn hB l.length listed a hc hn (Region.free_spec h0 hf) hr hy
      (wpAnyT_lex hs hB l (k + 1) _ _ (fun j hj => by have := hl (j + 1) (by simpa using hj); simpa [Nat.add_assoc, Nat.add_comm 1 j] using this) (by omega) (by omega) (closed_set hc hr) hL hx' hK)

/-- From here on one operation comes up at a time. -/
def seqFrom (md : Region.Mode) (ops : Array Oper) : Nat → Nat → Array Bool → Bool
  | 0, _, listed => (Region.ready md ops listed).isEmpty
  | f + 1, k, listed => decide (Region.ready md ops listed = [k]) && seqFrom md ops f (k + 1) (listed.setIfInBounds k true)
theorem wpAny_of_list {Q : Exit → Act → World → Prop} : ∀ (l : List Oper) (k : Nat) (listed : Array Bool) (a : Act) (w : World), (∀ j, l[j]? = ops[k + j]?) →
    seqFrom md ops l.length k listed = true → wpList P ops Q l a w → wpAny P md ops Q l.length listed a w
  | [], _, _, _, _, _, hB, h => ⟨by simpa [seqFrom] using hB, h⟩
  | o :: l, k, listed, a, w, hl, hB, h => by
    have h0 : ops[k]? = some o := by simpa using (hl 0).symm
    simp only [List.length_cons, seqFrom, Bool.and_eq_true, decide_eq_true_eq] at hB
    refine wpAny_all hB.1 (by simp) fun i hi => ?_
    obtain rfl : i = k := by simpa using hi
    have h1 : wpOp P ops Q i (wpList P ops Q l) a w := by unfold wpOp; simp only [h0]; exact h
    exact wpOp_mono (fun a' w' h' => wpAny_of_list l (i + 1) _ a' w' (fun j => by have := hl (j + 1); simpa [Nat.add_assoc, Nat.add_comm 1 j] using this) hB.2 h') h1

def splitB (ops : Array Oper) (n : Nat) : Bool := decide (n ≤ ops.size) && tailB .any ops n && seqFrom .any ops (ops.size - n) n (lexSet n 0 (Array.replicate ops.size false))

theorem cnt_none (s : Nat) : ∀ n, n ≤ s → cnt (Array.replicate s false) n = n
  | 0, _ => rfl
  | n + 1, h => by simp only [cnt]; rw [cnt_none s n (by omega)]; simp [show n < s by omega]

/-- The first n operations quietly, in the order of the text; the others behind them, one by one. -/
theorem wp_region_tail {id : Nat} {Q : Exit → Act → World → Prop} {a : Act} {w : World} (n : Nat) {pre post : List Oper} (hm : P.follows .mixedOrders = true) (hB : Region.lexB .any ops = true) (hS : splitB ops n = true)
    (hpre : ops.toList.take n = pre) (hpost : ops.toList.drop n = post) (hC : C { w with drawn := w.drawn + 1 })
    (h : wpQuiet P ops C (fun a' => ∀ w', C w' → wpList P ops Q post a' w') pre a) : (Code.region id ops true).wp P Q a w := by
  simp only [Region.lexB, Bool.and_eq_true] at hB
  simp only [splitB, Bool.and_eq_true, decide_eq_true_eq] at hS
  obtain ⟨⟨hn, hT⟩, hq⟩ := hS
  have hlen : pre.length = n := by rw [← hpre]; simp; omega
  have hlen' : post.length = ops.size - n := by rw [← hpost]; simp
  have hsum : ops.size = pre.length + post.length := by omega
  refine wp_region_any hm ?_
  have h1 := wpAnyT_lex (P := P) (C := C) (md := .any) (m := post.length) (L := lexSet n 0 (Array.replicate ops.size false)) hB.1 hT pre 0 (Array.replicate ops.size false) a
    (fun j hj => by rw [← hpre, Nat.zero_add, List.getElem?_take, if_pos (by omega)]; simp) (by omega) (by rw [cnt_none _ _ hn, hlen]) (fun j oj _ hl => by by_cases hs : j < ops.size <;> simp [hs] at hl) (by rw [hlen]) (by rw [← hsum]; exact hB.2) h
  have h2 := wpAny_of_T (Q' := Q) (m := post.length) (fun listed a' w' hw' hT' => by
    obtain ⟨rfl, hT'⟩ := hT'
    exact wpAny_of_list post n _ a' w' (fun j => by rw [← hpost, List.getElem?_drop]; simp) (by rw [hlen']; exact hq) (hT' w' hw')) _ _ _ _ hC h1
  rw [hsum]
  rw [← hsum] at h2 ⊢
  exact h2

theorem wp_region_tail_below {id : Nat} {Q : Exit → Act → World → Prop} {a : Act} {w : World} {l : List Oper} (n : Nat) {pre post : List Oper} (hm : P.follows .mixedOrders = true) (hB : Region.lexB .any l.toArray = true) (hS : splitB l.toArray n = true)
    (hpre : l.take n = pre) (hpost : l.drop n = post)
    (h : wpQuiet P l.toArray (fun w' => ∃ p : Regrown, w' = Go.Sort.grow (redrawn w p.d) p.os) (fun a' => ∀ w', (∃ p : Regrown, w' = Go.Sort.grow (redrawn w p.d) p.os) → wpList P l.toArray Q post a' w') pre a) : (Code.region id l.toArray true).wp P Q a w :=
  wp_region_tail (C := fun w' => ∃ p : Regrown, w' = Go.Sort.grow (redrawn w p.d) p.os) n hm hB hS (by simpa using hpre) (by simpa using hpost) ⟨⟨w.drawn + 1, #[]⟩, by rw [Go.Sort.grow_empty]; rfl⟩ h
end
end Go.Proofs.Ytlaclknhenccdaa
