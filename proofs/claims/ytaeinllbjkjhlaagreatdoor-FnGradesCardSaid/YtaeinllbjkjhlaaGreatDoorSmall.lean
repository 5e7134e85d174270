/- Small laws on worlds, rows and regions that draw their order. Nothing of the program stands here. -/
import Derived.Test.YtaeinllbjkjhlaaGreatDoorBase
import Derived.Deep.AppendLies
import Derived.Deep.RegionHeld
/-! A variable of the law's own keeps what it holds. Nothing of the program stands here. -/
namespace Go.Proofs.YtaeinllbjkjhlaaGreatDoor
open Go.RowKit
theorem kept_cell {w w' : World} {a : Addr} {v : Value} (h : w.cell? a = some v) (hb : Below w.heap.size w w') : w'.cell? a = some v := by rw [hb.cell (block_lt_of_cell h)]; exact h
theorem newB (w : World) (o : Obj) : Below w.heap.size w (w.alloc o) := (Below.refl _ _).alloc (Nat.le_refl _) _
theorem own_slice {B : Nat} {w : World} {e : TypeId} {v : Value} {xs : List Int} (h : Own B w e v xs) : ∃ a c, v = .slice a xs.length c := by
  rcases h.cases with ⟨hv, hL⟩ | ⟨g, cap, hv⟩
  · exact ⟨none, 0, by rw [hv, hL]; rfl⟩
  · exact ⟨_, cap, hv⟩
end Go.Proofs.YtaeinllbjkjhlaaGreatDoor

/-! More plain words for the walks: stores into owned rows of numbers, one cell at a time. -/
namespace Go.Proofs.YtaeinllbjkjhlaaGreatDoor
open Go.RowKit

theorem over_at {α : Type} (L xs : List α) (i : Nat) (hl : L.length = xs.length) (h : i < xs.length) (h' : i < (over L xs i).length) : (over L xs i)[i] = xs[i] := by
  have hk : (L.take i).length = i := by simp; omega
  rw [← Option.some_inj, ← List.getElem?_eq_getElem h', over, List.getElem?_append_right (by omega), hk, Nat.sub_self, List.getElem?_drop, Nat.add_zero, List.getElem?_eq_getElem h]
theorem flat_int (xs : List Int) : flat xs = xs.map (Value.int .i64) := by
  unfold flat
  induction xs with
  | nil => rfl
  | cons x xs ih => rw [List.flatMap_cons, ih]; rfl
theorem Own.frz {α : Type} [Flat α] {B : Nat} {w : World} {e : TypeId} {g n c : Nat} {xs : List α} (h : Own B w e (.slice (some ⟨g, 0, none⟩) n c) xs) (j : Nat) : w.frozen? ⟨g, j, none⟩ = false := by
  obtain ⟨a', c', he, _⟩ := h.at
  simp only [Value.slice.injEq] at he
  obtain ⟨_, rfl, _⟩ := he
  exact World.ownsRow.frozenAt h j
theorem Own.setInt {B : Nat} {w : World} {e : TypeId} {g n c : Nat} {xs : List Int} (h : Own B w e (.slice (some ⟨g, 0, none⟩) n c) xs) (i : Nat) (z : Int) :
    Own B (w.setCell ⟨g, i, none⟩ (.int .i64 z)) e (.slice (some ⟨g, 0, none⟩) n c) (xs.set i z) ∧ w.grownBy (w.setCell ⟨g, i, none⟩ (.int .i64 z)) (some g) := by
  obtain ⟨a', c', he, _⟩ := h.at
  simp only [Value.slice.injEq] at he
  obtain ⟨_, rfl, _⟩ := he
  obtain ⟨h1, h2⟩ := World.ownsRow.stored h i (.int .i64 z)
  refine ⟨?_, h2⟩
  unfold Own
  rw [List.length_set]
  have e1 : flat (xs.set i z) = (flat xs).set i (.int .i64 z) := by rw [flat_int, flat_int, List.map_set]
  rw [e1]; exact h1
end Go.Proofs.YtaeinllbjkjhlaaGreatDoor

/-! Appends to a row that the call owns, at an operation of a region that draws its order. Nothing of the program stands here. -/
namespace Go.Proofs.YtaeinllbjkjhlaaGreatDoor
open Go.RowKit

section
variable {P : Program} {o : Oper} {a : Act} {w : World} {K : Act → World → Prop} {Q : Exit → Act → World → Prop}
/-- A guard ahead of a law for a store: it fits this store alone, and fails at once elsewhere. -/
theorem at_st {ops : Array Oper} {rest : List Oper} {d : Option Tmp} {t : TypeId} {p : String} {af : Array Go.Edge} (ty : TypeId) (x y : Operand) (h : wpList P ops Q ({ dst := d, op := .store ty x y, type := t, pos := p, after := af, guard := none } :: rest) a w) : wpList P ops Q ({ dst := d, op := .store ty x y, type := t, pos := p, after := af, guard := none } :: rest) a w := h
theorem wp_pushall {α : Type} [Flat α] (s x : Operand) (t : TypeId) (ho : o.op = .call { callee := .builtin .append, args := #[s, x], argTypes := #[t, t] })
    (B : Nat) (e : TypeId) (d : Value) (bytes : Nat) (ht : P.underlying t = some (.slice e)) (hi : (P.info? e).map (fun i => (i.zero, i.size, i.bytes)) = some (some d, Flat.k α, bytes)) (hzs : d.cells.size = Flat.k α)
    (v : Value) (xs ys : List α) (hs : a.eval s = v) (hown : Own B w e v xs) (sa : Option Addr) (c : Nat) (hx : a.eval x = .slice sa ys.length c) (hc : sa = none → c = 0) (hA : At w sa ys)
    (h63 : xs.length + ys.length ≤ 4294967296) (hby : bytes ≤ 1024) (hbase : B ≤ w.heap.size)
    (h : ∀ v' w', Own B w' e v' (xs ++ ys) → w.grownBy w' v.ownBlock → K (a.put o.dst v') w') : Oper.wp P o a w K Q := by
  have hi0 := hi
  obtain ⟨i, hi, hz0, hz1, hz2⟩ := info_parts hi
  cases sa with
  | none =>
    obtain rfl := hc rfl
    have hy : ys = [] := by
      rcases hA with h | ⟨b, off, h, _⟩
      · exact h
      · cases h
    subst hy
    have hrun := run_append_owned_none (P := P) (w := w) B t o.type e i (Flat.k α) ht hi v xs.length (flat xs) hown
    unfold Oper.wp
    have hx' : a.eval x = .slice none 0 0 := hx
    simp [execOp, ho, resolve, invoke, builtin, hs, hx', hrun, Result.andThen]
    exact h v w (by simpa using hown) (World.grownBy.refl _ _)
  | some ad =>
    refine wp_append_own w s x t ho B e i d (Flat.k α) bytes ht hi hz0 hz1 hz2 hzs Flat.pos v xs.length (flat xs) hs hown ad ys.length c (flat ys) hx (flat_length ys) (fun j u hu => ?_) (fun u hu => ?_) (by unfold maxLen; omega) ?_ hbase (fun v' w' h1 h2 _ => h v' w' ?_ h2)
    · have hy : ys ≠ [] := by intro e; subst e; simp [flat] at hu
      obtain ⟨b, off, ha⟩ := hA.addr (List.length_pos_iff.2 hy)
      simp only [Option.some.injEq] at ha
      subst ha
      rw [Go.WideShapes.add_plain]
      exact hA.cells j u hu
    · obtain ⟨z, _, hz⟩ := List.mem_flatMap.1 hu
      exact Flat.one z u hz
    · have : (xs.length + ys.length) * bytes ≤ 4294967296 * 1024 := Nat.mul_le_mul h63 hby
      omega
    · unfold Own
      rw [flat_append, List.length_append]
      exact h1
theorem wp_pushTo {α : Type} [Flat α] (s x : Operand) (t : TypeId) (ho : o.op = .call { callee := .builtin .append, args := #[s, x], argTypes := #[t, t] })
    (B : Nat) (e : TypeId) (d : Value) (bytes : Nat) (ht : P.underlying t = some (.slice e)) (hi : (P.info? e).map (fun i => (i.zero, i.size, i.bytes)) = some (some d, Flat.k α, bytes)) (hzs : d.cells.size = Flat.k α)
    (v : Value) (xs : List α) (z : α) (hs : a.eval s = v) (hown : Own B w e v xs) (g : Nat) (c : Nat) (hx : a.eval x = .slice (some ⟨g, 0, none⟩) 1 c) (te : TypeId) (hg : w.heap[g]? = some (.cells (Flat.el z).toArray te (0, 0)))
    (h63 : xs.length + 1 ≤ 4294967296) (hby : bytes ≤ 1024) (hbase : B ≤ w.heap.size)
    (h : ∀ g' cap w', Own B w' e (.slice (some ⟨g', 0, none⟩) (xs.length + 1) cap) (xs ++ [z]) → w.grownBy w' v.ownBlock → (v.ownBlock = some g' ∨ g' = w.heap.size) → K (a.put o.dst (.slice (some ⟨g', 0, none⟩) (xs.length + 1) cap)) w') : Oper.wp P o a w K Q := by
  obtain ⟨i, hi, hz0, hz1, hz2⟩ := info_parts hi
  refine wp_append_lies w s x t ho B e i d (Flat.k α) bytes ht hi hz0 hz1 hz2 hzs Flat.pos v xs.length (flat xs) hs hown ⟨g, 0, none⟩ 1 c (Flat.el z) hx (by rw [Flat.len]; omega) (fun j u hu => ?_) (Flat.one z) Nat.one_pos (by unfold maxLen; omega) ?_ hbase w.heap.size rfl (fun g' cap w' h1 h2 h3 _ => h g' cap w' ?_ h2 h3)
  · rw [Go.WideShapes.add_plain, Nat.zero_add, cell_of_row w g j _ te (0, 0) hg]
    simpa using hu
  · have : (xs.length + 1) * bytes ≤ 4294967296 * 1024 := Nat.mul_le_mul h63 hby
    omega
  · unfold Own
    rw [flat_append, List.length_append]
    simpa [flat] using h1
end
end Go.Proofs.YtaeinllbjkjhlaaGreatDoor

/-! A store into a row that the call owns, in a region that draws its order. Nothing of the program stands here. -/
namespace Go.Proofs.YtaeinllbjkjhlaaGreatDoor
open Go.RowKit

section
variable {P : Program} {o : Oper} {a : Act} {w : World} {K : Act → World → Prop} {Q : Exit → Act → World → Prop}
/-- A store of a whole element into a row that the call owns. -/
theorem wp_store_own {α : Type} [Flat α] (ty : TypeId) (x y : Operand) (ho : o.op = .store ty x y) (B : Nat) (e : TypeId) (g cap n : Nat) (ys : List α) (i j : Nat) (z : α)
    (hx : a.eval x = .pointer (some ⟨g, j, none⟩)) (hj : j = i * Flat.k α) (hy : (a.eval y).cells.toList = Flat.el z) (hi : (P.info? ty).map (·.size) = some (Flat.k α))
    (hn : n = ys.length) (hown : Own B w e (.slice (some ⟨g, 0, none⟩) n cap) ys) (hlt : i < ys.length)
    (h : ∀ w', Own B w' e (.slice (some ⟨g, 0, none⟩) n cap) (ys.set i z) → w.grownBy w' (some g) → K (a.put o.dst undef) w') : Oper.wp P o a w K Q := by
  subst hn
  subst hj
  have hown' := hown
  rcases hown'.2 with ⟨h', _⟩ | ⟨g', cap', cur, h', hb, hg, hnc, hcm, hcs, htake⟩
  · simp at h'
  · simp only [Value.slice.injEq, Option.some.injEq, Addr.mk.injEq, and_true, true_and] at h'
    obtain ⟨rfl, rfl⟩ := h'
    have hk : (i + 1) * Flat.k α ≤ ys.length * Flat.k α := Nat.mul_le_mul_right _ hlt
    have hk2 : ys.length * Flat.k α ≤ cap * Flat.k α := Nat.mul_le_mul_right _ hnc
    have hk3 : (i + 1) * Flat.k α = i * Flat.k α + Flat.k α := by rw [Nat.add_mul]; omega
    have hlz : (a.eval y).cells.toList.length = Flat.k α := by rw [hy, Flat.len]
    have hst := run_storeCells_at P g (i * Flat.k α) e (a.eval y).cells.toList 0 cur w hg (by rw [hlz]; omega) (by rw [hy]; exact Flat.one z)
    simp only [Nat.add_zero] at hst
    cases hq : P.info? ty with
    | none => simp [hq] at hi
    | some ti =>
      have hs : (a.eval y).cells.size = ti.size := by rw [← Array.length_toList, hlz]; simp [hq] at hi; omega
      have hrun : (storeVar ty ⟨g, i * Flat.k α, none⟩ (a.eval y)).run P w = .ok () (w.setRow g (cur.toList.take (i * Flat.k α) ++ (a.eval y).cells.toList ++ cur.toList.drop (i * Flat.k α + (a.eval y).cells.toList.length)).toArray) := by
        simp [storeVar, sizeOf, typeInfo, hq, hs, hst]
      unfold Oper.wp execOp
      simp only [ho, hx, Instr.storeAt, Instr.sureAddr, Sem.run_bind, Sem.run_pure, Result.andThen_ok, hrun]
      refine (h _ ?_ ⟨rfl, rfl, rfl, by simp, fun k _ hk => setRow_other w g k _ (fun e => hk (by simp [e]))⟩)
      unfold Own
      rw [List.length_set]
      refine ⟨?_, .inr ⟨g, cap, _, rfl, hb, setRow_heap w g cur _ e _ hg, hnc, hcm, ?_, ?_⟩⟩
      · rw [flat_length, List.length_set]
      · simp only [List.size_toArray, List.length_append, List.length_take, List.length_drop, Array.length_toList] at *
        omega
      · rw [flat_set ys z i hlt, hy, ← htake, Flat.len, hk3, List.toList_toArray]
        exact take_splice _ _ _ _ _ (Flat.len z) (by omega) (by rw [Array.length_toList]; show ys.length * Flat.k α ≤ cur.size; omega)
end
end Go.Proofs.YtaeinllbjkjhlaaGreatDoor

/-! A region that draws its order, whose last store writes a cell that is loaded in it: a condition S on the world holds till a chosen operation t comes up; what t waits for may be taken first, where it yields its value in every world that meets S. Nothing of the program stands here. -/
namespace Go.Proofs.YtaeinllbjkjhlaaGreatDoor
open Go.RowKit

section
variable {P : Program} {ops : Array Oper} {Q : Exit → Act → World → Prop} {md : Region.Mode} {S : World → Prop} {t : Nat}

/-- Whatever order is picked from here on, and S holds behind every operation till t has come up. -/
def wpAnyS (P : Program) (md : Region.Mode) (ops : Array Oper) (Q : Exit → Act → World → Prop) (S : World → Prop) (t : Nat) : Nat → Array Bool → Act → World → Prop
  | 0, listed, a, w => Region.ready md ops listed = [] ∧ Q .normal a w
  | n + 1, listed, a, w =>
    (Region.ready md ops listed = [] → Q .normal a w) ∧
    ∀ i ∈ Region.ready md ops listed, wpOp P ops Q i (fun a' w' => ((listed.setIfInBounds i true).getD t true = false → S w') ∧ wpAnyS P md ops Q S t n (listed.setIfInBounds i true) a' w') a w
theorem wpAny_of_S : ∀ (n : Nat) (listed : Array Bool) (a : Act) (w : World), wpAnyS P md ops Q S t n listed a w → wpAny P md ops Q n listed a w
  | 0, _, _, _, h => h
  | n + 1, _, _, _, h => ⟨h.1, fun i hi => wpOp_mono (fun a' w' h' => wpAny_of_S n _ a' w' h'.2) (h.2 i hi)⟩
/-- t waits for i. -/
def waitsFor (md : Region.Mode) (ops : Array Oper) (t i : Nat) : Bool := match ops[t]? with
  | none => false
  | some o => o.after.any fun e => Region.binds md e && e.on == i
theorem not_ready {i : Nat} {listed : Array Bool} (hw : waitsFor md ops t i = true) (hi : listed.getD i true = false) : ¬ t ∈ Region.ready md ops listed := by
  intro h
  obtain ⟨_, o, ho, hall⟩ := mem_ready.1 h
  simp only [waitsFor, ho, Array.any_eq_true, Bool.and_eq_true, beq_iff_eq] at hw
  obtain ⟨k, hk, hb, he⟩ := hw
  have h1 := hall _ (Array.getElem_mem hk) hb
  rw [he] at h1
  rcases Nat.lt_or_ge i listed.size with h' | h'
  · simp [h'] at hi h1; rw [hi] at h1; cases h1
  · simp [Array.getElem?_eq_none h'] at h1
theorem wpAnyS_first {i : Nat} {oi : Oper} {v : Value} (hi : ops[i]? = some oi) (hsel : ∀ (j : Nat) (o : Oper) cs b, ops[j]? = some o → o.op ≠ .select cs b)
    (hQ : ∀ c a w, Q (.panic c) (a.put oi.dst v) w → Q (.panic c) a w) (hw : waitsFor md ops t i = true) :
    ∀ (n : Nat) (listed : Array Bool) (a : Act) (w : World),
      (∀ j oj, ops[j]? = some oj → j ≠ i → listed.getD j true = false → (∀ e ∈ oj.after, Region.binds md e = true → e.on ≠ i) → oi.apart ops oj = true) →
      i ∈ Region.ready md ops listed → listed.getD t true = false → YieldsIf P ops S oi v a → S w →
      wpAnyS P md ops Q S t n (listed.setIfInBounds i true) (a.put oi.dst v) w → wpAnyS P md ops Q S t (n + 1) listed a w := by
  intro n
  induction n with
  | zero =>
    intro listed a w _ hr _ hy hS H
    refine ⟨fun h => (by rw [h] at hr; cases hr), fun j hj => ?_⟩
    by_cases hji : j = i
    · subst hji; exact hy.wpOp hi hS ⟨fun _ => hS, H⟩
    · have := ready_mono hj hji
      rw [H.1] at this
      cases this
  | succ n ih =>
    intro listed a w hfree hr ht hy hS H
    refine ⟨fun h => (by rw [h] at hr; cases hr), fun j hj => ?_⟩
    by_cases hji : j = i
    · subst hji; exact hy.wpOp hi hS ⟨fun _ => hS, H⟩
    · have h1 := H.2 j (ready_mono hj hji)
      obtain ⟨hjun, oj, hoj, hall⟩ := mem_ready.1 hj
      have hiun := (mem_ready.1 hr).1
      have hjt : j ≠ t := fun e => by subst e; exact not_ready hw hiun hj
      have hit : i ≠ t := fun e => by subst e; exact not_ready hw hiun hr
      have hnot : ∀ e ∈ oj.after, Region.binds md e = true → e.on ≠ i := fun e he hb heq => by
        have h1 := hall e he hb
        rw [heq] at h1
        rcases Nat.lt_or_ge i listed.size with h' | h'
        · simp [h'] at hiun h1; rw [hiun] at h1; cases h1
        · simp [Array.getElem?_eq_none h'] at h1
      have ht' : (listed.setIfInBounds j true).getD t true = false := by rw [getD_set_ne true hjt]; exact ht
      have ht2 : ((listed.setIfInBounds i true).setIfInBounds j true).getD t true = false := by rw [getD_set_ne true hjt, getD_set_ne true hit]; exact ht
      have h2 := wpOp_putIf hoj (hfree j oj hoj hji hjun hnot) (fun cs b => hsel i oi cs b hi) (fun cs b => hsel j oj cs b hoj) hQ hy h1
      have hfree' : ∀ k ok, ops[k]? = some ok → k ≠ i → (listed.setIfInBounds j true).getD k true = false →
          (∀ e ∈ ok.after, Region.binds md e = true → e.on ≠ i) → oi.apart ops ok = true := fun k ok hk hki hun hno => by
        refine hfree k ok hk hki ?_ hno
        by_cases hjk : j = k
        · subst hjk; exact hjun
        · rw [getD_set_ne true hjk] at hun; exact hun
      refine wpOp_mono (fun a' w' h3 => ?_) h2
      have hS' := h3.2.1 ht2
      refine ⟨fun _ => hS', ih (listed.setIfInBounds j true) a' w' hfree' (ready_mono hr (Ne.symm hji)) ht' h3.1 hS' ?_⟩
      rw [Array.setIfInBounds_comm _ _ hji]
      exact h3.2.2
theorem wpAnyS_take {i : Nat} {oi : Oper} {v : Value} {n : Nat} {listed : Array Bool} {a : Act} {w : World} (hi : ops[i]? = some oi)
    (hs : Region.noSelect ops = true) (hf : Region.free md ops listed i = true) (hr : (Region.ready md ops listed).contains i = true) (hw : waitsFor md ops t i = true) (ht : listed.getD t true = false)
    (hQ : ∀ c a w, Q (.panic c) (a.put oi.dst v) w → Q (.panic c) a w) (hy : YieldsIf P ops S oi v a) (hS : S w)
    (h : wpAnyS P md ops Q S t n (listed.setIfInBounds i true) (a.put oi.dst v) w) : wpAnyS P md ops Q S t (n + 1) listed a w :=
  wpAnyS_first hi (Region.noSelect_spec hs) hQ hw n listed a w (Region.free_spec hi hf) (by simpa using hr) ht hy hS h
/-- One operation alone may come up, ahead of t. -/
theorem wpAnyS_step {i : Nat} {o : Oper} {n : Nat} {listed : Array Bool} {a : Act} {w : World} (hr : Region.ready md ops listed = [i]) (ho : ops[i]? = some o)
    (h : ∀ K' : Act → World → Prop, Shut (∀ a w, S w → (S w → wpAnyS P md ops Q S t n (listed.setIfInBounds i true) a w) → K' a w) → if Region.wanted o (yielded ops a.tmps) = true then Oper.wp P o a w K' Q else K' (a.put o.dst undef) w) : wpAnyS P md ops Q S t (n + 1) listed a w :=
  ⟨fun h0 => (by rw [hr] at h0; cases h0), fun j hj => by
    rw [hr] at hj
    obtain rfl : j = i := by simpa using hj
    exact wpOp_step ho (fun K' hK => h K' (fun a w hS hW => hK a w ⟨fun _ => hS, hW hS⟩))⟩
/-- The same at t, or behind it. -/
theorem wpAnyS_last {i : Nat} {o : Oper} {n : Nat} {listed : Array Bool} {a : Act} {w : World} (hr : Region.ready md ops listed = [i]) (ho : ops[i]? = some o) (ht : (listed.setIfInBounds i true).getD t true = true)
    (h : ∀ K' : Act → World → Prop, Shut (∀ a w, wpAnyS P md ops Q S t n (listed.setIfInBounds i true) a w → K' a w) → if Region.wanted o (yielded ops a.tmps) = true then Oper.wp P o a w K' Q else K' (a.put o.dst undef) w) : wpAnyS P md ops Q S t (n + 1) listed a w :=
  ⟨fun h0 => (by rw [hr] at h0; cases h0), fun j hj => by
    rw [hr] at hj
    obtain rfl : j = i := by simpa using hj
    exact wpOp_step ho (fun K' hK => h K' (fun a w hW => hK a w ⟨fun h0 => (by rw [ht] at h0; cases h0), hW⟩))⟩
/-- Two may come up, ahead of t. -/
theorem wpAnyS_two {i j : Nat} {o o' : Oper} {n : Nat} {listed : Array Bool} {a : Act} {w : World} (hr : Region.ready md ops listed = [i, j]) (ho : ops[i]? = some o) (ho' : ops[j]? = some o')
    (h : ∀ K' : Act → World → Prop, Shut (∀ a w, S w → (S w → wpAnyS P md ops Q S t n (listed.setIfInBounds i true) a w) → K' a w) → if Region.wanted o (yielded ops a.tmps) = true then Oper.wp P o a w K' Q else K' (a.put o.dst undef) w)
    (h' : ∀ K' : Act → World → Prop, Shut (∀ a w, S w → (S w → wpAnyS P md ops Q S t n (listed.setIfInBounds j true) a w) → K' a w) → if Region.wanted o' (yielded ops a.tmps) = true then Oper.wp P o' a w K' Q else K' (a.put o'.dst undef) w) : wpAnyS P md ops Q S t (n + 1) listed a w :=
  ⟨fun h0 => (by rw [hr] at h0; cases h0), fun k hk => by
    rw [hr] at hk
    rcases (by simpa using hk : k = i ∨ k = j) with rfl | rfl
    · exact wpOp_step ho (fun K' hK => h K' (fun a w hS hW => hK a w ⟨fun _ => hS, hW hS⟩))
    · exact wpOp_step ho' (fun K' hK => h' K' (fun a w hS hW => hK a w ⟨fun _ => hS, hW hS⟩))⟩
theorem wpAnyS_done {listed : Array Bool} {a : Act} {w : World} (hr : Region.ready md ops listed = []) (h : Q .normal a w) : ∀ n, wpAnyS P md ops Q S t n listed a w
  | 0 => ⟨hr, h⟩
  | _ + 1 => ⟨fun _ => h, by rw [hr]; simp⟩
theorem wp_region_heldS {id : Nat} {a : Act} {w : World} (t : Nat) (hm : P.follows .mixedOrders = true) (hS : S w.drew)
    (h : S w.drew → wpAnyS P .any ops Q S t ops.size (Array.replicate ops.size false) a w.drew) : (Code.region id ops true).wp P Q a w :=
  wp_region_any hm (wpAny_of_S _ _ _ _ (h hS))
end
end Go.Proofs.YtaeinllbjkjhlaaGreatDoor

/-! A region that draws its order, whose first n operations only read (callees may lay new blocks) and whose other operations wait for all of those, one for another: the first are walked once, quietly, the others in their order, whatever they do. Nothing of the program stands here. -/
namespace Go.Proofs.YtaeinllbjkjhlaaGreatDoor
open Go.RowKit

section
variable {P : Program} {ops : Array Oper} {md : Region.Mode} {C : World → Prop}

/-- Whatever order is picked, for so many operations; T of what is listed then. -/
def wpAnyT (P : Program) (md : Region.Mode) (ops : Array Oper) (C : World → Prop) (T : Array Bool → Act → Prop) : Nat → Array Bool → Act → Prop
  | 0, listed, a => T listed a
  | fuel + 1, listed, a => Region.ready md ops listed ≠ [] ∧ ∀ i ∈ Region.ready md ops listed, qOp P ops C i (wpAnyT P md ops C T fuel (listed.setIfInBounds i true)) a

theorem wpAny_of_T {T : Array Bool → Act → Prop} {Q' : Exit → Act → World → Prop} {m : Nat} (hT : ∀ listed a w, C w → T listed a → wpAny P md ops Q' m listed a w) : ∀ (fuel : Nat) (listed : Array Bool) (a : Act) (w : World), C w →
    wpAnyT P md ops C T fuel listed a → wpAny P md ops Q' (fuel + m) listed a w
  | 0, listed, a, w, hw, h => by rw [Nat.zero_add]; exact hT listed a w hw h
  | fuel + 1, listed, a, w, hw, h => by
    rw [Nat.add_right_comm]
    exact ⟨fun h0 => absurd h0 h.1, fun i hi => wpOp_of_qOp hw (fun a' w' hw' => wpAny_of_T hT fuel _ a' w' hw') (h.2 i hi)⟩

/-- What an operation waits for is listed before it. -/
def Closed (md : Region.Mode) (ops : Array Oper) (listed : Array Bool) : Prop :=
  ∀ j oj, ops[j]? = some oj → listed.getD j false = true → ∀ e ∈ oj.after, Region.binds md e = true → listed.getD e.on false = true
theorem closed_set {listed : Array Bool} {j : Nat} (hc : Closed md ops listed) (hj : j ∈ Region.ready md ops listed) : Closed md ops (listed.setIfInBounds j true) := by
  intro k ok hk hl e he hb
  by_cases hjk : j = k
  · subst hjk
    obtain ⟨_, o, ho, hall⟩ := mem_ready.1 hj
    rw [hk] at ho; cases ho
    exact getD_set_true (hall e he hb)
  · rw [getD_set_ne false hjk] at hl
    exact getD_set_true (hc k ok hk hl e he hb)

/-- An operation waits for another, by so many steps at most. -/
def waits (md : Region.Mode) (ops : Array Oper) : Nat → Nat → Nat → Bool
  | 0, _, _ => false
  | f + 1, j, k => match ops[j]? with
    | none => false
    | some o => o.after.any fun e => Region.binds md e && (e.on == k || waits md ops f e.on k)
theorem waits_spec {listed : Array Bool} (hc : Closed md ops listed) {k : Nat} : ∀ (f j : Nat) (o : Oper), ops[j]? = some o → (∀ e ∈ o.after, Region.binds md e = true → listed.getD e.on false = true) → waits md ops f j k = true → listed.getD k false = true
  | 0, _, _, _, _, h => by simp [waits] at h
  | f + 1, j, o, ho, hall, h => by
    simp only [waits, ho] at h
    obtain ⟨i, hi, h⟩ := Array.any_eq_true.1 h
    simp only [Bool.and_eq_true, Bool.or_eq_true, beq_iff_eq] at h
    obtain ⟨hb, h⟩ := h
    have hm := hall _ (Array.getElem_mem hi) hb
    rcases h with h | h
    · rw [← h]; exact hm
    · cases f with
      | zero => simp [waits] at h
      | succ f =>
        cases ho' : ops[o.after[i].on]? with
        | none => simp [waits, ho'] at h
        | some o' => exact waits_spec hc (f + 1) _ o' ho' (fun e he hb => hc _ o' ho' hm e he hb) h

def tailB (md : Region.Mode) (ops : Array Oper) (n : Nat) : Bool := (List.range ops.size).all fun j => decide (j < n) || (List.range n).all fun k => waits md ops ops.size j k
theorem tail_spec {listed : Array Bool} {n j k : Nat} (hB : tailB md ops n = true) (hc : Closed md ops listed) (hn : n ≤ j) (hj : j ∈ Region.ready md ops listed) (hk : k < n) : listed.getD k true = true := by
  obtain ⟨_, o, ho, hall⟩ := mem_ready.1 hj
  have hjs : j < ops.size := (Array.getElem?_eq_some_iff.1 ho).1
  simp only [tailB, List.all_eq_true, List.mem_range, Bool.or_eq_true, decide_eq_true_eq] at hB
  have h := waits_spec hc ops.size j o ho hall ((hB j hjs).resolve_left (by omega) k hk)
  by_cases hs : k < listed.size
  · simp [hs] at h ⊢; exact h
  · simp [hs] at h

/-- How many of the first k are not listed. -/
def cnt (listed : Array Bool) : Nat → Nat
  | 0 => 0
  | k + 1 => cnt listed k + if listed.getD k true = false then 1 else 0
theorem cnt_far {listed : Array Bool} {i : Nat} : ∀ {n : Nat}, n ≤ i → cnt (listed.setIfInBounds i true) n = cnt listed n
  | 0, _ => rfl
  | n + 1, h => by simp only [cnt]; rw [cnt_far (by omega), getD_set_ne true (by omega)]
theorem cnt_set {listed : Array Bool} {i : Nat} (hi : listed.getD i true = false) : ∀ {n : Nat}, i < n → cnt (listed.setIfInBounds i true) n + 1 = cnt listed n
  | 0, h => absurd h (Nat.not_lt_zero _)
  | n + 1, h => by
    simp only [cnt]
    by_cases hin : i = n
    · subst hin
      have : (listed.setIfInBounds i true).getD i true = true := by
        by_cases hs : i < listed.size <;> simp [hs]
      rw [cnt_far (Nat.le_refl _), this, hi]; simp
    · rw [getD_set_ne true hin]
      have := cnt_set hi (n := n) (by omega)
      omega
theorem cnt_pos {listed : Array Bool} {i n : Nat} (hi : listed.getD i true = false) (h : i < n) : 1 ≤ cnt listed n := by have := cnt_set hi h; omega
theorem cnt_two {listed : Array Bool} {i j n : Nat} (hi : listed.getD i true = false) (hj : listed.getD j true = false) (hij : i ≠ j) (h1 : i < n) (h2 : j < n) : 2 ≤ cnt listed n := by
  have := cnt_set hi h1
  have := cnt_pos (listed := listed.setIfInBounds i true) (i := j) (by rw [getD_set_ne true hij]; exact hj) h2
  omega

theorem wpAnyT_first {T : Array Bool → Act → Prop} {n i : Nat} {oi : Oper} {v : Value} (hi : ops[i]? = some oi) (hsel : ∀ (j : Nat) (o : Oper) cs b, ops[j]? = some o → o.op ≠ .select cs b) (hin : i < n) (hB : tailB md ops n = true) :
    ∀ (fuel : Nat) (listed : Array Bool) (a : Act), Closed md ops listed → cnt listed n = fuel + 1 →
      (∀ j oj, ops[j]? = some oj → j ≠ i → listed.getD j true = false → (∀ e ∈ oj.after, Region.binds md e = true → e.on ≠ i) → oi.apart ops oj = true) →
      i ∈ Region.ready md ops listed → YieldsIn P ops C oi v a →
      wpAnyT P md ops C T fuel (listed.setIfInBounds i true) (a.put oi.dst v) → wpAnyT P md ops C T (fuel + 1) listed a := by
  intro fuel
  induction fuel with
  | zero =>
    intro listed a hc hn _ hr hy H
    refine ⟨List.ne_nil_of_mem hr, fun j hj => ?_⟩
    have hji : j = i := by
      apply Classical.byContradiction
      intro hji
      by_cases hjn : j < n
      · have := cnt_two (mem_ready.1 hj).1 (mem_ready.1 hr).1 hji hjn hin
        omega
      · have := tail_spec hB hc (by omega) hj hin
        rw [(mem_ready.1 hr).1] at this
        cases this
    subst hji
    exact hy.qOp hi H
  | succ fuel ih =>
    intro listed a hc hn hfree hr hy H
    refine ⟨List.ne_nil_of_mem hr, fun j hj => ?_⟩
    by_cases hji : j = i
    · subst hji; exact hy.qOp hi H
    · have hjn : j < n := by
        apply Classical.byContradiction
        intro hjn
        have := tail_spec hB hc (by omega) hj hin
        rw [(mem_ready.1 hr).1] at this
        cases this
      have h1 := H.2 j (ready_mono hj hji)
      obtain ⟨hjun, oj, hoj, hall⟩ := mem_ready.1 hj
      have hnot : ∀ e ∈ oj.after, Region.binds md e = true → e.on ≠ i := fun e he hb heq => by
        have h1 := hall e he hb
        have h0 := (mem_ready.1 hr).1
        rw [heq] at h1
        rcases Nat.lt_or_ge i listed.size with h' | h'
        · simp [h'] at h0 h1; rw [h0] at h1; cases h1
        · simp [Array.getElem?_eq_none h'] at h1
      have h2 := qOp_put hoj (hfree j oj hoj hji hjun hnot) (fun cs b => hsel i oi cs b hi) (fun cs b => hsel j oj cs b hoj) hy h1
      have hfree' : ∀ k ok, ops[k]? = some ok → k ≠ i → (listed.setIfInBounds j true).getD k true = false →
          (∀ e ∈ ok.after, Region.binds md e = true → e.on ≠ i) → oi.apart ops ok = true := fun k ok hk hki hun hno => by
        refine hfree k ok hk hki ?_ hno
        by_cases hjk : j = k
        · subst hjk; exact hjun
        · rw [getD_set_ne true hjk] at hun; exact hun
      refine qOp_mono (fun a' h3 => ih (listed.setIfInBounds j true) a' (closed_set hc hj) (by have := cnt_set hjun hjn; omega) hfree' (ready_mono hr (Ne.symm hji)) h3.1 ?_) h2
      rw [Array.setIfInBounds_comm _ _ hji]
      exact h3.2

/-- What is listed behind so many in the order of the text. -/
def lexSet : Nat → Nat → Array Bool → Array Bool
  | 0, _, listed => listed
  | m + 1, k, listed => lexSet m (k + 1) (listed.setIfInBounds k true)

theorem wpAnyT_lex {L : Array Bool} {Q : Act → Prop} {n m : Nat} (hs : Region.noSelect ops = true) (hB : tailB md ops n = true) : ∀ (l : List Oper) (k : Nat) (listed : Array Bool) (a : Act), (∀ j, j < l.length → l[j]? = ops[k + j]?) →
    k + l.length = n → cnt listed n = l.length → Closed md ops listed → lexSet l.length k listed = L →
    Region.lexFrom md ops (l.length + m) k listed = true → wpQuiet P ops C Q l a → wpAnyT P md ops C (fun listed a => listed = L ∧ Q a) l.length listed a
  | [], _, _, _, _, _, _, _, hL, _, h => ⟨hL, h⟩
  | o :: l, k, listed, a, hl, hk, hn, hc, hL, hx, h => by
    have h0 : ops[k]? = some o := by simpa using (hl 0 (by simp)).symm
    have hx' : Region.lexFrom md ops ((l.length + m) + 1) k listed = true := by
      have e : (o :: l).length + m = (l.length + m) + 1 := by simp; omega
      rw [e] at hx; exact hx
    simp only [Region.lexFrom, Bool.and_eq_true] at hx'
    obtain ⟨⟨hr, hf⟩, hx'⟩ := hx'
    have hr : k ∈ Region.ready md ops listed := by simpa using hr
    have hst : qOp P ops C k (wpQuiet P ops C Q l) a := by unfold qOp; simp only [h0]; exact h
    obtain ⟨v, hy, hK⟩ := yieldsIn_of_qOp h0 hst
    simp only [List.length_cons] at hk hn hL
    have hkn : k < n := by omega
    have hcn := cnt_set (mem_ready.1 hr).1 hkn
    exact wpAnyT_first h0 (Region.noSelect_spec hs) hkn hB l.length listed a hc hn (Region.free_spec h0 hf) hr hy
      (wpAnyT_lex hs hB l (k + 1) _ _ (fun j hj => by have := hl (j + 1) (by simpa using hj); simpa [Nat.add_assoc, Nat.add_comm 1 j] using this) (by omega) (by omega) (closed_set hc hr) hL hx' hK)

/-- From here on one operation comes up at a time. -/
def seqFrom (md : Region.Mode) (ops : Array Oper) : Nat → Nat → Array Bool → Bool
  | 0, _, listed => (Region.ready md ops listed).isEmpty
  | f + 1, k, listed => decide (Region.ready md ops listed = [k]) && seqFrom md ops f (k + 1) (listed.setIfInBounds k true)
theorem wpAny_of_list {Q : Exit → Act → World → Prop} : ∀ (l : List Oper) (k : Nat) (listed : Array Bool) (a : Act) (w : World), (∀ j, l[j]? = ops[k + j]?) →
    seqFrom md ops l.length k listed = true → wpList P ops Q l a w → wpAny P md ops Q l.length listed a w
  | [], _, _, _, _, _, hB, h => ⟨by simpa [seqFrom] using hB, h⟩
  | o :: l, k, listed, a, w, hl, hB, h => by
    have h0 : ops[k]? = some o := by simpa using (hl 0).symm
    simp only [List.length_cons, seqFrom, Bool.and_eq_true, decide_eq_true_eq] at hB
    refine wpAny_all hB.1 (by simp) fun i hi => ?_
    obtain rfl : i = k := by simpa using hi
    have h1 : wpOp P ops Q i (wpList P ops Q l) a w := by unfold wpOp; simp only [h0]; exact h
    exact wpOp_mono (fun a' w' h' => wpAny_of_list l (i + 1) _ a' w' (fun j => by have := hl (j + 1); simpa [Nat.add_assoc, Nat.add_comm 1 j] using this) hB.2 h') h1

def splitB (ops : Array Oper) (n : Nat) : Bool := decide (n ≤ ops.size) && tailB .any ops n && seqFrom .any ops (ops.size - n) n (lexSet n 0 (Array.replicate ops.size false))

theorem cnt_none (s : Nat) : ∀ n, n ≤ s → cnt (Array.replicate s false) n = n
  | 0, _ => rfl
  | n + 1, h => by simp only [cnt]; rw [cnt_none s n (by omega)]; simp [show n < s by omega]

/-- The first n operations quietly, in the order of the text; the others behind them, one by one. -/
theorem wp_region_tail {id : Nat} {Q : Exit → Act → World → Prop} {a : Act} {w : World} (n : Nat) {pre post : List Oper} (hm : P.follows .mixedOrders = true) (hB : Region.lexB .any ops = true) (hS : splitB ops n = true)
    (hpre : ops.toList.take n = pre) (hpost : ops.toList.drop n = post) (hC : C { w with drawn := w.drawn + 1 })
    (h : wpQuiet P ops C (fun a' => ∀ w', C w' → wpList P ops Q post a' w') pre a) : (Code.region id ops true).wp P Q a w := by
  simp only [Region.lexB, Bool.and_eq_true] at hB
  simp only [splitB, Bool.and_eq_true, decide_eq_true_eq] at hS
  obtain ⟨⟨hn, hT⟩, hq⟩ := hS
  have hlen : pre.length = n := by rw [← hpre]; simp; omega
  have hlen' : post.length = ops.size - n := by rw [← hpost]; simp
  have hsum : ops.size = pre.length + post.length := by omega
  refine wp_region_any hm ?_
  have h1 := wpAnyT_lex (P := P) (C := C) (md := .any) (m := post.length) (L := lexSet n 0 (Array.replicate ops.size false)) hB.1 hT pre 0 (Array.replicate ops.size false) a
    (fun j hj => by rw [← hpre, Nat.zero_add, List.getElem?_take, if_pos (by omega)]; simp) (by omega) (by rw [cnt_none _ _ hn, hlen]) (fun j oj _ hl => by by_cases hs : j < ops.size <;> simp [hs] at hl) (by rw [hlen]) (by rw [← hsum]; exact hB.2) h
  have h2 := wpAny_of_T (Q' := Q) (m := post.length) (fun listed a' w' hw' hT' => by
    obtain ⟨rfl, hT'⟩ := hT'
    exact wpAny_of_list post n _ a' w' (fun j => by rw [← hpost, List.getElem?_drop]; simp) (by rw [hlen']; exact hq) (hT' w' hw')) _ _ _ _ hC h1
  rw [hsum]
  rw [← hsum] at h2 ⊢
  exact h2

theorem wp_region_tail_below {id : Nat} {Q : Exit → Act → World → Prop} {a : Act} {w : World} {l : List Oper} (n : Nat) {pre post : List Oper} (hm : P.follows .mixedOrders = true) (hB : Region.lexB .any l.toArray = true) (hS : splitB l.toArray n = true)
    (hpre : l.take n = pre) (hpost : l.drop n = post)
    (h : wpQuiet P l.toArray (fun w' => ∃ p : Regrown, w' = Go.Sort.grow (redrawn w p.d) p.os) (fun a' => ∀ w', (∃ p : Regrown, w' = Go.Sort.grow (redrawn w p.d) p.os) → wpList P l.toArray Q post a' w') pre a) : (Code.region id l.toArray true).wp P Q a w :=
  wp_region_tail (C := fun w' => ∃ p : Regrown, w' = Go.Sort.grow (redrawn w p.d) p.os) n hm hB hS (by simpa using hpre) (by simpa using hpost) ⟨⟨w.drawn + 1, #[]⟩, by rw [Go.Sort.grow_empty]; rfl⟩ h
end
end Go.Proofs.YtaeinllbjkjhlaaGreatDoor

/-! A region that draws its order, some operations of which only read (callees may lay new blocks), and whose other operations wait for all of those, one for another: the first are walked once, quietly, in an order of the prover's choice, the others in theirs, whatever they do. Nothing of the program stands here. -/
namespace Go.Proofs.YtaeinllbjkjhlaaGreatDoor
open Go.RowKit

section
variable {P : Program} {ops : Array Oper} {md : Region.Mode} {C : World → Prop}

def tailQ (md : Region.Mode) (ops : Array Oper) (q p : List Nat) : Bool := p.all fun j => q.all fun k => waits md ops ops.size j k
/-- Whatever is not listed is of the ones or of the others. -/
def Parted (listed : Array Bool) (q p : List Nat) : Prop := ∀ j, listed.getD j true = false → j ∈ q ∨ j ∈ p
theorem Parted.set {listed : Array Bool} {q p : List Nat} (h : Parted listed q p) (i : Nat) : Parted (listed.setIfInBounds i true) q p := fun j hj => by
  by_cases hij : i = j
  · subst hij
    have : (listed.setIfInBounds i true).getD i true = true := by
      by_cases hs : i < listed.size <;> simp [hs]
    rw [this] at hj; cases hj
  · rw [getD_set_ne true hij] at hj; exact h j hj
theorem tailQ_spec {listed : Array Bool} {q p : List Nat} {j k : Nat} (hB : tailQ md ops q p = true) (hP : Parted listed q p) (hc : Closed md ops listed) (hn : ¬ j ∈ q) (hj : j ∈ Region.ready md ops listed) (hk : k ∈ q) : listed.getD k true = true := by
  obtain ⟨hun, o, ho, hall⟩ := mem_ready.1 hj
  simp only [tailQ, List.all_eq_true] at hB
  have h := waits_spec hc ops.size j o ho hall (hB j ((hP j hun).resolve_left hn) k hk)
  by_cases hs : k < listed.size
  · simp [hs] at h ⊢; exact h
  · simp [hs] at h

/-- How many of some are not listed. -/
def cntQ (listed : Array Bool) : List Nat → Nat
  | [] => 0
  | k :: l => cntQ listed l + if listed.getD k true = false then 1 else 0
theorem cntQ_far {listed : Array Bool} {i : Nat} : ∀ {q : List Nat}, ¬ i ∈ q → cntQ (listed.setIfInBounds i true) q = cntQ listed q
  | [], _ => rfl
  | k :: l, h => by
    simp only [List.mem_cons, not_or] at h
    simp only [cntQ]; rw [cntQ_far h.2, getD_set_ne true h.1]
theorem cntQ_set {listed : Array Bool} {i : Nat} (hi : listed.getD i true = false) : ∀ {q : List Nat}, q.Nodup → i ∈ q → cntQ (listed.setIfInBounds i true) q + 1 = cntQ listed q
  | [], _, h => absurd h (by simp)
  | k :: l, hd, h => by
    simp only [cntQ]
    obtain ⟨hk, hd⟩ := List.nodup_cons.1 hd
    by_cases hin : i = k
    · subst hin
      have : (listed.setIfInBounds i true).getD i true = true := by
        by_cases hs : i < listed.size <;> simp [hs]
      rw [cntQ_far hk, this, hi]; simp
    · rw [getD_set_ne true hin]
      have hm : i ∈ l := by
        rcases List.mem_cons.1 h with h | h
        · exact absurd h hin
        · exact h
      have := cntQ_set hi hd hm
      omega
theorem cntQ_pos {listed : Array Bool} {i : Nat} {q : List Nat} (hi : listed.getD i true = false) (hd : q.Nodup) (h : i ∈ q) : 1 ≤ cntQ listed q := by have := cntQ_set hi hd h; omega
theorem cntQ_two {listed : Array Bool} {i j : Nat} {q : List Nat} (hi : listed.getD i true = false) (hj : listed.getD j true = false) (hij : i ≠ j) (hd : q.Nodup) (h1 : i ∈ q) (h2 : j ∈ q) : 2 ≤ cntQ listed q := by
  have := cntQ_set hi hd h1
  have := cntQ_pos (listed := listed.setIfInBounds i true) (i := j) (by rw [getD_set_ne true hij]; exact hj) hd h2
  omega

theorem wpAnyQ_first {T : Array Bool → Act → Prop} {q p : List Nat} {i : Nat} {oi : Oper} {v : Value} (hd : q.Nodup) (hi : ops[i]? = some oi) (hsel : ∀ (j : Nat) (o : Oper) cs b, ops[j]? = some o → o.op ≠ .select cs b) (hin : i ∈ q) (hB : tailQ md ops q p = true) :
    ∀ (fuel : Nat) (listed : Array Bool) (a : Act), Parted listed q p → Closed md ops listed → cntQ listed q = fuel + 1 →
      (∀ j oj, ops[j]? = some oj → j ≠ i → listed.getD j true = false → (∀ e ∈ oj.after, Region.binds md e = true → e.on ≠ i) → oi.apart ops oj = true) →
      i ∈ Region.ready md ops listed → YieldsIn P ops C oi v a →
      wpAnyT P md ops C T fuel (listed.setIfInBounds i true) (a.put oi.dst v) → wpAnyT P md ops C T (fuel + 1) listed a := by
  intro fuel
  induction fuel with
  | zero =>
    intro listed a hP hc hn _ hr hy H
    refine ⟨List.ne_nil_of_mem hr, fun j hj => ?_⟩
    have hji : j = i := by
      apply Classical.byContradiction
      intro hji
      by_cases hjn : j ∈ q
      · have := cntQ_two (mem_ready.1 hj).1 (mem_ready.1 hr).1 hji hd hjn hin
        omega
      · have := tailQ_spec hB hP hc hjn hj hin
        rw [(mem_ready.1 hr).1] at this
        cases this
    subst hji
    exact hy.qOp hi H
  | succ fuel ih =>
    intro listed a hP hc hn hfree hr hy H
    refine ⟨List.ne_nil_of_mem hr, fun j hj => ?_⟩
    by_cases hji : j = i
    · subst hji; exact hy.qOp hi H
    · have hjn : j ∈ q := by
        apply Classical.byContradiction
        intro hjn
        have := tailQ_spec hB hP hc hjn hj hin
        rw [(mem_ready.1 hr).1] at this
        cases this
      have h1 := H.2 j (ready_mono hj hji)
      obtain ⟨hjun, oj, hoj, hall⟩ := mem_ready.1 hj
      have hnot : ∀ e ∈ oj.after, Region.binds md e = true → e.on ≠ i := fun e he hb heq => by
        have h1 := hall e he hb
        have h0 := (mem_ready.1 hr).1
        rw [heq] at h1
        rcases Nat.lt_or_ge i listed.size with h' | h'
        · simp [h'] at h0 h1; rw [h0] at h1; cases h1
        · simp [Array.getElem?_eq_none h'] at h1
      have h2 := qOp_put hoj (hfree j oj hoj hji hjun hnot) (fun cs b => hsel i oi cs b hi) (fun cs b => hsel j oj cs b hoj) hy h1
      have hfree' : ∀ k ok, ops[k]? = some ok → k ≠ i → (listed.setIfInBounds j true).getD k true = false →
          (∀ e ∈ ok.after, Region.binds md e = true → e.on ≠ i) → oi.apart ops ok = true := fun k ok hk hki hun hno => by
        refine hfree k ok hk hki ?_ hno
        by_cases hjk : j = k
        · subst hjk; exact hjun
        · rw [getD_set_ne true hjk] at hun; exact hun
      refine qOp_mono (fun a' h3 => ih (listed.setIfInBounds j true) a' (hP.set j) (closed_set hc hj) (by have := cntQ_set hjun hd hjn; omega) hfree' (ready_mono hr (Ne.symm hji)) h3.1 ?_) h2
      rw [Array.setIfInBounds_comm _ _ hji]
      exact h3.2

/-- What is listed behind some. -/
def ordSet : List Nat → Array Bool → Array Bool
  | [], listed => listed
  | k :: l, listed => ordSet l (listed.setIfInBounds k true)
def ordB (md : Region.Mode) (ops : Array Oper) : List Nat → Array Bool → Bool
  | [], _ => true
  | k :: l, listed => (Region.ready md ops listed).contains k && (Region.free md ops listed k && ordB md ops l (listed.setIfInBounds k true))

theorem wpAnyQ_ord {L : Array Bool} {Q : Act → Prop} {q p : List Nat} (hd : q.Nodup) (hs : Region.noSelect ops = true) (hB : tailQ md ops q p = true) : ∀ (ord : List Nat) (l : List Oper) (listed : Array Bool) (a : Act), ord.map (fun i => ops[i]?) = l.map some →
    (∀ k ∈ ord, k ∈ q) → cntQ listed q = l.length → Parted listed q p → Closed md ops listed → ordSet ord listed = L →
    ordB md ops ord listed = true → wpQuiet P ops C Q l a → wpAnyT P md ops C (fun listed a => listed = L ∧ Q a) l.length listed a
  | [], [], _, _, _, _, _, _, _, hL, _, h => ⟨hL, h⟩
  | [], _ :: _, _, _, hm, _, _, _, _, _, _, _ => by simp at hm
  | _ :: _, [], _, _, hm, _, _, _, _, _, _, _ => by simp at hm
  | k :: ord, o :: l, listed, a, hm, hk, hn, hP, hc, hL, hx, h => by
    simp only [List.map_cons, List.cons.injEq] at hm
    obtain ⟨h0, hm⟩ := hm
    simp only [ordB, Bool.and_eq_true] at hx
    obtain ⟨hr, hf, hx⟩ := hx
    have hr : k ∈ Region.ready md ops listed := by simpa using hr
    have hst : qOp P ops C k (wpQuiet P ops C Q l) a := by unfold qOp; simp only [h0]; exact h
    obtain ⟨v, hy, hK⟩ := yieldsIn_of_qOp h0 hst
    simp only [List.length_cons] at hn
    have hkq : k ∈ q := hk k (by simp)
    have hcn := cntQ_set (mem_ready.1 hr).1 hd hkq
    exact wpAnyQ_first hd h0 (Region.noSelect_spec hs) hkq hB l.length listed a hP hc hn (Region.free_spec h0 hf) hr hy
      (wpAnyQ_ord hd hs hB ord l _ _ hm (fun j hj => hk j (List.mem_cons_of_mem _ hj)) (by omega) (hP.set k) (closed_set hc hr) hL hx hK)

/-- From here on one operation comes up at a time. -/
def seqB (md : Region.Mode) (ops : Array Oper) : List Nat → Array Bool → Bool
  | [], listed => (Region.ready md ops listed).isEmpty
  | k :: l, listed => decide (Region.ready md ops listed = [k]) && seqB md ops l (listed.setIfInBounds k true)
theorem wpAny_of_seq {Q : Exit → Act → World → Prop} : ∀ (ord : List Nat) (l : List Oper) (listed : Array Bool) (a : Act) (w : World), ord.map (fun i => ops[i]?) = l.map some →
    seqB md ops ord listed = true → wpList P ops Q l a w → wpAny P md ops Q l.length listed a w
  | [], [], _, _, _, _, hB, h => ⟨by simpa [seqB] using hB, h⟩
  | [], _ :: _, _, _, _, hm, _, _ => by simp at hm
  | _ :: _, [], _, _, _, hm, _, _ => by simp at hm
  | k :: ord, o :: l, listed, a, w, hm, hB, h => by
    simp only [List.map_cons, List.cons.injEq] at hm
    simp only [seqB, Bool.and_eq_true, decide_eq_true_eq] at hB
    refine wpAny_all hB.1 (by simp) fun i hi => ?_
    obtain rfl : i = k := by simpa using hi
    have h1 : wpOp P ops Q i (wpList P ops Q l) a w := by unfold wpOp; simp only [hm.1]; exact h
    exact wpOp_mono (fun a' w' h' => wpAny_of_seq ord l _ a' w' hm.2 hB.2 h') h1

theorem picked {l : List Oper} : ∀ {q : List Nat} {pre : List Oper}, (∀ i ∈ q, i < l.length) → q.filterMap (fun i => l[i]?) = pre → q.map (fun i => l[i]?) = pre.map some
  | [], _, _, h => by subst h; rfl
  | i :: q, _, hq, h => by
    subst h
    have hi := hq i (by simp)
    have ih := picked (q := q) (fun j hj => hq j (List.mem_cons_of_mem _ hj)) rfl
    have e : (fun i => l[i]?) i = some l[i] := List.getElem?_eq_getElem hi
    rw [List.map_cons, List.filterMap_cons_some e, List.map_cons]
    exact congr (congrArg _ e) ih
theorem picked_cons {l : List Oper} {i : Nat} {o : Oper} {q : List Nat} {pre : List Oper} (h : l[i]? = some o) (h' : q.filterMap (fun i => l[i]?) = pre) : (i :: q).filterMap (fun i => l[i]?) = o :: pre := by
  subst h'
  exact List.filterMap_cons_some h
theorem picked_nil {l : List Oper} : ([] : List Nat).filterMap (fun i => l[i]?) = [] := rfl
def closedB (md : Region.Mode) (ops : Array Oper) (listed : Array Bool) : Bool := (List.range ops.size).all fun j => !listed.getD j false || match ops[j]? with
  | some o => o.after.all fun e => !Region.binds md e || listed.getD e.on false
  | none => true
theorem closedB_spec {listed : Array Bool} (h : closedB md ops listed = true) : Closed md ops listed := fun j oj hoj hl e he hb => by
  simp only [closedB, List.all_eq_true, List.mem_range, Bool.or_eq_true, Bool.not_eq_true'] at h
  have h1 := h j (Array.getElem?_eq_some_iff.1 hoj).1
  rw [hl, hoj] at h1
  simp only [Bool.true_eq_false, false_or] at h1
  have h2 := Array.all_eq_true_iff_forall_mem.1 h1 e he
  simpa [hb] using h2
def partedB (ops : Array Oper) (listed : Array Bool) (q p : List Nat) : Bool := decide (listed.size = ops.size) && (List.range ops.size).all fun j => listed.getD j true || (q.contains j || p.contains j)
theorem partedB_spec {listed : Array Bool} {q p : List Nat} (h : partedB ops listed q p = true) : Parted listed q p := fun j hj => by
  simp only [partedB, List.all_eq_true, List.mem_range, Bool.or_eq_true, Bool.and_eq_true, decide_eq_true_eq] at h
  have hs : j < ops.size := by
    rw [← h.1]
    by_cases hs : j < listed.size
    · exact hs
    · simp [hs] at hj
  have := (h.2 j hs).resolve_left (by rw [hj]; decide)
  simpa using this
def splitQ (ops : Array Oper) (listed : Array Bool) (q p : List Nat) : Bool := (q.all fun i => decide (i < ops.size)) && ((p.all fun i => decide (i < ops.size)) && (q.Nodup && (closedB .any ops listed && (partedB ops listed q p &&
  (Region.noSelect ops && (tailQ .any ops q p && (ordB .any ops q listed && (decide (cntQ listed q = q.length) && seqB .any ops p (ordSet q listed)))))))))

theorem wp_any_tailq_below {n : Nat} {listed : Array Bool} {Q : Exit → Act → World → Prop} {a : Act} {w : World} {l : List Oper} (q p : List Nat) {pre post : List Oper} (hS : splitQ l.toArray listed q p = true) (hn : q.length + p.length = n)
    (hpre : q.filterMap (fun i => l[i]?) = pre) (hpost : p.filterMap (fun i => l[i]?) = post)
    (h : wpQuiet P l.toArray (fun w' => ∃ p : Regrown, w' = Go.Sort.grow (redrawn w p.d) p.os) (fun a' => ∀ w', (∃ p : Regrown, w' = Go.Sort.grow (redrawn w p.d) p.os) → wpList P l.toArray Q post a' w') pre a) : wpAny P .any l.toArray Q n listed a w.drew := by
  simp only [splitQ, Bool.and_eq_true, decide_eq_true_eq, List.all_eq_true] at hS
  obtain ⟨hq1, hp1, hd, hcl, hpt, hs, hT, hO, hcn, hq⟩ := hS
  replace hpre := picked (by simpa using hq1) hpre
  replace hpost := picked (by simpa using hp1) hpost
  have hC : ∃ p : Regrown, (w.drew : World) = Go.Sort.grow (redrawn w p.d) p.os := ⟨⟨w.drawn + 1, #[]⟩, by rw [Go.Sort.grow_empty]; rfl⟩
  have hlen : pre.length = q.length := by have := congrArg List.length hpre; simpa using this.symm
  have hlen' : post.length = p.length := by have := congrArg List.length hpost; simpa using this.symm
  have hsum : n = pre.length + post.length := by rw [hlen, hlen', hn]
  have h1 := wpAnyQ_ord (P := P) (C := fun w' => ∃ p : Regrown, w' = Go.Sort.grow (redrawn w p.d) p.os) (md := .any) (L := ordSet q listed) hd hs hT q pre listed a
    (by rw [← hpre]; simp) (fun k hk => hk) (by rw [hcn, hlen]) (partedB_spec hpt) (closedB_spec hcl) rfl hO h
  have h2 := wpAny_of_T (Q' := Q) (m := post.length) (fun listed a' w' hw' hT' => by
    obtain ⟨rfl, hT'⟩ := hT'
    exact wpAny_of_seq p post _ a' w' (by rw [← hpost]; simp) hq (hT' w' hw')) _ _ _ _ hC h1
  rw [hsum]
  exact h2
end
end Go.Proofs.YtaeinllbjkjhlaaGreatDoor
