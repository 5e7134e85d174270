/- Maps whose keys are edges of patterns: what the map's operations do, whatever the elements are. -/
import Derived.Test.YtlmhiocmldhkhaaGreatDoorP08v
import Derived.Maps.Keyed
import Derived.ChangeKeysEq
import Derived.ChangeMaps4
namespace Go.Proofs.YtlmhiocmldhkhaaGreatDoor
open Go.RowKit

def ek (e : Edge) : Value := .agg #[.int .i64 e.piece, .int .i64 e.number]
theorem edge_check (e : Edge) (b : Bool) (w : World) : (Instr.checkKey b 10000 54 (ek e)).run Tryz.prog w = .ok () w := by
  cases e; cases b <;> kernel_rfl
theorem part0 (x y : Int) (w : World) : (part 2 #[.int .i64 x, .int .i64 y] 0).run Tryz.prog w = .ok (.int .i64 x) w := by kernel_rfl
theorem part1 (x y : Int) (w : World) : (part 2 #[.int .i64 x, .int .i64 y] 1).run Tryz.prog w = .ok (.int .i64 y) w := by kernel_rfl
theorem eqIn (d : Nat) (a1 a2 b1 b2 : Int) (w : World) : (Op.equalIn (d + 1 + 1) 54 (.agg #[.int .i64 a1, .int .i64 a2]) (.agg #[.int .i64 b1, .int .i64 b2])).run Tryz.prog w = .ok (decide (a1 = b1 ∧ a2 = b2)) w := by
  have hs : Tryz.prog.stoodInHeld 54 = false := by kernel_rfl
  have e1 := fun w => run_equalIn_int (P := Tryz.prog) w d 2 .i64 .i64 a1 b1 Tryz.underlying2
  have e2 := fun w => run_equalIn_int (P := Tryz.prog) w d 2 .i64 .i64 a2 b2 Tryz.underlying2
  rw [Op.equalIn]
  by_cases h1 : a1 = b1
  · subst h1
    by_cases h2 : a2 = b2
    · subst h2
      simp [run_underlying Tryz.underlying54, hs, part0, part1, e1, e2, Result.andThen, program, Sem.run]
    · simp [run_underlying Tryz.underlying54, hs, part0, part1, e1, e2, h2, Result.andThen, program, Sem.run]
  · simp [run_underlying Tryz.underlying54, hs, part0, e1, h1, Result.andThen, program, Sem.run]
theorem edge_equal (a b : Edge) (w : World) : (Op.equal 54 (ek a) (ek b)).run Tryz.prog w = .ok (decide (a = b)) w := by
  obtain ⟨a1, a2⟩ := a
  obtain ⟨b1, b2⟩ := b
  have : decide ((⟨a1, a2⟩ : Edge) = ⟨b1, b2⟩) = decide (a1 = b1 ∧ a2 = b2) := by rw [Bool.eq_iff_iff]; simp
  rw [this]
  exact eqIn 9998 _ _ _ _ _
theorem edge_same (a : Edge) : Instr.sameBits 10000 (ek a) (ek a) = true := by
  obtain ⟨a1, a2⟩ := a
  simp [ek, Instr.sameBits]
theorem edge_stays (a : Edge) (w : World) : (Instr.keyThatStays (ek a) (ek a)).run Tryz.prog w = .ok (ek a) w := by
  simp [Instr.keyThatStays, edge_same]
/-- Where a key lies among some. -/
def lookE {β : Type} : List (Edge × β) → Edge → Option β
  | [], _ => none
  | (k, v) :: l, e => if e = k then some v else lookE l e
def putE {β : Type} : List (Edge × β) → Edge → β → List (Edge × β)
  | [], e, v => [(e, v)]
  | (k, u) :: l, e, v => if e = k then (k, v) :: l else (k, u) :: putE l e v
def enc {β : Type} (ev : β → Value) (x : Edge × β) : Value × Value := (ek x.1, ev x.2)
def ents (es : List MapEntry) : List (Value × Value) := es.map fun e => (e.key, e.val)
theorem find_none {β : Type} (ev : β → Value) (e : Edge) (w : World) : ∀ (kvs : List (Edge × β)) (es : List MapEntry) (i : Nat), ents es = kvs.map (enc ev) → lookE kvs e = none → (Instr.findAsking 54 (ek e) es i).run Tryz.prog w = .ok none w
  | [], [], _, _, _ => by simp [Instr.findAsking]
  | [], _ :: _, _, h, _ => by simp [ents] at h
  | _ :: _, [], _, h, _ => by simp [ents] at h
  | (k, v) :: kvs, x :: es, i, h, hn => by
    simp only [ents, List.map_cons, enc, List.cons.injEq, Prod.mk.injEq] at h
    simp only [lookE] at hn
    split at hn
    · cases hn
    · rename_i hne
      have ih := find_none ev e w kvs es (i + 1) h.2 hn
      simp [Instr.findAsking, h.1.1, edge_equal, hne, Result.andThen, ih]
theorem find_some {β : Type} (ev : β → Value) (e : Edge) (v : β) (w : World) : ∀ (kvs : List (Edge × β)) (es : List MapEntry) (i : Nat), ents es = kvs.map (enc ev) → lookE kvs e = some v →
    ∃ j x, es[j]? = some x ∧ x.key = ek e ∧ (Instr.findAsking 54 (ek e) es i).run Tryz.prog w = .ok (some (i + j, ev v)) w ∧ ∀ u b, ents (es.set j ⟨ek e, ev u, b⟩) = (putE kvs e u).map (enc ev)
  | [], _, _, _, h => by simp [lookE] at h
  | _ :: _, [], _, h, _ => by simp [ents] at h
  | (k, v') :: kvs, x :: es, i, h, hn => by
    simp only [ents, List.map_cons, enc, List.cons.injEq, Prod.mk.injEq] at h
    simp only [lookE] at hn
    by_cases hek : e = k
    · subst hek
      simp only [if_true] at hn
      cases hn
      refine ⟨0, x, rfl, h.1.1, by simp [Instr.findAsking, h.1.1, edge_equal, Result.andThen, h.1.2], fun u b => ?_⟩
      simp only [List.set_cons_zero, ents, List.map_cons, putE, if_true, enc]
      rw [show List.map (fun e => (e.key, e.val)) es = _ from h.2]
    · rw [if_neg hek] at hn
      obtain ⟨j, y, h1, h2, h3, h4⟩ := find_some ev e v w kvs es (i + 1) h.2 hn
      refine ⟨j + 1, y, by simpa using h1, h2, ?_, fun u b => ?_⟩
      · rw [show i + (j + 1) = i + 1 + j by omega]
        simp [Instr.findAsking, h.1.1, edge_equal, hek, Result.andThen, h3]
      · simp only [List.set_cons_succ, ents, List.map_cons, putE, if_neg hek, enc] at h4 ⊢
        rw [h4, h.1.1, h.1.2]
theorem findKey_eq (e : Edge) (w : World) (es : List MapEntry) (hk : ∀ x ∈ es, ∃ k, x.key = ek k) : (Instr.findKey 54 (ek e) es).run Tryz.prog w = (Instr.findAsking 54 (ek e) es).run Tryz.prog w := by
  cases es with
  | nil => simp [Instr.findKey, Instr.findNow, Instr.findAsking, run_underlying Tryz.underlying54, Result.andThen]
  | cons x es =>
    obtain ⟨k, hx⟩ := hk x (by simp)
    simp [Instr.findKey, Instr.findNow, run_underlying Tryz.underlying54, Instr.sameNow, Result.andThen, hx, ek]
/-- Block r is a map that holds these keys with these elements. -/
def MapAt {β : Type} (ev : β → Value) (w : World) (r : Nat) (kvs : List (Edge × β)) : Prop := ∃ es clock, w.heap[r]? = some (.map es clock) ∧ ents es.toList = kvs.map (enc ev)
theorem MapAt.lt {β : Type} {ev : β → Value} {w : World} {r : Nat} {kvs : List (Edge × β)} (h : MapAt ev w r kvs) : r < w.heap.size := by
  obtain ⟨es, c, h, _⟩ := h; exact (Array.getElem?_eq_some_iff.1 h).1
theorem MapAt.keys {β : Type} {ev : β → Value} {es : List MapEntry} {kvs : List (Edge × β)} (h : ents es = kvs.map (enc ev)) : ∀ x ∈ es, ∃ k, x.key = ek k := fun x hx => by
  have : (x.key, x.val) ∈ ents es := List.mem_map.2 ⟨x, hx, rfl⟩
  rw [h] at this
  obtain ⟨y, _, hy⟩ := List.mem_map.1 this
  exact ⟨y.1, (congrArg Prod.fst hy).symm⟩
theorem MapAt.len {β : Type} {ev : β → Value} {es : Array MapEntry} {kvs : List (Edge × β)} (h : ents es.toList = kvs.map (enc ev)) : es.size = kvs.length := by
  have := congrArg List.length h; simpa [ents] using this
theorem MapAt.new {β : Type} (ev : β → Value) (w : World) : MapAt ev (w.alloc (.map #[] 0)) w.heap.size ([] : List (Edge × β)) := ⟨#[], 0, heap_alloc_new _ _, rfl⟩
theorem MapAt.below {β : Type} {ev : β → Value} {w w' : World} {r : Nat} {kvs : List (Edge × β)} (h : MapAt ev w r kvs) (hb : Below w.heap.size w w') : MapAt ev w' r kvs := by
  have hl := h.lt
  obtain ⟨es, c, h1, h2⟩ := h
  exact ⟨es, c, by rw [hb.block r hl]; exact h1, h2⟩
theorem MapAt.grown {β : Type} {ev : β → Value} {w w' : World} {r : Nat} {row : Option Nat} {kvs : List (Edge × β)} (h : MapAt ev w r kvs) (hg : w.grownBy w' row) (hne : some r ≠ row) : MapAt ev w' r kvs := by
  have hl := h.lt
  obtain ⟨es, c, h1, h2⟩ := h
  exact ⟨es, c, by rw [hg.block r hl hne]; exact h1, h2⟩
theorem MapAt.update {β : Type} {ev : β → Value} {w : World} {r : Nat} {kvs : List (Edge × β)} {T et : TypeId} (hT : Tryz.prog.underlying T = some (.map 54 et)) (h : MapAt ev w r kvs) (e : Edge) (v : β) :
    ∃ w', (Instr.mapUpdate T (.map (some r)) (ek e) (ev v)).run Tryz.prog w = .ok () w' ∧ MapAt ev w' r (putE kvs e v) ∧ w.grownBy w' (some r) := by
  obtain ⟨es, clock, hb, hes⟩ := h
  have hfk := findKey_eq e w es.toList (MapAt.keys hes)
  have hlt := (Array.getElem?_eq_some_iff.1 hb).1
  have hgrown : ∀ o, w.grownBy (Go.ChangeMaps.setBlock w r o) (some r) := fun o => ⟨rfl, rfl, rfl, by simp [Go.ChangeMaps.setBlock], fun i hi hne => by
    simp only [Go.ChangeMaps.setBlock]
    rw [Array.getElem?_setIfInBounds_ne (fun e => hne (by rw [e]))]⟩
  cases hl : lookE kvs e with
  | none =>
    have h1 := find_none ev e w kvs es.toList 0 hes hl
    rw [← hfk] at h1
    refine ⟨Go.ChangeMaps.setBlock w r (.map (es.push ⟨ek e, ev v, clock⟩) (clock + 1)), ?_, ⟨es.push ⟨ek e, ev v, clock⟩, clock + 1, by simp [Go.ChangeMaps.setBlock, hlt], ?_⟩, hgrown _⟩
    · simp [Instr.mapUpdate, run_underlying hT, MapKept.run_getObj_map hb, edge_check, h1, MapKept.run_setObj_map _ hb, Result.andThen, Go.ChangeMaps.setBlock]
    · have hp : putE kvs e v = kvs ++ [(e, v)] := by
        clear hes h1 hfk
        induction kvs with
        | nil => rfl
        | cons x kvs ih =>
          obtain ⟨k, u⟩ := x
          simp only [lookE] at hl
          split at hl
          · cases hl
          · rename_i hne
            simp only [putE, if_neg hne, ih hl]; rfl
      rw [hp, List.map_append, ← hes]
      simp [ents, enc]
  | some u =>
    obtain ⟨j, x, hj, hx, h1, h2⟩ := find_some ev e u w kvs es.toList 0 hes hl
    rw [← hfk] at h1
    have hj' : es[j]? = some x := by simpa using hj
    refine ⟨Go.ChangeMaps.setBlock w r (.map (es.modify j fun y => { y with key := ek e, val := ev v }) clock), ?_, ⟨es.modify j fun y => { y with key := ek e, val := ev v }, clock, by simp [Go.ChangeMaps.setBlock, hlt], ?_⟩, hgrown _⟩
    · simp [Instr.mapUpdate, run_underlying hT, MapKept.run_getObj_map hb, edge_check, h1, hj', hx, edge_stays, MapKept.run_setObj_map _ hb, Result.andThen, Go.ChangeMaps.setBlock]
    · have hjl : j < es.size := (Array.getElem?_eq_some_iff.1 hj').1
      rw [← h2 v x.born]
      have e1 : (es.modify j fun y => { y with key := ek e, val := ev v }).toList = es.toList.set j ⟨ek e, ev v, x.born⟩ := by
        rw [Array.toList_modify]
        refine List.ext_getElem? fun i => ?_
        rw [List.getElem?_modify, List.getElem?_set]
        by_cases hij : j = i
        · subst hij
          rw [hj]; simp [hjl]
        · simp [hij]
      rw [e1]
theorem MapAt.look {β : Type} {ev : β → Value} {w : World} {r : Nat} {kvs : List (Edge × β)} {T et : TypeId} (hT : Tryz.prog.underlying T = some (.map 54 et)) (h : MapAt ev w r kvs) (e : Edge) {z : Value} (hz : (zeroValue et).run Tryz.prog w = .ok z w) (b : Bool) :
    (Instr.lookup T (.map (some r)) (ek e) b).run Tryz.prog w = .ok (if b then .tuple #[((lookE kvs e).map ev).getD z, .bool (lookE kvs e).isSome] else ((lookE kvs e).map ev).getD z) w := by
  obtain ⟨es, clock, hb, hes⟩ := h
  have hfk := findKey_eq e w es.toList (MapAt.keys hes)
  cases hl : lookE kvs e with
  | none =>
    have h1 := find_none ev e w kvs es.toList 0 hes hl
    rw [← hfk] at h1
    cases b <;> simp [Instr.lookup, run_underlying hT, MapKept.run_getObj_map hb, edge_check, h1, hz, Result.andThen]
  | some u =>
    obtain ⟨j, x, hj, hx, h1, h2⟩ := find_some ev e u w kvs es.toList 0 hes hl
    rw [← hfk] at h1
    cases b <;> simp [Instr.lookup, run_underlying hT, MapKept.run_getObj_map hb, edge_check, h1, Result.andThen]
section
variable {ops : Array Oper} {rest : List Oper} {o : Oper} {a : Act} {w : World} {Q : Exit → Act → World → Prop}
/-- A store into a map. -/
theorem wpList_putE {β : Type} (ev : β → Value) (hg : o.guard = none) (m x v : Operand) (T et : TypeId) (hop : o.op = Op.mapUpdate T m x v) (hT : Tryz.prog.underlying T = some (.map 54 et)) (r : Nat) (kvs : List (Edge × β))
    (hm : a.eval m = .map (some r)) (h : MapAt ev w r kvs) (e : Edge) (u : β) (hx : a.eval x = ek e) (hv : a.eval v = ev u)
    (hK : ∀ w', MapAt ev w' r (putE kvs e u) → w.grownBy w' (some r) → wpList Tryz.prog ops Q rest (a.put o.dst undef) w') : wpList Tryz.prog ops Q (o :: rest) a w := by
  refine wpList_plain hg fun K' hK' => ?_
  obtain ⟨w', hrun, r1, r2⟩ := h.update hT e u
  unfold Oper.wp
  simp [execOp, hop, hm, hx, hv, hrun, Result.andThen]
  exact hK' _ _ (hK w' r1 r2)
/-- The same in a region that draws its order. -/
theorem step_putE {β : Type} (ev : β → Value) {K : Act → World → Prop} {E : Prop} (hg : o.guard = none) (m x v : Operand) (T et : TypeId) (hop : o.op = Op.mapUpdate T m x v) (hT : Tryz.prog.underlying T = some (.map 54 et)) (r : Nat) (kvs : List (Edge × β))
    (hm : a.eval m = .map (some r)) (h : MapAt ev w r kvs) (e : Edge) (u : β) (hx : a.eval x = ek e) (hv : a.eval v = ev u)
    (hK : ∀ w', MapAt ev w' r (putE kvs e u) → w.grownBy w' (some r) → K (a.put o.dst undef) w') : if Region.wanted o (yielded ops a.tmps) = true then Oper.wp Tryz.prog o a w K Q else E := by
  have hw : Region.wanted o (yielded ops a.tmps) = true := by simp [Region.wanted, hg]
  rw [if_pos hw]
  obtain ⟨w', hrun, r1, r2⟩ := h.update hT e u
  unfold Oper.wp
  simp [execOp, hop, hm, hx, hv, hrun, Result.andThen]
  exact hK w' r1 r2
/-- A look into a map. -/
theorem wpList_lookE {β : Type} (ev : β → Value) (hg : o.guard = none) (m x : Operand) (T et : TypeId) (b : Bool) (hop : o.op = Op.lookup T m x b) (hT : Tryz.prog.underlying T = some (.map 54 et)) (r : Nat) (kvs : List (Edge × β))
    (hm : a.eval m = .map (some r)) (h : MapAt ev w r kvs) (e : Edge) (hx : a.eval x = ek e) {z : Value} (hz : (zeroValue et).run Tryz.prog w = .ok z w)
    (hK : wpList Tryz.prog ops Q rest (a.put o.dst (if b then .tuple #[((lookE kvs e).map ev).getD z, .bool (lookE kvs e).isSome] else ((lookE kvs e).map ev).getD z)) w) : wpList Tryz.prog ops Q (o :: rest) a w := by
  refine wpList_plain hg fun K' hK' => ?_
  have hrun := h.look hT e hz b
  unfold Oper.wp
  simp [execOp, hop, hm, hx, hrun, Result.andThen]
  exact hK' _ _ hK
end
theorem run_len_map {β : Type} {ev : β → Value} {w : World} {r : Nat} {kvs : List (Edge × β)} {T et : TypeId} (hT : Tryz.prog.underlying T = some (.map 54 et)) (ty : TypeId) (h : MapAt ev w r kvs) : (Builtin.len_ #[T] ty #[.map (some r)]).run Tryz.prog w = .ok (.int .i64 kvs.length) w := by
  obtain ⟨es, clock, hb, hes⟩ := h
  have := MapAt.len hes
  simp [Builtin.len_, run_underlying hT, MapKept.run_getObj_map hb, this, Result.andThen]; rfl
/-- All keys. -/
def keysE {β : Type} (kvs : List (Edge × β)) : List Edge := kvs.map (·.1)
theorem lookE_none {β : Type} {kvs : List (Edge × β)} {e : Edge} : lookE kvs e = none ↔ ¬ e ∈ keysE kvs := by
  induction kvs with
  | nil => simp [lookE, keysE]
  | cons x kvs ih =>
    obtain ⟨k, v⟩ := x
    simp only [lookE, keysE, List.map_cons, List.mem_cons, not_or]
    split
    · simp_all
    · rename_i h; simp only [keysE] at ih; simp [ih, h]
theorem putE_new {β : Type} {kvs : List (Edge × β)} {e : Edge} {v : β} (h : ¬ e ∈ keysE kvs) : putE kvs e v = kvs ++ [(e, v)] := by
  induction kvs with
  | nil => rfl
  | cons x kvs ih =>
    obtain ⟨k, u⟩ := x
    simp only [keysE, List.map_cons, List.mem_cons, not_or] at h
    simp only [putE, if_neg h.1]
    rw [ih (by simpa [keysE] using h.2)]; rfl
theorem putE_old {β : Type} {kvs : List (Edge × β)} {e : Edge} {v : β} (h : e ∈ keysE kvs) : keysE (putE kvs e v) = keysE kvs := by
  induction kvs with
  | nil => simp [keysE] at h
  | cons x kvs ih =>
    obtain ⟨k, u⟩ := x
    simp only [putE]
    split
    · rename_i he; simp [keysE]
    · rename_i he
      simp only [keysE, List.map_cons, List.mem_cons] at h ⊢
      have := ih (by simpa [keysE] using h.resolve_left he)
      simp only [keysE] at this; rw [this]
theorem lookE_put {β : Type} (kvs : List (Edge × β)) (e : Edge) (v : β) (d : Edge) : lookE (putE kvs e v) d = if d = e then some v else lookE kvs d := by
  induction kvs with
  | nil => simp [putE, lookE]
  | cons x kvs ih =>
    obtain ⟨k, u⟩ := x
    simp only [putE]
    split
    · rename_i he; subst he
      simp only [lookE]; split <;> rfl
    · rename_i he
      simp only [lookE, ih]
      by_cases h1 : d = k
      · subst h1
        rw [if_pos rfl, if_pos rfl, if_neg (fun h => he h.symm)]
      · rw [if_neg h1, if_neg h1]
end Go.Proofs.YtlmhiocmldhkhaaGreatDoor
