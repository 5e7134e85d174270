/- The tables and errors that the readers' rows list: what lies in a world that meets their condition, and a world that does. -/
import Derived.Test.YtaeinllbjkjhlaaGreatDoorReadT
import Derived.Stop.LaidErr
import Derived.LaidLaws
import Derived.JoinedOf
import Derived.Handed
import Derived.Shelf.Vars
namespace Go.Proofs.YtaeinllbjkjhlaaGreatDoor
open Go.RowKit

def laidLR : List (String × DataW Unit) := [("math/bits.deBruijn32tab", Rows.laid_math_bits_deBruijn32tab), ("math/bits.deBruijn64tab", Rows.laid_math_bits_deBruijn64tab), ("internal/strconv.uint64pow10", Rows.laid_internal_strconv_uint64pow10), ("unicode/utf8.acceptRanges", Rows.laid_unicode_utf8_acceptRanges), ("strconv.ErrRange", Rows.laid_strconv_ErrRange), ("strconv.ErrSyntax", Rows.laid_strconv_ErrSyntax), ("unicode/utf8.first", Rows.laid_unicode_utf8_first)]
theorem starErr : "*" ++ "errors.errorString" = "*errors.errorString" := by decide
theorem rowErr (u : TypeId) (h : Tryz.prog.typeName? 3 u = some "*errors.errorString") : u = 180 :=
  typeName_ptr_named (nm := "errors.errorString") (by rw [starErr]; kernel_rfl) (by kernel_rfl) (by decide) u (by rw [starErr]; exact h)
theorem tabR_of_laid {W : World} (h : laidMet Tryz.prog laidLR W) (hsh : W.ShapedOpen Tryz.prog) : TabR W where
  tab := Lib.tabIs_of_head (P := Tryz.prog) (g := 3) (t := 166) (e := 102) (n := 20) (zs := Lib.pow10Tab) (by kernel_rfl) (by kernel_rfl) Tryz.underlying166 Tryz.underlying102 (by kernel_rfl) (by kernel_rfl) h.tail.tail
  ml := cell_of_shapedOpen_int (P := Tryz.prog) (g := 0) (t := 3) (zero := #[.int .i64 0]) hsh (of_decide_eq_true (by kernel_rfl)) (by kernel_rfl) rfl (by kernel_rfl) (by kernel_rfl) Tryz.underlying3
  es := by
    obtain ⟨a1, s1, hv1, _, _, _⟩ := laid_sentinel (g := 1) (te := 182) (ts := 9) h.tail.tail.tail.tail.tail (by kernel_rfl) (by kernel_rfl) Tryz.underlying115 rowErr Tryz.underlying180 Tryz.underlying182 rfl rfl Tryz.underlying9 (by kernel_rfl) (by kernel_rfl)
    exact ⟨_, World.var?_cell (by kernel_rfl) hv1 0, Or.inr ⟨_, _, rfl⟩⟩
  er := by
    obtain ⟨a1, s1, hv1, _, _, _⟩ := laid_sentinel (g := 2) (te := 182) (ts := 9) h.tail.tail.tail.tail (by kernel_rfl) (by kernel_rfl) Tryz.underlying115 rowErr Tryz.underlying180 Tryz.underlying182 rfl rfl Tryz.underlying9 (by kernel_rfl) (by kernel_rfl)
    exact ⟨_, World.var?_cell (by kernel_rfl) hv1 0, Or.inr ⟨_, _, rfl⟩⟩
/-- A listed table's cells. -/
def flatData : DataW Unit → List Value
  | .lit (.int k z) => [.int k z]
  | _ => []
def flatRow : DataW Unit → List Value
  | .agg ps => ps.flatMap flatData
  | x => flatData x
def cellsOfDataR : DataW Unit → Array Value
  | .agg ps => (ps.flatMap flatRow).toArray
  | _ => #[]
def layAtR (d : DataW Unit) : Obj → Obj
  | .cells _ t frozen => .cells (cellsOfDataR d) t frozen
  | o => o
def layErr (n : Nat) : Obj → Obj
  | .cells _ t frozen => .cells #[.iface 180 (.pointer (some ⟨n, 0, none⟩))] t frozen
  | o => o
noncomputable def lowR : Nat := (World.holding Tryz.prog default ⟨#[], #[], []⟩).heap.size
/-- The settled world, the listed tables and errors lying as their initialisers lay them: the witness. -/
noncomputable def laidWorldR (os : Os) : World :=
  let w0 := World.holding Tryz.prog os ⟨#[.cells #[.string ⟨#[118, 97, 108, 117, 101, 32, 111, 117, 116, 32, 111, 102, 32, 114, 97, 110, 103, 101]⟩] 182, .cells #[.string ⟨#[105, 110, 118, 97, 108, 105, 100, 32, 115, 121, 110, 116, 97, 120]⟩] 182], #[], []⟩
  { w0 with heap := ((((((w0.heap.modify 6 (layAtR Rows.laid_math_bits_deBruijn32tab)).modify 7 (layAtR Rows.laid_math_bits_deBruijn64tab)).modify 3 (layAtR Rows.laid_internal_strconv_uint64pow10)).modify 5 (layAtR Rows.laid_unicode_utf8_acceptRanges)).modify 4 (layAtR Rows.laid_unicode_utf8_first)).modify 2 (layErr lowR)).modify 1 (layErr (lowR + 1)) }
theorem laid_metR (os : Os) (args : Array Value) : laidMet Tryz.prog laidLR ((laidWorldR os).forCall (fun _ _ => 0) ⟨#[], args, []⟩).memory :=
  laidMet_of_run' 8 (by kernel_rfl) (by kernel_rfl)
section
variable {H : Type} {enc : TypeId × Value → H}
/-- The wrap of a row that lists variables, the world's shape kept. -/
theorem returns_laid_shaped {a : Assume} {C : Checked} {os : Os} {f : FuncId} {fn : Func} {s : ChangeSpec} {conds : List PathCond} {apart fresh handsOn again : Bool} {X : World → Array Value → Prop}
    (hX : ∀ (w w' : World) (args : Array Value), w.heap = w'.heap → X w args → X w' args)
    (own : ownKnob C.prog.godebug = none) (started : os.Started) (noInit : C.prog.inits.idxOf? f = none) (hfn : C.prog.funcs[f]? = some fn)
    (witness : ∃ (w : World) (tape : Tape) (i : Input), w.os = os ∧ (w.forCall tape i).Shaped C.prog ∧ i.vars = [] ∧ Input.okWide C.prog (w.forCall tape i) .any w.heap.size f i ∧
      ((s.pre enc C.prog fn conds apart (w.forCall tape i).memory i.args ∧ X (w.forCall tape i).memory i.args) ∧ sizedMet enc C.prog fn (OpenSpec.ofChange s) apart (w.forCall tape i).memory i.args) ∧ a.holds C.prog (lone (Frame.enter C.prog f i.args .normal) [] (w.forCall tape i)))
    (contract : ∀ (W : World) (base : Nat) (args : Array Value) (ds gs : List (DataW H)) (before : List MemPlace),
      (∀ (j : Nat) t v, fn.params[j]? = some t → args[j]? = some v → Value.okWide C.prog W .any base t v) →
      DataW.Whole enc C.prog fn.params.toList s.vars apart W args.toList ds gs before →
      conds.all (PathCond.test C.prog ⟨fn.params.toList, ds, s.plain.varTypes C.prog, gs⟩) = true →
      (DataW.weightsEach C.prog (fn.params.toList ++ s.plain.varTypes C.prog) (ds ++ gs)).all (· ≤ reachBytes) = true → X W args →
      W.ShapedOpen C.prog →
      Calls C.prog f args W fun e W' => ∃ v, e = .returned v ∧ s.post enc C.prog fn apart fresh handsOn again W args v W') :
    ReturnsInHanded a C os f .any (fun w args => (s.pre enc C.prog fn conds apart w args ∧ X w args) ∧ sizedMet enc C.prog fn (OpenSpec.ofChange s) apart w args) (s.post enc C.prog fn apart fresh handsOn again) := by
  refine returnsInHanded_of_calls own started noInit witness ?_
  intro w tape i _ hsh _ hok hpre _
  obtain ⟨_, _, _, fn', hfn', _, _, _, _, hval⟩ := hok
  have e : fn' = fn := Option.some.inj (hfn'.symm.trans hfn)
  subst e
  obtain ⟨⟨⟨ds, gs, before, hw, hc⟩, hx⟩, hz⟩ := hpre
  have hw' := DataW.Whole.of_heap (w' := w.forCall tape i) (by rfl) hw
  refine (contract (w.forCall tape i) w.heap.size i.args ds gs before hval hw' hc (hz.weights hw) (hX _ _ _ (by rfl) hx) hsh).mono fun e W' ⟨v, he, hp⟩ => ?_
  subst he
  exact ChangeSpec.post_blind hp
end
end Go.Proofs.YtaeinllbjkjhlaaGreatDoor
