/- Feet and lasts that are drawn. -/
import Derived.Test.YtaeinllbjkjhlaaDoorF02
import Derived.Test.YtaeinllbjkjhlaaDoorSrcD
namespace Go.Proofs.YtaeinllbjkjhlaaDoor
open Go.RowKit

theorem ne_blk {a b n c : Nat} (h : a ≠ b) : (Value.slice (some ⟨a, 0, none⟩) n c).ownBlock ≠ some b := fun e => h (Option.some.inj (show some a = some b from e))
/-- A variable that holds a foot, cell by cell. -/
def footC (f : Foot) : List OneCell := [⟨.int .i64 f.Length, rfl⟩, ⟨.int .i64 f.Ball, rfl⟩, ⟨.int .i64 f.Instep, rfl⟩, ⟨.int .i64 f.Heel, rfl⟩]
theorem own_footC (w : World) (t : TypeId) (f : Foot) : Own w.heap.size (w.alloc (.cells #[.int .i64 f.Length, .int .i64 f.Ball, .int .i64 f.Instep, .int .i64 f.Heel] t)) t (.slice (some ⟨w.heap.size, 0, none⟩) 4 4) (footC f) :=
  ⟨rfl, .inr ⟨w.heap.size, 4, #[.int .i64 f.Length, .int .i64 f.Ball, .int .i64 f.Instep, .int .i64 f.Heel], rfl, Nat.le_refl _, heap_alloc_new _ _, Nat.le_refl _, by unfold maxLen; omega, rfl, rfl⟩⟩
theorem footC_cells {B : Nat} {w : World} {e : TypeId} {g n c : Nat} {f : Foot} (h : Own B w e (.slice (some ⟨g, 0, none⟩) n c) (footC f)) :
    w.cell? ⟨g, 0, none⟩ = some (.int .i64 f.Length) ∧ w.cell? ⟨g, 1, none⟩ = some (.int .i64 f.Ball) ∧ w.cell? ⟨g, 2, none⟩ = some (.int .i64 f.Instep) ∧ w.cell? ⟨g, 3, none⟩ = some (.int .i64 f.Heel) :=
  ⟨own_one h (i := 0) (by show 0 < 4; omega), own_one h (i := 1) (by show 1 < 4; omega), own_one h (i := 2) (by show 2 < 4; omega), own_one h (i := 3) (by show 3 < 4; omega)⟩
theorem own_foot1 (w : World) (t : TypeId) (x : Foot) : Own w.heap.size (w.alloc (.cells #[.int .i64 x.Length, .int .i64 x.Ball, .int .i64 x.Instep, .int .i64 x.Heel] t)) t (.slice (some ⟨w.heap.size, 0, none⟩) 1 1) [x] :=
  ⟨rfl, .inr ⟨w.heap.size, 1, #[.int .i64 x.Length, .int .i64 x.Ball, .int .i64 x.Instep, .int .i64 x.Heel], rfl, Nat.le_refl _, heap_alloc_new _ _, Nat.le_refl _, by unfold maxLen; omega, rfl, rfl⟩⟩
theorem foot1_cells {B : Nat} {w : World} {e : TypeId} {g n c : Nat} {x : Foot} (h : Own B w e (.slice (some ⟨g, 0, none⟩) n c) [x]) :
    w.cell? ⟨g, 0, none⟩ = some (.int .i64 x.Length) ∧ w.cell? ⟨g, 1, none⟩ = some (.int .i64 x.Ball) ∧ w.cell? ⟨g, 2, none⟩ = some (.int .i64 x.Instep) ∧ w.cell? ⟨g, 3, none⟩ = some (.int .i64 x.Heel) := by
  have := h.at'.foot (i := 0) (by simp)
  simpa using this
/-- The seed behind n draws. -/
def seedN (L : List UInt8) (k : Nat) (sd : Int) : Nat → Int
  | 0 => sd
  | n + 1 => nextS L (k + n) (seedN L k sd n)
/-- The n-th draw. -/
def drawN (L : List UInt8) (k : Nat) (sd : Int) (n : Nat) : Int := nextV L (k + n) (seedN L k sd n)
def footD (L : List UInt8) (k : Nat) (sd : Int) : Foot := ⟨2200 + 5 * (drawN L k sd 0 % 130), 2100 + 5 * (drawN L k sd 1 % 100), 2200 + 5 * (drawN L k sd 2 % 100), 3000 + 5 * (drawN L k sd 3 % 100)⟩
structure DrawnF (f : Foot) : Prop where
  length : 2200 ≤ f.Length ∧ f.Length ≤ 2845
  ball : 2100 ≤ f.Ball ∧ f.Ball ≤ 2595
  instep : 2200 ≤ f.Instep ∧ f.Instep ≤ 2695
  heel : 3000 ≤ f.Heel ∧ f.Heel ≤ 3495
theorem footD_is (L : List UInt8) (k : Nat) (sd : Int) : DrawnF (footD L k sd) := by
  constructor <;> (unfold footD; dsimp only; omega)
theorem DrawnF.ok {f : Foot} (h : DrawnF f) : okFoot f = true := by
  rw [okFoot_iff]
  have h1 := h.length; have h2 := h.ball; have h3 := h.instep; have h4 := h.heel
  omega
end Go.Proofs.YtaeinllbjkjhlaaDoor
