/- Growth, the program: GrowthOf and LengthOn, where all is valid. -/
import Derived.Test.YtokoallbhbgkkaaGrowMath
import Derived.Test.YtokoallbhbgkkaaF04
import Derived.Test.YtokoallbhbgkkaaHeldS
import Derived.Test.YtokoallbhbgkkaaAppH
import Derived.Test.YtokoallbhbgkkaaTail
namespace Go.Proofs.Ytokoallbhbgkkaa
open Go.RowKit

def gcdI (a b : Int) : Int := (Nat.gcd a.natAbs b.natAbs : Nat)
theorem gcdI_step (a b : Int) : gcdI b (a.tmod b) = gcdI a b := by
  unfold gcdI
  rw [Int.natAbs_tmod, Nat.gcd_comm, ← Nat.gcd_rec, Nat.gcd_comm]
theorem gcdI_zero (a : Int) : gcdI a 0 = size a := by
  unfold gcdI size; simp; omega
theorem gcdI_size (a b : Int) : gcdI (size a) (size b) = gcdI a b := by
  have h : ∀ a : Int, (size a).natAbs = a.natAbs := fun a => by unfold size; omega
  unfold gcdI; rw [h, h]
theorem gcdI_bound {a b M : Int} (ha : -M ≤ a ∧ a ≤ M) (hb : -M ≤ b ∧ b ≤ M) : 0 ≤ gcdI a b ∧ gcdI a b ≤ 2 * M := by
  have h : Nat.gcd a.natAbs b.natAbs ≤ a.natAbs + b.natAbs := by
    rcases Nat.eq_zero_or_pos a.natAbs with h | h
    · rw [h]; simp
    · exact Nat.le_trans (Nat.gcd_le_left _ h) (by omega)
  unfold gcdI
  generalize Nat.gcd a.natAbs b.natAbs = g at h
  omega
theorem tmod_in {a b : Int} (h : b ≠ 0) : (a.tmod b).natAbs < b.natAbs := by
  rw [Int.natAbs_tmod]; exact Nat.mod_lt _ (by omega)
theorem gcd_c (a b : Int) (w : World) (ha : -1000000000 ≤ a ∧ a ≤ 1000000000) (hb : -1000000000 ≤ b ∧ b ≤ 1000000000) :
    Calls Try.prog 118 #[.int .i64 a, .int .i64 b] w fun e w' => e = .returned (.int .i64 (gcdI a b)) ∧ Below w.heap.size w w' := by
  go_enter Try.func118, Try.ntmps118
  go_wp2_with fail
  go_loopw [0, 1] (fun p q wr => ∃ x y : Int, p = .int .i64 x ∧ q = .int .i64 y ∧ gcdI x y = gcdI a b ∧ (-1000000000 ≤ x ∧ x ≤ 1000000000) ∧ (-1000000000 ≤ y ∧ y ≤ 1000000000) ∧ Below w.heap.size w wr) (fun _ q _ => (intOf q).natAbs)
  case atStart => exact ⟨a, b, rfl, rfl, rfl, ha, hb, Below.refl _ _⟩
  case round =>
    clear ha hb
    obtain ⟨x, y, rfl, rfl, hg, hx, hy, hb⟩ := hrel
    have HG := Lib.hid hg
    clear hg
    by_cases h0 : y = 0
    · subst h0
      go_wp2_with fail
      all_goals go_ret
      all_goals exact ⟨ret_int (by rw [← HG.out, gcdI_zero]; unfold size; omega), hb⟩
    · have hm := tmod_in (a := x) h0
      have hm2 : -1000000000 ≤ x.tmod y ∧ x.tmod y ≤ 1000000000 := by omega
      go_wp2_with fail
      refine wp_region_quiet_below (by kernel_rfl) (by kernel_rfl) ?_
      repeat (go_big_quiet_step ((fail)))
      refine wpQuiet_nil ?_
      intro w2 hw'
      replace hb := upw hb (grown_of hw')
      clear hw'
      go_wp2_with fail
      go_roundw
      case rel => exact ⟨y, x.tmod y, rfl, rfl, by rw [gcdI_step]; exact HG.out, hy, hm2, hb⟩
      case measure => simpa [intOf] using hm
theorem validFeet1_c (f : Foot) (w : World) : Calls Try.prog 126 #[.agg #[.int .i64 f.Length, .int .i64 f.Ball, .int .i64 f.Instep, .int .i64 f.Heel]] w fun e w' => e = .returned (.bool (!okFoot f)) ∧ Below w.heap.size w w' := by
  have hb0 := newB w (.cells #[.int .i64 f.Length, .int .i64 f.Ball, .int .i64 f.Instep, .int .i64 f.Heel] 39)
  go_enter Try.func126, Try.ntmps126
  go_wp2_with fail
  refine (validFoot_c f _).mono ?_
  rintro e w2 ⟨rfl, hb2⟩
  go_wp2_with fail
  go_ret
  exact ⟨rfl, upw hb0 hb2⟩
theorem validFeet1_enters : Enters Try.prog 126 := enters_of Try.func126 (by kernel_rfl) (by kernel_rfl)
theorem validFeet_ok (a : Option Addr) (xs : List Foot) (c : Nat) (w : World) (hx : At w a xs) (hl : xs.length ≤ 30) (hv : ∀ f ∈ xs, okFoot f = true) :
    Calls Try.prog 117 #[.slice a xs.length c] w fun e w' => e = .returned (.bool true) ∧ Below w.heap.size w w' := by
  have hC := containsFoots_any a xs c 126 #[] (fun f => !okFoot f) w validFeet1_enters hx (by omega) (fun x _ w' _ => by simpa using validFeet1_c x w')
  have e : xs.any (fun f => !okFoot f) = false := by rw [List.any_eq_false]; intro f hf; simp [hv f hf]
  rw [e] at hC
  replace hC := Lib.hid hC
  have hl2 : (xs.length : Int) ≤ 30 := by omega
  go_enter Try.func117, Try.ntmps117
  go_wp2_with fail
  refine hC.out.mono ?_
  rintro e w2 ⟨rfl, hb2⟩
  go_wp2_with fail
  go_ret
  exact ⟨rfl, hb2⟩
structure Frac where
  num : Int
  den : Int
instance : Flat Frac := ⟨2, by decide, fun x => [.int .i64 x.num, .int .i64 x.den], fun _ => rfl, fun x u h => by simp at h; rcases h with h | h <;> subst h <;> rfl, fun _ => True⟩
theorem own_frac (w : World) (t : TypeId) (x : Frac) : Own w.heap.size (w.alloc (.cells #[.int .i64 x.num, .int .i64 x.den] t)) t (.slice (some ⟨w.heap.size, 0, none⟩) 1 1) [x] :=
  ⟨rfl, .inr ⟨w.heap.size, 1, #[.int .i64 x.num, .int .i64 x.den], rfl, Nat.le_refl _, heap_alloc_new _ _, Nat.le_refl _, by unfold maxLen; omega, rfl, rfl⟩⟩
theorem frac_cells {B : Nat} {w : World} {e : TypeId} {g n c : Nat} {x : Frac} (h : Own B w e (.slice (some ⟨g, 0, none⟩) n c) [x]) : w.cell? ⟨g, 0, none⟩ = some (.int .i64 x.num) ∧ w.cell? ⟨g, 1, none⟩ = some (.int .i64 x.den) := by
  obtain ⟨cs, hcs, hc⟩ := h.at'.elem (i := 0) (by simp)
  have hcs : cs = Flat.el x := hcs
  subst hcs
  have c0 := hc 0 (.int .i64 x.num) rfl
  have c1 := hc 1 (.int .i64 x.den) rfl
  simp only [Nat.zero_mul, Nat.add_zero, Nat.zero_add] at c0 c1
  exact ⟨c0, c1⟩
theorem gcdI_pos {a b : Int} (h : 1 ≤ b) : 1 ≤ gcdI a b := by
  have := Nat.gcd_pos_of_pos_right a.natAbs (show 0 < b.natAbs by omega)
  unfold gcdI
  omega
/-- A fraction in lowest terms. -/
def lowN (num den : Int) : Int := num.tdiv (gcdI num den)
def lowD (num den : Int) : Int := den.tdiv (gcdI num den)
theorem lowest_c (num den : Int) (w : World) (hn : -1000000000 ≤ num ∧ num ≤ 1000000000) (hd : 1 ≤ den ∧ den ≤ 1000000000) :
    Calls Try.prog 84 #[.int .i64 num, .int .i64 den] w fun e w' => e = .returned (.agg #[.int .i64 (lowN num den), .int .i64 (lowD num den)]) ∧ Below w.heap.size w w' := by
  have hg := gcdI_pos (a := num) hd.1
  have hgb := (gcdI_bound (M := 1000000000) hn (by omega : -1000000000 ≤ den ∧ den ≤ 1000000000)).2
  have q1 := tdiv_bound num (gcdI num den)
  have q2 := tdiv_bound den (gcdI num den)
  have hC := fun w' => gcd_c num den w' hn (by omega)
  obtain ⟨x, hx⟩ : ∃ x, x = lowN num den := ⟨_, rfl⟩
  obtain ⟨y, hy⟩ : ∃ y, y = lowD num den := ⟨_, rfl⟩
  rw [← hx, ← hy]
  unfold lowN at hx
  unfold lowD at hy
  generalize gcdI num den = g at *
  rw [← hx] at q1
  rw [← hy] at q2
  unfold size at q1 q2
  have hxw : IntKind.i64.wrap x = x := IntWalk.i64_in _ (by omega)
  have hyw : IntKind.i64.wrap y = y := IntWalk.i64_in _ (by omega)
  have hg0 : ¬ g = 0 := by omega
  have hx2 := hx.symm
  have hy2 := hy.symm
  clear hx hy q1 q2
  obtain ⟨w1, hw1⟩ : ∃ w1, w1 = w.alloc (.cells #[.int .i64 0, .int .i64 0] 65) := ⟨_, rfl⟩
  have hb : Below w.heap.size w w1 := by rw [hw1]; exact newB _ _
  have hR : Own w.heap.size w1 65 (.slice (some ⟨w.heap.size, 0, none⟩) 1 1) [(⟨0, 0⟩ : Frac)] := by rw [hw1]; exact own_frac w _ ⟨0, 0⟩
  replace hw1 := Lib.hid hw1
  replace hR := Lib.hid hR
  replace hC := Lib.hid hC
  go_enter Try.func84, Try.ntmps84
  go_wp2_with (rw [← hw1.out])
  refine (hC.out _).mono ?_
  rintro e w2 ⟨rfl, hb2⟩
  replace hR := Lib.hid (hR.out.later hb2)
  replace hb := upw hb hb2
  clear hb2 hw1 hC
  go_wp2_with fail
  refine wp_region_tail_below 7 (by kernel_rfl) (by kernel_rfl) (by kernel_rfl) (by simp only [List.take_succ_cons, List.take_zero]; rfl) (by simp only [List.drop_succ_cons, List.drop_zero]; rfl) ?_
  repeat (go_big_quiet_step ((fail)))
  refine wpQuiet_nil ?_
  intro w2 hw'
  replace hb := upw hb (grown_of hw')
  have hw2 := grown_of hw'
  clear hw'
  replace hR := Lib.hid (hR.out.later hw2)
  go_wp2_with ((with_reducible refine at_st 65 (.tmp 4) (.tmp 21) ?_); refine wpList_store_own rfl 65 (.tmp 4) (.tmp 21) rfl w.heap.size 65 _ 1 1 [(⟨0, 0⟩ : Frac)] 0 _ (⟨x, y⟩ : Frac) rfl rfl rfl (by kernel_rfl) rfl hR.out (by simp) ?_; intro wz hRz hgz)
  obtain ⟨q0, q1⟩ := frac_cells hRz
  have hbz := below_mark hb hR.out (Nat.le_refl _) hgz
  refine bodyPost_ret (v := .agg #[.int .i64 x, .int .i64 y]) (by simp [results, Try.results84, go_sem, q0, q1]) rfl ?_
  exact ⟨rfl, hbz⟩
/-- A variable that holds a line, cell by cell. -/
def growC (a b d s n : Int) : List OneCell := [⟨.int .i64 a, rfl⟩, ⟨.int .i64 b, rfl⟩, ⟨.int .i64 d, rfl⟩, ⟨.int .i64 s, rfl⟩, ⟨.int .i64 n, rfl⟩]
theorem own_growC (w : World) (t : TypeId) (a b d s n : Int) : Own w.heap.size (w.alloc (.cells #[.int .i64 a, .int .i64 b, .int .i64 d, .int .i64 s, .int .i64 n] t)) t (.slice (some ⟨w.heap.size, 0, none⟩) 5 5) (growC a b d s n) :=
  ⟨rfl, .inr ⟨w.heap.size, 5, #[.int .i64 a, .int .i64 b, .int .i64 d, .int .i64 s, .int .i64 n], rfl, Nat.le_refl _, heap_alloc_new _ _, Nat.le_refl _, by unfold maxLen; omega, rfl, rfl⟩⟩
theorem growC_cells {B : Nat} {w : World} {e : TypeId} {g n' c : Nat} {a b d s n : Int} (h : Own B w e (.slice (some ⟨g, 0, none⟩) n' c) (growC a b d s n)) :
    w.cell? ⟨g, 0, none⟩ = some (.int .i64 a) ∧ w.cell? ⟨g, 1, none⟩ = some (.int .i64 b) ∧ w.cell? ⟨g, 2, none⟩ = some (.int .i64 d) ∧ w.cell? ⟨g, 3, none⟩ = some (.int .i64 s) ∧ w.cell? ⟨g, 4, none⟩ = some (.int .i64 n) :=
  ⟨own_one h (i := 0) (by show 0 < 5; omega), own_one h (i := 1) (by show 1 < 5; omega), own_one h (i := 2) (by show 2 < 5; omega), own_one h (i := 3) (by show 3 < 5; omega), own_one h (i := 4) (by show 4 < 5; omega)⟩
structure RawG where
  a : Int
  b : Int
  d : Int
  s : Int
  n : Int
instance : Flat RawG := ⟨5, by decide, fun x => [.int .i64 x.a, .int .i64 x.b, .int .i64 x.d, .int .i64 x.s, .int .i64 x.n], fun _ => rfl, fun x u h => by simp at h; rcases h with h | h | h | h | h <;> subst h <;> rfl, fun _ => True⟩
theorem own_rawG (w : World) (t : TypeId) (x : RawG) : Own w.heap.size (w.alloc (.cells #[.int .i64 x.a, .int .i64 x.b, .int .i64 x.d, .int .i64 x.s, .int .i64 x.n] t)) t (.slice (some ⟨w.heap.size, 0, none⟩) 1 1) [x] :=
  ⟨rfl, .inr ⟨w.heap.size, 1, #[.int .i64 x.a, .int .i64 x.b, .int .i64 x.d, .int .i64 x.s, .int .i64 x.n], rfl, Nat.le_refl _, heap_alloc_new _ _, Nat.le_refl _, by unfold maxLen; omega, rfl, rfl⟩⟩
theorem rawG_five {B : Nat} {w : World} {e : TypeId} {g : Nat} {x : RawG} (h : Own B w e (.slice (some ⟨g, 0, none⟩) 1 1) [x]) : Own B w e (.slice (some ⟨g, 0, none⟩) 5 5) (growC x.a x.b x.d x.s x.n) := by
  obtain ⟨h1, h2⟩ := h
  refine ⟨rfl, .inr ?_⟩
  rcases h2 with ⟨h2, _⟩ | ⟨g', cap, cur, h3, hb, hg, hn, hm, hs, ht⟩
  · simp at h2
  · simp only [Value.slice.injEq, Option.some.injEq, Addr.mk.injEq, and_true, true_and] at h3
    obtain ⟨rfl, -, rfl⟩ := h3
    exact ⟨g, 5, cur, rfl, hb, hg, Nat.le_refl _, by unfold maxLen; omega, hs, ht⟩
/-- Days and lengths that the walk takes. -/
structure DaysOk (ds : List Int) (fs : List Foot) : Prop where
  len : ds.length = fs.length
  n8 : fs.length ≤ 8
  rise : ds.Pairwise (· < ·)
  day : ∀ d ∈ ds, 0 ≤ d ∧ d ≤ 2000
  ok : ∀ f ∈ fs, okFoot f = true
def lens (fs : List Foot) : List Int := fs.map Foot.Length
theorem sq_take (ds : List Int) (k : Nat) (h : k < ds.length) : sqI (ds.take (k + 1)) = sqI (ds.take k) + ds[k] * ds[k] := by
  induction ds generalizing k with
  | nil => simp at h
  | cons d ds ih =>
    cases k with
    | zero => simp [sqI]
    | succ k =>
      have := ih k (by simpa using h)
      simp only [List.take_succ_cons, sqI, List.getElem_cons_succ]
      rw [this]; omega
theorem pr_take (ds ls : List Int) (k : Nat) (h : k < ds.length) (h' : k < ls.length) : prI (ds.take (k + 1)) (ls.take (k + 1)) = prI (ds.take k) (ls.take k) + ds[k] * ls[k] := by
  induction ds generalizing k ls with
  | nil => simp at h
  | cons d ds ih =>
    cases ls with
    | nil => simp at h'
    | cons l ls =>
      cases k with
      | zero => simp [prI]
      | succ k =>
        have := ih ls k (by simpa using h) (by simpa using h')
        simp only [List.take_succ_cons, prI, List.getElem_cons_succ]
        rw [this]; omega
theorem sq_bound {ds : List Int} (h : ∀ d ∈ ds, 0 ≤ d ∧ d ≤ 2000) : 0 ≤ sqI ds ∧ sqI ds ≤ 4000000 * ds.length := by
  induction ds with
  | nil => simp [sqI]
  | cons d ds ih =>
    have h1 := h d (by simp)
    have h2 := ih fun e he => h e (by simp [he])
    have h3 : 0 ≤ d * d := Int.mul_nonneg h1.1 h1.1
    have h4 : d * d ≤ 2000 * 2000 := Int.mul_le_mul h1.2 h1.2 h1.1 (by omega)
    simp only [sqI, List.length_cons]
    omega
theorem pr_bound {ds ls : List Int} (h : ∀ d ∈ ds, 0 ≤ d ∧ d ≤ 2000) (h' : ∀ l ∈ ls, 0 ≤ l ∧ l ≤ 5000) : 0 ≤ prI ds ls ∧ prI ds ls ≤ 10000000 * ds.length := by
  induction ds generalizing ls with
  | nil => simp [prI]
  | cons d ds ih =>
    cases ls with
    | nil => simp [prI]; omega
    | cons l ls =>
      have h1 := h d (by simp)
      have h5 := h' l (by simp)
      have h2 := ih (ls := ls) (fun e he => h e (by simp [he])) (fun e he => h' e (by simp [he]))
      have h3 : 0 ≤ d * l := Int.mul_nonneg h1.1 h5.1
      have h4 : d * l ≤ 2000 * 5000 := Int.mul_le_mul h1.2 h5.2 h5.1 (by omega)
      simp only [prI, List.length_cons]
      omega
end Go.Proofs.Ytokoallbhbgkkaa
