/- Chapter 7, hulls: the reference's way round. -/
import Derived.Test.YtlaclknhenccdaaL07h
import Derived.Deep.AppendLies
import Derived.Deep.Heap
namespace Go.Proofs.Ytlaclknhenccdaa
open Go.RowKit

section
variable {P : Program} {ops : Array Oper} {rest : List Oper} {o : Oper} {a : Act} {w : World} {Q : Exit → Act → World → Prop}
/-- An append of one element to a list that the call owns, and where it lies then. -/
theorem wpList_push_lies {α : Type} [Flat α] (hgd : o.guard = none) (s x : Operand) (t : TypeId) (ho : o.op = .call { callee := .builtin .append, args := #[s, x], argTypes := #[t, t] })
    (B : Nat) (e : TypeId) (d : Value) (bytes : Nat) (ht : P.underlying t = some (.slice e)) (hi : (P.info? e).map (fun i => (i.zero, i.size, i.bytes)) = some (some d, Flat.k α, bytes)) (hzs : d.cells.size = Flat.k α)
    (v : Value) (xs : List α) (z : α) (hs : a.eval s = v) (hown : Own B w e v xs) (g : Nat) (c : Nat) (hx : a.eval x = .slice (some ⟨g, 0, none⟩) 1 c) (te : TypeId) (hg : w.heap[g]? = some (.cells (Flat.el z).toArray te (0, 0)))
    (h63 : xs.length + 1 ≤ 4294967296) (hby : bytes ≤ 1024) (hbase : B ≤ w.heap.size)
    (h : ∀ g' cap w', Own B w' e (.slice (some ⟨g', 0, none⟩) (xs.length + 1) cap) (xs ++ [z]) → w.grownBy w' v.ownBlock → (v.ownBlock = some g' ∨ g' = w.heap.size) → wpList P ops Q rest (a.put o.dst (.slice (some ⟨g', 0, none⟩) (xs.length + 1) cap)) w') : wpList P ops Q (o :: rest) a w := by
  obtain ⟨i, hi, hz0, hz1, hz2⟩ := info_parts hi
  refine wpList_append_lies w hgd s x t ho B e i d (Flat.k α) bytes ht hi hz0 hz1 hz2 hzs Flat.pos v xs.length (flat xs) hs hown ⟨g, 0, none⟩ 1 c (Flat.el z) hx (by rw [Flat.len]; omega) (fun j u hu => ?_) (Flat.one z) Nat.one_pos (by unfold maxLen; omega) ?_ hbase w.heap.size rfl (fun g' cap w' h1 h2 h3 _ => h g' cap w' ?_ h2 h3)
  · rw [Go.WideShapes.add_plain, Nat.zero_add, cell_of_row w g j _ te (0, 0) hg]
    simpa using hu
  · have : (xs.length + 1) * bytes ≤ 4294967296 * 1024 := Nat.mul_le_mul h63 hby
    omega
  · unfold Own
    rw [flat_append, List.length_append]
    simpa [flat] using h1
end
theorem grown_setSpot (w : World) (g : Nat) (p : Spot) : w.grownBy (setSpot w g p) (some g) := by
  unfold setSpot
  have one : ∀ (w : World) (o : Nat) (v : Value), w.grownBy (w.setCell ⟨g, o, none⟩ v) (some g) := fun w o v => ⟨rfl, rfl, rfl, by simp, fun k _ hk => Go.Deep.blk_setCell_other w ⟨g, o, none⟩ v k (fun e => hk (by rw [e]))⟩
  exact grownBy_trans (one _ _ _) (one _ _ _)
theorem own_beside {α : Type} [Flat α] {B : Nat} {w : World} {e : TypeId} {g n c : Nat} {xs : List α} (h : Own B w e (.slice (some ⟨g, 0, none⟩) n c) xs) {b : Nat} (hne : g ≠ b) (p : Spot) : Own B (setSpot w b p) e (.slice (some ⟨g, 0, none⟩) n c) xs :=
  h.kept (grown_setSpot w b p) (Or.inr (by simpa [Value.ownBlock] using hne))
/-- Before, by X, then by Y. -/
def firstB (a b : Spot) : Bool := decide (a.X < b.X ∨ a.X = b.X ∧ a.Y < b.Y)
set_option maxHeartbeats 800000 in
theorem l07First_c (a b : Spot) (w : World) :
    Calls Try.prog 182 #[.agg #[.int .i64 a.X, .int .i64 a.Y], .agg #[.int .i64 b.X, .int .i64 b.Y]] w fun e w' => e = .returned (.bool (firstB a b)) ∧ Below w.heap.size w w' := by
  by_cases h1 : a.X < b.X
  · have hr : firstB a b = true := by simp [firstB, h1]
    rw [hr]
    go_enter Try.func182, Try.ntmps182
    go_wp2_with fail
    go_ret
    exact ⟨rfl, ((Below.refl _ _).alloc (by simp) _).alloc (by simp) _⟩
  · by_cases h2 : a.X = b.X
    · by_cases h3 : a.Y < b.Y
      · have hr : firstB a b = true := by simp [firstB, h2, h3]
        rw [hr]
        replace hr := Lib.hid hr
        go_enter Try.func182, Try.ntmps182
        go_wp2_with fail
        go_ret
        exact ⟨rfl, ((Below.refl _ _).alloc (by simp) _).alloc (by simp) _⟩
      · have hr : firstB a b = false := by simp [firstB, h2]; omega
        rw [hr]
        replace hr := Lib.hid hr
        go_enter Try.func182, Try.ntmps182
        go_wp2_with fail
        go_ret
        exact ⟨by simp, ((Below.refl _ _).alloc (by simp) _).alloc (by simp) _⟩
    · have hr : firstB a b = false := by simp [firstB, h1, h2]
      rw [hr]
      replace hr := Lib.hid hr
      have h2' : (a.X == b.X) = false := by simpa using h2
      go_enter Try.func182, Try.ntmps182
      go_wp2_with fail
      go_ret
      exact ⟨rfl, ((Below.refl _ _).alloc (by simp) _).alloc (by simp) _⟩
attribute [local go_sem ↓] spot_eql
/-- The way round, as a list that comes back to where it began. -/
structure Round (xs C : List Spot) : Prop where
  two : 2 ≤ C.length
  most : C.length ≤ 4294967296
  head : C.head? = some (firstTo xs xs.length)
  last : C.getLast? = some (firstTo xs xs.length)
  way : ∀ i (h : i + 1 < C.length), Way xs C[i] C[i + 1]
  apart : ∀ i (h : i + 1 < C.length), 0 < i → C[i] ≠ firstTo xs xs.length
  mem : ∀ p ∈ C, p ∈ xs
set_option maxRecDepth 100000 in
set_option maxHeartbeats 8000000 in
theorem l07Hull_c (a : Option Addr) (xs : List Spot) (c : Nat) (w : World) (C : List Spot) (hx : At w a xs) (hl : xs.length ≤ 24) (h0 : 0 < xs.length) (hok : ∀ i, okSpot (nth xs i) = true) (R : Round xs C) :
    Calls Try.prog 136 #[.slice a xs.length c] w fun e w' => ∃ v, e = .returned v ∧ Own w.heap.size w' 83 v C.dropLast ∧ Below w.heap.size w w' := by
  have hof : okSpot (firstTo xs xs.length) = true := (firstTo_is h0 hok xs.length (Nat.le_refl _)).2.1
  replace hok := Lib.hid hok
  replace R := Lib.hid R
  obtain ⟨b, off, rfl⟩ := hx.addr h0
  have hm : 0 % xs.length = 0 := Nat.zero_mod _
  obtain ⟨c0, c1⟩ := hx.nthc hm h0
  rw [Nat.zero_mul, Nat.add_zero] at c0 c1
  go_enter Try.func136, Try.ntmps136
  go_wp2_with fail
  obtain ⟨w1, hw, D, hs1, hb⟩ := oneHold w (nth xs 0)
  rw [hw]
  clear hw c0 c1
  go_loopw [4] (fun i wr => ∃ k : Nat, 1 ≤ k ∧ k ≤ xs.length ∧ i = .int .i64 k ∧ Hold wr w.heap.size (firstTo xs k) ∧ Below w.heap.size w wr) (fun i _ => xs.length - (intOf i).toNat)
  case atStart => exact ⟨1, Nat.le_refl _, by omega, rfl, by rw [firstTo_one]; exact D, hb⟩
  case round =>
    clear D hb hs1
    obtain ⟨k, hk1, hk, rfl, D, hb⟩ := hrel
    by_cases hlt : k < xs.length
    · have hm0 : k % xs.length = k := Nat.mod_eq_of_lt hlt
      obtain ⟨c0, c1⟩ := (hx.below hb).nthc hm0 hlt
      replace c0 := rg c0
      replace c1 := rg c1
      have d0 := rg D.x
      have d1 := rg D.y
      have E : firstTo xs (k + 1) = if firstB (nth xs k) (firstTo xs k) = true then nth xs k else firstTo xs k := by simp only [firstTo, firstB, decide_eq_true_eq]
      cases hf : firstB (nth xs k) (firstTo xs k)
      · rw [hf] at E
        replace E := Lib.hid E
        go_wp2_with fail
        refine wp_region_quiet_below (by kernel_rfl) (by kernel_rfl) ?_
        repeat (go_big_quiet_step ((go_at_call 182; exact Calls.regrown_of (as_boolB hf (l07First_c _ _ _)))))
        refine wpQuiet_nil ?_
        intro w2 hw'
        replace hb := upw hb (grown_of hw')
        have hw2 := grown_of hw'
        clear hw'
        go_wp2_with fail
        go_roundw
        case rel => exact ⟨k + 1, by omega, by omega, by go_num, by rw [E.out]; exact D.below hw2, hb⟩
        case measure => simp [intOf]; omega
      · rw [hf] at E
        replace E := Lib.hid E
        go_wp2_with fail
        refine wp_region_quiet_below (by kernel_rfl) (by kernel_rfl) ?_
        repeat (go_big_quiet_step ((go_at_call 182; exact Calls.regrown_of (as_boolB hf (l07First_c _ _ _)))))
        refine wpQuiet_nil ?_
        intro w2 hw'
        replace hb := upw hb (grown_of hw')
        have hw2 := grown_of hw'
        clear hw'
        replace D := D.below hw2
        clear c0 c1 d0 d1
        obtain ⟨c0, c1⟩ := (hx.below hb).nthc hm0 hlt
        have hbl := (hx.below hb).lt h0
        obtain ⟨d0, d1, f0, f1⟩ := id D
        go_wp2_with fail
        go_roundw
        case rel => exact ⟨k + 1, by omega, by omega, by go_num, by rw [E.out]; exact D.set (nth xs k), Below.spot hb (Nat.le_refl _) (nth xs k)⟩
        case measure => simp [intOf]; omega
    · obtain rfl : k = xs.length := by omega
      obtain ⟨wo, rfl⟩ : ∃ wo : World, wo = wr := ⟨_, rfl⟩
      have hlt0 := D.lt
      have hB0 := hb.size
      obtain ⟨d0, d1, f0, f1⟩ := id D
      obtain ⟨w3, hw3, hO, D3, A, hb3⟩ : ∃ w3, w3 = (wo.alloc (.cells #[] 83)).alloc (.cells #[.int .i64 (firstTo xs xs.length).X, .int .i64 (firstTo xs xs.length).Y] 83) ∧ Own wo.heap.size w3 83 (.slice (some ⟨wo.heap.size, 0, none⟩) 0 0) ([] : List Spot) ∧ Hold w3 w.heap.size (firstTo xs xs.length) ∧ Hold w3 (wo.heap.size + 1) (firstTo xs xs.length) ∧ Below wo.heap.size wo w3 := by
        refine ⟨_, rfl, (own_new _ _).later ((Below.refl _ _).alloc (Nat.le_refl _) _), (D.new _).new _, ⟨?_, ?_, ?_, ?_⟩, ((Below.refl _ _).alloc (Nat.le_refl _) _).alloc (by simp) _⟩ <;> go_simp
      have HW3 := Lib.hid hw3
      clear hw3
      have hlt3 := D3.lt
      have hb' := upw hb hb3
      go_wp2_with fail
      rw [← HW3.out]
      clear d0 d1 f0 f1 D hb
      go_loopw [5] (fun v wr => ∃ k g cap : Nat, k + 1 < C.length ∧ v = .slice (some ⟨g, 0, none⟩) k cap ∧ Own wo.heap.size wr 83 (.slice (some ⟨g, 0, none⟩) k cap) (C.take k) ∧ g ≠ wo.heap.size + 1 ∧ Hold wr w.heap.size (firstTo xs xs.length) ∧ Hold wr (wo.heap.size + 1) (C.getD k ⟨0, 0⟩) ∧ Below w.heap.size w wr) (fun v _ => C.length - lenOf v)
      case atStart =>
        refine ⟨0, wo.heap.size, 0, by have := R.out.two; omega, rfl, by simpa using hO, by omega, D3, ?_, hb'⟩
        have hh := R.out.head
        have hg : C.getD 0 ⟨0, 0⟩ = firstTo xs xs.length := by
          cases C with
          | nil => simp at hh
          | cons x C => simpa using hh
        rw [hg]; exact A
      case round =>
        clear hO D3 A hb' hlt3 hb3 hm
        obtain ⟨k, g, cap, hk, rfl, hO, hne, D, A, hb⟩ := hrel
        obtain ⟨wi, rfl⟩ : ∃ wi : World, wi = wr := ⟨_, rfl⟩
        have hCk : C.getD k ⟨0, 0⟩ = C[k] := by simp [show k < C.length by omega]
        have hWay : Way xs (C.getD k ⟨0, 0⟩) (C.getD (k + 1) ⟨0, 0⟩) := by
          have := R.out.way k hk
          simpa [show k < C.length by omega, hk] using this
        have hmA : C.getD k ⟨0, 0⟩ ∈ xs := by rw [hCk]; exact R.out.mem _ (List.getElem_mem _)
        have hmN : C.getD (k + 1) ⟨0, 0⟩ ∈ xs := by
          have : C.getD (k + 1) ⟨0, 0⟩ = C[k + 1] := by simp [hk]
          rw [this]; exact R.out.mem _ (List.getElem_mem _)
        have htk : Hid (C.take (k + 1) = C.take k ++ [C.getD k ⟨0, 0⟩]) := Lib.hid (by rw [List.take_succ_eq_append_getElem (by omega), hCk])
        have hlk : Hid ((C.take k).length = k) := Lib.hid (by rw [List.length_take]; omega)
        have hmost := Lib.hid R.out.most
        obtain ⟨q, hq⟩ : ∃ q, q = C.getD k ⟨0, 0⟩ := ⟨_, rfl⟩
        rw [← hq] at A hWay hmA htk
        have HQ := Lib.hid hq
        clear hq hCk
        have hm : 0 % xs.length = 0 := Nat.zero_mod _
        have oka : okSpot q = true := by
          obtain ⟨j, hj, he⟩ := List.mem_iff_getElem.1 hmA
          rw [← he, ← nth_get hj]; exact hok.out j
        have hAl := A.lt
        obtain ⟨a0, a1, f0, f1⟩ := id A
        have HA := Lib.hid A
        have HD := Lib.hid D
        clear A D
        have hmin : min k C.length = k := by omega
        have hOn := hO.later ((Below.refl wi.heap.size wi).alloc (Nat.le_refl _) (.cells #[.int .i64 q.X, .int .i64 q.Y] 83))
        go_wp2_with (at_builtin; refine wpList_push_lies rfl (.tmp 31) (.tmp 33) 81 rfl wo.heap.size 83 (.agg #[.int .i64 0, .int .i64 0]) 16 Try.underlying81 infoSpot rfl _ (C.take k) q rfl hOn _ _ rfl 83 (heap_alloc_new _ _) (by rw [hlk.out]; have := hmost.out; omega) (by decide) (by simp; omega) ?_; intro g5 cap5 w5 hO5 hg5 hl5; have hb5 := below_mark (hb.alloc hb.size _) hOn hB0 hg5; have hcc := (hx.below hb5).nthc hm h0; rw [Nat.zero_mul, Nat.add_zero] at hcc; obtain ⟨c0, c1⟩ := hcc; have hbl5 := (hx.below hb5).lt h0)
        rw [← htk.out, hlk.out] at hO5
        have hgB := (hO.lt g rfl).1
        have hg5B := (hO5.lt g5 rfl)
        have hne5 : g5 ≠ wo.heap.size + 1 := by
          rcases hl5 with h | h
          · have : g = g5 := Option.some.inj h
            omega
          · have : (wi.alloc (.cells #[.int .i64 q.X, .int .i64 q.Y] 83)).heap.size = wi.heap.size + 1 := by simp
            omega
        have D5 := (HD.out.new (.cells #[.int .i64 q.X, .int .i64 q.Y] 83)).grown hg5 (show some w.heap.size ≠ some g by simp; omega)
        have A5 := (HA.out.new (.cells #[.int .i64 q.X, .int .i64 q.Y] 83)).grown hg5 (show some (wo.heap.size + 1) ≠ some g by simp; omega)
        obtain ⟨w6, hw6, T, hs6, hb6⟩ := oneHold w5 (nth xs 0)
        rw [hw6]
        clear hw6 c0 c1 a0 a1 f0 f1 hOn hl5 hg5 HA HD hO hb
        have hO6 := hO5.later hb6
        have D6 := D5.below hb6
        have A6 := A5.below hb6
        have hb6' := upw hb5 hb6
        have hA5 := A5.lt
        go_loopw [8] (fun i wr => ∃ j : Nat, j ≤ xs.length ∧ i = .int .i64 j ∧ Own wo.heap.size wr 83 (.slice (some ⟨g5, 0, none⟩) (k + 1) cap5) (C.take (k + 1)) ∧ Hold wr w.heap.size (firstTo xs xs.length) ∧ Hold wr (wo.heap.size + 1) q ∧ Hold wr w5.heap.size (wrapTo xs q j) ∧ Below w.heap.size w wr) (fun i _ => xs.length - (intOf i).toNat)
        case atStart => exact ⟨0, Nat.zero_le _, rfl, hO6, D6, A6, T, hb6'⟩
        case round =>
          clear hO6 D6 A6 T hb6' hb5 hO5 D5 A5 hb6
          obtain ⟨j, hj, rfl, hO, D, A, T, hb⟩ := hrel
          have hTl := T.lt
          by_cases hlt : j < xs.length
          · have hm0 : j % xs.length = j := Nat.mod_eq_of_lt hlt
            have hbl := (hx.below hb).lt h0
            have hnm := wrapTo_mem h0 q j hj
            have okn : okSpot (wrapTo xs q j) = true := by
              obtain ⟨i, hi, he⟩ := List.mem_iff_getElem.1 hnm
              rw [← he, ← nth_get hi]; exact hok.out i
            have okp := hok.out j
            have E0 := Lib.hid (show wrapTo xs q (j + 1) = if wrapTo xs q j = q then nth xs j else if crs q (wrapTo xs q j) (nth xs j) < 0 then nth xs j else if crs q (wrapTo xs q j) (nth xs j) = 0 ∧ betw q (nth xs j) (wrapTo xs q j) = true then nth xs j else wrapTo xs q j from rfl)
            obtain ⟨nx, hnx⟩ : ∃ nx, nx = wrapTo xs q j := ⟨_, rfl⟩
            rw [← hnx] at T okn E0
            replace hnx := Lib.hid hnx
            have hset : Hold (setSpot wr w5.heap.size (nth xs j)) w5.heap.size (nth xs j) := T.set _
            have hsO := own_beside hO (show g5 ≠ w5.heap.size by omega) (nth xs j)
            have hsD := D.far (show w5.heap.size ≠ w.heap.size by omega) (nth xs j)
            have hsA := A.far (show w5.heap.size ≠ wo.heap.size + 1 by omega) (nth xs j)
            have hsB := Below.spot hb (show w.heap.size ≤ w5.heap.size by omega) (nth xs j)
            have HS := Lib.hid (And.intro hset (And.intro hsO (And.intro hsD (And.intro hsA hsB))))
            clear hset hsO hsD hsA hsB
            by_cases he : nx = q
            · obtain ⟨c0, c1⟩ := (hx.below hb).nthc hm0 hlt
              obtain ⟨t0, t1, tf0, tf1⟩ := id T
              obtain ⟨a0, a1, _, _⟩ := id A
              have he' : ((⟨nx.X, nx.Y⟩ : Spot) == ⟨q.X, q.Y⟩) = true := by rw [he]; simp
              have E := Lib.hid (show wrapTo xs q (j + 1) = nth xs j by rw [E0.out, if_pos he])
              replace he := Lib.hid he
              go_wp2_with fail
              go_roundw
              case rel => exact ⟨j + 1, by omega, by go_num, HS.out.2.1, HS.out.2.2.1, HS.out.2.2.2.1, by rw [E.out]; exact HS.out.1, HS.out.2.2.2.2⟩
              case measure => simp [intOf]; omega
            · have he' : ((⟨nx.X, nx.Y⟩ : Spot) == ⟨q.X, q.Y⟩) = false := by
                simp only [beq_eq_false_iff_ne]; intro h; apply he; cases nx; cases q; simpa using h
              have r := crs_bound oka okn okp
              clear HS
              have HE := Lib.hid he
              clear he
              obtain ⟨c0, c1⟩ := (hx.below hb).nthc hm0 hlt
              obtain ⟨t0, t1, tf0, tf1⟩ := id T
              obtain ⟨a0, a1, _, _⟩ := id A
              have c0r := rg c0
              have c1r := rg c1
              have t0r := rg t0
              have t1r := rg t1
              have a0r := rg a0
              have a1r := rg a1
              by_cases h1 : crs q nx (nth xs j) < 0
              · have hd : decide (crs q nx (nth xs j) < 0) = true := by simpa using h1
                have E := Lib.hid (show wrapTo xs q (j + 1) = nth xs j by rw [E0.out, if_neg HE.out, if_pos h1])
                go_wp2_with fail
                refine wp_region_quiet_below (by kernel_rfl) (by kernel_rfl) ?_
                repeat (go_big_quiet_step ((go_at_call 134; exact Calls.regrown_of (l07Cross_c q nx (nth xs j) _ oka okn okp))))
                refine wpQuiet_nil ?_
                intro w2 hw'
                replace hb := upw hb (grown_of hw')
                have hw2 := grown_of hw'
                clear hw'
                replace hO := hO.later hw2
                replace D := D.below hw2
                replace A := A.below hw2
                replace T := T.below hw2
                clear c0 c1 t0 t1 tf0 tf1 a0 a1 c0r c1r t0r t1r a0r a1r hw2 hbl hTl
                obtain ⟨c0, c1⟩ := (hx.below hb).nthc hm0 hlt
                replace c0 := rg c0
                replace c1 := rg c1
                have t0 := rg T.x
                have t1 := rg T.y
                have a0 := rg A.x
                have a1 := rg A.y
                go_wp2_with fail
                refine wp_region_quiet_below (by kernel_rfl) (by kernel_rfl) ?_
                repeat (go_big_quiet_step ((fail)))
                refine wpQuiet_nil ?_
                intro w2 hw'
                replace hb := upw hb (grown_of hw')
                have hw2 := grown_of hw'
                clear hw'
                replace hO := hO.later hw2
                replace D := D.below hw2
                replace A := A.below hw2
                replace T := T.below hw2
                clear c0 c1 t0 t1 a0 a1 hw2
                have hTl := T.lt
                have hAl2 := A.lt
                have hbl := (hx.below hb).lt h0
                obtain ⟨c0, c1⟩ := (hx.below hb).nthc hm0 hlt
                obtain ⟨t0, t1, tf0, tf1⟩ := id T
                go_wp2_with fail
                go_roundw
                case rel => exact ⟨j + 1, by omega, by go_num, own_beside hO (show g5 ≠ w5.heap.size by omega) (nth xs j), D.far (show w5.heap.size ≠ w.heap.size by omega) (nth xs j), A.far (show w5.heap.size ≠ wo.heap.size + 1 by omega) (nth xs j), by rw [E.out]; exact T.set _, Below.spot hb (show w.heap.size ≤ w5.heap.size by omega) (nth xs j)⟩
                case measure => simp [intOf]; omega
              · by_cases h2 : crs q nx (nth xs j) = 0
                · cases h3 : betw q (nth xs j) nx
                  · have hd : decide (crs q nx (nth xs j) < 0) = false := by simpa using h1
                    have hz : (crs q nx (nth xs j) == 0) = true := by simpa using h2
                    have E := Lib.hid (show wrapTo xs q (j + 1) = nx by rw [E0.out, if_neg HE.out, if_neg h1, if_neg (by simp [h3])])
                    go_wp2_with fail
                    refine wp_region_quiet_below (by kernel_rfl) (by kernel_rfl) ?_
                    repeat (go_big_quiet_step ((go_at_call 134; exact Calls.regrown_of (l07Cross_c q nx (nth xs j) _ oka okn okp))))
                    refine wpQuiet_nil ?_
                    intro w2 hw'
                    replace hb := upw hb (grown_of hw')
                    have hw2 := grown_of hw'
                    clear hw'
                    replace hO := hO.later hw2
                    replace D := D.below hw2
                    replace A := A.below hw2
                    replace T := T.below hw2
                    clear c0 c1 t0 t1 tf0 tf1 a0 a1 c0r c1r t0r t1r a0r a1r hw2 hbl hTl
                    obtain ⟨c0, c1⟩ := (hx.below hb).nthc hm0 hlt
                    replace c0 := rg c0
                    replace c1 := rg c1
                    have t0 := rg T.x
                    have t1 := rg T.y
                    have a0 := rg A.x
                    have a1 := rg A.y
                    go_wp2_with fail
                    refine wp_region_quiet_below (by kernel_rfl) (by kernel_rfl) ?_
                    repeat (go_big_quiet_step ((go_at_call 175; exact Calls.regrown_of (as_boolB h3 (l07Between_c q (nth xs j) nx _)))))
                    refine wpQuiet_nil ?_
                    intro w2 hw'
                    replace hb := upw hb (grown_of hw')
                    have hw2 := grown_of hw'
                    clear hw'
                    replace hO := hO.later hw2
                    replace D := D.below hw2
                    replace A := A.below hw2
                    replace T := T.below hw2
                    clear c0 c1 t0 t1 a0 a1 hw2
                    go_wp2_with fail
                    go_roundw
                    case rel => exact ⟨j + 1, by omega, by go_num, hO, D, A, by rw [E.out]; exact T, hb⟩
                    case measure => simp [intOf]; omega
                  · have hd : decide (crs q nx (nth xs j) < 0) = false := by simpa using h1
                    have hz : (crs q nx (nth xs j) == 0) = true := by simpa using h2
                    have E := Lib.hid (show wrapTo xs q (j + 1) = nth xs j by rw [E0.out, if_neg HE.out, if_neg h1, if_pos ⟨h2, h3⟩])
                    go_wp2_with fail
                    refine wp_region_quiet_below (by kernel_rfl) (by kernel_rfl) ?_
                    repeat (go_big_quiet_step ((go_at_call 134; exact Calls.regrown_of (l07Cross_c q nx (nth xs j) _ oka okn okp))))
                    refine wpQuiet_nil ?_
                    intro w2 hw'
                    replace hb := upw hb (grown_of hw')
                    have hw2 := grown_of hw'
                    clear hw'
                    replace hO := hO.later hw2
                    replace D := D.below hw2
                    replace A := A.below hw2
                    replace T := T.below hw2
                    clear c0 c1 t0 t1 tf0 tf1 a0 a1 c0r c1r t0r t1r a0r a1r hw2 hbl hTl
                    obtain ⟨c0, c1⟩ := (hx.below hb).nthc hm0 hlt
                    replace c0 := rg c0
                    replace c1 := rg c1
                    have t0 := rg T.x
                    have t1 := rg T.y
                    have a0 := rg A.x
                    have a1 := rg A.y
                    go_wp2_with fail
                    refine wp_region_quiet_below (by kernel_rfl) (by kernel_rfl) ?_
                    repeat (go_big_quiet_step ((go_at_call 175; exact Calls.regrown_of (as_boolB h3 (l07Between_c q (nth xs j) nx _)))))
                    refine wpQuiet_nil ?_
                    intro w2 hw'
                    replace hb := upw hb (grown_of hw')
                    have hw2 := grown_of hw'
                    clear hw'
                    replace hO := hO.later hw2
                    replace D := D.below hw2
                    replace A := A.below hw2
                    replace T := T.below hw2
                    clear c0 c1 t0 t1 a0 a1 hw2
                    have hTl := T.lt
                    have hAl2 := A.lt
                    have hbl := (hx.below hb).lt h0
                    obtain ⟨c0, c1⟩ := (hx.below hb).nthc hm0 hlt
                    obtain ⟨t0, t1, tf0, tf1⟩ := id T
                    go_wp2_with fail
                    go_roundw
                    case rel => exact ⟨j + 1, by omega, by go_num, own_beside hO (show g5 ≠ w5.heap.size by omega) (nth xs j), D.far (show w5.heap.size ≠ w.heap.size by omega) (nth xs j), A.far (show w5.heap.size ≠ wo.heap.size + 1 by omega) (nth xs j), by rw [E.out]; exact T.set _, Below.spot hb (show w.heap.size ≤ w5.heap.size by omega) (nth xs j)⟩
                    case measure => simp [intOf]; omega
                · have hd : decide (crs q nx (nth xs j) < 0) = false := by simpa using h1
                  have hz : (crs q nx (nth xs j) == 0) = false := by simpa using h2
                  have E := Lib.hid (show wrapTo xs q (j + 1) = nx by rw [E0.out, if_neg HE.out, if_neg h1, if_neg (by simp [h2])])
                  go_wp2_with fail
                  refine wp_region_quiet_below (by kernel_rfl) (by kernel_rfl) ?_
                  repeat (go_big_quiet_step ((go_at_call 134; exact Calls.regrown_of (l07Cross_c q nx (nth xs j) _ oka okn okp))))
                  refine wpQuiet_nil ?_
                  intro w2 hw'
                  replace hb := upw hb (grown_of hw')
                  have hw2 := grown_of hw'
                  clear hw'
                  replace hO := hO.later hw2
                  replace D := D.below hw2
                  replace A := A.below hw2
                  replace T := T.below hw2
                  clear c0 c1 t0 t1 tf0 tf1 a0 a1 c0r c1r t0r t1r a0r a1r hw2 hbl hTl
                  obtain ⟨c0, c1⟩ := (hx.below hb).nthc hm0 hlt
                  replace c0 := rg c0
                  replace c1 := rg c1
                  have t0 := rg T.x
                  have t1 := rg T.y
                  have a0 := rg A.x
                  have a1 := rg A.y
                  go_wp2_with fail
                  refine wp_region_quiet_below (by kernel_rfl) (by kernel_rfl) ?_
                  repeat (go_big_quiet_step ((fail)))
                  refine wpQuiet_nil ?_
                  intro w2 hw'
                  replace hb := upw hb (grown_of hw')
                  have hw2 := grown_of hw'
                  clear hw'
                  replace hO := hO.later hw2
                  replace D := D.below hw2
                  replace A := A.below hw2
                  replace T := T.below hw2
                  clear c0 c1 t0 t1 a0 a1 hw2
                  go_wp2_with fail
                  go_roundw
                  case rel => exact ⟨j + 1, by omega, by go_num, hO, D, A, by rw [E.out]; exact T, hb⟩
                  case measure => simp [intOf]; omega
          · obtain rfl : j = xs.length := by omega
            obtain ⟨jn, hjn, hjt⟩ := List.mem_iff_getElem.1 hmN
            have hW : wrapTo xs q xs.length = C.getD (k + 1) ⟨0, 0⟩ := wrap_way h0 hWay hjn (by rw [nth_get hjn, hjt]) xs.length (Nat.le_refl _) hjn
            rw [hW] at T
            obtain ⟨nx, hnx⟩ : ∃ nx, nx = C.getD (k + 1) ⟨0, 0⟩ := ⟨_, rfl⟩
            rw [← hnx] at T
            replace hnx := Lib.hid hnx
            obtain ⟨t0, t1, tf0, tf1⟩ := id T
            obtain ⟨a0, a1, af0, af1⟩ := id A
            obtain ⟨d0, d1, df0, df1⟩ := id D
            obtain ⟨fs, hfs⟩ : ∃ fs, fs = firstTo xs xs.length := ⟨_, rfl⟩
            rw [← hfs] at d0 d1
            have hsO := own_beside hO hne5 nx
            have hsD := D.far (show wo.heap.size + 1 ≠ w.heap.size by omega) nx
            have hsA : Hold (setSpot wr (wo.heap.size + 1) nx) (wo.heap.size + 1) nx := A.set nx
            have hsB := Below.spot hb (show w.heap.size ≤ wo.heap.size + 1 by omega) nx
            have HS := Lib.hid (And.intro hsO (And.intro hsD (And.intro hsA hsB)))
            have hC1 : C.getD (k + 1) ⟨0, 0⟩ = C[k + 1] := by simp [hk]
            replace hfs := Lib.hid hfs
            clear hsO hsD hsA hsB hW hjt
            by_cases hend : k + 1 + 1 = C.length
            · have hl := R.out.last
              have hlast : nx = fs := by
                rw [hnx.out, hC1, hfs.out]
                rw [List.getLast?_eq_getElem?] at hl
                have e : C.length - 1 = k + 1 := by omega
                rw [e, List.getElem?_eq_getElem hk] at hl
                exact Option.some.inj hl
              have he' : ((⟨nx.X, nx.Y⟩ : Spot) == ⟨fs.X, fs.Y⟩) = true := by rw [hlast]; simp
              have hd : Hid (C.dropLast = C.take (k + 1)) := Lib.hid (by rw [List.dropLast_eq_take]; congr 1; omega)
              replace hlast := Lib.hid hlast
              clear hl
              go_wp2_with fail
              go_ret
              exact ⟨_, rfl, by rw [hd.out]; exact HS.out.1.base hB0, HS.out.2.2.2⟩
            · have hap : nx ≠ fs := by
                rw [hnx.out, hC1, hfs.out]
                exact R.out.apart (k + 1) (by omega) (by omega)
              have he' : ((⟨nx.X, nx.Y⟩ : Spot) == ⟨fs.X, fs.Y⟩) = false := by
                simp only [beq_eq_false_iff_ne]; intro h; apply hap; cases nx; cases fs; simpa using h
              replace hap := Lib.hid hap
              go_wp2_with fail
              go_roundw
              case rel => exact ⟨k + 1, g5, cap5, by omega, rfl, HS.out.1, hne5, HS.out.2.1, by rw [← hnx.out]; exact HS.out.2.2.1, HS.out.2.2.2⟩
              case measure => simp [lenOf]; omega
end Go.Proofs.Ytlaclknhenccdaa
