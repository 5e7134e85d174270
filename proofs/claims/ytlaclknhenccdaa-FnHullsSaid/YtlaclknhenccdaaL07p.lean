/- Chapter 7, outlines: where a spot is: the contracts of the program's functions and of the reference's. -/
import Derived.Test.YtlaclknhenccdaaL07b
import Derived.Deep.DeepCutAuto
namespace Go.Proofs.Ytlaclknhenccdaa
open Go.RowKit

/-- A way from a spot to the right crosses a side. -/
def crossAt (p a b : Spot) : Bool := (decide (a.Y ≤ p.Y) && decide (p.Y < b.Y) && decide (0 < crs a b p)) || (decide (b.Y ≤ p.Y) && decide (p.Y < a.Y) && decide (crs a b p < 0))
theorem crs_swap (a b p : Spot) : crs b a p = -crs a b p := by
  unfold crs
  simp only [Int.sub_mul, Int.mul_sub]
  rw [Int.mul_comm a.X b.Y, Int.mul_comm a.X p.Y, Int.mul_comm b.X p.Y, Int.mul_comm a.Y b.X, Int.mul_comm a.Y p.X, Int.mul_comm b.Y p.X, Int.mul_comm b.X b.Y, Int.mul_comm a.X a.Y, Int.mul_comm b.Y a.X, Int.mul_comm b.X a.Y]
  omega
theorem cross_ways (p a b : Spot) : (crossAt p a b = true ∧ a.Y ≤ p.Y ∧ p.Y < b.Y ∧ 0 < crs a b p) ∨ (crossAt p a b = false ∧ a.Y ≤ p.Y ∧ p.Y < b.Y ∧ ¬ 0 < crs a b p ∧ ¬ b.Y ≤ p.Y) ∨ (crossAt p a b = false ∧ a.Y ≤ p.Y ∧ ¬ p.Y < b.Y ∧ b.Y ≤ p.Y ∧ ¬ p.Y < a.Y) ∨
    (crossAt p a b = true ∧ ¬ a.Y ≤ p.Y ∧ b.Y ≤ p.Y ∧ p.Y < a.Y ∧ crs a b p < 0) ∨ (crossAt p a b = false ∧ ¬ a.Y ≤ p.Y ∧ b.Y ≤ p.Y ∧ p.Y < a.Y ∧ ¬ crs a b p < 0) ∨ (crossAt p a b = false ∧ ¬ a.Y ≤ p.Y ∧ ¬ b.Y ≤ p.Y) := by
  by_cases h1 : a.Y ≤ p.Y <;> by_cases h2 : p.Y < b.Y <;> by_cases h3 : 0 < crs a b p <;> by_cases h4 : b.Y ≤ p.Y <;> by_cases h5 : p.Y < a.Y <;> by_cases h6 : crs a b p < 0 <;>
    first
      | omega
      | simp [crossAt, h1, h2, h3, h4, h5, h6]
theorem straight_ways (p a b : Spot) (h : ¬ b.Y < a.Y) : (crossAt p a b = true ∧ a.Y ≤ p.Y ∧ p.Y < b.Y ∧ 0 < crs a b p) ∨ (crossAt p a b = false ∧ a.Y ≤ p.Y ∧ p.Y < b.Y ∧ ¬ 0 < crs a b p) ∨ (crossAt p a b = false ∧ a.Y ≤ p.Y ∧ ¬ p.Y < b.Y) ∨ (crossAt p a b = false ∧ ¬ a.Y ≤ p.Y) := by
  by_cases h1 : a.Y ≤ p.Y <;> by_cases h2 : p.Y < b.Y <;> by_cases h3 : 0 < crs a b p <;> by_cases h4 : b.Y ≤ p.Y <;> by_cases h5 : p.Y < a.Y <;>
    first
      | omega
      | simp [crossAt, h1, h2, h3, h4, h5]
theorem swapped_ways (p a b : Spot) (h : b.Y < a.Y) : (crossAt p a b = true ∧ b.Y ≤ p.Y ∧ p.Y < a.Y ∧ 0 < crs b a p) ∨ (crossAt p a b = false ∧ b.Y ≤ p.Y ∧ p.Y < a.Y ∧ ¬ 0 < crs b a p) ∨ (crossAt p a b = false ∧ b.Y ≤ p.Y ∧ ¬ p.Y < a.Y) ∨ (crossAt p a b = false ∧ ¬ b.Y ≤ p.Y) := by
  have e : crossAt p a b = crossAt p b a := by
    have e1 : decide (0 < crs b a p) = decide (crs a b p < 0) := by rw [crs_swap a b p]; congr 1; exact propext (by omega)
    have e2 : decide (crs b a p < 0) = decide (0 < crs a b p) := by rw [crs_swap a b p]; congr 1; exact propext (by omega)
    unfold crossAt; rw [e1, e2, Bool.or_comm]
  rw [e]
  exact straight_ways p b a (by omega)
theorem twoHold (w : World) (a b : Spot) : ∃ w1, (w.alloc (.cells #[.int .i64 a.X, .int .i64 a.Y] 83)).alloc (.cells #[.int .i64 b.X, .int .i64 b.Y] 83) = w1 ∧ Hold w1 w.heap.size a ∧ Hold w1 (w.heap.size + 1) b ∧ Below w.heap.size w w1 := by
  refine ⟨_, rfl, ⟨?_, ?_, ?_, ?_⟩, ⟨?_, ?_, ?_, ?_⟩, ((Below.refl _ _).alloc (by simp) _).alloc (by simp) _⟩ <;> go_simp
theorem Keep.far {w : World} {g g' : Nat} {q : Spot} (h : Keep w g q) (hne : g' ≠ g) (p : Spot) : Keep (setSpot w g' p) g q := by
  obtain ⟨a, b⟩ := h
  have hne' : g ≠ g' := fun h => hne h.symm
  unfold setSpot
  constructor <;> go_simp
def edgeAt (xs : List Spot) (p : Spot) (i : Nat) : Bool := onS (nth xs i) (nth xs (i + 1)) p
def insideTo (xs : List Spot) (p : Spot) : Nat → Bool
  | 0 => false
  | k + 1 => if crossAt p (nth xs k) (nth xs (k + 1)) then !insideTo xs p k else insideTo xs p k
def placeOf (xs : List Spot) (p : Spot) : ByteArray × Int :=
  if okOutline xs then if okSpot p then if allUpto xs.length fun i => !edgeAt xs p i then if insideTo xs p xs.length then (⟨#[105, 110, 115, 105, 100, 101]⟩, 0) else (⟨#[111, 117, 116, 115, 105, 100, 101]⟩, 0)
    else (⟨#[101, 100, 103, 101]⟩, 0) else (⟨#[]⟩, 2) else (⟨#[]⟩, 1)
theorem placeOf_edge {xs : List Spot} {p : Spot} {i : Nat} (h1 : okOutline xs = true) (h2 : okSpot p = true) (hi : i < xs.length) (h : edgeAt xs p i = true) : placeOf xs p = (⟨#[101, 100, 103, 101]⟩, 0) := by
  have : (allUpto xs.length fun i => !edgeAt xs p i) = false := allUpto_false hi (by simp [h])
  simp [placeOf, h1, h2, this]
theorem placeOf_in {xs : List Spot} {p : Spot} (h1 : okOutline xs = true) (h2 : okSpot p = true) (hs : Sofar (fun i => !edgeAt xs p i) xs.length) : placeOf xs p = if insideTo xs p xs.length then (⟨#[105, 110, 115, 105, 100, 101]⟩, 0) else (⟨#[111, 117, 116, 115, 105, 100, 101]⟩, 0) := by
  have := sofar_all hs (Nat.le_refl _)
  simp [placeOf, h1, h2, this]
set_option maxHeartbeats 2000000 in
theorem implPlaceOfSpot_c (a : Option Addr) (xs : List Spot) (c : Nat) (p : Spot) (w : World) (hx : At w a xs) (hl : xs.length ≤ 9223372036854775807) (hp : Rep.ok p) :
    Calls Try.prog 56 #[.slice a xs.length c, .agg #[.int .i64 p.X, .int .i64 p.Y]] w fun e w' => e = .returned (.tuple #[.string (placeOf xs p).1, .int .i64 (placeOf xs p).2]) ∧ Below w.heap.size w w' := by
  obtain ⟨wb, hwb, ⟨p0, p1⟩, hb0⟩ := one w p
  have K : Keep wb w.heap.size p := ⟨p0, p1⟩
  clear p0 p1 hp
  cases h1 : okOutline xs
  · have ht : placeOf xs p = (⟨#[]⟩, 1) := by simp [placeOf, h1]
    rw [ht]
    go_enter Try.func56, Try.ntmps56
    go_wp2_with fail
    have hb := hb0
    refine (implValidOutline_c _ _ _ _ (hx.below hb) hl).mono ?_
    rintro e w2 ⟨rfl, hb2⟩
    replace hb := upw hb hb2
    go_wp2_with fail
    go_ret2
    exact ⟨rfl, hb⟩
  · cases h2 : okSpot p
    · have ht : placeOf xs p = (⟨#[]⟩, 2) := by simp [placeOf, h1, h2]
      rw [ht]
      go_enter Try.func56, Try.ntmps56
      go_wp2_with fail
      have hb := hb0
      refine (implValidOutline_c _ _ _ _ (hx.below hb) hl).mono ?_
      rintro e w2 ⟨rfl, hb2⟩
      replace hb := upw hb hb2
      obtain ⟨d0, d1⟩ := K.below hb2
      go_wp2_with fail
      refine (isSpot_c _ _).mono ?_
      rintro e w2 ⟨rfl, hb2⟩
      replace hb := upw hb hb2
      go_wp2_with fail
      go_ret2
      exact ⟨rfl, hb⟩
    · obtain ⟨hn, hn3, hok⟩ := okOutline_is h1
      replace hok := Lib.hid hok
      go_enter Try.func56, Try.ntmps56
      go_wp2_with fail
      have hb := hb0
      refine (implValidOutline_c _ _ _ _ (hx.below hb) hl).mono ?_
      rintro e w2 ⟨rfl, hb2⟩
      replace hb := upw hb hb2
      replace K := K.below hb2
      obtain ⟨d0, d1⟩ := K
      clear hb2
      go_wp2_with fail
      refine (isSpot_c p _).mono ?_
      rintro e w2 ⟨rfl, hb2⟩
      replace hb := upw hb hb2
      replace K := Keep.below ⟨d0, d1⟩ hb2
      clear hb2 d0 d1 hwb hb0
      go_wp2_with fail
      go_loopw [20, 6] (fun i s wr => ∃ k : Nat, k ≤ xs.length ∧ i = .int .i64 k ∧ s = .bool (insideTo xs p k) ∧ Sofar (fun i => !edgeAt xs p i) k ∧ Keep wr w.heap.size p ∧ Below w.heap.size w wr) (fun i _ _ => xs.length - (intOf i).toNat)
      case atStart => exact ⟨0, Nat.zero_le _, rfl, rfl, sofar_zero, K, hb⟩
      case round =>
        clear hb K
        obtain ⟨k, hk, rfl, rfl, hs, K, hb⟩ := hrel
        have HS := Lib.hid hs
        clear hs
        replace hx := hx.below hb
        by_cases hlt : k < xs.length
        · obtain ⟨b, off, rfl⟩ := hx.addr hlt
          have hbl := hx.lt hlt
          have hm0 : k % xs.length = k := Nat.mod_eq_of_lt hlt
          obtain ⟨m1, hm1, e1, l1⟩ := modn (j := k + 1) (x := (k : Int) + 1) (n := xs.length) (by omega) (by omega)
          obtain ⟨c0, c1⟩ := hx.nthc hm0 hlt
          obtain ⟨c2, c3⟩ := hx.nthc hm1 l1
          have q1 := okSpot_iff.1 (hok.out k)
          have q2 := okSpot_iff.1 (hok.out (k + 1))
          have q3 := okSpot_iff.1 h2
          have K2 := ((K.below ((Below.refl _ _).alloc (Nat.le_refl _) (.cells #[.int .i64 (nth xs k).X, .int .i64 (nth xs k).Y] 83))).below ((Below.refl _ _).alloc (Nat.le_refl _) (.cells #[.int .i64 (nth xs (k + 1)).X, .int .i64 (nth xs (k + 1)).Y] 83)))
          have g0 := K2.x
          have g1 := K2.y
          cases h3 : edgeAt xs p k
          · go_wp2_with fail
            obtain ⟨w5, hw, ⟨⟨d0, d1⟩, d2, d3⟩, hb5⟩ := two wr (nth xs k) (nth xs (k + 1))
            rw [hw]
            rw [hw] at K2
            clear g0 g1 c0 c1 c2 c3 hw
            replace hb := upw hb hb5
            have D0 : Keep w5 wr.heap.size (nth xs k) := ⟨d0, d1⟩
            have D1 : Keep w5 (wr.heap.size + 1) (nth xs (k + 1)) := ⟨d2, d3⟩
            clear d0 d1 d2 d3
            refine (as_boolB h3 (isOn_c _ _ _ _ (hok.out _) (hok.out _) h2)).mono ?_
            rintro e w6 ⟨rfl, hb6⟩
            replace hb := upw hb hb6
            obtain ⟨d0, d1⟩ := D0.below hb6
            obtain ⟨d2, d3⟩ := D1.below hb6
            obtain ⟨d4, d5⟩ := K2.below hb6
            have K6 := Lib.hid (K2.below hb6)
            have r := crs_bound (hok.out k) (hok.out (k + 1)) h2
            rcases cross_ways p (nth xs k) (nth xs (k + 1)) with ⟨E, h4, h5, h6⟩ | ⟨E, h4, h5, h6, h7⟩ | ⟨E, h4, h5, h6, h7⟩ | ⟨E, h4, h5, h6, h7⟩ | ⟨E, h4, h5, h6, h7⟩ | ⟨E, h4, h5⟩
            all_goals
              replace E := Lib.hid E
              go_wp2_with fail
              have K7 := K6
              try (refine (cross_c _ _ _ _ (hok.out _) (hok.out _) h2).mono ?_; rintro e w7 ⟨rfl, hb7⟩; replace hb := upw hb hb7; clear K7; have K7 := Lib.hid (K6.out.below hb7); obtain ⟨g0, g1⟩ := (D0.below hb6).below hb7; obtain ⟨g2, g3⟩ := (D1.below hb6).below hb7; obtain ⟨g4, g5⟩ := K7.out; go_wp2_with fail)
              go_roundw
              case rel => exact ⟨k + 1, by omega, by go_num, by simp only [insideTo, E.out]; rfl, sofar_succ HS.out (by rw [h3]; rfl), K7.out, hb⟩
              case measure => simp [intOf]; omega
          · have ht : placeOf xs p = (⟨#[101, 100, 103, 101]⟩, 0) := placeOf_edge h1 h2 hlt h3
            go_wp2_with fail
            obtain ⟨w5, hw, _, hb5⟩ := two wr (nth xs k) (nth xs (k + 1))
            rw [hw]
            clear g0 g1 c0 c1 c2 c3 hw
            replace hb := upw hb hb5
            refine (as_boolB h3 (isOn_c _ _ _ _ (hok.out _) (hok.out _) h2)).mono ?_
            rintro e w6 ⟨rfl, hb6⟩
            replace hb := upw hb hb6
            go_wp2_with fail
            go_ret2
            exact ⟨by simp [ht], hb⟩
        · obtain rfl : k = xs.length := by omega
          have ht := placeOf_in h1 h2 HS.out
          cases h3 : insideTo xs p xs.length
          · rw [h3] at ht
            go_wp2_with fail
            go_ret2
            exact ⟨by simp [ht], hb⟩
          · rw [h3] at ht
            go_wp2_with fail
            go_ret2
            exact ⟨by simp [ht], hb⟩
def Turned (p a b a' b' : Spot) : Prop := ¬ b'.Y < a'.Y ∧ crossAt p a' b' = crossAt p a b ∧ okSpot a' = true ∧ okSpot b' = true
theorem turned_swap {p a b : Spot} (h : b.Y < a.Y) (ha : okSpot a = true) (hb : okSpot b = true) : Turned p a b b a := by
  refine ⟨by omega, ?_, hb, ha⟩
  have e1 : decide (0 < crs b a p) = decide (crs a b p < 0) := by rw [crs_swap a b p]; congr 1; exact propext (by omega)
  have e2 : decide (crs b a p < 0) = decide (0 < crs a b p) := by rw [crs_swap a b p]; congr 1; exact propext (by omega)
  unfold crossAt; rw [e1, e2, Bool.or_comm]
set_option maxHeartbeats 2000000 in
theorem specPlaceOfSpot_c (a : Option Addr) (xs : List Spot) (c : Nat) (p : Spot) (w : World) (hx : At w a xs) (hl : xs.length ≤ 9223372036854775807) (hp : Rep.ok p) :
    Calls Try.prog 57 #[.slice a xs.length c, .agg #[.int .i64 p.X, .int .i64 p.Y]] w fun e w' => e = .returned (.tuple #[.string (placeOf xs p).1, .int .i64 (placeOf xs p).2]) ∧ Below w.heap.size w w' := by
  obtain ⟨wb, hwb, ⟨p0, p1⟩, hb0⟩ := one w p
  have K : Keep wb w.heap.size p := ⟨p0, p1⟩
  clear p0 p1 hp
  cases h1 : okOutline xs
  · have ht : placeOf xs p = (⟨#[]⟩, 1) := by simp [placeOf, h1]
    rw [ht]
    go_enter Try.func57, Try.ntmps57
    go_wp2_with fail
    have hb := hb0
    refine (l07Ok_c _ _ _ _ (hx.below hb) hl).mono ?_
    rintro e w2 ⟨rfl, hb2⟩
    replace hb := upw hb hb2
    go_wp2_with fail
    go_ret2
    exact ⟨rfl, hb⟩
  · skip
    cases h2 : inr p.X 0 10000
    · have h9 : okSpot p = false := by simp [okSpot, h2]
      have ht : placeOf xs p = (⟨#[]⟩, 2) := by simp [placeOf, h1, h9]
      rw [ht]
      go_enter Try.func57, Try.ntmps57
      go_wp2_with fail
      have hb := hb0
      refine (l07Ok_c _ _ _ _ (hx.below hb) hl).mono ?_
      rintro e w2 ⟨rfl, hb2⟩
      replace hb := upw hb hb2
      obtain ⟨d0, d1⟩ := K.below hb2
      go_wp2_with (go_at_call 77; refine (l00In_c _ _ _ _).mono ?_; rintro e w' ⟨rfl, rfl⟩)
      go_ret2
      exact ⟨rfl, hb⟩
    · cases h3 : inr p.Y 0 10000
      · have h9 : okSpot p = false := by simp [okSpot, h2, h3]
        have ht : placeOf xs p = (⟨#[]⟩, 2) := by simp [placeOf, h1, h9]
        rw [ht]
        go_enter Try.func57, Try.ntmps57
        go_wp2_with fail
        have hb := hb0
        refine (l07Ok_c _ _ _ _ (hx.below hb) hl).mono ?_
        rintro e w2 ⟨rfl, hb2⟩
        replace hb := upw hb hb2
        obtain ⟨d0, d1⟩ := K.below hb2
        go_wp2_with (go_at_call 77; refine (l00In_c _ _ _ _).mono ?_; rintro e w' ⟨rfl, rfl⟩)
        go_ret2
        exact ⟨rfl, hb⟩
      · have h9 : okSpot p = true := by simp [okSpot, h2, h3]
        obtain ⟨hn, hn3, hok⟩ := okOutline_is h1
        replace hok := Lib.hid hok
        go_enter Try.func57, Try.ntmps57
        go_wp2_with fail
        have hb := hb0
        refine (l07Ok_c _ _ _ _ (hx.below hb) hl).mono ?_
        rintro e w2 ⟨rfl, hb2⟩
        replace hb := upw hb hb2
        replace K := K.below hb2
        obtain ⟨d0, d1⟩ := id K
        clear hb2 hwb hb0
        go_wp2_with (go_at_call 77; refine (l00In_c _ _ _ _).mono ?_; rintro e w' ⟨rfl, rfl⟩)
        clear d0 d1 h2 h3
        go_loopw [7, 6] (fun i s wr => ∃ k : Nat, k ≤ xs.length ∧ i = .int .i64 k ∧ s = .bool (insideTo xs p k) ∧ Sofar (fun i => !edgeAt xs p i) k ∧ Keep wr w.heap.size p ∧ Below w.heap.size w wr) (fun i _ _ => xs.length - (intOf i).toNat)
        case atStart => exact ⟨0, Nat.zero_le _, rfl, rfl, sofar_zero, K, hb⟩
        case round =>
          clear hb K
          obtain ⟨k, hk, rfl, rfl, hs, K, hb⟩ := hrel
          have HS := Lib.hid hs
          clear hs
          replace hx := hx.below hb
          by_cases hlt : k < xs.length
          · obtain ⟨b, off, rfl⟩ := hx.addr hlt
            have hbl := hx.lt hlt
            have hm0 : k % xs.length = k := Nat.mod_eq_of_lt hlt
            obtain ⟨m1, hm1, e1, l1⟩ := modn (j := k + 1) (x := (k : Int) + 1) (n := xs.length) (by omega) (by omega)
            obtain ⟨c0, c1⟩ := hx.nthc hm0 hlt
            obtain ⟨c2, c3⟩ := hx.nthc hm1 l1
            have K2 := ((K.below ((Below.refl _ _).alloc (Nat.le_refl _) (.cells #[.int .i64 (nth xs k).X, .int .i64 (nth xs k).Y] 83))).below ((Below.refl _ _).alloc (Nat.le_refl _) (.cells #[.int .i64 (nth xs (k + 1)).X, .int .i64 (nth xs (k + 1)).Y] 83)))
            have g0 := K2.x
            have g1 := K2.y
            cases h3 : edgeAt xs p k
            · go_wp2_with fail
              obtain ⟨w5, hw, D0, D1, hb5⟩ := twoHold wr (nth xs k) (nth xs (k + 1))
              rw [hw]
              rw [hw] at K2
              clear g0 g1 c0 c1 c2 c3 hw
              replace hb := upw hb hb5
              refine (as_boolB h3 (l07On_c _ _ _ _ (hok.out _) (hok.out _) h9)).mono ?_
              rintro e w6 ⟨rfl, hb6⟩
              replace hb := upw hb hb6
              replace D0 := D0.below hb6
              replace D1 := D1.below hb6
              replace K2 := K2.below hb6
              have kl := K.lt
              obtain ⟨d0, d1, f0, f1⟩ := id D0
              obtain ⟨d2, d3, f2, f3⟩ := id D1
              have hE := Lib.hid h3
              clear h3
              go_upto_if 50 with (fail)
              go_cut [] (fun wx => ∃ a' b' : Spot, Hold wx wr.heap.size a' ∧ Hold wx (wr.heap.size + 1) b' ∧ Keep wx w.heap.size p ∧ Below w.heap.size w wx ∧ Turned p (nth xs k) (nth xs (k + 1)) a' b')
              case first =>
                have q0 := D0.lt
                have q1 := D1.lt
                by_cases hsw : (nth xs (k + 1)).Y < (nth xs k).Y
                · go_wp2_with fail
                  go_meet
                  exact ⟨nth xs (k + 1), nth xs k, (((D0.set _).far (by omega) _).new _), (((D1.far (by omega) _).set _).new _), (((K2.far (show wr.heap.size ≠ w.heap.size by omega) (nth xs (k + 1))).far (show wr.heap.size + 1 ≠ w.heap.size by omega) (nth xs k)).below ((Below.refl _ _).alloc (Nat.le_refl _) _)), ((Below.spot (Below.spot hb (show w.heap.size ≤ wr.heap.size by omega) (nth xs (k + 1))) (show w.heap.size ≤ wr.heap.size + 1 by omega) (nth xs k)).alloc (by simp [setSpot]; omega) _), turned_swap hsw (hok.out _) (hok.out _)⟩
                · go_wp2_with fail
                  go_meet
                  exact ⟨nth xs k, nth xs (k + 1), D0, D1, K2, hb, by omega, rfl, hok.out _, hok.out _⟩
              case rest =>
                clear d0 d1 d2 d3 f0 f1 f2 f3 D0 D1 K2 hb K
                obtain ⟨a', b', D0, D1, K2, hb, hT⟩ := hcut
                obtain ⟨d0, d1, f0, f1⟩ := id D0
                obtain ⟨d2, d3, f2, f3⟩ := id D1
                obtain ⟨d4, d5⟩ := id K2
                have r := crs_bound hT.2.2.1 hT.2.2.2 h9
                have ways := straight_ways p a' b' hT.1
                rw [hT.2.1] at ways
                replace ways := Lib.hid ways
                replace hT := Lib.hid hT
                rcases ways.out with ⟨E, h4, h5, h6⟩ | ⟨E, h4, h5, h6⟩ | ⟨E, h4, h5⟩ | ⟨E, h4⟩
                · clear ways
                  replace E := Lib.hid E
                  go_wp2_with fail
                  refine (l07Cross_c _ _ _ _ hT.out.2.2.1 hT.out.2.2.2 h9).mono ?_
                  rintro e w7 ⟨rfl, hb7⟩
                  go_wp2_with fail
                  go_roundw
                  case rel => exact ⟨k + 1, by omega, by go_num, by simp only [insideTo, E.out]; rfl, sofar_succ HS.out (by rw [hE.out]; rfl), K2.below hb7, upw hb hb7⟩
                  case measure => simp [intOf]; omega
                · clear ways
                  replace E := Lib.hid E
                  go_wp2_with fail
                  refine (l07Cross_c _ _ _ _ hT.out.2.2.1 hT.out.2.2.2 h9).mono ?_
                  rintro e w7 ⟨rfl, hb7⟩
                  go_wp2_with fail
                  go_roundw
                  case rel => exact ⟨k + 1, by omega, by go_num, by simp only [insideTo, E.out]; rfl, sofar_succ HS.out (by rw [hE.out]; rfl), K2.below hb7, upw hb hb7⟩
                  case measure => simp [intOf]; omega
                · clear ways
                  replace E := Lib.hid E
                  go_wp2_with fail
                  go_roundw
                  case rel => exact ⟨k + 1, by omega, by go_num, by simp only [insideTo, E.out]; rfl, sofar_succ HS.out (by rw [hE.out]; rfl), K2, hb⟩
                  case measure => simp [intOf]; omega
                · clear ways
                  replace E := Lib.hid E
                  go_wp2_with fail
                  go_roundw
                  case rel => exact ⟨k + 1, by omega, by go_num, by simp only [insideTo, E.out]; rfl, sofar_succ HS.out (by rw [hE.out]; rfl), K2, hb⟩
                  case measure => simp [intOf]; omega
            · have ht : placeOf xs p = (⟨#[101, 100, 103, 101]⟩, 0) := placeOf_edge h1 h9 hlt h3
              go_wp2_with fail
              obtain ⟨w5, hw, _, hb5⟩ := two wr (nth xs k) (nth xs (k + 1))
              rw [hw]
              clear g0 g1 c0 c1 c2 c3 hw
              replace hb := upw hb hb5
              refine (as_boolB h3 (l07On_c _ _ _ _ (hok.out _) (hok.out _) h9)).mono ?_
              rintro e w6 ⟨rfl, hb6⟩
              replace hb := upw hb hb6
              go_wp2_with fail
              go_ret2
              exact ⟨by simp [ht], hb⟩
          · obtain rfl : k = xs.length := by omega
            have ht := placeOf_in h1 h9 HS.out
            cases h3 : insideTo xs p xs.length
            · rw [h3] at ht
              go_wp2_with fail
              go_ret2
              exact ⟨by simp [ht], hb⟩
            · rw [h3] at ht
              go_wp2_with fail
              go_ret2
              exact ⟨by simp [ht], hb⟩
end Go.Proofs.Ytlaclknhenccdaa
