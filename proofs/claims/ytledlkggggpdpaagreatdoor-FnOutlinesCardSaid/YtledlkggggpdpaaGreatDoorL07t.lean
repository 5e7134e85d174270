/- Chapter 7, outlines: MirrorOutline and TurnOutline: the contracts of the program's functions and of the reference's. -/
import Derived.Test.YtledlkggggpdpaaGreatDoorL07m
namespace Go.Proofs.YtledlkggggpdpaaGreatDoor
open Go.RowKit

theorem heap_alloc_new2 (w : World) (o o' : Obj) : ((w.alloc o).alloc o').heap[w.heap.size + 1]? = some o' := by
  have := heap_alloc_new (w.alloc o) o'
  have e : (w.alloc o).heap.size = w.heap.size + 1 := by simp
  rwa [e] at this
def mirrored (xs : List Spot) : List Spot := xs.reverse.map mir
theorem mirrored_length (xs : List Spot) : (mirrored xs).length = xs.length := by simp [mirrored]
theorem mirrored_get (xs : List Spot) (i : Nat) (h : i < (mirrored xs).length) (h' : xs.length - 1 - i < xs.length) : (mirrored xs)[i] = mir (nth xs (xs.length - 1 - i)) := by
  rw [nth_get h']; simp [mirrored]
def mirrorOf (xs : List Spot) : List Spot := if okOutline xs then lay (mirrored xs) else []
def mirrorCode (xs : List Spot) : Int := if okOutline xs then 0 else 1
theorem MirrorOutline_len (xs : List Spot) : (mirrorOf xs).length ≤ xs.length := by
  unfold mirrorOf; split
  · rw [lay_length, mirrored_length]; exact Nat.le_refl _
  · simp
theorem near_mirrored {xs : List Spot} (h : ∀ x ∈ xs, okSpot x = true) : ∀ i, nearSpot (nth (mirrored xs) i) := near_nth fun x hx => by
  simp only [mirrored, List.mem_map, List.mem_reverse] at hx
  obtain ⟨y, hy, rfl⟩ := hx
  exact near_mir (near_ok (h y hy))
def rotTo : Nat → List Spot → List Spot
  | 0, xs => xs
  | q + 1, xs => (rotTo q xs).map rot
theorem rotTo_length (xs : List Spot) : ∀ q, (rotTo q xs).length = xs.length
  | 0 => rfl
  | q + 1 => by simp [rotTo, rotTo_length xs q]
theorem near_rotTo {xs : List Spot} (h : ∀ x ∈ xs, okSpot x = true) : ∀ q, ∀ x ∈ rotTo q xs, nearSpot x
  | 0, x, hx => near_ok (h x hx)
  | q + 1, x, hx => by
    simp only [rotTo, List.mem_map] at hx
    obtain ⟨y, hy, rfl⟩ := hx
    exact near_rot (near_rotTo h q y hy)
def turnOf (xs : List Spot) (q : Int) : List Spot := if okOutline xs && inr q 0 3 then lay (rotTo q.toNat xs) else []
def turnCode (xs : List Spot) (q : Int) : Int := if okOutline xs then if inr q 0 3 then 0 else 2 else 1
theorem TurnOutline_len (xs : List Spot) (q : Int) : (turnOf xs q).length ≤ xs.length := by
  unfold turnOf; split
  · rw [lay_length, rotTo_length]; exact Nat.le_refl _
  · simp
set_option maxRecDepth 100000 in
set_option maxHeartbeats 1600000 in
theorem implMirrorOutline_c (a : Option Addr) (xs : List Spot) (c : Nat) (w : World) (hx : At w a xs) (hl : xs.length ≤ 9223372036854775807) :
    Calls Tryz.prog 74 #[.slice a xs.length c] w fun e w' => ∃ v, e = .returned (.tuple #[v, .int .i64 (mirrorCode xs)]) ∧ Own w.heap.size w' 106 v (mirrorOf xs) ∧ Below w.heap.size w w' := by
  have hb := Below.refl w.heap.size w
  cases h1 : okOutline xs
  · have hr : mirrorCode xs = 1 := by simp [mirrorCode, h1]
    have hr' : mirrorOf xs = [] := by simp [mirrorOf, h1]
    rw [hr, hr']
    go_enter Tryz.func74, Tryz.ntmps74
    go_wp2_with fail
    refine (implValidOutline_c _ _ _ _ hx hl).mono ?_
    rintro e w2 ⟨rfl, hb2⟩
    replace hb := upw hb hb2
    go_wp2_with fail
    go_ret2
    exact ⟨_, rfl, World.ownsRow_nil _ _ _ _, hb⟩
  · have hr : mirrorCode xs = 0 := by simp [mirrorCode, h1]
    have hr' : mirrorOf xs = lay (mirrored xs) := by simp [mirrorOf, h1]
    rw [hr, hr']
    clear hr hr'
    obtain ⟨hn, hn3, hok⟩ := okOutline_is h1
    have hnear := Lib.hid (near_mirrored (okOutline_iff.1 h1).1.2)
    replace hok := Lib.hid hok
    go_enter Tryz.func74, Tryz.ntmps74
    go_wp2_with fail
    refine (implValidOutline_c _ _ _ _ hx hl).mono ?_
    rintro e w2 ⟨rfl, hb2⟩
    replace hb := upw hb hb2
    go_wp2_with fail
    go_loopw [4, 13] (fun v i wr => ∃ k : Nat, k ≤ xs.length ∧ i = .int .i64 k ∧ Own w.heap.size wr 106 v ((xs.map mir).take k) ∧ Below w.heap.size w wr) (fun _ i _ => xs.length - (intOf i).toNat)
    case atStart => exact ⟨0, Nat.zero_le _, rfl, (own_new _ _).base hb.size, hb.alloc hb.size _⟩
    case round =>
      clear hb
      obtain ⟨k, hk, rfl, hO, hb⟩ := hrel
      replace hx := hx.below hb
      have hbs := hb.size
      by_cases hlt : k < xs.length
      · obtain ⟨b, off, rfl⟩ := hx.addr hlt
        have hbl := hx.lt hlt
        have hm0 : k % xs.length = k := Nat.mod_eq_of_lt hlt
        obtain ⟨c0, c1⟩ := hx.nthc hm0 hlt
        have q1 := okSpot_iff.1 (hok.out k)
        have hlk := Lib.hid (show ((xs.map mir).take k).length = k by simp; omega)
        go_wp2_with (at_builtin; refine wpList_push rfl (.tmp 17) (.tmp 24) 96 rfl w.heap.size 106 (.agg #[.int .i64 0, .int .i64 0]) 16 Tryz.underlying96 infoSpot rfl _ _ (⟨-(nth xs k).X, (nth xs k).Y⟩ : Spot) rfl ((hO.later ((Below.refl _ _).alloc (Nat.le_refl _) _)).later ((Below.refl _ _).alloc (Nat.le_refl _) _)) _ _ rfl 106 (heap_alloc_new2 _ _ _) (by rw [hlk.out]; omega) (by decide) (by simp; omega) ?_; intro v1 w3 hO1 hg1)
        go_roundw
        case rel => exact ⟨k + 1, by omega, by go_num, by rw [List.take_succ_eq_append_getElem (by simpa using hlt), List.getElem_map, ← nth_get hlt]; exact hO1, below_mark ((hb.alloc hb.size _).alloc (by simp; omega) _) ((hO.later ((Below.refl _ _).alloc (Nat.le_refl _) _)).later ((Below.refl _ _).alloc (Nat.le_refl _) _)) (Nat.le_refl _) hg1⟩
        case measure => simp [intOf]; omega
      · obtain rfl : k = xs.length := by omega
        rw [List.take_of_length_le (by simp)] at hO
        go_wp2_with fail
        refine (reverseSpots_c _ _ _ _ hO (by simp; omega)).mono ?_
        rintro e w3 ⟨rfl, hO3, hg3⟩
        replace hb := below_mark hb hO (Nat.le_refl _) hg3
        have er : (xs.map mir).reverse = mirrored xs := by simp [mirrored]
        rw [er] at hO3
        clear er
        go_wp2_with fail
        refine (moved_c _ _ _ _ hO3 (by rw [mirrored_length]; exact hn) (by rw [mirrored_length]; omega) hnear.out).mono ?_
        rintro e w4 ⟨rfl, hO4, hg4⟩
        replace hb := below_mark hb hO3 (Nat.le_refl _) hg4
        go_wp2_with fail
        go_ret2
        exact ⟨_, rfl, hO4, hb⟩
set_option maxRecDepth 100000 in
set_option maxHeartbeats 1600000 in
theorem specMirrorOutline_c (a : Option Addr) (xs : List Spot) (c : Nat) (w : World) (hx : At w a xs) (hl : xs.length ≤ 9223372036854775807) :
    Calls Tryz.prog 75 #[.slice a xs.length c] w fun e w' => ∃ v, e = .returned (.tuple #[v, .int .i64 (mirrorCode xs)]) ∧ Own w.heap.size w' 106 v (mirrorOf xs) ∧ Below w.heap.size w w' := by
  have hb := Below.refl w.heap.size w
  cases h1 : okOutline xs
  · have hr : mirrorCode xs = 1 := by simp [mirrorCode, h1]
    have hr' : mirrorOf xs = [] := by simp [mirrorOf, h1]
    rw [hr, hr']
    go_enter Tryz.func75, Tryz.ntmps75
    go_wp2_with fail
    refine (l07Ok_c _ _ _ _ hx hl).mono ?_
    rintro e w2 ⟨rfl, hb2⟩
    replace hb := upw hb hb2
    go_wp2_with fail
    go_ret2
    exact ⟨_, rfl, World.ownsRow_nil _ _ _ _, hb⟩
  · have hr : mirrorCode xs = 0 := by simp [mirrorCode, h1]
    have hr' : mirrorOf xs = lay (mirrored xs) := by simp [mirrorOf, h1]
    rw [hr, hr']
    clear hr hr'
    obtain ⟨hn, hn3, hok⟩ := okOutline_is h1
    have hnear := Lib.hid (near_mirrored (okOutline_iff.1 h1).1.2)
    replace hok := Lib.hid hok
    go_enter Tryz.func75, Tryz.ntmps75
    go_wp2_with fail
    refine (l07Ok_c _ _ _ _ hx hl).mono ?_
    rintro e w2 ⟨rfl, hb2⟩
    replace hb := upw hb hb2
    go_wp2_with fail
    go_loopw [4, 5] (fun v i wr => ∃ k : Nat, k ≤ xs.length ∧ i = .int .i64 ((xs.length : Int) - 1 - k) ∧ Own w.heap.size wr 106 v ((mirrored xs).take k) ∧ Below w.heap.size w wr) (fun _ i _ => (intOf i + 1).toNat)
    case atStart => exact ⟨0, Nat.zero_le _, by simp, (own_new _ _).base hb.size, hb.alloc hb.size _⟩
    case round =>
      clear hb
      obtain ⟨k, hk, rfl, hO, hb⟩ := hrel
      replace hx := hx.below hb
      have hbs := hb.size
      by_cases hlt : k < xs.length
      · obtain ⟨m, hm⟩ : ∃ m : Nat, m = xs.length - 1 - k := ⟨_, rfl⟩
        have em : ((xs.length : Int) - 1 - k) = m := by omega
        have hlm : m < xs.length := by omega
        rw [em]
        obtain ⟨b, off, rfl⟩ := hx.addr hlt
        have hbl := hx.lt hlt
        have hm0 : m % xs.length = m := Nat.mod_eq_of_lt hlm
        obtain ⟨c0, c1⟩ := hx.nthc hm0 hlm
        have q1 := okSpot_iff.1 (hok.out m)
        have hlk := Lib.hid (show ((mirrored xs).take k).length = k by rw [List.length_take, mirrored_length]; omega)
        replace hm := Lib.hid hm
        clear em
        replace c0 := rg c0
        replace c1 := rg c1
        go_wp2_with fail
        refine wp_region_any (by kernel_rfl) ?_
        refine wpAny_take (i := 0) (v := _) rfl (by kernel_rfl) (by kernel_rfl) (by kernel_rfl) (fun _ _ _ h => h) (Or.inl ⟨by rfl, (by intro w; go_simp; try with_reducible rfl)⟩) ?_
        go_simp
        refine wp_any_tailq_below [1, 2, 3, 4, 5, 6, 7, 8, 9, 10, 11, 12] [13, 14, 15] (by decide +kernel) (by kernel_rfl) (picked_cons rfl (picked_cons rfl (picked_cons rfl (picked_cons rfl (picked_cons rfl (picked_cons rfl (picked_cons rfl (picked_cons rfl (picked_cons rfl (picked_cons rfl (picked_cons rfl (picked_cons rfl picked_nil)))))))))))) (picked_cons rfl (picked_cons rfl (picked_cons rfl picked_nil))) ?_
        repeat (go_big_quiet_step ((fail)))
        refine wpQuiet_nil ?_
        intro w2 hw'
        replace hb := upw hb (grown_of hw')
        have hw2 := grown_of hw'
        clear hw'
        go_wp2_with (at_builtin; refine wpList_push rfl (.tmp 17) (.tmp 30) 96 rfl w.heap.size 106 (.agg #[.int .i64 0, .int .i64 0]) 16 Tryz.underlying96 infoSpot rfl _ _ (⟨-(nth xs m).X, (nth xs m).Y⟩ : Spot) rfl ((hO.later hw2).later ((Below.refl _ _).alloc (Nat.le_refl _) _)) _ _ rfl 106 (heap_alloc_new _ _) (by rw [hlk.out]; omega) (by decide) (by have := hw2.size; simp; omega) ?_; intro v1 w3 hO1 hg1)
        go_roundw
        case rel => exact ⟨k + 1, by omega, by have := hm.out; congr 1; omega, by have h9 := hm.out; rw [List.take_succ_eq_append_getElem (by rw [mirrored_length]; exact hlt), mirrored_get _ _ _ (by omega), ← h9]; exact hO1, below_mark (hb.alloc hb.size _) ((hO.later hw2).later ((Below.refl _ _).alloc (Nat.le_refl _) _)) (Nat.le_refl _) hg1⟩
        case measure => (simp [intOf]; try omega)
      · obtain rfl : k = xs.length := by omega
        have em : ((xs.length : Int) - 1 - xs.length) = -1 := by omega
        rw [em]
        rw [List.take_of_length_le (by rw [mirrored_length]; exact Nat.le_refl _)] at hO
        obtain ⟨a', c', rfl, _⟩ := hO.at
        have hA := hO.at'
        go_wp2_with fail
        refine (l07Lay_c _ _ _ _ hA (by rw [mirrored_length]; exact hn) (by rw [mirrored_length]; omega) hnear.out).mono ?_
        rintro e w4 ⟨v4, rfl, hO4, hb4⟩
        go_wp2_with fail
        go_ret2
        exact ⟨_, rfl, hO4.base hbs, upw hb hb4⟩
set_option maxRecDepth 100000 in
set_option maxHeartbeats 1600000 in
theorem implTurnOutline_c (a : Option Addr) (xs : List Spot) (c : Nat) (q : Int) (w : World) (hx : At w a xs) (hl : xs.length ≤ 9223372036854775807) (_hq : -9223372036854775808 ≤ q ∧ q ≤ 9223372036854775807) :
    Calls Tryz.prog 71 #[.slice a xs.length c, .int .i64 q] w fun e w' => ∃ v, e = .returned (.tuple #[v, .int .i64 (turnCode xs q)]) ∧ Own w.heap.size w' 106 v (turnOf xs q) ∧ Below w.heap.size w w' := by
  have hb := Below.refl w.heap.size w
  cases h1 : okOutline xs
  · have hr : turnCode xs q = 1 := by simp [turnCode, h1]
    have hr' : turnOf xs q = [] := by simp [turnOf, h1]
    rw [hr, hr']
    go_enter Tryz.func71, Tryz.ntmps71
    go_wp2_with fail
    refine (implValidOutline_c _ _ _ _ hx hl).mono ?_
    rintro e w2 ⟨rfl, hb2⟩
    replace hb := upw hb hb2
    go_wp2_with fail
    go_ret2
    exact ⟨_, rfl, World.ownsRow_nil _ _ _ _, hb⟩
  · cases h2 : inr q 0 3
    · have hr : turnCode xs q = 2 := by simp [turnCode, h1, h2]
      have hr' : turnOf xs q = [] := by simp [turnOf, h1, h2]
      rw [hr, hr']
      go_enter Tryz.func71, Tryz.ntmps71
      go_wp2_with fail
      refine (implValidOutline_c _ _ _ _ hx hl).mono ?_
      rintro e w2 ⟨rfl, hb2⟩
      replace hb := upw hb hb2
      go_wp2_with fail
      refine (within_c _ _ _ _).mono ?_
      rintro e w' ⟨rfl, rfl⟩
      go_wp2_with fail
      go_ret2
      exact ⟨_, rfl, World.ownsRow_nil _ _ _ _, hb⟩
    · have hr : turnCode xs q = 0 := by simp [turnCode, h1, h2]
      have hr' : turnOf xs q = lay (rotTo q.toNat xs) := by simp [turnOf, h1, h2]
      rw [hr, hr']
      clear hr hr'
      obtain ⟨hn, hn3, hok⟩ := okOutline_is h1
      have hnear := Lib.hid (near_rotTo (okOutline_iff.1 h1).1.2)
      clear hok
      have h2' := inr_true.1 h2
      obtain ⟨Q, rfl⟩ := Int.eq_ofNat_of_zero_le h2'.1
      rw [Int.toNat_natCast]
      have hQ3 : Q ≤ 3 := by omega
      have hsn : a = none → c = 0 := fun e => by
        obtain ⟨b, off, h⟩ := hx.addr (show 0 < xs.length by omega)
        rw [e] at h; cases h
      go_enter Tryz.func71, Tryz.ntmps71
      go_wp2_with fail
      refine (implValidOutline_c _ _ _ _ hx hl).mono ?_
      rintro e w2 ⟨rfl, hb2⟩
      replace hb := upw hb hb2
      go_wp2_with fail
      refine (within_c _ _ _ _).mono ?_
      rintro e w' ⟨rfl, rfl⟩
      go_wp2_with fail
      refine (cloneSpots_any _ _ _ _ (hx.below hb) (by omega) hsn).mono ?_
      rintro e w3 ⟨v3, rfl, hO3, hb3⟩
      replace hO3 := hO3.base hb.size
      replace hb := upw hb hb3
      obtain ⟨g, cap, rfl⟩ := hO3.row (by omega)
      clear hb3
      go_wp2_with fail
      go_loopw [20] (fun i wr => ∃ p : Nat, p ≤ Q ∧ i = .int .i64 p ∧ Own w.heap.size wr 106 (.slice (some ⟨g, 0, none⟩) xs.length cap) (rotTo p xs) ∧ Below w.heap.size w wr) (fun i _ => Q - (intOf i).toNat)
      case atStart => exact ⟨0, Nat.zero_le _, rfl, hO3, hb⟩
      case round =>
        clear hb hO3
        obtain ⟨p, hp, rfl, hO, hb⟩ := hrel
        by_cases hlt : p < Q
        · obtain ⟨wo, rfl⟩ : ∃ wo : World, wo = wr := ⟨_, rfl⟩
          obtain ⟨ys, hys⟩ : ∃ ys, ys = rotTo p xs := ⟨_, rfl⟩
          have hyl : ys.length = xs.length := by rw [hys, rotTo_length]
          have hny : Hid (∀ x ∈ ys, nearSpot x) := by rw [hys]; exact Lib.hid (hnear.out p)
          have HY := Lib.hid hys
          rw [← hys] at hO
          clear hys
          go_wp2_with fail
          go_loopw [24] (fun i wr => ∃ k : Nat, k ≤ xs.length ∧ i = .int .i64 k ∧ Own w.heap.size wr 106 (.slice (some ⟨g, 0, none⟩) xs.length cap) (over (ys.map rot) ys k) ∧ Below w.heap.size w wr) (fun i _ => xs.length - (intOf i).toNat)
          case atStart => exact ⟨0, Nat.zero_le _, rfl, by rw [over_zero]; exact hO, hb⟩
          case round =>
            clear hb hO
            obtain ⟨k, hk, rfl, hO, hb⟩ := hrel
            have HYL := Lib.hid hyl
            by_cases hlt2 : k < xs.length
            · have hky : k < ys.length := by omega
              have hml : (ys.map rot).length = ys.length := by simp
              have hlk : k < (over (ys.map rot) ys k).length := by rw [over_length _ _ _ hml]; exact hky
              have hc := hO.at'.spot hlk
              rw [over_at _ _ _ hml hky hlk] at hc
              simp only [Nat.zero_add] at hc
              obtain ⟨c0, c1⟩ := hc
              have n1 := hny.out ys[k] (List.getElem_mem hky)
              obtain ⟨⟨n1, n2⟩, n3, n4⟩ := n1
              have HML := Lib.hid hml
              clear hml hyl
              go_wp2_with (refine wpList_store_own rfl 106 (.tmp 37) (.tmp 36) rfl w.heap.size 106 _ _ _ (over (ys.map rot) ys k) k _ (⟨-ys[k].Y, ys[k].X⟩ : Spot) rfl (by simp [Flat.k]) rfl (by kernel_rfl) (by rw [over_length _ _ _ HML.out, HYL.out]) (Own.later (by first | exact hO) ((Below.refl _ _).alloc (Nat.le_refl _) _)) hlk ?_; intro w5 hO5 hg5)
              go_roundw
              case rel => exact ⟨k + 1, by omega, by go_num, by rw [← over_succ _ _ _ HML.out (by rw [HML.out]; exact hky), List.getElem_map]; exact hO5, below_mark (hb.alloc hb.size _) (hO.later ((Below.refl _ _).alloc (Nat.le_refl _) _)) (Nat.le_refl _) hg5⟩
              case measure => simp [intOf]; omega
            · obtain rfl : k = xs.length := by omega
              clear hyl
              go_wp2_with fail
              go_roundw
              case rel => exact ⟨p + 1, by omega, by go_num, by rw [rotTo, ← HY.out, ← over_full (ys.map rot) ys (by simp) (by rw [HYL.out]; exact Nat.le_refl _)]; exact hO, hb⟩
              case measure => simp [intOf]; omega
        · obtain rfl : p = Q := by omega
          go_wp2_with fail
          refine (moved_c _ _ _ _ hO (by rw [rotTo_length]; exact hn) (by rw [rotTo_length]; omega) (near_nth (hnear.out p))).mono ?_
          rintro e w4 ⟨rfl, hO4, hg4⟩
          replace hb := below_mark hb hO (Nat.le_refl _) hg4
          go_wp2_with fail
          go_ret2
          exact ⟨_, rfl, hO4, hb⟩
set_option maxRecDepth 100000 in
set_option maxHeartbeats 1600000 in
theorem specTurnOutline_c (a : Option Addr) (xs : List Spot) (c : Nat) (q : Int) (w : World) (hx : At w a xs) (hl : xs.length ≤ 9223372036854775807) (_hq : -9223372036854775808 ≤ q ∧ q ≤ 9223372036854775807) :
    Calls Tryz.prog 72 #[.slice a xs.length c, .int .i64 q] w fun e w' => ∃ v, e = .returned (.tuple #[v, .int .i64 (turnCode xs q)]) ∧ Own w.heap.size w' 106 v (turnOf xs q) ∧ Below w.heap.size w w' := by
  have hb := Below.refl w.heap.size w
  cases h1 : okOutline xs
  · have hr : turnCode xs q = 1 := by simp [turnCode, h1]
    have hr' : turnOf xs q = [] := by simp [turnOf, h1]
    rw [hr, hr']
    go_enter Tryz.func72, Tryz.ntmps72
    go_wp2_with fail
    refine (l07Ok_c _ _ _ _ hx hl).mono ?_
    rintro e w2 ⟨rfl, hb2⟩
    replace hb := upw hb hb2
    go_wp2_with fail
    go_ret2
    exact ⟨_, rfl, World.ownsRow_nil _ _ _ _, hb⟩
  · cases h2 : inr q 0 3
    · have hr : turnCode xs q = 2 := by simp [turnCode, h1, h2]
      have hr' : turnOf xs q = [] := by simp [turnOf, h1, h2]
      rw [hr, hr']
      go_enter Tryz.func72, Tryz.ntmps72
      go_wp2_with fail
      refine (l07Ok_c _ _ _ _ hx hl).mono ?_
      rintro e w2 ⟨rfl, hb2⟩
      replace hb := upw hb hb2
      go_wp2_with fail
      refine (l00In_c _ _ _ _).mono ?_
      rintro e w' ⟨rfl, rfl⟩
      go_wp2_with fail
      go_ret2
      exact ⟨_, rfl, World.ownsRow_nil _ _ _ _, hb⟩
    · have hr : turnCode xs q = 0 := by simp [turnCode, h1, h2]
      have hr' : turnOf xs q = lay (rotTo q.toNat xs) := by simp [turnOf, h1, h2]
      rw [hr, hr']
      clear hr hr'
      obtain ⟨hn, hn3, hok⟩ := okOutline_is h1
      have hnear := Lib.hid (near_rotTo (okOutline_iff.1 h1).1.2)
      clear hok
      have h2' := inr_true.1 h2
      obtain ⟨Q, rfl⟩ := Int.eq_ofNat_of_zero_le h2'.1
      rw [Int.toNat_natCast]
      have hQ3 : Q ≤ 3 := by omega
      obtain ⟨b, off, rfl⟩ := hx.addr (show 0 < xs.length by omega)
      go_enter Tryz.func72, Tryz.ntmps72
      go_wp2_with fail
      refine (l07Ok_c _ _ _ _ hx hl).mono ?_
      rintro e w2 ⟨rfl, hb2⟩
      replace hb := upw hb hb2
      go_wp2_with fail
      refine (l00In_c _ _ _ _).mono ?_
      rintro e w' ⟨rfl, rfl⟩
      go_wp2_with (at_builtin; refine wpList_pushall rfl (.tmp 15) (.tmp 16) 96 rfl w2.heap.size 106 (.agg #[.int .i64 0, .int .i64 0]) 16 Tryz.underlying96 infoSpot rfl _ [] xs rfl (own_new _ _) _ _ rfl (fun h => by cases h) ((hx.below hb).below ((Below.refl _ _).alloc (Nat.le_refl _) _)) (by simp; omega) (by decide) (by simp) ?_; intro v3 w3 hO3 hg3; simp only [List.nil_append] at hO3; have hb3 : Below w2.heap.size w2 w3 := ((Below.refl _ _).alloc (Nat.le_refl _) _).grown hg3 (by simp) (fun k hk => by have : w2.heap.size = k := Option.some.inj hk; omega); clear hg3; obtain ⟨g, cap, rfl⟩ := hO3.row (by omega))
      replace hO3 := hO3.base hb.size
      replace hb := upw hb hb3
      clear hb3
      go_loopw [7] (fun i wr => ∃ p : Nat, p ≤ Q ∧ i = .int .i64 p ∧ Own w.heap.size wr 106 (.slice (some ⟨g, 0, none⟩) xs.length cap) (rotTo p xs) ∧ Below w.heap.size w wr) (fun i _ => Q - (intOf i).toNat)
      case atStart => exact ⟨0, Nat.zero_le _, rfl, hO3, hb⟩
      case round =>
        clear hb hO3
        obtain ⟨p, hp, rfl, hO, hb⟩ := hrel
        by_cases hlt : p < Q
        · obtain ⟨wo, rfl⟩ : ∃ wo : World, wo = wr := ⟨_, rfl⟩
          obtain ⟨ys, hys⟩ : ∃ ys, ys = rotTo p xs := ⟨_, rfl⟩
          have hyl : ys.length = xs.length := by rw [hys, rotTo_length]
          have hny : Hid (∀ x ∈ ys, nearSpot x) := by rw [hys]; exact Lib.hid (hnear.out p)
          have HY := Lib.hid hys
          rw [← hys] at hO
          clear hys
          go_wp2_with fail
          go_loopw [8] (fun i wr => ∃ k : Nat, k ≤ xs.length ∧ i = .int .i64 k ∧ Own w.heap.size wr 106 (.slice (some ⟨g, 0, none⟩) xs.length cap) (over (ys.map rot) ys k) ∧ Below w.heap.size w wr) (fun i _ => xs.length - (intOf i).toNat)
          case atStart => exact ⟨0, Nat.zero_le _, rfl, by rw [over_zero]; exact hO, hb⟩
          case round =>
            clear hb hO
            obtain ⟨k, hk, rfl, hO, hb⟩ := hrel
            have HYL := Lib.hid hyl
            by_cases hlt2 : k < xs.length
            · have hky : k < ys.length := by omega
              have hml : (ys.map rot).length = ys.length := by simp
              have hlk : k < (over (ys.map rot) ys k).length := by rw [over_length _ _ _ hml]; exact hky
              have hc := hO.at'.spot hlk
              rw [over_at _ _ _ hml hky hlk] at hc
              simp only [Nat.zero_add] at hc
              obtain ⟨c0, c1⟩ := hc
              have n1 := hny.out ys[k] (List.getElem_mem hky)
              obtain ⟨⟨n1, n2⟩, n3, n4⟩ := n1
              have HML := Lib.hid hml
              clear hml hyl
              replace c0 := rg c0
              replace c1 := rg c1
              go_wp2_with fail
              refine wp_region_tail_below 14 (by kernel_rfl) (by kernel_rfl) (by kernel_rfl) (by simp only [List.take_succ_cons, List.take_zero]; rfl) (by simp only [List.drop_succ_cons, List.drop_zero]; rfl) ?_
              repeat (go_big_quiet_step ((fail)))
              refine wpQuiet_nil ?_
              intro w2 hw'
              replace hb := upw hb (grown_of hw')
              have hw2 := grown_of hw'
              clear hw'
              go_wp2_with (refine wpList_store_own rfl 106 (.tmp 43) (.tmp 42) rfl w.heap.size 106 _ _ _ (over (ys.map rot) ys k) k _ (⟨-ys[k].Y, ys[k].X⟩ : Spot) rfl (by simp [Flat.k]) rfl (by kernel_rfl) (by rw [over_length _ _ _ HML.out, HYL.out]) (hO.later hw2) hlk ?_; intro w5 hO5 hg5)
              go_roundw
              case rel => exact ⟨k + 1, by omega, by go_num, by rw [← over_succ _ _ _ HML.out (by rw [HML.out]; exact hky), List.getElem_map]; exact hO5, below_mark hb (hO.later hw2) (Nat.le_refl _) hg5⟩
              case measure => simp [intOf]; omega
            · obtain rfl : k = xs.length := by omega
              clear hyl
              go_wp2_with fail
              go_roundw
              case rel => exact ⟨p + 1, by omega, by go_num, by rw [rotTo, ← HY.out, ← over_full (ys.map rot) ys (by simp) (by rw [HYL.out]; exact Nat.le_refl _)]; exact hO, hb⟩
              case measure => simp [intOf]; omega
        · obtain rfl : p = Q := by omega
          have hA := hO.at_n
          have hpl := Lib.hid (rotTo_length xs p)
          have hA2 : At wr (some ⟨g, 0, none⟩) (rotTo p xs) := hA
          have hcon := fun w' (h : At w' (some ⟨g, 0, none⟩) (rotTo p xs)) => l07Lay_c (some ⟨g, 0, none⟩) (rotTo p xs) cap w' h (by rw [hpl.out]; exact hn) (by rw [hpl.out]; omega) (near_nth (hnear.out p))
          rw [hpl.out] at hcon
          have HC := Lib.hid hcon
          clear hcon
          go_wp2_with fail
          refine (HC.out _ hA2).mono ?_
          rintro e w4 ⟨v4, rfl, hO4, hb4⟩
          have hbs := hb.size
          go_wp2_with fail
          go_ret2
          exact ⟨_, rfl, hO4.base hbs, upw hb hb4⟩
end Go.Proofs.YtledlkggggpdpaaGreatDoor
