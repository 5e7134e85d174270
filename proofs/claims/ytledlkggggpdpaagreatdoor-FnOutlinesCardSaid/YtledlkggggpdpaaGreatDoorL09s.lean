/- Chapter 9, cut lengths and allowances: the contracts of the program's functions and of the reference's. -/
import Derived.Test.YtledlkggggpdpaaGreatDoorL09m
namespace Go.Proofs.YtledlkggggpdpaaGreatDoor
open Go.RowKit

/-- The length of an edge with its allowance. -/
def cutLen (x : Strip) : Int := if x.Allow = 0 then x.Length else x.Length + x.Left + x.Right
theorem okStrip_iff {x : Strip} : okStrip x = true ↔ (1 ≤ x.Length ∧ x.Length ≤ 5000) ∧ (0 ≤ x.Allow ∧ x.Allow ≤ 200) ∧ (0 ≤ x.Left ∧ x.Left ≤ 200) ∧ (0 ≤ x.Right ∧ x.Right ≤ 200) := by
  simp [okStrip, inr, and_assoc]
theorem cutLen_in {x : Strip} (h : okStrip x = true) : 1 ≤ cutLen x ∧ cutLen x ≤ 5400 := by
  have := okStrip_iff.1 h
  unfold cutLen; split <;> omega
theorem cut_c (x : Strip) (w : World) (h : okStrip x = true) : Calls Tryz.prog 118 #[.agg #[.int .i64 x.Length, .int .i64 x.Allow, .int .i64 x.Left, .int .i64 x.Right]] w fun e w' => e = .returned (.int .i64 (cutLen x)) ∧ Below w.heap.size w w' := by
  have h := okStrip_iff.1 h
  by_cases h0 : x.Allow = 0
  · have hr : cutLen x = x.Length := by simp [cutLen, h0]
    have hd : (x.Allow == 0) = true := by simp [h0]
    rw [hr]
    clear h0
    go_enter Tryz.func118, Tryz.ntmps118
    go_wp2
    go_ret
    exact ⟨rfl, (Below.refl _ _).alloc (by simp) _⟩
  · have hr : cutLen x = x.Length + x.Left + x.Right := by simp [cutLen, h0]
    have hd : (x.Allow == 0) = false := by simp [h0]
    rw [hr]
    clear h0
    go_enter Tryz.func118, Tryz.ntmps118
    go_wp2
    go_ret
    exact ⟨rfl, (Below.refl _ _).alloc (by simp) _⟩
theorem l09Cut_c (x : Strip) (b off : Nat) (w : World) (h : okStrip x = true) (c0 : w.cell? ⟨b, off, none⟩ = some (.int .i64 x.Length)) (c1 : w.cell? ⟨b, off + 1, none⟩ = some (.int .i64 x.Allow)) (c2 : w.cell? ⟨b, off + 2, none⟩ = some (.int .i64 x.Left)) (c3 : w.cell? ⟨b, off + 3, none⟩ = some (.int .i64 x.Right)) :
    Calls Tryz.prog 119 #[.pointer (some ⟨b, off, none⟩)] w fun e w' => e = .returned (.int .i64 (cutLen x)) ∧ Below w.heap.size w w' := by
  have hb := Below.refl w.heap.size w
  have h := okStrip_iff.1 h
  by_cases h0 : x.Allow = 0
  · have hr : cutLen x = x.Length := by simp [cutLen, h0]
    have hd : (x.Allow == 0) = true := by simp [h0]
    rw [hr]
    clear h0
    go_enter Tryz.func119, Tryz.ntmps119
    go_wp2
    go_ret
    exact ⟨rfl, hb⟩
  · have hr : cutLen x = x.Length + x.Left + x.Right := by simp [cutLen, h0]
    have hd : (x.Allow == 0) = false := by simp [h0]
    rw [hr]
    clear h0
    have r0 := rg c0
    have r2 := rg c2
    have r3 := rg c3
    go_enter Tryz.func119, Tryz.ntmps119
    go_wp2
    refine wp_region_quiet_below (by kernel_rfl) (by kernel_rfl) ?_
    repeat (go_big_quiet_step (fail))
    refine wpQuiet_nil ?_
    intro w2 hw'
    replace hb := upw hb (grown_of hw')
    clear hw'
    go_wp2
    go_ret
    exact ⟨rfl, hb⟩
/-- The cut lengths of edges. -/
def cuts (xs : List Strip) : List Int := if okStrips xs then xs.map cutLen else []
def cutsCode (xs : List Strip) : Int := if okStrips xs then 0 else 1
theorem CutLengths_len (xs : List Strip) : (cuts xs).length ≤ 12 := by
  unfold cuts
  split
  · rename_i h
    have := (okStrips_iff.1 h).1
    simp; omega
  · simp
set_option maxHeartbeats 1000000 in
theorem implCutLengths_c (a : Option Addr) (xs : List Strip) (c : Nat) (w : World) (hx : At w a xs) (hl : xs.length ≤ 9223372036854775807) :
    Calls Tryz.prog 23 #[.slice a xs.length c] w fun e w' => ∃ v, e = .returned (.tuple #[v, .int .i64 (cutsCode xs)]) ∧ Own w.heap.size w' 2 v (cuts xs) ∧ Below w.heap.size w w' := by
  have hb := Below.refl w.heap.size w
  cases h1 : okStrips xs
  · have hr : cutsCode xs = 1 := by simp [cutsCode, h1]
    have hr' : cuts xs = [] := by simp [cuts, h1]
    rw [hr, hr']
    go_enter Tryz.func23, Tryz.ntmps23
    go_wp2_with fail
    refine (implValidStrips_c _ _ _ _ hx hl).mono ?_
    rintro e w2 ⟨rfl, hb2⟩
    replace hb := upw hb hb2
    go_wp2_with fail
    go_ret2
    exact ⟨_, rfl, World.ownsRow_nil _ _ _ _, hb⟩
  · have hr : cutsCode xs = 0 := by simp [cutsCode, h1]
    have hr' : cuts xs = xs.map cutLen := by simp [cuts, h1]
    rw [hr, hr']
    obtain ⟨h2, h3⟩ := okStrips_iff.1 h1
    have H3 := Lib.hid h3
    clear h3
    go_enter Tryz.func23, Tryz.ntmps23
    go_wp2_with fail
    refine (implValidStrips_c _ _ _ _ hx hl).mono ?_
    rintro e w2 ⟨rfl, hb2⟩
    replace hb := upw hb hb2
    go_wp2_with fail
    go_loopw [4, 6, 13] (fun v _ i wr => ∃ k : Nat, k ≤ xs.length ∧ i = .int .i64 k ∧ Own w.heap.size wr 2 v ((xs.take k).map cutLen) ∧ Below w.heap.size w wr) (fun _ _ i _ => xs.length - (intOf i).toNat)
    case atStart => exact ⟨0, Nat.zero_le _, rfl, (own_new _ _).base hb.size, hb.alloc hb.size _⟩
    case round =>
      obtain ⟨k, hk, rfl, hO, hb⟩ := hrel
      by_cases hlt : k < xs.length
      · replace hx := hx.below hb
        obtain ⟨b, off, rfl⟩ := hx.addr hlt
        obtain ⟨c0, c1, c2, c3⟩ := hx.strip hlt
        go_wp2_with fail
        refine (cut_c xs[k] _ (H3.out _ (List.getElem_mem hlt))).mono ?_
        rintro e w2 ⟨rfl, hb2⟩
        replace hb := upw (hb.alloc hb.size _) hb2
        replace hO := (hO.later ((Below.refl _ _).alloc (Nat.le_refl _) _)).later hb2
        go_wp2_with (at_builtin; refine wpList_push rfl (.tmp 17) (.tmp 20) 47 rfl w.heap.size 2 (.int .i64 0) 8 Tryz.underlying47 infoInt rfl _ _ (cutLen xs[k]) rfl (hO.later ((Below.refl _ _).alloc (Nat.le_refl _) _)) _ _ rfl 2 (heap_alloc_new _ _) (by simp; omega) (by decide) (by have := hb.size; simp; omega) ?_; intro v1 w1 hO1 hg1)
        go_roundw
        case rel => exact ⟨k + 1, by omega, by go_num, by rw [← map_take_succ _ _ _ hlt]; exact hO1, below_mark (hb.alloc hb.size _) (hO.later ((Below.refl _ _).alloc (Nat.le_refl _) _)) (Nat.le_refl _) hg1⟩
        case measure => simp [intOf]; omega
      · go_wp2_with fail
        go_ret2
        rw [List.take_of_length_le (by omega)] at hO
        exact ⟨_, rfl, hO, hb⟩
set_option maxHeartbeats 1000000 in
theorem specCutLengths_c (a : Option Addr) (xs : List Strip) (c : Nat) (w : World) (hx : At w a xs) (hl : xs.length ≤ 9223372036854775807) :
    Calls Tryz.prog 24 #[.slice a xs.length c] w fun e w' => ∃ v, e = .returned (.tuple #[v, .int .i64 (cutsCode xs)]) ∧ Own w.heap.size w' 2 v (cuts xs) ∧ Below w.heap.size w w' := by
  have hb := Below.refl w.heap.size w
  cases h1 : okStrips xs
  · have hr : cutsCode xs = 1 := by simp [cutsCode, h1]
    have hr' : cuts xs = [] := by simp [cuts, h1]
    rw [hr, hr']
    go_enter Tryz.func24, Tryz.ntmps24
    go_wp2_with fail
    refine (l09Ok_c _ _ _ _ hx hl).mono ?_
    rintro e w' ⟨rfl, rfl⟩
    go_wp2_with fail
    go_ret2
    exact ⟨_, rfl, World.ownsRow_nil _ _ _ _, hb⟩
  · have hr : cutsCode xs = 0 := by simp [cutsCode, h1]
    have hr' : cuts xs = xs.map cutLen := by simp [cuts, h1]
    rw [hr, hr']
    obtain ⟨h2, h3⟩ := okStrips_iff.1 h1
    have H3 := Lib.hid h3
    clear h3
    go_enter Tryz.func24, Tryz.ntmps24
    go_wp2_with fail
    refine (l09Ok_c _ _ _ _ hx hl).mono ?_
    rintro e w' ⟨rfl, rfl⟩
    go_wp2_with fail
    go_loopw [4, 5] (fun v i wr => ∃ k : Nat, k ≤ xs.length ∧ i = .int .i64 k ∧ Own w.heap.size wr 2 v ((xs.take k).map cutLen) ∧ Below w.heap.size w wr) (fun _ i _ => xs.length - (intOf i).toNat)
    case atStart => exact ⟨0, Nat.zero_le _, rfl, (own_new _ _).base hb.size, hb.alloc hb.size _⟩
    case round =>
      obtain ⟨k, hk, rfl, hO, hb⟩ := hrel
      by_cases hlt : k < xs.length
      · replace hx := hx.below hb
        obtain ⟨b, off, rfl⟩ := hx.addr hlt
        obtain ⟨c0, c1, c2, c3⟩ := hx.strip hlt
        go_wp2_with fail
        refine (l09Cut_c xs[k] b _ _ (H3.out _ (List.getElem_mem hlt)) c0 c1 c2 c3).mono ?_
        rintro e w2 ⟨rfl, hb2⟩
        replace hb := upw hb hb2
        replace hO := hO.later hb2
        go_wp2_with (at_builtin; refine wpList_push rfl (.tmp 16) (.tmp 21) 47 rfl w.heap.size 2 (.int .i64 0) 8 Tryz.underlying47 infoInt rfl _ _ (cutLen xs[k]) rfl (hO.later ((Below.refl _ _).alloc (Nat.le_refl _) _)) _ _ rfl 2 (heap_alloc_new _ _) (by simp; omega) (by decide) (by have := hb.size; simp; omega) ?_; intro v1 w1 hO1 hg1)
        go_roundw
        case rel => exact ⟨k + 1, by omega, by go_num, by rw [← map_take_succ _ _ _ hlt]; exact hO1, below_mark (hb.alloc hb.size _) (hO.later ((Below.refl _ _).alloc (Nat.le_refl _) _)) (Nat.le_refl _) hg1⟩
        case measure => simp [intOf]; omega
      · go_wp2_with fail
        go_ret2
        rw [List.take_of_length_le (by omega)] at hO
        exact ⟨_, rfl, hO, hb⟩
theorem sum_map_succ {α : Type} (f : α → Int) (xs : List α) (k : Nat) (h : k < xs.length) : sumI ((xs.map f).take k) + f xs[k] = sumI ((xs.map f).take (k + 1)) := by
  rw [sumI_take (xs.map f) k (by simpa using h), List.getElem_map]
theorem sum_map_in {α : Type} (f : α → Int) (M : Int) (xs : List α) (h : ∀ x ∈ xs, 0 ≤ f x ∧ f x ≤ M) : ∀ k, k ≤ xs.length → 0 ≤ sumI ((xs.map f).take k) ∧ sumI ((xs.map f).take k) ≤ M * k
  | 0, _ => by simp [sumI_nil]
  | k + 1, hk => by
    have ih := sum_map_in f M xs h k (by omega)
    have h1 := h _ (List.getElem_mem (show k < xs.length by omega))
    rw [← sum_map_succ f xs k (by omega)]
    have : M * ((k + 1 : Nat) : Int) = M * k + M := by rw [Int.natCast_add, Int.mul_add]; omega
    omega
/-- The area of an edge's allowance. -/
def allowOne (x : Strip) : Int := x.Allow * (x.Length + cutLen x)
theorem allowOne_in {x : Strip} (h : okStrip x = true) : 0 ≤ allowOne x ∧ allowOne x ≤ 2080000 := by
  have h1 := okStrip_iff.1 h
  have h2 := cutLen_in h
  have := mul_in (a := x.Allow) (b := x.Length + cutLen x) (A := 200) (B := 10400) (by omega) (by omega) (by omega) (by omega)
  unfold allowOne; omega
def areaRes (xs : List Strip) : Int × Int := if okStrips xs then (sumI (xs.map allowOne), 0) else (0, 1)
set_option maxHeartbeats 1000000 in
theorem implAllowArea_c (a : Option Addr) (xs : List Strip) (c : Nat) (w : World) (hx : At w a xs) (hl : xs.length ≤ 9223372036854775807) :
    Calls Tryz.prog 27 #[.slice a xs.length c] w fun e w' => e = .returned (.tuple #[.int .i64 (areaRes xs).1, .int .i64 (areaRes xs).2]) ∧ Below w.heap.size w w' := by
  have hb := Below.refl w.heap.size w
  cases h1 : okStrips xs
  · have hr : areaRes xs = (0, 1) := by simp [areaRes, h1]
    rw [hr]
    go_enter Tryz.func27, Tryz.ntmps27
    go_wp2_with fail
    refine (implValidStrips_c _ _ _ _ hx hl).mono ?_
    rintro e w2 ⟨rfl, hb2⟩
    replace hb := upw hb hb2
    go_wp2_with fail
    go_ret2
    exact ⟨rfl, hb⟩
  · have hr : areaRes xs = (sumI (xs.map allowOne), 0) := by simp [areaRes, h1]
    rw [hr]
    obtain ⟨h2, h3⟩ := okStrips_iff.1 h1
    have H4 := Lib.hid (sum_map_in allowOne 2080000 xs (fun x hx => allowOne_in (h3 x hx)))
    have H3 := Lib.hid h3
    clear h3
    go_enter Tryz.func27, Tryz.ntmps27
    go_wp2_with fail
    refine (implValidStrips_c _ _ _ _ hx hl).mono ?_
    rintro e w2 ⟨rfl, hb2⟩
    replace hb := upw hb hb2
    go_wp2_with fail
    go_loopw [4, 6, 12] (fun s _ i wr => ∃ k : Nat, k ≤ xs.length ∧ i = .int .i64 k ∧ s = .int .i64 (sumI ((xs.map allowOne).take k)) ∧ Below w.heap.size w wr) (fun _ _ i _ => xs.length - (intOf i).toNat)
    case atStart => exact ⟨0, Nat.zero_le _, rfl, rfl, hb⟩
    case round =>
      obtain ⟨k, hk, rfl, rfl, hb⟩ := hrel
      by_cases hlt : k < xs.length
      · replace hx := hx.below hb
        obtain ⟨b, off, rfl⟩ := hx.addr hlt
        obtain ⟨c0, c1, c2, c3⟩ := hx.strip hlt
        obtain ⟨d0, d1, d2, d3⟩ := newStrip_cells wr 54 xs[k]
        replace d0 := rg d0
        replace d1 := rg d1
        replace d2 := rg d2
        replace d3 := rg d3
        have hq := H3.out _ (List.getElem_mem hlt)
        have q1 := okStrip_iff.1 hq
        have q2 := cutLen_in hq
        have q3 := allowOne_in hq
        have q4 := H4.out k hk
        have q5 : 0 ≤ xs[k].Allow * (xs[k].Length + cutLen xs[k]) ∧ xs[k].Allow * (xs[k].Length + cutLen xs[k]) ≤ 2080000 := q3
        go_wp2_with fail
        refine wp_region_quiet_below (by kernel_rfl) (by kernel_rfl) ?_
        repeat (go_big_quiet_step ((go_at_call 118; exact Calls.regrown_of (cut_c xs[k] _ hq))))
        refine wpQuiet_nil ?_
        intro w2 hw'
        replace hb := upw (hb.alloc hb.size _) (grown_of hw')
        clear hw'
        go_wp2_with fail
        go_roundw
        case rel => exact ⟨k + 1, by omega, by go_num, by rw [← sum_map_succ _ _ _ hlt]; rfl, hb⟩
        case measure => simp [intOf]; omega
      · go_wp2_with fail
        go_ret2
        exact ⟨ret2_int (by rw [List.take_of_length_le (by simp; omega)]) rfl, hb⟩
set_option maxHeartbeats 1000000 in
theorem specAllowArea_c (a : Option Addr) (xs : List Strip) (c : Nat) (w : World) (hx : At w a xs) (hl : xs.length ≤ 9223372036854775807) :
    Calls Tryz.prog 28 #[.slice a xs.length c] w fun e w' => e = .returned (.tuple #[.int .i64 (areaRes xs).1, .int .i64 (areaRes xs).2]) ∧ Below w.heap.size w w' := by
  have hb := Below.refl w.heap.size w
  cases h1 : okStrips xs
  · have hr : areaRes xs = (0, 1) := by simp [areaRes, h1]
    rw [hr]
    go_enter Tryz.func28, Tryz.ntmps28
    go_wp2_with fail
    refine (l09Ok_c _ _ _ _ hx hl).mono ?_
    rintro e w' ⟨rfl, rfl⟩
    go_wp2_with fail
    go_ret2
    exact ⟨rfl, hb⟩
  · have hr : areaRes xs = (sumI (xs.map allowOne), 0) := by simp [areaRes, h1]
    rw [hr]
    obtain ⟨h2, h3⟩ := okStrips_iff.1 h1
    have H4 := Lib.hid (sum_map_in allowOne 2080000 xs (fun x hx => allowOne_in (h3 x hx)))
    have H3 := Lib.hid h3
    clear h3
    go_enter Tryz.func28, Tryz.ntmps28
    go_wp2_with fail
    refine (l09Ok_c _ _ _ _ hx hl).mono ?_
    rintro e w' ⟨rfl, rfl⟩
    go_wp2_with fail
    go_loopw [4, 5] (fun s i wr => ∃ k : Nat, k ≤ xs.length ∧ i = .int .i64 k ∧ s = .int .i64 (sumI ((xs.map allowOne).take k)) ∧ Below w.heap.size w wr) (fun _ i _ => xs.length - (intOf i).toNat)
    case atStart => exact ⟨0, Nat.zero_le _, rfl, rfl, hb⟩
    case round =>
      obtain ⟨k, hk, rfl, rfl, hb⟩ := hrel
      by_cases hlt : k < xs.length
      · replace hx := hx.below hb
        obtain ⟨b, off, rfl⟩ := hx.addr hlt
        obtain ⟨c0, c1, c2, c3⟩ := hx.strip hlt
        replace c0 := rg c0
        replace c1 := rg c1
        replace c2 := rg c2
        replace c3 := rg c3
        have hq := H3.out _ (List.getElem_mem hlt)
        have q1 := okStrip_iff.1 hq
        have q2 := cutLen_in hq
        have q3 := allowOne_in hq
        have q4 := H4.out k hk
        have q5 : 0 ≤ xs[k].Allow * (xs[k].Length + cutLen xs[k]) ∧ xs[k].Allow * (xs[k].Length + cutLen xs[k]) ≤ 2080000 := q3
        go_wp2_with fail
        refine wp_region_quiet_below (by kernel_rfl) (by kernel_rfl) ?_
        repeat (go_big_quiet_step ((go_at_call 119; exact Calls.regrown_of (l09Cut_c xs[k] b _ _ hq (c0 _) (c1 _) (c2 _) (c3 _)))))
        refine wpQuiet_nil ?_
        intro w2 hw'
        replace hb := upw hb (grown_of hw')
        clear hw'
        go_wp2_with fail
        go_roundw
        case rel => exact ⟨k + 1, by omega, by go_num, by rw [← sum_map_succ _ _ _ hlt]; rfl, hb⟩
        case measure => simp [intOf]; omega
      · go_wp2_with fail
        go_ret2
        exact ⟨ret2_int (by rw [List.take_of_length_le (by simp; omega)]) rfl, hb⟩
def roundRes (xs : List Strip) : Int × Int × Int := if okStrips xs then (sumI (xs.map Strip.Length), sumI (xs.map cutLen), 0) else (0, 0, 1)
set_option maxHeartbeats 1000000 in
theorem implRoundStrips_c (a : Option Addr) (xs : List Strip) (c : Nat) (w : World) (hx : At w a xs) (hl : xs.length ≤ 9223372036854775807) :
    Calls Tryz.prog 25 #[.slice a xs.length c] w fun e w' => e = .returned (.tuple #[.int .i64 (roundRes xs).1, .int .i64 (roundRes xs).2.1, .int .i64 (roundRes xs).2.2]) ∧ Below w.heap.size w w' := by
  have hb := Below.refl w.heap.size w
  cases h1 : okStrips xs
  · have hr : roundRes xs = (0, 0, 1) := by simp [roundRes, h1]
    rw [hr]
    go_enter Tryz.func25, Tryz.ntmps25
    go_wp2_with fail
    refine (implValidStrips_c _ _ _ _ hx hl).mono ?_
    rintro e w2 ⟨rfl, hb2⟩
    replace hb := upw hb hb2
    go_wp2_with fail
    go_ret3
    exact ⟨rfl, hb⟩
  · have hr : roundRes xs = (sumI (xs.map Strip.Length), sumI (xs.map cutLen), 0) := by simp [roundRes, h1]
    rw [hr]
    obtain ⟨h2, h3⟩ := okStrips_iff.1 h1
    have H4 := Lib.hid (sum_map_in cutLen 5400 xs (fun x hx => by have := cutLen_in (h3 x hx); omega))
    have H5 := Lib.hid (sum_map_in Strip.Length 5400 xs (fun x hx => by have := okStrip_iff.1 (h3 x hx); omega))
    have H3 := Lib.hid h3
    clear h3
    go_enter Tryz.func25, Tryz.ntmps25
    go_wp2_with fail
    refine (implValidStrips_c _ _ _ _ hx hl).mono ?_
    rintro e w2 ⟨rfl, hb2⟩
    replace hb := upw hb hb2
    go_wp2_with fail
    go_loopw [5, 6, 8, 14] (fun s t _ i wr => ∃ k : Nat, k ≤ xs.length ∧ i = .int .i64 k ∧ s = .int .i64 (sumI ((xs.map Strip.Length).take k)) ∧ t = .int .i64 (sumI ((xs.map cutLen).take k)) ∧ Below w.heap.size w wr) (fun _ _ _ i _ => xs.length - (intOf i).toNat)
    case atStart => exact ⟨0, Nat.zero_le _, rfl, rfl, rfl, hb⟩
    case round =>
      obtain ⟨k, hk, rfl, rfl, rfl, hb⟩ := hrel
      by_cases hlt : k < xs.length
      · replace hx := hx.below hb
        obtain ⟨b, off, rfl⟩ := hx.addr hlt
        obtain ⟨c0, c1, c2, c3⟩ := hx.strip hlt
        obtain ⟨d0, d1, d2, d3⟩ := newStrip_cells wr 54 xs[k]
        replace d0 := rg d0
        replace d1 := rg d1
        replace d2 := rg d2
        replace d3 := rg d3
        have hq := H3.out _ (List.getElem_mem hlt)
        have q1 := okStrip_iff.1 hq
        have q2 := cutLen_in hq
        have q4 := H4.out k hk
        have q5 := H5.out k hk
        go_wp2_with fail
        refine wp_region_quiet_below (by kernel_rfl) (by kernel_rfl) ?_
        repeat (go_big_quiet_step ((go_at_call 118; exact Calls.regrown_of (cut_c xs[k] _ hq))))
        refine wpQuiet_nil ?_
        intro w2 hw'
        replace hb := upw (hb.alloc hb.size _) (grown_of hw')
        clear hw'
        go_wp2_with fail
        go_roundw
        case rel => exact ⟨k + 1, by omega, by go_num, by rw [← sum_map_succ _ _ _ hlt], by rw [← sum_map_succ _ _ _ hlt], hb⟩
        case measure => simp [intOf]; omega
      · go_wp2_with fail
        go_ret3
        rw [List.take_of_length_le (by simp; omega), List.take_of_length_le (by simp; omega)]
        exact ⟨rfl, hb⟩
set_option maxHeartbeats 1000000 in
theorem specRoundStrips_c (a : Option Addr) (xs : List Strip) (c : Nat) (w : World) (hx : At w a xs) (hl : xs.length ≤ 9223372036854775807) :
    Calls Tryz.prog 26 #[.slice a xs.length c] w fun e w' => e = .returned (.tuple #[.int .i64 (roundRes xs).1, .int .i64 (roundRes xs).2.1, .int .i64 (roundRes xs).2.2]) ∧ Below w.heap.size w w' := by
  have hb := Below.refl w.heap.size w
  cases h1 : okStrips xs
  · have hr : roundRes xs = (0, 0, 1) := by simp [roundRes, h1]
    rw [hr]
    go_enter Tryz.func26, Tryz.ntmps26
    go_wp2_with fail
    refine (l09Ok_c _ _ _ _ hx hl).mono ?_
    rintro e w' ⟨rfl, rfl⟩
    go_wp2_with fail
    go_ret3
    exact ⟨rfl, hb⟩
  · have hr : roundRes xs = (sumI (xs.map Strip.Length), sumI (xs.map cutLen), 0) := by simp [roundRes, h1]
    rw [hr]
    obtain ⟨h2, h3⟩ := okStrips_iff.1 h1
    have H4 := Lib.hid (sum_map_in cutLen 5400 xs (fun x hx => by have := cutLen_in (h3 x hx); omega))
    have H5 := Lib.hid (sum_map_in Strip.Length 5400 xs (fun x hx => by have := okStrip_iff.1 (h3 x hx); omega))
    have H3 := Lib.hid h3
    clear h3
    go_enter Tryz.func26, Tryz.ntmps26
    go_wp2_with fail
    refine (l09Ok_c _ _ _ _ hx hl).mono ?_
    rintro e w' ⟨rfl, rfl⟩
    go_wp2_with fail
    go_loopw [5, 6, 7] (fun s t i wr => ∃ k : Nat, k ≤ xs.length ∧ i = .int .i64 k ∧ s = .int .i64 (sumI ((xs.map Strip.Length).take k)) ∧ t = .int .i64 (sumI ((xs.map cutLen).take k)) ∧ Below w.heap.size w wr) (fun _ _ i _ => xs.length - (intOf i).toNat)
    case atStart => exact ⟨0, Nat.zero_le _, rfl, rfl, rfl, hb⟩
    case round =>
      obtain ⟨k, hk, rfl, rfl, rfl, hb⟩ := hrel
      by_cases hlt : k < xs.length
      · replace hx := hx.below hb
        obtain ⟨b, off, rfl⟩ := hx.addr hlt
        obtain ⟨c0, c1, c2, c3⟩ := hx.strip hlt
        have hq := H3.out _ (List.getElem_mem hlt)
        have q1 := okStrip_iff.1 hq
        have q2 := cutLen_in hq
        have q4 := H4.out k hk
        have q5 := H5.out k hk
        go_wp2_with fail
        refine (l09Cut_c xs[k] b _ _ hq c0 c1 c2 c3).mono ?_
        rintro e w2 ⟨rfl, hb2⟩
        replace hb := upw hb hb2
        go_wp2_with fail
        go_roundw
        case rel => exact ⟨k + 1, by omega, by go_num, by rw [← sum_map_succ _ _ _ hlt], by rw [← sum_map_succ _ _ _ hlt], hb⟩
        case measure => simp [intOf]; omega
      · go_wp2_with fail
        go_ret3
        rw [List.take_of_length_le (by simp; omega), List.take_of_length_le (by simp; omega)]
        exact ⟨rfl, hb⟩
end Go.Proofs.YtledlkggggpdpaaGreatDoor
