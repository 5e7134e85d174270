/- Chapter 9: an edge read back from its text. -/
import Derived.Test.YtledlkggggpdpaaGreatDoorReadU
import Derived.Test.YtledlkggggpdpaaGreatDoorStripT
import Derived.Laws.ResultCell
import Derived.Deep.RegionHeld3
namespace Go.Proofs.YtledlkggggpdpaaGreatDoor
open Go.RowKit

/-- The edge with a text. -/
noncomputable def readStrip (s : ByteArray) : Option Strip := unread fun x => okStrip x = true ∧ stripTxt x = s
/-- The text ahead of its last byte. -/
def stripBody (x : Strip) : ByteArray := numsT ⟨#[43]⟩ [x.Length, x.Allow] ++ ⟨#[40]⟩ ++ numsT ⟨#[44]⟩ [x.Left, x.Right]
theorem stripTxt_body (x : Strip) : stripTxt x = stripBody x ++ ⟨#[41]⟩ := by
  unfold stripTxt stripBody
  rw [numsT_two 43]
theorem stripBody_parts (x : Strip) : parts 40 (stripBody x) = [numsT ⟨#[43]⟩ [x.Length, x.Allow], numsT ⟨#[44]⟩ [x.Left, x.Right]] :=
  parts_pair (numsT_free isSep_paren (by decide) _) (numsT_free isSep_paren (by decide) _)
theorem strip_uniq {x y : Strip} (h : stripTxt x = stripTxt y) : x = y := by
  have h1 : stripBody x = stripBody y := by
    apply Go.WideShapes.bytes_inj
    have h2 := congrArg (fun b : ByteArray => b.data.toList) h
    rw [stripTxt_body, stripTxt_body] at h2
    simpa using h2
  have h2 := congrArg (parts 40) h1
  rw [stripBody_parts, stripBody_parts] at h2
  have h3 := congrArg (parts 43) (List.cons.inj h2).1
  have h4 := congrArg (parts 44) (List.cons.inj (List.cons.inj h2).2).1
  rw [parts_nums isSep_plus _ (by simp), parts_nums isSep_plus _ (by simp)] at h3
  rw [parts_nums isSep_comma _ (by simp), parts_nums isSep_comma _ (by simp)] at h4
  have inj : ∀ a b : Int, decT a = decT b → a = b := fun a b e => itoa_inj (by rw [← decT_list, ← decT_list, e])
  simp only [List.map_cons, List.map_nil, List.cons.injEq, and_true] at h3 h4
  cases x; cases y
  simp only [Strip.mk.injEq] at *
  exact ⟨inj _ _ h3.1, inj _ _ h3.2, inj _ _ h4.1, inj _ _ h4.2⟩
theorem readStrip_some {s : ByteArray} {x : Strip} (h : okStrip x = true) (e : stripTxt x = s) : readStrip s = some x :=
  unread_some (fun x y hx hy => strip_uniq (hx.2.trans hy.2.symm)) ⟨h, e⟩
theorem readStrip_none {s : ByteArray} (h : ∀ x, okStrip x = true → stripTxt x = s → False) : readStrip s = none := unread_none fun x hx => h x hx.1 hx.2
/-- An edge and whether there is one. -/
def stripRes (o : Option Strip) : Ending := .returned (.tuple #[.agg #[.int .i64 (o.getD ⟨0, 0, 0, 0⟩).Length, .int .i64 (o.getD ⟨0, 0, 0, 0⟩).Allow, .int .i64 (o.getD ⟨0, 0, 0, 0⟩).Left, .int .i64 (o.getD ⟨0, 0, 0, 0⟩).Right], .bool o.isSome])
theorem stripRes_none {o : Option Strip} (h : o = none) : stripRes o = .returned (.tuple #[.agg #[.int .i64 0, .int .i64 0, .int .i64 0, .int .i64 0], .bool false]) := by rw [h]; rfl
theorem stripRes_some {o : Option Strip} {x : Strip} (h : o = some x) : stripRes o = .returned (.tuple #[.agg #[.int .i64 x.Length, .int .i64 x.Allow, .int .i64 x.Left, .int .i64 x.Right], .bool true]) := by rw [h]; rfl
theorem strip_small {x : Strip} (h : okStrip x = true) : ∀ n ∈ [x.Length, x.Allow, x.Left, x.Right], -1000000000000000000 < n ∧ n < 1000000000000000000 := by
  obtain ⟨l0, l1, a0, a1, f0, f1, r0, r1⟩ := okStrip_in h
  intro n hn
  simp at hn
  rcases hn with rfl | rfl | rfl | rfl <;> omega
/-- What the reference finds in a text. -/
theorem strip_spec {s : ByteArray} {x : Strip} (h : okStrip x = true) (e : stripTxt x = s) : 1 ≤ s.size ∧ byteAt s (s.size - 1) = 41 ∧ s.extract 0 (s.size - 1) = stripBody x := by
  subst e
  rw [stripTxt_body]
  have hz : (stripBody x ++ ⟨#[41]⟩ : ByteArray).size = (stripBody x).size + 1 := by rw [ByteArray.size_append]; rfl
  refine ⟨by omega, ?_, ?_⟩
  · unfold byteAt
    rw [hz]
    simp
  · apply Go.WideShapes.bytes_inj
    rw [ext_list, hz]
    simp
theorem cut_fst {T : ByteArray} {p q : ByteArray} {d : UInt8} (hp : d ∉ p.data.toList) (e : T = p ++ ⟨#[d]⟩ ++ q) : Lib.cut T.data.toList [d] = (p.data.toList, q.data.toList, true) := by
  rw [e, show (p ++ ⟨#[d]⟩ ++ q).data.toList = p.data.toList ++ d :: q.data.toList by simp, cut_first _ hp]
/-- What the program finds in a text. -/
def headOf (s : ByteArray) : ByteArray := ⟨(Lib.cut (Lib.trimSuffix s.data.toList [41]) [40]).1.toArray⟩
def restOf (s : ByteArray) : ByteArray := ⟨(Lib.cut (Lib.trimSuffix s.data.toList [41]) [40]).2.1.toArray⟩
theorem trim_hit {p : ByteArray} {d : UInt8} : Lib.trimSuffix (p ++ ⟨#[d]⟩ : ByteArray).data.toList [d] = p.data.toList := by
  unfold Lib.trimSuffix Lib.hasSuffix
  simp
theorem strip_impl {s : ByteArray} {x : Strip} (e : stripTxt x = s) : headOf s = numsT ⟨#[43]⟩ [x.Length, x.Allow] ∧ restOf s = numsT ⟨#[44]⟩ [x.Left, x.Right] := by
  subst e
  unfold headOf restOf
  rw [stripTxt_body, trim_hit]
  unfold stripBody
  rw [cut_fst (p := numsT ⟨#[43]⟩ [x.Length, x.Allow]) (q := numsT ⟨#[44]⟩ [x.Left, x.Right]) (d := 40) (numsT_free isSep_paren (by decide) _) rfl]
  exact ⟨rfl, rfl⟩
theorem strip_head {s : ByteArray} {x : Strip} (h : okStrip x = true) (e : stripTxt x = s) : numsN 43 2 (headOf s) = some [x.Length, x.Allow] ∧ numsN 44 2 (restOf s) = some [x.Left, x.Right] := by
  have hs := strip_small h
  rw [(strip_impl e).1, (strip_impl e).2]
  exact ⟨numsN_nums isSep_plus (xs := [x.Length, x.Allow]) (by simp) (fun n hn => hs n (by simp at hn ⊢; rcases hn with rfl | rfl <;> simp)), numsN_nums isSep_comma (xs := [x.Left, x.Right]) (by simp) (fun n hn => hs n (by simp at hn ⊢; rcases hn with rfl | rfl <;> simp))⟩
theorem strip_none1 {s : ByteArray} (h : numsN 43 2 (headOf s) = none) : readStrip s = none := readStrip_none fun x h1 e => by rw [(strip_head h1 e).1] at h; cases h
theorem strip_none2 {s : ByteArray} (h : numsN 44 2 (restOf s) = none) : readStrip s = none := readStrip_none fun x h1 e => by rw [(strip_head h1 e).2] at h; cases h
theorem strip_final {s : ByteArray} {x : Strip} (h1 : numsN 43 2 (headOf s) = some [x.Length, x.Allow]) (h2 : numsN 44 2 (restOf s) = some [x.Left, x.Right]) :
    readStrip s = if stripText x = s then some x else none := by
  by_cases he : stripText x = s
  · rw [if_pos he]
    cases ho : okStrip x
    · rw [stripText_false ho] at he
      subst he
      rw [show headOf ⟨#[]⟩ = ⟨#[]⟩ from rfl, numsN_empty (by omega)] at h1
      cases h1
    · rw [stripText_true ho] at he
      exact readStrip_some ho he
  · rw [if_neg he]
    refine readStrip_none fun y hy e => he ?_
    obtain ⟨k1, k2⟩ := strip_head hy e
    rw [h1] at k1; rw [h2] at k2
    have : x = y := by cases x; cases y; simp_all
    rw [this, stripText_true hy, e]
theorem trimSuf_size (s : ByteArray) (d : UInt8) : (Lib.trimSuffix s.data.toList [d]).length ≤ s.size := by
  unfold Lib.trimSuffix
  split
  · rw [List.length_take, size_len]; omega
  · rw [size_len]; exact Nat.le_refl _
theorem cut_size (l : List UInt8) (d : UInt8) : (Lib.cut l [d]).1.length ≤ l.length ∧ (Lib.cut l [d]).2.1.length ≤ l.length := by
  unfold Lib.cut
  split
  · simp; omega
  · simp
theorem headOf_size (s : ByteArray) : (headOf s).size ≤ s.size ∧ (restOf s).size ≤ s.size := by
  have h1 := trimSuf_size s 41
  have h2 := cut_size (Lib.trimSuffix s.data.toList [41]) 40
  constructor
  · show (List.toArray _).size ≤ _; rw [List.size_toArray]; omega
  · show (List.toArray _).size ≤ _; rw [List.size_toArray]; omega
theorem two_of {xs : List Int} (h : xs.length = 2) : ∃ a b, xs = [a, b] := by
  match xs, h with
  | [a, b], _ => exact ⟨a, b, rfl⟩
theorem own_strip (w : World) (t : TypeId) (x : Strip) : Own w.heap.size (w.alloc (.cells #[.int .i64 x.Length, .int .i64 x.Allow, .int .i64 x.Left, .int .i64 x.Right] t)) t (.slice (some ⟨w.heap.size, 0, none⟩) 1 1) [x] :=
  ⟨rfl, .inr ⟨w.heap.size, 1, #[.int .i64 x.Length, .int .i64 x.Allow, .int .i64 x.Left, .int .i64 x.Right], rfl, Nat.le_refl _, heap_alloc_new _ _, Nat.le_refl _, by unfold maxLen; omega, rfl, rfl⟩⟩
theorem strip_cells {B : Nat} {w : World} {e : TypeId} {g n c : Nat} {x : Strip} (h : Own B w e (.slice (some ⟨g, 0, none⟩) n c) [x]) :
    w.cell? ⟨g, 0, none⟩ = some (.int .i64 x.Length) ∧ w.cell? ⟨g, 1, none⟩ = some (.int .i64 x.Allow) ∧ w.cell? ⟨g, 2, none⟩ = some (.int .i64 x.Left) ∧ w.cell? ⟨g, 3, none⟩ = some (.int .i64 x.Right) := by
  have := h.at'.strip (i := 0) (by simp)
  simpa using this
theorem strip_ok {a b c d : Int} (h1 : -1000000000000000000 < a ∧ a < 1000000000000000000) (h2 : -1000000000000000000 < b ∧ b < 1000000000000000000) (h3 : -1000000000000000000 < c ∧ c < 1000000000000000000) (h4 : -1000000000000000000 < d ∧ d < 1000000000000000000) : Rep.ok (⟨a, b, c, d⟩ : Strip) := by
  simp only [Rep.ok, Flat.ok]
  omega
set_option maxRecDepth 100000 in
set_option maxHeartbeats 3200000 in
theorem implReadStrip_c (s : ByteArray) (w : World) (hT : TabR w) (hs : s.size ≤ 1048576) :
    Calls Tryz.prog 31 #[.string s] w fun e w' => e = stripRes (readStrip s) ∧ Below w.heap.size w w' := by
  obtain ⟨m, hm⟩ := hT.ml
  have hb0 : Below w.heap.size w (w.alloc (.cells #[.int .i64 0, .int .i64 0, .int .i64 0, .int .i64 0] 54)) := new_below _ _
  obtain ⟨w0, hw0⟩ : ∃ w0, w0 = w.alloc (.cells #[.int .i64 0, .int .i64 0, .int .i64 0, .int .i64 0] 54) := ⟨_, rfl⟩
  rw [← hw0] at hb0
  have hR := Lib.hid (own_strip w 54 ⟨0, 0, 0, 0⟩)
  rw [← hw0] at hR
  have hA := Lib.hid (trimSuf s ⟨#[41]⟩ w0 (by omega))
  obtain ⟨T, hTT⟩ : ∃ T : ByteArray, T = ⟨(Lib.trimSuffix s.data.toList [41]).toArray⟩ := ⟨_, rfl⟩
  have hTz : T.size ≤ 1048576 := by rw [hTT]; show (List.toArray _).size ≤ _; rw [List.size_toArray]; have := trimSuf_size s 41; omega
  have hC := Lib.hid (strCut T ⟨#[40]⟩ m w0 (by omega) (kept_cell hm hb0))
  have hh := headOf_size s
  have e1 : (⟨(Lib.cut T.data.toList (⟨#[40]⟩ : ByteArray).data.toList).1.toArray⟩ : ByteArray) = headOf s := by rw [hTT]; rfl
  have e2 : (⟨(Lib.cut T.data.toList (⟨#[40]⟩ : ByteArray).data.toList).2.1.toArray⟩ : ByteArray) = restOf s := by rw [hTT]; rfl
  rw [e1, e2] at hC
  have eT : (⟨(Lib.trimSuffix s.data.toList (⟨#[41]⟩ : ByteArray).data.toList).toArray⟩ : ByteArray) = T := hTT.symm
  rw [eT] at hA
  generalize (Lib.cut T.data.toList (⟨#[40]⟩ : ByteArray).data.toList).2.2 = fnd at hC
  have f1 := Lib.hid (@strip_none1 s)
  have f2 := Lib.hid (@strip_none2 s)
  have f3 := Lib.hid (fun x => @strip_final s x)
  have R1 := Lib.hid (fun w' hb => readNumbers_c (headOf s) 43 2 w' (hT.below (w' := w') hb) (by omega) (by omega))
  have R2 := Lib.hid (fun w' hb => readNumbers_c (restOf s) 44 2 w' (hT.below (w' := w') hb) (by omega) (by omega))
  have hS2 := Lib.hid (fun xs => @numsN_some 43 2 (headOf s) xs)
  have hS3 := Lib.hid (fun xs => @numsN_some 44 2 (restOf s) xs)
  generalize headOf s = hd at *
  generalize restOf s = rs at *
  replace hT := Lib.hid hT
  clear e1 e2 eT hTT hh hm
  go_enter Tryz.func31, Tryz.ntmps31
  go_wp2_with fail
  rw [← hw0]
  clear hw0
  refine hA.out.mono ?_
  rintro e w' ⟨rfl, rfl⟩
  go_wp2_with fail
  refine hC.out.mono ?_
  rintro e w1 ⟨rfl, n, rfl⟩
  have hb1' : Below w'.heap.size w' (w'.drewN n) := ⟨rfl, rfl, rfl, Nat.le_refl _, fun _ _ => rfl⟩
  have hb1 := upw hb0 hb1'
  replace hR := Lib.hid (hR.out.later hb1')
  go_wp2_with fail
  refine (R1.out _ hb1).mono ?_
  rintro e w2 ⟨v1, rfl, hO1, hb2⟩
  replace hO1 := Lib.hid (hO1.base hb1.size)
  replace hR := Lib.hid (hR.out.later hb2)
  replace hb2 := upw hb1 hb2
  clear hb1
  go_wp2_with fail
  refine (R2.out _ hb2).mono ?_
  rintro e w3 ⟨v2, rfl, hO2, hb3⟩
  replace hO1 := Lib.hid (hO1.out.later hb3)
  replace hO2 := Lib.hid (hO2.base hb2.size)
  replace hR := Lib.hid (hR.out.later hb3)
  replace hb3 := upw hb2 hb3
  clear hb2
  cases h1 : numsN 43 2 hd with
  | none =>
    have hr := Lib.hid (f1.out h1)
    replace h1 := Lib.hid h1
    go_wp2_with (refine wpList_store_own rfl 54 (.tmp 2) (.tmp 35) rfl w.heap.size 54 _ 1 1 ([⟨0, 0, 0, 0⟩] : List Strip) 0 _ (⟨0, 0, 0, 0⟩ : Strip) rfl rfl rfl (by kernel_rfl) rfl hR.out (by simp) ?_; intro w4 hR4 hg4)
    obtain ⟨q0, q1, q2, q3⟩ := strip_cells hR4
    have hb4 := below_mark hb3 hR.out (Nat.le_refl _) hg4
    (try simp only [Exit.inBlock, Exit.then])
    refine bodyPost_ret (by rw [results_cell_tmp rfl]; simp [q0, q1, q2, q3, go_sem]; rfl) rfl ?_
    exact ⟨by rw [stripRes_none hr.out], hb4⟩
  | some xs =>
    cases h2 : numsN 44 2 rs with
    | none =>
      have hr := Lib.hid (f2.out h2)
      replace h1 := Lib.hid h1
      replace h2 := Lib.hid h2
      go_wp2_with (refine wpList_store_own rfl 54 (.tmp 2) (.tmp 35) rfl w.heap.size 54 _ 1 1 ([⟨0, 0, 0, 0⟩] : List Strip) 0 _ (⟨0, 0, 0, 0⟩ : Strip) rfl rfl rfl (by kernel_rfl) rfl hR.out (by simp) ?_; intro w4 hR4 hg4)
      obtain ⟨q0, q1, q2, q3⟩ := strip_cells hR4
      have hb4 := below_mark hb3 hR.out (Nat.le_refl _) hg4
      (try simp only [Exit.inBlock, Exit.then])
      refine bodyPost_ret (by rw [results_cell_tmp rfl]; simp [q0, q1, q2, q3, go_sem]; rfl) rfl ?_
      exact ⟨by rw [stripRes_none hr.out], hb4⟩
    | some ys =>
      obtain ⟨_, hx2, hxr⟩ := hS2.out xs h1
      obtain ⟨_, hy2, hyr⟩ := hS3.out ys h2
      obtain ⟨a, b, rfl⟩ := two_of hx2
      obtain ⟨c, d, rfl⟩ := two_of hy2
      have hr := Lib.hid (f3.out ⟨a, b, c, d⟩ h1 h2)
      have hO1' := hO1.out
      have hO2' := hO2.out
      rw [h1] at hO1'
      rw [h2] at hO2'
      replace hO1 : Hid (Own w.heap.size w3 2 v1 [a, b]) := Lib.hid hO1'
      replace hO2 : Hid (Own w.heap.size w3 2 v2 [c, d]) := Lib.hid hO2'
      clear hO1' hO2'
      obtain ⟨g1, cap1, rfl⟩ := hO1.out.row (by simp)
      obtain ⟨g2, cap2, rfl⟩ := hO2.out.row (by simp)
      have c0 := hO1.out.at'.int (i := 0) (by simp)
      have c1 := hO1.out.at'.int (i := 1) (by simp)
      have c2 := hO2.out.at'.int (i := 0) (by simp)
      have c3 := hO2.out.at'.int (i := 1) (by simp)
      simp only [List.getElem_cons_zero, List.getElem_cons_succ] at c0 c1 c2 c3
      have hrx := Lib.hid hxr
      have hry := Lib.hid hyr
      have hn : Rep.ok (⟨a, b, c, d⟩ : Strip) := strip_ok (hxr a (by simp)) (hxr b (by simp)) (hyr c (by simp)) (hyr d (by simp))
      replace h1 := Lib.hid h1
      replace h2 := Lib.hid h2
      clear hxr hyr hx2 hy2
      have hb := hb3
      simp only [Nat.zero_add] at c0 c1 c2 c3
      go_wp2_with fail
      refine wp_region_held_drew (S := (fun w' => w'.cell? ⟨g1, 0, none⟩ = some (.int .i64 a) ∧ w'.cell? ⟨g1, 1, none⟩ = some (.int .i64 b) ∧ w'.cell? ⟨g2, 0, none⟩ = some (.int .i64 c) ∧ w'.cell? ⟨g2, 1, none⟩ = some (.int .i64 d))) (by kernel_rfl) ⟨c0, c1, c2, c3⟩ (fun hHeld => ?_)
      refine wpAnyH_take (i := 0) (v := _) rfl (by kernel_rfl) (by kernel_rfl) (by kernel_rfl) (fun _ _ _ h => h) (Or.inl ⟨by rfl, (by intro w hSw; (try dsimp only at hSw); go_simp; try with_reducible rfl)⟩) (by assumption) ?_
      go_simp
      refine wpAnyH_take (i := 1) (v := _) rfl (by kernel_rfl) (by kernel_rfl) (by kernel_rfl) (fun _ _ _ h => h) (Or.inl ⟨by rfl, (by intro w hSw; (try dsimp only at hSw); go_simp; try with_reducible rfl)⟩) (by assumption) ?_
      go_simp
      refine wpAnyH_take (i := 2) (v := _) rfl (by kernel_rfl) (by kernel_rfl) (by kernel_rfl) (fun _ _ _ h => h) (Or.inl ⟨by rfl, (by intro w hSw; (try dsimp only at hSw); go_simp; try with_reducible rfl)⟩) (by assumption) ?_
      go_simp
      refine wpAnyH_take (i := 3) (v := _) rfl (by kernel_rfl) (by kernel_rfl) (by kernel_rfl) (fun _ _ _ h => h) (Or.inl ⟨by rfl, (by intro w hSw; (try dsimp only at hSw); go_simp; try with_reducible rfl)⟩) (by assumption) ?_
      go_simp
      refine wpAnyH_take (i := 4) (v := _) rfl (by kernel_rfl) (by kernel_rfl) (by kernel_rfl) (fun _ _ _ h => h) (Or.inl ⟨by rfl, (by intro w hSw; (try dsimp only at hSw); go_simp; try with_reducible rfl)⟩) (by assumption) ?_
      go_simp
      refine wpAnyH_take (i := 5) (v := _) rfl (by kernel_rfl) (by kernel_rfl) (by kernel_rfl) (fun _ _ _ h => h) (Or.inl ⟨by rfl, (by intro w hSw; (try dsimp only at hSw); go_simp; try with_reducible rfl)⟩) (by assumption) ?_
      go_simp
      refine wpAnyH_take (i := 6) (v := _) rfl (by kernel_rfl) (by kernel_rfl) (by kernel_rfl) (fun _ _ _ h => h) (Or.inl ⟨by rfl, (by intro w hSw; (try dsimp only at hSw); go_simp; try with_reducible rfl)⟩) (by assumption) ?_
      go_simp
      refine wpAnyH_take (i := 7) (v := _) rfl (by kernel_rfl) (by kernel_rfl) (by kernel_rfl) (fun _ _ _ h => h) (Or.inl ⟨by rfl, (by intro w hSw; (try dsimp only at hSw); go_simp; try with_reducible rfl)⟩) (by assumption) ?_
      go_simp
      refine wpAnyH_take (i := 8) (v := _) rfl (by kernel_rfl) (by kernel_rfl) (by kernel_rfl) (fun _ _ _ h => h) (Or.inl ⟨by rfl, (by intro w hSw; (try dsimp only at hSw); go_simp; try with_reducible rfl)⟩) (by assumption) ?_
      go_simp
      refine wpAnyH_take (i := 9) (v := _) rfl (by kernel_rfl) (by kernel_rfl) (by kernel_rfl) (fun _ _ _ h => h) (Or.inl ⟨by rfl, (by intro w hSw; (try dsimp only at hSw); go_simp; try with_reducible rfl)⟩) (by assumption) ?_
      go_simp
      refine wpAnyH_take (i := 10) (v := _) rfl (by kernel_rfl) (by kernel_rfl) (by kernel_rfl) (fun _ _ _ h => h) (Or.inl ⟨by rfl, (by intro w hSw; (try dsimp only at hSw); go_simp; try with_reducible rfl)⟩) (by assumption) ?_
      go_simp
      refine wpAnyH_take (i := 11) (v := _) rfl (by kernel_rfl) (by kernel_rfl) (by kernel_rfl) (fun _ _ _ h => h) (Or.inl ⟨by rfl, (by intro w hSw; (try dsimp only at hSw); go_simp; try with_reducible rfl)⟩) (by assumption) ?_
      go_simp
      refine wpAnyH_take (i := 12) (v := _) rfl (by kernel_rfl) (by kernel_rfl) (by kernel_rfl) (fun _ _ _ h => h) (Or.inl ⟨by rfl, (by intro w hSw; (try dsimp only at hSw); go_simp; try with_reducible rfl)⟩) (by assumption) ?_
      go_simp
      refine wpAnyH_ready (rs := [13]) (by kernel_rfl) (by simp) ?_
      refine AllReadyH.cons rfl (fun K hK => ?_) AllReadyH.nil
      go_simp
      have hB4 : Below w3.heap.size w3 ((w3.alloc (.cells #[.int .i64 0, .int .i64 0, .int .i64 0, .int .i64 0] 54)).drew) := (new_below _ _).drew
      refine hK.out _ _ (by exact ⟨kept_cell c0 hB4, kept_cell c1 hB4, kept_cell c2 hB4, kept_cell c3 hB4⟩) (fun hHeld => ?_)
      clear hK K
      go_simp
      refine wpAnyH_ready (rs := [14]) (by kernel_rfl) (by simp) ?_
      refine AllReadyH.cons rfl (fun K hK => ?_) AllReadyH.nil
      go_simp
      have hB5 : Below w3.heap.size w3 ((w3.alloc (.cells #[.int .i64 a, .int .i64 b, .int .i64 c, .int .i64 d] 54)).drew) := (new_below _ _).drew
      refine hK.out _ _ (by exact ⟨kept_cell c0 hB5, kept_cell c1 hB5, kept_cell c2 hB5, kept_cell c3 hB5⟩) (fun hHeld => ?_)
      clear hK K
      go_simp
      refine wpAnyH_done (by kernel_rfl) ?_ _
      have hX := Lib.hid ((own_strip w3 54 ⟨a, b, c, d⟩).later (Below.refl _ _).drew)
      obtain ⟨w5, hw5⟩ : ∃ w5, w5 = (w3.alloc (.cells #[.int .i64 a, .int .i64 b, .int .i64 c, .int .i64 d] 54)).drew := ⟨_, rfl⟩
      rw [← hw5] at hB5 hX ⊢
      clear hw5 hHeld
      replace hR := Lib.hid (hR.out.later hB5)
      have hb5 := upw hb3 hB5
      have hS := Lib.hid (implStripText_c ⟨a, b, c, d⟩ w5 hn (hT.out.tab.below hb5))
      obtain ⟨q0, q1, q2, q3⟩ := strip_cells hX.out
      clear c0 c1 c2 c3
      by_cases he : stripText ⟨a, b, c, d⟩ = s
      · have he1 := str_same he
        have hr' := hr.out
        rw [if_pos he] at hr'
        replace hr' := Lib.hid hr'
        replace he := Lib.hid he
        go_wp2_with fail
        refine hS.out.mono ?_
        rintro e w6 ⟨rfl, hb6⟩
        replace hR := Lib.hid (hR.out.later hb6)
        replace hX := Lib.hid (hX.out.later hb6)
        replace hb6 := upw hb5 hb6
        clear q0 q1 q2 q3
        obtain ⟨q0, q1, q2, q3⟩ := strip_cells hX.out
        go_wp2_with (refine wpList_store_own rfl 54 (.tmp 2) (.tmp 54) rfl w.heap.size 54 _ 1 1 ([⟨0, 0, 0, 0⟩] : List Strip) 0 _ (⟨a, b, c, d⟩ : Strip) rfl rfl rfl (by kernel_rfl) rfl hR.out (by simp) ?_; intro w4 hR4 hg4)
        have hb4 := below_mark hb6 hR.out (Nat.le_refl _) hg4
        clear q0 q1 q2 q3
        obtain ⟨q0, q1, q2, q3⟩ := strip_cells hR4
        (try simp only [Exit.inBlock, Exit.then])
        refine bodyPost_ret (by rw [results_cell_tmp rfl]; simp [q0, q1, q2, q3, go_sem]; rfl) rfl ?_
        exact ⟨by rw [stripRes_some hr'.out], hb4⟩
      · have he1 := str_other he
        have hr' := hr.out
        rw [if_neg he] at hr'
        replace hr' := Lib.hid hr'
        replace he := Lib.hid he
        go_wp2_with fail
        refine hS.out.mono ?_
        rintro e w6 ⟨rfl, hb6⟩
        replace hR := Lib.hid (hR.out.later hb6)
        replace hb6 := upw hb5 hb6
        clear q0 q1 q2 q3
        go_wp2_with (refine wpList_store_own rfl 54 (.tmp 2) (.tmp 53) rfl w.heap.size 54 _ 1 1 ([⟨0, 0, 0, 0⟩] : List Strip) 0 _ (⟨0, 0, 0, 0⟩ : Strip) rfl rfl rfl (by kernel_rfl) rfl hR.out (by simp) ?_; intro w4 hR4 hg4)
        have hb4 := below_mark hb6 hR.out (Nat.le_refl _) hg4
        obtain ⟨q0, q1, q2, q3⟩ := strip_cells hR4
        (try simp only [Exit.inBlock, Exit.then])
        refine bodyPost_ret (by rw [results_cell_tmp rfl]; simp [q0, q1, q2, q3, go_sem]; rfl) rfl ?_
        exact ⟨by rw [stripRes_none hr'.out], hb4⟩
theorem strip_short {s : ByteArray} (h : s.size < 1) : readStrip s = none := readStrip_none fun x h1 e => by have := (strip_spec h1 e).1; omega
theorem strip_last {s : ByteArray} (h : ¬ byteAt s (s.size - 1) = 41) : readStrip s = none := readStrip_none fun x h1 e => h (strip_spec h1 e).2.1
theorem strip_two {s : ByteArray} (h : ¬ (parts 40 (s.extract 0 (s.size - 1))).length = 2) : readStrip s = none :=
  readStrip_none fun x h1 e => h (by rw [(strip_spec h1 e).2.2, stripBody_parts]; rfl)
theorem strip_pq {s p q : ByteArray} (h : parts 40 (s.extract 0 (s.size - 1)) = [p, q]) (h2 : ¬ ((parts 43 p).length = 2 ∧ (parts 44 q).length = 2)) : readStrip s = none :=
  readStrip_none fun x h1 e => h2 (by
    rw [(strip_spec h1 e).2.2, stripBody_parts] at h
    simp only [List.cons.injEq, and_true] at h
    rw [← h.1, ← h.2, parts_nums isSep_plus _ (by simp), parts_nums isSep_comma _ (by simp)]
    exact ⟨rfl, rfl⟩)
/-- What the reference reads. -/
def stripOf (o1 o2 o3 o4 : Option Int) : Strip := ⟨o1.getD 0, o2.getD 0, o3.getD 0, o4.getD 0⟩
theorem strip_read {s p q p0 p1 q0 q1 : ByteArray} (hz : 1 ≤ s.size) (hl : byteAt s (s.size - 1) = 41) (h : parts 40 (s.extract 0 (s.size - 1)) = [p, q]) (hp : parts 43 p = [p0, p1]) (hq : parts 44 q = [q0, q1]) :
    readStrip s = if ((rdB p0).isSome && (rdB p1).isSome && (rdB q0).isSome && (rdB q1).isSome && okStrip (stripOf (rdB p0) (rdB p1) (rdB q0) (rdB q1))) = true then some (stripOf (rdB p0) (rdB p1) (rdB q0) (rdB q1)) else none := by
  by_cases hc : ((rdB p0).isSome && (rdB p1).isSome && (rdB q0).isSome && (rdB q1).isSome && okStrip (stripOf (rdB p0) (rdB p1) (rdB q0) (rdB q1))) = true
  · rw [if_pos hc]
    simp only [Bool.and_eq_true] at hc
    obtain ⟨⟨⟨⟨k1, k2⟩, k3⟩, k4⟩, k5⟩ := hc
    obtain ⟨n1, e1⟩ := Option.isSome_iff_exists.1 k1
    obtain ⟨n2, e2⟩ := Option.isSome_iff_exists.1 k2
    obtain ⟨n3, e3⟩ := Option.isSome_iff_exists.1 k3
    obtain ⟨n4, e4⟩ := Option.isSome_iff_exists.1 k4
    rw [e1, e2, e3, e4] at k5 ⊢
    refine readStrip_some k5 ?_
    rw [stripTxt_body]
    have hb : s.extract 0 (s.size - 1) = stripBody ⟨n1, n2, n3, n4⟩ := by
      rw [parts_two h, parts_two hp, parts_two hq, rdB_text e1, rdB_text e2, rdB_text e3, rdB_text e4]
      unfold stripBody
      rw [numsT_two, numsT_two]
    show stripBody ⟨n1, n2, n3, n4⟩ ++ ⟨#[41]⟩ = s
    rw [← hb]
    apply Go.WideShapes.bytes_inj
    have hl2 : s.data.toList.getD (s.size - 1) 0 = 41 := by
      unfold byteAt at hl
      exact UInt8.toNat_inj.1 (by show _ = 41; omega)
    have hz2 : s.size - 1 < s.data.toList.length := by rw [size_len]; omega
    rw [List.getD_eq_getElem?_getD, List.getElem?_eq_getElem hz2, Option.getD_some] at hl2
    rw [show (s.extract 0 (s.size - 1) ++ ⟨#[41]⟩ : ByteArray).data.toList = (s.extract 0 (s.size - 1)).data.toList ++ [41] by simp, ext_list, List.drop_zero, ← hl2, ← List.take_succ_eq_append_getElem hz2, List.take_of_length_le (by rw [size_len]; omega)]
  · rw [if_neg hc]
    refine readStrip_none fun x h1 e => hc ?_
    have hs := strip_small h1
    rw [(strip_spec h1 e).2.2, stripBody_parts] at h
    simp only [List.cons.injEq, and_true] at h
    rw [← h.1, parts_nums isSep_plus _ (by simp)] at hp
    rw [← h.2, parts_nums isSep_comma _ (by simp)] at hq
    simp only [List.map_cons, List.map_nil, List.cons.injEq, and_true] at hp hq
    rw [← hp.1, ← hp.2, ← hq.1, ← hq.2, rdB_dec (hs _ (by simp)), rdB_dec (hs _ (by simp)), rdB_dec (hs _ (by simp)), rdB_dec (hs _ (by simp))]
    simpa [stripOf] using h1
theorem two_bytes {xs : List ByteArray} (h : xs.length = 2) : ∃ a b, xs = [a, b] := by
  match xs, h with
  | [a, b], _ => exact ⟨a, b, rfl⟩
set_option maxRecDepth 100000 in
set_option maxHeartbeats 6400000 in
theorem specReadStrip_c (s : ByteArray) (w : World) (hs : s.size ≤ 1048576) :
    Calls Tryz.prog 33 #[.string s] w fun e w' => e = stripRes (readStrip s) ∧ Below w.heap.size w w' := by
  have hb0 : Below w.heap.size w (w.alloc (.cells #[.int .i64 0, .int .i64 0, .int .i64 0, .int .i64 0] 54)) := new_below _ _
  obtain ⟨w0, hw0⟩ : ∃ w0, w0 = w.alloc (.cells #[.int .i64 0, .int .i64 0, .int .i64 0, .int .i64 0] 54) := ⟨_, rfl⟩
  have hR := Lib.hid (own_strip w 54 ⟨0, 0, 0, 0⟩)
  rw [← hw0] at hb0 hR
  by_cases h0 : s.size < 1
  · have hr := Lib.hid (strip_short h0)
    obtain rfl : s = ⟨#[]⟩ := by
      have : s.data.size = 0 := by have : s.data.size = s.size := rfl; omega
      cases s; simp at this; simp [this]
    go_enter Tryz.func33, Tryz.ntmps33
    go_wp2_with fail
    (try simp only [Exit.inBlock, Exit.then])
    refine bodyPost_ret (by rw [results_cell_tmp rfl]; simp [hb0, go_sem]; rfl) rfl ?_
    exact ⟨by rw [stripRes_none hr.out], new_below _ _⟩
  · have n1 : s.toList ≠ [] := fun e => by
      have : s.toList.length = s.size := toList_len s
      rw [e] at this; simp at this; omega
    have n2 : s.toList.isEmpty = false := by simpa using n1
    replace n1 : ¬ s.toList = [] := n1
    have hS : (s.size : Int) - 1 = ((s.size - 1 : Nat) : Int) := by omega
    have hlt : s.size - 1 < s.size := by omega
    have bk := byteAt_get hlt
    by_cases hl : byteAt s (s.size - 1) = 41
    · have hB := Lib.hid (fun w' => l01Split_c (s.extract 0 (s.size - 1)) 40 w' (by rw [ByteArray.size_extract]; omega))
      have h41 : ((s[s.size - 1].toNat : Int) != 41) = false := by rw [← bk, hl]; rfl
      have f1 := Lib.hid (@strip_two s)
      have f2 := Lib.hid (fun p q => @strip_pq s p q)
      have f3 := Lib.hid (fun p q p0 p1 q0 q1 => @strip_read s p q p0 p1 q0 q1 (by omega) hl)
      replace hl := Lib.hid hl
      replace bk := Lib.hid bk
      go_enter Tryz.func33, Tryz.ntmps33
      go_wp2_with fail
      rw [← hw0]
      clear hw0
      refine (hB.out w0).mono ?_
      rintro e w1 ⟨va, rfl, hOa, hb1⟩
      replace hR := Lib.hid (hR.out.later hb1)
      replace hOa := Lib.hid (hOa.base hb0.size)
      replace hb1 := upw hb0 hb1
      have hsm := Lib.hid (parts_small (c := 40) (s := s.extract 0 (s.size - 1)))
      have hel : (s.extract 0 (s.size - 1)).size ≤ 1048576 := by rw [ByteArray.size_extract]; omega
      obtain ⟨A, hA⟩ : ∃ A, A = parts 40 (s.extract 0 (s.size - 1)) := ⟨_, rfl⟩
      rw [← hA] at hOa f1 f2 f3 hsm
      have hAl : A.length ≤ 1048577 := by rw [hA, parts_length]; have := splitC_length_le 40 (s.extract 0 (s.size - 1)).data.toList; rw [size_len] at this; omega
      replace hA := Lib.hid hA
      obtain ⟨a, cc, hv, hn0⟩ : ∃ a cc, va = .slice a A.length cc ∧ (a = none → cc = 0) := by
        rcases hOa.out.cases with ⟨hv, hL⟩ | ⟨g, cap, hv⟩
        · exact ⟨none, 0, by rw [hv, hL]; rfl, fun _ => rfl⟩
        · exact ⟨_, cap, hv, fun h => by cases h⟩
      subst hv
      by_cases hA2 : A.length = 2
      · obtain ⟨p, q, rfl⟩ := two_bytes hA2
        clear hA2 hAl hn0
        obtain ⟨g, cap, hv⟩ := hOa.out.row (by simp)
        simp only [Value.slice.injEq] at hv
        obtain ⟨rfl, -, rfl⟩ := hv
        have c0 := hOa.out.at'.str (i := 0) (by simp)
        have c1 := hOa.out.at'.str (i := 1) (by simp)
        simp only [Nat.zero_add, Nat.add_zero, List.getElem_cons_zero, List.getElem_cons_succ] at c0 c1
        have hps := hsm.out p (by simp)
        have hqs := hsm.out q (by simp)
        have P1 := Lib.hid (fun w' => l01Split_c p 43 w' (by omega))
        have P2 := Lib.hid (fun w' => l01Split_c q 44 w' (by omega))
        go_wp2_with fail
        refine (P1.out w1).mono ?_
        rintro e w2 ⟨vp, rfl, hOp, hb2⟩
        replace c1 := kept_cell c1 hb2
        clear c0
        replace hR := Lib.hid (hR.out.later hb2)
        replace hOp := Lib.hid (hOp.base hb1.size)
        replace hb2 := upw hb1 hb2
        go_wp2_with fail
        refine (P2.out w2).mono ?_
        rintro e w3 ⟨vq, rfl, hOq, hb3⟩
        clear c1
        replace hR := Lib.hid (hR.out.later hb3)
        replace hOp := Lib.hid (hOp.out.later hb3)
        replace hOq := Lib.hid (hOq.base hb2.size)
        replace hb3 := upw hb2 hb3
        have hsp := Lib.hid (parts_small (c := 43) (s := p))
        have hsq := Lib.hid (parts_small (c := 44) (s := q))
        obtain ⟨X, hX⟩ : ∃ X, X = parts 43 p := ⟨_, rfl⟩
        obtain ⟨Y, hY⟩ : ∃ Y, Y = parts 44 q := ⟨_, rfl⟩
        have f2' := f2.out p q rfl
        have f3' := f3.out p q
        rw [← hX] at hOp hsp f2'
        rw [← hY] at hOq hsq f2'
        replace f2' := Lib.hid f2'
        have hXe := hX.symm
        have hYe := hY.symm
        have hXl : X.length ≤ 1048577 := by rw [hX, parts_length]; have := splitC_length_le 43 p.data.toList; rw [size_len] at this; omega
        have hYl : Y.length ≤ 1048577 := by rw [hY, parts_length]; have := splitC_length_le 44 q.data.toList; rw [size_len] at this; omega
        clear hX hY
        replace hXe := Lib.hid hXe
        replace hYe := Lib.hid hYe
        replace f3' := Lib.hid f3'
        obtain ⟨ax, cx, hvx⟩ : ∃ a cc, vp = .slice a X.length cc := by
          rcases hOp.out.cases with ⟨hv, hL⟩ | ⟨g, cap, hv⟩
          · exact ⟨none, 0, by rw [hv, hL]; rfl⟩
          · exact ⟨_, cap, hv⟩
        obtain ⟨ay, cy, hvy⟩ : ∃ a cc, vq = .slice a Y.length cc := by
          rcases hOq.out.cases with ⟨hv, hL⟩ | ⟨g, cap, hv⟩
          · exact ⟨none, 0, by rw [hv, hL]; rfl⟩
          · exact ⟨_, cap, hv⟩
        subst hvx
        subst hvy
        by_cases hX2 : X.length = 2
        · by_cases hY2 : Y.length = 2
          · obtain ⟨p0, p1, rfl⟩ := two_bytes hX2
            obtain ⟨q0, q1, rfl⟩ := two_bytes hY2
            obtain ⟨g2, cap2, hv⟩ := hOp.out.row (by simp)
            simp only [Value.slice.injEq] at hv
            obtain ⟨rfl, -, rfl⟩ := hv
            obtain ⟨g3, cap3, hv⟩ := hOq.out.row (by simp)
            simp only [Value.slice.injEq] at hv
            obtain ⟨rfl, -, rfl⟩ := hv
            have c0 := hOp.out.at'.str (i := 0) (by simp)
            have c1 := hOp.out.at'.str (i := 1) (by simp)
            have c2 := hOq.out.at'.str (i := 0) (by simp)
            have c3 := hOq.out.at'.str (i := 1) (by simp)
            simp only [Nat.zero_add, Nat.add_zero, List.getElem_cons_zero, List.getElem_cons_succ] at c0 c1 c2 c3
            have N0 := Lib.hid (fun w' => l01Number_c p0 w' (by have := hsp.out p0 (by simp); omega))
            have N1 := Lib.hid (fun w' => l01Number_c p1 w' (by have := hsp.out p1 (by simp); omega))
            have N2 := Lib.hid (fun w' => l01Number_c q0 w' (by have := hsq.out q0 (by simp); omega))
            have N3 := Lib.hid (fun w' => l01Number_c q1 w' (by have := hsq.out q1 (by simp); omega))
            have hres := f3'.out p0 p1 q0 q1 rfl hXe.out hYe.out
            unfold numRes at N0 N1 N2 N3
            generalize rdB p0 = o0 at *
            generalize rdB p1 = o1 at *
            generalize rdB q0 = o2 at *
            generalize rdB q1 = o3 at *
            replace hres := Lib.hid hres
            clear hXl hYl hX2 hY2 f1 f2 f3 f2' f3' hps hqs P1 P2
            go_wp2_with fail
            refine (N0.out w3).mono ?_
            rintro e w4 ⟨rfl, hb4⟩
            replace c1 := kept_cell c1 hb4
            replace c2 := kept_cell c2 hb4
            replace c3 := kept_cell c3 hb4
            clear c0
            replace hR := Lib.hid (hR.out.later hb4)
            replace hb4 := upw hb3 hb4
            go_wp2_with fail
            refine (N1.out w4).mono ?_
            rintro e w5 ⟨rfl, hb5⟩
            replace c2 := kept_cell c2 hb5
            replace c3 := kept_cell c3 hb5
            clear c1
            replace hR := Lib.hid (hR.out.later hb5)
            replace hb5 := upw hb4 hb5
            go_wp2_with fail
            refine (N2.out w5).mono ?_
            rintro e w6 ⟨rfl, hb6⟩
            replace c3 := kept_cell c3 hb6
            clear c2
            replace hR := Lib.hid (hR.out.later hb6)
            replace hb6 := upw hb5 hb6
            go_wp2_with fail
            refine (N3.out w6).mono ?_
            rintro e w7 ⟨rfl, hb7⟩
            clear c3
            replace hR := Lib.hid (hR.out.later hb7)
            replace hb7 := upw hb6 hb7
            have hb8' : Below w7.heap.size w7 (w7.alloc (.cells #[.int .i64 (o0.getD 0), .int .i64 (o1.getD 0), .int .i64 (o2.getD 0), .int .i64 (o3.getD 0)] 54)) := new_below _ _
            have hX8 := Lib.hid (own_strip w7 54 (stripOf o0 o1 o2 o3))
            have hb8 := upw hb7 hb8'
            replace hR := Lib.hid (hR.out.later hb8')
            have k := strip_cells hX8.out
            obtain ⟨k0, k1, k2, k3⟩ := k
            have hone := Lib.hid (l09One_c (stripOf o0 o1 o2 o3) w7.heap.size 0 _ k0 k1 k2 k3)
            clear k0 k1 k2 k3
            cases h1 : o0.isSome
            · have hr := hres.out
              rw [if_neg (by simp [h1])] at hr
              replace hr := Lib.hid hr
              go_wp2_with (first | (go_at_call 131; refine (as_bool (by assumption) hone.out).mono ?_; rintro e w' ⟨rfl, rfl⟩) | (refine wpList_store_own rfl 54 (.tmp 2) (.tmp 105) rfl w.heap.size 54 _ 1 1 ([⟨0, 0, 0, 0⟩] : List Strip) 0 _ (⟨0, 0, 0, 0⟩ : Strip) rfl rfl rfl (by kernel_rfl) rfl hR.out (by simp) ?_; intro wz hRz hgz))
              have hbz := below_mark hb8 hR.out (Nat.le_refl _) hgz
              obtain ⟨q0, q1, q2, q3⟩ := strip_cells hRz
              (try simp only [Exit.inBlock, Exit.then])
              refine bodyPost_ret (by rw [results_cell_tmp rfl]; simp [q0, q1, q2, q3, go_sem]; rfl) rfl ?_
              exact ⟨by rw [stripRes_none hr.out], hbz⟩
            · cases h2 : o1.isSome
              · have hr := hres.out
                rw [if_neg (by simp [h1, h2])] at hr
                replace hr := Lib.hid hr
                go_wp2_with (first | (go_at_call 131; refine (as_bool (by assumption) hone.out).mono ?_; rintro e w' ⟨rfl, rfl⟩) | (refine wpList_store_own rfl 54 (.tmp 2) (.tmp 105) rfl w.heap.size 54 _ 1 1 ([⟨0, 0, 0, 0⟩] : List Strip) 0 _ (⟨0, 0, 0, 0⟩ : Strip) rfl rfl rfl (by kernel_rfl) rfl hR.out (by simp) ?_; intro wz hRz hgz))
                have hbz := below_mark hb8 hR.out (Nat.le_refl _) hgz
                obtain ⟨q0, q1, q2, q3⟩ := strip_cells hRz
                (try simp only [Exit.inBlock, Exit.then])
                refine bodyPost_ret (by rw [results_cell_tmp rfl]; simp [q0, q1, q2, q3, go_sem]; rfl) rfl ?_
                exact ⟨by rw [stripRes_none hr.out], hbz⟩
              · cases h3 : o2.isSome
                · have hr := hres.out
                  rw [if_neg (by simp [h1, h2, h3])] at hr
                  replace hr := Lib.hid hr
                  go_wp2_with (first | (go_at_call 131; refine (as_bool (by assumption) hone.out).mono ?_; rintro e w' ⟨rfl, rfl⟩) | (refine wpList_store_own rfl 54 (.tmp 2) (.tmp 105) rfl w.heap.size 54 _ 1 1 ([⟨0, 0, 0, 0⟩] : List Strip) 0 _ (⟨0, 0, 0, 0⟩ : Strip) rfl rfl rfl (by kernel_rfl) rfl hR.out (by simp) ?_; intro wz hRz hgz))
                  have hbz := below_mark hb8 hR.out (Nat.le_refl _) hgz
                  obtain ⟨q0, q1, q2, q3⟩ := strip_cells hRz
                  (try simp only [Exit.inBlock, Exit.then])
                  refine bodyPost_ret (by rw [results_cell_tmp rfl]; simp [q0, q1, q2, q3, go_sem]; rfl) rfl ?_
                  exact ⟨by rw [stripRes_none hr.out], hbz⟩
                · cases h4 : o3.isSome
                  · have hr := hres.out
                    rw [if_neg (by simp [h1, h2, h3, h4])] at hr
                    replace hr := Lib.hid hr
                    go_wp2_with (first | (go_at_call 131; refine (as_bool (by assumption) hone.out).mono ?_; rintro e w' ⟨rfl, rfl⟩) | (refine wpList_store_own rfl 54 (.tmp 2) (.tmp 105) rfl w.heap.size 54 _ 1 1 ([⟨0, 0, 0, 0⟩] : List Strip) 0 _ (⟨0, 0, 0, 0⟩ : Strip) rfl rfl rfl (by kernel_rfl) rfl hR.out (by simp) ?_; intro wz hRz hgz))
                    have hbz := below_mark hb8 hR.out (Nat.le_refl _) hgz
                    obtain ⟨q0, q1, q2, q3⟩ := strip_cells hRz
                    (try simp only [Exit.inBlock, Exit.then])
                    refine bodyPost_ret (by rw [results_cell_tmp rfl]; simp [q0, q1, q2, q3, go_sem]; rfl) rfl ?_
                    exact ⟨by rw [stripRes_none hr.out], hbz⟩
                  · cases h5 : okStrip (stripOf o0 o1 o2 o3)
                    · have hr := hres.out
                      rw [if_neg (by simp [h1, h2, h3, h4, h5])] at hr
                      replace hr := Lib.hid hr
                      go_wp2_with (first | (go_at_call 131; refine (as_bool (by assumption) hone.out).mono ?_; rintro e w' ⟨rfl, rfl⟩) | (refine wpList_store_own rfl 54 (.tmp 2) (.tmp 105) rfl w.heap.size 54 _ 1 1 ([⟨0, 0, 0, 0⟩] : List Strip) 0 _ (⟨0, 0, 0, 0⟩ : Strip) rfl rfl rfl (by kernel_rfl) rfl hR.out (by simp) ?_; intro wz hRz hgz))
                      have hbz := below_mark hb8 hR.out (Nat.le_refl _) hgz
                      obtain ⟨q0, q1, q2, q3⟩ := strip_cells hRz
                      (try simp only [Exit.inBlock, Exit.then])
                      refine bodyPost_ret (by rw [results_cell_tmp rfl]; simp [q0, q1, q2, q3, go_sem]; rfl) rfl ?_
                      exact ⟨by rw [stripRes_none hr.out], hbz⟩
                    · have hr := hres.out
                      rw [if_pos (by simp [h1, h2, h3, h4, h5])] at hr
                      replace hr := Lib.hid hr
                      obtain ⟨k0, k1, k2, k3⟩ := strip_cells hX8.out
                      go_wp2_with (first | (go_at_call 131; refine (as_bool (by assumption) hone.out).mono ?_; rintro e w' ⟨rfl, rfl⟩) | (refine wpList_store_own rfl 54 (.tmp 2) (.tmp 106) rfl w.heap.size 54 _ 1 1 ([⟨0, 0, 0, 0⟩] : List Strip) 0 _ (stripOf o0 o1 o2 o3) rfl rfl rfl (by kernel_rfl) rfl hR.out (by simp) ?_; intro wz hRz hgz))
                      have hbz := below_mark hb8 hR.out (Nat.le_refl _) hgz
                      clear k0 k1 k2 k3
                      obtain ⟨q0, q1, q2, q3⟩ := strip_cells hRz
                      (try simp only [Exit.inBlock, Exit.then])
                      refine bodyPost_ret (by rw [results_cell_tmp rfl]; simp [q0, q1, q2, q3, go_sem]; rfl) rfl ?_
                      exact ⟨by rw [stripRes_some hr.out], hbz⟩
          · have hr := Lib.hid (f2'.out (fun k => hY2 k.2))
            have hne : ((Y.length : Int) != 2) = true := by simp; omega
            have hX2' : (X.length : Int) = 2 := by omega
            go_wp2_with (refine wpList_store_own rfl 54 (.tmp 2) (.tmp 53) rfl w.heap.size 54 _ 1 1 ([⟨0, 0, 0, 0⟩] : List Strip) 0 _ (⟨0, 0, 0, 0⟩ : Strip) rfl rfl rfl (by kernel_rfl) rfl hR.out (by simp) ?_; intro wz hRz hgz)
            have hbz := below_mark hb3 hR.out (Nat.le_refl _) hgz
            obtain ⟨q0, q1, q2, q3⟩ := strip_cells hRz
            (try simp only [Exit.inBlock, Exit.then])
            refine bodyPost_ret (by rw [results_cell_tmp rfl]; simp [q0, q1, q2, q3, go_sem]; rfl) rfl ?_
            exact ⟨by rw [stripRes_none hr.out], hbz⟩
        · have hr := Lib.hid (f2'.out (fun k => hX2 k.1))
          have hne : ((X.length : Int) != 2) = true := by simp; omega
          go_wp2_with (refine wpList_store_own rfl 54 (.tmp 2) (.tmp 53) rfl w.heap.size 54 _ 1 1 ([⟨0, 0, 0, 0⟩] : List Strip) 0 _ (⟨0, 0, 0, 0⟩ : Strip) rfl rfl rfl (by kernel_rfl) rfl hR.out (by simp) ?_; intro wz hRz hgz)
          have hbz := below_mark hb3 hR.out (Nat.le_refl _) hgz
          obtain ⟨q0, q1, q2, q3⟩ := strip_cells hRz
          (try simp only [Exit.inBlock, Exit.then])
          refine bodyPost_ret (by rw [results_cell_tmp rfl]; simp [q0, q1, q2, q3, go_sem]; rfl) rfl ?_
          exact ⟨by rw [stripRes_none hr.out], hbz⟩
      · have hr := Lib.hid (f1.out hA2)
        have hne : ((A.length : Int) != 2) = true := by simp; omega
        go_wp2_with (refine wpList_store_own rfl 54 (.tmp 2) (.tmp 36) rfl w.heap.size 54 _ 1 1 ([⟨0, 0, 0, 0⟩] : List Strip) 0 _ (⟨0, 0, 0, 0⟩ : Strip) rfl rfl rfl (by kernel_rfl) rfl hR.out (by simp) ?_; intro wz hRz hgz)
        have hbz := below_mark hb1 hR.out (Nat.le_refl _) hgz
        obtain ⟨q0, q1, q2, q3⟩ := strip_cells hRz
        (try simp only [Exit.inBlock, Exit.then])
        refine bodyPost_ret (by rw [results_cell_tmp rfl]; simp [q0, q1, q2, q3, go_sem]; rfl) rfl ?_
        exact ⟨by rw [stripRes_none hr.out], hbz⟩
    · have hr := Lib.hid (strip_last hl)
      have h41 : ((s[s.size - 1].toNat : Int) != 41) = true := by
        rw [← bk]; simpa using hl
      replace hl := Lib.hid hl
      replace bk := Lib.hid bk
      go_enter Tryz.func33, Tryz.ntmps33
      go_wp2_with fail
      (try simp only [Exit.inBlock, Exit.then])
      refine bodyPost_ret (by rw [results_cell_tmp rfl]; simp [hb0, go_sem]; rfl) rfl ?_
      exact ⟨by rw [stripRes_none hr.out], new_below _ _⟩
end Go.Proofs.YtledlkggggpdpaaGreatDoor
