/- Patterns that are drawn: one piece. -/
import Derived.Test.YtlmhiocmldhkhaaGreatDoorPatT
import Derived.Test.YtlmhiocmldhkhaaGreatDoorSrc
namespace Go.Proofs.YtlmhiocmldhkhaaGreatDoor
open Go.RowKit

theorem At.strF {w : World} {b off : Nat} {xs : List ByteArray} (h : At w (some ⟨b, off, none⟩) xs) {i : Nat} (hi : i < xs.length) : w.cell? ⟨b, off + i, none⟩ = some (.string xs[i]) := h.str hi
/-- A piece as it is drawn. -/
structure DrawnP (x : Piece) : Prop where
  name : isName x.name = true
  len : 3 ≤ x.edges.length ∧ x.edges.length ≤ 6
  edge : ∀ n ∈ x.edges, 1 ≤ n ∧ n ≤ 10000
theorem text_c (g M : Nat) (a : Option Addr) (xs : List ByteArray) (c : Nat) (w : World) (hS : SrcAt w g (M + 2)) (hx : At w a xs) (ho : Off a g) (h0 : 0 < xs.length) (hl : xs.length ≤ 9223372036854775807) :
    Calls Tryz.prog 62 #[.pointer (some ⟨g, 0, none⟩), .slice a xs.length c] w fun e w' => ∃ v : ByteArray, e = .returned (.string v) ∧ v ∈ xs ∧ SrcAt w' g M ∧ w.grownBy w' (some g) := by
  go_enter Tryz.func62, Tryz.ntmps62
  go_wp2_with fail
  refine (pick_c g M xs.length w hS (by omega) (by omega)).mono ?_
  rintro e w2 ⟨v, rfl, v0, v1, hS2, hg2⟩
  obtain ⟨k, rfl⟩ : ∃ k : Nat, v = k := ⟨v.toNat, by omega⟩
  have hk : k < xs.length := by omega
  have hx2 := hx.offF (Or.inr ho) hg2
  obtain ⟨b, off, rfl⟩ := hx2.addr hk
  have c0 := hx2.str hk
  go_wp2_with fail
  go_ret
  exact ⟨_, rfl, List.getElem_mem hk, hS2, hg2⟩
def pieceNames : List ByteArray := [⟨#[118, 97, 109, 112]⟩, ⟨#[116, 111, 110, 103, 117, 101]⟩, ⟨#[113, 117, 97, 114, 116, 101, 114, 45, 49]⟩, ⟨#[108, 105, 110, 105, 110, 103]⟩, ⟨#[116, 111, 101]⟩]
theorem pieceNames_ok : ∀ x ∈ pieceNames, isName x = true := by decide +kernel
/-- A variable that holds a piece, cell by cell. -/
def pieC (nm : ByteArray) (ea : Option Addr) (n ec : Nat) : List OneCell := [⟨.string nm, rfl⟩, ⟨.slice ea n ec, rfl⟩]
theorem own_pieC (w : World) (t : TypeId) (nm : ByteArray) (ea : Option Addr) (n ec : Nat) : Own w.heap.size (w.alloc (.cells #[.string nm, .slice ea n ec] t)) t (.slice (some ⟨w.heap.size, 0, none⟩) 2 2) (pieC nm ea n ec) :=
  ⟨rfl, .inr ⟨w.heap.size, 2, #[.string nm, .slice ea n ec], rfl, Nat.le_refl _, heap_alloc_new _ _, Nat.le_refl _, by unfold maxLen; omega, rfl, rfl⟩⟩
theorem own_rawP1 (w : World) (t : TypeId) (nm : ByteArray) (ea : Option Addr) (n ec : Nat) : Own w.heap.size (w.alloc (.cells #[.string nm, .slice ea n ec] t)) t (.slice (some ⟨w.heap.size, 0, none⟩) 1 1) [(⟨nm, ea, n, ec⟩ : RawP)] :=
  ⟨rfl, .inr ⟨w.heap.size, 1, #[.string nm, .slice ea n ec], rfl, Nat.le_refl _, heap_alloc_new _ _, Nat.le_refl _, by unfold maxLen; omega, rfl, rfl⟩⟩
theorem rawP_two {B : Nat} {w : World} {e : TypeId} {g : Nat} {x : RawP} (h : Own B w e (.slice (some ⟨g, 0, none⟩) 1 1) [x]) : Own B w e (.slice (some ⟨g, 0, none⟩) 2 2) (pieC x.name x.a x.n x.c) := by
  obtain ⟨h1, h2⟩ := h
  refine ⟨rfl, .inr ?_⟩
  rcases h2 with ⟨h2, _⟩ | ⟨g', cap, cur, h3, hb, hg, hn, hm, hs, ht⟩
  · simp at h2
  · simp only [Value.slice.injEq, Option.some.injEq, Addr.mk.injEq, and_true] at h3
    obtain ⟨rfl, -, rfl⟩ := h3
    exact ⟨g, 2, cur, rfl, hb, hg, Nat.le_refl _, by unfold maxLen; omega, hs, ht⟩
theorem pieC_cells {B : Nat} {w : World} {e : TypeId} {g n' c : Nat} {nm : ByteArray} {ea : Option Addr} {n ec : Nat} (h : Own B w e (.slice (some ⟨g, 0, none⟩) n' c) (pieC nm ea n ec)) :
    w.cell? ⟨g, 0, none⟩ = some (.string nm) ∧ w.cell? ⟨g, 1, none⟩ = some (.slice ea n ec) :=
  ⟨own_one h (i := 0) (by show 0 < 2; omega), own_one h (i := 1) (by show 1 < 2; omega)⟩
/-- What the walk of l08New carries. -/
structure NewP (w wn : World) (g M b : Nat) (nm : ByteArray) (ea : Option Addr) (ec : Nat) (es : List Int) : Prop where
  src : SrcAt wn g M
  res : Own w.heap.size wn 36 (.slice (some ⟨w.heap.size, 0, none⟩) 1 1) [(⟨ByteArray.empty, none, 0, 0⟩ : RawP)]
  var : Own (w.heap.size + 1) wn 36 (.slice (some ⟨b, 0, none⟩) 2 2) (pieC nm ea es.length ec)
  row : Own (w.heap.size + 1) wn 2 (.slice ea es.length ec) es
  up : w.grownBy wn (some g)
theorem NewP.later {w wn w' : World} {g M b : Nat} {nm : ByteArray} {ea : Option Addr} {ec : Nat} {es : List Int} (h : NewP w wn g M b nm ea ec es) (hb : Below wn.heap.size wn w') : NewP w w' g M b nm ea ec es :=
  ⟨h.src.later hb, h.res.later hb, h.var.later hb, h.row.later hb, grownBy_trans h.up (drew_below g hb)⟩
theorem NewP.drew {w wn w' : World} {g M M' b : Nat} {nm : ByteArray} {ea : Option Addr} {ec : Nat} {es : List Int} (h : NewP w wn g M b nm ea ec es) (hgl : g < w.heap.size) (hS : SrcAt w' g M') (hg : wn.grownBy w' (some g)) : NewP w w' g M' b nm ea ec es :=
  ⟨hS, h.res.drew hgl hg, h.var.drew (by omega) hg, h.row.drew (by omega) hg, grownBy_trans h.up hg⟩
theorem SrcAt.markP {α : Type} [Flat α] {B' g M : Nat} {wn w' : World} {e : TypeId} {v : Value} {xs : List α} (hS : SrcAt wn g M) (hO : Own B' wn e v xs) (hB : g < B') (hg : wn.grownBy w' v.ownBlock) : SrcAt w' g M :=
  hS.kept hg fun k hk => by have := (hO.lt k hk).1; omega
theorem upMark {α : Type} [Flat α] {B' g : Nat} {w wn w' : World} {e : TypeId} {v : Value} {xs : List α} (hG : w.grownBy wn (some g)) (hO : Own B' wn e v xs) (hB : w.heap.size ≤ B') (hg : wn.grownBy w' v.ownBlock) : w.grownBy w' (some g) :=
  ⟨hg.os.trans hG.os, hg.tape.trans hG.tape, hg.output.trans hG.output, Nat.le_trans hG.size hg.size, fun k hk hne => (hg.block k (Nat.lt_of_lt_of_le hk hG.size) fun e => by have := (hO.lt k e.symm).1; omega).trans (hG.block k hk hne)⟩
/-- One number more: the row, and behind it the variable. -/
theorem NewP.push {w wn w1 w2 w3 : World} {g M b : Nat} {nm : ByteArray} {ea : Option Addr} {ec : Nat} {es : List Int} {x : Int} {g' cap : Nat} (h : NewP w wn g M b nm ea ec es) (hgl : g < w.heap.size) (hb1 : Below wn.heap.size wn w1)
    (hO : Own (w.heap.size + 1) w2 2 (.slice (some ⟨g', 0, none⟩) (es.length + 1) cap) (es ++ [x])) (hg : w1.grownBy w2 (Value.slice ea es.length ec).ownBlock)
    (hV : Own (w.heap.size + 1) w3 36 (.slice (some ⟨b, 0, none⟩) 2 2) (pieC nm (some ⟨g', 0, none⟩) (es.length + 1) cap)) (hg3 : w2.grownBy w3 (some b)) (hne : w.heap.size ≠ b) :
    NewP w w3 g M b nm (some ⟨g', 0, none⟩) cap (es ++ [x]) := by
  have h1 := h.later hb1
  have hV2 := h1.var.kept hg (own_apart_ty h1.var h1.row (by decide))
  have hS2 := h1.src.markP h1.row (by omega) hg
  have hR2 := h1.res.kept hg (own_apart_ty h1.res h1.row (by decide))
  have hu2 := upMark h1.up h1.row (Nat.le_succ _) hg
  refine ⟨hS2.markP hV2 (by omega) hg3, hR2.kept hg3 (Or.inr (ne_blkP hne)), by simpa using hV, ?_, upMark hu2 hV2 (Nat.le_succ _) hg3⟩
  have := hO.kept hg3 (own_apart_ty hO hV2 (by decide))
  simpa using this
set_option maxRecDepth 100000 in
set_option maxHeartbeats 4000000 in
theorem l08New_c (g M : Nat) (w : World) (hS : SrcAt w g (M + 30)) :
    Calls Tryz.prog 30 #[.pointer (some ⟨g, 0, none⟩)] w fun e w' => ∃ (x : Piece) (ea : Option Addr) (ec : Nat), e = .returned (.agg #[.string x.name, .slice ea x.edges.length ec]) ∧ Own w.heap.size w' 2 (.slice ea x.edges.length ec) x.edges ∧ DrawnP x ∧ SrcAt w' g M ∧ w.grownBy w' (some g) := by
  have hgl := hS.lt
  obtain ⟨w1, hw1⟩ : ∃ w1, w1 = w.alloc (.cells #[.string { data := #[] }, .slice none 0 0] 36) := ⟨_, rfl⟩
  have hb1 : Below w.heap.size w w1 := by rw [hw1]; exact new_below _ _
  have hs1 : Hid (w1.heap.size = w.heap.size + 1) := Lib.hid (by rw [hw1]; simp)
  have hR : Own w.heap.size w1 36 (.slice (some ⟨w.heap.size, 0, none⟩) 1 1) [(⟨ByteArray.empty, none, 0, 0⟩ : RawP)] := by rw [hw1]; exact own_rawP1 w _ ByteArray.empty none 0 0
  have hG := drew_below g hb1
  replace hS := hS.later hb1
  replace hw1 := Lib.hid hw1
  go_enter Tryz.func30, Tryz.ntmps30
  go_wp2_with (rw [← hw1.out])
  obtain ⟨w2, hw2⟩ : ∃ w2, w2 = w1.alloc (.cells #[.string ⟨#[118, 97, 109, 112]⟩, .string ⟨#[116, 111, 110, 103, 117, 101]⟩, .string ⟨#[113, 117, 97, 114, 116, 101, 114, 45, 49]⟩, .string ⟨#[108, 105, 110, 105, 110, 103]⟩, .string ⟨#[116, 111, 101]⟩] 9) := ⟨_, rfl⟩
  have hA : At w2 (some ⟨w1.heap.size, 0, none⟩) pieceNames := by rw [hw2]; exact (own_row w1 9 pieceNames (by decide)).at_n
  have hb2 : Below w1.heap.size w1 w2 := by rw [hw2]; exact new_below _ _
  have hgl1 : g < w1.heap.size := by have := hs1.out; omega
  rw [← hw2]
  clear hw2
  refine (text_c g (M + 28) _ pieceNames 5 w2 (hS.later hb2) hA (off_new hgl1) (by decide) (by decide)).mono ?_
  rintro e w3 ⟨nm, rfl, hnm, hS3, hg3⟩
  have hnm := pieceNames_ok nm hnm
  replace hG := grownBy_trans (grownBy_trans hG (drew_below g hb2)) hg3
  replace hR := (hR.later hb2).drew hgl hg3
  have hsz3 : w.heap.size + 1 ≤ w3.heap.size := by have := hb2.size; have := hg3.size; have := hs1.out; omega
  obtain ⟨w4, hw4⟩ : ∃ w4, w4 = w3.alloc (.cells #[.string nm, .slice none 0 0] 36) := ⟨_, rfl⟩
  have hb4 : Below w3.heap.size w3 w4 := by rw [hw4]; exact new_below _ _
  obtain ⟨b, hbe, hne, D⟩ : ∃ b, b = w3.heap.size ∧ w.heap.size ≠ b ∧ NewP w w4 g (M + 28) b nm none 0 [] := by
    refine ⟨_, rfl, by omega, hS3.later hb4, hR.later hb4, ?_, World.ownsRow_nil _ _ _ _, grownBy_trans hG (drew_below g hb4)⟩
    rw [hw4]; exact (own_pieC w3 _ nm none 0 0).base hsz3
  replace hw4 := Lib.hid hw4
  replace D := Lib.hid D
  clear hA hb2 hS hS3 hg3 hR hG hb4 hgl1 hs1 hb1 hw1 hsz3
  go_wp2_with (rw [← hw4.out])
  rw [← hbe]
  clear hbe hw4
  refine (pick_c g (M + 26) 4 w4 (D.out.src.less (by omega)) (by omega) (by omega)).mono ?_
  rintro e w5 ⟨v, rfl, v0, v1, hS5, hg5⟩
  obtain ⟨T, hT⟩ : ∃ T : Nat, 3 + v = T := ⟨(3 + v).toNat, by omega⟩
  have hT3 : 3 ≤ T ∧ T ≤ 6 := by omega
  replace D := Lib.hid (D.out.drew hgl hS5 hg5)
  clear hS5 hg5
  have h3w : IntKind.i64.wrap (3 + v) = (T : Int) := by rw [hT]; exact IntWalk.i64_in _ (by omega)
  go_wp2_with fail
  try rw [h3w]
  clear h3w
  go_loopw [4] (fun i wr => ∃ (q : Nat) (es : List Int) (ea : Option Addr) (ec : Nat), i = .int .i64 q ∧ q + es.length = T ∧ Hid (∀ n ∈ es, 1 ≤ n ∧ n ≤ 10000) ∧ Hid (NewP w wr g (M + 4 * q) b nm ea ec es)) (fun i _ => (intOf i).toNat)
  case atStart => exact ⟨T, [], none, 0, by first | rfl | (rw [← hT]), by simp, Lib.hid (fun n hn => by simp at hn), Lib.hid ⟨D.out.src.less (by omega), D.out.res, D.out.var, D.out.row, D.out.up⟩⟩
  case round =>
    clear D hT v0 v1
    obtain ⟨q, es, ea, ec, rfl, hq, hes, D⟩ := hrel
    obtain ⟨wo', hwo'⟩ : ∃ wo : World, wo = wr := ⟨_, rfl⟩
    subst hwo'
    cases q with
    | zero =>
      obtain ⟨x0, x1⟩ := pieC_cells D.out.var
      go_wp2_with ((with_reducible refine at_st 36 (.tmp 2) (.tmp 30) ?_); refine wpList_store_own rfl 36 (.tmp 2) (.tmp 30) rfl w.heap.size 36 _ 1 1 [(⟨ByteArray.empty, none, 0, 0⟩ : RawP)] 0 _ (⟨nm, ea, es.length, ec⟩ : RawP) rfl rfl rfl (by kernel_rfl) rfl D.out.res (by simp) ?_; intro wz hRz hgz)
      obtain ⟨q0, q1⟩ := pieC_cells (rawP_two hRz)
      refine bodyPost_ret (v := .agg #[.string nm, .slice ea es.length ec]) (by simp [results, Tryz.results30, go_sem, q0, q1]) rfl ?_
      have hO := (D.out.row.kept hgz (own_apart_ty D.out.row D.out.res (by decide))).base (Nat.le_succ _)
      have hSz := D.out.src.markP D.out.res hgl hgz
      exact ⟨⟨nm, es⟩, ea, ec, rfl, hO, ⟨hnm, by dsimp only; omega, hes.out⟩, hSz.less (by omega), upMark D.out.up D.out.res (Nat.le_refl _) hgz⟩
    | succ q =>
      have hq1 : ((q + 1 : Nat) : Int) - 1 = q := by omega
      have hel : es.length + 1 ≤ 4294967296 := by omega
      replace hq := Lib.hid hq
      go_wp2_with fail
      refine (pick_c g (M + 4 * q + 2) 4 wo' (D.out.src.less (by omega)) (by omega) (by omega)).mono ?_
      rintro e w6 ⟨u, rfl, u0, u1, hS6, hg6⟩
      replace D := Lib.hid (D.out.drew hgl hS6 hg6)
      clear hS6 hg6
      obtain ⟨n, hn⟩ : ∃ n : Int, n = 100 * (1 + u) := ⟨_, rfl⟩
      have hn1 : 100 ≤ n ∧ n ≤ 400 := by omega
      have hnw : IntKind.i64.wrap (100 * (1 + u)) = n := by rw [hn]; exact IntWalk.i64_in _ (by omega)
      have huw : IntKind.i64.wrap (1 + u) = 1 + u := IntWalk.i64_in _ (by omega)
      have hn2 := Lib.hid hn
      clear hn
      have x1 := (pieC_cells D.out.var).2
      go_wp2_with fail
      clear hnw huw
      refine wp_region_heldS (S := (fun w' => w'.cell? ⟨b, 1, none⟩ = some (.slice ea es.length ec))) 9 (by kernel_rfl) x1 (fun hHeld => ?_)
      obtain ⟨wo, hwo⟩ : ∃ wo, wo = w6.drew := ⟨_, rfl⟩
      rw [← hwo] at hHeld ⊢
      have hbo : Below w6.heap.size w6 wo := by rw [hwo]; exact (Below.refl _ _).drew
      replace D := Lib.hid (D.out.later hbo)
      clear hwo x1 hbo
      refine wpAnyS_take (i := 0) (v := _) rfl (by kernel_rfl) (by kernel_rfl) (by kernel_rfl) (by kernel_rfl) (by kernel_rfl) (fun _ _ _ h => h) (Or.inl ⟨by rfl, (by intro w hSw; (try dsimp only at hSw); go_simp; try with_reducible rfl)⟩) (by assumption) ?_
      go_simp
      refine wpAnyS_take (i := 1) (v := _) rfl (by kernel_rfl) (by kernel_rfl) (by kernel_rfl) (by kernel_rfl) (by kernel_rfl) (fun _ _ _ h => h) (Or.inl ⟨by rfl, (by intro w hSw; (try dsimp only at hSw); go_simp; try with_reducible rfl)⟩) (by assumption) ?_
      go_simp
      refine wpAnyS_take (i := 2) (v := _) rfl (by kernel_rfl) (by kernel_rfl) (by kernel_rfl) (by kernel_rfl) (by kernel_rfl) (fun _ _ _ h => h) (Or.inl ⟨by rfl, (by intro w hSw; (try dsimp only at hSw); go_simp; try with_reducible rfl)⟩) (by assumption) ?_
      go_simp
      refine wpAnyS_take (i := 3) (v := _) rfl (by kernel_rfl) (by kernel_rfl) (by kernel_rfl) (by kernel_rfl) (by kernel_rfl) (fun _ _ _ h => h) (Or.inl ⟨by rfl, (by intro w hSw; (try dsimp only at hSw); go_simp; try with_reducible rfl)⟩) (by assumption) ?_
      go_simp
      refine wpAnyS_step (i := 4) (by kernel_rfl) rfl (fun K hK => ?_)
      go_simp
      (refine (pick_c g (M + 4 * q) 3 wo (D.out.src.less (by omega)) (by omega) (by omega)).mono ?_; rintro e wp ⟨z, rfl, z0, z1, hS7, hg7⟩; replace D := Lib.hid (D.out.drew hgl hS7 hg7); clear hS7 hg7; have hzw : IntKind.i64.wrap (n + z) = n + z := IntWalk.i64_in _ (by omega))
      refine hK.out _ _ ((pieC_cells D.out.var).2) (fun hHeld => ?_)
      clear hK K
      go_simp
      refine wpAnyS_take (i := 5) (v := _) rfl (by kernel_rfl) (by kernel_rfl) (by kernel_rfl) (by kernel_rfl) (by kernel_rfl) (fun _ _ _ h => h) (Or.inl ⟨by rfl, (by intro w hSw; (try dsimp only at hSw); go_simp; try with_reducible rfl)⟩) (by assumption) ?_
      go_simp
      refine wpAnyS_step (i := 6) (by kernel_rfl) rfl (fun K hK => ?_)
      go_simp
      (obtain ⟨wt, hwt⟩ : ∃ wt, wt = wp.alloc (.cells #[.int .i64 (n + z)] 2) := ⟨_, rfl⟩; rw [← hwt]; have hct : Below wp.heap.size wp wt := (by rw [hwt]; exact new_below _ _); have htmp : wt.heap[wp.heap.size]? = some (.cells (Flat.el (n + z)).toArray 2 (0, 0)) := (by rw [hwt]; exact heap_alloc_new _ _); clear hwt; have DP := Lib.hid D.out; replace D := Lib.hid (D.out.later hct))
      refine hK.out _ _ ((pieC_cells D.out.var).2) (fun hHeld => ?_)
      clear hK K
      go_simp
      have hrw := D.out.row
      have hvw := D.out.var
      have hBw : w.heap.size + 1 ≤ wt.heap.size := by have := (D.out.res.lt w.heap.size rfl).2; omega
      refine wpAnyS_step (i := 7) (by kernel_rfl) rfl (fun K hK => ?_)
      (refine cast (if_pos (by rfl)).symm ?_; refine wp_pushTo (.tmp 22) (.tmp 27) 32 rfl (w.heap.size + 1) 2 (.int .i64 0) 8 Tryz.underlying32 infoInt rfl _ es (n + z) rfl hrw wp.heap.size 1 rfl 2 htmp hel (by decide) hBw ?_; intro g' cap wq hO' hg' hl'; have hVp := hvw.kept hg' (own_apart_ty hvw hrw (by decide)))
      refine hK.out _ _ ((pieC_cells hVp).2) (fun hHeld => ?_)
      clear hK K
      go_simp
      refine wpAnyS_take (i := 8) (v := _) rfl (by kernel_rfl) (by kernel_rfl) (by kernel_rfl) (by kernel_rfl) (by kernel_rfl) (fun _ _ _ h => h) (Or.inl ⟨by rfl, (by intro w hSw; (try dsimp only at hSw); go_simp; try with_reducible rfl)⟩) (by assumption) ?_
      go_simp
      refine wpAnyS_last (i := 9) (by kernel_rfl) rfl (by kernel_rfl) (fun K hK => ?_)
      (refine cast (if_pos (by rfl)).symm ?_; refine wp_store_own 32 (.tmp 29) (.tmp 28) rfl (w.heap.size + 1) 36 b 2 2 (pieC nm ea es.length ec) 1 1 (⟨.slice (some ⟨g', 0, none⟩) (es.length + 1) cap, rfl⟩ : OneCell) rfl rfl rfl (by kernel_rfl) rfl hVp (by show 1 < 2; omega) ?_; intro wz hVq hgq)
      refine hK.out _ _ ?_
      clear hK K
      go_simp
      refine wpAnyS_done (by kernel_rfl) ?_ _
      replace hVq : Own (w.heap.size + 1) wz 36 (.slice (some ⟨b, 0, none⟩) 2 2) (pieC nm (some ⟨g', 0, none⟩) (es.length + 1) cap) := hVq
      have hD2 := DP.out.push hgl hct hO' hg' hVq hgq hne
      have hes2 : Hid (∀ y ∈ es ++ [n + z], 1 ≤ y ∧ y ≤ 10000) := Lib.hid fun y hy => by
        rcases List.mem_append.1 hy with hy | hy
        · exact hes.out y hy
        · simp only [List.mem_singleton] at hy; omega
      have hq2 : q + (es ++ [n + z]).length = T := by have := hq.out; simp; omega
      clear hVq hgq hO' hg' hl' hVp hrw hvw htmp hct DP D hHeld hzw
      go_wp2_with fail
      go_roundw
      case rel => exact ⟨q, _, _, _, by first | rfl | (rw [← hq1]; rfl) | go_num, hq2, hes2, Lib.hid hD2⟩
      case measure => simp [intOf]
end Go.Proofs.YtlmhiocmldhkhaaGreatDoor
