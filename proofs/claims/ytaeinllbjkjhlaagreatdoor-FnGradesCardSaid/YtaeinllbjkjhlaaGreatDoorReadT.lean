/- Numbers read back and texts cut: what the program's and the reference's functions compute. -/
import Derived.Test.YtaeinllbjkjhlaaGreatDoorNumText
import Derived.Test.YtaeinllbjkjhlaaGreatDoorReadLay
import Derived.Test.YtaeinllbjkjhlaaGreatDoorReadMath
import Derived.Test.YtaeinllbjkjhlaaGreatDoorNames
import Derived.Test.YtaeinllbjkjhlaaGreatDoorInts
import Derived.Test.YtaeinllbjkjhlaaGreatDoorSmall
namespace Go.Proofs.YtaeinllbjkjhlaaGreatDoor
open Go.RowKit

/-- The library's variables that reading looks at lie as their initialisers lay them. -/
structure TabR (w : World) : Prop where
  tab : Tab w
  ml : ∃ m : Int, w.cell? ⟨0, 0, none⟩ = some (.int .i64 m)
  es : ∃ ev, w.cell? ⟨1, 0, none⟩ = some ev ∧ (ev = .nilIface ∨ ∃ te pe, ev = .iface te pe)
  er : ∃ ev, w.cell? ⟨2, 0, none⟩ = some ev ∧ (ev = .nilIface ∨ ∃ te pe, ev = .iface te pe)
theorem TabR.below {w w' : World} (h : TabR w) (hb : Below w.heap.size w w') : TabR w' :=
  ⟨h.tab.below hb, let ⟨m, k⟩ := h.ml; ⟨m, kept_cell k hb⟩, let ⟨e, k, l⟩ := h.es; ⟨e, kept_cell k hb, l⟩, let ⟨e, k, l⟩ := h.er; ⟨e, kept_cell k hb, l⟩⟩
/-- What a text spells. -/
def rdB (p : ByteArray) : Option Int := readDec p.data.toList
/-- A number and whether there is one. -/
def numRes (o : Option Int) : Ending := .returned (.tuple #[.int .i64 (o.getD 0), .bool o.isSome])
theorem numRes_none {o : Option Int} (h : o = none) : numRes o = .returned (.tuple #[.int .i64 0, .bool false]) := by rw [h]; rfl
theorem numRes_some {o : Option Int} {n : Int} (h : o = some n) : numRes o = .returned (.tuple #[.int .i64 n, .bool true]) := by rw [h]; rfl
theorem size_len (s : ByteArray) : s.data.toList.length = s.size := by simp
theorem unsigned_size (l : List UInt8) : l.length ≤ (unsigned l).length + 1 := by
  unfold unsigned
  split
  · simp; omega
  · omega
theorem str_same {a b : ByteArray} (h : a = b) : (a.toList == b.toList) = true := by rw [h]; simp
theorem str_other {a b : ByteArray} (h : ¬ a = b) : (a.toList == b.toList) = false := by
  rw [beq_eq_false_iff_ne]
  intro e
  rw [Lib.toList_data, Lib.toList_data] at e
  exact h (Go.WideShapes.bytes_inj e)
theorem trimPre_dash (s : ByteArray) : Lib.trimPrefix s.data.toList (⟨#[45]⟩ : ByteArray).data.toList = unsigned s.data.toList := by
  unfold unsigned Lib.trimPrefix Lib.hasPrefix
  cases h : s.data.toList with
  | nil => rfl
  | cons c r =>
    by_cases hc : c = 45
    · subst hc; simp
    · have hc' : ¬ 45 = c := fun e => hc e.symm
      simp [hc, hc']
theorem decT_list (n : Int) : (decT n).data.toList = Lib.itoa n := by simp [decT]
theorem decT_eq {n : Int} {s : ByteArray} : decT n = s ↔ Lib.itoa n = s.data.toList :=
  ⟨fun h => by rw [← h, decT_list], fun h => by apply Go.WideShapes.bytes_inj; rw [decT_list, h]⟩
theorem rdB_long {s : ByteArray} (h : 19 < s.size) : rdB s = none := by
  cases hr : rdB s with
  | none => rfl
  | some n =>
    have h1 := (readDec_len hr).2.1
    have h2 := unsigned_size s.data.toList
    rw [size_len] at h2
    omega
theorem rdB_wide {s : ByteArray} (h : 18 < (unsigned s.data.toList).length) : rdB s = none := by
  cases hr : rdB s with
  | none => rfl
  | some n =>
    have h1 := (readDec_len hr).2.1
    omega
theorem rdB_ok {s : ByteArray} {v : Int} (h : ¬ 18 < (unsigned s.data.toList).length) (he : decT v = s) : rdB s = some v := readDec_of (decT_eq.1 he) (by omega)
theorem rdB_parse {s : ByteArray} {n : Int} (h : rdB s = some n) : Lib.parseIntB 64 s.data.toList = .ok n := by
  obtain ⟨h1, h2⟩ := readDec_some h
  rw [← h1]; exact parse_itoa h2
theorem rdB_unlike {s : ByteArray} {v : Int} (h : Lib.parseIntB 64 s.data.toList = .ok v) (he : ¬ decT v = s) : rdB s = none := by
  cases hr : rdB s with
  | none => rfl
  | some n =>
    have h1 := rdB_parse hr
    rw [h] at h1
    cases h1
    exact absurd (decT_eq.2 (readDec_some hr).1) he
theorem rdB_fail {s : ByteArray} (h : ∀ v, Lib.parseIntB 64 s.data.toList ≠ .ok v) : rdB s = none := by
  cases hr : rdB s with
  | none => rfl
  | some n => exact absurd (rdB_parse hr) (h n)
theorem parseOk_c (s : ByteArray) (v : Int) (h : Lib.parseIntB 64 s.data.toList = .ok v) (w : World) (hs : s.size ≤ 1048576) :
    Calls Tryz.prog 97 #[.string s, .int .i64 10, .int .i64 64] w fun e w' => e = .returned (.tuple #[.int .i64 v, .nilIface]) ∧ Below w.heap.size w w' :=
  (parseOk s (by omega) v h w).mono fun e w' ⟨h1, h2⟩ => ⟨h1, by
    rcases h2 with rfl | ⟨t, rfl⟩
    · exact Below.refl _ _
    · exact Lib.bytesWorld_below _ _ _⟩
theorem parseNot_c (s : ByteArray) (h : ∀ v, Lib.parseIntB 64 s.data.toList ≠ .ok v) (w : World) (hT : TabR w) (hs : s.size ≤ 1048576) :
    Calls Tryz.prog 97 #[.string s, .int .i64 10, .int .i64 64] w fun e w' => (∃ v te N, e = .returned (.tuple #[.int .i64 v, .iface te (.pointer (some ⟨N, 0, none⟩))])) ∧ Below w.heap.size w w' := by
  match hp : Lib.parseIntB 64 s.data.toList with
  | .ok v => exact absurd hp (h v)
  | Lib.NumEnd.syntax =>
    obtain ⟨ev, h1, h2⟩ := hT.es
    exact (parseSyntax s (by omega) hp ev w h1 h2).mono fun e w' ⟨N, h1, _, _, h2⟩ => ⟨⟨_, _, N, h1⟩, h2⟩
  | .range =>
    obtain ⟨ev, h1, h2⟩ := hT.er
    exact (parseRange s (by omega) hp ev w h1 h2).mono fun e w' ⟨N, h1, _, _, h2⟩ => ⟨⟨_, _, N, h1⟩, h2⟩
set_option maxHeartbeats 1600000 in
theorem readDecimal_c (s : ByteArray) (w : World) (hT : TabR w) (hs : s.size ≤ 1048576) :
    Calls Tryz.prog 48 #[.string s] w fun e w' => e = numRes (rdB s) ∧ Below w.heap.size w w' := by
  by_cases h1 : 19 < s.size
  · rw [numRes_none (rdB_long h1)]
    have h1' : 19 < (s.size : Int) := by omega
    go_enter Tryz.func48, Tryz.ntmps48
    go_wp2_with fail
    go_ret2
    exact ⟨rfl, Below.refl _ _⟩
  · have h1' : ¬ 19 < (s.size : Int) := by omega
    have hP := Lib.hid (trimPre s ⟨#[45]⟩ w)
    rw [trimPre_dash] at hP
    have hz : ((⟨(unsigned s.data.toList).toArray⟩ : ByteArray).size) = (unsigned s.data.toList).length := by
      show (List.toArray _).size = _
      simp
    by_cases h2 : 18 < (unsigned s.data.toList).length
    · rw [numRes_none (rdB_wide h2)]
      have h2' : 18 < ((⟨(unsigned s.data.toList).toArray⟩ : ByteArray).size : Int) := by omega
      replace hz := Lib.hid hz
      obtain ⟨u, hu⟩ : ∃ u, u = (⟨(unsigned s.data.toList).toArray⟩ : ByteArray) := ⟨_, rfl⟩
      rw [← hu] at hP h2'
      replace hu := Lib.hid hu
      go_enter Tryz.func48, Tryz.ntmps48
      go_wp2_with fail
      refine hP.out.mono ?_
      rintro e w' ⟨rfl, rfl⟩
      go_wp2_with fail
      go_ret2
      exact ⟨rfl, Below.refl _ _⟩
    · have h2' : ¬ 18 < ((⟨(unsigned s.data.toList).toArray⟩ : ByteArray).size : Int) := by omega
      replace hz := Lib.hid hz
      obtain ⟨u, hu⟩ : ∃ u, u = (⟨(unsigned s.data.toList).toArray⟩ : ByteArray) := ⟨_, rfl⟩
      rw [← hu] at hP h2'
      replace hu := Lib.hid hu
      by_cases hp : ∃ v, Lib.parseIntB 64 s.data.toList = .ok v
      · obtain ⟨v, hp⟩ := hp
        have hv := Lib.parseIntB_bounds hp
        have hC := Lib.hid (parseOk_c s v hp w hs)
        have hD := Lib.hid (fun w' hb => decimal_c v w' (by omega) (by omega) (hT.tab.below (w' := w') hb))
        replace h2 := Lib.hid h2
        replace hv := Lib.hid hv
        by_cases he : decT v = s
        · rw [numRes_some (rdB_ok h2.out he)]
          have he1 := str_same he
          replace hp := Lib.hid hp
          replace he := Lib.hid he
          go_enter Tryz.func48, Tryz.ntmps48
          go_wp2_with fail
          refine hP.out.mono ?_
          rintro e w' ⟨rfl, rfl⟩
          go_wp2_with fail
          refine hC.out.mono ?_
          rintro e w2 ⟨rfl, hb2⟩
          go_wp2_with fail
          refine (hD.out w2 hb2).mono ?_
          rintro e w3 ⟨rfl, hb3⟩
          go_wp2_with fail
          go_ret2
          exact ⟨rfl, upw hb2 hb3⟩
        · rw [numRes_none (rdB_unlike hp he)]
          have he1 := str_other he
          replace hp := Lib.hid hp
          replace he := Lib.hid he
          go_enter Tryz.func48, Tryz.ntmps48
          go_wp2_with fail
          refine hP.out.mono ?_
          rintro e w' ⟨rfl, rfl⟩
          go_wp2_with fail
          refine hC.out.mono ?_
          rintro e w2 ⟨rfl, hb2⟩
          go_wp2_with fail
          refine (hD.out w2 hb2).mono ?_
          rintro e w3 ⟨rfl, hb3⟩
          go_wp2_with fail
          go_ret2
          exact ⟨rfl, upw hb2 hb3⟩
      · have hp' : ∀ v, Lib.parseIntB 64 s.data.toList ≠ .ok v := fun v k => hp ⟨v, k⟩
        rw [numRes_none (rdB_fail hp')]
        have hC := Lib.hid (parseNot_c s hp' w hT hs)
        replace hp := Lib.hid hp
        replace hp' := Lib.hid hp'
        replace h2 := Lib.hid h2
        go_enter Tryz.func48, Tryz.ntmps48
        go_wp2_with fail
        refine hP.out.mono ?_
        rintro e w' ⟨rfl, rfl⟩
        go_wp2_with fail
        refine hC.out.mono ?_
        rintro e w2 ⟨⟨v, te, N, rfl⟩, hb2⟩
        go_wp2_with fail
        go_ret2
        exact ⟨rfl, hb2⟩
/-- A text's parts between a byte. -/
def parts (c : UInt8) (s : ByteArray) : List ByteArray := (splitC c s.data.toList).map fun l => ⟨l.toArray⟩
theorem parts_lists (c : UInt8) (s : ByteArray) : (parts c s).map (fun p => p.data.toList) = splitC c s.data.toList := by
  unfold parts
  rw [List.map_map]
  conv => rhs; rw [← List.map_id (splitC c s.data.toList)]
  apply List.map_congr_left
  intro x _
  simp
theorem parts_length (c : UInt8) (s : ByteArray) : (parts c s).length = (splitC c s.data.toList).length := by simp [parts]
theorem parts_of {c : UInt8} {s : ByteArray} {ps : List ByteArray} (h : ps.map (fun p => p.data.toList) = splitC c s.data.toList) : ps = parts c s := by
  unfold parts
  rw [← h, List.map_map]
  conv => lhs; rw [← List.map_id ps]
  apply List.map_congr_left
  intro x _
  apply Go.WideShapes.bytes_inj
  simp
theorem parts_small {c : UInt8} {s : ByteArray} : ∀ p ∈ parts c s, p.size ≤ s.size := by
  intro p hp
  unfold parts at hp
  obtain ⟨l, hl, rfl⟩ := List.mem_map.1 hp
  have h1 : ∀ (c : UInt8) (m : List UInt8), ∀ l ∈ splitC c m, l.length ≤ m.length := by
    intro c m
    induction m with
    | nil => intro l hl; simp [splitC] at hl; simp [hl]
    | cons b m ih =>
      intro l hl
      unfold splitC at hl
      split at hl
      · rcases List.mem_cons.1 hl with rfl | hl
        · simp
        · have := ih l hl; simp; omega
      · match hs : splitC c m with
        | [] => exact absurd hs (splitC_ne c m)
        | x :: r =>
          rw [hs] at hl ih
          rcases List.mem_cons.1 hl with rfl | hl
          · have := ih x (by simp); simp; omega
          · have := ih l (by simp [hl]); simp; omega
  have h2 := h1 c _ l hl
  rw [size_len] at h2
  show (List.toArray _).size ≤ _
  simpa using h2
/-- All texts are numbers. -/
def allNums (ps : List ByteArray) : Bool := ps.all fun p => (rdB p).isSome
/-- The number of a text. -/
def rd (p : ByteArray) : Int := (rdB p).getD 0
theorem rd_range (p : ByteArray) : -1000000000000000000 < rd p ∧ rd p < 1000000000000000000 := by
  unfold rd
  cases h : rdB p with
  | none => simp
  | some n => exact readDec_range h
theorem readNums_eq (c : UInt8) (s : ByteArray) : readNums c s.data.toList = if allNums (parts c s) then some ((parts c s).map rd) else none := by
  unfold readNums
  rw [← parts_lists]
  generalize parts c s = ps
  induction ps with
  | nil => rfl
  | cons p ps ih =>
    rw [List.map_cons, List.mapM_cons, ih]
    unfold allNums rd rdB at *
    simp only [List.all_cons, List.map_cons]
    cases h : readDec p.data.toList with
    | none => simp
    | some n =>
      cases h2 : ps.all (fun p => (readDec p.data.toList).isSome) <;> simp
theorem ext_list (s : ByteArray) (a b : Nat) : (s.extract a b).data.toList = (s.data.toList.take b).drop a := by
  rw [Lib.extract_data, List.drop_take]
theorem split_at {l : List UInt8} {m k : Nat} (hm : m ≤ k) (hk : k < l.length) : l.drop m = (l.take k).drop m ++ l[k] :: l.drop (k + 1) := by
  conv => lhs; rw [← List.take_append_drop k l]
  rw [List.drop_append_of_le_length (by simp; omega), List.drop_eq_getElem_cons hk]
theorem parts_step {c : UInt8} {s : ByteArray} {m k : Nat} (hm : m ≤ k) (hk : k < s.size) (hc : s[k] = c) (hf : c ∉ (s.extract m k).data.toList) : parts c (s.extract m s.size) = s.extract m k :: parts c (s.extract (k + 1) s.size) := by
  have e1 : (s.extract m s.size).data.toList = s.data.toList.drop m := by rw [ext_list, List.take_of_length_le (by simp)]
  have e2 : (s.extract (k + 1) s.size).data.toList = s.data.toList.drop (k + 1) := by rw [ext_list, List.take_of_length_le (by simp)]
  have hk' : k < s.data.toList.length := by simpa using hk
  have hc' : s.data.toList[k] = c := by rw [← hc]; rfl
  unfold parts
  rw [e1, e2, split_at hm hk', hc']
  rw [ext_list] at hf
  rw [splitC_cons _ hf, List.map_cons, ← ext_list]
theorem parts_end {c : UInt8} {s : ByteArray} (hf : c ∉ s.data.toList) : parts c s = [s] := by
  unfold parts
  rw [splitC_free hf]
  simp
theorem free_step {c : UInt8} {s : ByteArray} {m k : Nat} (hm : m ≤ k) (hk : k < s.size) (hc : ¬ s[k] = c) (hf : c ∉ (s.extract m k).data.toList) : c ∉ (s.extract m (k + 1)).data.toList := by
  have hk' : k < s.data.toList.length := by simpa using hk
  rw [ext_list] at hf ⊢
  rw [List.take_succ_eq_append_getElem hk', List.drop_append_of_le_length (by simp; omega)]
  intro h
  rcases List.mem_append.1 h with h | h
  · exact hf h
  · rw [List.mem_singleton] at h
    exact hc h.symm
theorem ext_none (s : ByteArray) (k : Nat) (c : UInt8) : c ∉ (s.extract k k).data.toList := by
  rw [ext_list, List.drop_of_length_le (by rw [List.length_take]; omega)]; simp
theorem ext_whole (s : ByteArray) : s.extract 0 s.size = s := by
  apply Go.WideShapes.bytes_inj
  rw [ext_list, List.drop_zero, List.take_of_length_le (by simp)]
theorem own_none {α : Type} [Flat α] (B : Nat) (w : World) (e : TypeId) : Own B w e (.slice none 0 0) ([] : List α) := ⟨by simp [flat], Or.inl ⟨rfl, rfl⟩⟩
set_option maxRecDepth 100000 in
set_option maxHeartbeats 1600000 in
theorem l01Split_c (s : ByteArray) (c : UInt8) (w : World) (hs : s.size ≤ 1048576) :
    Calls Tryz.prog 84 #[.string s, .int .u8 c.toNat] w fun e w' => ∃ v, e = .returned v ∧ Own w.heap.size w' 9 v (parts c s) ∧ Below w.heap.size w w' := by
  have hO0 := Lib.hid (own_new (α := ByteArray) w 9)
  have hb0 : Below w.heap.size w (w.alloc (.cells #[] 9)) := (Below.refl _ _).alloc (Nat.le_refl _) _
  have hp0 : Hid (parts c s = [] ++ parts c (s.extract 0 s.size)) := Lib.hid (by rw [ext_whole]; rfl)
  have hf0 := Lib.hid (ext_none s 0 c)
  go_enter Tryz.func84, Tryz.ntmps84
  go_wp2_with fail
  go_loopw [5, 6, 7] (fun v f i wr => ∃ (k m : Nat) (xs : List ByteArray), m ≤ k ∧ k ≤ s.size ∧ f = .int .i64 m ∧ i = .int .i64 k ∧ xs.length ≤ k ∧ Hid (parts c s = xs ++ parts c (s.extract m s.size)) ∧ Hid (c ∉ (s.extract m k).data.toList) ∧ Hid (Own w.heap.size wr 9 v xs) ∧ Below w.heap.size w wr) (fun _ _ i _ => s.size - (intOf i).toNat)
  case atStart => exact ⟨0, 0, [], Nat.le_refl _, Nat.zero_le _, rfl, rfl, Nat.le_refl _, hp0, hf0, hO0, hb0⟩
  case round =>
    obtain ⟨k, m, xs, hm, hk, rfl, rfl, hxl, hp, hf, hO, hb⟩ := hrel
    have hsz := hb.size
    by_cases hlt : k < s.size
    · by_cases hc : s[k] = c
      · have hE := Lib.hid (parts_step hm hlt hc hf.out)
        have hcn : ((s[k].toNat : Int) == (c.toNat : Int)) = true := by rw [hc]; simp
        obtain ⟨x, hx⟩ : ∃ x, x = s.extract m k := ⟨_, rfl⟩
        have hp2 : Hid (parts c s = (xs ++ [s.extract m k]) ++ parts c (s.extract (k + 1) s.size)) := Lib.hid (by rw [hp.out, hE.out]; simp)
        replace hc := Lib.hid hc
        have hb3 : Below wr.heap.size wr (wr.alloc (.cells #[.string (s.extract m k)] 9)) := (Below.refl _ _).alloc (Nat.le_refl _) _
        replace hx := Lib.hid hx
        go_wp2_with (at_builtin; refine wpList_push rfl (.tmp 20) (.tmp 25) 72 rfl w.heap.size 9 (.string ⟨#[]⟩) 16 Tryz.underlying72 infoStr rfl _ _ (s.extract m k) rfl (hO.out.later hb3) _ _ rfl 9 (heap_alloc_new _ _) (by omega) (by decide) (by simp; omega) ?_; intro v1 w7 hO1 hg1)
        go_roundw
        case rel => exact ⟨k + 1, k + 1, xs ++ [s.extract m k], Nat.le_refl _, by omega, by go_num, by go_num, by simp; omega, hp2, Lib.hid (ext_none s (k + 1) c), Lib.hid hO1, below_mark (upw hb hb3) (hO.out.later hb3) (Nat.le_refl _) hg1⟩
        case measure => simp [intOf]; omega
      · have hF := Lib.hid (free_step hm hlt hc hf.out)
        have hcn : ((s[k].toNat : Int) == (c.toNat : Int)) = false := by
          rw [beq_eq_false_iff_ne]
          intro e
          exact hc (UInt8.toNat_inj.1 (by omega))
        replace hc := Lib.hid hc
        go_wp2_with fail
        go_roundw
        case rel => exact ⟨k + 1, m, xs, by omega, by omega, rfl, by go_num, by omega, hp, hF, hO, hb⟩
        case measure => simp [intOf]; omega
    · obtain rfl : k = s.size := by omega
      have hp2 : Hid (parts c s = xs ++ [s.extract m s.size]) := Lib.hid (by rw [hp.out, parts_end hf.out])
      have hb3 : Below wr.heap.size wr (wr.alloc (.cells #[.string (s.extract m s.size)] 9)) := (Below.refl _ _).alloc (Nat.le_refl _) _
      go_wp2_with (at_builtin; refine wpList_push rfl (.tmp 29) (.tmp 33) 72 rfl w.heap.size 9 (.string ⟨#[]⟩) 16 Tryz.underlying72 infoStr rfl _ _ (s.extract m s.size) rfl (hO.out.later hb3) _ _ rfl 9 (heap_alloc_new _ _) (by omega) (by decide) (by simp; omega) ?_; intro v1 w7 hO1 hg1)
      go_ret
      exact ⟨_, rfl, by rw [hp2.out]; exact hO1, below_mark (upw hb hb3) (hO.out.later hb3) (Nat.le_refl _) hg1⟩
theorem valD_lt : ∀ (l : List UInt8) (acc : Nat), l.all dig = true → valD acc l < (acc + 1) * 10 ^ l.length
  | [], acc, _ => by show acc < (acc + 1) * 1; omega
  | c :: r, acc, h => by
    rw [List.all_cons, Bool.and_eq_true] at h
    have hc := h.1
    unfold dig at hc
    rw [Bool.and_eq_true, decide_eq_true_eq, decide_eq_true_eq] at hc
    have ih := valD_lt r (10 * acc + (c.toNat - 48)) h.2
    show valD (10 * acc + (c.toNat - 48)) r < (acc + 1) * 10 ^ (r.length + 1)
    refine Nat.lt_of_lt_of_le ih ?_
    rw [Nat.pow_succ, Nat.mul_comm (10 ^ r.length) 10, ← Nat.mul_assoc]
    exact Nat.mul_le_mul_right _ (by omega)
theorem valD_le {l : List UInt8} (h : l.all dig = true) (hl : l.length ≤ 18) : valD 0 l < 1000000000000000000 := by
  have h1 := valD_lt l 0 h
  have h2 : 10 ^ l.length ≤ 10 ^ 18 := Nat.pow_le_pow_right (by omega) hl
  omega
theorem rdB_nodig {s : ByteArray} (h : (unsigned s.data.toList).all dig = false) : rdB s = none := by
  cases hr : rdB s with
  | none => rfl
  | some n => rw [(readDec_len hr).2.2] at h; cases h
theorem rdB_short {s : ByteArray} (h : (unsigned s.data.toList).length < 1) : rdB s = none := by
  cases hr : rdB s with
  | none => rfl
  | some n => have := (readDec_len hr).1; omega
theorem rdB_spelled {s : ByteArray} (h1 : ¬ (unsigned s.data.toList).length < 1) (h2 : ¬ 18 < (unsigned s.data.toList).length) (h3 : (unsigned s.data.toList).all dig = true) :
    rdB s = if decT (spelled s.data.toList) = s then some (spelled s.data.toList) else none := by
  by_cases he : decT (spelled s.data.toList) = s
  · rw [if_pos he]; exact readDec_pos ⟨by omega, by omega, h3, decT_eq.1 he⟩
  · rw [if_neg he]; exact readDec_neg fun h => he (decT_eq.2 h.2.2.2)
theorem valD_take {l : List UInt8} {k : Nat} (hk : k < l.length) : valD 0 (l.take (k + 1)) = 10 * valD 0 (l.take k) + (l[k].toNat - 48) := by
  rw [List.take_succ_eq_append_getElem hk, valD_append, valD_one]
theorem dig_digitB (c : UInt8) : digitB (c.toNat : Int) = dig c := by
  unfold digitB inr dig
  rw [Bool.eq_iff_iff]
  simp
  omega
set_option maxHeartbeats 3200000 in
theorem l01Number_c (s : ByteArray) (w : World) (hs : s.size ≤ 1048576) :
    Calls Tryz.prog 85 #[.string s] w fun e w' => e = numRes (rdB s) ∧ Below w.heap.size w w' := by
  by_cases h0 : s.size < 1
  · obtain rfl : s = ⟨#[]⟩ := by
      have : s.data.size = 0 := by have : s.data.size = s.size := rfl; omega
      cases s; simp at this; simp [this]
    go_enter Tryz.func85, Tryz.ntmps85
    go_wp2_with fail
    go_ret2
    exact ⟨rfl, Below.refl _ _⟩
  · have n1 : s.toList ≠ [] := fun e => by
      have : s.toList.length = s.size := toList_len s
      rw [e] at this; simp at this; omega
    have n2 : s.toList.isEmpty = false := by simpa using n1
    replace n1 : ¬ s.toList = [] := n1
    have h0' : 0 < s.size := by omega
    have hl0 : 0 < s.data.toList.length := by simpa using h0'
    have hhead : s.data.toList.head? = some s[0] := by rw [List.head?_eq_getElem?, List.getElem?_eq_getElem hl0]; rfl
    by_cases hc : s[0] = 45
    · obtain ⟨T, hT⟩ : ∃ T, T = s.extract 1 s.size := ⟨_, rfl⟩
      have hu : unsigned s.data.toList = T.data.toList := by
        rw [hT]; unfold unsigned; rw [hhead]
        first
          | (rw [if_pos (by rw [hc]), ext_list, List.take_of_length_le (by simp)]; simp)
          | rw [if_neg (by simpa using hc)]
      have hZ : spelled s.data.toList = -(valD 0 (unsigned s.data.toList) : Int) := by
        unfold spelled; rw [hhead]
        first | rw [if_pos (by rw [hc])] | rw [if_neg (by simpa using hc)]
      have hcn : ((s[0].toNat : Int) == 45) = decide (s[0] = 45) := by
        by_cases k : s[0] = 45
        · simp [k]
        · rw [decide_eq_false k, beq_eq_false_iff_ne]
          intro e; exact k (UInt8.toNat_inj.1 (by simpa using (show s[0].toNat = 45 by omega)))
      have hTz : T.size = (unsigned s.data.toList).length := by rw [hu]; simp
      have hTs : T.size ≤ s.size ∧ (T.size < s.size ↔ s[0] = 45) := by
        rw [hT]
        first
          | (have e : (s.extract 1 s.size).size = s.size - 1 := by simp
             rw [e]; exact ⟨by omega, fun _ => hc, fun _ => by omega⟩)
          | exact ⟨Nat.le_refl _, fun k => absurd k (Nat.lt_irrefl _), fun k => absurd k hc⟩
      have hs0 : (s.extract 1 s.size).size ≤ 1048576 := by rw [← hT]; omega
      replace hZ := Lib.hid hZ
      replace hhead := Lib.hid hhead
      have hc0 : ((s[0].toNat : Int) == 45) = true := by rw [hcn]; simp [hc]
      clear hcn
      have eQ : (s.extract 1 s.size).size = s.size - 1 := by simp
      by_cases g1 : T.size < 1
      · rw [numRes_none (rdB_short (by omega))]
        have q1 : ((s.size - 1 : Nat) : Int) < 1 := by rw [← eQ, ← hT]; omega
        replace hT := Lib.hid hT
        replace eQ := Lib.hid eQ
        go_enter Tryz.func85, Tryz.ntmps85
        go_wp2_with fail
        go_ret2
        exact ⟨rfl, Below.refl _ _⟩
      · by_cases g2 : 18 < T.size
        · rw [numRes_none (rdB_wide (by omega))]
          have q1 : ¬ ((s.size - 1 : Nat) : Int) < 1 := by rw [← eQ, ← hT]; omega
          have q2 : 18 < ((s.size - 1 : Nat) : Int) := by rw [← eQ, ← hT]; omega
          replace hT := Lib.hid hT
          go_enter Tryz.func85, Tryz.ntmps85
          go_wp2_with fail
          go_ret2
          exact ⟨rfl, Below.refl _ _⟩
        · have q1 : ¬ ((s.size - 1 : Nat) : Int) < 1 := by rw [← eQ, ← hT]; omega
          have q2 : ¬ 18 < ((s.size - 1 : Nat) : Int) := by rw [← eQ, ← hT]; omega
          have hlt0 : (T.size < s.size) = (true = true) := by have := hTs.2; simp [hc] at this; simp; omega
          have hsp := Lib.hid (@rdB_spelled s (by omega) (by omega))
          have hnd := Lib.hid (@rdB_nodig s)
          rw [hu] at hsp hnd hZ
          rw [hZ.out] at hsp
          have hD := Lib.hid (fun z w' h0 h1 => l01Dec_c z w' h0 h1)
          replace hu := Lib.hid hu
          replace hTs := Lib.hid hTs
          replace hZ := Lib.hid hZ
          replace hTz := Lib.hid hTz
          replace eQ := Lib.hid eQ
          go_enter Tryz.func85, Tryz.ntmps85
          go_wp2_with fail
          (rw [← hT]; replace hT := Lib.hid hT)
          clear q1 q2 hc0
          go_loop [5, 6] (fun nv i => ∃ k : Nat, k ≤ T.size ∧ i = .int .i64 k ∧ nv = .int .i64 (valD 0 (T.data.toList.take k) : Nat) ∧ Hid ((T.data.toList.take k).all dig = true)) (fun _ i => T.size - (intOf i).toNat)
          case atStart => exact ⟨0, Nat.zero_le _, rfl, rfl, Lib.hid rfl⟩
          case round =>
            obtain ⟨k, hk, rfl, rfl, hall⟩ := hrel
            by_cases hlt : k < T.size
            · have hkl : k < T.data.toList.length := by simpa using hlt
              have hV : valD 0 (T.data.toList.take k) < 100000000000000000 := by
                have h1 := valD_lt _ 0 hall.out
                have h2 : 10 ^ (T.data.toList.take k).length ≤ 10 ^ 17 := Nat.pow_le_pow_right (by omega) (by rw [List.length_take]; omega)
                omega
              have hE := Lib.hid (valD_take hkl)
              obtain ⟨V, hVe⟩ : ∃ V, V = valD 0 (T.data.toList.take k) := ⟨_, rfl⟩
              rw [← hVe] at hV hE ⊢
              replace hVe := Lib.hid hVe
              have hdd := dig_digitB T[k]
              cases hd : dig T[k]
              · have hn := Lib.hid (hnd.out (by
                  rw [List.all_eq_false]; exact ⟨T.data.toList[k], List.getElem_mem hkl, by show ¬ dig T[k] = true; rw [hd]; simp⟩))
                rw [hd] at hdd
                go_wp2_with fail
                refine (as_bool hdd (l01Digit_c _ _)).mono ?_
                rintro e w' ⟨rfl, rfl⟩
                go_wp2_with fail
                go_ret2
                exact ⟨by rw [numRes_none hn.out]; rfl, Below.refl _ _⟩
              · have hall2 : Hid ((T.data.toList.take (k + 1)).all dig = true) := Lib.hid (by
                  rw [List.take_succ_eq_append_getElem hkl, List.all_append, hall.out]
                  simp only [List.all_cons, List.all_nil, Bool.and_true, Bool.true_and]
                  exact hd)
                have hdr := hd
                unfold dig at hdr
                rw [Bool.and_eq_true, decide_eq_true_eq, decide_eq_true_eq] at hdr
                rw [hd] at hdd
                have hE2 : Hid (valD 0 (T.data.toList.take (k + 1)) = 10 * V + (T[k].toNat - 48)) := hE
                clear hE
                have e3 : ((T[k].toNat : Int) - 48) % 256 = (T[k].toNat : Int) - 48 := by omega
                replace hd := Lib.hid hd
                go_wp2_with fail
                refine (as_bool hdd (l01Digit_c _ _)).mono ?_
                rintro e w' ⟨rfl, rfl⟩
                clear hdd
                go_wp2_with fail
                go_round
                case rel => exact ⟨k + 1, by omega, by go_num, by rw [hE2.out]; congr 1; omega, hall2⟩
                case measure => simp [intOf]; omega
            · obtain rfl : k = T.size := by omega
              have htk : T.data.toList.take T.size = T.data.toList := List.take_of_length_le (by simp)
              rw [htk] at hall ⊢
              have hV := valD_le hall.out (by rw [size_len]; omega)
              replace hsp := Lib.hid (hsp.out hall.out)
              obtain ⟨V, hVe⟩ : ∃ V, V = valD 0 T.data.toList := ⟨_, rfl⟩
              rw [← hVe] at hV hsp ⊢
              replace hVe := Lib.hid hVe
              replace htk := Lib.hid htk
              by_cases he : decT (-(V : Int) : Int) = s
              · have he1 := str_same he
                have hr := hsp.out
                rw [if_pos he] at hr
                replace hr := Lib.hid hr
                replace he := Lib.hid he
                go_wp2_with fail
                refine (hD.out _ _ (by omega) (by omega)).mono ?_
                rintro e w' ⟨rfl, hb⟩
                go_wp2_with fail
                go_ret2
                exact ⟨by rw [numRes_some hr.out]; rfl, hb⟩
              · have he1 := str_other he
                have hr := hsp.out
                rw [if_neg he] at hr
                replace hr := Lib.hid hr
                replace he := Lib.hid he
                go_wp2_with fail
                refine (hD.out _ _ (by omega) (by omega)).mono ?_
                rintro e w' ⟨rfl, hb⟩
                go_wp2_with fail
                go_ret2
                exact ⟨by rw [numRes_none hr.out]; rfl, hb⟩
    · obtain ⟨T, hT⟩ : ∃ T, T = s := ⟨_, rfl⟩
      have hu : unsigned s.data.toList = T.data.toList := by
        rw [hT]; unfold unsigned; rw [hhead]
        first
          | (rw [if_pos (by rw [hc]), ext_list, List.take_of_length_le (by simp)]; simp)
          | rw [if_neg (by simpa using hc)]
      have hZ : spelled s.data.toList = (valD 0 (unsigned s.data.toList) : Int) := by
        unfold spelled; rw [hhead]
        first | rw [if_pos (by rw [hc])] | rw [if_neg (by simpa using hc)]
      have hcn : ((s[0].toNat : Int) == 45) = decide (s[0] = 45) := by
        by_cases k : s[0] = 45
        · simp [k]
        · rw [decide_eq_false k, beq_eq_false_iff_ne]
          intro e; exact k (UInt8.toNat_inj.1 (by simpa using (show s[0].toNat = 45 by omega)))
      have hTz : T.size = (unsigned s.data.toList).length := by rw [hu]; simp
      have hTs : T.size ≤ s.size ∧ (T.size < s.size ↔ s[0] = 45) := by
        rw [hT]
        first
          | (have e : (s.extract 1 s.size).size = s.size - 1 := by simp
             rw [e]; exact ⟨by omega, fun _ => hc, fun _ => by omega⟩)
          | exact ⟨Nat.le_refl _, fun k => absurd k (Nat.lt_irrefl _), fun k => absurd k hc⟩
      have hs0 : (s).size ≤ 1048576 := by rw [← hT]; omega
      replace hZ := Lib.hid hZ
      replace hhead := Lib.hid hhead
      have hc0 : ((s[0].toNat : Int) == 45) = false := by rw [hcn]; simp [hc]
      clear hcn
      have eQ : (s).size = s.size := by simp
      by_cases g1 : T.size < 1
      · rw [numRes_none (rdB_short (by omega))]
        have q1 : ((s.size : Nat) : Int) < 1 := by rw [← eQ, ← hT]; omega
        replace hT := Lib.hid hT
        replace eQ := Lib.hid eQ
        go_enter Tryz.func85, Tryz.ntmps85
        go_wp2_with fail
        go_ret2
        exact ⟨rfl, Below.refl _ _⟩
      · by_cases g2 : 18 < T.size
        · rw [numRes_none (rdB_wide (by omega))]
          have q1 : ¬ ((s.size : Nat) : Int) < 1 := by rw [← eQ, ← hT]; omega
          have q2 : 18 < ((s.size : Nat) : Int) := by rw [← eQ, ← hT]; omega
          replace hT := Lib.hid hT
          go_enter Tryz.func85, Tryz.ntmps85
          go_wp2_with fail
          go_ret2
          exact ⟨rfl, Below.refl _ _⟩
        · have q1 : ¬ ((s.size : Nat) : Int) < 1 := by rw [← eQ, ← hT]; omega
          have q2 : ¬ 18 < ((s.size : Nat) : Int) := by rw [← eQ, ← hT]; omega
          have hlt0 : (T.size < s.size) = (false = true) := by have := hTs.2; simp [hc] at this; simp; omega
          have hsp := Lib.hid (@rdB_spelled s (by omega) (by omega))
          have hnd := Lib.hid (@rdB_nodig s)
          rw [hu] at hsp hnd hZ
          rw [hZ.out] at hsp
          have hD := Lib.hid (fun z w' h0 h1 => l01Dec_c z w' h0 h1)
          replace hu := Lib.hid hu
          replace hTs := Lib.hid hTs
          replace hZ := Lib.hid hZ
          replace hTz := Lib.hid hTz
          replace eQ := Lib.hid eQ
          go_enter Tryz.func85, Tryz.ntmps85
          go_wp2_with fail
          subst hT
          clear q1 q2 hc0
          go_loop [5, 6] (fun nv i => ∃ k : Nat, k ≤ T.size ∧ i = .int .i64 k ∧ nv = .int .i64 (valD 0 (T.data.toList.take k) : Nat) ∧ Hid ((T.data.toList.take k).all dig = true)) (fun _ i => T.size - (intOf i).toNat)
          case atStart => exact ⟨0, Nat.zero_le _, rfl, rfl, Lib.hid rfl⟩
          case round =>
            obtain ⟨k, hk, rfl, rfl, hall⟩ := hrel
            by_cases hlt : k < T.size
            · have hkl : k < T.data.toList.length := by simpa using hlt
              have hV : valD 0 (T.data.toList.take k) < 100000000000000000 := by
                have h1 := valD_lt _ 0 hall.out
                have h2 : 10 ^ (T.data.toList.take k).length ≤ 10 ^ 17 := Nat.pow_le_pow_right (by omega) (by rw [List.length_take]; omega)
                omega
              have hE := Lib.hid (valD_take hkl)
              obtain ⟨V, hVe⟩ : ∃ V, V = valD 0 (T.data.toList.take k) := ⟨_, rfl⟩
              rw [← hVe] at hV hE ⊢
              replace hVe := Lib.hid hVe
              have hdd := dig_digitB T[k]
              cases hd : dig T[k]
              · have hn := Lib.hid (hnd.out (by
                  rw [List.all_eq_false]; exact ⟨T.data.toList[k], List.getElem_mem hkl, by show ¬ dig T[k] = true; rw [hd]; simp⟩))
                rw [hd] at hdd
                go_wp2_with fail
                refine (as_bool hdd (l01Digit_c _ _)).mono ?_
                rintro e w' ⟨rfl, rfl⟩
                go_wp2_with fail
                go_ret2
                exact ⟨by rw [numRes_none hn.out]; rfl, Below.refl _ _⟩
              · have hall2 : Hid ((T.data.toList.take (k + 1)).all dig = true) := Lib.hid (by
                  rw [List.take_succ_eq_append_getElem hkl, List.all_append, hall.out]
                  simp only [List.all_cons, List.all_nil, Bool.and_true, Bool.true_and]
                  exact hd)
                have hdr := hd
                unfold dig at hdr
                rw [Bool.and_eq_true, decide_eq_true_eq, decide_eq_true_eq] at hdr
                rw [hd] at hdd
                have hE2 : Hid (valD 0 (T.data.toList.take (k + 1)) = 10 * V + (T[k].toNat - 48)) := hE
                clear hE
                have e3 : ((T[k].toNat : Int) - 48) % 256 = (T[k].toNat : Int) - 48 := by omega
                replace hd := Lib.hid hd
                go_wp2_with fail
                refine (as_bool hdd (l01Digit_c _ _)).mono ?_
                rintro e w' ⟨rfl, rfl⟩
                clear hdd
                go_wp2_with fail
                go_round
                case rel => exact ⟨k + 1, by omega, by go_num, by rw [hE2.out]; congr 1; omega, hall2⟩
                case measure => simp [intOf]; omega
            · obtain rfl : k = T.size := by omega
              have htk : T.data.toList.take T.size = T.data.toList := List.take_of_length_le (by simp)
              rw [htk] at hall ⊢
              have hV := valD_le hall.out (by rw [size_len]; omega)
              replace hsp := Lib.hid (hsp.out hall.out)
              obtain ⟨V, hVe⟩ : ∃ V, V = valD 0 T.data.toList := ⟨_, rfl⟩
              rw [← hVe] at hV hsp ⊢
              replace hVe := Lib.hid hVe
              replace htk := Lib.hid htk
              by_cases he : decT ((V : Int) : Int) = T
              · have he1 := str_same he
                have hr := hsp.out
                rw [if_pos he] at hr
                replace hr := Lib.hid hr
                replace he := Lib.hid he
                go_wp2_with fail
                refine (hD.out _ _ (by omega) (by omega)).mono ?_
                rintro e w' ⟨rfl, hb⟩
                go_wp2_with fail
                go_ret2
                exact ⟨by rw [numRes_some hr.out]; rfl, hb⟩
              · have he1 := str_other he
                have hr := hsp.out
                rw [if_neg he] at hr
                replace hr := Lib.hid hr
                replace he := Lib.hid he
                go_wp2_with fail
                refine (hD.out _ _ (by omega) (by omega)).mono ?_
                rintro e w' ⟨rfl, hb⟩
                go_wp2_with fail
                go_ret2
                exact ⟨by rw [numRes_none hr.out]; rfl, hb⟩
/-- So many numbers with a separator. -/
def numsN (c : UInt8) (n : Nat) (s : ByteArray) : Option (List Int) := if (parts c s).length = n then readNums c s.data.toList else none
theorem numsN_len {c : UInt8} {n : Nat} {s : ByteArray} (h : ¬ (parts c s).length = n) : numsN c n s = none := by unfold numsN; rw [if_neg h]
theorem numsN_bad {c : UInt8} {n : Nat} {s : ByteArray} {k : Nat} (hk : k < (parts c s).length) (h : rdB (parts c s)[k] = none) : numsN c n s = none := by
  unfold numsN
  split
  · have : allNums (parts c s) = false := by
      unfold allNums
      rw [List.all_eq_false]
      exact ⟨_, List.getElem_mem hk, by simp [h]⟩
    rw [readNums_eq, this]; rfl
  · rfl
theorem numsN_good {c : UInt8} {n : Nat} {s : ByteArray} (h : (parts c s).length = n) (ha : allNums (parts c s) = true) : numsN c n s = some ((parts c s).map rd) := by
  unfold numsN
  rw [if_pos h, readNums_eq, ha]; rfl
theorem at_cellsOf (w : World) (t : TypeId) (ps : List ByteArray) (N : Nat) (_h : ps.length ≤ N) : At (w.alloc (.cells (Lib.cellsOf ps N) t)) (some ⟨w.heap.size, 0, none⟩) ps := by
  refine Or.inr ⟨w.heap.size, 0, rfl, by simp, fun i hi => ⟨_, rfl, fun j v hv => ?_⟩⟩
  obtain rfl : j = 0 := by
    have h1 : j < 1 := (List.getElem?_eq_some_iff.1 hv).1
    omega
  have hv' : v = .string ps[i] := by
    have h2 : ([Value.string ps[i]] : List Value)[0]? = some v := hv
    simpa using h2.symm
  subst hv'
  rw [cell_of_row _ _ _ _ t (0, 0) (heap_alloc_new _ _)]
  simp [Lib.cellsOf, Rep.k, Flat.k, List.getElem?_append_left, hi]
set_option maxHeartbeats 3200000 in
theorem readNumbers_c (s : ByteArray) (c : UInt8) (n : Nat) (w : World) (hT : TabR w) (hs : s.size ≤ 1048576) (hn : n ≤ 1048577) :
    Calls Tryz.prog 81 #[.string s, .string ⟨#[c]⟩, .int .i64 n] w fun e w' => ∃ v, e = .returned (.tuple #[v, .bool (numsN c n s).isSome]) ∧ Own w.heap.size w' 2 v ((numsN c n s).getD []) ∧ Below w.heap.size w w' := by
  obtain ⟨m, hm⟩ := hT.ml
  have hS := strSplitN s ⟨#[c]⟩ (n + 1) m w (by omega) hm (Nat.le_refl 1) (by omega) (by omega)
  have en : ((n + 1 : Nat) : Int) = (n : Int) + 1 := by omega
  rw [en] at hS
  obtain ⟨N, hN⟩ : ∃ N, N = min (n + 1) (s.size + 1) := ⟨_, rfl⟩
  obtain ⟨ps, hps⟩ : ∃ ps, ps = Lib.splitB ⟨#[c]⟩ 0 (min (n + 1) (s.size + 1) - 1) s := ⟨_, rfl⟩
  have hpl : ps.length ≤ N := by rw [hps, hN]; have := Lib.splitB_length_le ⟨#[c]⟩ 0 (min (n + 1) (s.size + 1) - 1) s; omega
  have hmap : ps.map (fun p => p.data.toList) = Lib.splitK [c] 0 (min (n + 1) (s.data.toList.length + 1) - 1) s.data.toList := by rw [hps, Lib.splitB_data, size_len]
  have hlen : ps.length = n ↔ (parts c s).length = n := by
    rw [parts_length, ← splitK_count, ← hmap, List.length_map]
  rw [← hps, ← hN] at hS
  have hb1 : Below w.heap.size w (w.alloc (.cells (Lib.cellsOf ps N) 9)) := (Below.refl _ _).alloc (Nat.le_refl _) _
  have hA := Lib.hid (at_cellsOf w 9 ps N hpl)
  replace hS := Lib.hid hS
  replace hmap := Lib.hid hmap
  replace hps := Lib.hid hps
  replace hN := Lib.hid hN
  replace hT := Lib.hid hT
  clear hm
  by_cases hl : ps.length = n
  · have hpp : ps = parts c s := parts_of (by rw [hmap.out]; exact splitK_all c _ (n + 1) (by rw [← parts_length, ← hlen.1 hl]; omega) )
    have hsm := Lib.hid (parts_small (c := c) (s := s))
    rw [← hpp] at hsm
    have hll := hlen.1 hl
    have hbad := Lib.hid (fun k => @numsN_bad c n s k)
    have hgood := Lib.hid (@numsN_good c n s hll)
    rw [← hpp] at hbad hgood
    replace hll := Lib.hid hll
    replace hpp := Lib.hid hpp
    replace hlen := Lib.hid hlen
    subst hl
    obtain ⟨w1, hw1⟩ : ∃ w1, w1 = w.alloc (.cells (Lib.cellsOf ps N) 9) := ⟨_, rfl⟩
    rw [← hw1] at hS hA hb1
    replace hw1 := Lib.hid hw1
    have hO0 := Lib.hid (own_new (α := Int) w1 2)
    have hs1 := Lib.hid hb1.size
    have hb0 := upw hb1 (show Below w1.heap.size w1 (w1.alloc (.cells #[] 2)) from (Below.refl _ _).alloc (Nat.le_refl _) _)
    have hB1 : Below w1.heap.size w1 (w1.alloc (.cells #[] 2)) := (Below.refl _ _).alloc (Nat.le_refl _) _
    go_enter Tryz.func81, Tryz.ntmps81
    go_wp2_with fail
    refine hS.out.mono ?_
    rintro e w1 ⟨rfl, rfl⟩
    go_wp2_with fail
    go_loopw [9, 11, 12, 13, 26] (fun v _ _ _ i wr => ∃ k : Nat, k ≤ ps.length ∧ i = .int .i64 k ∧ Hid (Own w1.heap.size wr 2 v ((ps.take k).map rd)) ∧ Hid (allNums (ps.take k) = true) ∧ Below w.heap.size w wr ∧ Below w1.heap.size w1 wr) (fun _ _ _ _ i _ => ps.length - (intOf i).toNat)
    case atStart => exact ⟨0, Nat.zero_le _, rfl, hO0, Lib.hid rfl, hb0, hB1⟩
    case round =>
      obtain ⟨k, hk, rfl, hO, hall, hb, hB⟩ := hrel
      by_cases hlt : k < ps.length
      · have c0 := (hA.out.below hB).str hlt
        rw [Nat.zero_add] at c0
        have hpk : ps[k].size ≤ 1048576 := Nat.le_trans (hsm.out _ (List.getElem_mem hlt)) hs
        have hD := readDecimal_c ps[k] wr (hT.out.below hb) hpk
        have hlk : Hid (((ps.take k).map rd).length ≤ 1048577) := Lib.hid (by rw [List.length_map, List.length_take]; omega)
        cases hr : rdB ps[k] with
        | none =>
          have hres := Lib.hid (hbad.out k hlt hr)
          rw [numRes_none hr] at hD
          replace hD := Lib.hid hD
          replace hr := Lib.hid hr
          go_wp2_with fail
          refine hD.out.mono ?_
          rintro e w2 ⟨rfl, hb2⟩
          go_wp2_with fail
          go_ret2
          exact ⟨_, by rw [hres.out]; rfl, by rw [hres.out]; exact own_none _ _ _, upw hb hb2⟩
        | some x =>
          have E : Hid ((ps.take (k + 1)).map rd = (ps.take k).map rd ++ [x]) := Lib.hid (by rw [List.take_succ_eq_append_getElem hlt, List.map_append]; simp [rd, hr])
          have hall2 : Hid (allNums (ps.take (k + 1)) = true) := Lib.hid (by
            have := hall.out
            unfold allNums at this ⊢
            rw [List.take_succ_eq_append_getElem hlt, List.all_append, this]; simp [hr])
          have hx : -1000000000000000000 < x ∧ x < 1000000000000000000 := readDec_range hr
          rw [numRes_some hr] at hD
          replace hD := Lib.hid hD
          replace hr := Lib.hid hr
          go_wp2_with fail
          refine hD.out.mono ?_
          rintro e w2 ⟨rfl, hb2⟩
          replace hb := upw hb hb2
          replace hB := upw hB hb2
          have hsz := hB.size
          have hO2 := Lib.hid (hO.out.later hb2)
          have hb3 : Below w2.heap.size w2 (w2.alloc (.cells #[.int .i64 x] 2)) := (Below.refl _ _).alloc (Nat.le_refl _) _
          go_wp2_with (at_builtin; refine wpList_push rfl (.tmp 37) (.tmp 39) 91 rfl w1.heap.size 2 (.int .i64 0) 8 Tryz.underlying91 infoInt rfl _ _ x rfl (hO2.out.later hb3) _ _ rfl 2 (heap_alloc_new _ _) (by have := hlk.out; omega) (by decide) (by simp; omega) ?_; intro v1 w7 hO1 hg1)
          go_roundw
          case rel => exact ⟨k + 1, by omega, by go_num, Lib.hid (by rw [E.out]; exact hO1), hall2, below_mark (upw hb hb3) (hO2.out.later hb3) hs1.out hg1, below_mark (upw hB hb3) (hO2.out.later hb3) (Nat.le_refl _) hg1⟩
          case measure => simp [intOf]; omega
      · obtain rfl : k = ps.length := by omega
        rw [List.take_length] at hO hall
        have hres := Lib.hid (hgood.out hall.out)
        go_wp2_with fail
        go_ret2
        exact ⟨_, by rw [hres.out]; rfl, by rw [hres.out]; exact hO.out.base hs1.out, hb⟩
  · have hres := Lib.hid (numsN_len (fun h => hl (hlen.2 h)))
    have hne : ((ps.length : Int) != (n : Int)) = true := by simp; omega
    go_enter Tryz.func81, Tryz.ntmps81
    go_wp2_with fail
    refine hS.out.mono ?_
    rintro e w' ⟨rfl, rfl⟩
    go_wp2_with fail
    go_ret2
    exact ⟨_, by rw [hres.out]; rfl, by rw [hres.out]; exact own_none _ _ _, hb1⟩
end Go.Proofs.YtaeinllbjkjhlaaGreatDoor
