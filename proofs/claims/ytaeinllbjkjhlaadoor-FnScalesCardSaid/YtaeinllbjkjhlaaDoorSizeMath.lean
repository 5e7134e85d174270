/- Sizes and their texts, in plain words: half sizes as "7" or "7.5". -/
import Derived.Test.YtaeinllbjkjhlaaDoorReadU
namespace Go.Proofs.YtaeinllbjkjhlaaDoor
open Go.RowKit

def szTxt (t : Int) : ByteArray := if t % 2 = 0 then decT (t / 2) else decT (t / 2) ++ ⟨#[46, 53]⟩
def sizeT (t : Int) : ByteArray := if inr t 0 120 then szTxt t else ⟨#[]⟩
theorem sizeT_ok {t : Int} (h : inr t 0 120 = true) : sizeT t = szTxt t := if_pos h
theorem sizeT_bad {t : Int} (h : inr t 0 120 = false) : sizeT t = ⟨#[]⟩ := if_neg (by rw [h]; decide)
theorem sep46 : isSep 46 := by unfold isSep; decide
theorem szTxt_list (t : Int) : (szTxt t).data.toList = Lib.itoa (t / 2) ++ if t % 2 = 0 then [] else [46, 53] := by
  unfold szTxt
  split <;> simp [decT]
theorem szTxt_pos (t : Int) : szTxt t ≠ ⟨#[]⟩ := by
  intro h
  have h1 := szTxt_list t
  rw [h] at h1
  have h2 : Lib.itoa (t / 2) = [] := by
    have : ([] : List UInt8) = Lib.itoa (t / 2) ++ if t % 2 = 0 then [] else [46, 53] := h1
    exact (List.append_eq_nil_iff.1 this.symm).1
  exact itoa_ne_nil _ h2
theorem sizeT_some {t : Int} : (sizeT t = ⟨#[]⟩) ↔ inr t 0 120 = false := by
  cases h : inr t 0 120
  · simp [sizeT_bad h]
  · rw [sizeT_ok h]; simp [szTxt_pos]
/-- How a size's text is split at the point. -/
theorem sz_split (t : Int) : splitC 46 (szTxt t).data.toList = if t % 2 = 0 then [Lib.itoa (t / 2)] else [Lib.itoa (t / 2), [53]] := by
  rw [szTxt_list]
  split
  · rw [List.append_nil]; exact splitC_free (itoa_free sep46 _)
  · rw [show Lib.itoa (t / 2) ++ [46, 53] = Lib.itoa (t / 2) ++ 46 :: [53] from rfl, splitC_cons _ (itoa_free sep46 _), splitC_free (by decide)]
theorem szTxt_inj {a b : Int} (h : szTxt a = szTxt b) : a = b := by
  have h1 := sz_split a
  rw [h, sz_split b] at h1
  by_cases ha : a % 2 = 0
  · by_cases hb : b % 2 = 0
    · rw [if_pos ha, if_pos hb] at h1
      have := itoa_inj (List.head_eq_of_cons_eq h1)
      omega
    · rw [if_pos ha, if_neg hb] at h1; simp at h1
  · by_cases hb : b % 2 = 0
    · rw [if_neg ha, if_pos hb] at h1; simp at h1
    · rw [if_neg ha, if_neg hb] at h1
      have := itoa_inj (List.head_eq_of_cons_eq h1)
      omega
/-- The half sizes that a text tells. -/
noncomputable def readSz (s : ByteArray) : Option Int := unread fun t => inr t 0 120 = true ∧ szTxt t = s
theorem readSz_some {s : ByteArray} {t : Int} (h : inr t 0 120 = true) (e : szTxt t = s) : readSz s = some t :=
  unread_some (fun _ _ hx hy => szTxt_inj (hx.2.trans hy.2.symm)) ⟨h, e⟩
theorem readSz_none {s : ByteArray} (h : ∀ t, inr t 0 120 = true → szTxt t = s → False) : readSz s = none := unread_none fun t ht => h t ht.1 ht.2
theorem natAbs_lt {n : Int} (h : 0 ≤ n ∧ n ≤ 120) : n.natAbs < 10 ^ 18 := by omega
/-- THE PROGRAM: without an ending, and whether there is one. -/
def szHead (s : ByteArray) : ByteArray := ⟨(Lib.trimSuffix s.data.toList [46, 53]).toArray⟩
def szHas (s : ByteArray) : Bool := Lib.hasSuffix s.data.toList [46, 53]
theorem szHead_size (s : ByteArray) : (szHead s).size ≤ s.size := by
  have := Lib.trimSuffix_le s.data.toList [46, 53]
  rw [size_len] at this
  show (List.toArray _).size ≤ _
  simpa using this
theorem sz_impl {s : ByteArray} {t : Int} (e : szTxt t = s) : (szHead s).data.toList = Lib.itoa (t / 2) ∧ szHas s = !decide (t % 2 = 0) := by
  have hl := szTxt_list t
  rw [e] at hl
  unfold szHead szHas Lib.trimSuffix
  rw [hl]
  by_cases h : t % 2 = 0
  · rw [if_pos h, List.append_nil]
    have hs : Lib.hasSuffix (Lib.itoa (t / 2)) [46, 53] = false := by
      cases hh : Lib.hasSuffix (Lib.itoa (t / 2)) [46, 53]
      · rfl
      · unfold Lib.hasSuffix at hh
        obtain ⟨r, hr⟩ := List.isSuffixOf_iff_suffix.1 hh
        exact absurd (show (46 : UInt8) ∈ Lib.itoa (t / 2) by rw [← hr]; simp) (itoa_free sep46 _)
    rw [hs]; simp [h]
  · rw [if_neg h]
    have hs : Lib.hasSuffix (Lib.itoa (t / 2) ++ [46, 53]) [46, 53] = true := by
      unfold Lib.hasSuffix
      exact List.isSuffixOf_iff_suffix.2 ⟨_, rfl⟩
    rw [hs]; simp [h]
def bit (b : Bool) : Int := if b then 1 else 0
theorem sz_impl_read {s : ByteArray} {t : Int} (h : inr t 0 120 = true) (e : szTxt t = s) : ∃ n, rdB (szHead s) = some n ∧ 0 ≤ n ∧ n ≤ 120 ∧ n * 2 + bit (szHas s) = t := by
  have hr := inr_true.1 h
  obtain ⟨h1, h2⟩ := sz_impl e
  refine ⟨t / 2, ?_, by omega, by omega, ?_⟩
  · unfold rdB; rw [h1]; exact readDec_itoa (natAbs_lt (by omega))
  · rw [h2]
    by_cases hm : t % 2 = 0
    · simp [bit, hm]; omega
    · simp [bit, hm]; omega
theorem sz_none1 {s : ByteArray} (h : rdB (szHead s) = none) : readSz s = none := readSz_none fun t h1 e => by
  obtain ⟨n, hn, _⟩ := sz_impl_read h1 e
  rw [h] at hn; cases hn
theorem sz_none2 {s : ByteArray} {n : Int} (h : rdB (szHead s) = some n) (h2 : inr n 0 120 = false) : readSz s = none := readSz_none fun t h1 e => by
  obtain ⟨m, hm, m0, m1, _⟩ := sz_impl_read h1 e
  rw [h] at hm; cases hm
  rw [inr_true.2 ⟨m0, m1⟩] at h2; cases h2
theorem sz_final {s : ByteArray} {n : Int} (h : rdB (szHead s) = some n) : readSz s = if sizeT (n * 2 + bit (szHas s)) = s then some (n * 2 + bit (szHas s)) else none := by
  have hs : s ≠ ⟨#[]⟩ := by
    rintro rfl
    have : szHead ⟨#[]⟩ = ⟨#[]⟩ := rfl
    rw [this] at h
    have := (readDec_some h).1
    exact itoa_ne_nil _ this
  by_cases he : sizeT (n * 2 + bit (szHas s)) = s
  · rw [if_pos he]
    have ho : inr (n * 2 + bit (szHas s)) 0 120 = true := by
      cases ho : inr (n * 2 + bit (szHas s)) 0 120
      · rw [sizeT_bad ho] at he; exact absurd he.symm hs
      · rfl
    rw [sizeT_ok ho] at he
    exact readSz_some ho he
  · rw [if_neg he]
    refine readSz_none fun t h1 e => he ?_
    obtain ⟨m, hm, _, _, hmt⟩ := sz_impl_read h1 e
    rw [h] at hm; cases hm
    rw [hmt, sizeT_ok h1]; exact e
/-- THE REFERENCE: the parts at a point. -/
theorem sz_parts {s : ByteArray} {t : Int} (e : szTxt t = s) : parts 46 s = if t % 2 = 0 then [decT (t / 2)] else [decT (t / 2), ⟨#[53]⟩] := by
  unfold parts
  rw [← e, sz_split]
  split <;> rfl
theorem sz_back1 {s p : ByteArray} (h : parts 46 s = [p]) : s = p := by
  have h1 := join_splitC 46 s.data.toList
  have h2 : splitC 46 s.data.toList = [p.data.toList] := by rw [← parts_lists, h]; rfl
  rw [h2] at h1
  apply Go.WideShapes.bytes_inj
  rw [← h1]; simp [Lib.join]
theorem sz_spec {s p : ByteArray} {ps : List ByteArray} (h : parts 46 s = p :: ps) {n : Int} (hn : rdB p = some n) (hr : 0 ≤ n ∧ n ≤ 60) (hl : ps = [] ∨ ps = [⟨#[53]⟩]) :
    readSz s = if inr (2 * n + ps.length) 0 120 then some (2 * n + ps.length) else none := by
  have hp : decT n = p := decT_eq.2 (readDec_some hn).1
  rcases hl with rfl | rfl
  · have hs := sz_back1 h
    have ho : inr (2 * n + (([] : List ByteArray).length : Nat)) 0 120 = true := inr_true.2 (by simp; omega)
    rw [if_pos ho]
    refine readSz_some ho ?_
    rw [hs, ← hp]
    unfold szTxt
    have e2 : (2 * n + (([] : List ByteArray).length : Nat)) / 2 = n := by first | (simp; done) | (simp; omega)
    rw [if_pos (by first | (simp; done) | (simp; omega)), e2]
  · have hs := parts_two h
    cases ho : inr (2 * n + (([⟨#[53]⟩] : List ByteArray).length : Nat)) 0 120
    · rw [if_neg (by decide)]
      refine readSz_none fun t h1 e => ?_
      have h3 := sz_parts e
      rw [h] at h3
      by_cases hm : t % 2 = 0
      · rw [if_pos hm] at h3; simp at h3
      · rw [if_neg hm] at h3
        have h4 := List.head_eq_of_cons_eq h3
        rw [← hp] at h4
        have h5 := itoa_inj ((decT_eq.1 h4).trans (decT_list _))
        have := inr_true.1 h1
        rw [inr_true.2 (by simp; omega)] at ho; cases ho
    · rw [if_pos rfl]
      refine readSz_some ho ?_
      rw [hs, ← hp]
      unfold szTxt
      rw [if_neg (by first | (simp; done) | (simp; omega))]
      apply Go.WideShapes.bytes_inj
      have e2 : (2 * n + (([⟨#[53]⟩] : List ByteArray).length : Nat)) / 2 = n := by first | (simp; done) | (simp; omega)
      rw [e2]; simp
/-- What the reference asks of the parts. -/
def szFit (p : ByteArray) (ps : List ByteArray) : Prop := ∃ n, rdB p = some n ∧ (0 ≤ n ∧ n ≤ 60) ∧ (ps = [] ∨ ps = [⟨#[53]⟩])
theorem sz_unfit {s p : ByteArray} {ps : List ByteArray} (h : parts 46 s = p :: ps) (hn : ¬ szFit p ps) : readSz s = none := readSz_none fun t h1 e => hn (by
  have h3 := sz_parts e
  rw [h] at h3
  have hr := inr_true.1 h1
  have hd : rdB (decT (t / 2)) = some (t / 2) := by unfold rdB; rw [decT_list]; exact readDec_itoa (natAbs_lt (by omega))
  by_cases hm : t % 2 = 0
  · rw [if_pos hm] at h3
    obtain ⟨rfl, rfl⟩ := List.cons.inj h3
    exact ⟨t / 2, hd, by omega, Or.inl rfl⟩
  · rw [if_neg hm] at h3
    obtain ⟨rfl, rfl⟩ := List.cons.inj h3
    exact ⟨t / 2, hd, by omega, Or.inr rfl⟩)
theorem readSz_is {s : ByteArray} {t : Int} (h : readSz s = some t) : inr t 0 120 = true ∧ szTxt t = s := by
  unfold readSz unread at h
  split at h
  · rename_i hx; cases h; exact hx.choose_spec
  · cases h
end Go.Proofs.YtaeinllbjkjhlaaDoor
