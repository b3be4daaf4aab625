/-
  The reference's form of a sector, in plain words. Nothing is claimed here.
-/
import Derived.Test.YtmkgmmgfjibjmaaBfJ8
namespace Go.Bf
open Go Go.RowKit Go.IntWalk
theorem and1_toNat (n : BitVec 32) : (n &&& 1#32).toNat = n.toNat % 2 := by
  rw [BitVec.toNat_and, show (1#32 : BitVec 32).toNat = 1 from rfl, Nat.and_one_is_mod]
theorem crc1_odd (n : BitVec 32) (h : n.toNat % 2 = 1) : crc1 n = (n >>> 1) ^^^ 3988292384#32 := by
  have : n &&& 1#32 = 1#32 := BitVec.eq_of_toNat_eq (by rw [and1_toNat, h]; rfl)
  rw [crc1, this]; rfl
theorem crc1_even (n : BitVec 32) (h : ¬ n.toNat % 2 = 1) : crc1 n = n >>> 1 := by
  have : n &&& 1#32 = 0#32 := BitVec.eq_of_toNat_eq (by rw [and1_toNat]; show n.toNat % 2 = 0; omega)
  rw [crc1, this]; simp
/-- The form that the reference asks of a sector, its end apart. -/
def badR (s : List UInt8) (k : Nat) : Bool :=
  decide (genD s = 0) || !decide (genD s = tailD s) || !decide (getN ((s.drop 4).take 4) = (sumD ((s.drop 8).take 116)).toNat) || !decide (getN ((s.drop 8).take 2) = k) || decide (3 < (kindD s).toNat) || decide (112 < lenD s) ||
    decide ((kindD s).toNat < 2) && !decide (lenD s = 112) || decide ((kindD s).toNat % 2 = 0) && decide (lenD s = 0)
def goodR (s : List UInt8) (k : Nat) : Bool := !badR s k && ((s.drop (12 + lenD s)).take (112 - lenD s)).all (· == 0)
theorem beB_iff (l : List UInt8) (n g : Nat) (hl : l.length = n) (hg : g < 256 ^ n) : l = beB g n ↔ getN l = g := by
  constructor
  · intro h
    rw [h, getN_beB, Nat.mod_eq_of_lt hg]
  · intro h
    rw [← h, ← hl, beB_getN]
theorem append4 {a b c d a' b' c' d' : List UInt8} (h1 : a.length = a'.length) (h2 : b.length = b'.length) (h3 : c.length = c'.length) : a ++ b ++ c ++ d = a' ++ b' ++ c' ++ d' ↔ a = a' ∧ b = b' ∧ c = c' ∧ d = d' := by
  constructor
  · intro h
    obtain ⟨h, e4⟩ := List.append_inj h (by simp only [List.length_append]; omega)
    obtain ⟨h, e3⟩ := List.append_inj h (by simp only [List.length_append]; omega)
    obtain ⟨e1, e2⟩ := List.append_inj h h1
    exact ⟨e1, e2, e3, e4⟩
  · rintro ⟨rfl, rfl, rfl, rfl⟩; rfl
theorem split4 (s : List UInt8) (_ : s.length = 128) : s = s.take 4 ++ (s.drop 4).take 4 ++ (s.drop 8).take 116 ++ s.drop 124 := by
  have e1 : s.drop 4 = (s.drop 4).take 4 ++ s.drop 8 := by
    have := (List.take_append_drop 4 (s.drop 4)).symm
    rwa [List.drop_drop] at this
  have e2 : s.drop 8 = (s.drop 8).take 116 ++ s.drop 124 := by
    have := (List.take_append_drop 116 (s.drop 8)).symm
    rwa [List.drop_drop] at this
  calc s = s.take 4 ++ s.drop 4 := (List.take_append_drop 4 s).symm
    _ = s.take 4 ++ ((s.drop 4).take 4 ++ ((s.drop 8).take 116 ++ s.drop 124)) := by rw [← e2, ← e1]
    _ = _ := by simp only [List.append_assoc]
theorem splitB (s : List UInt8) (h : s.length = 128) : (s.drop 8).take 116 = (s.drop 8).take 2 ++ [kindD s, s.getD 11 0] ++ (partD s ++ (s.drop (12 + lenD s)).take (112 - lenD s)) ∨ 112 < lenD s := by
  by_cases hl : 112 < lenD s
  · exact .inr hl
  left
  have e0 : (s.drop 8).take 116 = (s.drop 8).take 2 ++ (s.drop 10).take 114 := by
    rw [show 116 = 2 + 114 from rfl, List.take_add, List.drop_drop]
  have e1 : (s.drop 10).take 114 = s[10] :: s[11] :: (s.drop 12).take 112 := by
    rw [List.drop_eq_getElem_cons (by omega), List.take_succ_cons, List.drop_eq_getElem_cons (by omega), List.take_succ_cons]
  have e2 : (s.drop 12).take 112 = partD s ++ (s.drop (12 + lenD s)).take (112 - lenD s) := by
    rw [show (112 : Nat) = lenD s + (112 - lenD s) by omega, List.take_add, List.drop_drop, partD]
    rw [show lenD s + (112 - lenD s) - lenD s = 112 - lenD s by omega]
  rw [e0, e1, e2, kindD]
  simp [h]
theorem kind2 (x : UInt8) (h : x.toNat ≤ 3) : (x &&& 2 = 0 ↔ x.toNat < 2) := by
  have : ∀ n : Nat, n ≤ 3 → (UInt8.ofNat n &&& 2 = 0 ↔ n < 2) := by decide
  have := this x.toNat h
  rwa [UInt8.ofNat_toNat] at this
theorem kind1 (x : UInt8) : (x &&& 1 = 0 ↔ x.toNat % 2 = 0) := by
  rw [← UInt8.toNat_inj, UInt8.toNat_and, show (1 : UInt8).toNat = 1 from rfl, Nat.and_one_is_mod]; rfl
theorem all_zero (l : List UInt8) : l.all (· == 0) = true ↔ l = List.replicate l.length 0 := by
  rw [List.all_eq_true, List.eq_replicate_iff]
  simp
theorem form_iff (s : List UInt8) : formD s = true ↔ lenD s ≤ 112 ∧ (kindD s).toNat ≤ 3 ∧ ((kindD s).toNat < 2 → lenD s = 112) ∧ ((kindD s).toNat % 2 = 0 → lenD s ≠ 0) := by
  have l3 : 3 < kindD s ↔ 3 < (kindD s).toNat := by rw [UInt8.lt_iff_toNat_lt]; rfl
  simp only [formD, Bool.not_eq_true', Bool.or_eq_false_iff, Bool.and_eq_false_iff, decide_eq_false_iff_not, l3, kind1]
  constructor
  · rintro ⟨⟨⟨h1, h2⟩, h3⟩, h4⟩
    have := kind2 (kindD s) (by omega)
    refine ⟨by omega, by omega, fun h => ?_, fun h => ?_⟩
    · rcases h3 with h3 | h3
      · exact absurd (this.2 h) h3
      · omega
    · rcases h4 with h4 | h4
      · exact absurd h h4
      · exact h4
  · rintro ⟨h1, h2, h3, h4⟩
    have := kind2 (kindD s) h2
    refine ⟨⟨⟨by omega, by omega⟩, ?_⟩, ?_⟩
    · by_cases h : (kindD s).toNat < 2
      · right; rw [h3 h]; omega
      · left; exact mt this.1 h
    · by_cases h : (kindD s).toNat % 2 = 0
      · right; exact h4 h
      · left; exact h
theorem bad_iff (s : List UInt8) (k : Nat) : badR s k = false ↔ genD s ≠ 0 ∧ genD s = tailD s ∧ getN ((s.drop 4).take 4) = (sumD ((s.drop 8).take 116)).toNat ∧ getN ((s.drop 8).take 2) = k ∧ formD s = true := by
  rw [form_iff]
  simp only [badR, Bool.or_eq_false_iff, Bool.and_eq_false_iff, decide_eq_false_iff_not, Bool.not_eq_false', decide_eq_true_eq]
  constructor
  · rintro ⟨⟨⟨⟨⟨⟨⟨h1, h2⟩, h3⟩, h4⟩, h5⟩, h6⟩, h7⟩, h8⟩
    exact ⟨h1, h2, h3, h4, by omega, by omega, fun h => by rcases h7 with h7 | h7 <;> omega, fun h => by rcases h8 with h8 | h8 <;> omega⟩
  · rintro ⟨h1, h2, h3, h4, h5, h6, h7, h8⟩
    refine ⟨⟨⟨⟨⟨⟨⟨h1, h2⟩, h3⟩, h4⟩, by omega⟩, by omega⟩, ?_⟩, ?_⟩
    · by_cases h : (kindD s).toNat < 2
      · right; exact h7 h
      · left; exact h
    · by_cases h : (kindD s).toNat % 2 = 0
      · right; exact h8 h
      · left; exact h
theorem good_eq (s : List UInt8) (k : Nat) (hs : s.length = 128) (hk : k < 65536) : goodR s k = goodD s k := by
  rw [Bool.eq_iff_iff, goodR, Bool.and_eq_true, Bool.not_eq_true', bad_iff, all_zero, goodD, Bool.and_eq_true, Bool.and_eq_true, decide_eq_true_eq, decide_eq_true_eq]
  have hg := genD_lt s
  by_cases hf : formD s = true
  · have hl : lenD s ≤ 112 := form_le hf
    have hpl : (partD s).length = lenD s := by simp [partD]; omega
    have hzl : ((s.drop (12 + lenD s)).take (112 - lenD s)).length = 112 - lenD s := by simp; omega
    have h11 : UInt8.ofNat (partD s).length = s.getD 11 0 := by rw [hpl, lenD]; simp
    have hB := (splitB s hs).resolve_right (by omega)
    have hbl := bodyD_length k (kindD s) (partD s) (by omega)
    have key : s = encS (genD s) k (kindD s) (partD s) ↔ s.take 4 = beB (genD s) 4 ∧ (s.drop 4).take 4 = beB (sumD (bodyD k (kindD s) (partD s))).toNat 4 ∧ (s.drop 8).take 116 = bodyD k (kindD s) (partD s) ∧ s.drop 124 = beB (genD s) 4 := by
      have := append4 (a := s.take 4) (b := (s.drop 4).take 4) (c := (s.drop 8).take 116) (d := s.drop 124) (a' := beB (genD s) 4) (b' := beB (sumD (bodyD k (kindD s) (partD s))).toNat 4) (c' := bodyD k (kindD s) (partD s)) (d' := beB (genD s) 4)
        (by simp; omega) (by simp; omega) (by rw [hbl]; simp; omega)
      rw [← split4 s hs] at this
      exact this
    have hbody : (s.drop 8).take 116 = bodyD k (kindD s) (partD s) ↔ getN ((s.drop 8).take 2) = k ∧ (s.drop (12 + lenD s)).take (112 - lenD s) = List.replicate (112 - lenD s) 0 := by
      rw [hB, bodyD, h11, hpl, ← beB_iff ((s.drop 8).take 2) 2 k (by simp; omega) hk]
      constructor
      · intro h
        obtain ⟨h1, h2⟩ := List.append_inj h (by simp; omega)
        obtain ⟨h1, _⟩ := List.append_inj h1 (by simp; omega)
        exact ⟨h1, (List.append_inj h2 rfl).2⟩
      · rintro ⟨h1, h2⟩
        rw [h1, h2]
    rw [key, beB_iff (s.take 4) 4 (genD s) (by simp; omega) (by omega), beB_iff ((s.drop 4).take 4) 4 _ (by simp; omega) (sumD _).isLt, beB_iff (s.drop 124) 4 (genD s) (by simp; omega) (by omega), hzl]
    constructor
    · rintro ⟨⟨h1, h2, h3, h4, _⟩, h6⟩
      have hb := hbody.2 ⟨h4, h6⟩
      refine ⟨⟨hf, by omega⟩, rfl, by rw [← hb]; exact h3, hb, h2.symm⟩
    · rintro ⟨⟨_, h1⟩, _, h3, h4, h5⟩
      obtain ⟨h6, h7⟩ := hbody.1 h4
      exact ⟨⟨by omega, h5.symm, by rw [h4]; exact h3, h6, hf⟩, h7⟩
  · exact ⟨fun h => absurd h.1.2.2.2.2 hf, fun h => absurd h.1.1 hf⟩
/-! ### Records -/
theorem oneD_last {l : List (List UInt8)} {p last : Nat} (h : last ≤ genD (l.getD p [])) : ∀ (f m : Nat) (b : List UInt8), oneD l p last f m b = oneD l p 0 f m b
  | 0, _, _ => rfl
  | f + 1, m, b => by
    have : fitsD l p last m (l.getD m []) = fitsD l p 0 m (l.getD m []) := by
      unfold fitsD
      by_cases hg : genD (l.getD m []) = genD (l.getD p [])
      · rw [hg, decide_eq_true h]; simp
      · rw [decide_eq_false hg]; simp
    rw [oneD, oneD, this, oneD_last h f]
theorem oneD_low {l : List (List UInt8)} {p last : Nat} (h : ¬ last ≤ genD (l.getD p [])) : ∀ (f m : Nat) (b : List UInt8), oneD l p last f m b = none
  | 0, _, _ => rfl
  | f + 1, m, b => by
    have : fitsD l p last m (l.getD m []) = false := by
      unfold fitsD
      by_cases hg : genD (l.getD m []) = genD (l.getD p [])
      · rw [hg, decide_eq_false h]; simp
      · rw [decide_eq_false hg]; simp
    rw [oneD, this]; rfl
theorem oneD_gen {l : List (List UInt8)} {p : Nat} : ∀ {f m : Nat} {b c : List UInt8} {q : Nat}, oneD l p 0 f m b = some (c, q) → genD (l.getD (q - 1) []) = genD (l.getD p [])
  | 0, _, _, _, _, h => by simp [oneD] at h
  | f + 1, m, b, c, q, h => by
    rw [oneD] at h
    split at h
    · rename_i hf
      split at h
      · simp only [Option.some.injEq, Prod.mk.injEq] at h
        obtain ⟨_, rfl⟩ := h
        simp only [fitsD, Bool.and_eq_true, decide_eq_true_eq] at hf
        exact hf.1.2
      · exact oneD_gen h
    · cases h
theorem oneD_len {l : List (List UInt8)} {p : Nat} : ∀ {f m : Nat} {b c : List UInt8} {q : Nat}, oneD l p 0 f m b = some (c, q) → c.length ≤ b.length + 112 * (q - m)
  | 0, _, _, _, _, h => by simp [oneD] at h
  | f + 1, m, b, c, q, h => by
    rw [oneD] at h
    split at h
    · rename_i hf
      have hp : (partD (l.getD m [])).length ≤ 112 := by
        have := form_le (fits_form hf)
        simp only [partD, List.length_take]; omega
      split at h
      · simp only [Option.some.injEq, Prod.mk.injEq] at h
        obtain ⟨rfl, rfl⟩ := h
        rw [List.length_append]; omega
      · have h1 := oneD_len h
        have h2 := oneD_some h
        rw [List.length_append] at h1; omega
    · cases h
theorem recsF_none {l : List (List UInt8)} {f p last : Nat} (h : oneD l p 0 (l.length - p) p [] = none) : recsF l f p last = [] := by
  cases f with
  | zero => rfl
  | succ f =>
    rw [recsF]
    by_cases hl : last ≤ genD (l.getD p [])
    · rw [oneD_last hl, h]
    · rw [oneD_low hl]
theorem recsF_low {l : List (List UInt8)} {f p last : Nat} (h : ¬ last ≤ genD (l.getD p [])) : recsF l f p last = [] := by
  cases f with
  | zero => rfl
  | succ f => rw [recsF, oneD_low h]
theorem recsF_some {l : List (List UInt8)} {f p last m : Nat} {b : List UInt8} (h : oneD l p 0 (l.length - p) p [] = some (b, m)) (hl : last ≤ genD (l.getD p [])) (hf : 0 < f) : recsF l f p last = (m, b) :: recsF l (f - 1) m (genD (l.getD p [])) := by
  obtain ⟨f, rfl⟩ : ∃ g, f = g + 1 := ⟨f - 1, by omega⟩
  rw [recsF, oneD_last hl, h, Nat.add_sub_cancel]
  simp only
  rw [oneD_gen h]
end Go.Bf
