/-
  The journal in plain words: a byte that is changed is noticed. No program in sight. Nothing is claimed here.
-/
import Derived.Test.YtmkgmmgfjibjmaaBfJ15
namespace Go.Bf
open Go Go.RowKit
theorem xor_cancel {n : Nat} {a b c : BitVec n} (h : a ^^^ c = b ^^^ c) : a = b := by
  have := congrArg (· ^^^ c) h
  simpa [BitVec.xor_assoc] using this
theorem shr_toNat (n : BitVec 32) : (n >>> 1).toNat = n.toNat / 2 := by
  rw [BitVec.toNat_ushiftRight, Nat.shiftRight_eq_div_pow]
theorem shr_inj {a b : BitVec 32} (h : a >>> 1 = b >>> 1) (hp : a.toNat % 2 = b.toNat % 2) : a = b := by
  have := congrArg BitVec.toNat h
  rw [shr_toNat, shr_toNat] at this
  exact BitVec.eq_of_toNat_eq (by omega)
theorem shr_msb (n : BitVec 32) : (n >>> 1).msb = false := by
  rw [BitVec.msb_eq_decide, shr_toNat]
  have := n.isLt
  simp; omega
theorem crc1_msb (n : BitVec 32) : (crc1 n).msb = decide (n.toNat % 2 = 1) := by
  by_cases h : n.toNat % 2 = 1
  · rw [crc1_odd n h, BitVec.msb_xor, shr_msb, decide_eq_true h]; decide
  · rw [crc1_even n h, shr_msb, decide_eq_false h]
theorem crc1_inj {a b : BitVec 32} (h : crc1 a = crc1 b) : a = b := by
  have hm := congrArg BitVec.msb h
  rw [crc1_msb, crc1_msb, decide_eq_decide] at hm
  by_cases h1 : a.toNat % 2 = 1
  · rw [crc1_odd a h1, crc1_odd b (hm.1 h1)] at h
    exact shr_inj (xor_cancel h) (by rw [h1, hm.1 h1])
  · rw [crc1_even a h1, crc1_even b (fun e => h1 (hm.2 e))] at h
    exact shr_inj h (by have := mt hm.2 h1; omega)
theorem crcJ_inj : ∀ (j : Nat) {a b : BitVec 32}, crcJ j a = crcJ j b → a = b
  | 0, _, _, h => h
  | j + 1, _, _, h => crcJ_inj j (crc1_inj h)
theorem crcB_inj {a b : BitVec 32} {c : UInt8} (h : crcB a c = crcB b c) : a = b := xor_cancel (crcJ_inj 8 h)
theorem crcB_byte {a : BitVec 32} {c d : UInt8} (h : crcB a c = crcB a d) : c = d := by
  have h1 := crcJ_inj 8 h
  rw [BitVec.xor_comm a, BitVec.xor_comm a] at h1
  have h2 := congrArg BitVec.toNat (xor_cancel h1)
  rw [toNat_ofNat8, toNat_ofNat8] at h2
  exact UInt8.toNat_inj.1 h2
theorem fold_inj : ∀ (l : List UInt8) {a b : BitVec 32}, l.foldl crcB a = l.foldl crcB b → a = b
  | [], _, _, h => h
  | _ :: l, _, _, h => crcB_inj (fold_inj l h)
/-- One byte that is changed changes the checksum. -/
theorem sum_changed (l : List UInt8) (i : Nat) (hi : i < l.length) (v : UInt8) (hv : v ≠ l[i]) : sumD (l.set i v) ≠ sumD l := fun h => by
  have h1 : crcL (l.set i v) = crcL l := xor_cancel h
  have e1 : l = l.take i ++ l[i] :: l.drop (i + 1) := by
    have := List.take_append_drop i l
    rw [List.drop_eq_getElem_cons hi] at this
    exact this.symm
  have e2 : l.set i v = l.take i ++ v :: l.drop (i + 1) := List.set_eq_take_append_cons_drop.trans (if_pos hi)
  rw [e2] at h1
  have h2 : crcL l = crcL (l.take i ++ l[i] :: l.drop (i + 1)) := congrArg crcL e1
  rw [h2] at h1
  simp only [crcL, List.foldl_append, List.foldl_cons] at h1
  exact hv (crcB_byte (fold_inj _ h1))
theorem getN_inj {a b : List UInt8} (hl : a.length = b.length) (h : getN a = getN b) : a = b := by
  rw [← beB_getN a, ← beB_getN b, h, hl]
theorem part_set (s : List UInt8) (p o n : Nat) (v : UInt8) : ((s.set p v).drop o).take n = if o ≤ p ∧ p < o + n then ((s.drop o).take n).set (p - o) v else (s.drop o).take n := by
  apply List.ext_getElem?
  intro i
  by_cases hi : i < n
  · rw [List.getElem?_take, if_pos hi, List.getElem?_drop]
    split
    · rename_i h
      by_cases e : p = o + i
      · subst e
        by_cases hl : o + i < s.length
        · rw [List.getElem?_set_self hl, Nat.add_sub_cancel_left, List.getElem?_set_self (by simp; omega)]
        · rw [List.getElem?_eq_none (by simp; omega), List.getElem?_eq_none (by simp; omega)]
      · rw [List.getElem?_set_ne e, List.getElem?_set_ne (by omega), List.getElem?_take, if_pos hi, List.getElem?_drop]
    · rename_i h
      rw [List.getElem?_set_ne (by omega), List.getElem?_take, if_pos hi, List.getElem?_drop]
  · rw [List.getElem?_eq_none (by simp; omega)]
    split
    · rw [List.getElem?_eq_none (by simp; omega)]
    · rw [List.getElem?_eq_none (by simp; omega)]
theorem part_ne (s : List UInt8) (p o n : Nat) (v : UInt8) (hp : p < s.length) (hv : v ≠ s[p]) (h : o ≤ p ∧ p < o + n) : ((s.set p v).drop o).take n ≠ (s.drop o).take n := fun e => by
  have := congrArg (fun l : List UInt8 => l[p - o]?) e
  simp only [List.getElem?_take, if_pos (show p - o < n by omega), List.getElem?_drop, show o + (p - o) = p by omega, List.getElem?_set_self hp, List.getElem?_eq_getElem hp, Option.some.injEq] at this
  exact hv this
theorem good_sum {s : List UInt8} {k : Nat} (h : goodD s k = true) (hk : k < 65536) : getN ((s.drop 4).take 4) = (sumD ((s.drop 8).take 116)).toNat := by
  have hl := good_len h
  rw [← good_eq s k hl.1 hk, goodR, Bool.and_eq_true, Bool.not_eq_true', bad_iff] at h
  exact h.1.2.2.1
theorem changed_bad {s : List UInt8} {k p : Nat} {v : UInt8} (h : goodD s k = true) (hk : k < 65536) (hp : p < s.length) (hv : v ≠ s[p]) : goodD (s.set p v) k = false := by
  rw [Bool.eq_false_iff]
  intro h'
  have hl := (good_len h).1
  have t1 := good_tail h
  have t2 := good_tail h'
  have s1 := good_sum h hk
  have s2 := good_sum h' hk
  have g (l : List UInt8) : genD l = getN ((l.drop 0).take 4) := rfl
  have tl (l : List UInt8) (hl : l.length = 128) : tailD l = getN ((l.drop 124).take 4) := by
    rw [tailD, List.take_of_length_le (by simp; omega)]
  have hl' : (s.set p v).length = 128 := by simp [hl]
  rw [g, tl _ hl'] at t2
  rw [g, tl _ hl] at t1
  have ne := fun o n => part_ne s p o n v hp hv
  have eq := fun o n (h : ¬ (o ≤ p ∧ p < o + n)) => (part_set s p o n v).trans (if_neg h)
  by_cases c1 : p < 4
  · rw [eq 124 4 (by omega), t1] at t2
    exact ne 0 4 (by omega) (getN_inj (by simp) t2.symm)
  · by_cases c2 : 124 ≤ p
    · rw [eq 0 4 (by omega), ← t1] at t2
      exact ne 124 4 (by omega) (getN_inj (by simp) t2)
    · by_cases c3 : p < 8
      · rw [eq 8 116 (by omega), ← s1] at s2
        exact ne 4 4 (by omega) (getN_inj (by simp) s2)
      · rw [eq 4 4 (by omega), s1, part_set, if_pos (by omega)] at s2
        refine sum_changed ((s.drop 8).take 116) (p - 8) (by simp; omega) v ?_ (BitVec.eq_of_toNat_eq s2.symm)
        simp only [List.getElem_take, List.getElem_drop, show 8 + (p - 8) = p by omega]
        exact hv
theorem fits_good {l : List (List UInt8)} {p m : Nat} {s : List UInt8} (h : fitsD l p 0 m s = true) : goodD s m = true := ((fits_iff _ _ _ _).1 h).1
/-- Each sector that a record was read of is good. -/
theorem oneD_good {l : List (List UInt8)} {p : Nat} : ∀ {f m : Nat} {b c : List UInt8} {q : Nat}, oneD l p 0 f m b = some (c, q) → ∀ i, m ≤ i → i < q → goodD (l.getD i []) i = true
  | 0, _, _, _, _, h => by simp [oneD] at h
  | f + 1, m, b, c, q, h => fun i h1 h2 => by
    rw [oneD] at h
    split at h
    · rename_i hf
      by_cases e : i = m
      · subst e; exact fits_good hf
      · split at h
        · simp only [Option.some.injEq, Prod.mk.injEq] at h
          obtain ⟨_, rfl⟩ := h
          omega
        · exact oneD_good h i (by omega) h2
    · cases h
theorem Lay.good {l : List (List UInt8)} {p last : Nat} {bs : List (List UInt8)} {e g : Nat} (h : Lay l p last bs e g) : ∀ i, p ≤ i → i < e → goodD (l.getD i []) i = true := by
  induction h with
  | nil => intro i h1 h2; omega
  | @cons p last b m bs e g h1 h2 h3 ih =>
    intro i a1 a2
    by_cases hi : i < m
    · exact oneD_good h1 i a1 hi
    · exact ih i (by omega) a2
/-- Sectors that were written on a fresh disk, one of them changed. -/
theorem damaged {ss P : List (List UInt8)} {rest : List (List UInt8)} {k p : Nat} {v : UInt8} (hP : performL ss (secsL (gensD ss) 0 rest) = P) (h0 : recsL ss = []) (hG : gensD ss < 4294967296) (hl : usedN rest ≤ ss.length) (h4 : ss.length ≤ 4096) (hk : k < usedN rest)
    (hp : p < (P.getD k []).length) (hv : v ≠ (P.getD k [])[p]) : recsL (P.set k ((P.getD k []).set p v)) = rest.take (cntD k rest) := by
  have hw := wrote_perform (ss := ss) (G := gensD ss) (at0 := 0) (rest := rest) (t := usedN rest) hG (Nat.le_refl _) (by omega)
  rw [List.take_of_length_le (by rw [secsL_len]; omega)] at hw
  rw [hP] at hw
  have hPl := hw.len
  obtain ⟨g, a1, _, _, _, a5, _⟩ := read_secs (l := P) (gens_pos ss) hG rest 0 0 (usedN rest) (by omega) (Nat.le_refl _) (by omega) (by simpa using hw.new)
  have hgood : goodD (P.getD k []) k = true := by
    rw [a5 rfl, List.take_length] at a1
    exact a1.good k (by omega) (by omega)
  have hset : ∀ i, (P.set k ((P.getD k []).set p v)).getD i [] = if i = k then (P.getD k []).set p v else P.getD i [] := fun i => by
    rw [List.getD_eq_getElem?_getD, List.getElem?_set]
    by_cases e : i = k
    · rw [if_pos e, if_pos e.symm, if_pos (by omega)]; rfl
    · rw [if_neg e, if_neg (fun h => e h.symm), List.getD_eq_getElem?_getD]
  have hw2 : Wrote ss (P.set k ((P.getD k []).set p v)) (gensD ss) (usedN (recsL ss)) rest k := by
    rw [h0]
    refine ⟨by simp [hPl], fun i hi => by simp [usedN] at hi, fun i hi => ?_⟩
    obtain ⟨w, k1, k2⟩ := hw.new i (by omega)
    refine ⟨w, k1, ?_⟩
    simp only [usedN, List.map_nil, List.sum_nil, Nat.zero_add] at k2 ⊢
    rw [hset, if_neg (by omega)]; exact k2
  have hu0 : usedN (recsL ss) = 0 := by rw [h0]; rfl
  have := opened_cut hG hw2 hk (by rw [hu0]; omega) (by rw [hu0, Nat.zero_add, hset, if_pos rfl]; exact changed_bad hgood (by omega) hp hv)
  rw [this, h0, List.nil_append]
end Go.Bf
