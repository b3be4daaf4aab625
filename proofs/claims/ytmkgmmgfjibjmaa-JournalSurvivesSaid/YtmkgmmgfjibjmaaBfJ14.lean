/-
  The journal in plain words: what is opened after a sync, also one that stopped. No program in sight. Nothing is claimed here.
-/
import Derived.Test.YtmkgmmgfjibjmaaBfJ11
namespace Go.Bf
open Go Go.RowKit
/-! ### A sector that was encoded -/
theorem encS_split (g k : Nat) (kind : UInt8) (b : List UInt8) : encS g k kind b = (beB g 4 ++ beB (sumD (bodyD k kind b)).toNat 4 ++ beB k 2) ++ kind :: UInt8.ofNat b.length :: (b ++ (List.replicate (112 - b.length) 0 ++ beB g 4)) := by
  simp [encS, bodyD]
theorem genD_enc (g k : Nat) (kind : UInt8) (b : List UInt8) (hg : g < 4294967296) : genD (encS g k kind b) = g := by
  have : (encS g k kind b).take 4 = beB g 4 := by
    rw [encS, List.append_assoc, List.append_assoc, List.take_append_of_le_length (by simp), List.take_of_length_le (by simp)]
  rw [genD, this, getN_beB, Nat.mod_eq_of_lt (by omega)]
theorem tailD_enc (g k : Nat) (kind : UInt8) (b : List UInt8) (hg : g < 4294967296) (hb : b.length ≤ 112) : tailD (encS g k kind b) = g := by
  have hl := bodyD_length k kind b hb
  have : (encS g k kind b).drop 124 = beB g 4 := by
    rw [encS, List.drop_append, List.drop_eq_nil_of_le (by simp [hl]), List.nil_append]
    simp [hl]
  rw [tailD, this, getN_beB, Nat.mod_eq_of_lt (by omega)]
theorem kindD_enc (g k : Nat) (kind : UInt8) (b : List UInt8) : kindD (encS g k kind b) = kind := by
  have hl : (beB g 4 ++ beB (sumD (bodyD k kind b)).toNat 4 ++ beB k 2).length = 10 := by simp
  rw [kindD, encS_split, List.getD_eq_getElem?_getD, List.getElem?_append_right (by omega), hl]; rfl
theorem lenD_enc (g k : Nat) (kind : UInt8) (b : List UInt8) (hb : b.length ≤ 112) : lenD (encS g k kind b) = b.length := by
  have hl : (beB g 4 ++ beB (sumD (bodyD k kind b)).toNat 4 ++ beB k 2).length = 10 := by simp
  rw [lenD, encS_split, List.getD_eq_getElem?_getD, List.getElem?_append_right (by omega), hl]
  simp; omega
theorem partD_enc (g k : Nat) (kind : UInt8) (b : List UInt8) (hb : b.length ≤ 112) : partD (encS g k kind b) = b := by
  have hl : (beB g 4 ++ beB (sumD (bodyD k kind b)).toNat 4 ++ beB k 2).length = 10 := by simp
  rw [partD, lenD_enc g k kind b hb, encS_split, List.drop_append, List.drop_eq_nil_of_le (by omega), List.nil_append, hl]
  simp
theorem good_enc (g k : Nat) (kind : UInt8) (b : List UInt8) (hg : g < 4294967296) (hg0 : 0 < g) (hb : b.length ≤ 112) (hk : kind.toNat ≤ 3) (h2 : kind.toNat < 2 → b.length = 112) (h1 : kind.toNat % 2 = 0 → b.length ≠ 0) : goodD (encS g k kind b) k = true := by
  have hf : formD (encS g k kind b) = true := by
    rw [form_iff, lenD_enc g k kind b hb, kindD_enc]
    exact ⟨hb, hk, h2, h1⟩
  rw [goodD, hf, genD_enc g k kind b hg, kindD_enc, partD_enc g k kind b hb]
  simp [hg0]
theorem good_len {s : List UInt8} {k : Nat} (h : goodD s k = true) : s.length = 128 ∧ formD s = true ∧ (partD s).length = lenD s := by
  simp only [goodD, Bool.and_eq_true, decide_eq_true_eq] at h
  obtain ⟨⟨h1, _⟩, h2⟩ := h
  have hle := form_le h1
  have hs : s.length = 128 := by
    rw [h2]; exact encS_length _ _ _ _ (by simp only [partD, List.length_take]; omega)
  exact ⟨hs, h1, by simp only [partD, List.length_take, List.length_drop]; omega⟩
theorem good_tail {s : List UInt8} {k : Nat} (h : goodD s k = true) : tailD s = genD s := by
  have hl := good_len h
  simp only [goodD, Bool.and_eq_true, decide_eq_true_eq] at h
  have hle := form_le h.1.1
  rw [h.2, tailD_enc _ _ _ _ (genD_lt s) (by omega), genD_enc _ _ _ _ (genD_lt s)]
/-! ### One record -/
theorem fits_iff (l : List (List UInt8)) (p m : Nat) (s : List UInt8) : fitsD l p 0 m s = true ↔ goodD s m = true ∧ ((kindD s).toNat % 2 = 1 ↔ m = p) ∧ genD s = genD (l.getD p []) := by
  have : decide (kindD s &&& 1 ≠ 0) = decide ((kindD s).toNat % 2 = 1) := by
    rw [decide_eq_decide]; have := kind1 (kindD s); rw [Ne, this]; omega
  rw [fitsD, this]
  simp only [Nat.zero_le, decide_true, Bool.and_true, Bool.and_eq_true, decide_eq_true_eq, beq_iff_eq, decide_eq_decide]
  exact ⟨fun h => ⟨h.1.1, h.1.2, h.2⟩, fun h => ⟨⟨h.1, h.2.1⟩, h.2.2⟩⟩
theorem oneD_sec {l : List (List UInt8)} {p : Nat} : ∀ {f m : Nat} {b c : List UInt8} {q : Nat}, p ≤ m → b.length = 112 * (m - p) → oneD l p 0 f m b = some (c, q) → q = p + secD c.length
  | 0, _, _, _, _, _, _, h => by simp [oneD] at h
  | f + 1, m, b, c, q, hp, hb, h => by
    rw [oneD] at h
    split at h
    · rename_i hf
      obtain ⟨hg, hk, _⟩ := (fits_iff _ _ _ _).1 hf
      obtain ⟨_, hfm, hpl⟩ := good_len hg
      obtain ⟨g1, g2, g3, g4⟩ := (form_iff _).1 hfm
      split at h
      · simp only [Option.some.injEq, Prod.mk.injEq] at h
        obtain ⟨rfl, rfl⟩ := h
        rw [List.length_append, hpl, secD]
        by_cases hm : m = p
        · subst hm
          simp only [Nat.sub_self, Nat.mul_zero] at hb
          omega
        · have : lenD (l.getD m []) ≠ 0 := g4 (by have := mt hk.1 hm; omega)
          omega
      · rename_i h2
        have h2' : kindD (l.getD m []) &&& 2 = 0 := by simpa using h2
        have := g3 ((kind2 _ g2).1 h2')
        exact oneD_sec (by omega) (by rw [List.length_append, hpl, hb]; omega) h
    · cases h
theorem oneD_local {l l' : List (List UInt8)} {p : Nat} : ∀ {f m : Nat} {b c : List UInt8} {q : Nat}, p ≤ m → oneD l p 0 f m b = some (c, q) → (∀ i, p ≤ i → i < q → l'.getD i [] = l.getD i []) → oneD l' p 0 f m b = some (c, q)
  | 0, _, _, _, _, _, h, _ => by simp [oneD] at h
  | f + 1, m, b, c, q, hp, h, hl => by
    have hq := oneD_some h
    rw [oneD] at h ⊢
    rw [show fitsD l' p 0 m (l'.getD m []) = fitsD l p 0 m (l.getD m []) by unfold fitsD; rw [hl m hp hq.1, hl p (Nat.le_refl _) (by omega)], hl m hp hq.1]
    split at h
    · rename_i hf
      rw [if_pos hf]
      split at h
      · rename_i h2; rw [if_pos h2]; exact h
      · rename_i h2; rw [if_neg h2]; exact oneD_local (by omega) h hl
    · cases h
/-- A sector that is not good ends the reading, if no sector before ends a record. -/
theorem oneD_bad {l : List (List UInt8)} {p x : Nat} (hx : goodD (l.getD x []) x = false) : ∀ {f m : Nat} {b : List UInt8}, m ≤ x → (∀ i, m ≤ i → i < x → kindD (l.getD i []) &&& 2 = 0) → oneD l p 0 f m b = none
  | 0, _, _, _, _ => rfl
  | f + 1, m, b, hm, hk => by
    rw [oneD]
    by_cases e : m = x
    · subst e
      rw [if_neg (by rw [fits_iff, hx]; simp)]
    · split
      · rw [if_neg (by simpa using hk m (Nat.le_refl _) (by omega))]
        exact oneD_bad hx (by omega) (fun i h1 h2 => hk i (by omega) h2)
      · rfl
/-! ### The sectors of a record -/
theorem pieceL_at (g : Nat) : ∀ (n p : Nat) (kind : UInt8) (b : List UInt8) (i : Nat), i < n → ∃ kk c, (pieceL g n p kind b)[i]? = some (((p + i : Nat) : Int), encS g (p + i) kk c) ∧ c.length ≤ 112 ∧ (i + 1 < n → kk = if i = 0 then kind else 0)
  | 0, _, _, _, _, h => by omega
  | n + 1, p, kind, b, 0, _ => by
    refine ⟨if n = 0 then kind ||| 2 else kind, b.take 112, by simp only [pieceL, List.getElem?_cons_zero, Nat.add_zero], by rw [List.length_take]; omega, fun h => ?_⟩
    rw [if_neg (by omega), if_pos rfl]
  | n + 1, p, kind, b, i + 1, h => by
    obtain ⟨kk, c, h1, h2, h3⟩ := pieceL_at g n (p + 1) 0 (b.drop 112) i (by omega)
    refine ⟨kk, c, by rw [pieceL, List.getElem?_cons_succ, h1, show p + 1 + i = p + (i + 1) by omega], h2, fun h => ?_⟩
    rw [h3 (by omega)]; simp
theorem read_piece {l : List (List UInt8)} {p G : Nat} (hG : 0 < G) (hG2 : G < 4294967296) (hgp : genD (l.getD p []) = G) : ∀ (n f m : Nat) (kind : UInt8) (c acc : List UInt8), p ≤ m → kind = (if m = p then 1 else 0) → 1 ≤ n → n ≤ f → c.length ≤ 112 * n → (112 * (n - 1) < c.length ∨ (n = 1 ∧ m = p)) →
    (∀ i, i < n → ∃ w, (pieceL G n m kind c)[i]? = some w ∧ l.getD (m + i) [] = w.2) → oneD l p 0 f m acc = some (acc ++ c, m + n)
  | 0, _, _, _, _, _, _, _, h, _, _, _, _ => by omega
  | n + 1, 0, _, _, _, _, _, _, _, h, _, _, _ => by omega
  | n + 1, f + 1, m, kind, c, acc, hp, hkind, _, hf, hc, hc2, hl => by
    obtain ⟨w, hw, hlm⟩ := hl 0 (by omega)
    simp only [pieceL, List.getElem?_cons_zero, Option.some.injEq] at hw
    subst hw
    simp only [Nat.add_zero] at hlm
    have hkn : kind.toNat = if m = p then 1 else 0 := by rw [hkind]; split <;> rfl
    have htl : (c.take 112).length = min 112 c.length := List.length_take
    rw [oneD, hlm]
    by_cases hn : n = 0
    · subst hn
      rw [if_pos rfl] at *
      have hk2 : (kind ||| 2).toNat = kind.toNat + 2 := by rw [hkind]; split <;> rfl
      have hgood : goodD (encS G m (kind ||| 2) (c.take 112)) m = true := good_enc G m _ _ hG2 hG (by omega) (by rw [hk2, hkn]; split <;> omega) (fun h => by omega) (fun h => by
        have hm : m ≠ p := fun e => by rw [if_pos e] at hkn; omega
        omega)
      rw [if_pos ((fits_iff _ _ _ _).2 ⟨hgood, by rw [kindD_enc, hk2, hkn]; split <;> simp_all, by rw [genD_enc _ _ _ _ hG2, hgp]⟩)]
      have hne : ¬ kind ||| 2 = 0 := fun h => by have := congrArg UInt8.toNat h; rw [hk2] at this; exact absurd this (by simp)
      rw [kindD_enc, if_pos (fun h => by
        have := (kind2 (kind ||| 2) (by rw [hk2, hkn]; split <;> omega)).1 h
        omega), partD_enc _ _ _ _ (by omega), List.take_of_length_le (by omega)]
    · rw [if_neg hn]
      have hcl : 112 < c.length := by
        rcases hc2 with h | h
        · have : 112 * 1 ≤ 112 * (n + 1 - 1) := Nat.mul_le_mul_left _ (by omega)
          omega
        · omega
      have hgood : goodD (encS G m kind (c.take 112)) m = true := good_enc G m _ _ hG2 hG (by omega) (by rw [hkn]; split <;> omega) (fun _ => by omega) (fun _ => by omega)
      rw [if_pos ((fits_iff _ _ _ _).2 ⟨hgood, by rw [kindD_enc, hkn]; split <;> simp_all, by rw [genD_enc _ _ _ _ hG2, hgp]⟩)]
      rw [kindD_enc, if_neg (by
        have := (kind2 kind (by rw [hkn]; split <;> omega)).2 (by rw [hkn]; split <;> omega)
        simpa using this), partD_enc _ _ _ _ (by omega)]
      have hrec := read_piece hG hG2 hgp n f (m + 1) 0 (c.drop 112) (acc ++ c.take 112) (by omega) (by rw [if_neg (by omega)]) (by omega) (by omega) (by rw [List.length_drop]; omega) (.inl (by
        rw [List.length_drop]
        rcases hc2 with h | h <;> omega)) (fun i hi => by
          obtain ⟨w, h1, h2⟩ := hl (i + 1) (by omega)
          rw [pieceL, List.getElem?_cons_succ] at h1
          exact ⟨w, h1, by rw [← h2]; congr 1; omega⟩)
      rw [hrec, List.append_assoc, List.take_append_drop, show m + 1 + n = m + (n + 1) by omega]
/-! ### All records -/
inductive Lay (l : List (List UInt8)) : Nat → Nat → List (List UInt8) → Nat → Nat → Prop
  | nil (p last : Nat) : Lay l p last [] p last
  | cons {p last : Nat} {b : List UInt8} {m : Nat} {bs : List (List UInt8)} {e g : Nat} : oneD l p 0 (l.length - p) p [] = some (b, m) → last ≤ genD (l.getD p []) → Lay l m (genD (l.getD p [])) bs e g → Lay l p last (b :: bs) e g
def Stop (l : List (List UInt8)) (e g : Nat) : Prop := oneD l e 0 (l.length - e) e [] = none ∨ ¬ g ≤ genD (l.getD e [])
theorem Stop.recs {l : List (List UInt8)} {e g : Nat} (h : Stop l e g) (f : Nat) : recsF l f e g = [] := h.elim recsF_none recsF_low
theorem oneD_le {l : List (List UInt8)} {p : Nat} {b : List UInt8} {m : Nat} (h : oneD l p 0 (l.length - p) p [] = some (b, m)) : p < m ∧ m ≤ l.length := by
  have h1 := oneD_some h
  have : l.length - p ≠ 0 := fun e => by rw [e] at h; simp [oneD] at h
  omega
theorem Lay.append {l : List (List UInt8)} {p last : Nat} {xs : List (List UInt8)} {m g : Nat} (h : Lay l p last xs m g) : ∀ {bs : List (List UInt8)} {e g' : Nat}, Lay l m g bs e g' → Lay l p last (xs ++ bs) e g' := by
  induction h with
  | nil => intro bs e g' h; exact h
  | cons h1 h2 _ ih => intro bs e g' h; exact .cons h1 h2 (ih h)
theorem Lay.end {l : List (List UInt8)} {p last : Nat} {bs : List (List UInt8)} {e g : Nat} (h : Lay l p last bs e g) : e = p + usedN bs ∧ (p ≤ l.length → e ≤ l.length) ∧ (g = last ∨ ∃ i, i < l.length ∧ g = genD (l.getD i [])) ∧ last ≤ g := by
  induction h with
  | nil => exact ⟨by simp [usedN], fun h => h, .inl rfl, Nat.le_refl _⟩
  | cons h1 h2 _ ih =>
    obtain ⟨a1, a2, a3, a4⟩ := ih
    have hs := oneD_sec (Nat.le_refl _) (by simp) h1
    have hm := oneD_le h1
    refine ⟨by rw [a1, hs]; simp only [usedN, List.map_cons, List.sum_cons]; omega, fun _ => a2 hm.2, .inr ?_, by omega⟩
    rcases a3 with h | h
    · exact ⟨_, by omega, h⟩
    · exact h
theorem Lay.local {l l' : List (List UInt8)} (hlen : l'.length = l.length) {p last : Nat} {bs : List (List UInt8)} {e g : Nat} (h : Lay l p last bs e g) : (∀ i, p ≤ i → i < e → l'.getD i [] = l.getD i []) → Lay l' p last bs e g := by
  induction h with
  | nil => intro _; exact .nil _ _
  | cons h1 h2 h3 ih =>
    intro hl
    have hm := oneD_le h1
    have he := h3.end.1
    have hg := hl _ (Nat.le_refl _) (by omega)
    refine .cons (by rw [hlen]; exact oneD_local (Nat.le_refl _) h1 (fun i a b => hl i a (by omega))) (by rw [hg]; exact h2) ?_
    rw [hg]
    exact ih (fun i a b => hl i (by omega) b)
theorem Lay.recs {l : List (List UInt8)} {p last : Nat} {bs : List (List UInt8)} {e g : Nat} (h : Lay l p last bs e g) : ∀ f, l.length < p + f → ∃ f', (recsF l f p last).map (·.2) = bs ++ (recsF l f' e g).map (·.2) := by
  induction h with
  | nil => intro f _; exact ⟨f, rfl⟩
  | cons h1 h2 _ ih =>
    intro f hf
    have hm := oneD_le h1
    obtain ⟨f', h⟩ := ih (f - 1) (by omega)
    exact ⟨f', by rw [recsF_some h1 h2 (by omega), List.map_cons, h]; rfl⟩
theorem Lay.recsL {l : List (List UInt8)} {bs : List (List UInt8)} {e g : Nat} (h : Lay l 0 0 bs e g) (hs : Stop l e g) : recsL l = bs := by
  obtain ⟨f', h⟩ := h.recs (l.length + 1) (by omega)
  rw [Go.Bf.recsL, recsD, h, hs.recs]; simp
theorem lay_of (l : List (List UInt8)) : ∀ (f p last : Nat), p ≤ l.length → l.length < p + f → ∃ e g, Lay l p last ((recsF l f p last).map (·.2)) e g ∧ Stop l e g
  | 0, _, _, _, _ => by omega
  | f + 1, p, last, hp, hf => by
    by_cases hl : last ≤ genD (l.getD p [])
    · cases ho : oneD l p 0 (l.length - p) p [] with
      | none => exact ⟨p, last, by rw [recsF_none ho]; exact .nil _ _, .inl ho⟩
      | some r =>
        obtain ⟨b, m⟩ := r
        have hm := oneD_le ho
        obtain ⟨e, g, h1, h2⟩ := lay_of l f m (genD (l.getD p [])) hm.2 (by omega)
        exact ⟨e, g, by rw [recsF_some ho hl (by omega)]; exact .cons ho hl h1, h2⟩
    · exact ⟨p, last, by rw [recsF_low hl]; exact .nil _ _, .inr hl⟩
theorem lay_recs (l : List (List UInt8)) : ∃ g, Lay l 0 0 (recsL l) (usedN (recsL l)) g ∧ Stop l (usedN (recsL l)) g := by
  obtain ⟨e, g, h1, h2⟩ := lay_of l (l.length + 1) 0 0 (by omega) (by omega)
  have he := h1.end.1
  simp only [Nat.zero_add] at he
  subst he
  exact ⟨g, h1, h2⟩
theorem secD_pos (n : Nat) : 1 ≤ secD n := by unfold secD; omega
theorem secD_fit (n : Nat) : n ≤ 112 * secD n ∧ (112 * (secD n - 1) < n ∨ secD n = 1) := by unfold secD; omega
/-- How many records lie wholly within so many sectors. -/
def cntD : Nat → List (List UInt8) → Nat
  | _, [] => 0
  | t, b :: bs => if secD b.length ≤ t then cntD (t - secD b.length) bs + 1 else 0
theorem cntD_le : ∀ (t : Nat) (bs : List (List UInt8)), cntD t bs ≤ bs.length
  | _, [] => by simp [cntD]
  | t, b :: bs => by
    rw [cntD]
    split
    · have := cntD_le (t - secD b.length) bs
      simp; omega
    · simp
theorem usedN_cons (b : List UInt8) (bs : List (List UInt8)) : usedN (b :: bs) = secD b.length + usedN bs := by simp [usedN]
/-- The first t of the sectors have been written. -/
theorem read_secs {l : List (List UInt8)} {G : Nat} (hG : 0 < G) (hG2 : G < 4294967296) : ∀ (bs : List (List UInt8)) (p last t : Nat), last ≤ G → t ≤ usedN bs → p + t ≤ l.length → (∀ i, i < t → ∃ w, (secsL G p bs)[i]? = some w ∧ l.getD (p + i) [] = w.2) →
    ∃ g, Lay l p last (bs.take (cntD t bs)) (p + usedN (bs.take (cntD t bs))) g ∧ last ≤ g ∧ g ≤ G ∧ usedN (bs.take (cntD t bs)) ≤ t ∧ (t = usedN bs → cntD t bs = bs.length) ∧ (0 < cntD t bs → g = G)
      ∧ (∀ i, usedN (bs.take (cntD t bs)) ≤ i → i < t → kindD (l.getD (p + i) []) &&& 2 = 0)
  | [], p, last, t, hl, ht, _, _ => by
    simp only [usedN, List.map_nil, List.sum_nil] at ht
    exact ⟨last, by simpa [usedN] using Lay.nil p last, Nat.le_refl _, hl, by simp [usedN], fun _ => rfl, fun h => by simp [cntD] at h, fun i _ h => by omega⟩
  | b :: bs, p, last, t, hl, ht, hlen, hat => by
    rw [usedN_cons] at ht
    have hs := secD_fit b.length
    have hpos := secD_pos b.length
    have hpl := pieceL_len G (secD b.length) p 1 b
    by_cases hc : secD b.length ≤ t
    · have hgp : genD (l.getD p []) = G := by
        obtain ⟨w, h1, h2⟩ := hat 0 (by omega)
        rw [secsL, List.getElem?_append_left (by omega)] at h1
        obtain ⟨kk, c, h3, h4, _⟩ := pieceL_at G (secD b.length) p 1 b 0 (by omega)
        rw [h3] at h1; cases h1
        simp only [Nat.add_zero] at h2
        rw [h2, genD_enc _ _ _ _ hG2]
      have h1 : oneD l p 0 (l.length - p) p [] = some (b, p + secD b.length) := by
        have := read_piece hG hG2 hgp (secD b.length) (l.length - p) p 1 b [] (Nat.le_refl _) (by simp) hpos (by omega) hs.1 (by rcases hs.2 with h | h; exact .inl h; exact .inr ⟨h, rfl⟩) (fun i hi => by
          obtain ⟨w, h1, h2⟩ := hat i (by omega)
          rw [secsL, List.getElem?_append_left (by omega)] at h1
          exact ⟨w, h1, h2⟩)
        simpa using this
      obtain ⟨g, a1, a2, a3, a4, a5, a6, a7⟩ := read_secs (l := l) hG hG2 bs (p + secD b.length) G (t - secD b.length) (Nat.le_refl _) (by omega) (by omega) (fun i hi => by
        obtain ⟨w, h1, h2⟩ := hat (secD b.length + i) (by omega)
        rw [secsL, List.getElem?_append_right (by rw [hpl]; omega), hpl, Nat.add_sub_cancel_left] at h1
        exact ⟨w, h1, by rw [Nat.add_assoc]; exact h2⟩)
      rw [cntD, if_pos hc, List.take_succ_cons, usedN_cons, show p + (secD b.length + usedN (bs.take (cntD (t - secD b.length) bs))) = p + secD b.length + usedN (bs.take (cntD (t - secD b.length) bs)) by omega]
      refine ⟨g, .cons h1 (by rw [hgp]; exact hl) (by rw [hgp]; exact a1), by omega, a3, by omega, fun h => ?_, fun _ => by omega, fun i h1 h2 => ?_⟩
      · rw [usedN_cons] at h
        have := a5 (by omega)
        simp; omega
      · have := a7 (i - secD b.length) (by omega) (by omega)
        rwa [show p + secD b.length + (i - secD b.length) = p + i by omega] at this
    · rw [cntD, if_neg hc]
      refine ⟨last, by simpa [usedN] using Lay.nil p last, Nat.le_refl _, hl, by simp [usedN], fun h => ?_, fun h => by omega, fun i _ h2 => ?_⟩
      · rw [usedN_cons] at h; omega
      · obtain ⟨w, h1, h3⟩ := hat i h2
        rw [secsL, List.getElem?_append_left (by omega)] at h1
        obtain ⟨kk, c, h4, h5, h6⟩ := pieceL_at G (secD b.length) p 1 b i (by omega)
        rw [h4] at h1; cases h1
        rw [h3, kindD_enc, h6 (by omega)]
        split <;> rfl
end Go.Bf
