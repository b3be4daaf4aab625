/-
  The journal in plain words: syncing, and what is opened then. No program in sight. Nothing is claimed here.
-/
import Derived.Test.YtmkgmmgfjibjmaaBfJ14
import Derived.Test.YtmkgmmgfjibjmaaBfP1
namespace Go.Bf
open Go Go.RowKit
theorem gensD_le (l : List (List UInt8)) (n : Nat) : gensD l ≤ n ↔ 1 ≤ n ∧ ∀ s ∈ l, genD s < n ∧ tailD s < n := by
  have key : ∀ (l : List (List UInt8)) (a : Nat), l.foldl (fun g s => max (max g (genD s + 1)) (tailD s + 1)) a ≤ n ↔ a ≤ n ∧ ∀ s ∈ l, genD s < n ∧ tailD s < n := by
    intro l
    induction l with
    | nil => intro a; simp
    | cons s l ih =>
      intro a
      rw [List.foldl_cons, ih]
      simp only [List.mem_cons, forall_eq_or_imp]
      constructor
      · rintro ⟨h1, h2⟩; exact ⟨by omega, ⟨by omega, by omega⟩, h2⟩
      · rintro ⟨h1, ⟨h2, h3⟩, h4⟩; exact ⟨by omega, h4⟩
  exact key l 1
theorem gens_pos (l : List (List UInt8)) : 1 ≤ gensD l := ((gensD_le l _).1 (Nat.le_refl _)).1
theorem gens_lt (l : List (List UInt8)) (i : Nat) : genD (l.getD i []) < gensD l ∧ tailD (l.getD i []) < gensD l := by
  have h := (gensD_le l _).1 (Nat.le_refl _)
  by_cases hi : i < l.length
  · have : l.getD i [] = l[i] := by simp [hi]
    rw [this]; exact h.2 _ (List.getElem_mem hi)
  · have : l.getD i [] = [] := by simp [List.getElem?_eq_none (show l.length ≤ i by omega)]
    rw [this]
    exact ⟨by simp [genD, getN]; omega, by simp [tailD, getN]; omega⟩
theorem secsL_at (g : Nat) (hg : g < 4294967296) : ∀ (bs : List (List UInt8)) (p i : Nat), i < usedN bs → ∃ w, (secsL g p bs)[i]? = some w ∧ w.1 = ((p + i : Nat) : Int) ∧ w.2.length = 128 ∧ genD w.2 = g ∧ tailD w.2 = g
  | [], _, i, h => by simp [usedN] at h
  | b :: bs, p, i, h => by
    rw [usedN_cons] at h
    have hl := pieceL_len g (secD b.length) p 1 b
    by_cases hi : i < secD b.length
    · obtain ⟨kk, c, h1, h2, _⟩ := pieceL_at g (secD b.length) p 1 b i hi
      exact ⟨_, by rw [secsL, List.getElem?_append_left (by omega)]; exact h1, rfl, encS_length _ _ _ _ h2, genD_enc _ _ _ _ hg, tailD_enc _ _ _ _ hg h2⟩
    · obtain ⟨w, h1, h2, h3⟩ := secsL_at g hg bs (p + secD b.length) (i - secD b.length) (by omega)
      exact ⟨w, by rw [secsL, List.getElem?_append_right (by omega), hl]; exact h1, by rw [h2]; congr 1; omega, h3⟩
/-- Writes one behind the other. -/
def SeqW (p : Nat) (ws : List (Int × List UInt8)) : Prop := ∀ (i : Nat) w, ws[i]? = some w → w.1 = ((p + i : Nat) : Int)
theorem secsL_seq (g : Nat) (hg : g < 4294967296) (bs : List (List UInt8)) (p : Nat) : SeqW p (secsL g p bs) := fun i w h => by
  have hi := (List.getElem?_eq_some_iff.1 h).1
  rw [secsL_len] at hi
  obtain ⟨w', h1, h2, _⟩ := secsL_at g hg bs p i hi
  rw [h] at h1; cases h1; exact h2
theorem SeqW.take {p : Nat} {ws : List (Int × List UInt8)} (h : SeqW p ws) (t : Nat) : SeqW p (ws.take t) := fun i w hw => by
  rw [List.getElem?_take] at hw
  split at hw
  · exact h i w hw
  · cases hw
theorem perform_seq : ∀ (ws : List (Int × List UInt8)) (p : Nat) (ss : List (List UInt8)), SeqW p ws → p + ws.length ≤ ss.length → ∀ k, (performL ss ws).getD k [] = if p ≤ k ∧ k < p + ws.length then ((ws[k - p]?).map (·.2)).getD [] else ss.getD k []
  | [], p, ss, _, _, k => by
    rw [if_neg (by simp only [List.length_nil]; omega)]; rfl
  | w :: ws, p, ss, hs, hl, k => by
    have hw : w.1 = ((p : Nat) : Int) := by have := hs 0 w rfl; simpa using this
    simp only [List.length_cons] at hl ⊢
    have ih := perform_seq ws (p + 1) (setAt ss w) (fun i w' h => by have := hs (i + 1) w' (by simpa using h); rw [this]; congr 1; omega) (by simp [setAt]; omega) k
    have e : performL ss (w :: ws) = performL (setAt ss w) ws := rfl
    rw [e, ih]
    by_cases h1 : k = p
    · subst h1
      rw [if_neg (by omega), if_pos (by omega)]
      simp [setAt, hw, show k < ss.length by omega]
    · by_cases h2 : p + 1 ≤ k ∧ k < p + 1 + ws.length
      · rw [if_pos h2, if_pos (by omega), show k - p = (k - (p + 1)) + 1 by omega, List.getElem?_cons_succ]
      · rw [if_neg h2, if_neg (by omega)]
        simp only [setAt, List.getD_eq_getElem?_getD, hw, Int.toNat_natCast]
        rw [List.getElem?_set_ne (Ne.symm h1)]
/-- Sectors of which the first at0 have been left be, and the next t have been written. -/
structure Wrote (ss ss' : List (List UInt8)) (G at0 : Nat) (rest : List (List UInt8)) (t : Nat) : Prop where
  len : ss'.length = ss.length
  old : ∀ i, i < at0 → ss'.getD i [] = ss.getD i []
  new : ∀ i, i < t → ∃ w, (secsL G at0 rest)[i]? = some w ∧ ss'.getD (at0 + i) [] = w.2
theorem wrote_perform {ss : List (List UInt8)} {G at0 : Nat} {rest : List (List UInt8)} {t : Nat} (hG : G < 4294967296) (ht : t ≤ usedN rest) (hl : at0 + usedN rest ≤ ss.length) : Wrote ss (performL ss ((secsL G at0 rest).take t)) G at0 rest t := by
  have hlen : ((secsL G at0 rest).take t).length = t := by rw [List.length_take, secsL_len]; omega
  have hp := perform_seq _ at0 ss ((secsL_seq G hG rest at0).take t) (by rw [hlen]; omega)
  rw [hlen] at hp
  refine ⟨by simp, fun i hi => by rw [hp, if_neg (by omega)], fun i hi => ?_⟩
  obtain ⟨w, h1, _⟩ := secsL_at G hG rest at0 i (by omega)
  refine ⟨w, h1, ?_⟩
  rw [hp, if_pos (by omega), Nat.add_sub_cancel_left, List.getElem?_take, if_pos hi, h1]; rfl
theorem lay_start {ss : List (List UInt8)} : ∃ g, g ≤ gensD ss ∧ Lay ss 0 0 (recsL ss) (usedN (recsL ss)) g ∧ Stop ss (usedN (recsL ss)) g := by
  obtain ⟨g, h1, h2⟩ := lay_recs ss
  refine ⟨g, ?_, h1, h2⟩
  rcases h1.end.2.2.1 with h | ⟨i, _, h⟩
  · omega
  · have := gens_lt ss i; omega
theorem opened_full {ss ss' : List (List UInt8)} {rest : List (List UInt8)} (hG : gensD ss < 4294967296) (h : Wrote ss ss' (gensD ss) (usedN (recsL ss)) rest (usedN rest)) (hl : usedN (recsL ss) + usedN rest ≤ ss.length) (hr : rest ≠ [])
    (he : genD (ss'.getD (usedN (recsL ss) + usedN rest) []) < gensD ss) : recsL ss' = recsL ss ++ rest := by
  obtain ⟨g0, hg0, hlay, _⟩ := lay_start (ss := ss)
  have h1 := hlay.local h.len (fun i _ hi => h.old i hi)
  obtain ⟨g, a1, a2, a3, a4, a5, a6, a7⟩ := read_secs (l := ss') (gens_pos ss) hG rest (usedN (recsL ss)) g0 (usedN rest) hg0 (Nat.le_refl _) (by rw [h.len]; exact hl) h.new
  have hc := a5 rfl
  rw [hc, List.take_length] at a1
  have hg : g = gensD ss := a6 (by rw [hc]; exact List.length_pos_iff.2 hr)
  exact (h1.append a1).recsL (.inr (by rw [hg]; omega))
theorem opened_cut {ss ss' : List (List UInt8)} {rest : List (List UInt8)} {t : Nat} (hG : gensD ss < 4294967296) (h : Wrote ss ss' (gensD ss) (usedN (recsL ss)) rest t) (ht : t < usedN rest) (hl : usedN (recsL ss) + usedN rest ≤ ss.length)
    (hb : goodD (ss'.getD (usedN (recsL ss) + t) []) (usedN (recsL ss) + t) = false) : recsL ss' = recsL ss ++ rest.take (cntD t rest) := by
  obtain ⟨g0, hg0, hlay, _⟩ := lay_start (ss := ss)
  have h1 := hlay.local h.len (fun i _ hi => h.old i hi)
  obtain ⟨g, a1, a2, a3, a4, a5, a6, a7⟩ := read_secs (l := ss') (gens_pos ss) hG rest (usedN (recsL ss)) g0 t hg0 (by omega) (by rw [h.len]; omega) h.new
  refine (h1.append a1).recsL (.inl (oneD_bad hb (by omega) fun i h2 h3 => ?_))
  have := a7 (i - usedN (recsL ss)) (by omega) (by omega)
  rwa [show usedN (recsL ss) + (i - usedN (recsL ss)) = i by omega] at this
/-- A sector whose first half alone is new is not good. -/
theorem torn_bad {new old : List UInt8} {k g : Nat} (hn : new.length = 128) (_ : old.length = 128) (hg : genD new = g) (ht : tailD old < g) : goodD (new.take 64 ++ old.drop 64) k = false := by
  rw [Bool.eq_false_iff]
  intro h
  have := good_tail h
  have e1 : genD (new.take 64 ++ old.drop 64) = g := by
    rw [← hg, genD, genD, List.take_append_of_le_length (by simp; omega), List.take_take]; rfl
  have e2 : tailD (new.take 64 ++ old.drop 64) = tailD old := by
    rw [tailD, tailD, List.drop_append, List.drop_eq_nil_of_le (by simp; omega), List.nil_append, List.drop_drop]
    simp [hn]
  omega
theorem torn_gen {new old : List UInt8} (hn : new.length = 128) (_ : old.length = 128) : genD (new.take 64 ++ old.drop 64) = genD new ∧ tailD (new.take 64 ++ old.drop 64) = tailD old := by
  constructor
  · rw [genD, genD, List.take_append_of_le_length (by simp; omega), List.take_take]; rfl
  · rw [tailD, tailD, List.drop_append, List.drop_eq_nil_of_le (by simp; omega), List.nil_append, List.drop_drop]
    simp [hn]
/-- What is known of a sync: of the journal and the disk that it leaves. -/
structure Synced (j : Jn) (d : Dk) (x : Jn) (y : Dk) : Prop where
  many : x.many = j.many
  recs : x.recs = j.recs
  all : x.synced = j.recs.length
  ok : okD y = true
  st : y.st = false
  ps : y.ps = []
  len : y.ss.length = d.ss.length
  opened : recsL y.ss = j.recs
  gens : gensD y.ss ≤ gensD d.ss + 1
/-- The journal of a disk that is asked to be synced. -/
structure Asked (j : Jn) (d : Dk) : Prop where
  okj : okJ j = true
  used : usedN j.recs < 4611686018427387904
  ok : okD d = true
  st : d.st = false
  ps : d.ps = []
  many : j.many = d.ss.length
  opened : recsL d.ss = j.recs.take j.synced.toNat
  gens : gensD d.ss < 4294967296
theorem take_split (l : List (List UInt8)) (n : Nat) : usedN (l.take n) + usedN (l.drop n) = usedN l := usedN_split l n
theorem asked_run {j : Jn} {d : Dk} (h : Asked j d) : jsyncD j d = if j.synced = j.recs.length then (j, d, 0) else
    (let r := syncD { d with ps := secsL (gensD d.ss) (usedN (recsL d.ss)) (j.recs.drop j.synced.toNat) }
      if r.2 = 0 then ({ j with synced := j.recs.length }, r.1, 0) else (zeroJ, r.1, r.2)) := by
  have ho : (openD d).2 = 0 ∧ (openD d).1.recs = recsL d.ss := by
    unfold openD
    rw [if_pos h.ok, h.st, h.ps]
    simp
  simp only [jsyncD, h.okj, h.ok, if_true]
  rw [if_neg (by have := h.many; omega), if_neg (by rw [ho.1]; simp), if_neg (by rw [ho.2, h.opened]; have := h.gens; simp; omega), h.opened]
theorem asked_facts {j : Jn} {d : Dk} (h : Asked j d) : 0 ≤ j.synced ∧ j.synced ≤ j.recs.length ∧ usedN (recsL d.ss) + usedN (j.recs.drop j.synced.toNat) ≤ d.ss.length ∧ 1 ≤ d.ss.length ∧ d.ss.length ≤ 4096 := by
  have h1 := okJ_syn h.okj
  have h2 := usedN_split j.recs j.synced.toNat
  have h3 := usedW_eq j.recs h.used
  have h4 := okD_ps h.ok
  rw [h.opened]
  have := h.many
  refine ⟨h1.1, h1.2.1, by omega, h4.2⟩
theorem okD_secs {j : Jn} {d : Dk} (h : Asked j d) : okD { d with ps := secsL (gensD d.ss) (usedN (recsL d.ss)) (j.recs.drop j.synced.toNat) } = true := by
  have hf := asked_facts h
  have hok := (okD_iff d).1 h.ok
  rw [okD_iff]
  refine ⟨⟨hok.1.1, hok.1.2.1, by simp only [secsL_len]; omega, hok.1.2.2.2⟩, fun w hw => ?_, hok.2.2⟩
  obtain ⟨i, hi⟩ := List.getElem?_of_mem hw
  have hlt := (List.getElem?_eq_some_iff.1 hi).1
  rw [secsL_len] at hlt
  obtain ⟨w', h1, h2, h3, _⟩ := secsL_at (gensD d.ss) h.gens (j.recs.drop j.synced.toNat) (usedN (recsL d.ss)) i hlt
  rw [hi] at h1; cases h1
  refine ⟨by omega, ?_, h3⟩
  simp only; omega
theorem wrote_gens {ss ss' : List (List UInt8)} {at0 t : Nat} {rest : List (List UInt8)} (hG : gensD ss < 4294967296) (h : Wrote ss ss' (gensD ss) at0 rest t) (ht : t ≤ usedN rest) (ho : ∀ i, at0 + t ≤ i → i < ss.length → genD (ss'.getD i []) ≤ gensD ss ∧ tailD (ss'.getD i []) ≤ gensD ss) : gensD ss' ≤ gensD ss + 1 := by
  rw [gensD_le]
  refine ⟨by omega, fun s hs => ?_⟩
  obtain ⟨i, hi, rfl⟩ := List.mem_iff_getElem.1 hs
  have e : ss'[i] = ss'.getD i [] := by simp [hi]
  rw [e]
  by_cases h1 : i < at0
  · rw [h.old i h1]; have := gens_lt ss i; omega
  · by_cases h2 : i < at0 + t
    · obtain ⟨w, h3, h4⟩ := h.new (i - at0) (by omega)
      rw [show at0 + (i - at0) = i by omega] at h4
      obtain ⟨w', h5, h6, h7, h8, h9⟩ := secsL_at (gensD ss) hG rest at0 (i - at0) (by omega)
      rw [h3] at h5; cases h5
      rw [h4]; omega
    · have := ho i (by omega) (by rw [← h.len]; exact hi); omega
theorem perform_after {ss : List (List UInt8)} {G at0 : Nat} {rest : List (List UInt8)} {t : Nat} (hG : G < 4294967296) (ht : t ≤ usedN rest) (hl : at0 + usedN rest ≤ ss.length) (i : Nat) (hi : at0 + t ≤ i) : (performL ss ((secsL G at0 rest).take t)).getD i [] = ss.getD i [] := by
  have hlen : ((secsL G at0 rest).take t).length = t := by rw [List.length_take, secsL_len]; omega
  have hp := perform_seq _ at0 ss ((secsL_seq G hG rest at0).take t) (by rw [hlen]; omega)
  rw [hlen] at hp
  rw [hp, if_neg (by omega)]
/-- A sync that does not stop. -/
theorem synced_of {j : Jn} {d : Dk} (h : Asked j d) (hleft : ¬ (0 ≤ d.left ∧ d.left < usedN (j.recs.drop j.synced.toNat))) : ∃ x y, jsyncD j d = (x, y, 0) ∧ Synced j d x y ∧ (d.left = -1 → y.left = -1) := by
  have hf := asked_facts h
  rw [asked_run h]
  by_cases hs : j.synced = j.recs.length
  · rw [if_pos hs]
    refine ⟨j, d, rfl, ⟨rfl, rfl, hs, h.ok, h.st, h.ps, rfl, ?_, by omega⟩, fun h => h⟩
    rw [h.opened, List.take_of_length_le (by omega)]
  · rw [if_neg hs]
    have hok := okD_secs h
    rcases syncD_cases _ hok h.st with ⟨h1, _⟩ | ⟨h1, h2⟩
    · exfalso
      simp only [secsL_len] at h1
      exact hleft ⟨h1.1, h1.2⟩
    · rw [h2]
      simp only [if_true]
      refine ⟨_, _, rfl, ?_, fun hl => by simp only [hl]; rfl⟩
      have hoks := okD_sync hok h.st (by rw [h2])
      rw [h2] at hoks
      have hr : j.recs.drop j.synced.toNat ≠ [] := fun e => by
        have := congrArg List.length e
        simp at this; omega
      have hw := wrote_perform (ss := d.ss) (at0 := usedN (recsL d.ss)) (rest := j.recs.drop j.synced.toNat) (t := usedN (j.recs.drop j.synced.toNat)) h.gens (Nat.le_refl _) hf.2.2.1
      have hpa := perform_after (ss := d.ss) (at0 := usedN (recsL d.ss)) (rest := j.recs.drop j.synced.toNat) (t := usedN (j.recs.drop j.synced.toNat)) h.gens (Nat.le_refl _) hf.2.2.1
      rw [List.take_of_length_le (by rw [secsL_len]; omega)] at hw hpa
      have ho := opened_full h.gens hw hf.2.2.1 hr (by rw [hpa _ (Nat.le_refl _)]; exact (gens_lt d.ss _).1)
      refine ⟨rfl, rfl, rfl, hoks.1, rfl, rfl, by simp, ?_, ?_⟩
      · simp only
        rw [ho, h.opened, List.take_append_drop]
      · refine wrote_gens h.gens hw (Nat.le_refl _) fun i hi _ => ?_
        rw [hpa i hi]
        have := gens_lt d.ss i; omega
theorem syncD_torn {d : Dk} (hok : okD d = true) (hst : d.st = false) {t : Nat} (hl : d.left = t) {w : Int × List UInt8} (hw : d.ps[t]? = some w) :
    syncD d = (⟨(performL d.ss (d.ps.take t)).set w.1.toNat (tornD (performL d.ss (d.ps.take t)) w), [], 0, true⟩, 440) := by
  simp [syncD, hok, hst, hl, hw]
/-- What a sync leaves that stops. -/
structure Torn (j : Jn) (d : Dk) (y : Dk) : Prop where
  len : y.ss.length = d.ss.length
  sect : ∀ s ∈ y.ss, s.length = 128
  opened : ∃ k, recsL y.ss = recsL d.ss ++ (j.recs.drop j.synced.toNat).take k
  gens : gensD y.ss ≤ gensD d.ss + 1
theorem torn_of {j : Jn} {d : Dk} (h : Asked j d) (hleft : 0 ≤ d.left ∧ d.left < usedN (j.recs.drop j.synced.toNat)) : ∃ y, jsyncD j d = (zeroJ, y, 440) ∧ Torn j d y := by
  have hf := asked_facts h
  rw [asked_run h]
  obtain ⟨rest, hrest⟩ : ∃ r, j.recs.drop j.synced.toNat = r := ⟨_, rfl⟩
  have hs : j.synced ≠ j.recs.length := fun e => by
    have : j.recs.drop j.synced.toNat = [] := List.drop_eq_nil_of_le (by omega)
    rw [this] at hleft
    simp [usedN] at hleft; omega
  rw [if_neg hs]
  have hok := okD_secs h
  have hd := (okD_iff d).1 h.ok
  rw [hrest] at hf hok hleft ⊢
  · obtain ⟨t, ht⟩ : ∃ t : Nat, d.left = t := ⟨d.left.toNat, by omega⟩
    have htl : t < usedN rest := by omega
    obtain ⟨w, g1, g2, g3, g4, g5⟩ := secsL_at (gensD d.ss) h.gens rest (usedN (recsL d.ss)) t htl
    have h3 := syncD_torn hok h.st ht g1
    simp only at h3
    have hwt := wrote_perform (ss := d.ss) (G := gensD d.ss) (at0 := usedN (recsL d.ss)) (rest := rest) (t := t) h.gens (by omega) hf.2.2.1
    have hpa := perform_after (ss := d.ss) (G := gensD d.ss) (at0 := usedN (recsL d.ss)) (rest := rest) (t := t) h.gens (by omega) hf.2.2.1
    obtain ⟨P, hP⟩ : ∃ P, performL d.ss ((secsL (gensD d.ss) (usedN (recsL d.ss)) rest).take t) = P := ⟨_, rfl⟩
    rw [hP] at hwt hpa h3
    have hPl : P.length = d.ss.length := hwt.len
    have hold : P.getD (usedN (recsL d.ss) + t) [] = d.ss.getD (usedN (recsL d.ss) + t) [] := hpa _ (Nat.le_refl _)
    have hx : usedN (recsL d.ss) + t < d.ss.length := by omega
    have hol : (d.ss.getD (usedN (recsL d.ss) + t) []).length = 128 := by
      have : d.ss.getD (usedN (recsL d.ss) + t) [] = d.ss[usedN (recsL d.ss) + t] := by simp [hx]
      rw [this]; exact hd.2.2 _ (List.getElem_mem hx)
    have htorn : tornD P w = w.2.take 64 ++ (d.ss.getD (usedN (recsL d.ss) + t) []).drop 64 := by
      rw [tornD, g2, Int.toNat_natCast, hold]
    have hset : ∀ i, (P.set w.1.toNat (tornD P w)).getD i [] = if i = usedN (recsL d.ss) + t then tornD P w else P.getD i [] := fun i => by
      rw [g2, Int.toNat_natCast, List.getD_eq_getElem?_getD, List.getElem?_set]
      by_cases e : i = usedN (recsL d.ss) + t
      · rw [if_pos e, if_pos e.symm, if_pos (by omega)]; rfl
      · rw [if_neg e, if_neg (fun h => e h.symm), List.getD_eq_getElem?_getD]
    have hwt2 : Wrote d.ss (P.set w.1.toNat (tornD P w)) (gensD d.ss) (usedN (recsL d.ss)) rest t := by
      refine ⟨by simp [hPl], fun i hi => by rw [hset, if_neg (by omega)]; exact hwt.old i hi, fun i hi => ?_⟩
      obtain ⟨w', k1, k2⟩ := hwt.new i hi
      exact ⟨w', k1, by rw [hset, if_neg (by omega)]; exact k2⟩
    have hbad : goodD ((P.set w.1.toNat (tornD P w)).getD (usedN (recsL d.ss) + t) []) (usedN (recsL d.ss) + t) = false := by
      rw [hset, if_pos rfl, htorn]
      exact torn_bad g3 hol g4 (gens_lt d.ss _).2
    refine ⟨_, by simp only [h3]; rw [if_neg (by decide)], ⟨by simp [hPl], fun s hs => ?_, ⟨cntD t rest, by rw [hrest]; exact opened_cut h.gens hwt2 htl hf.2.2.1 hbad⟩, ?_⟩⟩
    · obtain ⟨i, hi, rfl⟩ := List.mem_iff_getElem.1 hs
      have e : (P.set w.1.toNat (tornD P w))[i] = (P.set w.1.toNat (tornD P w)).getD i [] := by simp only [List.getD_eq_getElem?_getD]; rw [List.getElem?_eq_getElem hi]; rfl
      simp only at hi ⊢
      rw [e, hset]
      split
      · rw [htorn, List.length_append, List.length_take, List.length_drop, g3, hol]; rfl
      · have hi' : i < P.length := by simpa using hi
        have hall : ∀ s ∈ P, s.length = 128 := by
          rw [← hP]
          exact performL_all hd.2.2 fun w hw => by
            obtain ⟨i, hi⟩ := List.getElem?_of_mem (List.mem_of_mem_take hw)
            have hlt := (List.getElem?_eq_some_iff.1 hi).1
            rw [secsL_len] at hlt
            obtain ⟨w', h1, h2, h3, _⟩ := secsL_at (gensD d.ss) h.gens rest (usedN (recsL d.ss)) i hlt
            rw [hi] at h1; cases h1; exact h3
        have : P.getD i [] = P[i] := by simp [hi']
        rw [this]; exact hall _ (List.getElem_mem hi')
    · refine wrote_gens h.gens hwt2 (by omega) fun i hi hl => ?_
      rw [hset]
      split
      · rw [htorn]
        obtain ⟨e1, e2⟩ := torn_gen g3 hol
        have := gens_lt d.ss (usedN (recsL d.ss) + t)
        rw [e1, e2]; omega
      · rw [hpa i hi]
        have := gens_lt d.ss i; omega
end Go.Bf
