/-
  The disk in plain words: what is read after writes and syncs. No program in sight. Nothing is claimed here.
-/
import Derived.Test.YtmejdolknkjjdaaBfX17
namespace Go.Bf
open Go Go.RowKit
theorem okD_iff (d : Dk) : okD d = true ↔ (1 ≤ d.ss.length ∧ d.ss.length ≤ 4096 ∧ d.ps.length ≤ 4096 ∧ -1 ≤ d.left ∧ d.left ≤ 65536) ∧ (∀ w ∈ d.ps, 0 ≤ w.1 ∧ w.1 < d.ss.length ∧ w.2.length = 128) ∧ ∀ b ∈ d.ss, b.length = 128 := by
  unfold okD
  simp only [Bool.and_eq_true, decide_eq_true_eq, Bool.not_eq_true', List.any_eq_false, badW, decide_eq_false_iff_not, and_assoc]
  constructor
  · rintro ⟨h1, h2, h3, h4, h5, h6, h7⟩
    exact ⟨h1, h2, h3, h4, h5, fun w hw => by have := h6 w hw; simp at this; omega, fun b hb => by have := h7 b hb; simpa using this⟩
  · rintro ⟨h1, h2, h3, h4, h5, h6, h7⟩
    exact ⟨h1, h2, h3, h4, h5, fun w hw => by have := h6 w hw; simp; omega, fun b hb => by simp [h7 b hb]⟩
theorem writeD_cases (d : Dk) (a : Int) (b : List UInt8) (hok : okD d = true) (hst : d.st = false) (h0 : 0 ≤ a) (h1 : a < d.ss.length) (hb : b.length ≤ 128) :
    (d.ps.length = 4096 ∧ writeD d a b = (zeroD, 2)) ∨ (d.ps.length < 4096 ∧ writeD d a b = ({ d with ps := d.ps ++ [(a, padB b)] }, 0)) := by
  have hc : (okD d && !d.st && decide (0 ≤ a ∧ a < d.ss.length)) = true := by simp [hok, hst, h0, h1]
  have := (okD_ps hok).1
  by_cases h : d.ps.length = 4096
  · exact .inl ⟨h, by simp only [writeD, hc]; rw [if_pos trivial, if_neg (by omega), if_pos h]⟩
  · exact .inr ⟨by omega, by simp only [writeD, hc]; rw [if_pos trivial, if_neg (by omega), if_neg h]⟩
theorem writeD_ok {d : Dk} {a : Int} {b : List UInt8} (h : (writeD d a b).2 = 0) : okD d = true ∧ d.st = false ∧ 0 ≤ a ∧ a < d.ss.length ∧ b.length ≤ 128 ∧ d.ps.length < 4096 ∧ writeD d a b = ({ d with ps := d.ps ++ [(a, padB b)] }, 0) := by
  unfold writeD at h
  split at h
  · rename_i hc
    simp only [Bool.and_eq_true, Bool.not_eq_true', decide_eq_true_eq] at hc
    obtain ⟨⟨h1, h2⟩, h3, h4⟩ := hc
    split at h
    · cases h
    · rename_i hb
      have hb : b.length ≤ 128 := by omega
      rcases writeD_cases d a b h1 h2 h3 h4 hb with ⟨h5, h6⟩ | ⟨h5, h6⟩
      · split at h
        · cases h
        · rename_i hn; exact absurd h5 hn
      · exact ⟨h1, h2, h3, h4, hb, h5, h6⟩
  · cases h
theorem okD_write {d : Dk} {a : Int} {p : List UInt8} (hok : okD d = true) (h0 : 0 ≤ a) (h1 : a < d.ss.length) (hp : p.length = 128) (hl : d.ps.length < 4096) : okD { d with ps := d.ps ++ [(a, p)] } = true := by
  rw [okD_iff] at hok ⊢
  obtain ⟨h2, h3, h4⟩ := hok
  refine ⟨by simp; omega, fun w hw => ?_, h4⟩
  rcases List.mem_append.1 hw with h | h
  · exact h3 w h
  · simp at h; subst h; exact ⟨h0, h1, hp⟩
def lastW (d : Dk) (o : Int) : List UInt8 := match d.ps.reverse.find? (fun w => w.1 = o) with
  | some w => w.2
  | none => d.ss.getD o.toNat []
theorem readD_val {d : Dk} {o : Int} (hok : okD d = true) (hst : d.st = false) (h0 : 0 ≤ o) (h1 : o < d.ss.length) : readD d o = (lastW d o, 0) := by
  have hc : (okD d && !d.st && decide (0 ≤ o ∧ o < d.ss.length)) = true := by simp [hok, hst, h0, h1]
  simp only [readD, hc, if_true, lastW]
  cases d.ps.reverse.find? (fun w => w.1 = o) <;> rfl
theorem readD_ok {d : Dk} {o : Int} (h : (readD d o).2 = 0) : okD d = true ∧ d.st = false ∧ 0 ≤ o ∧ o < d.ss.length := by
  unfold readD at h
  split at h
  · rename_i hc
    simpa [Bool.and_eq_true, and_assoc] using hc
  · cases h
theorem lastW_write (d : Dk) (a o : Int) (p : List UInt8) : lastW { d with ps := d.ps ++ [(a, p)] } o = if a = o then p else lastW d o := by
  simp only [lastW, List.reverse_append, List.reverse_cons, List.reverse_nil, List.nil_append, List.singleton_append, List.find?_cons]
  by_cases h : a = o <;> simp [h]
theorem performL_get (ss : List (List UInt8)) (left : Int) (st : Bool) : ∀ (n : Nat) (ps : List (Int × List UInt8)), ps.length = n → (∀ w ∈ ps, 0 ≤ w.1 ∧ w.1 < ss.length) → ∀ k : Nat, k < ss.length → (performL ss ps).getD k [] = lastW ⟨ss, ps, left, st⟩ k := by
  intro n
  induction n with
  | zero =>
    intro ps hn _ k _
    have : ps = [] := List.eq_nil_of_length_eq_zero hn
    subst this
    simp [performL, lastW]
  | succ n ih =>
    intro ps hn hw k hk
    have hne : ps ≠ [] := fun e => by subst e; simp at hn
    obtain ⟨l, w, rfl⟩ : ∃ l w, ps = l ++ [w] := ⟨ps.dropLast, ps.getLast hne, (List.dropLast_concat_getLast hne).symm⟩
    simp at hn
    have h1 := ih l hn (fun v hv => hw v (by simp [hv])) k hk
    have h2 := hw w (by simp)
    have e1 : performL ss (l ++ [w]) = (performL ss l).set w.1.toNat w.2 := by simp only [performL, List.foldl_append, List.foldl_cons, List.foldl_nil, setAt]
    have e2 := lastW_write ⟨ss, l, left, st⟩ w.1 k w.2
    simp only at e2
    rw [e1, e2, ← h1]
    simp only [List.getD_eq_getElem?_getD, List.getElem?_set, performL_length]
    by_cases hwk : w.1 = (k : Int)
    · rw [if_pos (by omega), if_pos hwk, if_pos (by omega)]; rfl
    · rw [if_neg (by omega), if_neg hwk]
theorem syncD_cases (d : Dk) (hok : okD d = true) (hst : d.st = false) :
    ((0 ≤ d.left ∧ d.left < d.ps.length) ∧ (syncD d).2 = 440 ∧ (syncD d).1.st = true) ∨
    (¬ (0 ≤ d.left ∧ d.left < d.ps.length) ∧ syncD d = (⟨performL d.ss d.ps, [], if 0 ≤ d.left then d.left - d.ps.length else d.left, false⟩, 0)) := by
  have hc : (okD d && !d.st) = true := by simp [hok, hst]
  by_cases h : 0 ≤ d.left ∧ d.left < d.ps.length
  · left
    have hlt : d.left.toNat < d.ps.length := by omega
    refine ⟨h, ?_⟩
    simp only [syncD, hc, if_true, List.getElem?_eq_getElem hlt, h.1]
    first | trivial | exact ⟨rfl, rfl⟩
  · right
    refine ⟨h, ?_⟩
    simp only [syncD, hc, if_true]
    by_cases hg : 0 ≤ d.left
    · rw [List.getElem?_eq_none (by omega)]
    · cases hh : d.ps[d.left.toNat]? with
      | none => rfl
      | some w => simp [hg]
theorem okD_sync {d : Dk} (hok : okD d = true) (hst : d.st = false) (h : (syncD d).2 = 0) : okD (syncD d).1 = true ∧ (syncD d).1.st = false ∧ (syncD d).1.ps = [] ∧ (syncD d).1.ss = performL d.ss d.ps := by
  rcases syncD_cases d hok hst with ⟨_, h1, _⟩ | ⟨h1, h2⟩
  · rw [h1] at h; cases h
  · rw [h2]
    have hok' := hok
    rw [okD_iff] at hok'
    obtain ⟨g1, g2, g3⟩ := hok'
    refine ⟨?_, rfl, rfl, rfl⟩
    rw [okD_iff]
    refine ⟨?_, fun w hw => by simp at hw, performL_all g3 fun w hw => (g2 w hw).2.2⟩
    simp only [performL_length, List.length_nil]
    refine ⟨g1.1, g1.2.1, by omega, ?_, ?_⟩ <;> split <;> omega
theorem readD_sync {d : Dk} (hok : okD d = true) (hst : d.st = false) (h : (syncD d).2 = 0) (k : Nat) (hk : k < d.ss.length) : readD (syncD d).1 k = readD d k ∧ (readD d k).2 = 0 := by
  obtain ⟨h1, h2, h3, h4⟩ := okD_sync hok hst h
  have e1 := readD_val (o := (k : Int)) h1 h2 (by omega) (by rw [h4, performL_length]; omega)
  have e2 := readD_val (o := (k : Int)) hok hst (by omega) (by omega)
  have hw := ((okD_iff d).1 hok).2.1
  have e3 := performL_get d.ss d.left d.st d.ps.length d.ps rfl (fun w h => ⟨(hw w h).1, (hw w h).2.1⟩) k hk
  have e4 : lastW (syncD d).1 k = (performL d.ss d.ps).getD k [] := by simp [lastW, h3, h4]
  rw [e1, e2, e4, e3]
  exact ⟨rfl, rfl⟩
theorem syncD_stop (d : Dk) (hok : okD d = true) (hst : d.st = false) (h0 : 0 ≤ d.left) (h1 : d.left.toNat < d.ps.length) :
    syncD d = (⟨(performL d.ss (d.ps.take d.left.toNat)).set d.ps[d.left.toNat].1.toNat (tornD (performL d.ss (d.ps.take d.left.toNat)) d.ps[d.left.toNat]), [], 0, true⟩, 440) := by
  have hc : (okD d && !d.st) = true := by simp [hok, hst]
  simp only [syncD, hc, if_true, List.getElem?_eq_getElem h1, h0]
theorem syncD_run (d : Dk) (hok : okD d = true) (hst : d.st = false) (h : ¬ (0 ≤ d.left ∧ d.left < d.ps.length)) : syncD d = (⟨performL d.ss d.ps, [], if 0 ≤ d.left then d.left - d.ps.length else d.left, false⟩, 0) := by
  rcases syncD_cases d hok hst with ⟨h1, _⟩ | ⟨_, h2⟩
  · exact absurd h1 h
  · exact h2
abbrev Ac := Bool × UInt8 × UInt8
/-- The write that an act leads to. -/
def wOf (n : Nat) (a : Ac) : Int × List UInt8 := (((a.2.1.toNat % n : Nat) : Int), padB [a.2.2])
theorem wOf_ok {n : Nat} (hn : 1 ≤ n) (a : Ac) : 0 ≤ (wOf n a).1 ∧ (wOf n a).1 < n ∧ (wOf n a).2.length = 128 := by
  refine ⟨by simp [wOf]; omega, ?_, padB_length _ (by simp)⟩
  simp only [wOf]
  have := Nat.mod_lt a.2.1.toNat (show n > 0 by omega)
  omega
/-- Where the one-by-one way stands before act i. -/
def TogInv (d : Dk) (ws : List (Int × List UInt8)) (i : Nat) (x : Dk) (e : Int) : Prop :=
  (e = 0 ∧ i ≤ ws.length ∧ (0 ≤ d.left → (i : Int) ≤ d.left) ∧ x = ⟨performL d.ss (ws.take i), [], if 0 ≤ d.left then d.left - i else d.left, false⟩) ∨
  (e = 440 ∧ 0 ≤ d.left ∧ d.left < ws.length ∧ i = d.left.toNat + 1 ∧ (x, e) = syncD { d with ps := ws })
theorem okD_with {d : Dk} {ws : List (Int × List UInt8)} (hok : okD d = true) (hw : ∀ w ∈ ws, 0 ≤ w.1 ∧ w.1 < d.ss.length ∧ w.2.length = 128) (hl : ws.length ≤ 4096) : okD { d with ps := ws } = true := by
  rw [okD_iff] at hok ⊢
  exact ⟨⟨hok.1.1, hok.1.2.1, hl, hok.1.2.2.2.1, hok.1.2.2.2.2⟩, hw, hok.2.2⟩
theorem tog_start (d : Dk) (ws : List (Int × List UInt8)) (hp : d.ps = []) (hst : d.st = false) : TogInv d ws 0 d 0 := by
  left
  refine ⟨rfl, Nat.zero_le _, fun h => by simpa using h, ?_⟩
  obtain ⟨ss, ps, left, st⟩ := d
  simp only at hp hst
  subst hp; subst hst
  simp [performL]
theorem tog_ok {d : Dk} {ws : List (Int × List UInt8)} {i : Nat} {x : Dk} (hok : okD d = true) (hw : ∀ w ∈ ws, 0 ≤ w.1 ∧ w.1 < d.ss.length ∧ w.2.length = 128) (h : TogInv d ws i x 0) : okD x = true ∧ x.st = false ∧ x.ss.length = d.ss.length ∧ x.ps = [] := by
  rcases h with ⟨_, h1, h2, rfl⟩ | ⟨h, _⟩
  · have hok' := (okD_iff d).1 hok
    refine ⟨?_, rfl, by simp, rfl⟩
    rw [okD_iff]
    refine ⟨?_, fun w hw => by simp at hw, performL_all hok'.2.2 fun w h => (hw w (List.mem_of_mem_take h)).2.2⟩
    simp only [performL_length, List.length_nil]
    refine ⟨hok'.1.1, hok'.1.2.1, by omega, ?_, ?_⟩ <;> split <;> omega
  · cases h
theorem tog_step {d : Dk} {ws : List (Int × List UInt8)} {i : Nat} {x : Dk} {b : List UInt8} (hok : okD d = true) (hw : ∀ w ∈ ws, 0 ≤ w.1 ∧ w.1 < d.ss.length ∧ w.2.length = 128) (hst : d.st = false) (hl : ws.length ≤ 4096) (h : TogInv d ws i x 0) (hi : i < ws.length)
    (hb : b.length ≤ 128) (he : ws[i].2 = padB b) : (writeD x ws[i].1 b).2 = 0 ∧ TogInv d ws (i + 1) (syncD (writeD x ws[i].1 b).1).1 (syncD (writeD x ws[i].1 b).1).2 := by
  obtain ⟨hxok, hxst, hxl, hxp⟩ := tog_ok hok hw h
  have hwi := hw ws[i] (List.getElem_mem hi)
  have hwr : writeD x ws[i].1 b = ({ x with ps := [ws[i]] }, 0) := by
    rcases writeD_cases x ws[i].1 b hxok hxst hwi.1 (by rw [hxl]; exact hwi.2.1) hb with ⟨h1, _⟩ | ⟨_, h2⟩
    · rw [hxp] at h1; simp at h1
    · rw [h2, hxp, ← he]; rfl
  rw [hwr]
  refine ⟨rfl, ?_⟩
  have hzok : okD { x with ps := [ws[i]] } = true := okD_with hxok (fun w h => by simp at h; subst h; rw [hxl]; exact hwi) (by simp)
  rcases h with ⟨_, h1, h2, rfl⟩ | ⟨h, _⟩
  · by_cases hs : 0 ≤ d.left ∧ d.left = i
    · -- the disk stops here
      right
      have hst1 := syncD_stop { ss := performL d.ss (ws.take i), ps := [ws[i]], left := if 0 ≤ d.left then d.left - i else d.left, st := false } hzok rfl (by simp only; rw [if_pos hs.1]; omega) (by simp only; rw [if_pos hs.1]; simp; omega)
      have hl0 : (if 0 ≤ d.left then d.left - (i : Int) else d.left).toNat = 0 := by rw [if_pos hs.1]; omega
      have hst2 := syncD_stop { d with ps := ws } (okD_with hok hw hl) hst hs.1 (by simp only; omega)
      have hli : d.left.toNat = i := by omega
      simp only [hl0] at hst1
      simp only [hli] at hst2
      rw [hst1, hst2]
      refine ⟨rfl, hs.1, by omega, by omega, ?_⟩
      simp [performL]
    · left
      have hns : ¬ (0 ≤ (if 0 ≤ d.left then d.left - (i : Int) else d.left) ∧ (if 0 ≤ d.left then d.left - (i : Int) else d.left) < (([ws[i]] : List (Int × List UInt8)).length : Int)) := by
        simp only [List.length_singleton]
        by_cases hg : 0 ≤ d.left
        · rw [if_pos hg]; have := h2 hg; omega
        · rw [if_neg hg]; omega
      have hr := syncD_run { ss := performL d.ss (ws.take i), ps := [ws[i]], left := if 0 ≤ d.left then d.left - i else d.left, st := false } hzok rfl hns
      rw [hr]
      refine ⟨rfl, by omega, fun hg => by have := h2 hg; omega, ?_⟩
      have e1 : performL (performL d.ss (ws.take i)) [ws[i]] = performL d.ss (ws.take (i + 1)) := by rw [performL_succ d.ss ws i hi]; simp [performL, setAt]
      simp only [e1, List.length_singleton]
      by_cases hg : 0 ≤ d.left
      · have := h2 hg
        simp only [if_pos hg]
        rw [if_pos (by omega)]
        congr 1
        omega
      · simp only [if_neg hg]
  · cases h
theorem tog_end {d : Dk} {ws : List (Int × List UInt8)} {i : Nat} {x : Dk} {e : Int} (hok : okD d = true) (hw : ∀ w ∈ ws, 0 ≤ w.1 ∧ w.1 < d.ss.length ∧ w.2.length = 128) (hst : d.st = false) (hl : ws.length ≤ 4096) (h : TogInv d ws i x e) (hi : i < ws.length → e ≠ 0) :
    syncD { d with ps := ws } = (x, e) := by
  rcases h with ⟨rfl, h1, h2, rfl⟩ | ⟨_, _, _, _, h4⟩
  · have hin : i = ws.length := by
      rcases Nat.lt_or_ge i ws.length with h | h
      · exact absurd rfl (hi h)
      · omega
    subst hin
    rw [syncD_run { d with ps := ws } (okD_with hok hw hl) hst (by simp only; intro h; have := h2 h.1; omega)]
    rw [List.take_length]
  · exact h4.symm
theorem tog_write {d : Dk} {ws : List (Int × List UInt8)} {j : Nat} {b : List UInt8} (hok : okD d = true) (hw : ∀ w ∈ ws, 0 ≤ w.1 ∧ w.1 < d.ss.length ∧ w.2.length = 128) (hst : d.st = false) (hl : ws.length ≤ 4095) (hj : j < ws.length) (hb : b.length ≤ 128) (he : ws[j].2 = padB b) :
    writeD { d with ps := ws.take j } ws[j].1 b = ({ d with ps := ws.take (j + 1) }, 0) := by
  have hwj := hw ws[j] (List.getElem_mem hj)
  rcases writeD_cases { d with ps := ws.take j } ws[j].1 b (okD_with hok (fun w h => hw w (List.mem_of_mem_take h)) (by simp; omega)) hst hwj.1 hwj.2.1 hb with ⟨h1, _⟩ | ⟨_, h2⟩
  · simp at h1; omega
  · rw [h2, List.take_succ_eq_append_getElem hj, ← he]
/-- A sector the halves of which begin with two bytes. -/
def sect2 (a b : UInt8) : List UInt8 := (zeroS.set 0 a).set 64 b
theorem sect2_same (c : UInt8) : sect2 c c = sect c := rfl
theorem sect2_length (a b : UInt8) : (sect2 a b).length = 128 := by simp [sect2, zeroS]
theorem sect2_0 (a b : UInt8) : (sect2 a b).getD 0 0 = a := by simp [sect2, zeroS, List.getD_eq_getElem?_getD, List.getElem?_set]
theorem sect2_64 (a b : UInt8) : (sect2 a b).getD 64 0 = b := by simp [sect2, zeroS, List.getD_eq_getElem?_getD, List.getElem?_set]
theorem sect2_1 (a b : UInt8) : (sect2 a b).getD 1 0 = 0 := by simp [sect2, zeroS, List.getD_eq_getElem?_getD, List.getElem?_set]
theorem sect2_127 (a b : UInt8) : (sect2 a b).getD 127 0 = 0 := by simp [sect2, zeroS, List.getD_eq_getElem?_getD, List.getElem?_set]
theorem sect2_torn (a b c : UInt8) : (sect2 c c).take 64 ++ (sect2 a b).drop 64 = sect2 c b := by
  apply List.ext_getElem?
  intro i
  rw [List.getElem?_append]
  simp only [sect2, List.length_take, List.length_set, zeroS, List.length_replicate, List.getElem?_take, List.getElem?_drop, List.getElem?_set]
  by_cases h : i < 64
  · have : i < min 64 128 := by omega
    rw [if_pos this, if_pos h]
    by_cases h0 : i = 0
    · subst h0; simp
    · have h1 : ¬ 0 = i := by omega
      have h2 : ¬ 64 = i := by omega
      simp [h1, h2]
  · have : ¬ i < min 64 128 := by omega
    rw [if_neg this, show 64 + (i - min 64 128) = i by omega]
    by_cases h64 : 64 = i
    · rw [if_pos h64, if_pos h64]
    · rw [if_neg h64, if_neg h64, if_neg (by omega), if_neg (by omega)]
def at4 (a : Ac) : Nat := a.2.1.toNat % 4
def w4 (a : Ac) : Int × List UInt8 := ((at4 a : Int), sect a.2.2)
/-- The bytes behind some writes. -/
def applyB (f : List UInt8) (wl : List Ac) : List UInt8 := wl.foldl (fun l a => l.set (at4 a) a.2.2) f
theorem applyB_length (f : List UInt8) (wl : List Ac) : (applyB f wl).length = f.length := by
  induction wl generalizing f with
  | nil => rfl
  | cons a wl ih => simp only [applyB, List.foldl_cons] at ih ⊢; rw [ih]; simp
theorem applyB_snoc (f : List UInt8) (wl : List Ac) (a : Ac) : applyB f (wl ++ [a]) = (applyB f wl).set (at4 a) a.2.2 := by simp [applyB]
theorem applyB_succ (f : List UInt8) (wl : List Ac) (k : Nat) (h : k < wl.length) : applyB f (wl.take (k + 1)) = (applyB f (wl.take k)).set (at4 wl[k]) wl[k].2.2 := by
  rw [List.take_succ_eq_append_getElem h, applyB_snoc]
theorem perform_sect (f : List UInt8) (wl : List Ac) : performL (f.map fun c => sect c) (wl.map w4) = (applyB f wl).map fun c => sect c := by
  induction wl generalizing f with
  | nil => rfl
  | cons a wl ih =>
    have e : setAt (f.map fun c => sect c) (w4 a) = (f.set (at4 a) a.2.2).map fun c => sect c := by simp [setAt, w4, List.map_set]
    simp only [performL, List.map_cons, List.foldl_cons] at ih ⊢
    rw [e, ih]; rfl
/-- The disk in the course of a history. -/
def hd4 (f : List UInt8) (wl : List Ac) (room : Nat) : Dk := ⟨f.map fun c => sect c, wl.map w4, room, false⟩
theorem hd4_ok {f : List UInt8} {wl : List Ac} {room : Nat} (hf : f.length = 4) (hw : wl.length ≤ 4096) (hr : room ≤ 255) : okD (hd4 f wl room) = true := by
  rw [okD_iff]
  refine ⟨⟨by simp [hd4, hf], by simp [hd4, hf], by simpa [hd4] using hw, by simp only [hd4]; omega, by simp only [hd4]; omega⟩, fun w h => ?_, fun b h => ?_⟩
  · simp only [hd4] at h
    obtain ⟨a, _, rfl⟩ := List.mem_map.1 h
    refine ⟨by simp [w4], ?_, by simp [w4, ← sect2_same, sect2_length]⟩
    simp only [hd4, List.length_map, hf, w4, at4]
    have := Nat.mod_lt a.2.1.toNat (show 4 > 0 by omega)
    omega
  · simp only [hd4] at h
    obtain ⟨c, _, rfl⟩ := List.mem_map.1 h
    rw [← sect2_same, sect2_length]
theorem hd4_fits {f : List UInt8} {wl : List Ac} {room : Nat} (hf : f.length = 4) (hw : wl.length ≤ 4096) : (hd4 f wl room).fits := ⟨by simp [hd4, hf], by simp [hd4]; omega⟩
theorem holds_of {d : Dk} {f s : List UInt8} (h : ∀ k : Nat, k < 4 → readD d k = (sect2 (f.getD k 0) (s.getD k 0), 0)) : holdsD d f s = true := by
  rw [holdsD, List.all_eq_true]
  intro k hk
  have := h k (List.mem_range.1 hk)
  simp only [holdsAt, this]
  rw [sect2_length, sect2_0, sect2_64, sect2_1, sect2_127]
  simp
theorem map_getD {f : List UInt8} {k : Nat} (h : k < f.length) : (f.map fun c => sect c).getD k [] = sect (f.getD k 0) := by
  simp [List.getD_eq_getElem?_getD, h]
theorem hd4_holds {f : List UInt8} {wl : List Ac} {room : Nat} (hf : f.length = 4) (hw : wl.length ≤ 4096) (hr : room ≤ 255) : holdsD (hd4 f wl room) (applyB f wl) (applyB f wl) = true := by
  refine holds_of fun k hk => ?_
  have hok := hd4_ok hf hw hr
  rw [readD_val hok rfl (by omega) (by simp [hd4, hf]; omega)]
  have hww := ((okD_iff _).1 hok).2.1
  have := performL_get (f.map fun c => sect c) room false (wl.map w4).length (wl.map w4) rfl (fun w h => ⟨(hww w h).1, (hww w h).2.1⟩) k (by simp [hf]; omega)
  rw [perform_sect, map_getD (by rw [applyB_length, hf]; exact hk)] at this
  rw [sect2_same, this]; rfl
theorem hd4_write {f : List UInt8} {wl : List Ac} {room : Nat} (hf : f.length = 4) (hw : wl.length < 4096) (hr : room ≤ 255) (a : Ac) : writeD (hd4 f wl room) (at4 a) (sect a.2.2) = (hd4 f (wl ++ [a]) room, 0) := by
  have hlt := Nat.mod_lt a.2.1.toNat (show 4 > 0 by omega)
  rcases writeD_cases (hd4 f wl room) (at4 a) (sect a.2.2) (hd4_ok hf (by omega) hr) rfl (by omega) (by simp [hd4, hf, at4]; omega) (by rw [← sect2_same, sect2_length]; omega) with ⟨h1, _⟩ | ⟨_, h2⟩
  · simp [hd4] at h1; omega
  · rw [h2]
    have : padB (sect a.2.2) = sect a.2.2 := by simp [padB, ← sect2_same, sect2_length]
    simp [hd4, this, w4]
theorem hd4_sync {f : List UInt8} {wl : List Ac} {room : Nat} (hf : f.length = 4) (hw : wl.length ≤ 4096) (hr : room ≤ 255) (hs : wl.length ≤ room) : syncD (hd4 f wl room) = (hd4 (applyB f wl) [] (room - wl.length), 0) := by
  rw [syncD_run _ (hd4_ok hf hw hr) rfl (by simp only [hd4, List.length_map]; omega)]
  simp only [hd4, perform_sect, List.length_map, List.map_nil]
  rw [if_pos (by omega)]
  congr 2
  omega
theorem hd4_stop {f : List UInt8} {wl : List Ac} {room : Nat} (hf : f.length = 4) (hw : wl.length ≤ 4096) (hr : room ≤ 255) (hs : room < wl.length) :
    (syncD (hd4 f wl room)).2 = 440 ∧ (syncD (hd4 f wl room)).1.st = true ∧ holdsD ⟨(syncD (hd4 f wl room)).1.ss, [], -1, false⟩ (applyB f (wl.take (room + 1))) (applyB f (wl.take room)) = true := by
  have hst := syncD_stop (hd4 f wl room) (hd4_ok hf hw hr) rfl (by simp [hd4]) (by simp [hd4]; omega)
  have hti : (hd4 f wl room).left.toNat = room := by simp [hd4]
  simp only [hti] at hst
  rw [hst]
  refine ⟨rfl, rfl, ?_⟩
  have hP : performL (hd4 f wl room).ss ((hd4 f wl room).ps.take room) = (applyB f (wl.take room)).map fun c => sect c := by simp only [hd4, ← List.map_take, perform_sect]
  have hwn : (hd4 f wl room).ps[room]'(by simp [hd4]; omega) = w4 wl[room] := by simp [hd4]
  rw [hP, hwn]
  generalize hg : applyB f (wl.take room) = g
  have hgl : g.length = 4 := by rw [← hg, applyB_length, hf]
  have hlt : at4 wl[room] < 4 := Nat.mod_lt _ (by omega)
  have hfst : applyB f (wl.take (room + 1)) = g.set (at4 wl[room]) wl[room].2.2 := by rw [applyB_succ f wl room hs, hg]
  rw [hfst]
  have htorn : tornD (g.map fun c => sect c) (w4 wl[room]) = sect2 wl[room].2.2 (g.getD (at4 wl[room]) 0) := by
    have hn : (w4 wl[room]).1.toNat = at4 wl[room] := by simp [w4]
    simp only [tornD, hn]
    rw [map_getD (by omega)]
    simp only [w4, ← sect2_same]
    exact sect2_torn _ _ _
  have hn : (w4 wl[room]).1.toNat = at4 wl[room] := by simp [w4]
  simp only [htorn, hn]
  refine holds_of fun k hk => ?_
  have hok : okD ⟨(g.map fun c => sect c).set (at4 wl[room]) (sect2 wl[room].2.2 (g.getD (at4 wl[room]) 0)), [], -1, false⟩ = true := by
    rw [okD_iff]
    refine ⟨⟨by simp [hgl], by simp [hgl], by simp, by simp, by simp⟩, fun w h => by simp at h, fun b h => ?_⟩
    rcases List.mem_or_eq_of_mem_set h with h | h
    · obtain ⟨c, _, rfl⟩ := List.mem_map.1 h
      rw [← sect2_same, sect2_length]
    · rw [h, sect2_length]
  rw [readD_val hok rfl (by omega) (by simp [hgl]; omega)]
  simp only [lastW, List.reverse_nil, List.find?_nil, Int.toNat_natCast]
  simp only [List.getD_eq_getElem?_getD, List.getElem?_set, List.length_map, hgl]
  by_cases hak : at4 wl[room] = k
  · rw [if_pos hak, if_pos (by omega), if_pos hak, if_pos (by omega)]
    simp [hak]
  · rw [if_neg hak, if_neg hak]
    simp [hgl, hk, ← sect2_same]
theorem hd4_rest {f : List UInt8} (hf : f.length = 4) (wl : List Ac) (room : Nat) : holdsD ⟨(hd4 f wl room).ss, [], -1, false⟩ f f = true := by
  refine holds_of fun k hk => ?_
  have hok : okD ⟨(hd4 f wl room).ss, [], -1, false⟩ = true := by
    have := hd4_ok (room := 0) hf (wl := []) (by simp) (by omega)
    rw [okD_iff] at this ⊢
    exact ⟨⟨this.1.1, this.1.2.1, by simp, by simp, by simp⟩, fun w h => by simp at h, this.2.2⟩
  rw [readD_val hok rfl (by omega) (by simp [hd4, hf]; omega)]
  simp only [lastW, List.reverse_nil, List.find?_nil, Int.toNat_natCast]
  rw [show (hd4 f wl room).ss = f.map fun c => sect c from rfl, map_getD (by omega), sect2_same]
/-- The cells of a slice of acts. -/
def flatA (wl : List Ac) : List SV := (wl.map fun a => [SV.d (.bool a.1), SV.d (cB a.2.1), SV.d (cB a.2.2)]).flatten
@[simp] theorem flatA_length (wl : List Ac) : (flatA wl).length = wl.length * 3 := by
  induction wl with
  | nil => rfl
  | cons a wl ih => simp only [flatA, List.map_cons, List.flatten_cons, List.length_append] at ih ⊢; rw [ih]; simp; omega
theorem flatA_snoc (wl : List Ac) (a : Ac) : flatA wl ++ [SV.d (.bool a.1), SV.d (cB a.2.1), SV.d (cB a.2.2)] = flatA (wl ++ [a]) := by simp [flatA]
@[simp] theorem flatA_nil : flatA [] = [] := rfl
@[simp] theorem renL_flatA (ρ : Nat → Nat) (wl : List Ac) : renL ρ (flatA wl) = flatA wl := by
  induction wl with
  | nil => rfl
  | cons a wl ih =>
    have e : flatA (a :: wl) = [SV.d (.bool a.1), SV.d (cB a.2.1), SV.d (cB a.2.2)] ++ flatA wl := rfl
    rw [e, renL_append, ih]; rfl
theorem flatA_get (wl : List Ac) (k : Nat) (h : k < wl.length) : (flatA wl)[k * 3 + 1]? = some (.d (cB wl[k].2.1)) ∧ (flatA wl)[k * 3 + 2]? = some (.d (cB wl[k].2.2)) := by
  induction wl generalizing k with
  | nil => simp at h
  | cons a wl ih =>
    have e : flatA (a :: wl) = [SV.d (.bool a.1), SV.d (cB a.2.1), SV.d (cB a.2.2)] ++ flatA wl := rfl
    rw [e]
    cases k with
    | zero => simp
    | succ k =>
      have := ih k (by simpa using h)
      rw [List.getElem?_append_right (by simp; omega), List.getElem?_append_right (by simp; omega)]
      rw [show (k + 1) * 3 + 1 - [SV.d (.bool a.1), SV.d (cB a.2.1), SV.d (cB a.2.2)].length = k * 3 + 1 by simp; omega, show (k + 1) * 3 + 2 - [SV.d (.bool a.1), SV.d (cB a.2.1), SV.d (cB a.2.2)].length = k * 3 + 2 by simp; omega]
      simpa using this
def cap0 (wl : List Ac) : Option Nat := if wl.isEmpty then some 0 else none
@[simp] theorem cap0_nil : cap0 [] = some 0 := rfl
@[simp] theorem cap0_snoc (wl : List Ac) (a : Ac) : cap0 (wl ++ [a]) = none := by simp [cap0]
theorem tm4 (a : Ac) : Int.tmod (a.2.1.toNat : Int) 4 = ((at4 a : Nat) : Int) := by
  rw [Int.tmod_eq_emod_of_nonneg (by omega)]; simp [at4]
theorem at4_lt (a : Ac) : at4 a < 4 := Nat.mod_lt _ (by omega)
theorem wrap_at4 (a : Ac) : IntKind.i64.wrap ((at4 a : Nat) : Int) = (at4 a : Int) := Go.IntWalk.i64_in _ (by have := at4_lt a; omega)
end Go.Bf
