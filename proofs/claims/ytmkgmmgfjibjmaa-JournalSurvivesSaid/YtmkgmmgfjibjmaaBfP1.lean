/-
  The disk in plain words: what is read after writes and syncs. No program in sight. Nothing is claimed here.
-/
import Derived.Test.YtmkgmmgfjibjmaaBfX14
namespace Go.Bf
open Go Go.RowKit
theorem okD_iff (d : Dk) : okD d = true ↔ (1 ≤ d.ss.length ∧ d.ss.length ≤ 4096 ∧ d.ps.length ≤ 4096 ∧ -1 ≤ d.left ∧ d.left ≤ 65536) ∧ (∀ w ∈ d.ps, 0 ≤ w.1 ∧ w.1 < d.ss.length ∧ w.2.length = 128) ∧ ∀ b ∈ d.ss, b.length = 128 := by
  unfold okD
  simp only [Bool.and_eq_true, decide_eq_true_eq, Bool.not_eq_true', List.any_eq_false, badW, and_assoc]
  constructor
  · rintro ⟨h1, h2, h3, h4, h5, h6, h7⟩
    exact ⟨h1, h2, h3, h4, h5, fun w hw => by have := h6 w hw; simp at this; omega, fun b hb => by have := h7 b hb; simpa using this⟩
  · rintro ⟨h1, h2, h3, h4, h5, h6, h7⟩
    exact ⟨h1, h2, h3, h4, h5, fun w hw => by have := h6 w hw; simp; omega, fun b hb => by simp [h7 b hb]⟩
theorem writeD_cases (d : Dk) (a : Int) (b : List UInt8) (hok : okD d = true) (hst : d.st = false) (h0 : 0 ≤ a) (h1 : a < d.ss.length) (hb : b.length ≤ 128) :
    (d.ps.length = 4096 ∧ writeD d a b = (zeroD, 2)) ∨ (d.ps.length < 4096 ∧ writeD d a b = ({ d with ps := d.ps ++ [(a, padB b)] }, 0)) := by
  have hc : (okD d && !d.st && decide (0 ≤ a ∧ a < d.ss.length)) = true := by simp [hok, hst, h0, h1]
  have := (okD_ps hok).1
  by_cases h : d.ps.length = 4096
  · exact .inl ⟨h, by simp only [writeD, hc]; rw [if_pos trivial, if_neg (by omega), if_pos h]⟩
  · exact .inr ⟨by omega, by simp only [writeD, hc]; rw [if_pos trivial, if_neg (by omega), if_neg h]⟩
theorem writeD_ok {d : Dk} {a : Int} {b : List UInt8} (h : (writeD d a b).2 = 0) : okD d = true ∧ d.st = false ∧ 0 ≤ a ∧ a < d.ss.length ∧ b.length ≤ 128 ∧ d.ps.length < 4096 ∧ writeD d a b = ({ d with ps := d.ps ++ [(a, padB b)] }, 0) := by
  unfold writeD at h
  split at h
  · rename_i hc
    simp only [Bool.and_eq_true, Bool.not_eq_true', decide_eq_true_eq] at hc
    obtain ⟨⟨h1, h2⟩, h3, h4⟩ := hc
    split at h
    · cases h
    · rename_i hb
      have hb : b.length ≤ 128 := by omega
      rcases writeD_cases d a b h1 h2 h3 h4 hb with ⟨h5, h6⟩ | ⟨h5, h6⟩
      · split at h
        · cases h
        · rename_i hn; exact absurd h5 hn
      · exact ⟨h1, h2, h3, h4, hb, h5, h6⟩
  · cases h
theorem okD_write {d : Dk} {a : Int} {p : List UInt8} (hok : okD d = true) (h0 : 0 ≤ a) (h1 : a < d.ss.length) (hp : p.length = 128) (hl : d.ps.length < 4096) : okD { d with ps := d.ps ++ [(a, p)] } = true := by
  rw [okD_iff] at hok ⊢
  obtain ⟨h2, h3, h4⟩ := hok
  refine ⟨by simp; omega, fun w hw => ?_, h4⟩
  rcases List.mem_append.1 hw with h | h
  · exact h3 w h
  · simp at h; subst h; exact ⟨h0, h1, hp⟩
def lastW (d : Dk) (o : Int) : List UInt8 := match d.ps.reverse.find? (fun w => w.1 = o) with
  | some w => w.2
  | none => d.ss.getD o.toNat []
theorem readD_val {d : Dk} {o : Int} (hok : okD d = true) (hst : d.st = false) (h0 : 0 ≤ o) (h1 : o < d.ss.length) : readD d o = (lastW d o, 0) := by
  have hc : (okD d && !d.st && decide (0 ≤ o ∧ o < d.ss.length)) = true := by simp [hok, hst, h0, h1]
  simp only [readD, hc, if_true, lastW]
  cases d.ps.reverse.find? (fun w => w.1 = o) <;> rfl
theorem readD_ok {d : Dk} {o : Int} (h : (readD d o).2 = 0) : okD d = true ∧ d.st = false ∧ 0 ≤ o ∧ o < d.ss.length := by
  unfold readD at h
  split at h
  · rename_i hc
    simpa [Bool.and_eq_true, and_assoc] using hc
  · cases h
theorem lastW_write (d : Dk) (a o : Int) (p : List UInt8) : lastW { d with ps := d.ps ++ [(a, p)] } o = if a = o then p else lastW d o := by
  simp only [lastW, List.reverse_append, List.reverse_cons, List.reverse_nil, List.nil_append, List.singleton_append, List.find?_cons]
  by_cases h : a = o <;> simp [h]
theorem performL_get (ss : List (List UInt8)) (left : Int) (st : Bool) : ∀ (n : Nat) (ps : List (Int × List UInt8)), ps.length = n → (∀ w ∈ ps, 0 ≤ w.1 ∧ w.1 < ss.length) → ∀ k : Nat, k < ss.length → (performL ss ps).getD k [] = lastW ⟨ss, ps, left, st⟩ k := by
  intro n
  induction n with
  | zero =>
    intro ps hn _ k _
    have : ps = [] := List.eq_nil_of_length_eq_zero hn
    subst this
    simp [performL, lastW]
  | succ n ih =>
    intro ps hn hw k hk
    have hne : ps ≠ [] := fun e => by subst e; simp at hn
    obtain ⟨l, w, rfl⟩ : ∃ l w, ps = l ++ [w] := ⟨ps.dropLast, ps.getLast hne, (List.dropLast_concat_getLast hne).symm⟩
    simp at hn
    have h1 := ih l hn (fun v hv => hw v (by simp [hv])) k hk
    have h2 := hw w (by simp)
    have e1 : performL ss (l ++ [w]) = (performL ss l).set w.1.toNat w.2 := by simp only [performL, List.foldl_append, List.foldl_cons, List.foldl_nil, setAt]
    have e2 := lastW_write ⟨ss, l, left, st⟩ w.1 k w.2
    simp only at e2
    rw [e1, e2, ← h1]
    simp only [List.getD_eq_getElem?_getD, List.getElem?_set, performL_length]
    by_cases hwk : w.1 = (k : Int)
    · rw [if_pos (by omega), if_pos hwk, if_pos (by omega)]; rfl
    · rw [if_neg (by omega), if_neg hwk]
theorem syncD_cases (d : Dk) (hok : okD d = true) (hst : d.st = false) :
    ((0 ≤ d.left ∧ d.left < d.ps.length) ∧ (syncD d).2 = 440 ∧ (syncD d).1.st = true) ∨
    (¬ (0 ≤ d.left ∧ d.left < d.ps.length) ∧ syncD d = (⟨performL d.ss d.ps, [], if 0 ≤ d.left then d.left - d.ps.length else d.left, false⟩, 0)) := by
  have hc : (okD d && !d.st) = true := by simp [hok, hst]
  by_cases h : 0 ≤ d.left ∧ d.left < d.ps.length
  · left
    have hlt : d.left.toNat < d.ps.length := by omega
    refine ⟨h, ?_⟩
    simp only [syncD, hc, if_true, List.getElem?_eq_getElem hlt, h.1]
    first | trivial | exact ⟨rfl, rfl⟩
  · right
    refine ⟨h, ?_⟩
    simp only [syncD, hc, if_true]
    by_cases hg : 0 ≤ d.left
    · rw [List.getElem?_eq_none (by omega)]
    · cases hh : d.ps[d.left.toNat]? with
      | none => rfl
      | some w => simp [hg]
theorem okD_sync {d : Dk} (hok : okD d = true) (hst : d.st = false) (h : (syncD d).2 = 0) : okD (syncD d).1 = true ∧ (syncD d).1.st = false ∧ (syncD d).1.ps = [] ∧ (syncD d).1.ss = performL d.ss d.ps := by
  rcases syncD_cases d hok hst with ⟨_, h1, _⟩ | ⟨h1, h2⟩
  · rw [h1] at h; cases h
  · rw [h2]
    have hok' := hok
    rw [okD_iff] at hok'
    obtain ⟨g1, g2, g3⟩ := hok'
    refine ⟨?_, rfl, rfl, rfl⟩
    rw [okD_iff]
    refine ⟨?_, fun w hw => by simp at hw, performL_all g3 fun w hw => (g2 w hw).2.2⟩
    simp only [performL_length, List.length_nil]
    refine ⟨g1.1, g1.2.1, by omega, ?_, ?_⟩ <;> split <;> omega
theorem readD_sync {d : Dk} (hok : okD d = true) (hst : d.st = false) (h : (syncD d).2 = 0) (k : Nat) (hk : k < d.ss.length) : readD (syncD d).1 k = readD d k ∧ (readD d k).2 = 0 := by
  obtain ⟨h1, h2, h3, h4⟩ := okD_sync hok hst h
  have e1 := readD_val (o := (k : Int)) h1 h2 (by omega) (by rw [h4, performL_length]; omega)
  have e2 := readD_val (o := (k : Int)) hok hst (by omega) (by omega)
  have hw := ((okD_iff d).1 hok).2.1
  have e3 := performL_get d.ss d.left d.st d.ps.length d.ps rfl (fun w h => ⟨(hw w h).1, (hw w h).2.1⟩) k hk
  have e4 : lastW (syncD d).1 k = (performL d.ss d.ps).getD k [] := by simp [lastW, h3, h4]
  rw [e1, e2, e4, e3]
  exact ⟨rfl, rfl⟩
end Go.Bf
