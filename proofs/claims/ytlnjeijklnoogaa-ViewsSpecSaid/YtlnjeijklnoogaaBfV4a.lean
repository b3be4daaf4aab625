/-
  Rows of two cells; sorting by insertion, in plain words. Nothing is claimed here.
-/
import Derived.Test.YtlnjeijklnoogaaBfV3
namespace Go.Bf
open Go Go.RowKit Go.IntWalk
/-- The cells of relations in a row. -/
def cR (l : List Rl) : List SV := ((l.map rowRel).flatten).map SV.d
theorem flat_len2 (l : List Rl) : (l.map rowRel).flatten.length = l.length * 2 := by
  induction l with
  | nil => rfl
  | cons r l ih => rw [List.map_cons, List.flatten_cons, List.length_append, ih]; simp [rowRel]; omega
theorem sum_len2 (l : List Rl) : (List.map (List.length ∘ rowRel) l).sum = l.length * 2 := by
  have := flat_len2 l
  simpa [List.length_flatten] using this
@[simp] theorem cR_length (l : List Rl) : (cR l).length = l.length * 2 := by rw [cR, List.length_map, flat_len2]
theorem cR_flat (l : List Rl) : (l.map (List.map SV.d ∘ rowRel)).flatten = cR l := by
  rw [cR, List.map_flatten, List.map_map]
@[simp high] theorem one_encI (l : List Int) : DV.one (encI l) = true := rfl
@[simp high] theorem one_encII (l : List (List Int)) : DV.one (encII l) = true := rfl
theorem cR_append (a b : List Rl) : cR (a ++ b) = cR a ++ cR b := by simp [cR]
theorem cR_cons (r : Rl) (l : List Rl) : cR (r :: l) = .d (encI r.1) :: .d (encII r.2) :: cR l := by simp [cR, rowRel]
@[simp] theorem cR_nil : cR [] = [] := rfl
@[simp] theorem cR_allD (l : List Rl) : allD (cR l) = some (l.map rowRel).flatten := allD_mapD _
@[simp] theorem cR_renL (ρ : Nat → Nat) (l : List Rl) : renL ρ (cR l) = cR l := renL_mapD ρ _
theorem cR_at (p : List Rl) (x : Rl) (t : List Rl) {j : Nat} (h : p.length = j) : ((cR (p ++ x :: t)).drop (j * 2)).take 2 = [.d (encI x.1), .d (encII x.2)] := by
  rw [cR_append, List.drop_left' (by simp [h]), cR_cons]; rfl
theorem cR_put (p : List Rl) (x y : Rl) (t : List Rl) {j : Nat} (h : p.length = j) : (cR (p ++ x :: t)).take (j * 2) ++ (.d (encI y.1) :: .d (encII y.2) :: (cR (p ++ x :: t)).drop (j * 2 + 2)) = cR (p ++ y :: t) := by
  rw [cR_append, List.take_left' (by simp [h]), cR_append, cR_cons y, cR_cons x]
  congr 3
  rw [show j * 2 + 2 = (cR p).length + 2 by simp [h], ← List.drop_drop, List.drop_left]; rfl
theorem cR_get {l : List Rl} {i : Nat} (h : i < l.length) : List.take 2 (List.drop (i * 2) (cR l)) = [.d (encI l[i].1), .d (encII l[i].2)] := by
  have e : l = l.take i ++ l[i] :: l.drop (i + 1) := by rw [← List.drop_eq_getElem_cons h, List.take_append_drop]
  have := cR_at (l.take i) l[i] (l.drop (i + 1)) (j := i) (by simp; omega)
  rw [← e] at this; exact this
theorem cR_spl (w t z : List Rl) (h : t.length = z.length) : spl (cR (w ++ t)) (w.length * 2) (cR z) = cR (w ++ z) := by
  have e : spl (cR (w ++ t)) (w.length * 2) (cR z) = (cR (w ++ t)).take (w.length * 2) ++ cR z ++ (cR (w ++ t)).drop (w.length * 2 + (cR z).length) := by
    unfold spl
    split
    · rename_i c hc; have := congrArg List.length hc; simp at this; omega
    · rfl
  rw [e, cR_append, cR_append, List.take_left' (by simp), cR_length, List.drop_of_length_le (by simp; omega), List.append_nil]
theorem chunk_flatR (l : List Rl) : chunk 2 l.length (l.map rowRel).flatten = l.map rowRel := by
  induction l with
  | nil => rfl
  | cons r l ih => simp [chunk, rowRel] at ih ⊢; exact ih
/-- What fits: lengths. -/
def fitR (r : Rl) : Prop := r.1.length ≤ 4611686018427387903 ∧ r.2.length ≤ 4611686018427387903 ∧ ∀ l ∈ r.2, l.length ≤ 4611686018427387903
/-- An element goes in from the right. -/
def insL {α : Type} (c : α → α → Int) (x : α) : List α → List α
  | [] => [x]
  | y :: ys => if c x y < 0 then y :: insL c x ys else x :: y :: ys
def insR {α : Type} (c : α → α → Int) (acc : List α) (x : α) : List α := (insL c x acc.reverse).reverse
def sortR {α : Type} (c : α → α → Int) (l : List α) : List α := l.foldl (insR c) []
theorem insR_nil {α : Type} (c : α → α → Int) (x : α) : insR c [] x = [x] := rfl
theorem insR_snoc {α : Type} (c : α → α → Int) (p : List α) (y x : α) : insR c (p ++ [y]) x = if c x y < 0 then insR c p x ++ [y] else p ++ [y, x] := by
  simp only [insR, List.reverse_append, List.reverse_cons, List.reverse_nil, List.nil_append, List.singleton_append, insL]
  split <;> simp
theorem insL_length {α : Type} (c : α → α → Int) (x : α) : ∀ l : List α, (insL c x l).length = l.length + 1
  | [] => rfl
  | y :: ys => by simp only [insL]; split <;> simp [insL_length c x ys]
theorem insR_length {α : Type} (c : α → α → Int) (acc : List α) (x : α) : (insR c acc x).length = acc.length + 1 := by simp [insR, insL_length]
theorem insL_perm {α : Type} (c : α → α → Int) (x : α) : ∀ l : List α, (insL c x l).Perm (x :: l)
  | [] => .refl _
  | y :: ys => by
    simp only [insL]
    split
    · exact ((insL_perm c x ys).cons y).trans (.swap x y ys)
    · exact .refl _
theorem insR_perm {α : Type} (c : α → α → Int) (acc : List α) (x : α) : (insR c acc x).Perm (x :: acc) :=
  (List.reverse_perm _).trans ((insL_perm c x _).trans ((List.reverse_perm acc).cons x))
theorem sortR_perm {α : Type} (c : α → α → Int) (l : List α) : (sortR c l).Perm l := by
  have key : ∀ (l acc : List α), (l.foldl (insR c) acc).Perm (acc ++ l) := by
    intro l
    induction l with
    | nil => intro acc; simp
    | cons x l ih =>
      intro acc
      refine (ih _).trans ?_
      refine ((insR_perm c acc x).append_right l).trans ?_
      exact (List.perm_middle).symm
  exact key l []
theorem sortR_take {α : Type} (c : α → α → Int) (l : List α) (i : Nat) (h : i < l.length) : sortR c (l.take (i + 1)) = insR c (sortR c (l.take i)) l[i] := by
  rw [List.take_succ_eq_append_getElem h, sortR, List.foldl_append]; rfl
theorem sortR_length {α : Type} (c : α → α → Int) (l : List α) : (sortR c l).length = l.length := (sortR_perm c l).length_eq
theorem sortR_one {α : Type} (c : α → α → Int) (l : List α) : sortR c (l.take 1) ++ l.drop 1 = l := by
  cases l <;> rfl
end Go.Bf
