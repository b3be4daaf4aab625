/-
  Views: data, and the words of the proofs over them. Nothing is claimed here.
-/
import Derived.Test.YtlnjeijklnoogaaFwC
namespace Go.Bf
open Go Go.RowKit Go.IntWalk
def rowI (n : Int) : List DV := [.int .i64 n]
def encI (l : List Int) : DV := .list (l.map rowI)
def rowII (l : List Int) : List DV := [encI l]
def encII (l : List (List Int)) : DV := .list (l.map rowII)
abbrev Rl := List Int × List (List Int)
def encRel (r : Rl) : DV := .agg [encI r.1, encII r.2]
def rowRel (r : Rl) : List DV := [encI r.1, encII r.2]
def encRels (l : List Rl) : DV := .list (l.map rowRel)
def encMB (l : List Int) : DV := .mapd (l.map fun n => (.int .i64 n, .bool true))
def encMM (L : List (Int × List Int)) : DV := .mapd (L.map fun p => (.int .i64 p.1, encMB p.2))
/-- What is known, memory as a function. -/
def KM (n nx : Nat) (sl : List (Nat × SV)) (m : Mem) : Know := { slots := lk sl, mem := m, n := n, nx := nx }
@[simp] theorem KM_slots (n nx : Nat) (sl : List (Nat × SV)) (m : Mem) : (KM n nx sl m).slots = lk sl := rfl
@[simp] theorem KM_mem (n nx : Nat) (sl : List (Nat × SV)) (m : Mem) : (KM n nx sl m).mem = m := rfl
@[simp] theorem KM_n (n nx : Nat) (sl : List (Nat × SV)) (m : Mem) : (KM n nx sl m).n = n := rfl
@[simp] theorem KM_nx (n nx : Nat) (sl : List (Nat × SV)) (m : Mem) : (KM n nx sl m).nx = nx := rfl
@[simp] theorem KM_gh (n nx : Nat) (sl : List (Nat × SV)) (m : Mem) : (KM n nx sl m).gh = fun _ _ _ => True := rfl
@[simp] theorem KM_fro (n nx : Nat) (sl : List (Nat × SV)) (m : Mem) : (KM n nx sl m).fro = [] := rfl
@[simp] theorem KM_b0 (n nx : Nat) (sl : List (Nat × SV)) (m : Mem) : (KM n nx sl m).b0 = none := rfl
theorem lk_memS : ∀ {sl : List (Nat × SV)} {i : Nat} {s : SV}, lk sl i = some s → (i, s) ∈ sl
  | (j, t) :: sl, i, s, h => by
    simp only [lk] at h
    split at h
    · rename_i e; cases h; subst e; exact List.mem_cons_self
    · exact List.mem_cons_of_mem _ (lk_memS h)
/-- Only these slots are known any more. -/
theorem Sub.slots {K : Know} (sl : List (Nat × SV)) (h : ∀ p ∈ sl, K.slots p.1 = some p.2) : Sub { K with slots := lk sl } K := fun x _ _ hm =>
  ⟨x, Ctx.ext_refl _, hm.weaken ⟨rfl, Nat.le_refl _, fun i t hs => h (i, t) (lk_memS hs), rfl, rfl, fun _ h => h, rfl⟩⟩
theorem Sub.km {K : Know} {n nx : Nat} {sl : List (Nat × SV)} {m : Mem} (h1 : n = K.n) (h2 : K.nx ≤ nx) (hs : ∀ p ∈ sl, K.slots p.1 = some p.2) (hm : ∀ b, m b = K.mem b) (hg : K.gh = fun _ _ _ => True) (_ : True) (hb : K.b0 = none) : Sub (KM n nx sl m) K := fun x _ _ h =>
  ⟨x, Ctx.ext_refl _, h.weaken ⟨h1, h2, fun i t e => hs (i, t) (lk_memS e), funext hm, hg.symm, fun _ h => (by cases h), hb.symm⟩⟩
/-! ### Maps of lists -/
def outerE (L : List (Int × List Int)) : List (DV × SV) := L.mapIdx fun j p => (.int .i64 p.1, .mp (j + 2))
def innerE (l : List Int) : List (DV × SV) := l.map fun n => (.int .i64 n, .d (.bool true))
def addK (l : List Int) (n : Int) : List Int := if n ∈ l then l else l ++ [n]
def stepL (L : List (Int × List Int)) (a : Int) (ns : List Int) : List (Int × List Int) := match L.findIdx? (fun p => p.1 == a) with
  | none => L ++ [(a, ns.foldl addK [])]
  | some j => L.set j (a, ns.foldl addK (L.getD j (0, [])).2)
def listsN (out : List Int) (ins : List (List Int)) : Nat → List (Int × List Int)
  | 0 => []
  | i + 1 => stepL (listsN out ins i) (out.getD i 0) (ins.getD i [])
theorem outerE_keys (L : List (Int × List Int)) : (outerE L).map (·.1) = L.map fun p => DV.int .i64 p.1 := by
  simp only [outerE]
  apply List.ext_getElem?
  intro i
  simp [List.getElem?_mapIdx, Function.comp_def]
theorem outerE_get {L : List (Int × List Int)} {j : Nat} {p : Int × List Int} (h : L[j]? = some p) : (outerE L)[j]? = some (.int .i64 p.1, .mp (j + 2)) := by simp [outerE, List.getElem?_mapIdx, h]
theorem outerE_set {L : List (Int × List Int)} {j : Nat} {a : Int} {l l' : List Int} (h : L[j]? = some (a, l)) : outerE (L.set j (a, l')) = outerE L := by
  apply List.ext_getElem?
  intro i
  simp only [outerE, List.getElem?_mapIdx, List.getElem?_set]
  by_cases e : j = i
  · subst e
    obtain ⟨h1, h2⟩ := List.getElem?_eq_some_iff.1 h
    simp [h1, h2]
  · simp [e]
@[simp] theorem okKeys_outer (L : List (Int × List Int)) : okKeys (.int .i64) (outerE L) = True := by
  refine eq_true fun e he => ?_
  obtain ⟨i, hi⟩ := List.mem_iff_getElem?.1 he
  simp only [outerE, List.getElem?_mapIdx, Option.map_eq_some_iff] at hi
  obtain ⟨p, _, rfl⟩ := hi; rfl
@[simp] theorem okKeys_inner (l : List Int) : okKeys (.int .i64) (innerE l) = True := by
  refine eq_true fun e he => ?_
  simp only [innerE, List.mem_map] at he
  obtain ⟨n, _, rfl⟩ := he; rfl
@[simp] theorem okKeys_MM {α : Type} (L : List (Int × List Int)) (f : Int × List Int → α) : okKeys (.int .i64) (L.map fun p => (DV.int .i64 p.1, f p)) = True := by
  refine eq_true fun e he => ?_
  simp only [List.mem_map] at he
  obtain ⟨n, _, rfl⟩ := he; rfl
theorem keyB_int (k : IntKind) (a b : Int) : keyB (.int k a) (.int k b) = (b == a) := by
  simp only [keyB]; rw [Bool.eq_iff_iff]; simp; exact eq_comm
theorem getE_idx {α : Type} (a : Int) : ∀ (L : List (Int × List Int)) (f : Nat → Int × List Int → α), getE (.int .i64 a) (L.mapIdx fun j p => (DV.int .i64 p.1, f j p)) = (L.findIdx? (fun p => p.1 == a)).bind fun j => (L[j]?).map fun p => f j p
  | [], f => rfl
  | p :: L, f => by
    rw [List.mapIdx_cons, getE, keyB_int, List.findIdx?_cons]
    by_cases h : (p.1 == a) = true
    · simp [h]
    · rw [if_neg h, if_neg h, getE_idx a L fun j p => f (j + 1) p]
      cases L.findIdx? fun p => p.1 == a <;> simp
theorem findIdx_some {L : List (Int × List Int)} {a : Int} {j : Nat} (h : L.findIdx? (fun p => p.1 == a) = some j) : ∃ l, L[j]? = some (a, l) := by
  rw [List.findIdx?_eq_some_iff_getElem] at h
  obtain ⟨h1, h2, _⟩ := h
  refine ⟨L[j].2, ?_⟩
  rw [List.getElem?_eq_getElem h1, ← show L[j].1 = a by simpa using h2]
theorem idx_cases (L : List (Int × List Int)) (a : Int) : (L.findIdx? (fun p => p.1 == a) = none ∧ getE (.int .i64 a) (outerE L) = none) ∨ ∃ j l, L[j]? = some (a, l) ∧ getE (.int .i64 a) (outerE L) = some (.mp (j + 2)) ∧ L.findIdx? (fun p => p.1 == a) = some j := by
  have := getE_idx a L fun j _ => SV.mp (j + 2)
  cases h : L.findIdx? fun p => p.1 == a with
  | none => exact .inl ⟨rfl, by rw [h] at this; exact this⟩
  | some j =>
    obtain ⟨l, hl⟩ := findIdx_some h
    exact .inr ⟨j, l, hl, by rw [h] at this; simpa [hl, outerE] using this, rfl⟩
theorem updE_none {α : Type} {d : DV} {v : α} : ∀ {es : List (DV × α)}, getE d es = none → updE d v es = es ++ [(d, v)]
  | [], _ => rfl
  | e :: es, h => by
    simp only [getE] at h
    split at h
    · cases h
    · rename_i hb; simp only [updE, hb]; rw [if_neg (by simp), updE_none h]; rfl
theorem updE_outer {L : List (Int × List Int)} {a : Int} (h : getE (.int .i64 a) (outerE L) = none) : updE (.int .i64 a) (.mp (L.length + 2)) (outerE L) = outerE (L ++ [(a, [])]) := by
  rw [updE_none h]; simp [outerE, List.mapIdx_append]
theorem updE_inner (l : List Int) (n : Int) : updE (.int .i64 n) (.d (.bool true)) (innerE l) = innerE (addK l n) := by
  induction l with
  | nil => rfl
  | cons m l ih =>
    show updE _ _ ((DV.int .i64 m, SV.d (.bool true)) :: innerE l) = _
    rw [updE, keyB_int]
    by_cases h : m = n
    · subst h; simp [addK, innerE]
    · rw [if_neg (by simpa using h), ih]
      have hm : (n ∈ m :: l) ↔ n ∈ l := by simp [Ne.symm h]
      simp only [addK, hm]
      split <;> simp [innerE]
theorem getE_updE {α : Type} {k : IntKind} {n : Int} {v : α} : ∀ es : List (DV × α), getE (.int k n) (updE (.int k n) v es) = some v
  | [] => by simp [updE, getE, keyB]
  | e :: es => by
    rw [updE]
    split
    · simp [getE, keyB]
    · rename_i h; rw [getE, if_neg h, getE_updE es]
theorem ensure_new {L : List (Int × List Int)} {a : Int} (h1 : L.findIdx? (fun p => p.1 == a) = none) (h2 : getE (.int .i64 a) (outerE L) = none) : ∃ L1 j l0, L ++ [(a, [])] = L1 ∧ L1[j]? = some (a, l0) ∧ getE (.int .i64 a) (outerE L1) = some (.mp (j + 2)) ∧ ∀ ns : List Int, stepL L a ns = L1.set j (a, ns.foldl addK l0) := by
  refine ⟨_, L.length, [], rfl, by simp, ?_, fun ns => by simp [stepL, h1]⟩
  rw [← updE_outer h2, getE_updE]
theorem ensure_old {L : List (Int × List Int)} {a : Int} {j : Nat} {l : List Int} (h1 : L[j]? = some (a, l)) (h2 : getE (.int .i64 a) (outerE L) = some (.mp (j + 2))) (h3 : L.findIdx? (fun p => p.1 == a) = some j) : ∃ L1 j l0, L = L1 ∧ L1[j]? = some (a, l0) ∧ getE (.int .i64 a) (outerE L1) = some (.mp (j + 2)) ∧ ∀ ns : List Int, stepL L a ns = L1.set j (a, ns.foldl addK l0) :=
  ⟨_, j, l, rfl, h1, h2, fun ns => by simp [stepL, h3, h1]⟩
theorem set_same {L : List (Int × List Int)} {j : Nat} {p : Int × List Int} (h : L[j]? = some p) : L.set j p = L := by
  obtain ⟨h1, rfl⟩ := List.getElem?_eq_some_iff.1 h
  exact List.set_getElem_self h1
theorem set_at {L : List (Int × List Int)} {j : Nat} {p : Int × List Int} (q : Int × List Int) (h : L[j]? = some p) : (L.set j q)[j]? = some q := by
  have := (List.getElem?_eq_some_iff.1 h).1
  simp [this]
theorem mapM_some {α β : Type} {f : α → Option β} : ∀ (l : List α) (r : List β), l.length = r.length → (∀ (i : Nat) a b, l[i]? = some a → r[i]? = some b → f a = some b) → l.mapM f = some r
  | [], [], _, _ => rfl
  | a :: l, b :: r, hl, h => by
    rw [List.mapM_cons, h 0 a b rfl rfl, mapM_some l r (by simpa using hl) fun i x y h1 h2 => h (i + 1) x y (by simpa using h1) (by simpa using h2)]; rfl
  | [], _ :: _, hl, _ => by simp at hl
  | _ :: _, [], hl, _ => by simp at hl
theorem zip_map_self {α β γ : Type} (f : α → β) (g : α → γ) : ∀ l : List α, (l.map f).zip (l.map g) = l.map fun x => (f x, g x)
  | [] => rfl
  | x :: l => by simp [zip_map_self f g l]
end Go.Bf
