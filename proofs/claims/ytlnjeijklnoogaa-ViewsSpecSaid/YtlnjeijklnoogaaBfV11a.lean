/-
  Views: sorting, reckoned. Nothing is claimed here.
-/
import Derived.Test.YtlnjeijklnoogaaBfV10
import Derived.Test.YtlnjeijklnoogaaBfV7
namespace Go.Bf
open Go
def isI (x : Int) : List Int → List Int
  | [] => [x]
  | y :: t => if x ≤ y then x :: y :: t else y :: isI x t
def isort : List Int → List Int
  | [] => []
  | x :: t => isI x (isort t)
theorem isI_perm (x : Int) : ∀ l : List Int, (isI x l).Perm (x :: l)
  | [] => List.Perm.refl _
  | y :: t => by
    rw [isI]
    split
    · exact List.Perm.refl _
    · exact ((isI_perm x t).cons y).trans (List.Perm.swap x y t)
theorem isort_perm : ∀ l : List Int, (isort l).Perm l
  | [] => List.Perm.refl _
  | x :: t => (isI_perm x _).trans ((isort_perm t).cons x)
theorem isI_sorted (x : Int) : ∀ l : List Int, l.Pairwise (· ≤ ·) → (isI x l).Pairwise (· ≤ ·)
  | [], _ => by simp [isI]
  | y :: t, h => by
    rw [isI]
    rw [List.pairwise_cons] at h
    split
    · rename_i hle
      rw [List.pairwise_cons, List.pairwise_cons]
      exact ⟨fun z hz => by rcases List.mem_cons.1 hz with rfl | hz; exact hle; have := h.1 z hz; omega, h⟩
    · rename_i hle
      rw [List.pairwise_cons]
      exact ⟨fun z hz => by rcases List.mem_cons.1 ((isI_perm x t).mem_iff.1 hz) with rfl | hz; omega; exact h.1 z hz, isI_sorted x t h.2⟩
theorem isort_sorted : ∀ l : List Int, (isort l).Pairwise (· ≤ ·)
  | [] => List.Pairwise.nil
  | x :: t => isI_sorted x _ (isort_sorted t)
theorem sortI_eq (l : List Int) : sortI l = isort l := by
  rw [sortI, ← List.mergeSort_of_pairwise (le := fun x y : Int => decide (x ≤ y)) (l := isort l) ((isort_sorted l).imp fun h => by simpa using h)]
  exact (mergeSort_of_perm_i (isort_perm l)).symm
def canonE (of : List (Int × List Int) → List Int) (r : Rl) : Rl :=
  (of (listsN r.1 r.2 r.1.length), (of (listsN r.1 r.2 r.1.length)).map fun a => isort ((getL (listsN r.1 r.2 r.1.length) a).getD []))
def publicE (of : List (Int × List Int) → List Int) (l : List Rl) : List Rl := dd eqC (sortR cmpC (l.map (canonE of)))
def pubOfE (L : List (Int × List Int)) : List Int := isort (L.map (·.1))
theorem publicD_eq (of : List (Int × List Int) → List Int) (l : List Rl) : publicD of l = publicE of l := by
  have : canonD of = canonE of := by funext r; simp only [canonD, canonE, sortI_eq]
  rw [publicD, this, publicE]
theorem pubOf_eq : pubOf = pubOfE := by funext L; rw [pubOf, sortI_eq, pubOfE]
def learnE (l : List Rl) (ls : List Int) : List Rl × Int := if learnOK ls then (publicE (fun _ => ls) l, 0) else ([], 510)
theorem learnD_eq (l : List Rl) (ls : List Int) : learnD l ls = learnE l ls := by rw [learnD, publicD_eq, learnE]
/-! ### The chapter's examples -/
def exR : Rl := ([2, 1], [[5], [7, 6]])
def exW : Rl := ([1, 2], [[6, 7], [5]])
def exZ : Rl := ([], [])
theorem ex_pub : publicD pubOf [exR, exW, exR] = [exW] := by rw [publicD_eq, pubOf_eq]; decide +kernel
theorem ex_pub0 : publicD pubOf [] = [] := by rw [publicD_eq, pubOf_eq]; decide +kernel
theorem ex_l1 : learnD [exR] [2, 3] = ([([2, 3], [[5], []])], 0) := by rw [learnD_eq]; decide +kernel
theorem ex_l2 : learnD [] [3, 3] = ([], 510) := by rw [learnD_eq]; decide +kernel
theorem ex_l3 : learnD [exR, exZ] [] = ([exZ], 0) := by rw [learnD_eq]; decide +kernel
def mE (k t : Int) : Msg := { zMsg with kind := k, to := t }
theorem getL_len (L : List (Int × List Int)) (a : Int) : ((getL L a).getD []).length ≤ (L.map fun p => p.2.length).sum := by
  induction L with
  | nil => simp [getL]
  | cons p L ih =>
    rw [getL, List.find?_cons]
    by_cases h : (p.1 == a) = true
    · simp [h]
    · simp only [h]
      rw [getL] at ih
      simp only [List.map_cons, List.sum_cons]
      omega
theorem okR_of {of : List (Int × List Int) → List Int} {r : Rl} (h1 : r.1.length ≤ 1000000) (h2 : ∀ l ∈ r.2, l.length ≤ 1000000) (h3 : (of (listsN r.1 r.2 r.1.length)).length ≤ 1000000) (h4 : (listsN r.1 r.2 r.1.length).length ≤ 1000000)
    (h5 : ((listsN r.1 r.2 r.1.length).map fun p => p.2.length).sum ≤ 1000000) : okR of r := ⟨h1, h2, h3, h4, fun a => Nat.le_trans (getL_len _ a) h5⟩
theorem ok_R : okR pubOf exR := okR_of (by decide) (by decide) (by rw [pubOf_eq]; decide +kernel) (by decide +kernel) (by decide +kernel)
theorem ok_W : okR pubOf exW := okR_of (by decide) (by decide) (by rw [pubOf_eq]; decide +kernel) (by decide +kernel) (by decide +kernel)
theorem ok_R1 : okR (fun _ => [2, 3]) exR := okR_of (by decide) (by decide) (by decide) (by decide +kernel) (by decide +kernel)
theorem ok_R0 : okR (fun _ => []) exR := okR_of (by decide) (by decide) (by decide) (by decide +kernel) (by decide +kernel)
theorem ok_Z0 : okR (fun _ => []) exZ := okR_of (by decide) (by decide) (by decide) (by decide +kernel) (by decide +kernel)
end Go.Bf
