/-
  The disk's reference, further functions: what each yields. Printed by program (x14.py). Nothing is claimed here.
-/
import Derived.Test.YtmkgmmgfjibjmaaBfX13
import Derived.Test.YtmkgmmgfjibjmaaFwC
set_option maxRecDepth 100000
set_option maxHeartbeats 4000000
namespace Go.Bf
open Go Go.RowKit Go.Proofs Go.IntWalk
attribute [local simp] encB rowL rowW encSs encPs encD maxLen
def curR (d : Dk) (at' : Int) (i : Nat) : List UInt8 := match (d.ps.take i).reverse.find? (fun w => w.1 = at') with
  | some w => w.2
  | none => d.ss.getD at'.toNat []
theorem curR_succ (d : Dk) (at' : Int) (i : Nat) (h : i < d.ps.length) : curR d at' (i + 1) = if d.ps[i].1 = at' then d.ps[i].2 else curR d at' i := by
  unfold curR
  rw [List.take_succ_eq_append_getElem h, List.reverse_append]
  simp only [List.reverse_cons, List.reverse_nil, List.nil_append, List.singleton_append, List.find?_cons]
  by_cases hh : d.ps[i].1 = at' <;> simp [hh]
@[simp] theorem wideB_t (l : List UInt8) : Wide 1 (List.map rowB l) = True := by simp only [wideB]
@[simp] theorem wideL_t (l : List (List UInt8)) : Wide 1 (List.map rowL l) = True := by simp only [wideL]
@[simp] theorem wideW_t (l : List (Int × List UInt8)) : Wide 2 (List.map rowW l) = True := by simp only [wideW]
@[simp] theorem wideBt_t (n : Nat) (l : List UInt8) : Wide 1 (List.take n (List.map rowB l)) = True := by rw [← List.map_take]; exact wideB_t _
@[simp] theorem wideBd_t (n : Nat) (l : List UInt8) : Wide 1 (List.drop n (List.map rowB l)) = True := by rw [← List.map_drop]; exact wideB_t _
theorem performL_succ (ss : List (List UInt8)) (ps : List (Int × List UInt8)) (j : Nat) (h : j < ps.length) : performL ss (ps.take (j + 1)) = (performL ss (ps.take j)).set ps[j].1.toNat ps[j].2 := by
  rw [List.take_succ_eq_append_getElem h]
  simp only [performL, List.foldl_append, List.foldl_cons, List.foldl_nil, setAt]
@[simp] theorem renL_set (ρ : Nat → Nat) (l : List SV) (i : Nat) (s : SV) : renL ρ (l.set i s) = (renL ρ l).set i (s.ren ρ) := by simp [renL_eq, List.map_set]
@[simp] theorem frzL_set (b : Nat) (ds : List DV) (l : List SV) (i : Nat) (s : SV) : frzL b ds (l.set i s) = (frzL b ds l).set i (s.frz b ds) := by simp [frzL_eq, List.map_set]
end Go.Bf
