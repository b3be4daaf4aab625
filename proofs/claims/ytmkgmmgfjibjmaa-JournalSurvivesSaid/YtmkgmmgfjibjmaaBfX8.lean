import Derived.Test.YtmkgmmgfjibjmaaBfX7
import Derived.Test.YtmkgmmgfjibjmaaFwC
namespace Go.Bf
open Go Go.RowKit Go.Proofs Go.IntWalk
attribute [local simp] encB rowL rowW encSs encPs encD maxLen

/-- The rows that slices.Backward yields. -/
def bk (ps : List (Int × List UInt8)) : List (List DV) := (List.range ps.length).map fun j => [.int .i64 ((ps.length - 1 - j : Nat) : Int), .agg (rowW (ps.getD (ps.length - 1 - j) (0, [])))]
theorem bk_length (ps : List (Int × List UInt8)) : (bk ps).length = ps.length := by simp [bk]

theorem lk_mem : ∀ {sl : List (Nat × SV)} {i : Nat} {s : SV}, lk sl i = some s → i ∈ sl.map (·.1)
  | [], i, s, h => by simp [lk] at h
  | (j, t) :: sl, i, s, h => by
    simp only [lk] at h
    split at h
    · rename_i e; simp [e]
    · simp only [List.map_cons, List.mem_cons]; exact .inr (lk_mem h)

theorem find_rev (ps : List (Int × List UInt8)) (at' : Int) (j : Nat) (hj : j < ps.length) (hno : ∀ k, k < j → ∀ w, ps[ps.length - 1 - k]? = some w → w.1 ≠ at') (he : (ps[ps.length - 1 - j]'(by omega)).1 = at') :
    ps.reverse.find? (fun w => w.1 = at') = some (ps[ps.length - 1 - j]'(by omega)) := by
  rw [List.find?_eq_some_iff_getElem]
  refine ⟨by simpa using he, j, by simpa using hj, by rw [List.getElem_reverse], fun k hk => ?_⟩
  have := hno k hk _ (List.getElem?_eq_getElem (by omega))
  rw [List.getElem_reverse]
  simpa using this
theorem find_rev_none (ps : List (Int × List UInt8)) (at' : Int) (hno : ∀ k, k < ps.length → ∀ w, ps[ps.length - 1 - k]? = some w → w.1 ≠ at') : ps.reverse.find? (fun w => w.1 = at') = none := by
  rw [List.find?_eq_none]
  intro w hw
  rw [List.mem_reverse] at hw
  obtain ⟨i, hi, rfl⟩ := List.getElem_of_mem hw
  have := hno (ps.length - 1 - i) (by omega) ps[i] (by rw [show ps.length - 1 - (ps.length - 1 - i) = i by omega]; exact List.getElem?_eq_getElem hi)
  simpa using this

def readD (d : Dk) (at' : Int) : List UInt8 × Int :=
  if okD d && !d.st && decide (0 ≤ at' ∧ at' < d.ss.length) then
    match d.ps.reverse.find? (fun w => w.1 = at') with
    | some w => (w.2, 0)
    | none => (d.ss.getD at'.toNat [], 0)
  else ([], 440)

end Go.Bf
