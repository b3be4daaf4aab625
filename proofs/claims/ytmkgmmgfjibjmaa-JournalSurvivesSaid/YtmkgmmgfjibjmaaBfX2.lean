import Derived.Test.YtmkgmmgfjibjmaaFwC
import Derived.Test.YtmkgmmgfjibjmaaBfTy
namespace Go.Bf
open Go Go.RowKit Go.Proofs Go.IntWalk

def rowL (l : List UInt8) : List DV := [encB l]
def rowW (w : Int × List UInt8) : List DV := [.int .i64 w.1, encB w.2]
def encSs (ss : List (List UInt8)) : DV := .list (ss.map rowL)
def encPs (ps : List (Int × List UInt8)) : DV := .list (ps.map rowW)
attribute [local simp] encB rowL rowW encSs encPs

theorem ent50 : Enters Try.prog 50 := enters_of Try.func50 rfl rfl
theorem ent49 : Enters Try.prog 49 := enters_of Try.func49 rfl rfl
theorem ent53 : Enters Try.prog 53 := enters_of Try.func53 rfl rfl

theorem isSector_c (b : List UInt8) : FnWp Try.prog 50 [encB b] (· = .ret (.bool (decide (b.length = 128)))) := by
  refine FnWp.intro' Try.func50 rfl (by simp [Try.ntmps50]) fun E hE => ?_
  refine DWp.reg false fun k hk => ?_
  simp
  refine hk _ (DWp.reg false fun k hk => ?_)
  simp
  refine hk _ (DWp.ret (hE _ ?_).2)
  simp
  omega

def badW (n : Int) (w : Int × List UInt8) : Bool := decide (w.1 < 0 ∨ n ≤ w.1 ∨ w.2.length ≠ 128)

theorem check1_c (n : Int) (w : Int × List UInt8) : FnWp Try.prog 49 [.agg (rowW w), .ptr [.int .i64 n]] (· = .ret (.bool (badW n w))) := by
  refine FnWp.intro' Try.func49 rfl (by simp [Try.ntmps49]) fun E hE => ?_
  refine DWp.reg false fun k hk => ?_
  simp
  refine hk _ (DWp.reg false fun k hk => ?_)
  simp
  refine CallAtG.det false ent50 rfl (fun _ => isSector_c w.2) ?_
  simp
  refine hk _ (DWp.ret (hE _ ?_).2)
  simp [badW, Bool.or_assoc]

theorem check2_c (b : List UInt8) : FnWp Try.prog 53 [encB b] (· = .ret (.bool (decide (b.length ≠ 128)))) := by
  refine FnWp.intro' Try.func53 rfl (by simp [Try.ntmps53]) fun E hE => ?_
  refine DWp.reg false fun k hk => ?_
  simp
  refine hk _ (DWp.reg false fun k hk => ?_)
  simp
  refine CallAt.det false ent50 rfl (isSector_c b) ?_
  simp
  refine hk _ (DWp.ret (hE _ ?_).2)
  simp

/-- slices.IndexFunc. -/
def idx {α : Type} (p : α → Bool) (l : List α) : Int := if l.any p then (l.findIdx p : Nat) else -1

theorem idx_at {α : Type} (p : α → Bool) (l : List α) (i : Nat) (hi : i < l.length) (hno : (l.take i).any p = false) (hb : p l[i] = true) : idx p l = (i : Int) := by
  have hany : l.any p = true := List.any_eq_true.2 ⟨l[i], List.getElem_mem hi, hb⟩
  unfold idx
  rw [if_pos hany]
  congr 1
  rw [List.findIdx_eq hi]
  refine ⟨hb, fun j hj => ?_⟩
  rw [List.any_eq_false] at hno
  have := hno l[j] (List.mem_take_iff_getElem.2 ⟨j, by omega, rfl⟩)
  simpa using this
theorem take_any_succ {α : Type} (p : α → Bool) (l : List α) (i : Nat) (hi : i < l.length) (hno : (l.take i).any p = false) (hb : p l[i] = false) : (l.take (i + 1)).any p = false := by
  rw [List.take_add_one, List.any_append, hno, List.getElem?_eq_getElem hi]
  simp [hb]
theorem idx_none {α : Type} (p : α → Bool) (l : List α) (hno : l.any p = false) : idx p l = -1 := by
  unfold idx; rw [hno]; rfl

theorem indexW_c (n : Int) (ps : List (Int × List UInt8)) (hl : ps.length ≤ 140737488355328) : FnWp Try.prog 62 [encPs ps, .fn 49 [.ptr [.int .i64 n]]] (· = .ret (.int .i64 (idx (badW n) ps))) := by
  refine FnWp.intro' Try.func62 rfl (by simp [Try.ntmps62]) fun E hE => ?_
  refine DWp.reg false fun k hk => ?_
  simp
  refine hk _ (DWp.seqK fun kA hkA => ?_)
  refine DWp.reg false fun k2 hk2 => ?_
  simp
  refine hk2 _ (DWp.block ?_)
  refine DWp.loopK (fun i : Nat => Know.of 19 [(0, .d (encPs ps)), (1, .d (.fn 49 [.ptr [.int .i64 n]])), (7, .d (.int .i64 ps.length)), (8, .d (.int .i64 i))] [])
    (fun i => i ≤ ps.length ∧ (ps.take i).any (badW n) = false) (fun i => ps.length - i) 0 (Sub.of [] ⟨rfl, rfl, by simp, by simp, by simp, by simp⟩) (by simp) ?_
  rintro i ⟨hi, hno⟩ kl hkl
  refine DWp.reg false fun k hk => ?_
  simp
  refine hk _ (DWp.iff fun k hk => ?_)
  simp
  refine ⟨fun hlt => DWp.skip (hk _ ?_), fun hge => DWp.exit ?_⟩
  · refine DWp.blockK fun k hk => ?_
    refine DWp.reg false fun k1 hk1 => ?_
    simp
    refine hk1 _ (DWp.reg false fun k2 hk2 => ?_)
    have hg : ps[i]? = some ps[i] := List.getElem?_eq_getElem hlt
    simp [hlt]
    refine CallAt.det false ent49 rfl (check1_c n ps[i]) ?_
    simp
    refine hk2 _ (DWp.cond ?_)
    simp
    refine ⟨fun hb => ?_, fun hb => ?_⟩
    · refine DWp.reg false fun k3 hk3 => ?_
      simp
      refine hk3 _ (DWp.ret ?_)
      simp
      refine (hE _ ?_).2
      simp
      rw [idx_at _ _ i hlt hno hb]
    · refine DWp.skip ?_
      simp
      refine hk _ (DWp.regionV false ?_)
      simp
      rw [i64_in _ (by omega)]
      refine hkl _ (i + 1) ⟨by omega, take_any_succ _ _ _ hlt hno hb⟩ (by omega) (Sub.of [] ⟨rfl, rfl, by simp, by simp, by simp, by simp⟩)
  · simp
    refine hkA _ (DWp.reg false fun k3 hk3 => ?_)
    simp
    refine hk3 _ (DWp.ret (hE _ ?_).2)
    simp
    rw [List.take_of_length_le (by omega)] at hno
    rw [idx_none _ _ hno]

theorem indexL_c (ss : List (List UInt8)) (hl : ss.length ≤ 140737488355328) : FnWp Try.prog 63 [encSs ss, .fn 53 []] (· = .ret (.int .i64 (idx (fun b => decide (b.length ≠ 128)) ss))) := by
  refine FnWp.intro' Try.func63 rfl (by simp [Try.ntmps63]) fun E hE => ?_
  refine DWp.reg false fun k hk => ?_
  simp
  refine hk _ (DWp.seqK fun kA hkA => ?_)
  refine DWp.reg false fun k2 hk2 => ?_
  simp
  refine hk2 _ (DWp.block ?_)
  refine DWp.loopK (fun i : Nat => Know.of 19 [(0, .d (encSs ss)), (1, .d (.fn 53 [])), (7, .d (.int .i64 ss.length)), (8, .d (.int .i64 i))] [])
    (fun i => i ≤ ss.length ∧ (ss.take i).any (fun b => decide (b.length ≠ 128)) = false) (fun i => ss.length - i) 0 (Sub.of [] ⟨rfl, rfl, by simp, by simp, by simp, by simp⟩) (by simp) ?_
  rintro i ⟨hi, hno⟩ kl hkl
  refine DWp.reg false fun k hk => ?_
  simp
  refine hk _ (DWp.iff fun k hk => ?_)
  simp
  refine ⟨fun hlt => DWp.skip (hk _ ?_), fun hge => DWp.exit ?_⟩
  · refine DWp.blockK fun k hk => ?_
    refine DWp.reg false fun k1 hk1 => ?_
    simp
    refine hk1 _ (DWp.reg false fun k2 hk2 => ?_)
    have hg : ss[i]? = some ss[i] := List.getElem?_eq_getElem hlt
    simp [hlt]
    refine CallAt.det false ent53 rfl (check2_c ss[i]) ?_
    simp
    refine hk2 _ (DWp.cond ?_)
    simp
    refine ⟨fun hb => ?_, fun hb => ?_⟩
    · refine DWp.reg false fun k3 hk3 => ?_
      simp
      refine hk3 _ (DWp.ret ?_)
      simp
      refine (hE _ ?_).2
      simp
      rw [← idx_at _ _ i hlt hno (by simpa using hb)]
      simp
    · refine DWp.skip ?_
      simp
      refine hk _ (DWp.regionV false ?_)
      simp
      rw [i64_in _ (by omega)]
      refine hkl _ (i + 1) ⟨by omega, take_any_succ _ _ _ hlt hno (by simpa using hb)⟩ (by omega) (Sub.of [] ⟨rfl, rfl, by simp, by simp, by simp, by simp⟩)
  · simp
    refine hkA _ (DWp.reg false fun k3 hk3 => ?_)
    simp
    refine hk3 _ (DWp.ret (hE _ ?_).2)
    simp
    rw [List.take_of_length_le (by omega)] at hno
    rw [← idx_none _ _ hno]
    simp

theorem ent62 : Enters Try.prog 62 := enters_of Try.func62 rfl rfl
theorem ent63 : Enters Try.prog 63 := enters_of Try.func63 rfl rfl

theorem idx_ge {α : Type} (p : α → Bool) (l : List α) : decide (0 ≤ idx p l) = l.any p := by
  unfold idx
  split
  · rename_i h; rw [h]; simp
  · rename_i h; simp at h ⊢; exact h

theorem containsW_c (n : Int) (ps : List (Int × List UInt8)) (hl : ps.length ≤ 140737488355328) : FnWp Try.prog 51 [encPs ps, .fn 49 [.ptr [.int .i64 n]]] (· = .ret (.bool (ps.any (badW n)))) := by
  refine FnWp.intro' Try.func51 rfl (by simp [Try.ntmps51]) fun E hE => ?_
  refine DWp.reg false fun k hk => ?_
  simp
  refine hk _ (DWp.reg false fun k hk => ?_)
  simp
  refine CallAt.det false ent62 rfl (indexW_c n ps hl) ?_
  simp
  refine hk _ (DWp.ret (hE _ ?_).2)
  simp [idx_ge]

theorem containsL_c (ss : List (List UInt8)) (hl : ss.length ≤ 140737488355328) : FnWp Try.prog 52 [encSs ss, .fn 53 []] (· = .ret (.bool (ss.any (fun b => decide (b.length ≠ 128))))) := by
  refine FnWp.intro' Try.func52 rfl (by simp [Try.ntmps52]) fun E hE => ?_
  refine DWp.reg false fun k hk => ?_
  simp
  refine hk _ (DWp.reg false fun k hk => ?_)
  simp
  refine CallAt.det false ent63 rfl (indexL_c ss hl) ?_
  simp
  refine hk _ (DWp.ret (hE _ ?_).2)
  have := idx_ge (fun b : List UInt8 => decide (b.length ≠ 128)) ss
  simp at this ⊢
  exact this
end Go.Bf
