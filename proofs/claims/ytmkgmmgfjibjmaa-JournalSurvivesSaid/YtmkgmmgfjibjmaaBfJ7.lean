/-
  The journal: comparing lists of records. Printed by program (j7.py). Nothing is claimed here.
-/
import Derived.Test.YtmkgmmgfjibjmaaBfJ6
set_option maxRecDepth 100000
set_option maxHeartbeats 8000000
namespace Go.Bf
open Go Go.RowKit Go.Proofs Go.IntWalk
attribute [local simp] encB rowL rowW encSs encPs encD maxLen isBytes_map bytesOf_map encJ
theorem ent41 : Enters Try.prog 41 := enters_of Try.func41 rfl rfl
theorem eqF_c (a b : List (List UInt8)) (ha : a.length ≤ 140737488355328) : FnWp Try.prog 41 [encSs a, encSs b, .fn 42 []] (· = .ret (.bool (decide (a = b)))) := by
  refine FnWp.intro' Try.func41 rfl (by simp [Try.ntmps41]) fun E hE => ?_
  refine DWp.reg false fun kk hk => ?_
  simp
  refine hk _ ?_
  refine DWp.seqK fun k1 hk1 => ?_
  refine DWp.reg false fun kk hk => ?_
  simp
  refine hk _ ?_
  refine DWp.condB ?_
  simp
  refine ⟨fun hT0 => ?_, fun hF0 => ?_⟩
  · simp [Tt] at hT0
    refine DWp.reg false fun kk hk => ?_
    simp
    refine hk _ ?_
    refine DWp.ret (hE _ ?_).2
    simp
    rintro rfl
    simp at hT0
  · simp [Ff] at hF0
    refine DWp.skip ?_
    refine hk1 _ ?_
    refine DWp.seqK fun k2 hk2 => ?_
    refine DWp.reg false fun kk hk => ?_
    simp
    refine hk _ ?_
    refine DWp.block ?_
    refine DWp.loopK (fun i : Nat => Know.of 32 [(1, .d (encSs b)), (2, .d (.fn 42 [])), (15, .d (encSs a)), (16, .d (.int .i64 a.length)), (17, .d (.int .i64 i))] [])
      (fun i => i ≤ a.length ∧ a.take i = b.take i) (fun i => a.length - i) 0 (Sub.of [] ⟨rfl, rfl, by simp, by simp, by simp, by simp⟩) (by simp) ?_
    rintro i ⟨hi, htk⟩ kl3 hkl3
    refine DWp.reg false fun kk hk => ?_
    simp
    refine hk _ ?_
    refine DWp.seqK fun k4 hk4 => ?_
    refine DWp.condB ?_
    simp
    refine ⟨fun hT1 => ?_, fun hF1 => ?_⟩
    · simp [Tt] at hT1
      have hb1 : i < b.length := by omega
      refine DWp.skip ?_
      refine hk4 _ ?_
      refine DWp.seqK fun k5 hk5 => ?_
      refine DWp.block ?_
      refine DWp.reg false fun kk hk => ?_
      simp [hT1]
      refine hk _ ?_
      refine DWp.reg false fun kk hk => ?_
      simp [hb1]
      refine hk _ ?_
      refine DWp.reg false fun kk hk => ?_
      simp
      refine CallAt.det false ent42 rfl (equalB_c a[i] b[i]) ?_
      simp
      refine hk _ ?_
      refine DWp.condB ?_
      simp
      refine ⟨fun hT2 => ?_, fun hF2 => ?_⟩
      · simp [Tt] at hT2
        refine DWp.reg false fun kk hk => ?_
        simp
        refine hk _ ?_
        refine DWp.ret (hE _ ?_).2
        simp
        rintro rfl
        simp at hT2
      · simp [Ff] at hF2
        refine DWp.skip ?_
        refine hk5 _ ?_
        refine DWp.regionV false ?_
        simp
        rw [i64_in _ (by omega)]
        refine hkl3 _ (i + 1) ⟨by omega, ?_⟩ (by omega) (Sub.of [] ⟨rfl, rfl, by simp, by simp, by simp, by simp⟩)
        exact take_eq_succ htk (by omega) (by omega) (by simpa using hF2)
    · simp [Ff] at hF1
      refine DWp.exit ?_
      simp
      refine hk2 _ ?_
      refine DWp.reg false fun kk hk => ?_
      simp
      refine hk _ ?_
      refine DWp.ret (hE _ ?_).2
      simp
      rw [List.take_of_length_le (by omega), List.take_of_length_le (by omega)] at htk
      exact htk
end Go.Bf
