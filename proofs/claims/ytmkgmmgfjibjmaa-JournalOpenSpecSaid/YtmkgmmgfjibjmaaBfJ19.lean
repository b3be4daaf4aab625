/-
  The law on Open. Printed by program (j18.py). Nothing is claimed here.
-/
import Derived.Test.YtmkgmmgfjibjmaaBfJ18
import Derived.Test.YtmkgmmgfjibjmaaBfJ9
set_option maxRecDepth 100000
set_option maxHeartbeats 8000000
namespace Go.Bf
open Go Go.RowKit Go.Proofs Go.IntWalk
attribute [local simp] encB rowL rowW encSs encPs encD maxLen isBytes_map bytesOf_map encJ
theorem open_len {d : Dk} (hd : d.fits) : (openD d).1.recs.length ≤ 140737488355328 := by
  have h1 := recsL_len d.ss
  have h2 := hd.1
  unfold openD
  by_cases hk : okD d = true
  · have := okD_ps hk
    rw [if_pos hk]
    split
    · simp [zeroJ]
    · split
      · simp [zeroJ]
      · simp only; omega
  · rw [if_neg hk]; simp [zeroJ]
theorem ent12 : Enters Try.prog 12 := enters_of Try.func12 rfl rfl
theorem refOpen_c (d : Dk) (hd : d.fits) : FnWp Try.prog 12 [encD d] (· = .ret (.tup [encJ (openD d).1, .int .i64 (openD d).2])) := by
  refine FnWp.intro' Try.func12 rfl (by simp [Try.ntmps12]) fun E hE => ?_
  refine DWp.reg false fun kk hk => ?_
  simp
  refine hk _ ?_
  refine DWp.reg false fun kk hk => ?_
  simp
  refine CallAt.det false ent31 rfl (refCheck_c d hd) ?_
  simp
  refine hk _ ?_
  refine DWp.seqK fun k1 hk1 => ?_
  refine DWp.reg false fun kk hk => ?_
  simp
  refine hk _ ?_
  refine DWp.condB ?_
  simp
  refine ⟨fun hT0 => ?_, fun hF0 => ?_⟩
  · simp [Tt] at hT0
    refine DWp.reg false fun kk hk => ?_
    simp
    refine hk _ ?_
    refine DWp.ret (hE _ ?_).2
    rw [show openD d = (zeroJ, 440) by simp [openD, hT0]]
    simp [zeroJ, hT0]
  · simp [Ff] at hF0
    refine DWp.skip ?_
    refine hk1 _ ?_
    refine DWp.seqK fun k2 hk2 => ?_
    refine DWp.reg false fun kk hk => ?_
    simp
    refine hk _ ?_
    refine DWp.condB ?_
    simp
    refine ⟨fun hT1 => ?_, fun hF1 => ?_⟩
    · simp [Tt] at hT1
      refine DWp.reg false fun kk hk => ?_
      simp
      refine hk _ ?_
      refine DWp.ret (hE _ ?_).2
      rw [show openD d = (zeroJ, 440) by simp [openD, hF0, hT1]]
      simp [zeroJ]
    · simp [Ff] at hF1
      refine DWp.skip ?_
      refine hk2 _ ?_
      refine DWp.seqK fun k3 hk3 => ?_
      refine DWp.reg false fun kk hk => ?_
      simp
      refine hk _ ?_
      refine DWp.condB ?_
      simp
      refine ⟨fun hT2 => ?_, fun hF2 => ?_⟩
      · simp [Tt] at hT2
        refine DWp.reg false fun kk hk => ?_
        simp
        refine hk _ ?_
        refine DWp.ret (hE _ ?_).2
        rw [show openD d = (zeroJ, 1) by simp only [openD, hF0, hF1, if_true]; rw [if_neg (by simp), if_pos (by intro e; simp [e] at hT2)]]
        simp [zeroJ]
      · simp [Ff] at hF2
        refine DWp.skip ?_
        refine hk3 _ ?_
        refine DWp.reg false fun kk hk => ?_
        simp
        refine CallAt.det false ent32 rfl (refRecords_c d.ss (okD_s hF0) (okD_ps hF0).2.2) ?_
        simp
        refine hk _ ?_
        refine DWp.reg false fun kk hk => ?_
        simp
        refine hk _ ?_
        refine DWp.ret (hE _ ?_).2
        rw [show openD d = (⟨d.ss.length, (recsL d.ss).length, recsL d.ss⟩, 0) by simp [openD, hF0, hF1, hF2]]
        simp
theorem law_JournalOpenSpec (d : Dk) (hd : d.fits) : FnWp Try.prog 3 [encD d] (· = .ret (.bool true)) := by
  refine FnWp.intro' Try.func3 rfl (by simp [Try.ntmps3]) fun E hE => ?_
  refine DWp.reg false fun kk hk => ?_
  simp
  refine hk _ ?_
  refine DWp.seqK fun k1 hk1 => ?_
  refine DWp.reg false fun kk hk => ?_
  simp
  refine CallAt.det false ent9 rfl (jsane_c) ?_
  simp
  refine hk _ ?_
  refine DWp.condB ?_
  simp
  refine DWp.skip ?_
  refine hk1 _ ?_
  refine DWp.seqK fun k2 hk2 => ?_
  refine DWp.reg false fun kk hk => ?_
  simp
  refine CallAt.det false ent10 rfl (few_c d [] (by simp) (by simp)) ?_
  simp
  refine hk _ ?_
  refine DWp.condB ?_
  simp
  refine ⟨fun hT1 => ?_, fun hF1 => ?_⟩
  · simp [Tt] at hT1
    refine DWp.reg false fun kk hk => ?_
    simp
    refine hk _ ?_
    refine DWp.ret (hE _ ?_).2
    simp
  · simp [Ff] at hF1
    refine DWp.skip ?_
    refine hk2 _ ?_
    refine DWp.reg false fun kk hk => ?_
    simp
    refine CallAt.det false ent11 rfl (open_c d hd) ?_
    simp
    refine hk _ ?_
    refine DWp.reg false fun kk hk => ?_
    simp
    refine CallAt.det false ent12 rfl (refOpen_c d hd) ?_
    simp
    refine hk _ ?_
    refine DWp.reg false fun kk hk => ?_
    simp
    refine CallAt.det false ent13 rfl (sameJ_c (openD d).1 (openD d).1 (open_len hd)) ?_
    simp
    refine hk _ ?_
    refine DWp.ret (hE _ ?_).2
    simp
end Go.Bf
