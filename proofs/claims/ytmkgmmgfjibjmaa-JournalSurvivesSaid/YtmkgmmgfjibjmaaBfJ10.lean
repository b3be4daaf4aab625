/-
  The law on Append. Printed by program (j10.py). Nothing is claimed here.
-/
import Derived.Test.YtmkgmmgfjibjmaaBfJ9
set_option maxRecDepth 100000
set_option maxHeartbeats 8000000
namespace Go.Bf
open Go Go.RowKit Go.Proofs Go.IntWalk
attribute [local simp] encB rowL rowW encSs encPs encD maxLen isBytes_map bytesOf_map encJ
theorem fitL_nil : FitL [] := ⟨by simp, by simp⟩
theorem append_len {j : Jn} (hj : FitL j.recs) (b : List UInt8) : (appendJ j b).1.recs.length ≤ 140737488355328 := by
  have := hj.1
  unfold appendJ
  split
  · split
    · simp [zeroJ]
    · simp; omega
  · simp [zeroJ]
theorem law_JournalAppendSpec (j : Jn) (hj : FitL j.recs) (b : List UInt8) (hb : b.length ≤ 140737488355328) : FnWp Try.prog 4 [encJ j, encB b] (· = .ret (.bool true)) := by
  refine FnWp.intro' Try.func4 rfl (by simp [Try.ntmps4]) fun E hE => ?_
  refine DWp.reg false fun kk hk => ?_
  simp
  refine hk _ ?_
  refine DWp.seqK fun k1 hk1 => ?_
  refine DWp.reg false fun kk hk => ?_
  simp
  refine CallAt.det false ent9 rfl (jsane_c) ?_
  try simp
  refine hk _ ?_
  refine DWp.condB ?_
  simp
  refine DWp.skip ?_
  refine hk1 _ ?_
  refine DWp.seqK fun k2 hk2 => ?_
  refine DWp.reg false fun kk hk => ?_
  simp
  refine CallAt.det false ent10 rfl (few_c zeroD j.recs (by have := hj.1; omega) hj.2) ?_
  try simp
  refine hk _ ?_
  refine DWp.condB ?_
  simp
  refine ⟨fun hT1 => ?_, fun hF1 => ?_⟩
  · simp [Tt] at hT1
    refine DWp.reg false fun kk hk => ?_
    simp
    refine hk _ ?_
    refine DWp.ret (hE _ ?_).2
    simp
  · simp [Ff] at hF1
    refine DWp.skip ?_
    refine hk2 _ ?_
    refine DWp.reg false fun kk hk => ?_
    simp
    refine CallAt.det false ent14 rfl (jappend_c j hj b hb) ?_
    try simp
    refine hk _ ?_
    refine DWp.reg false fun kk hk => ?_
    simp
    refine CallAt.det false ent15 rfl (refJAppend_c j hj b hb) ?_
    try simp
    refine hk _ ?_
    refine DWp.drawPR false [] (.take 0 (.take 1 (.take 2 (.take 3 (.take 4 (.take 5 (.take 6 (.take 7 (.take 8 (.take 9 (.take 10 (.take 11 (.take 12 (.take 13 (.take 14 (.take 15 (.take 16 (.take 17 (.take 18 (.take 19 (.take 20 (.take 21 (.take 22 .done))))))))))))))))))))))) mixed (by kernel_rfl) fun kk hk => ?_
    simp
    refine DetCall.intro ent16 rfl (fun _ => jcheck_c j hj) ?_
    try simp
    refine DetCall.intro ent17 rfl (fun _ => refJCheck_c j hj) ?_
    try simp
    refine DetCall.intro ent18 rfl (fun _ => jroom_c j hj) ?_
    try simp
    refine DetCall.intro ent19 rfl (fun _ => refJRoom_c j hj) ?_
    try simp
    refine DetCall.intro ent13 rfl (fun _ => sameJ_c (appendJ j b).1 (appendJ j b).1 (append_len hj b)) ?_
    try simp
    refine hk _ ?_
    refine DWp.ret (hE _ ?_).2
    simp
end Go.Bf
