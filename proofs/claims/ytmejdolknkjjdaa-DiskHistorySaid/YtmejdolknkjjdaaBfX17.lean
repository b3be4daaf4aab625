/-
  The disk's laws against the reference. Printed by program (x17.py). Nothing is claimed here.
-/
import Derived.Test.YtmejdolknkjjdaaBfX16
set_option maxRecDepth 100000
set_option maxHeartbeats 4000000
namespace Go.Bf
open Go Go.RowKit Go.Proofs Go.IntWalk
attribute [local simp] encB rowL rowW encSs encPs encD maxLen isBytes_map bytesOf_map
theorem ent10 : Enters Try.prog 10 := enters_of Try.func10 rfl rfl
theorem ent11 : Enters Try.prog 11 := enters_of Try.func11 rfl rfl
theorem ent13 : Enters Try.prog 13 := enters_of Try.func13 rfl rfl
theorem ent14 : Enters Try.prog 14 := enters_of Try.func14 rfl rfl
theorem ent20 : Enters Try.prog 20 := enters_of Try.func20 rfl rfl
theorem ent22 : Enters Try.prog 22 := enters_of Try.func22 rfl rfl
theorem ent24 : Enters Try.prog 24 := enters_of Try.func24 rfl rfl
theorem ent26 : Enters Try.prog 26 := enters_of Try.func26 rfl rfl
theorem fits_new (n : Int) : (newD n).1.fits := by
  unfold newD
  split
  · exact ⟨by simp [zeroD], by simp [zeroD]⟩
  · exact ⟨by simp; omega, by simp⟩
theorem fits_zero : zeroD.fits := ⟨by simp [zeroD], by simp [zeroD]⟩
theorem fits_write (d : Dk) (hd : d.fits) (at' : Int) (b : List UInt8) : (writeD d at' b).1.fits := by
  unfold writeD
  split
  · rename_i h
    simp only [Bool.and_eq_true] at h
    have := okD_ps h.1.1
    split
    · exact fits_zero
    · split
      · exact fits_zero
      · exact ⟨hd.1, by simp; omega⟩
  · exact fits_zero
theorem fits_sync (d : Dk) (hd : d.fits) : (syncD d).1.fits := by
  unfold syncD
  obtain ⟨h1, h2⟩ := hd
  split
  · split
    · split <;> exact ⟨by simp; omega, by simp⟩
    · exact ⟨by simp; omega, by simp⟩
  · exact fits_zero
theorem fits_stop (d : Dk) (hd : d.fits) (left : Int) : (stopD d left).1.fits := by
  unfold stopD
  split
  · split
    · exact fits_zero
    · exact hd
  · exact fits_zero
theorem law_DiskNewSpec (n : Int) (d : Dk) (hd : d.fits) : FnWp Try.prog 3 [.int .i64 n, encD d] (· = .ret (.bool true)) := by
  refine FnWp.intro' Try.func3 rfl (by simp [Try.ntmps3]) fun E hE => ?_
  refine DWp.reg false fun k hk => ?_
  simp
  refine hk _ ?_
  refine DWp.seqK fun k1 hk1 => ?_
  refine DWp.reg false fun k hk => ?_
  simp
  refine CallAt.det false ent10 rfl (sane_c) ?_
  try simp
  refine hk _ ?_
  refine DWp.condB ?_
  simp
  refine DWp.skip ?_
  refine hk1 _ ?_
  refine DWp.seqK fun k2 hk2 => ?_
  refine DWp.reg false fun k hk => ?_
  simp
  refine CallAtG.det false ent11 rfl (fun _ => refFew_c d hd) ?_
  try simp
  refine hk _ ?_
  refine DWp.condB ?_
  simp
  refine ⟨fun hT1 => ?_, fun hF1 => ?_⟩
  · simp [Tt] at hT1
    refine DWp.reg false fun k hk => ?_
    simp
    refine hk _ ?_
    refine DWp.ret (hE _ ?_).2
    simp
  · simp [Ff] at hF1
    refine DWp.skip ?_
    refine hk2 _ ?_
    have hf := fits_new n
    refine DWp.reg false fun k hk => ?_
    simp
    refine CallAt.det false ent12 rfl (new_c n) ?_
    try simp
    refine hk _ ?_
    refine DWp.reg false fun k hk => ?_
    simp
    refine CallAt.det false ent13 rfl (refNew_c n) ?_
    try simp
    refine hk _ ?_
    refine DWp.drawPR false (.take 0 (.take 1 (.take 2 (.take 3 (.take 4 (.take 5 (.take 6 (.take 7 (.take 8 (.take 9 (.take 10 (.take 11 (.take 12 (.take 13 (.take 14 (.take 15 (.take 16 (.take 17 (.take 18 (.take 19 (.take 20 (.take 21 (.take 22 .done))))))))))))))))))))))) mixed (by kernel_rfl) fun k hk => ?_
    simp
    refine DetCall.intro ent14 rfl (fun _ => refSame_c (newD n).1 (newD n).1 hf) ?_
    try simp
    refine DetCall.intro ent15 rfl (fun _ => check_c d hd) ?_
    try simp
    refine DetCall.intro ent16 rfl (fun _ => refCheck_c d hd) ?_
    try simp
    refine DetCall.intro ent17 rfl (fun _ => restart_c d) ?_
    try simp
    refine DetCall.intro ent18 rfl (fun _ => refRestart_c d) ?_
    try simp
    refine DetCall.intro ent14 rfl (fun _ => refSame_c ⟨d.ss, [], -1, false⟩ ⟨d.ss, [], -1, false⟩ ⟨hd.1, by simp⟩) ?_
    try simp
    refine hk _ ?_
    refine DWp.ret (hE _ ?_).2
    simp
theorem law_DiskWriteSpec (d : Dk) (hd : d.fits) (at' : Int) (b : List UInt8) (hb : b.length ≤ 140737488355328) : FnWp Try.prog 4 [encD d, .int .i64 at', encB b] (· = .ret (.bool true)) := by
  refine FnWp.intro' Try.func4 rfl (by simp [Try.ntmps4]) fun E hE => ?_
  refine DWp.reg false fun k hk => ?_
  simp
  refine hk _ ?_
  refine DWp.seqK fun k1 hk1 => ?_
  refine DWp.reg false fun k hk => ?_
  simp
  refine CallAt.det false ent10 rfl (sane_c) ?_
  try simp
  refine hk _ ?_
  refine DWp.condB ?_
  simp
  refine DWp.skip ?_
  refine hk1 _ ?_
  refine DWp.seqK fun k2 hk2 => ?_
  refine DWp.reg false fun k hk => ?_
  simp
  refine CallAt.det false ent11 rfl (refFew_c d hd) ?_
  try simp
  refine hk _ ?_
  refine DWp.condB ?_
  simp
  refine ⟨fun hT1 => ?_, fun hF1 => ?_⟩
  · simp [Tt] at hT1
    refine DWp.reg false fun k hk => ?_
    simp
    refine hk _ ?_
    refine DWp.ret (hE _ ?_).2
    simp
  · simp [Ff] at hF1
    refine DWp.skip ?_
    refine hk2 _ ?_
    refine DWp.reg false fun k hk => ?_
    simp
    refine CallAt.det false ent19 rfl (write_c d hd at' b) ?_
    try simp
    refine hk _ ?_
    refine DWp.reg false fun k hk => ?_
    simp
    refine CallAt.det false ent20 rfl (refWrite_c d hd at' b) ?_
    try simp
    refine hk _ ?_
    refine DWp.reg false fun k hk => ?_
    simp
    refine CallAt.det false ent21 rfl (read_c d hd at') ?_
    try simp
    refine hk _ ?_
    refine DWp.reg false fun k hk => ?_
    simp
    refine CallAt.det false ent22 rfl (refRead_c d hd at') ?_
    try simp
    refine hk _ ?_
    refine DWp.reg false fun k hk => ?_
    simp [isBytes_map, bytesOf_map]
    refine CallAt.det false ent14 rfl (refSame_c (writeD d at' b).1 (writeD d at' b).1 (fits_write d hd at' b)) ?_
    try simp
    refine hk _ ?_
    refine DWp.ret (hE _ ?_).2
    simp
theorem law_DiskSyncSpec (d : Dk) (hd : d.fits) (left : Int) : FnWp Try.prog 5 [encD d, .int .i64 left] (· = .ret (.bool true)) := by
  refine FnWp.intro' Try.func5 rfl (by simp [Try.ntmps5]) fun E hE => ?_
  refine DWp.reg false fun k hk => ?_
  simp
  refine hk _ ?_
  refine DWp.seqK fun k1 hk1 => ?_
  refine DWp.reg false fun k hk => ?_
  simp
  refine CallAt.det false ent10 rfl (sane_c) ?_
  try simp
  refine hk _ ?_
  refine DWp.condB ?_
  simp
  refine DWp.skip ?_
  refine hk1 _ ?_
  refine DWp.seqK fun k2 hk2 => ?_
  refine DWp.reg false fun k hk => ?_
  simp
  refine CallAt.det false ent11 rfl (refFew_c d hd) ?_
  try simp
  refine hk _ ?_
  refine DWp.condB ?_
  simp
  refine ⟨fun hT1 => ?_, fun hF1 => ?_⟩
  · simp [Tt] at hT1
    refine DWp.reg false fun k hk => ?_
    simp
    refine hk _ ?_
    refine DWp.ret (hE _ ?_).2
    simp
  · simp [Ff] at hF1
    refine DWp.skip ?_
    refine hk2 _ ?_
    refine DWp.reg false fun k hk => ?_
    simp
    refine CallAt.det false ent23 rfl (sync_c d hd) ?_
    try simp
    refine hk _ ?_
    refine DWp.reg false fun k hk => ?_
    simp
    refine CallAt.det false ent24 rfl (refSync_c d hd) ?_
    try simp
    refine hk _ ?_
    refine DWp.reg false fun k hk => ?_
    simp
    refine CallAt.det false ent25 rfl (stop_c d hd left) ?_
    try simp
    refine hk _ ?_
    refine DWp.reg false fun k hk => ?_
    simp
    refine CallAt.det false ent26 rfl (refStop_c d hd left) ?_
    try simp
    refine hk _ ?_
    refine DWp.reg false fun k hk => ?_
    simp
    refine CallAt.det false ent14 rfl (refSame_c (syncD d).1 (syncD d).1 (fits_sync d hd)) ?_
    try simp
    refine CallAtG.det false ent14 rfl (fun _ => refSame_c (stopD d left).1 (stopD d left).1 (fits_stop d hd left)) ?_
    try simp
    refine hk _ ?_
    refine DWp.ret (hE _ ?_).2
    simp
end Go.Bf
