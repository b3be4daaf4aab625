/-
  The law on stopped disks. Printed by program (x19.py). Nothing is claimed here.
-/
import Derived.Test.YtmejdolknkjjdaaBfX17
set_option maxRecDepth 100000
set_option maxHeartbeats 4000000
namespace Go.Bf
open Go Go.RowKit Go.Proofs Go.IntWalk
attribute [local simp] encB rowL rowW encSs encPs encD maxLen isBytes_map bytesOf_map
theorem law_DiskStopped (d : Dk) (hd : d.fits) (a l : Int) (b : List UInt8) : FnWp Try.prog 9 [encD d, .int .i64 a, .int .i64 l, encB b] (· = .ret (.bool true)) := by
  refine FnWp.intro' Try.func9 rfl (by simp [Try.ntmps9]) fun E hE => ?_
  refine DWp.reg false fun k hk => ?_
  simp
  refine hk _ ?_
  refine DWp.seqK fun k1 hk1 => ?_
  refine DWp.reg false fun k hk => ?_
  simp
  refine CallAt.det false ent10 rfl (sane_c) ?_
  try simp
  refine hk _ ?_
  refine DWp.condB ?_
  simp
  refine DWp.skip ?_
  refine hk1 _ ?_
  refine DWp.seqK fun k2 hk2 => ?_
  refine DWp.reg false fun k hk => ?_
  simp
  refine CallAt.det false ent11 rfl (refFew_c d hd) ?_
  try simp
  refine hk _ ?_
  refine DWp.condB ?_
  simp
  refine ⟨fun hT1 => ?_, fun hF1 => ?_⟩
  · simp [Tt] at hT1
    refine DWp.reg false fun k hk => ?_
    simp
    refine hk _ ?_
    refine DWp.ret (hE _ ?_).2
    simp
  · simp [Ff] at hF1
    refine DWp.skip ?_
    refine hk2 _ ?_
    refine DWp.reg false fun k hk => ?_
    simp
    refine CallAt.det false ent17 rfl (restart_c d) ?_
    try simp
    refine hk _ ?_
    refine DWp.reg false fun k hk => ?_
    simp
    refine CallAt.det false ent17 rfl (restart_c ⟨d.ss, [], -1, false⟩) ?_
    try simp
    refine hk _ ?_
    refine DWp.seqK fun k3 hk3 => ?_
    refine DWp.reg false fun k hk => ?_
    simp
    refine CallAtG.det false ent14 rfl (fun _ => refSame_c ⟨d.ss, [], -1, false⟩ ⟨d.ss, [], -1, false⟩ ⟨hd.1, by simp⟩) ?_
    try simp
    refine hk _ ?_
    refine DWp.condB ?_
    simp
    refine DWp.skip ?_
    refine hk3 _ ?_
    refine DWp.seqK fun k4 hk4 => ?_
    refine DWp.reg false fun k hk => ?_
    simp
    refine hk _ ?_
    refine DWp.block ?_
    refine DWp.loopK (fun i : Nat => Know.of 121 [(1, .d (.int .i64 a)), (2, .d (.int .i64 l)), (3, .d (encB b)), (4, .loc 0 0), (9, .loc 1 0), (11, .d (.int .i64 i))] [(25, [.d (encSs d.ss), .d (encPs d.ps), .d (.int .i64 d.left), .d (.bool d.st)]), (25, [.d (encSs d.ss), .d (.list []), .d (.int .i64 (-1)), .d (.bool false)])])
      (fun i => i ≤ d.ss.length) (fun i => d.ss.length - i) 0 (Sub.of [0, 1] ⟨rfl, rfl, by simp, by simp, by simp, by simp⟩) (by simp) ?_
    rintro i hi kl5 hkl5
    refine DWp.seqK fun k6 hk6 => ?_
    refine DWp.reg false fun k hk => ?_
    simp
    refine hk _ ?_
    refine DWp.condB ?_
    simp
    refine ⟨fun hT3 => ?_, fun hF3 => ?_⟩
    · simp [Tt] at hT3
      refine DWp.skip ?_
      refine hk6 _ ?_
      refine DWp.seqK fun k7 hk7 => ?_
      refine DWp.block ?_
      refine DWp.drawPR false (.take 0 (.take 1 (.take 2 (.take 3 (.take 4 (.take 5 (.take 6 (.take 7 (.take 8 (.take 9 (.take 10 (.take 11 (.take 12 .done))))))))))))) mixed (by kernel_rfl) fun k hk => ?_
      simp [hT3]
      refine hk _ ?_
      refine DWp.condB ?_
      simp
      refine DWp.skip ?_
      refine hk7 _ ?_
      refine DWp.regionV false ?_
      simp
      rw [i64_in _ (by have := hd.1; omega)]
      refine hkl5 _ (i + 1) (by omega) (by omega) (Sub.of [0, 1] ⟨rfl, rfl, by simp, by simp, by simp, by simp⟩)
    · simp [Ff] at hF3
      refine DWp.exit ?_
      simp
      refine hk4 _ ?_
      refine DWp.reg false fun k hk => ?_
      simp
      refine hk _ ?_
      refine DWp.reg false fun k hk => ?_
      simp
      refine CallAt.det false ent21 rfl (read_c ⟨d.ss, d.ps, d.left, true⟩ hd a) ?_
      try simp
      refine hk _ ?_
      refine DWp.reg false fun k hk => ?_
      simp
      refine CallAt.det false ent19 rfl (write_c ⟨d.ss, d.ps, d.left, true⟩ hd a b) ?_
      try simp
      refine hk _ ?_
      refine DWp.reg false fun k hk => ?_
      simp
      refine CallAt.det false ent23 rfl (sync_c ⟨d.ss, d.ps, d.left, true⟩ hd) ?_
      try simp
      refine hk _ ?_
      refine DWp.reg false fun k hk => ?_
      simp
      refine CallAt.det false ent25 rfl (stop_c ⟨d.ss, d.ps, d.left, true⟩ hd l) ?_
      try simp
      refine hk _ ?_
      refine DWp.reg false fun k hk => ?_
      simp
      refine hk _ ?_
      refine DWp.ret (hE _ ?_).2
      simp [readD, writeD, syncD, stopD]
end Go.Bf
