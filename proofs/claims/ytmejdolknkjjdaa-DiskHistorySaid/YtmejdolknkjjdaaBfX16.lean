/-
  The disk's laws: the chapter's examples. Printed by program (x16.py). Nothing is claimed here.
-/
import Derived.Test.YtmejdolknkjjdaaBfX15
set_option maxRecDepth 100000
set_option maxHeartbeats 4000000
namespace Go.Bf
open Go Go.RowKit Go.Proofs Go.IntWalk
attribute [local simp] encB rowL rowW encSs encPs encD maxLen
theorem ent27 : Enters Try.prog 27 := enters_of Try.func27 rfl rfl
def sD : Dk := (newD 2).1
def sW : Dk := (writeD sD 1 [7]).1
def sS : Dk := (stopD sW 1).1
def sT : Dk := (writeD sS 0 (sect 8)).1
def sX : Dk := (syncD sT).1
def sB : List UInt8 := (readD sW 1).1
def sR : Dk := ⟨sX.ss, [], -1, false⟩
def sQ : Dk := ⟨sW.ss, [], -1, false⟩
def sOne : List UInt8 := (readD sR 1).1
def sNone : List UInt8 := (readD sR 0).1
def sLost : List UInt8 := (readD sQ 1).1
def z129 : List UInt8 := List.replicate 129 0
theorem z129_rows : repl 129 [DV.int IntKind.u8 0] = z129.map rowB := by
  rw [z129, List.map_replicate]; rfl
theorem fitsC {d : Dk} (h : (decide (d.ss.length ≤ 140737488355328) && decide (d.ps.length ≤ 140737488355328)) = true) : d.fits := by simpa [Dk.fits] using h
theorem e_new0 : newD 0 = (zeroD, 1) := rfl
theorem e_new2 : newD 2 = (sD, 0) := rfl
theorem e_w : writeD sD 1 [7] = (sW, 0) := by kernel_rfl
theorem e_b : readD sW 1 = (sB, 0) := by kernel_rfl
theorem e_r2 : readD sD 2 = ([], 440) := by kernel_rfl
theorem e_w129 : writeD sD 0 z129 = (zeroD, 1) := by kernel_rfl
theorem e_s : stopD sW 1 = (sS, 0) := by kernel_rfl
theorem e_t : writeD sS 0 (sect 8) = (sT, 0) := by kernel_rfl
theorem e_x : syncD sT = (sX, 440) := by kernel_rfl
theorem e_xst : sX.st = true := by kernel_rfl
theorem e_one : readD sR 1 = (sOne, 0) := by kernel_rfl
theorem e_none : readD sR 0 = (sNone, 0) := by kernel_rfl
theorem e_lost : readD sQ 1 = (sLost, 0) := by kernel_rfl
theorem e_len : sB.length = 128 ∧ sOne.length = 128 ∧ sNone.length = 128 ∧ sLost.length = 128 := ⟨by kernel_rfl, by kernel_rfl, by kernel_rfl, by kernel_rfl⟩
theorem e_a0 (h : 0 < sB.length) : sB[0] = 7 := by
  have : sB[0]? = some 7 := by kernel_rfl
  simpa [List.getElem?_eq_getElem h] using this
theorem e_a1 (h : 0 < sOne.length) : sOne[0] = 7 := by
  have : sOne[0]? = some 7 := by kernel_rfl
  simpa [List.getElem?_eq_getElem h] using this
theorem e_a2 (h : 0 < sNone.length) : sNone[0] = 8 := by
  have : sNone[0]? = some 8 := by kernel_rfl
  simpa [List.getElem?_eq_getElem h] using this
theorem e_a3 (h : 64 < sNone.length) : sNone[64] = 0 := by
  have : sNone[64]? = some 0 := by kernel_rfl
  simpa [List.getElem?_eq_getElem h] using this
theorem e_a4 (h : 0 < sLost.length) : sLost[0] = 0 := by
  have : sLost[0]? = some 0 := by kernel_rfl
  simpa [List.getElem?_eq_getElem h] using this
theorem e_ok0 : okD zeroD = false := by kernel_rfl
theorem sane_c  : FnWp Try.prog 10 [] (· = .ret (.bool true)) := by
  refine FnWp.intro' Try.func10 rfl (by simp [Try.ntmps10]) fun E hE => ?_
  refine DWp.reg false fun k hk => ?_
  simp
  refine hk _ ?_
  refine DWp.reg false fun k hk => ?_
  simp
  refine CallAt.det false ent12 rfl (new_c 0) ?_
  rw [e_new0]
  simp
  refine hk _ ?_
  refine DWp.reg false fun k hk => ?_
  simp
  refine CallAt.det false ent12 rfl (new_c 2) ?_
  rw [e_new2]
  simp
  refine hk _ ?_
  refine DWp.reg true fun k hk => ?_
  simp
  refine CallAt.det false ent19 rfl (write_c sD (fitsC (by kernel_rfl)) 1 [7]) ?_
  rw [e_w]
  simp
  refine hk _ ?_
  refine DWp.reg false fun k hk => ?_
  simp
  refine CallAt.det false ent21 rfl (read_c sW (fitsC (by kernel_rfl)) 1) ?_
  rw [e_b]
  simp
  refine hk _ ?_
  refine DWp.reg false fun k hk => ?_
  simp
  refine CallAt.det false ent21 rfl (read_c sD (fitsC (by kernel_rfl)) 2) ?_
  rw [e_r2]
  simp
  refine hk _ ?_
  refine DWp.drawPR true (.take 0 (.take 1 (.take 2 (.take 3 (.take 4 (.take 5 (.take 6 (.take 7 (.take 8 .done))))))))) mixed (by kernel_rfl) fun k hk => ?_
  simp [z129_rows]
  refine DetCall.intro ent19 rfl (fun _ => write_c sD (fitsC (by kernel_rfl)) 0 z129) ?_
  rw [e_w129]
  simp
  refine hk _ ?_
  refine DWp.reg false fun k hk => ?_
  simp
  refine CallAt.det false ent25 rfl (stop_c sW (fitsC (by kernel_rfl)) 1) ?_
  rw [e_s]
  simp
  refine hk _ ?_
  refine DWp.drawPR false (.take 0 (.take 1 (.take 2 (.take 3 (.take 4 (.take 5 (.take 6 (.take 7 .done)))))))) mixed (by kernel_rfl) fun k hk => ?_
  simp
  refine DetCall.intro ent27 rfl (fun _ => double_c 8) ?_
  simp
  refine DetCall.intro ent19 rfl (fun _ => write_c sS (fitsC (by kernel_rfl)) 0 (sect 8)) ?_
  rw [e_t]
  simp
  refine hk _ ?_
  refine DWp.reg false fun k hk => ?_
  simp
  refine CallAt.det false ent23 rfl (sync_c sT (fitsC (by kernel_rfl))) ?_
  rw [e_x]
  simp
  refine hk _ ?_
  refine DWp.seqK fun k1 hk1 => ?_
  refine DWp.reg false fun k hk => ?_
  simp [e_xst]
  refine hk _ ?_
  refine DWp.condB ?_
  simp
  refine DWp.skip ?_
  refine hk1 _ ?_
  refine DWp.reg false fun k hk => ?_
  simp
  refine CallAt.det false ent17 rfl (restart_c sX) ?_
  simp
  refine hk _ ?_
  refine DWp.reg false fun k hk => ?_
  simp
  refine CallAt.det false ent21 rfl (read_c sR (fitsC (by kernel_rfl)) 1) ?_
  rw [e_one]
  simp
  refine hk _ ?_
  refine DWp.reg false fun k hk => ?_
  simp
  refine CallAt.det false ent21 rfl (read_c sR (fitsC (by kernel_rfl)) 0) ?_
  rw [e_none]
  simp
  refine hk _ ?_
  refine DWp.reg false fun k hk => ?_
  simp
  refine CallAt.det false ent17 rfl (restart_c sW) ?_
  simp
  refine CallAt.det false ent21 rfl (read_c sQ (fitsC (by kernel_rfl)) 1) ?_
  rw [e_lost]
  simp
  refine hk _ ?_
  refine DWp.reg false fun k hk => ?_
  simp [e_len, e_a0, e_a1, e_a2, e_a3, e_a4, cB, rowB]
  refine CallAtG.det false ent15 rfl (fun _ => check_c zeroD (fitsC (by kernel_rfl))) ?_
  rw [e_ok0]
  simp
  refine CallAtG.det false ent17 rfl (fun _ => restart_c zeroD) ?_
  simp
  refine hk _ ?_
  refine DWp.ret (hE _ ?_).2
  simp
end Go.Bf
