/-
  The journal's laws: few, the chapter's examples, Append. Printed by program (j9.py). Nothing is claimed here.
-/
import Derived.Test.YtmkgmmgfjibjmaaBfJ8
set_option maxRecDepth 100000
set_option maxHeartbeats 8000000
namespace Go.Bf
open Go Go.RowKit Go.Proofs Go.IntWalk
attribute [local simp] encB rowL rowW encSs encPs encD maxLen isBytes_map bytesOf_map encJ
def fewN (l : List (List UInt8)) : Int := l.foldl (fun n b => IntKind.i64.wrap (n + IntKind.i64.wrap (1 + b.length))) 0
def fewJ (d : Dk) (l : List (List UInt8)) : Bool := decide (d.ss.length ≤ 40) && decide (d.ps.length ≤ 40) && decide (fewN l ≤ 4000)
theorem fewN_succ (l : List (List UInt8)) (i : Nat) (h : i < l.length) : fewN (l.take (i + 1)) = IntKind.i64.wrap (fewN (l.take i) + IntKind.i64.wrap (1 + (l[i].length : Int))) := by
  rw [List.take_succ_eq_append_getElem h]; simp only [fewN, List.foldl_append, List.foldl_cons, List.foldl_nil]
def sD : Dk := (newD 1).1
def sL : Jn := (openD sD).1
def sX : Jn := (appendJ sL [97, 98]).1
def sY : Jn := (jsyncD sX sD).1
def sC : Dk := (jsyncD sX sD).2.1
def sZ : Jn := (openD sC).1
def z113 : List UInt8 := List.replicate 113 0
theorem z113_rows : repl 113 [DV.int IntKind.u8 0] = z113.map rowB := by
  rw [z113, List.map_replicate]; rfl
theorem fitsC {d : Dk} (h : (decide (d.ss.length ≤ 140737488355328) && decide (d.ps.length ≤ 140737488355328)) = true) : d.fits := by simpa [Dk.fits] using h
theorem fitLC {l : List (List UInt8)} (h : (decide (l.length ≤ 5864062014634) && l.all fun b => decide (b.length ≤ 140737488355328)) = true) : FitL l := by simpa [FitL] using h
theorem e_b2 : bytesOf [rowB 97, rowB 98] = [97, 98] := bytesOf_map [97, 98]
theorem e_is : IsBytes [rowB 97, rowB 98] := isBytes_map [97, 98]
theorem e_new : newD 1 = (sD, 0) := rfl
theorem e_open : openD sD = (sL, 0) := by kernel_rfl
theorem e_lr : sL.recs = [] := by kernel_rfl
theorem e_113 : appendJ sL z113 = (zeroJ, 2) := by kernel_rfl
theorem e_x : appendJ sL [97, 98] = (sX, 0) := by kernel_rfl
theorem e_y : jsyncD sX sD = (sY, sC, 0) := by decide +kernel
theorem e_ys : sY.synced = 1 := by decide +kernel
theorem e_z : openD sC = (sZ, 0) := by decide +kernel
theorem e_zr : sZ.recs = [[97, 98]] := by decide +kernel
theorem e_m : jsyncD sX sC = (zeroJ, zeroD, 450) := by decide +kernel
theorem e_room : roomJ sL = 112 := by kernel_rfl
theorem e_ok0 : okJ zeroJ = false := by kernel_rfl
theorem e_fd : sD.fits := fitsC (by decide +kernel)
theorem e_fc : sC.fits := fitsC (by decide +kernel)
theorem e_fl : FitL sL.recs := fitLC (by decide +kernel)
theorem e_fx : FitL sX.recs := fitLC (by decide +kernel)
theorem e_ux : usedN sX.recs < 4611686018427387904 := by decide +kernel
theorem ent10 : Enters Try.prog 10 := enters_of Try.func10 rfl rfl
theorem ent9 : Enters Try.prog 9 := enters_of Try.func9 rfl rfl
theorem few_c (d : Dk) (l : List (List UInt8)) (hl : l.length ≤ 140737488355328) (_ : ∀ b ∈ l, b.length ≤ 140737488355328) : FnWp Try.prog 10 [encD d, encSs l] (· = .ret (.bool (fewJ d l))) := by
  refine FnWp.intro' Try.func10 rfl (by simp [Try.ntmps10]) fun E hE => ?_
  refine DWp.reg false fun kk hk => ?_
  simp
  refine hk _ ?_
  refine DWp.reg false fun kk hk => ?_
  simp
  refine hk _ ?_
  refine DWp.seqK fun k1 hk1 => ?_
  refine DWp.reg false fun kk hk => ?_
  simp
  refine hk _ ?_
  refine DWp.block ?_
  refine DWp.loopK (fun i : Nat => Know.of 34 [(2, .loc 0 0), (5, .d (.int .i64 (fewN (l.take i)))), (8, .d (encSs l)), (9, .d (.int .i64 l.length)), (10, .d (.int .i64 i))] [(25, [.d (encSs d.ss), .d (encPs d.ps), .d (.int .i64 d.left), .d (.bool d.st)])])
    (fun i => i ≤ l.length) (fun i => l.length - i) 0 (Sub.of [0] ⟨rfl, rfl, by simp, by simp, by simp [fewN], by simp⟩) (by simp) ?_
  rintro i hi kl2 hkl2
  refine DWp.reg false fun kk hk => ?_
  simp
  refine hk _ ?_
  refine DWp.seqK fun k3 hk3 => ?_
  refine DWp.condB ?_
  simp
  refine ⟨fun hT0 => ?_, fun hF0 => ?_⟩
  · simp [Tt] at hT0
    have hlt : i < l.length := by omega
    refine DWp.skip ?_
    refine hk3 _ ?_
    refine DWp.seqK fun k4 hk4 => ?_
    refine DWp.block ?_
    refine DWp.reg false fun kk hk => ?_
    simp [hlt]
    refine hk _ ?_
    refine DWp.regionV false ?_
    simp
    refine hk4 _ ?_
    refine DWp.regionV false ?_
    simp
    rw [i64_in ((i : Int) + 1) (by omega)]
    refine hkl2 _ (i + 1) (by omega) (by omega) (Sub.of [0] ⟨rfl, rfl, by simp, by simp, by simp [fewN_succ l i hlt], by simp⟩)
  · simp [Ff] at hF0
    obtain rfl : i = l.length := by omega
    refine DWp.exit ?_
    simp
    refine hk1 _ ?_
    refine DWp.reg false fun kk hk => ?_
    simp
    refine hk _ ?_
    refine DWp.ret (hE _ ?_).2
    simp [fewJ, Bool.and_assoc]
    rw [decide_eq_decide.2 (show (d.ss.length : Int) ≤ 40 ↔ d.ss.length ≤ 40 by omega), decide_eq_decide.2 (show (d.ps.length : Int) ≤ 40 ↔ d.ps.length ≤ 40 by omega)]
theorem jsane_c  : FnWp Try.prog 9 [] (· = .ret (.bool true)) := by
  refine FnWp.intro' Try.func9 rfl (by simp [Try.ntmps9]) fun E hE => ?_
  refine DWp.reg false fun kk hk => ?_
  simp
  refine hk _ ?_
  refine DWp.reg false fun kk hk => ?_
  simp
  refine CallAt.det false ent21 rfl (new_c 1) ?_
  rw [e_new]
  simp
  refine hk _ ?_
  refine DWp.reg false fun kk hk => ?_
  simp
  refine CallAt.det false ent11 rfl (open_c sD e_fd) ?_
  rw [e_open]
  simp
  refine hk _ ?_
  refine DWp.drawPR true [] (.take 0 (.take 1 (.take 2 (.take 3 (.take 4 (.take 5 (.take 6 (.take 7 (.take 8 .done))))))))) mixed (by kernel_rfl) fun kk hk => ?_
  simp [z113_rows]
  refine DetCall.intro ent14 rfl (fun _ => jappend_c sL e_fl z113 (by simp [z113])) ?_
  rw [e_113]
  simp
  refine hk _ ?_
  refine DWp.regMark false 2 fun kk hk k2 hk2 => ?_
  simp
  refine hk2 _ ?_
  refine OpsWp.convMark rfl Try.underlying35 Try.underlying5 rfl (by simp) rfl rfl rfl rfl ?_
  refine VCops_sound (im := false) _ _ ?_
  simp
  refine CallAt.det false ent14 rfl (jappend_c sL e_fl [97, 98] (by simp)) ?_
  rw [e_x]
  simp
  refine hk _ ?_
  refine DWp.reg false fun kk hk => ?_
  simp
  refine CallAt.det false ent22 rfl (jsync_c sX e_fx sD e_fd e_ux) ?_
  rw [e_y]
  simp
  refine hk _ ?_
  refine DWp.reg false fun kk hk => ?_
  simp
  refine CallAt.det false ent11 rfl (open_c sC e_fc) ?_
  rw [e_z]
  simp
  refine hk _ ?_
  refine DWp.reg false fun kk hk => ?_
  simp
  refine CallAt.det false ent22 rfl (jsync_c sX e_fx sC e_fc e_ux) ?_
  rw [e_m]
  simp
  refine hk _ ?_
  refine DWp.reg false fun kk hk => ?_
  simp [e_lr, e_ys, e_zr]
  try simp only [e_is, true_and]
  refine CallAtG.det false ent18 rfl (fun _ => jroom_c sL e_fl) ?_
  rw [e_room]
  simp
  try refine ⟨e_is, ?_⟩
  refine CallAtG.det false ent16 rfl (fun _ => jcheck_c zeroJ (fitLC rfl)) ?_
  rw [e_ok0]
  simp
  refine hk _ ?_
  refine DWp.ret (hE _ ?_).2
  simp [e_b2]
end Go.Bf
