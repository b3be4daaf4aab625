/-
  The journal: small functions. Printed by program (j1.py). Nothing is claimed here.
-/
import Derived.Test.YtmkgmmgfjibjmaaBfX14
set_option maxRecDepth 100000
set_option maxHeartbeats 4000000
namespace Go.Bf
open Go Go.RowKit Go.Proofs Go.IntWalk
attribute [local simp] encB rowL rowW encSs encPs encD maxLen isBytes_map bytesOf_map
structure Jn where
  many : Int
  synced : Int
  recs : List (List UInt8)
deriving instance DecidableEq for Jn
def encJ (j : Jn) : DV := .agg [.int .i64 j.many, .int .i64 j.synced, encSs j.recs]
attribute [local simp] encJ
theorem jn_dec (a b : Jn) : (decide (a.many = b.many) && decide (a.synced = b.synced) && decide (a.recs = b.recs)) = decide (a = b) := by
  rw [Bool.eq_iff_iff]
  simp
  constructor
  · rintro ⟨⟨h1, h2⟩, h3⟩
    cases a; cases b
    simp at h1 h2 h3
    subst h1; subst h2; subst h3; rfl
  · rintro rfl; simp
def secD (n : Nat) : Nat := max 1 ((n + 111) / 112)
def usedW (l : List (List UInt8)) : Int := l.foldl (fun n b => IntKind.i64.wrap (n + secD b.length)) 0
def okJ (j : Jn) : Bool := !(decide (j.many < 1) || decide (4096 < j.many) || decide (j.synced < 0) || decide ((j.recs.length : Int) < j.synced) || decide (j.many < usedW j.recs))
def leftJ (j : Jn) : Int := IntKind.i64.wrap (j.many - usedW j.recs)
def roomJ (j : Jn) : Int := if okJ j then IntKind.i64.wrap (112 * leftJ j) else 0
def zeroJ : Jn := ⟨0, 0, []⟩
def appendJ (j : Jn) (b : List UInt8) : Jn × Int := if okJ j then (if leftJ j < secD b.length then (zeroJ, 2) else ({ j with recs := j.recs ++ [b] }, 0)) else (zeroJ, 1)
/-- No record is too long to be there. -/
def FitL (l : List (List UInt8)) : Prop := l.length ≤ 5864062014634 ∧ ∀ b ∈ l, b.length ≤ 140737488355328
theorem sec_int (n : Nat) (h : n ≤ 140737488355328) : (if Int.tdiv ((n : Int) + 112 - 1) 112 > 1 then Int.tdiv ((n : Int) + 112 - 1) 112 else 1) = (secD n : Int) := by
  have : Int.tdiv ((n : Int) + 112 - 1) 112 = (((n + 111) / 112 : Nat) : Int) := by
    rw [Int.tdiv_eq_ediv_of_nonneg (by omega)]; omega
  rw [this, secD]
  split <;> omega
theorem secD_le (n : Nat) (h : n ≤ 140737488355328) : secD n ≤ 1256584717460 := by unfold secD; omega
theorem usedW_succ (l : List (List UInt8)) (i : Nat) (h : i < l.length) : usedW (l.take (i + 1)) = IntKind.i64.wrap (usedW (l.take i) + secD l[i].length) := by
  rw [List.take_succ_eq_append_getElem h]; simp only [usedW, List.foldl_append, List.foldl_cons, List.foldl_nil]
theorem ent33 : Enters Try.prog 33 := enters_of Try.func33 rfl rfl
theorem ent34 : Enters Try.prog 34 := enters_of Try.func34 rfl rfl
theorem ent16 : Enters Try.prog 16 := enters_of Try.func16 rfl rfl
theorem ent14 : Enters Try.prog 14 := enters_of Try.func14 rfl rfl
theorem ent18 : Enters Try.prog 18 := enters_of Try.func18 rfl rfl
theorem ent37 : Enters Try.prog 37 := enters_of Try.func37 rfl rfl
theorem ent38 : Enters Try.prog 38 := enters_of Try.func38 rfl rfl
theorem ent17 : Enters Try.prog 17 := enters_of Try.func17 rfl rfl
theorem ent19 : Enters Try.prog 19 := enters_of Try.func19 rfl rfl
theorem ent15 : Enters Try.prog 15 := enters_of Try.func15 rfl rfl
theorem ent20 : Enters Try.prog 20 := enters_of Try.func20 rfl rfl
theorem ent13 : Enters Try.prog 13 := enters_of Try.func13 rfl rfl
theorem ent35 : Enters Try.prog 35 := enters_of Try.func35 rfl rfl
theorem clipL_c (ss : List (List UInt8)) : FnWp Try.prog 35 [encSs ss] (· = .clip (ss.map rowL)) := by
  refine FnWp.intro' Try.func35 rfl (by simp [Try.ntmps35]) fun E hE => ?_
  refine DWp.reg false fun kk hk => ?_
  simp
  refine hk _ ?_
  refine DWp.reg false fun kk hk => ?_
  simp
  refine hk _ ?_
  refine DWp.ret (hE _ ?_).2
  simp
theorem sectors_c (b : List UInt8) (hb : b.length ≤ 140737488355328) : FnWp Try.prog 33 [encB b] (· = .ret (.int .i64 (secD b.length))) := by
  refine FnWp.intro' Try.func33 rfl (by simp [Try.ntmps33]) fun E hE => ?_
  refine DWp.reg false fun kk hk => ?_
  simp
  refine hk _ ?_
  refine DWp.reg false fun kk hk => ?_
  simp
  rw [i64_in ((b.length : Int) + 112) (by omega), i64_in ((b.length : Int) + 112 - 1) (by omega)]
  have hq := sec_int b.length hb
  rw [i64_in (Int.tdiv ((b.length : Int) + 112 - 1) 112) (by rw [Int.tdiv_eq_ediv_of_nonneg (by omega)]; omega)]
  rw [hq]
  refine hk _ ?_
  refine DWp.ret (hE _ ?_).2
  simp
theorem refSectors_c (b : List UInt8) (hb : b.length ≤ 140737488355328) : FnWp Try.prog 37 [.int .i64 b.length] (· = .ret (.int .i64 (secD b.length))) := by
  refine FnWp.intro' Try.func37 rfl (by simp [Try.ntmps37]) fun E hE => ?_
  refine DWp.reg false fun kk hk => ?_
  simp
  refine hk _ ?_
  refine DWp.reg false fun kk hk => ?_
  simp
  rw [i64_in ((b.length : Int) + 112) (by omega), i64_in ((b.length : Int) + 112 - 1) (by omega)]
  have hq := sec_int b.length hb
  rw [i64_in (Int.tdiv ((b.length : Int) + 112 - 1) 112) (by rw [Int.tdiv_eq_ediv_of_nonneg (by omega)]; omega)]
  rw [hq]
  refine hk _ ?_
  refine DWp.ret (hE _ ?_).2
  simp
theorem used_c (l : List (List UInt8)) (hl : FitL l) : FnWp Try.prog 34 [encSs l] (· = .ret (.int .i64 (usedW l))) := by
  refine FnWp.intro' Try.func34 rfl (by simp [Try.ntmps34]) fun E hE => ?_
  refine DWp.reg false fun kk hk => ?_
  simp
  refine hk _ ?_
  refine DWp.seqK fun k1 hk1 => ?_
  refine DWp.reg false fun kk hk => ?_
  simp
  refine hk _ ?_
  refine DWp.block ?_
  refine DWp.loopK (fun i : Nat => Know.of 17 [(2, .d (.int .i64 (usedW (l.take i)))), (5, .d (encSs l)), (6, .d (.int .i64 l.length)), (7, .d (.int .i64 i))] [])
    (fun i => i ≤ l.length) (fun i => l.length - i) 0 (Sub.of [] ⟨rfl, rfl, by simp, by simp, by simp [usedW], by simp⟩) (by simp) ?_
  rintro i hi kl2 hkl2
  refine DWp.reg false fun kk hk => ?_
  simp
  refine hk _ ?_
  refine DWp.seqK fun k3 hk3 => ?_
  refine DWp.condB ?_
  simp
  refine ⟨fun hT0 => ?_, fun hF0 => ?_⟩
  · simp [Tt] at hT0
    refine DWp.skip ?_
    refine hk3 _ ?_
    refine DWp.seqK fun k4 hk4 => ?_
    refine DWp.block ?_
    refine DWp.reg false fun kk hk => ?_
    simp [hT0]
    refine hk _ ?_
    refine DWp.regionV false ?_
    simp
    refine CallAt.det false ent33 rfl (sectors_c l[i] (hl.2 _ (List.getElem_mem hT0))) ?_
    try simp
    refine hk4 _ ?_
    refine DWp.regionV false ?_
    simp
    rw [i64_in ((i : Int) + 1) (by have := hl.1; omega)]
    refine hkl2 _ (i + 1) (by omega) (by omega) (Sub.of [] ⟨rfl, rfl, by simp, by simp, by simp [usedW_succ l i hT0], by simp⟩)
  · simp [Ff] at hF0
    refine DWp.exit ?_
    simp
    refine hk1 _ ?_
    refine DWp.reg false fun kk hk => ?_
    simp
    refine hk _ ?_
    obtain rfl : i = l.length := by omega
    refine DWp.ret (hE _ ?_).2
    simp
theorem refUsed_c (l : List (List UInt8)) (hl : FitL l) : FnWp Try.prog 38 [encSs l] (· = .ret (.int .i64 (usedW l))) := by
  refine FnWp.intro' Try.func38 rfl (by simp [Try.ntmps38]) fun E hE => ?_
  refine DWp.reg false fun kk hk => ?_
  simp
  refine hk _ ?_
  refine DWp.reg false fun kk hk => ?_
  simp
  refine hk _ ?_
  refine DWp.seqK fun k1 hk1 => ?_
  refine DWp.reg false fun kk hk => ?_
  simp
  refine hk _ ?_
  refine DWp.block ?_
  refine DWp.loopK (fun i : Nat => Know.of 20 [(0, .d (encSs l)), (3, .d (.int .i64 (usedW (l.take i)))), (4, .d (.int .i64 i))] [])
    (fun i => i ≤ l.length) (fun i => l.length - i) 0 (Sub.of [] ⟨rfl, rfl, by simp, by simp, by simp [usedW], by simp⟩) (by simp) ?_
  rintro i hi kl2 hkl2
  refine DWp.seqK fun k3 hk3 => ?_
  refine DWp.reg false fun kk hk => ?_
  simp
  refine hk _ ?_
  refine DWp.condB ?_
  simp
  refine ⟨fun hT0 => ?_, fun hF0 => ?_⟩
  · simp [Tt] at hT0
    refine DWp.skip ?_
    refine hk3 _ ?_
    refine DWp.seqK fun k4 hk4 => ?_
    refine DWp.block ?_
    refine DWp.regionV false ?_
    simp [hT0]
    refine CallAt.det false ent37 rfl (refSectors_c l[i] (hl.2 _ (List.getElem_mem hT0))) ?_
    try simp
    refine hk4 _ ?_
    refine DWp.regionV false ?_
    simp
    rw [i64_in ((i : Int) + 1) (by have := hl.1; omega)]
    refine hkl2 _ (i + 1) (by omega) (by omega) (Sub.of [] ⟨rfl, rfl, by simp, by simp, by simp [usedW_succ l i hT0], by simp⟩)
  · simp [Ff] at hF0
    refine DWp.exit ?_
    simp
    refine hk1 _ ?_
    refine DWp.reg false fun kk hk => ?_
    simp
    refine hk _ ?_
    obtain rfl : i = l.length := by omega
    refine DWp.ret (hE _ ?_).2
    simp
theorem jcheck_c (j : Jn) (hj : FitL j.recs) : FnWp Try.prog 16 [encJ j] (· = .ret (.int .i64 (if okJ j then 0 else 1))) := by
  refine FnWp.intro' Try.func16 rfl (by simp [Try.ntmps16]) fun E hE => ?_
  refine DWp.reg false fun kk hk => ?_
  simp
  refine hk _ ?_
  refine DWp.seqK fun k1 hk1 => ?_
  refine DWp.drawPR false [] (.take 0 (.take 1 (.take 2 (.take 3 (.take 4 (.take 5 (.take 6 (.take 7 (.take 8 (.take 9 (.take 10 (.take 11 (.take 12 (.take 13 (.take 14 (.take 15 (.take 16 (.take 17 (.take 18 (.take 19 (.take 20 (.take 21 (.take 22 (.take 23 (.take 24 (.take 25 (.take 26 (.take 27 (.take 28 .done))))))))))))))))))))))))))))) mixed (by kernel_rfl) fun kk hk => ?_
  simp
  refine DetCall.intro ent34 rfl (fun _ => used_c j.recs hj) ?_
  try simp
  refine hk _ ?_
  refine DWp.condB ?_
  simp
  refine ⟨fun hT0 => ?_, fun hF0 => ?_⟩
  · simp [Tt] at hT0
    refine DWp.reg false fun kk hk => ?_
    simp
    refine hk _ ?_
    have hk' : okJ j = false := by simp only [okJ]; simp; omega
    refine DWp.ret (hE _ ?_).2
    simp [hk']
  · simp [Ff] at hF0
    refine DWp.skip ?_
    refine hk1 _ ?_
    refine DWp.reg false fun kk hk => ?_
    simp
    refine hk _ ?_
    have hk' : okJ j = true := by simp only [okJ]; simp; omega
    refine DWp.ret (hE _ ?_).2
    simp [hk']
theorem jroom_c (j : Jn) (hj : FitL j.recs) : FnWp Try.prog 18 [encJ j] (· = .ret (.int .i64 (roomJ j))) := by
  refine FnWp.intro' Try.func18 rfl (by simp [Try.ntmps18]) fun E hE => ?_
  refine DWp.reg false fun kk hk => ?_
  simp
  refine hk _ ?_
  refine DWp.seqK fun k1 hk1 => ?_
  refine DWp.reg false fun kk hk => ?_
  simp
  refine CallAt.det false ent16 rfl (jcheck_c j hj) ?_
  try simp
  refine hk _ ?_
  refine DWp.condB ?_
  simp
  refine ⟨fun hT0 => ?_, fun hF0 => ?_⟩
  · simp [Tt] at hT0
    refine DWp.reg false fun kk hk => ?_
    simp
    refine hk _ ?_
    refine DWp.ret (hE _ ?_).2
    simp [roomJ, hT0]
  · simp [Ff] at hF0
    refine DWp.skip ?_
    refine hk1 _ ?_
    refine DWp.drawPR false [] (.take 0 (.take 1 (.take 2 (.take 3 (.take 4 (.take 5 (.take 6 (.take 7 .done)))))))) mixed (by kernel_rfl) fun kk hk => ?_
    simp
    refine DetCall.intro ent34 rfl (fun _ => used_c j.recs hj) ?_
    try simp
    refine hk _ ?_
    refine DWp.ret (hE _ ?_).2
    simp [roomJ, hF0, leftJ]
theorem refJCheck_c (j : Jn) (hj : FitL j.recs) : FnWp Try.prog 17 [encJ j] (· = .ret (.int .i64 (if okJ j then 0 else 1))) := by
  refine FnWp.intro' Try.func17 rfl (by simp [Try.ntmps17]) fun E hE => ?_
  refine DWp.reg false fun kk hk => ?_
  simp
  refine hk _ ?_
  refine DWp.seqK fun k1 hk1 => ?_
  refine DWp.drawPR false [] (.take 0 (.take 1 (.take 2 (.take 3 (.take 4 (.take 5 (.take 6 (.take 7 (.take 8 (.take 9 (.take 10 (.take 11 (.take 12 (.take 13 (.take 14 (.take 15 (.take 16 (.take 17 (.take 18 (.take 19 (.take 20 (.take 21 (.take 22 (.take 23 (.take 24 (.take 25 (.take 26 (.take 27 (.take 28 .done))))))))))))))))))))))))))))) mixed (by kernel_rfl) fun kk hk => ?_
  simp
  refine DetCall.intro ent38 rfl (fun _ => refUsed_c j.recs hj) ?_
  try simp
  refine hk _ ?_
  refine DWp.condB ?_
  simp
  refine ⟨fun hT0 => ?_, fun hF0 => ?_⟩
  · simp [Tt] at hT0
    refine DWp.reg false fun kk hk => ?_
    simp
    refine hk _ ?_
    have hk' : okJ j = false := by simp only [okJ]; simp; omega
    refine DWp.ret (hE _ ?_).2
    simp [hk']
  · simp [Ff] at hF0
    refine DWp.skip ?_
    refine hk1 _ ?_
    refine DWp.reg false fun kk hk => ?_
    simp
    refine hk _ ?_
    have hk' : okJ j = true := by simp only [okJ]; simp; omega
    refine DWp.ret (hE _ ?_).2
    simp [hk']
theorem refJRoom_c (j : Jn) (hj : FitL j.recs) : FnWp Try.prog 19 [encJ j] (· = .ret (.int .i64 (roomJ j))) := by
  refine FnWp.intro' Try.func19 rfl (by simp [Try.ntmps19]) fun E hE => ?_
  refine DWp.reg false fun kk hk => ?_
  simp
  refine hk _ ?_
  refine DWp.seqK fun k1 hk1 => ?_
  refine DWp.reg false fun kk hk => ?_
  simp
  refine CallAt.det false ent17 rfl (refJCheck_c j hj) ?_
  try simp
  refine hk _ ?_
  refine DWp.condB ?_
  simp
  refine ⟨fun hT0 => ?_, fun hF0 => ?_⟩
  · simp [Tt] at hT0
    refine DWp.reg false fun kk hk => ?_
    simp
    refine hk _ ?_
    refine DWp.ret (hE _ ?_).2
    simp [roomJ, hT0]
  · simp [Ff] at hF0
    refine DWp.skip ?_
    refine hk1 _ ?_
    refine DWp.drawPR false [] (.take 0 (.take 1 (.take 2 (.take 3 (.take 4 (.take 5 (.take 6 (.take 7 .done)))))))) mixed (by kernel_rfl) fun kk hk => ?_
    simp
    refine DetCall.intro ent38 rfl (fun _ => refUsed_c j.recs hj) ?_
    try simp
    refine hk _ ?_
    refine DWp.ret (hE _ ?_).2
    simp [roomJ, hF0, leftJ]
theorem sameR_c (a b : List (List UInt8)) (ha : a.length ≤ 140737488355328) : FnWp Try.prog 20 [encSs a, encSs b] (· = .ret (.bool (decide (a = b)))) := by
  refine FnWp.intro' Try.func20 rfl (by simp [Try.ntmps20]) fun E hE => ?_
  refine DWp.reg false fun kk hk => ?_
  simp
  refine hk _ ?_
  refine DWp.seqK fun k1 hk1 => ?_
  refine DWp.reg false fun kk hk => ?_
  simp
  refine hk _ ?_
  refine DWp.condB ?_
  simp
  refine ⟨fun hT0 => ?_, fun hF0 => ?_⟩
  · simp [Tt] at hT0
    refine DWp.reg false fun kk hk => ?_
    simp
    refine hk _ ?_
    refine DWp.ret (hE _ ?_).2
    simp
    rintro rfl
    simp at hT0
  · simp [Ff] at hF0
    refine DWp.skip ?_
    refine hk1 _ ?_
    refine DWp.seqK fun k2 hk2 => ?_
    refine DWp.reg false fun kk hk => ?_
    simp
    refine hk _ ?_
    refine DWp.block ?_
    refine DWp.loopK (fun i : Nat => Know.of 28 [(0, .d (encSs a)), (1, .d (encSs b)), (5, .d (.int .i64 i))] [])
      (fun i => i ≤ a.length ∧ a.take i = b.take i) (fun i => a.length - i) 0 (Sub.of [] ⟨rfl, rfl, by simp, by simp, by simp, by simp⟩) (by simp) ?_
    rintro i ⟨hi, htk⟩ kl3 hkl3
    refine DWp.seqK fun k4 hk4 => ?_
    refine DWp.reg false fun kk hk => ?_
    simp
    refine hk _ ?_
    refine DWp.condB ?_
    simp
    refine ⟨fun hT1 => ?_, fun hF1 => ?_⟩
    · simp [Tt] at hT1
      refine DWp.skip ?_
      refine hk4 _ ?_
      refine DWp.seqK fun k5 hk5 => ?_
      refine DWp.block ?_
      have hb1 : i < b.length := by omega
      refine DWp.drawPR false [] (.take 0 (.take 1 (.take 2 (.take 3 (.take 4 (.take 5 (.take 6 (.take 7 (.take 8 (.take 9 (.take 10 .done))))))))))) mixed (by kernel_rfl) fun kk hk => ?_
      simp [hT1, hb1]
      refine hk _ ?_
      refine DWp.condB ?_
      simp
      refine ⟨fun hT2 => ?_, fun hF2 => ?_⟩
      · simp [Tt] at hT2
        refine DWp.reg false fun kk hk => ?_
        simp
        refine hk _ ?_
        refine DWp.ret (hE _ ?_).2
        simp
        rintro rfl
        simp at hT2
      · simp [Ff] at hF2
        refine DWp.skip ?_
        refine hk5 _ ?_
        refine DWp.regionV false ?_
        simp
        rw [i64_in _ (by omega)]
        refine hkl3 _ (i + 1) ⟨by omega, ?_⟩ (by omega) (Sub.of [] ⟨rfl, rfl, by simp, by simp, by simp, by simp⟩)
        exact take_eq_succ htk (by omega) (by omega) (by simpa using hF2)
    · simp [Ff] at hF1
      refine DWp.exit ?_
      simp
      refine hk2 _ ?_
      refine DWp.reg false fun kk hk => ?_
      simp
      refine hk _ ?_
      refine DWp.ret (hE _ ?_).2
      simp
      rw [List.take_of_length_le (by omega), List.take_of_length_le (by omega)] at htk
      exact htk
theorem sameJ_c (a b : Jn) (ha : a.recs.length ≤ 140737488355328) : FnWp Try.prog 13 [encJ a, encJ b] (· = .ret (.bool (decide (a = b)))) := by
  refine FnWp.intro' Try.func13 rfl (by simp [Try.ntmps13]) fun E hE => ?_
  refine DWp.reg false fun kk hk => ?_
  simp
  refine hk _ ?_
  refine DWp.reg false fun kk hk => ?_
  simp
  refine CallAtG.det false ent20 rfl (fun _ => sameR_c a.recs b.recs ha) ?_
  try simp
  refine hk _ ?_
  refine DWp.ret (hE _ ?_).2
  simp
  exact jn_dec a b
theorem jappend_c (j : Jn) (hj : FitL j.recs) (b : List UInt8) (hb : b.length ≤ 140737488355328) : FnWp Try.prog 14 [encJ j, encB b] (· = .ret (.tup [encJ (appendJ j b).1, .int .i64 (appendJ j b).2])) := by
  refine FnWp.intro' Try.func14 rfl (by simp [Try.ntmps14]) fun E hE => ?_
  refine DWp.reg false fun kk hk => ?_
  simp
  refine hk _ ?_
  refine DWp.seqK fun k1 hk1 => ?_
  refine DWp.reg false fun kk hk => ?_
  simp
  refine CallAt.det false ent16 rfl (jcheck_c j hj) ?_
  try simp
  refine hk _ ?_
  refine DWp.reg false fun kk hk => ?_
  simp
  refine hk _ ?_
  refine DWp.condB ?_
  simp
  refine ⟨fun hT0 => ?_, fun hF0 => ?_⟩
  · simp [Tt] at hT0
    have hkj : okJ j = false := by cases h : okJ j <;> simp_all
    refine DWp.reg false fun kk hk => ?_
    simp
    refine hk _ ?_
    refine DWp.ret (hE _ ?_).2
    simp [appendJ, hkj, zeroJ]
  · simp [Ff] at hF0
    have hkj : okJ j = true := by cases h : okJ j <;> simp_all
    refine DWp.skip ?_
    refine hk1 _ ?_
    refine DWp.seqK fun k2 hk2 => ?_
    refine DWp.drawPR false [] (.take 0 (.take 1 (.take 2 (.take 3 (.take 4 (.take 5 (.take 6 (.take 7 (.take 8 .done))))))))) mixed (by kernel_rfl) fun kk hk => ?_
    simp
    refine DetCall.intro ent33 rfl (fun _ => sectors_c b hb) ?_
    try simp
    refine DetCall.intro ent34 rfl (fun _ => used_c j.recs hj) ?_
    try simp
    refine hk _ ?_
    refine DWp.condB ?_
    simp
    refine ⟨fun hT1 => ?_, fun hF1 => ?_⟩
    · simp [Tt] at hT1
      refine DWp.reg false fun kk hk => ?_
      simp
      refine hk _ ?_
      refine DWp.ret (hE _ ?_).2
      rw [show appendJ j b = (zeroJ, 2) by simp only [appendJ, hkj, if_true]; rw [if_pos (by unfold leftJ; omega)]]
      simp [zeroJ]
    · simp [Ff] at hF1
      refine DWp.skip ?_
      refine hk2 _ ?_
      refine DWp.reg false fun kk hk => ?_
      simp
      refine CallAt.clip false ent35 rfl (clipL_c j.recs) ?_
      simp
      refine CallAt.det false ent36 rfl (cloneB_c b hb) ?_
      try simp
      have hl := hj.1
      refine ⟨by omega, by omega, ?_⟩
      refine hk _ ?_
      obtain ⟨xs, hxs⟩ : ∃ x, j.recs ++ [b] = x := ⟨_, rfl⟩
      refine DWp.sub (Sub.of (n := 32) (sl := [(2, .loc 0 0), (4, .loc 1 0)]) (ml := [(29, [.d (.int .i64 j.many), .d (.int .i64 j.synced), .own 2 1 0 xs.length none]), (29, [.d (.int .i64 0), .d (.int .i64 0), .clip []]), (22, cellsL xs)]) [0, 1, 3] ⟨rfl, rfl, by simp, by simp, by simp, by simp [← hxs, cellsL]⟩) ?_
      refine DWp.reg false fun kk hk => ?_
      simp
      refine hk _ ?_
      refine DWp.ret (hE _ ?_).2
      rw [show appendJ j b = (⟨j.many, j.synced, xs⟩, 0) by simp only [appendJ, hkj, if_true, hxs]; rw [if_neg (by unfold leftJ; omega)]]
      simp [List.mapM_cons, Function.comp_def]
theorem refJAppend_c (j : Jn) (hj : FitL j.recs) (b : List UInt8) (hb : b.length ≤ 140737488355328) : FnWp Try.prog 15 [encJ j, encB b] (· = .ret (.tup [encJ (appendJ j b).1, .int .i64 (appendJ j b).2])) := by
  refine FnWp.intro' Try.func15 rfl (by simp [Try.ntmps15]) fun E hE => ?_
  refine DWp.reg false fun kk hk => ?_
  simp
  refine hk _ ?_
  refine DWp.reg false fun kk hk => ?_
  simp
  refine CallAt.det false ent17 rfl (refJCheck_c j hj) ?_
  try simp
  refine hk _ ?_
  refine DWp.seqK fun k1 hk1 => ?_
  refine DWp.reg false fun kk hk => ?_
  simp
  refine hk _ ?_
  refine DWp.condB ?_
  simp
  refine ⟨fun hT0 => ?_, fun hF0 => ?_⟩
  · simp [Tt] at hT0
    have hkj : okJ j = false := by cases h : okJ j <;> simp_all
    refine DWp.reg false fun kk hk => ?_
    simp
    refine hk _ ?_
    refine DWp.ret (hE _ ?_).2
    simp [appendJ, hkj, zeroJ]
  · simp [Ff] at hF0
    have hkj : okJ j = true := by cases h : okJ j <;> simp_all
    refine DWp.skip ?_
    refine hk1 _ ?_
    refine DWp.seqK fun k2 hk2 => ?_
    refine DWp.drawPR false [] (.take 0 (.take 1 (.take 2 (.take 3 (.take 4 (.take 5 (.take 6 (.take 7 (.take 8 (.take 9 .done)))))))))) mixed (by kernel_rfl) fun kk hk => ?_
    simp
    refine DetCall.intro ent37 rfl (fun _ => refSectors_c b hb) ?_
    try simp
    refine DetCall.intro ent38 rfl (fun _ => refUsed_c j.recs hj) ?_
    try simp
    refine hk _ ?_
    refine DWp.condB ?_
    simp
    refine ⟨fun hT1 => ?_, fun hF1 => ?_⟩
    · simp [Tt] at hT1
      refine DWp.reg false fun kk hk => ?_
      simp
      refine hk _ ?_
      refine DWp.ret (hE _ ?_).2
      rw [show appendJ j b = (zeroJ, 2) by simp only [appendJ, hkj, if_true]; rw [if_pos (by unfold leftJ; omega)]]
      simp [zeroJ]
    · simp [Ff] at hF1
      refine DWp.skip ?_
      refine hk2 _ ?_
      refine DWp.reg false fun kk hk => ?_
      simp
      have hl := hj.1
      refine ⟨⟨by omega, by omega⟩, ⟨by omega, by omega⟩, ?_⟩
      refine hk _ ?_
      obtain ⟨xs, hxs⟩ : ∃ x, j.recs ++ [b] = x := ⟨_, rfl⟩
      refine DWp.sub (Sub.of (n := 33) (sl := [(2, .loc 0 0), (4, .loc 1 0)]) (ml := [(29, [.d (.int .i64 j.many), .d (.int .i64 j.synced), .own 2 1 0 xs.length none]), (29, [.d (.int .i64 0), .d (.int .i64 0), .clip []]), (22, cellsL xs)]) [0, 1, 5] ⟨rfl, rfl, by simp, by simp, by simp, by simp [← hxs, cellsL]⟩) ?_
      refine DWp.reg false fun kk hk => ?_
      simp
      refine hk _ ?_
      refine DWp.ret (hE _ ?_).2
      rw [show appendJ j b = (⟨j.many, j.synced, xs⟩, 0) by simp only [appendJ, hkj, if_true, hxs]; rw [if_neg (by unfold leftJ; omega)]]
      simp [List.mapM_cons, Function.comp_def]
end Go.Bf
