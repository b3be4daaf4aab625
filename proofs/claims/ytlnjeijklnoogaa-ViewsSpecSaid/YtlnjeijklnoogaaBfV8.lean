/-
  Views: comparing. Printed by program (v8.py). Nothing is claimed here.
-/
import Derived.Test.YtlnjeijklnoogaaBfV8a
import Derived.Test.YtlnjeijklnoogaaBfTy
set_option maxRecDepth 100000
set_option maxHeartbeats 16000000
namespace Go.Bf
open Go Go.RowKit Go.Proofs Go.IntWalk
attribute [local simp] maxLen
theorem rel_iff (r s : Rl) : r = s ↔ r.1 = s.1 ∧ r.2 = s.2 := by
  obtain ⟨a, b⟩ := r; obtain ⟨c, d⟩ := s; simp
theorem eq_of_takes {α : Type} {a b : List α} (h : a.take a.length = b.take a.length) (hl : a.length = b.length) : a = b := by
  rw [List.take_length, hl, List.take_length] at h; exact h
theorem ent53 : Enters Try.prog 53 := enters_of Try.func53 rfl rfl
theorem ent54 : Enters Try.prog 54 := enters_of Try.func54 rfl rfl
theorem ent39 : Enters Try.prog 39 := enters_of Try.func39 rfl rfl
theorem ent28 : Enters Try.prog 28 := enters_of Try.func28 rfl rfl
theorem ent52 : Enters Try.prog 52 := enters_of Try.func52 rfl rfl
theorem ent29 : Enters Try.prog 29 := enters_of Try.func29 rfl rfl
theorem ent14 : Enters Try.prog 14 := enters_of Try.func14 rfl rfl
theorem ent50 : Enters Try.prog 50 := enters_of Try.func50 rfl rfl
theorem ent30 : Enters Try.prog 30 := enters_of Try.func30 rfl rfl
theorem ent15 : Enters Try.prog 15 := enters_of Try.func15 rfl rfl
attribute [local simp] encI encII encRels encRel rowI rowII
theorem eqI_c (a b : List Int) (ha : a.length ≤ 4611686018427387903)  : FnWp Try.prog 53 [encI a, encI b] (· = .ret (.bool (decide (a = b)))) := by
  refine FnWp.intro' Try.func53 rfl (by simp [Try.ntmps53]) fun E hE => ?_
  refine DWp.reg false fun kk hk => ?_
  simp
  refine hk _ ?_
  refine DWp.seqK fun k1 hk1 => ?_
  refine DWp.reg false fun kk hk => ?_
  simp
  refine hk _ ?_
  refine DWp.condB ?_
  simp
  refine ⟨fun hT0 => ?_, fun hF0 => ?_⟩
  · simp [Tt] at hT0
    refine DWp.reg false fun kk hk => ?_
    simp
    refine hk _ ?_
    refine DWp.ret (hE _ ?_).2
    rw [decide_eq_false (show ¬ a = b from fun e => by subst e; simp at hT0)]
    simp
  · simp [Ff] at hF0
    refine DWp.skip ?_
    refine hk1 _ ?_
    refine DWp.seqK fun k2 hk2 => ?_
    refine DWp.reg false fun kk hk => ?_
    simp
    refine hk _ ?_
    refine DWp.block ?_
    have hlen : a.length = b.length := by omega
    refine DWp.loopK (fun i : Nat => Know.of 26 [(0, .d (encI a)), (1, .d (encI b)), (11, .d (encI a)), (12, .d (.int .i64 a.length)), (13, .d (.int .i64 i))] [])
      (fun i => i ≤ a.length ∧ a.take i = b.take i) (fun i => a.length - i) 0 (Sub.of [] ⟨rfl, rfl, by simp, by simp, by simp, by simp⟩) (by simp) ?_
    rintro i ⟨hi, htk⟩ kl3 hkl3
    refine DWp.reg false fun kk hk => ?_
    simp
    refine hk _ ?_
    refine DWp.seqK fun k4 hk4 => ?_
    refine DWp.condB ?_
    simp
    refine ⟨fun hT1 => ?_, fun hF1 => ?_⟩
    · simp [Tt] at hT1
      have hlt : i < a.length := by omega
      have hlt2 : i < b.length := by omega
      refine DWp.skip ?_
      refine hk4 _ ?_
      refine DWp.seqK fun k5 hk5 => ?_
      refine DWp.block ?_
      refine DWp.reg false fun kk hk => ?_
      simp
      refine hk _ ?_
      refine DWp.drawPR false [] (.take 0 (.take 1 (.take 2 (.take 3 (.take 4 (.take 5 (.take 6 (.take 7 (.take 8 .done))))))))) mixed (by kernel_rfl) fun kk hk => ?_
      simp [hlt, hlt2]
      refine hk _ ?_
      refine DWp.condB ?_
      simp
      refine ⟨fun hT2 => ?_, fun hF2 => ?_⟩
      · simp [Tt] at hT2
        refine DWp.reg false fun kk hk => ?_
        simp
        refine hk _ ?_
        refine DWp.ret (hE _ ?_).2
        rw [decide_eq_false (show ¬ a = b from fun e => by subst e; simp at hT2)]
        simp
      · simp [Ff] at hF2
        refine DWp.skip ?_
        refine hk5 _ ?_
        refine DWp.regionV false ?_
        simp
        have i1 : IntKind.i64.wrap ((i : Int) + 1) = ((i + 1 : Nat) : Int) := by rw [i64_in _ (by omega)]; omega
        refine hkl3 _ (i + 1) ⟨by omega, take_step hlt hlt2 htk (by simpa using hF2)⟩ (by omega) (Sub.of [] ⟨rfl, rfl, by simp, by simp, by simp [i1], by simp⟩)
    · simp [Ff] at hF1
      obtain rfl : i = a.length := by omega
      refine DWp.exit ?_
      simp
      refine hk2 _ ?_
      refine DWp.reg false fun kk hk => ?_
      simp
      refine hk _ ?_
      refine DWp.ret (hE _ ?_).2
      rw [decide_eq_true (eq_of_takes htk hlen)]
      simp
theorem sameI_c (a b : List Int) (ha : a.length ≤ 4611686018427387903)  : FnWp Try.prog 50 [encI a, encI b] (· = .ret (.bool (decide (a = b)))) := by
  refine FnWp.intro' Try.func50 rfl (by simp [Try.ntmps50]) fun E hE => ?_
  refine DWp.reg false fun kk hk => ?_
  simp
  refine hk _ ?_
  refine DWp.seqK fun k1 hk1 => ?_
  refine DWp.reg false fun kk hk => ?_
  simp
  refine hk _ ?_
  refine DWp.condB ?_
  simp
  refine ⟨fun hT0 => ?_, fun hF0 => ?_⟩
  · simp [Tt] at hT0
    refine DWp.reg false fun kk hk => ?_
    simp
    refine hk _ ?_
    refine DWp.ret (hE _ ?_).2
    rw [decide_eq_false (show ¬ a = b from fun e => by subst e; simp at hT0)]
    simp
  · simp [Ff] at hF0
    refine DWp.skip ?_
    refine hk1 _ ?_
    refine DWp.seqK fun k2 hk2 => ?_
    refine DWp.reg false fun kk hk => ?_
    simp
    refine hk _ ?_
    refine DWp.block ?_
    have hlen : a.length = b.length := by omega
    refine DWp.loopK (fun i : Nat => Know.of 26 [(0, .d (encI a)), (1, .d (encI b)), (5, .d (.int .i64 i))] [])
      (fun i => i ≤ a.length ∧ a.take i = b.take i) (fun i => a.length - i) 0 (Sub.of [] ⟨rfl, rfl, by simp, by simp, by simp, by simp⟩) (by simp) ?_
    rintro i ⟨hi, htk⟩ kl3 hkl3
    refine DWp.seqK fun k4 hk4 => ?_
    refine DWp.reg false fun kk hk => ?_
    simp
    refine hk _ ?_
    refine DWp.condB ?_
    simp
    refine ⟨fun hT1 => ?_, fun hF1 => ?_⟩
    · simp [Tt] at hT1
      have hlt : i < a.length := by omega
      have hlt2 : i < b.length := by omega
      refine DWp.skip ?_
      refine hk4 _ ?_
      refine DWp.seqK fun k5 hk5 => ?_
      refine DWp.block ?_
      refine DWp.drawPR false [] (.take 0 (.take 1 (.take 2 (.take 3 (.take 4 (.take 5 (.take 6 (.take 7 (.take 8 .done))))))))) mixed (by kernel_rfl) fun kk hk => ?_
      simp [hlt, hlt2]
      refine hk _ ?_
      refine DWp.condB ?_
      simp
      refine ⟨fun hT2 => ?_, fun hF2 => ?_⟩
      · simp [Tt] at hT2
        refine DWp.reg false fun kk hk => ?_
        simp
        refine hk _ ?_
        refine DWp.ret (hE _ ?_).2
        rw [decide_eq_false (show ¬ a = b from fun e => by subst e; simp at hT2)]
        simp
      · simp [Ff] at hF2
        refine DWp.skip ?_
        refine hk5 _ ?_
        refine DWp.regionV false ?_
        simp
        have i1 : IntKind.i64.wrap ((i : Int) + 1) = ((i + 1 : Nat) : Int) := by rw [i64_in _ (by omega)]; omega
        refine hkl3 _ (i + 1) ⟨by omega, take_step hlt hlt2 htk (by simpa using hF2)⟩ (by omega) (Sub.of [] ⟨rfl, rfl, by simp, by simp, by simp [i1], by simp⟩)
    · simp [Ff] at hF1
      obtain rfl : i = a.length := by omega
      refine DWp.exit ?_
      simp
      refine hk2 _ ?_
      refine DWp.reg false fun kk hk => ?_
      simp
      refine hk _ ?_
      refine DWp.ret (hE _ ?_).2
      rw [decide_eq_true (eq_of_takes htk hlen)]
      simp
theorem eqII_c (a b : List (List Int)) (ha : a.length ≤ 4611686018427387903) (hal : ∀ x ∈ a, x.length ≤ 4611686018427387903) : FnWp Try.prog 54 [encII a, encII b, .fn 53 []] (· = .ret (.bool (decide (a = b)))) := by
  refine FnWp.intro' Try.func54 rfl (by simp [Try.ntmps54]) fun E hE => ?_
  refine DWp.reg false fun kk hk => ?_
  simp
  refine hk _ ?_
  refine DWp.seqK fun k1 hk1 => ?_
  refine DWp.reg false fun kk hk => ?_
  simp
  refine hk _ ?_
  refine DWp.condB ?_
  simp
  refine ⟨fun hT0 => ?_, fun hF0 => ?_⟩
  · simp [Tt] at hT0
    refine DWp.reg false fun kk hk => ?_
    simp
    refine hk _ ?_
    refine DWp.ret (hE _ ?_).2
    rw [decide_eq_false (show ¬ a = b from fun e => by subst e; simp at hT0)]
    simp
  · simp [Ff] at hF0
    refine DWp.skip ?_
    refine hk1 _ ?_
    refine DWp.seqK fun k2 hk2 => ?_
    refine DWp.reg false fun kk hk => ?_
    simp
    refine hk _ ?_
    refine DWp.block ?_
    have hlen : a.length = b.length := by omega
    refine DWp.loopK (fun i : Nat => Know.of 32 [(0, .d (encII a)), (1, .d (encII b)), (2, .d (.fn 53 [])), (15, .d (encII a)), (16, .d (.int .i64 a.length)), (17, .d (.int .i64 i))] [])
      (fun i => i ≤ a.length ∧ a.take i = b.take i) (fun i => a.length - i) 0 (Sub.of [] ⟨rfl, rfl, by simp, by simp, by simp, by simp⟩) (by simp) ?_
    rintro i ⟨hi, htk⟩ kl3 hkl3
    refine DWp.reg false fun kk hk => ?_
    simp
    refine hk _ ?_
    refine DWp.seqK fun k4 hk4 => ?_
    refine DWp.condB ?_
    simp
    refine ⟨fun hT1 => ?_, fun hF1 => ?_⟩
    · simp [Tt] at hT1
      have hlt : i < a.length := by omega
      have hlt2 : i < b.length := by omega
      refine DWp.skip ?_
      refine hk4 _ ?_
      refine DWp.seqK fun k5 hk5 => ?_
      refine DWp.block ?_
      refine DWp.reg false fun kk hk => ?_
      simp [hlt]
      refine hk _ ?_
      refine DWp.reg false fun kk hk => ?_
      simp [hlt2]
      refine hk _ ?_
      refine DWp.reg false fun kk hk => ?_
      simp
      refine CallAt.det false ent53 rfl (eqI_c a[i] b[i] (hal _ (List.getElem_mem hlt))) ?_
      simp
      refine hk _ ?_
      refine DWp.condB ?_
      simp
      refine ⟨fun hT2 => ?_, fun hF2 => ?_⟩
      · simp [Tt] at hT2
        refine DWp.reg false fun kk hk => ?_
        simp
        refine hk _ ?_
        refine DWp.ret (hE _ ?_).2
        rw [decide_eq_false (show ¬ a = b from fun e => by subst e; simp at hT2)]
        simp
      · simp [Ff] at hF2
        refine DWp.skip ?_
        refine hk5 _ ?_
        refine DWp.regionV false ?_
        simp
        have i1 : IntKind.i64.wrap ((i : Int) + 1) = ((i + 1 : Nat) : Int) := by rw [i64_in _ (by omega)]; omega
        refine hkl3 _ (i + 1) ⟨by omega, take_step hlt hlt2 htk (by simpa using hF2)⟩ (by omega) (Sub.of [] ⟨rfl, rfl, by simp, by simp, by simp [i1], by simp⟩)
    · simp [Ff] at hF1
      obtain rfl : i = a.length := by omega
      refine DWp.exit ?_
      simp
      refine hk2 _ ?_
      refine DWp.reg false fun kk hk => ?_
      simp
      refine hk _ ?_
      refine DWp.ret (hE _ ?_).2
      rw [decide_eq_true (eq_of_takes htk hlen)]
      simp
theorem eqR_c (r s : Rl) (hr : fitRs r) : FnWp Try.prog 52 [encRel r, encRel s] (· = .ret (.bool (decide (r = s)))) := by
  refine FnWp.intro' Try.func52 rfl (by simp [Try.ntmps52]) fun E hE => ?_
  refine DWp.reg false fun kk hk => ?_
  simp
  refine hk _ ?_
  refine DWp.reg false fun kk hk => ?_
  simp
  refine CallAt.det false ent53 rfl (eqI_c r.1 s.1 hr.1) ?_
  simp
  refine CallAtG.det false ent54 rfl (fun _ => eqII_c r.2 s.2 hr.2.1 hr.2.2) ?_
  simp
  refine hk _ ?_
  refine DWp.ret (hE _ ?_).2
  simp [rel_iff]
theorem eqRs_c (a b : List Rl) (ha : a.length ≤ 4611686018427387903) (hal : ∀ x ∈ a, fitRs x) : FnWp Try.prog 39 [encRels a, encRels b, .fn 52 []] (· = .ret (.bool (decide (a = b)))) := by
  refine FnWp.intro' Try.func39 rfl (by simp [Try.ntmps39]) fun E hE => ?_
  refine DWp.reg false fun kk hk => ?_
  simp
  refine hk _ ?_
  refine DWp.seqK fun k1 hk1 => ?_
  refine DWp.reg false fun kk hk => ?_
  simp
  refine hk _ ?_
  refine DWp.condB ?_
  simp
  refine ⟨fun hT0 => ?_, fun hF0 => ?_⟩
  · simp [Tt] at hT0
    refine DWp.reg false fun kk hk => ?_
    simp
    refine hk _ ?_
    refine DWp.ret (hE _ ?_).2
    rw [decide_eq_false (show ¬ a = b from fun e => by subst e; simp at hT0)]
    simp
  · simp [Ff] at hF0
    refine DWp.skip ?_
    refine hk1 _ ?_
    refine DWp.seqK fun k2 hk2 => ?_
    refine DWp.reg false fun kk hk => ?_
    simp
    refine hk _ ?_
    refine DWp.block ?_
    have hlen : a.length = b.length := by omega
    refine DWp.loopK (fun i : Nat => Know.of 32 [(0, .d (encRels a)), (1, .d (encRels b)), (2, .d (.fn 52 [])), (15, .d (encRels a)), (16, .d (.int .i64 a.length)), (17, .d (.int .i64 i))] [])
      (fun i => i ≤ a.length ∧ a.take i = b.take i) (fun i => a.length - i) 0 (Sub.of [] ⟨rfl, rfl, by simp, by simp, by simp, by simp⟩) (by simp) ?_
    rintro i ⟨hi, htk⟩ kl3 hkl3
    refine DWp.reg false fun kk hk => ?_
    simp
    refine hk _ ?_
    refine DWp.seqK fun k4 hk4 => ?_
    refine DWp.condB ?_
    simp
    refine ⟨fun hT1 => ?_, fun hF1 => ?_⟩
    · simp [Tt] at hT1
      have hlt : i < a.length := by omega
      have hlt2 : i < b.length := by omega
      refine DWp.skip ?_
      refine hk4 _ ?_
      refine DWp.seqK fun k5 hk5 => ?_
      refine DWp.block ?_
      refine DWp.reg false fun kk hk => ?_
      simp [hlt, rowRel]
      refine hk _ ?_
      refine DWp.reg false fun kk hk => ?_
      simp [hlt2, rowRel]
      refine hk _ ?_
      refine DWp.reg false fun kk hk => ?_
      simp
      refine CallAt.det false ent52 rfl (eqR_c a[i] b[i] (hal _ (List.getElem_mem hlt))) ?_
      simp
      refine hk _ ?_
      refine DWp.condB ?_
      simp
      refine ⟨fun hT2 => ?_, fun hF2 => ?_⟩
      · simp [Tt] at hT2
        refine DWp.reg false fun kk hk => ?_
        simp
        refine hk _ ?_
        refine DWp.ret (hE _ ?_).2
        rw [decide_eq_false (show ¬ a = b from fun e => by subst e; simp at hT2)]
        simp
      · simp [Ff] at hF2
        refine DWp.skip ?_
        refine hk5 _ ?_
        refine DWp.regionV false ?_
        simp
        have i1 : IntKind.i64.wrap ((i : Int) + 1) = ((i + 1 : Nat) : Int) := by rw [i64_in _ (by omega)]; omega
        refine hkl3 _ (i + 1) ⟨by omega, take_step hlt hlt2 htk (by simpa using hF2)⟩ (by omega) (Sub.of [] ⟨rfl, rfl, by simp, by simp, by simp [i1], by simp⟩)
    · simp [Ff] at hF1
      obtain rfl : i = a.length := by omega
      refine DWp.exit ?_
      simp
      refine hk2 _ ?_
      refine DWp.reg false fun kk hk => ?_
      simp
      refine hk _ ?_
      refine DWp.ret (hE _ ?_).2
      rw [decide_eq_true (eq_of_takes htk hlen)]
      simp
theorem sameR_c (r s : Rl) (hr : fitRs r) : FnWp Try.prog 30 [encRel r, encRel s] (· = .ret (.bool (decide (r = s)))) := by
  refine FnWp.intro' Try.func30 rfl (by simp [Try.ntmps30]) fun E hE => ?_
  refine DWp.reg false fun kk hk => ?_
  simp
  refine hk _ ?_
  refine DWp.seqK fun k1 hk1 => ?_
  refine DWp.reg false fun kk hk => ?_
  simp
  refine CallAt.det false ent50 rfl (sameI_c r.1 s.1 hr.1) ?_
  simp
  refine hk _ ?_
  refine DWp.condB ?_
  simp
  refine ⟨fun hT0 => ?_, fun hF0 => ?_⟩
  · simp [Tt] at hT0
    refine DWp.reg false fun kk hk => ?_
    simp
    refine hk _ ?_
    refine DWp.ret (hE _ ?_).2
    rw [decide_eq_false (show ¬ r = s from fun e => by subst e; simp at hT0)]
    simp
  · simp [Ff] at hF0
    refine DWp.skip ?_
    refine hk1 _ ?_
    refine DWp.seqK fun k2 hk2 => ?_
    refine DWp.reg false fun kk hk => ?_
    simp
    refine hk _ ?_
    refine DWp.block ?_
    have hlen : r.1 = s.1 ∧ r.2.length = s.2.length := ⟨hF0.1, by have := hF0.2; omega⟩
    refine DWp.loopK (fun i : Nat => Know.of 40 [(2, .loc 0 0), (3, .loc 1 0), (5, .d (.int .i64 i))] [(45, [.d (encI r.1), .d (encII r.2)]), (45, [.d (encI s.1), .d (encII s.2)])])
      (fun i => i ≤ r.2.length ∧ r.2.take i = s.2.take i) (fun i => r.2.length - i) 0 (Sub.of [0, 1] ⟨rfl, rfl, by simp, by simp, by simp, by simp⟩) (by simp) ?_
    rintro i ⟨hi, htk⟩ kl3 hkl3
    refine DWp.seqK fun k4 hk4 => ?_
    refine DWp.reg false fun kk hk => ?_
    simp
    refine hk _ ?_
    refine DWp.condB ?_
    simp
    refine ⟨fun hT1 => ?_, fun hF1 => ?_⟩
    · simp [Tt] at hT1
      have hlt : i < r.2.length := by omega
      have hlt2 : i < s.2.length := by omega
      refine DWp.skip ?_
      refine hk4 _ ?_
      refine DWp.seqK fun k5 hk5 => ?_
      refine DWp.block ?_
      refine DWp.drawPR false [] (.take 0 (.take 1 (.take 2 (.take 3 (.take 4 (.take 5 (.take 6 (.take 7 (.take 8 (.take 9 (.take 10 (.take 11 .done)))))))))))) mixed (by kernel_rfl) fun kk hk => ?_
      simp [hlt, hlt2]
      refine DetCall.intro ent50 rfl (fun _ => sameI_c r.2[i] s.2[i] (hr.2.2 _ (List.getElem_mem hlt))) ?_
      simp [hlt, hlt2]
      refine hk _ ?_
      refine DWp.condB ?_
      simp
      refine ⟨fun hT2 => ?_, fun hF2 => ?_⟩
      · simp [Tt] at hT2
        refine DWp.reg false fun kk hk => ?_
        simp
        refine hk _ ?_
        refine DWp.ret (hE _ ?_).2
        rw [decide_eq_false (show ¬ r = s from fun e => by subst e; simp at hT2)]
        simp
      · simp [Ff] at hF2
        refine DWp.skip ?_
        refine hk5 _ ?_
        refine DWp.regionV false ?_
        simp
        have hb := hr.2.1
        have i1 : IntKind.i64.wrap ((i : Int) + 1) = ((i + 1 : Nat) : Int) := by rw [i64_in _ (by omega)]; omega
        refine hkl3 _ (i + 1) ⟨by omega, take_step hlt hlt2 htk (by simpa using hF2)⟩ (by omega) (Sub.of [0, 1] ⟨rfl, rfl, by simp, by simp, by simp [i1], by simp⟩)
    · simp [Ff] at hF1
      obtain rfl : i = r.2.length := by omega
      refine DWp.exit ?_
      simp
      refine hk2 _ ?_
      refine DWp.reg false fun kk hk => ?_
      simp
      refine hk _ ?_
      refine DWp.ret (hE _ ?_).2
      rw [decide_eq_true ((rel_iff r s).2 ⟨hlen.1, eq_of_takes htk hlen.2⟩)]
      simp
theorem sameRs_c (a b : List Rl) (ha : a.length ≤ 4611686018427387903) (hal : ∀ x ∈ a, fitRs x) : FnWp Try.prog 15 [encRels a, encRels b] (· = .ret (.bool (decide (a = b)))) := by
  refine FnWp.intro' Try.func15 rfl (by simp [Try.ntmps15]) fun E hE => ?_
  refine DWp.reg false fun kk hk => ?_
  simp
  refine hk _ ?_
  refine DWp.seqK fun k1 hk1 => ?_
  refine DWp.reg false fun kk hk => ?_
  simp
  refine hk _ ?_
  refine DWp.condB ?_
  simp
  refine ⟨fun hT0 => ?_, fun hF0 => ?_⟩
  · simp [Tt] at hT0
    refine DWp.reg false fun kk hk => ?_
    simp
    refine hk _ ?_
    refine DWp.ret (hE _ ?_).2
    rw [decide_eq_false (show ¬ a = b from fun e => by subst e; simp at hT0)]
    simp
  · simp [Ff] at hF0
    refine DWp.skip ?_
    refine hk1 _ ?_
    refine DWp.seqK fun k2 hk2 => ?_
    refine DWp.reg false fun kk hk => ?_
    simp
    refine hk _ ?_
    refine DWp.block ?_
    have hlen : a.length = b.length := by omega
    refine DWp.loopK (fun i : Nat => Know.of 27 [(0, .d (encRels a)), (1, .d (encRels b)), (5, .d (.int .i64 i))] [])
      (fun i => i ≤ a.length ∧ a.take i = b.take i) (fun i => a.length - i) 0 (Sub.of [] ⟨rfl, rfl, by simp, by simp, by simp, by simp⟩) (by simp) ?_
    rintro i ⟨hi, htk⟩ kl3 hkl3
    refine DWp.seqK fun k4 hk4 => ?_
    refine DWp.reg false fun kk hk => ?_
    simp
    refine hk _ ?_
    refine DWp.condB ?_
    simp
    refine ⟨fun hT1 => ?_, fun hF1 => ?_⟩
    · simp [Tt] at hT1
      have hlt : i < a.length := by omega
      have hlt2 : i < b.length := by omega
      refine DWp.skip ?_
      refine hk4 _ ?_
      refine DWp.seqK fun k5 hk5 => ?_
      refine DWp.block ?_
      refine DWp.drawPR false [] (.take 0 (.take 1 (.take 2 (.take 3 (.take 4 (.take 5 (.take 6 (.take 7 (.take 8 (.take 9 .done)))))))))) mixed (by kernel_rfl) fun kk hk => ?_
      simp [hlt, hlt2, rowRel]
      refine DetCall.intro ent30 rfl (fun _ => sameR_c a[i] b[i] (hal _ (List.getElem_mem hlt))) ?_
      simp [hlt, hlt2, rowRel]
      refine hk _ ?_
      refine DWp.condB ?_
      simp
      refine ⟨fun hT2 => ?_, fun hF2 => ?_⟩
      · simp [Tt] at hT2
        refine DWp.reg false fun kk hk => ?_
        simp
        refine hk _ ?_
        refine DWp.ret (hE _ ?_).2
        rw [decide_eq_false (show ¬ a = b from fun e => by subst e; simp at hT2)]
        simp
      · simp [Ff] at hF2
        refine DWp.skip ?_
        refine hk5 _ ?_
        refine DWp.regionV false ?_
        simp
        have i1 : IntKind.i64.wrap ((i : Int) + 1) = ((i + 1 : Nat) : Int) := by rw [i64_in _ (by omega)]; omega
        refine hkl3 _ (i + 1) ⟨by omega, take_step hlt hlt2 htk (by simpa using hF2)⟩ (by omega) (Sub.of [] ⟨rfl, rfl, by simp, by simp, by simp [i1], by simp⟩)
    · simp [Ff] at hF1
      obtain rfl : i = a.length := by omega
      refine DWp.exit ?_
      simp
      refine hk2 _ ?_
      refine DWp.reg false fun kk hk => ?_
      simp
      refine hk _ ?_
      refine DWp.ret (hE _ ?_).2
      rw [decide_eq_true (eq_of_takes htk hlen)]
      simp
theorem msg_iff (a b : Msg) : a = b ↔ (a.kind = b.kind ∧ a.fr = b.fr ∧ a.to = b.to ∧ a.no = b.no ∧ a.item = b.item ∧ a.amount = b.amount ∧ a.day = b.day ∧ a.label = b.label ∧ a.sg.1 = b.sg.1 ∧ a.labels = b.labels ∧ a.verdicts = b.verdicts ∧ a.rels = b.rels) := by
  constructor
  · rintro rfl; simp
  · intro h
    obtain ⟨h1, h2, h3, h4, h5, h6, h7, h8, h9, h10, h11, h12⟩ := h
    cases a; cases b
    simp only at h1 h2 h3 h4 h5 h6 h7 h8 h9 h10 h11 h12
    simp only [Msg.mk.injEq]
    exact ⟨h1, h2, h3, h4, h5, h6, h7, h8, h10, h11, h12, Subtype.ext h9⟩
theorem msgSame_c (a b : Msg) (ha : fitM a) : FnWp Try.prog 29 [encMsg a, encMsg b] (· = .ret (.bool (decide (a = b)))) := by
  refine FnWp.intro' Try.func29 rfl (by simp [Try.ntmps29]) fun E hE => ?_
  refine DWp.reg false fun kk hk => ?_
  simp [encMsg, rowMsg, a.sg.2, b.sg.2]
  refine ⟨fun x _ => rfl, fun x _ => rfl, ?_⟩
  refine hk _ ?_
  refine DWp.reg false fun kk hk => ?_
  simp
  refine hk _ ?_
  have hA : List.take 32 (a.sg.1.map (SV.d ∘ cB)) = a.sg.1.map (SV.d ∘ cB) := List.take_of_length_le (by simp [a.sg.2])
  have hB : List.take 32 (b.sg.1.map (SV.d ∘ cB)) = b.sg.1.map (SV.d ∘ cB) := List.take_of_length_le (by simp [b.sg.2])
  have hsA := a.sg.2
  have hsB := b.sg.2
  refine DWp.reg false fun kk hk => ?_
  simp [hA, hB, hsA, hsB, u8_map, u8_map', toNat_inj]
  refine CallAtG.det false ent53 rfl (fun _ => eqI_c a.labels b.labels ha.1) ?_
  simp
  refine CallAtG.det false ent53 rfl (fun _ => eqI_c a.verdicts b.verdicts ha.2.1) ?_
  simp
  refine CallAtG.det false ent39 rfl (fun _ => eqRs_c a.rels b.rels ha.2.2.1 ha.2.2.2) ?_
  simp
  refine hk _ ?_
  refine DWp.ret (hE _ ?_).2
  simp [msg_iff, Bool.and_assoc]
attribute [local simp] encMsgs take_rowMsg take_rowMsgD spl_msg rowMsg_one'
theorem eqMs_c (a b : List Msg) (ha : a.length ≤ 4611686018427387903) (hal : ∀ x ∈ a, fitM x) : FnWp Try.prog 28 [encMsgs a, encMsgs b, .fn 29 []] (· = .ret (.bool (decide (a = b)))) := by
  refine FnWp.intro' Try.func28 rfl (by simp [Try.ntmps28]) fun E hE => ?_
  refine DWp.reg false fun kk hk => ?_
  simp
  refine hk _ ?_
  refine DWp.seqK fun k1 hk1 => ?_
  refine DWp.reg false fun kk hk => ?_
  simp
  refine hk _ ?_
  refine DWp.condB ?_
  simp
  refine ⟨fun hT0 => ?_, fun hF0 => ?_⟩
  · simp [Tt] at hT0
    refine DWp.reg false fun kk hk => ?_
    simp
    refine hk _ ?_
    refine DWp.ret (hE _ ?_).2
    rw [decide_eq_false (show ¬ a = b from fun e => by subst e; simp at hT0)]
    simp
  · simp [Ff] at hF0
    refine DWp.skip ?_
    refine hk1 _ ?_
    refine DWp.seqK fun k2 hk2 => ?_
    refine DWp.reg false fun kk hk => ?_
    simp
    refine hk _ ?_
    refine DWp.block ?_
    have hlen : a.length = b.length := by omega
    refine DWp.loopK (fun i : Nat => Know.of 32 [(0, .d (encMsgs a)), (1, .d (encMsgs b)), (2, .d (.fn 29 [])), (15, .d (encMsgs a)), (16, .d (.int .i64 a.length)), (17, .d (.int .i64 i))] [])
      (fun i => i ≤ a.length ∧ a.take i = b.take i) (fun i => a.length - i) 0 (Sub.of [] ⟨rfl, rfl, by simp, by simp, by simp, by simp⟩) (by simp) ?_
    rintro i ⟨hi, htk⟩ kl3 hkl3
    refine DWp.reg false fun kk hk => ?_
    simp
    refine hk _ ?_
    refine DWp.seqK fun k4 hk4 => ?_
    refine DWp.condB ?_
    simp
    refine ⟨fun hT1 => ?_, fun hF1 => ?_⟩
    · simp [Tt] at hT1
      have hlt : i < a.length := by omega
      have hlt2 : i < b.length := by omega
      refine DWp.skip ?_
      refine hk4 _ ?_
      refine DWp.seqK fun k5 hk5 => ?_
      refine DWp.block ?_
      refine DWp.reg false fun kk hk => ?_
      simp [hlt]
      refine ⟨rowMsg_one _, ?_⟩
      refine hk _ ?_
      refine DWp.reg false fun kk hk => ?_
      simp [hlt2]
      refine ⟨rowMsg_one _, ?_⟩
      refine hk _ ?_
      refine DWp.reg false fun kk hk => ?_
      simp
      refine CallAt.det false ent29 rfl (msgSame_c a[i] b[i] (hal _ (List.getElem_mem hlt))) ?_
      simp
      refine hk _ ?_
      refine DWp.condB ?_
      simp
      refine ⟨fun hT2 => ?_, fun hF2 => ?_⟩
      · simp [Tt] at hT2
        refine DWp.reg false fun kk hk => ?_
        simp
        refine hk _ ?_
        refine DWp.ret (hE _ ?_).2
        rw [decide_eq_false (show ¬ a = b from fun e => by subst e; simp at hT2)]
        simp
      · simp [Ff] at hF2
        refine DWp.skip ?_
        refine hk5 _ ?_
        refine DWp.regionV false ?_
        simp
        have i1 : IntKind.i64.wrap ((i : Int) + 1) = ((i + 1 : Nat) : Int) := by rw [i64_in _ (by omega)]; omega
        refine hkl3 _ (i + 1) ⟨by omega, take_step hlt hlt2 htk (by simpa using hF2)⟩ (by omega) (Sub.of [] ⟨rfl, rfl, by simp, by simp, by simp [i1], by simp⟩)
    · simp [Ff] at hF1
      obtain rfl : i = a.length := by omega
      refine DWp.exit ?_
      simp
      refine hk2 _ ?_
      refine DWp.reg false fun kk hk => ?_
      simp
      refine hk _ ?_
      refine DWp.ret (hE _ ?_).2
      rw [decide_eq_true (eq_of_takes htk hlen)]
      simp
theorem vSame_c (a b : List Msg) (ha : a.length ≤ 4611686018427387903) (hal : ∀ x ∈ a, fitM x) : FnWp Try.prog 14 [encMsgs a, encMsgs b] (· = .ret (.bool (decide (a = b)))) := by
  refine FnWp.intro' Try.func14 rfl (by simp [Try.ntmps14]) fun E hE => ?_
  refine DWp.reg false fun kk hk => ?_
  simp
  refine hk _ ?_
  refine DWp.reg false fun kk hk => ?_
  simp
  refine CallAt.det false ent28 rfl (eqMs_c a b ha hal) ?_
  simp
  refine hk _ ?_
  refine DWp.ret (hE _ ?_).2
  simp
end Go.Bf
