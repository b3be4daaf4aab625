/-
  Views: the reference, messages. Printed by program (v16.py). Nothing is claimed here.
-/
import Derived.Test.YtlnjeijklnoogaaBfV15
set_option maxRecDepth 100000
set_option maxHeartbeats 16000000
namespace Go.Bf
open Go Go.RowKit Go.Proofs Go.IntWalk
attribute [local simp] maxLen
/-- What is small enough, as it is tested. -/
def okTb (r : Rl) : Bool := decide (r.1.length ≤ 10) && decide (r.2.length ≤ 12) && r.2.all fun x => decide (x.length ≤ 12)
theorem okTb_iff (r : Rl) : okTb r = true ↔ okT r := by simp [okTb, okT, and_assoc]
def fewRs (l : List Rl) : Bool := l.all okTb && decide (l.length ≤ 12)
theorem fewRs_bad {l : List Rl} {i : Nat} (hi : i < l.length) (h : ¬ okT l[i]) : fewRs l = false := by
  rw [fewRs, Bool.and_eq_false_iff]; left
  rw [List.all_eq_false]
  exact ⟨l[i], List.getElem_mem hi, fun e => h ((okTb_iff _).1 e)⟩
theorem fewRs_good {l : List Rl} (h : ∀ i (hi : i < l.length), okT l[i]) : fewRs l = decide (l.length ≤ 12) := by
  rw [fewRs, List.all_eq_true.2 fun x hx => by obtain ⟨i, hi, rfl⟩ := List.mem_iff_getElem.1 hx; exact (okTb_iff _).2 (h i hi)]; rfl
theorem fewRs_spec {l : List Rl} (h : fewRs l = true) : l.length ≤ 12 ∧ ∀ r ∈ l, okT r := by
  rw [fewRs, Bool.and_eq_true, List.all_eq_true] at h
  exact ⟨by simpa using h.2, fun r hr => (okTb_iff r).1 (h.1 r hr)⟩
theorem seen_le (l : List Msg) (id : Int) (i : Nat) (hl : l.length ≤ 100000) : (seenD (l.take i) id).length ≤ 100000 := by
  have h1 := List.length_filter_le (fun m : Msg => decide (m.to = id)) (l.take i)
  have h2 : (l.take i).length ≤ l.length := by rw [List.length_take]; omega
  rw [seenD]; omega
section
attribute [local simp] encRels rowRel encI encII rowI rowII
theorem fewRs_c (l : List Rl) (hl : l.length ≤ 4611686018427387903) (hal : ∀ x ∈ l, fitRs x) : FnWp Try.prog 8 [encRels l] (· = .ret (.bool (fewRs l))) := by
  refine FnWp.intro' Try.func8 rfl (by simp [Try.ntmps8]) fun E hE => ?_
  refine DWp.reg false fun kk hk => ?_
  simp
  refine hk _ ?_
  refine DWp.seqK fun k1 hk1 => ?_
  refine DWp.reg false fun kk hk => ?_
  simp
  refine hk _ ?_
  refine DWp.block ?_
  refine DWp.loopK (fun i : Nat => Know.of 50 [(0, .d (encRels l)), (3, .d (.int .i64 i))] [])
    (fun i => i ≤ l.length ∧ ∀ j (hj : j < i) (h : j < l.length), okT l[j]) (fun i => l.length - i) 0 (Sub.of [] ⟨rfl, rfl, by simp, by simp, by simp, by simp⟩) ⟨by simp, fun j hj => by omega⟩ ?_
  rintro i ⟨hi, hall⟩ kl2 hkl2
  refine DWp.seqK fun k3 hk3 => ?_
  refine DWp.reg false fun kk hk => ?_
  simp
  refine hk _ ?_
  refine DWp.condB ?_
  simp
  refine ⟨fun hT0 => ?_, fun hF0 => ?_⟩
  · simp [Tt] at hT0
    have hlt : i < l.length := by omega
    have hfi := hal _ (List.getElem_mem hlt)
    refine DWp.skip ?_
    refine hk3 _ ?_
    refine DWp.seqK fun k4 hk4 => ?_
    refine DWp.block ?_
    refine DWp.seqK fun k5 hk5 => ?_
    refine DWp.reg false fun kk hk => ?_
    simp [hlt]
    refine hk _ ?_
    refine DWp.condB ?_
    simp
    refine ⟨fun hT1 => ?_, fun hF1 => ?_⟩
    · simp [Tt] at hT1
      refine DWp.reg false fun kk hk => ?_
      simp
      refine hk _ ?_
      refine DWp.ret (hE _ ?_).2
      rw [fewRs_bad hlt (fun h => by have := h.1; have := h.2.1; omega)]
      simp
    · simp [Ff] at hF1
      have h10 : l[i].1.length ≤ 10 := by omega
      have h12 : l[i].2.length ≤ 12 := by omega
      refine DWp.skip ?_
      refine hk5 _ ?_
      refine DWp.reg false fun kk hk => ?_
      simp
      refine hk _ ?_
      refine DWp.block ?_
      refine DWp.loopK (fun k : Nat => Know.of 50 [(0, .d (encRels l)), (3, .d (.int .i64 i)), (4, .d (.int .i64 k))] [])
        (fun k => k ≤ l[i].2.length ∧ ∀ j (hj : j < k) (h : j < l[i].2.length), l[i].2[j].length ≤ 12) (fun k => l[i].2.length - k) 0 (Sub.of [] ⟨rfl, rfl, by simp, by simp, by simp, by simp⟩) ⟨by simp, fun j hj => by omega⟩ ?_
      rintro k ⟨hk, hin⟩ kl6 hkl6
      refine DWp.seqK fun k7 hk7 => ?_
      refine DWp.reg false fun kk hk => ?_
      simp [hlt]
      refine hk _ ?_
      refine DWp.condB ?_
      simp
      refine ⟨fun hT2 => ?_, fun hF2 => ?_⟩
      · simp [Tt] at hT2
        have hlk : k < l[i].2.length := by omega
        refine DWp.skip ?_
        refine hk7 _ ?_
        refine DWp.seqK fun k8 hk8 => ?_
        refine DWp.block ?_
        refine DWp.reg false fun kk hk => ?_
        simp [hlt, hlk]
        refine hk _ ?_
        refine DWp.condB ?_
        simp
        refine ⟨fun hT3 => ?_, fun hF3 => ?_⟩
        · simp [Tt] at hT3
          refine DWp.reg false fun kk hk => ?_
          simp
          refine hk _ ?_
          refine DWp.ret (hE _ ?_).2
          rw [fewRs_bad hlt (fun h => by have := h.2.2 _ (List.getElem_mem hlk); omega)]
          simp
        · simp [Ff] at hF3
          refine DWp.skip ?_
          refine hk8 _ ?_
          refine DWp.regionV false ?_
          simp
          have k1 : IntKind.i64.wrap ((k : Int) + 1) = ((k + 1 : Nat) : Int) := by rw [i64_in _ (by omega)]; omega
          refine hkl6 _ (k + 1) ⟨by omega, fun j hj h => ?_⟩ (by omega) (Sub.of [] ⟨rfl, rfl, by simp, by simp, by simp [k1], by simp⟩)
          by_cases e : j = k
          · subst e; omega
          · exact hin j (by omega) h
      · simp [Ff] at hF2
        obtain rfl : k = l[i].2.length := by omega
        refine DWp.exit ?_
        simp
        refine hk4 _ ?_
        refine DWp.regionV false ?_
        simp
        have i1 : IntKind.i64.wrap ((i : Int) + 1) = ((i + 1 : Nat) : Int) := by rw [i64_in _ (by omega)]; omega
        refine hkl2 _ (i + 1) ⟨by omega, fun j hj h => ?_⟩ (by omega) (Sub.of [] ⟨rfl, rfl, by simp, by simp, by simp [i1], by simp⟩)
        by_cases e : j = i
        · subst e; exact ⟨h10, h12, fun x hx => by obtain ⟨q, hq, rfl⟩ := List.mem_iff_getElem.1 hx; exact hin q (by omega) hq⟩
        · exact hall j (by omega) h
  · simp [Ff] at hF0
    obtain rfl : i = l.length := by omega
    refine DWp.exit ?_
    simp
    refine hk1 _ ?_
    refine DWp.reg false fun kk hk => ?_
    simp
    refine hk _ ?_
    refine DWp.ret (hE _ ?_).2
    rw [fewRs_good fun j hj => hall j hj hj]
    simp
    exact ⟨fun h => by omega, fun h => by omega⟩
end
attribute [local simp] encMsgs take_rowMsg take_rowMsgD spl_msg rowMsg_one'
theorem refSeen_c (l : List Msg) (id : Int) (hl : l.length ≤ 100000) : FnWp Try.prog 13 [encMsgs l, .int .i64 id] (· = .ret (encMsgs (seenD l id))) := by
  refine FnWp.intro' Try.func13 rfl (by simp [Try.ntmps13]) fun E hE => ?_
  refine DWp.reg false fun kk hk => ?_
  simp
  refine hk _ ?_
  refine DWp.reg false fun kk hk => ?_
  simp
  refine hk _ ?_
  refine DWp.seqK fun k1 hk1 => ?_
  refine DWp.reg false fun kk hk => ?_
  simp
  refine hk _ ?_
  refine DWp.block ?_
  refine DWp.loopK (fun q : Nat × Option Nat => Know.of 29 [(0, .d (encMsgs l)), (1, .d (.int .i64 id)), (5, .own 0 43 0 (seenD (l.take q.1) id).length q.2), (6, .d (.int .i64 q.1))] [(22, cF rowMsg (seenD (l.take q.1) id))])
    (fun q => q.1 ≤ l.length) (fun q => l.length - q.1) (0, some 0) (Sub.of [0] ⟨rfl, rfl, by simp, by simp, by simp [seenD], by simp [seenD]⟩) (by simp) ?_
  rintro ⟨i, c⟩ hi kl2 hkl2
  simp only at hi ⊢
  refine DWp.seqK fun k3 hk3 => ?_
  refine DWp.reg false fun kk hk => ?_
  simp
  refine hk _ ?_
  refine DWp.condB ?_
  simp
  refine ⟨fun hT0 => ?_, fun hF0 => ?_⟩
  · simp [Tt] at hT0
    have hlt : i < l.length := by omega
    have hSl : (seenD (l.take i) id).length ≤ 100000 := seen_le l id i hl
    have hst := seen_take l id hlt
    obtain ⟨X, hX⟩ : ∃ X, seenD (l.take i) id = X := ⟨_, rfl⟩
    rw [hX] at hSl hst ⊢
    refine DWp.skip ?_
    refine hk3 _ ?_
    refine DWp.seqK fun k4 hk4 => ?_
    refine DWp.block ?_
    refine DWp.reg false fun kk hk => ?_
    simp [hlt, rowMsg]
    refine ⟨l[i].sg.2, ?_⟩
    refine hk _ ?_
    refine DWp.condB ?_
    simp
    refine ⟨fun hT1 => ?_, fun hF1 => ?_⟩
    · simp [Tt] at hT1
      have hst' : seenD (l.take (i + 1)) id = X ++ [l[i]] := by rw [hst, if_pos hT1]
      refine DWp.regionV false ?_
      simp [-DV.one, hlt, cF_length rowMsg_length]
      refine ⟨⟨by omega, by omega⟩, ?_⟩
      refine hk4 _ ?_
      refine DWp.regionV false ?_
      simp
      have i1 : IntKind.i64.wrap ((i : Int) + 1) = ((i + 1 : Nat) : Int) := by rw [i64_in _ (by omega)]; omega
      refine hkl2 _ (i + 1, none) (by simp only; omega) (by simp only; omega) (Sub.of [2] ⟨rfl, rfl, by simp, by simp, by simp [i1, hst'], by simp [hst', cF_append, cF_one]⟩)
    · simp [Ff] at hF1
      have hst' : seenD (l.take (i + 1)) id = X := by rw [hst, if_neg hF1, List.append_nil]
      refine DWp.skip ?_
      refine hk4 _ ?_
      refine DWp.regionV false ?_
      simp
      have i1 : IntKind.i64.wrap ((i : Int) + 1) = ((i + 1 : Nat) : Int) := by rw [i64_in _ (by omega)]; omega
      refine hkl2 _ (i + 1, c) (by simp only; omega) (by simp only; omega) (Sub.of [0] ⟨rfl, rfl, by simp, by simp, by simp [i1, hst'], by simp [hst', cF_append, cF_one]⟩)
  · simp [Ff] at hF0
    obtain rfl : i = l.length := by omega
    rw [List.take_length]
    refine DWp.exit ?_
    simp
    refine hk1 _ ?_
    refine DWp.reg false fun kk hk => ?_
    simp
    refine hk _ ?_
    refine DWp.ret (hE _ ?_).2
    obtain ⟨X, hX⟩ : ∃ X, seenD l id = X := ⟨_, rfl⟩
    rw [hX]
    have hTk : List.take (X.length * 43) (cF rowMsg X) = cF rowMsg X := List.take_of_length_le (Nat.le_of_eq (cF_length rowMsg_length X))
    simp [hTk, flat_lenF rowMsg_length, chunk_flatF rowMsg_length]
theorem same47_c (a b : Msg) (ha : fitM a) : FnWp Try.prog 24 [encMsg a, encMsg b] (· = .ret (.bool (decide (a = b)))) := by
  refine FnWp.intro' Try.func24 rfl (by simp [Try.ntmps24]) fun E hE => ?_
  refine DWp.reg false fun kk hk => ?_
  simp [encMsg, rowMsg, a.sg.2, b.sg.2]
  refine ⟨⟨rfl, rfl, rfl, fun x _ => rfl⟩, ⟨rfl, rfl, rfl, fun x _ => rfl⟩, ?_⟩
  refine hk _ ?_
  refine DWp.seqK fun k1 hk1 => ?_
  have hA : List.take 32 (a.sg.1.map (SV.d ∘ cB)) = a.sg.1.map (SV.d ∘ cB) := List.take_of_length_le (by simp [a.sg.2])
  have hB : List.take 32 (b.sg.1.map (SV.d ∘ cB)) = b.sg.1.map (SV.d ∘ cB) := List.take_of_length_le (by simp [b.sg.2])
  have hsA := a.sg.2
  have hsB := b.sg.2
  refine DWp.reg false fun kk hk => ?_
  simp [hA, hB, hsA, hsB, u8_map, u8_map', toNat_inj]
  refine hk _ ?_
  refine DWp.condB ?_
  simp
  refine ⟨fun hT0 => ?_, fun hF0 => ?_⟩
  · simp [Tt] at hT0
    refine DWp.reg false fun kk hk => ?_
    simp
    refine hk _ ?_
    refine DWp.ret (hE _ ?_).2
    rw [decide_eq_false (fun e : a = b => by subst e; simp at hT0)]
    simp
  · simp [Ff] at hF0
    refine DWp.skip ?_
    refine hk1 _ ?_
    refine DWp.reg false fun kk hk => ?_
    simp
    refine CallAt.det false ent50 rfl (sameI_c a.labels b.labels ha.1) ?_
    simp
    refine CallAtG.det false ent50 rfl (fun _ => sameI_c a.verdicts b.verdicts ha.2.1) ?_
    simp
    refine CallAtG.det false ent15 rfl (fun _ => sameRs_c a.rels b.rels ha.2.2.1 ha.2.2.2) ?_
    simp
    refine hk _ ?_
    refine DWp.ret (hE _ ?_).2
    simp [msg_iff, hF0, Bool.and_assoc]
theorem refSame_c (a b : List Msg) (ha : a.length ≤ 4611686018427387903) (hal : ∀ x ∈ a, fitM x) : FnWp Try.prog 11 [encMsgs a, encMsgs b] (· = .ret (.bool (decide (a = b)))) := by
  refine FnWp.intro' Try.func11 rfl (by simp [Try.ntmps11]) fun E hE => ?_
  refine DWp.reg false fun kk hk => ?_
  simp
  refine hk _ ?_
  refine DWp.seqK fun k1 hk1 => ?_
  refine DWp.reg false fun kk hk => ?_
  simp
  refine hk _ ?_
  refine DWp.condB ?_
  simp
  refine ⟨fun hT0 => ?_, fun hF0 => ?_⟩
  · simp [Tt] at hT0
    refine DWp.reg false fun kk hk => ?_
    simp
    refine hk _ ?_
    refine DWp.ret (hE _ ?_).2
    rw [decide_eq_false (show ¬ a = b from fun e => by subst e; simp at hT0)]
    simp
  · simp [Ff] at hF0
    refine DWp.skip ?_
    refine hk1 _ ?_
    refine DWp.seqK fun k2 hk2 => ?_
    refine DWp.reg false fun kk hk => ?_
    simp
    refine hk _ ?_
    refine DWp.block ?_
    have hlen : a.length = b.length := by omega
    refine DWp.loopK (fun i : Nat => Know.of 27 [(0, .d (encMsgs a)), (1, .d (encMsgs b)), (5, .d (.int .i64 i))] [])
      (fun i => i ≤ a.length ∧ a.take i = b.take i) (fun i => a.length - i) 0 (Sub.of [] ⟨rfl, rfl, by simp, by simp, by simp, by simp⟩) (by simp) ?_
    rintro i ⟨hi, htk⟩ kl3 hkl3
    refine DWp.seqK fun k4 hk4 => ?_
    refine DWp.reg false fun kk hk => ?_
    simp
    refine hk _ ?_
    refine DWp.condB ?_
    simp
    refine ⟨fun hT1 => ?_, fun hF1 => ?_⟩
    · simp [Tt] at hT1
      have hlt : i < a.length := by omega
      have hlt2 : i < b.length := by omega
      refine DWp.skip ?_
      refine hk4 _ ?_
      refine DWp.seqK fun k5 hk5 => ?_
      refine DWp.block ?_
      refine DWp.drawPR false [] (.take 0 (.take 1 (.take 2 (.take 3 (.take 4 (.take 5 (.take 6 (.take 7 (.take 8 (.take 9 .done)))))))))) mixed (by kernel_rfl) fun kk hk => ?_
      simp [hlt, hlt2]
      refine DetCall.intro (ds := [encMsg a[i], encMsg b[i]]) ent24 rfl (fun _ => same47_c a[i] b[i] (hal _ (List.getElem_mem hlt))) ?_
      simp [hlt, hlt2]
      refine hk _ ?_
      refine DWp.condB ?_
      simp
      refine ⟨fun hT2 => ?_, fun hF2 => ?_⟩
      · simp [Tt] at hT2
        refine DWp.reg false fun kk hk => ?_
        simp
        refine hk _ ?_
        refine DWp.ret (hE _ ?_).2
        rw [decide_eq_false (show ¬ a = b from fun e => by subst e; simp at hT2)]
        simp
      · simp [Ff] at hF2
        refine DWp.skip ?_
        refine hk5 _ ?_
        refine DWp.regionV false ?_
        simp
        have i1 : IntKind.i64.wrap ((i : Int) + 1) = ((i + 1 : Nat) : Int) := by rw [i64_in _ (by omega)]; omega
        refine hkl3 _ (i + 1) ⟨by omega, take_step hlt hlt2 htk (by simpa using hF2)⟩ (by omega) (Sub.of [] ⟨rfl, rfl, by simp, by simp, by simp [i1], by simp⟩)
    · simp [Ff] at hF1
      obtain rfl : i = a.length := by omega
      refine DWp.exit ?_
      simp
      refine hk2 _ ?_
      refine DWp.reg false fun kk hk => ?_
      simp
      refine hk _ ?_
      refine DWp.ret (hE _ ?_).2
      rw [decide_eq_true (eq_of_takes htk hlen)]
      simp
end Go.Bf
