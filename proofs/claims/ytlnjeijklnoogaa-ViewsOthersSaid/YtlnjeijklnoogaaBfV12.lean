/-
  Views: what is sent to others. Printed by program (v12.py). Nothing is claimed here.
-/
import Derived.Test.YtlnjeijklnoogaaBfV11
set_option maxRecDepth 100000
set_option maxHeartbeats 16000000
namespace Go.Bf
open Go Go.RowKit Go.Proofs Go.IntWalk
attribute [local simp] maxLen encMsgs take_rowMsg take_rowMsgD spl_msg rowMsg_one'
theorem cF_take (l : List Msg) (k : Nat) : (List.take k (l.map (List.map SV.d ∘ rowMsg))).flatten = cF rowMsg (l.take k) := by rw [← List.map_take, cF_flat]
theorem cF_drop (l : List Msg) (k : Nat) : (List.drop k (l.map (List.map SV.d ∘ rowMsg))).flatten = cF rowMsg (l.drop k) := by rw [← List.map_drop, cF_flat]
theorem sum43 (l : List Msg) {k : Nat} (h : k ≤ l.length) : (List.take k (l.map fun _ => 43)).sum = k * 43 := by
  rw [← List.map_take, List.map_const', List.sum_replicate_nat, List.length_take, Nat.min_eq_left h]
theorem wide_take (l : List Msg) (k : Nat) : Wide 43 (List.take k (l.map rowMsg)) := fun r hr => wide_msg l r (List.mem_of_mem_take hr)
theorem wide_drop (l : List Msg) (k : Nat) : Wide 43 (List.drop k (l.map rowMsg)) := fun r hr => wide_msg l r (List.mem_of_mem_drop hr)
theorem seen_ins (l : List Msg) (m : Msg) (id : Int) (k : Nat) : seenD (l.take k ++ m :: l.drop k) id = if m.to = id then seenD (l.take k) id ++ m :: seenD (l.drop k) id else seenD l id := by
  have h : seenD l id = seenD (l.take k) id ++ seenD (l.drop k) id := by
    rw [seenD, seenD, seenD, ← List.filter_append, List.take_append_drop]
  rw [h]
  simp only [seenD, List.filter_append, List.filter_cons]
  by_cases e : m.to = id <;> simp [e]
theorem seen_len (l : List Msg) (id : Int) (k : Nat) : (seenD (l.take k) id).length + (seenD (l.drop k) id).length = (seenD l id).length := by
  rw [seenD, seenD, seenD, ← List.length_append, ← List.filter_append, List.take_append_drop]
theorem seen_idem (l : List Msg) (id : Int) : seenD (seenD l id) id = seenD l id := by simp [seenD]
theorem len_rm : (List.length ∘ List.map SV.d ∘ rowMsg) = fun _ => 43 := funext fun m => by simp
theorem ent4 : Enters Try.prog 4 := enters_of Try.func4 rfl rfl
theorem law_ViewsOthers (l : List Msg) (id at' : Int) (m : Msg) (hl : l.length ≤ 4611686018427387903) (hal : ∀ x ∈ l, fitM x) (ha : 0 ≤ at' ∧ at' ≤ 18446744073709551615) (hm : fitM m) : FnWp Try.prog 4 [encMsgs l, .int .i64 id, .int .u64 at', encMsg m] (· = .ret (.bool true)) := by
  refine FnWp.intro' Try.func4 rfl (by simp [Try.ntmps4]) fun E hE => ?_
  refine DWp.reg false fun kk hk => ?_
  simp [encMsg]
  refine ⟨rowMsg_one _, ?_⟩
  refine hk _ ?_
  refine DWp.seqK fun k1 hk1 => ?_
  refine DWp.reg false fun kk hk => ?_
  simp
  refine CallAt.det (ds := []) false ent6 rfl sane51_c ?_
  simp
  refine hk _ ?_
  refine DWp.condB ?_
  simp
  refine DWp.skip ?_
  refine hk1 _ ?_
  refine DWp.seqK fun k2 hk2 => ?_
  refine DWp.reg false fun kk hk => ?_
  simp
  refine CallAt.det false ent7 rfl (fewMs_c l hl hal) ?_
  simp
  refine CallAtG.det false ent18 rfl (fun _ => few_c m hm) ?_
  simp
  refine hk _ ?_
  refine DWp.condB ?_
  simp
  refine ⟨fun hT1 => ?_, fun hF1 => ?_⟩
  · simp [Tt] at hT1
    refine DWp.reg false fun kk hk => ?_
    simp
    refine hk _ ?_
    refine DWp.ret (hE _ ?_).2
    simp
  · simp [Ff] at hF1
    refine DWp.skip ?_
    refine hk2 _ ?_
    have hT : fewMs l = true ∧ fewD m = true := by simpa using hF1
    have hlen : l.length ≤ 12 := by have := hT.1; simp [fewMs] at this; exact this.2
    have w1 : IntKind.i64.wrap ((l.length : Int) + 1) = (l.length : Int) + 1 := i64_in _ (by omega)
    have w2 : IntKind.u64.wrap ((l.length : Int) + 1) = (l.length : Int) + 1 := u64_in _ (by omega)
    obtain ⟨k, hkle, hkv⟩ : ∃ k : Nat, k ≤ l.length ∧ IntKind.i64.wrap (at'.tmod ((l.length : Int) + 1)) = (k : Int) := by
      have e := Int.tmod_eq_emod_of_nonneg (b := (l.length : Int) + 1) ha.1
      have h1 := Int.emod_nonneg at' (b := (l.length : Int) + 1) (by omega)
      have h2 := Int.emod_lt_of_pos at' (b := (l.length : Int) + 1) (by omega)
      exact ⟨(at'.emod ((l.length : Int) + 1)).toNat, by have : (at'.emod ((l.length : Int) + 1)) = at' % ((l.length : Int) + 1) := rfl; omega, by rw [e, i64_in _ (by omega)]; exact (Int.toNat_of_nonneg h1).symm⟩
    refine DWp.reg false fun kk hk => ?_
    simp [w1, w2, hkv]
    refine ⟨by omega, ?_⟩
    refine hk _ ?_
    refine DWp.drawPR false [] (.take 1 (.take 2 (.take 8 (.take 9 (.takeP 3 [] (.takeP 5 [0] (.takeP 10 [] (.two 0 6 (.two 4 6 (.take 6 (.take 7 (.take 11 (.take 12 .done)))) (.take 4 (.take 7 (.take 11 (.take 12 .done))))) (.take 0 (.take 4 (.take 7 (.take 11 (.take 12 .done))))))))))))) mixed (by kernel_rfl) fun kk hk => ?_
    have hJ : ∀ (K' : Know) , Sub (Know.of 97 [(0, .d (encMsgs l)), (1, .d (.int .i64 id)), (7, .loc 0 0), (10, .own 1 43 0 (l.length + 1) none)] [(40, (rowMsg m).map .d), (22, cF rowMsg (l.take k ++ m :: l.drop k))]) K' → kk K' := by
      intro K'  hs
      refine hk _ (DWp.sub hs ?_)
      obtain ⟨M, hM⟩ : ∃ M, l.take k ++ m :: l.drop k = M := ⟨_, rfl⟩
      have hMl : M.length = l.length + 1 := by rw [← hM]; simp; omega
      have hMf : ∀ x ∈ M, fitM x := fun x hx => by rw [← hM] at hx; rcases List.mem_append.1 hx with h | h; exact hal x (List.mem_of_mem_take h); rcases List.mem_cons.1 h with h | h; exact h ▸ hm; exact hal x (List.mem_of_mem_drop h)
      rw [hM]
      have hTk : List.take (M.length * 43) (M.map rowMsg).flatten = (M.map rowMsg).flatten := List.take_of_length_le (Nat.le_of_eq (flat_lenF rowMsg_length M))
      refine DWp.sub (Sub.freeze 1 rfl (cF_allD _ _)) ?_
      refine DWp.sub (Sub.of (n := 97) (sl := [(0, .d (encMsgs l)), (1, .d (.int .i64 id)), (7, .loc 0 0), (10, .d (encMsgs M))]) (ml := [(40, (rowMsg m).map .d)]) [0] ⟨rfl, rfl, by simp, by simp, by simp [← hMl, hTk, flat_lenF rowMsg_length, chunk_flatF rowMsg_length], by simp⟩) ?_
      refine DWp.reg false fun kk hk => ?_
      simp
      refine CallAt.det false ent12 rfl (Seen_c l id (by omega)) ?_
      simp
      refine CallAt.det false ent12 rfl (Seen_c M id (by omega)) ?_
      simp
      refine hk _ ?_
      refine DWp.seqK fun k3 hk3 => ?_
      obtain ⟨X, hX⟩ : ∃ X, seenD l id = X := ⟨_, rfl⟩
      obtain ⟨Y, hY⟩ : ∃ Y, seenD M id = Y := ⟨_, rfl⟩
      have hXf : ∀ x ∈ X, fitM x := fun x hx => by rw [← hX] at hx; exact hal x ((List.mem_filter.1 hx).1)
      have hYf : ∀ x ∈ Y, fitM x := fun x hx => by rw [← hY] at hx; exact hMf x ((List.mem_filter.1 hx).1)
      have hXl : X.length ≤ 12 := by rw [← hX]; exact Nat.le_trans (List.length_filter_le _ _) hlen
      have hYl : Y.length ≤ 13 := by rw [← hY]; exact Nat.le_trans (List.length_filter_le _ _) (by omega)
      have hXY : Y = if m.to = id then seenD (l.take k) id ++ m :: seenD (l.drop k) id else X := by rw [← hY, ← hX, ← hM]; exact seen_ins l m id k
      refine DWp.sub (Sub.of (n := 97) (sl := [(1, .d (.int .i64 id)), (7, .loc 0 0), (11, .d (encMsgs X)), (12, .d (encMsgs Y))]) (ml := [(40, (rowMsg m).map .d)]) [0] ⟨rfl, rfl, by simp, by simp, by simp [hX, hY], by simp⟩) ?_
      refine DWp.reg false fun kk hk => ?_
      simp [rowMsg]
      refine hk _ ?_
      refine DWp.condB ?_
      simp
      refine ⟨fun hT2 => ?_, fun hF2 => ?_⟩
      · simp [Tt] at hT2
        have e : Y = X := by rw [hXY, if_neg hT2]
        refine DWp.reg false fun kk hk => ?_
        simp
        subst e
        refine CallAt.det false ent14 rfl (vSame_c Y Y (by omega) hYf) ?_
        simp
        refine CallAtG.det false ent14 rfl (fun _ => vSame_c Y Y (by omega) hYf) ?_
        simp
        refine hk _ ?_
        refine DWp.ret (hE _ ?_).2
        simp
      · simp [Ff] at hF2
        have hmi : m.to = id := by simpa using hF2
        have hYX : Y.length = X.length + 1 := by rw [hXY, if_pos hmi, ← hX, List.length_append, List.length_cons, ← seen_len l id k]; omega
        have wX : IntKind.i64.wrap ((X.length : Int) + 1) = (X.length : Int) + 1 := i64_in _ (by omega)
        have hYto : ∀ x ∈ Y, x.to = id := fun x hx => by rw [← hY] at hx; simpa using (List.mem_filter.1 hx).2
        have hsX : seenD X id = X := by rw [← hX]; exact seen_idem l id
        have hne : decide (X = Y) = false := decide_eq_false fun e => by rw [e] at hYX; omega
        refine DWp.skip ?_
        refine hk3 _ ?_
        refine DWp.seqK fun k4 hk4 => ?_
        refine DWp.reg false fun kk hk => ?_
        simp [wX, hYX]
        refine CallAtG.det false ent14 rfl (fun _ => vSame_c X Y (by omega) hXf) ?_
        simp [hne, hYX, wX]
        refine hk _ ?_
        refine DWp.condB ?_
        simp
        refine DWp.skip ?_
        refine hk4 _ ?_
        refine DWp.seqK fun k5 hk5 => ?_
        refine DWp.reg false fun kk hk => ?_
        simp
        refine hk _ ?_
        refine DWp.block ?_
        refine DWp.loopK (fun i : Nat => Know.of 97 [(1, .d (.int .i64 id)), (11, .d (encMsgs X)), (12, .d (encMsgs Y)), (13, .d (.int .i64 i))] [])
          (fun i => i ≤ Y.length) (fun i => Y.length - i) 0 (Sub.of [] ⟨rfl, rfl, by simp, by simp, by simp, by simp⟩) (by simp) ?_
        rintro i hi kl6 hkl6
        refine DWp.seqK fun k7 hk7 => ?_
        refine DWp.reg false fun kk hk => ?_
        simp
        refine hk _ ?_
        refine DWp.condB ?_
        simp
        refine ⟨fun hT4 => ?_, fun hF4 => ?_⟩
        · simp [Tt] at hT4
          have hlt : i < Y.length := by omega
          have hto : Y[i].to = id := hYto _ (List.getElem_mem hlt)
          refine DWp.skip ?_
          refine hk7 _ ?_
          refine DWp.seqK fun k8 hk8 => ?_
          refine DWp.block ?_
          refine DWp.reg false fun kk hk => ?_
          simp [hlt, rowMsg]
          refine ⟨Y[i].sg.2, ?_⟩
          refine hk _ ?_
          refine DWp.condB ?_
          simp [hto]
          refine DWp.skip ?_
          refine hk8 _ ?_
          refine DWp.regionV false ?_
          simp
          have i1 : IntKind.i64.wrap ((i : Int) + 1) = ((i + 1 : Nat) : Int) := by rw [i64_in _ (by omega)]; omega
          refine hkl6 _ (i + 1) (by omega) (by omega) (Sub.of [] ⟨rfl, rfl, by simp, by simp, by simp [i1], by simp⟩)
        · simp [Ff] at hF4
          refine DWp.exit ?_
          simp
          refine hk5 _ ?_
          refine DWp.reg false fun kk hk => ?_
          simp
          refine CallAt.det false ent14 rfl (vSame_c Y Y (by omega) hYf) ?_
          simp
          refine CallAtG.det false ent12 rfl (fun _ => Seen_c X id (by omega)) ?_
          simp
          refine hk _ ?_
          refine DWp.ret (hE _ ?_).2
          simp [hsX]
    simp [-DV.one, len_rm, Nat.min_eq_left hkle]
    have hlk : k + 1 + (l.length - k) = l.length + 1 := by omega
    rw [hlk]
    refine ⟨⟨hkle, wide_msg l⟩, ?_⟩
    repeat' apply And.intro
    all_goals first | exact hJ _ (Sub.of [0, 5] ⟨rfl, rfl, by simp, by simp, by simp, by simp [cF_take, cF_drop, cF_append, cF_cons]⟩) | exact wide_take l k | exact wide_drop l k | exact sum43 l hkle | (rw [sum43 l hkle]; omega) | omega | rfl
end Go.Bf
