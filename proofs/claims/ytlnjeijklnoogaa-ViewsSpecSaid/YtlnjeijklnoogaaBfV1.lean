/-
  Views: the lists of a relation, by labels. Printed by program (v1.py). Nothing is claimed here.
-/
import Derived.Test.YtlnjeijklnoogaaFwC
import Derived.Test.YtlnjeijklnoogaaBfTy
import Derived.Test.YtlnjeijklnoogaaBfV0
set_option maxRecDepth 100000
set_option maxHeartbeats 8000000
namespace Go.Bf
open Go Go.RowKit Go.Proofs Go.IntWalk
attribute [local simp] encI encII encRel rowI rowII maxLen
def lmem (out : List Int) (ins : List (List Int)) (L : List (Int × List Int)) : Mem := fun b =>
  if b = 0 then .live 45 [.d (encI out), .d (encII ins)] else if b = 1 then .mp (.map (outerE L)) else match L[b - 2]? with | some p => .mp (.map (innerE p.2)) | none => .unborn
theorem lmem_0 (out : List Int) (ins : List (List Int)) (L : List (Int × List Int)) : lmem out ins L 0 = .live 45 [.d (encI out), .d (encII ins)] := rfl
theorem lmem_1 (out : List Int) (ins : List (List Int)) (L : List (Int × List Int)) : lmem out ins L 1 = .mp (.map (outerE L)) := rfl
theorem lmem_at {out : List Int} {ins : List (List Int)} {L : List (Int × List Int)} {j : Nat} {p : Int × List Int} (h : L[j]? = some p) : lmem out ins L (j + 2) = .mp (.map (innerE p.2)) := by
  simp [lmem, h]
attribute [local simp] lmem_0 lmem_1
theorem lmem_start (out : List Int) (ins : List (List Int)) (b : Nat) : lmem out ins [] b = if b = 1 then .mp (.map []) else if b = 0 then .live 45 [.d (encI out), .d (encII ins)] else .unborn := by
  unfold lmem
  by_cases h0 : b = 0
  · subst h0; simp
  · by_cases h1 : b = 1 <;> simp [h0, h1, outerE]
theorem lmem_new (out : List Int) (ins : List (List Int)) (L : List (Int × List Int)) (a : Int) (b : Nat) : lmem out ins (L ++ [(a, [])]) b = if b = 1 then .mp (.map (outerE (L ++ [(a, [])]))) else if b = L.length + 2 then .mp (.map []) else lmem out ins L b := by
  unfold lmem
  by_cases h0 : b = 0
  · subst h0; simp
  · by_cases h1 : b = 1
    · subst h1; simp
    · simp only [h0, h1, if_false]
      rw [List.getElem?_append]
      by_cases h2 : b = L.length + 2
      · subst h2; simp [innerE]
      · rw [if_neg h2]
        by_cases h3 : b - 2 < L.length
        · rw [if_pos h3]
        · rw [if_neg h3, List.getElem?_eq_none (l := [(a, [])]) (by simp; omega), List.getElem?_eq_none (l := L) (by omega)]
theorem lmem_set (out : List Int) (ins : List (List Int)) (L : List (Int × List Int)) (j : Nat) (a : Int) (l l' : List Int) (h : L[j]? = some (a, l)) (b : Nat) : lmem out ins (L.set j (a, l')) b = if b = j + 2 then .mp (.map (innerE l')) else lmem out ins L b := by
  have hlt := (List.getElem?_eq_some_iff.1 h).1
  unfold lmem
  by_cases h0 : b = 0
  · subst h0; simp
  · by_cases h1 : b = 1
    · subst h1; simp [outerE_set h]
    · simp only [h0, h1, if_false]
      rw [List.getElem?_set]
      by_cases h2 : b = j + 2
      · subst h2; simp [hlt]
      · rw [if_neg h2, if_neg (by omega)]
theorem snap_lists (out : List Int) (ins : List (List Int)) (L : List (Int × List Int)) : snapD (lmem out ins L) 6 (.mp 1) = some (encMM L) := by
  rw [snapD, lmem_1]
  simp only
  have hk : (outerE L).map (·.1) = L.map fun p => DV.int .i64 p.1 := outerE_keys L
  have hv : ((outerE L).map (·.2)).mapM (snapD (lmem out ins L) 5) = some (L.map fun p => encMB p.2) := by
    refine mapM_some _ _ (by simp [outerE]) fun i s d hs hd => ?_
    rw [List.getElem?_map, Option.map_eq_some_iff] at hs hd
    obtain ⟨q, hq, rfl⟩ := hs
    obtain ⟨p, hp, rfl⟩ := hd
    rw [outerE_get hp] at hq
    cases hq
    rw [snapD, lmem_at hp]
    simp only
    have e1 : (innerE p.2).map (·.2) = p.2.map fun _ => SV.d (DV.bool true) := by simp [innerE, Function.comp_def]
    rw [e1, allD_map (fun _ => DV.bool true) p.2]
    simp only [encMB, innerE, List.map_map, Function.comp_def]
    rw [zip_map_self]
  have z : ((outerE L).map (·.1)).zip (L.map fun p => encMB p.2) = L.map fun p => (DV.int .i64 p.1, encMB p.2) := by rw [hk, zip_map_self]
  split
  · rename_i ds hds
    have h2 := allD_eq hds
    have h3 : L = [] := by
      cases L with
      | nil => rfl
      | cons p L => cases ds <;> simp [outerE] at h2
    subst h3
    have : ds = [] := by simpa [outerE] using h2
    subst this; rfl
  · rw [hv, Option.map_some, z]; rfl
theorem ent43 : Enters Try.prog 43 := enters_of Try.func43 rfl rfl
theorem lists_c (out : List Int) (ins : List (List Int)) (hb : out.length ≤ 4611686018427387903) (hc : ∀ l ∈ ins, l.length ≤ 4611686018427387903) : FnWp Try.prog 43 [encRel (out, ins)] (· = .ret (encMM (listsN out ins out.length))) := by
  refine FnWp.intro' Try.func43 rfl (by simp [Try.ntmps43]) fun E hE => ?_
  refine DWp.reg false fun kk hk => ?_
  simp
  refine hk _ ?_
  refine DWp.reg false fun kk hk => ?_
  simp
  refine hk _ ?_
  refine DWp.seqK fun k1 hk1 => ?_
  refine DWp.reg false fun kk hk => ?_
  simp
  refine hk _ ?_
  refine DWp.block ?_
  refine DWp.loopK (fun i : Nat => KM 46 ((listsN out ins i).length + 2) [(1, .loc 0 0), (3, .mp 1), (10, .d (encI out)), (11, .d (.int .i64 out.length)), (12, .d (.int .i64 i))] (lmem out ins (listsN out ins i)))
    (fun i => i ≤ out.length) (fun i => out.length - i) 0 (Sub.km rfl (by simp [listsN]) (by simp) (by simp [listsN, lmem_start]) rfl (by simp) rfl) (by simp) ?_
  rintro i hi kl2 hkl2
  obtain ⟨L, hL⟩ : ∃ L, listsN out ins i = L := ⟨_, rfl⟩
  rw [hL]
  refine DWp.reg false fun kk hk => ?_
  simp
  refine hk _ ?_
  refine DWp.seqK fun k3 hk3 => ?_
  refine DWp.condB ?_
  simp
  refine ⟨fun hT0 => ?_, fun hF0 => ?_⟩
  · simp [Tt] at hT0
    have hlt : i < out.length := by omega
    refine DWp.skip ?_
    refine hk3 _ ?_
    refine DWp.seqK fun k4 hk4 => ?_
    refine DWp.block ?_
    refine DWp.reg false fun kk hk => ?_
    simp [hlt]
    refine hk _ ?_
    refine DWp.seqK fun k5 hk5 => ?_
    rcases idx_cases L out[i] with ⟨h1, h2⟩ | ⟨j, l, h1, h2, h3⟩
    · refine DWp.reg false fun kk hk => ?_
      simp [h2]
      refine hk _ ?_
      refine DWp.condB ?_
      simp
      refine DWp.regionV false ?_
      simp [updE_outer h2, h2]
      refine hk5 _ ?_
      obtain ⟨L1, j, l0, hL1, hj, hg, hst⟩ := ensure_new h1 h2
      refine DWp.sub (Sub.km (n := 46) (nx := L1.length + 2) (sl := [(1, .loc 0 0), (3, .mp 1), (10, .d (encI out)), (11, .d (.int .i64 out.length)), (12, .d (.int .i64 i)), (4, .d (.int .i64 i)), (5, .d (.int .i64 out[i]))]) (m := lmem out ins L1) rfl (by simp [← hL1]) (by simp) (by simp [← hL1, lmem_new]) rfl (by simp) rfl) ?_
      refine DWp.reg false fun kk hk => ?_
      simp
      refine hk _ ?_
      refine DWp.condB ?_
      simp
      refine ⟨fun hT2 => ?_, fun hF2 => ?_⟩
      · simp [Tt] at hT2
        have hlt2 : i < ins.length := by omega
        have hcl := hc _ (List.getElem_mem hlt2)
        refine DWp.reg false fun kk hk => ?_
        simp [hlt2]
        refine hk _ ?_
        refine DWp.block ?_
        refine DWp.loopK (fun q : Nat => KM 46 (L1.length + 2) [(1, .loc 0 0), (3, .mp 1), (10, .d (encI out)), (11, .d (.int .i64 out.length)), (12, .d (.int .i64 i)), (4, .d (.int .i64 i)), (5, .d (.int .i64 out[i])), (33, .d (encI ins[i])), (34, .d (.int .i64 ins[i].length)), (35, .d (.int .i64 q))] (lmem out ins (L1.set j (out[i], (ins[i].take q).foldl addK l0))))
          (fun q => q ≤ ins[i].length) (fun q => ins[i].length - q) 0 (Sub.km rfl (by simp) (by simp) (by simp [set_same hj]) rfl (by simp) rfl) (by simp) ?_
        rintro q hq kl6 hkl6
        obtain ⟨cur, hcur⟩ : ∃ x, (ins[i].take q).foldl addK l0 = x := ⟨_, rfl⟩
        rw [hcur]
        have hjq := set_at (out[i], cur) hj
        refine DWp.reg false fun kk hk => ?_
        simp
        refine hk _ ?_
        refine DWp.seqK fun k7 hk7 => ?_
        refine DWp.condB ?_
        simp
        refine ⟨fun hT3 => ?_, fun hF3 => ?_⟩
        · simp [Tt] at hT3
          have hltq : q < ins[i].length := by omega
          refine DWp.skip ?_
          refine hk7 _ ?_
          refine DWp.seqK fun k8 hk8 => ?_
          refine DWp.block ?_
          refine DWp.reg false fun kk hk => ?_
          simp [hltq]
          refine hk _ ?_
          refine DWp.regionV false ?_
          simp [outerE_set hj, hg, lmem_at hjq, updE_inner]
          refine hk8 _ ?_
          refine DWp.regionV false ?_
          simp
          have i1 : IntKind.i64.wrap ((q : Int) + 1) = ((q + 1 : Nat) : Int) := by rw [i64_in _ (by omega)]; omega
          have hcur2 : (ins[i].take (q + 1)).foldl addK l0 = addK cur ins[i][q] := by rw [List.take_succ_eq_append_getElem hltq, List.foldl_append, hcur]; rfl
          refine hkl6 _ (q + 1) (by omega) (by omega) (Sub.km rfl (by simp) (by simp [i1]) (fun b => ?_) rfl (by simp) rfl)
          have h9 := lmem_set out ins _ j out[i] cur (addK cur ins[i][q]) hjq b
          rw [List.set_set] at h9
          rw [hcur2, h9]
          simp
        · simp [Ff] at hF3
          obtain rfl : q = ins[i].length := by omega
          rw [List.take_length] at hcur
          refine DWp.exit ?_
          simp
          refine hk4 _ ?_
          refine DWp.regionV false ?_
          simp
          have i1 : IntKind.i64.wrap ((i : Int) + 1) = ((i + 1 : Nat) : Int) := by rw [i64_in _ (by omega)]; omega
          have hs1 := hst ins[i]
          have hs2 : listsN out ins (i + 1) = stepL L out[i] ins[i] := by rw [listsN, hL, show out.getD i 0 = out[i] by simp [hlt], show ins.getD i [] = ins[i] from by simp [hlt2]]
          have hs3 := hs2.trans (hs1.trans (by rw [hcur]))
          refine hkl2 _ (i + 1) (by omega) (by omega) (Sub.km rfl (by rw [hs3]; try simp) (by simp [i1]) (fun b => by rw [hs3]; try simp) rfl (by simp) rfl)
      · simp [Ff] at hF2
        have hge2 : ins.length ≤ i := by omega
        refine DWp.skip ?_
        refine hk4 _ ?_
        refine DWp.regionV false ?_
        simp
        have i1 : IntKind.i64.wrap ((i : Int) + 1) = ((i + 1 : Nat) : Int) := by rw [i64_in _ (by omega)]; omega
        have hs1 := hst []
        have hs2 : listsN out ins (i + 1) = stepL L out[i] [] := by rw [listsN, hL, show out.getD i 0 = out[i] by simp [hlt], show ins.getD i [] = [] from by simp [hge2]]
        have hs3 := hs2.trans (hs1.trans (set_same hj))
        refine hkl2 _ (i + 1) (by omega) (by omega) (Sub.km rfl (by rw [hs3]; try simp) (by simp [i1]) (fun b => by rw [hs3]; try simp) rfl (by simp) rfl)
    · refine DWp.reg false fun kk hk => ?_
      simp [h2, lmem_at h1]
      refine hk _ ?_
      refine DWp.condB ?_
      simp
      refine DWp.skip ?_
      refine hk5 _ ?_
      obtain ⟨L1, j, l0, hL1, hj, hg, hst⟩ := ensure_old h1 h2 h3
      refine DWp.sub (Sub.km (n := 46) (nx := L1.length + 2) (sl := [(1, .loc 0 0), (3, .mp 1), (10, .d (encI out)), (11, .d (.int .i64 out.length)), (12, .d (.int .i64 i)), (4, .d (.int .i64 i)), (5, .d (.int .i64 out[i]))]) (m := lmem out ins L1) rfl (by simp [← hL1]) (by simp) (by simp [← hL1]) rfl (by simp) rfl) ?_
      refine DWp.reg false fun kk hk => ?_
      simp
      refine hk _ ?_
      refine DWp.condB ?_
      simp
      refine ⟨fun hT2 => ?_, fun hF2 => ?_⟩
      · simp [Tt] at hT2
        have hlt2 : i < ins.length := by omega
        have hcl := hc _ (List.getElem_mem hlt2)
        refine DWp.reg false fun kk hk => ?_
        simp [hlt2]
        refine hk _ ?_
        refine DWp.block ?_
        refine DWp.loopK (fun q : Nat => KM 46 (L1.length + 2) [(1, .loc 0 0), (3, .mp 1), (10, .d (encI out)), (11, .d (.int .i64 out.length)), (12, .d (.int .i64 i)), (4, .d (.int .i64 i)), (5, .d (.int .i64 out[i])), (33, .d (encI ins[i])), (34, .d (.int .i64 ins[i].length)), (35, .d (.int .i64 q))] (lmem out ins (L1.set j (out[i], (ins[i].take q).foldl addK l0))))
          (fun q => q ≤ ins[i].length) (fun q => ins[i].length - q) 0 (Sub.km rfl (by simp) (by simp) (by simp [set_same hj]) rfl (by simp) rfl) (by simp) ?_
        rintro q hq kl9 hkl9
        obtain ⟨cur, hcur⟩ : ∃ x, (ins[i].take q).foldl addK l0 = x := ⟨_, rfl⟩
        rw [hcur]
        have hjq := set_at (out[i], cur) hj
        refine DWp.reg false fun kk hk => ?_
        simp
        refine hk _ ?_
        refine DWp.seqK fun k10 hk10 => ?_
        refine DWp.condB ?_
        simp
        refine ⟨fun hT3 => ?_, fun hF3 => ?_⟩
        · simp [Tt] at hT3
          have hltq : q < ins[i].length := by omega
          refine DWp.skip ?_
          refine hk10 _ ?_
          refine DWp.seqK fun k11 hk11 => ?_
          refine DWp.block ?_
          refine DWp.reg false fun kk hk => ?_
          simp [hltq]
          refine hk _ ?_
          refine DWp.regionV false ?_
          simp [outerE_set hj, hg, lmem_at hjq, updE_inner]
          refine hk11 _ ?_
          refine DWp.regionV false ?_
          simp
          have i1 : IntKind.i64.wrap ((q : Int) + 1) = ((q + 1 : Nat) : Int) := by rw [i64_in _ (by omega)]; omega
          have hcur2 : (ins[i].take (q + 1)).foldl addK l0 = addK cur ins[i][q] := by rw [List.take_succ_eq_append_getElem hltq, List.foldl_append, hcur]; rfl
          refine hkl9 _ (q + 1) (by omega) (by omega) (Sub.km rfl (by simp) (by simp [i1]) (fun b => ?_) rfl (by simp) rfl)
          have h9 := lmem_set out ins _ j out[i] cur (addK cur ins[i][q]) hjq b
          rw [List.set_set] at h9
          rw [hcur2, h9]
          simp
        · simp [Ff] at hF3
          obtain rfl : q = ins[i].length := by omega
          rw [List.take_length] at hcur
          refine DWp.exit ?_
          simp
          refine hk4 _ ?_
          refine DWp.regionV false ?_
          simp
          have i1 : IntKind.i64.wrap ((i : Int) + 1) = ((i + 1 : Nat) : Int) := by rw [i64_in _ (by omega)]; omega
          have hs1 := hst ins[i]
          have hs2 : listsN out ins (i + 1) = stepL L out[i] ins[i] := by rw [listsN, hL, show out.getD i 0 = out[i] by simp [hlt], show ins.getD i [] = ins[i] from by simp [hlt2]]
          have hs3 := hs2.trans (hs1.trans (by rw [hcur]))
          refine hkl2 _ (i + 1) (by omega) (by omega) (Sub.km rfl (by rw [hs3]; try simp) (by simp [i1]) (fun b => by rw [hs3]; try simp) rfl (by simp) rfl)
      · simp [Ff] at hF2
        have hge2 : ins.length ≤ i := by omega
        refine DWp.skip ?_
        refine hk4 _ ?_
        refine DWp.regionV false ?_
        simp
        have i1 : IntKind.i64.wrap ((i : Int) + 1) = ((i + 1 : Nat) : Int) := by rw [i64_in _ (by omega)]; omega
        have hs1 := hst []
        have hs2 : listsN out ins (i + 1) = stepL L out[i] [] := by rw [listsN, hL, show out.getD i 0 = out[i] by simp [hlt], show ins.getD i [] = [] from by simp [hge2]]
        have hs3 := hs2.trans (hs1.trans (set_same hj))
        refine hkl2 _ (i + 1) (by omega) (by omega) (Sub.km rfl (by rw [hs3]; try simp) (by simp [i1]) (fun b => by rw [hs3]; try simp) rfl (by simp) rfl)
  · simp [Ff] at hF0
    obtain rfl : i = out.length := by omega
    refine DWp.exit ?_
    simp
    refine hk1 _ ?_
    refine DWp.reg false fun kk hk => ?_
    simp
    refine hk _ ?_
    refine DWp.ret (hE _ ?_).2
    simp [-snapD, snap_lists, hL]
end Go.Bf
