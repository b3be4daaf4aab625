/-
  Views: what is small. Printed by program (v10.py). Nothing is claimed here.
-/
import Derived.Test.YtlnjeijklnoogaaBfV9
set_option maxRecDepth 100000
set_option maxHeartbeats 16000000
namespace Go.Bf
open Go Go.RowKit Go.Proofs Go.IntWalk
attribute [local simp] maxLen encRels rowRel encI encII rowI rowII
/-- Sums as they are reckoned. -/
def ad (n : Int) (k : Nat) : Int := IntKind.i64.wrap (n + k)
def sumIn (n : Int) (l : List (List Int)) : Int := l.foldl (fun n x => ad n x.length) n
def sumRel (n : Int) (r : Rl) : Int := sumIn (ad (ad n r.1.length) r.2.length) r.2
def sumRels (n : Int) (l : List Rl) : Int := l.foldl sumRel n
def fewD (m : Msg) : Bool := decide (sumRels (ad (ad m.labels.length m.verdicts.length) m.rels.length) m.rels ≤ 300)
theorem sumIn_take (n : Int) (l : List (List Int)) {k : Nat} (h : k < l.length) : sumIn n (l.take (k + 1)) = IntKind.i64.wrap (sumIn n (l.take k) + l[k].length) := by
  rw [List.take_succ_eq_append_getElem h, sumIn, List.foldl_append]; rfl
theorem sumRels_take (n : Int) (l : List Rl) {k : Nat} (h : k < l.length) : sumRels n (l.take (k + 1)) = sumRel (sumRels n (l.take k)) l[k] := by
  rw [List.take_succ_eq_append_getElem h, sumRels, List.foldl_append]; rfl
def fewMs (l : List Msg) : Bool := (l.all fewD) && decide (l.length ≤ 12)
theorem fewMs_bad {l : List Msg} {i : Nat} (hi : i < l.length) (h : fewD l[i] = false) : fewMs l = false := by
  rw [fewMs, Bool.and_eq_false_iff]; left
  rw [List.all_eq_false]
  exact ⟨l[i], List.getElem_mem hi, by simp [h]⟩
theorem fewMs_good {l : List Msg} (h : ∀ i (hi : i < l.length), fewD l[i] = true) : fewMs l = decide (l.length ≤ 12) := by
  rw [fewMs, List.all_eq_true.2 fun x hx => by obtain ⟨i, hi, rfl⟩ := List.mem_iff_getElem.1 hx; exact h i hi]; rfl
theorem ent18 : Enters Try.prog 18 := enters_of Try.func18 rfl rfl
theorem ent7 : Enters Try.prog 7 := enters_of Try.func7 rfl rfl
theorem few_c (m : Msg) (hm : fitM m) : FnWp Try.prog 18 [encMsg m] (· = .ret (.bool (fewD m))) := by
  refine FnWp.intro' Try.func18 rfl (by simp [Try.ntmps18]) fun E hE => ?_
  refine DWp.reg false fun kk hk => ?_
  simp [encMsg, rowMsg, m.sg.2]
  refine ⟨fun x _ => rfl, ?_⟩
  refine hk _ ?_
  refine DWp.reg false fun kk hk => ?_
  simp
  refine hk _ ?_
  refine DWp.seqK fun k1 hk1 => ?_
  refine DWp.reg false fun kk hk => ?_
  simp
  refine hk _ ?_
  refine DWp.block ?_
  have hr := hm.2.2.1
  refine DWp.loopK (fun i : Nat => Know.of 66 [(1, .loc 0 0), (3, .d (.int .i64 (sumRels (ad (ad m.labels.length m.verdicts.length) m.rels.length) (m.rels.take i)))), (4, .d (.int .i64 i))] [(40, (rowMsg m).map .d)])
    (fun i => i ≤ m.rels.length) (fun i => m.rels.length - i) 0 (Sub.of [0] ⟨rfl, rfl, by simp, by simp, by simp [sumRels, ad], by simp [rowMsg]⟩) (by simp) ?_
  rintro i hi kl2 hkl2
  refine DWp.seqK fun k3 hk3 => ?_
  refine DWp.reg false fun kk hk => ?_
  simp [rowMsg]
  refine hk _ ?_
  refine DWp.condB ?_
  simp
  refine ⟨fun hT0 => ?_, fun hF0 => ?_⟩
  · simp [Tt] at hT0
    have hlt : i < m.rels.length := by omega
    refine DWp.skip ?_
    refine hk3 _ ?_
    refine DWp.seqK fun k4 hk4 => ?_
    refine DWp.block ?_
    refine DWp.drawPR false [] (.take 0 (.take 1 (.take 2 (.take 3 (.take 4 (.take 5 (.take 6 (.take 7 (.take 8 (.take 9 (.take 10 (.take 11 (.take 12 (.take 13 (.take 14 (.take 15 (.take 16 (.take 17 .done)))))))))))))))))) mixed (by kernel_rfl) fun kk hk => ?_
    simp [rowMsg, hlt]
    refine hk _ ?_
    refine DWp.reg false fun kk hk => ?_
    simp
    refine hk _ ?_
    refine DWp.block ?_
    have hr2 := (hm.2.2.2 _ (List.getElem_mem hlt)).2.1
    refine DWp.loopK (fun k : Nat => Know.of 66 [(1, .loc 0 0), (3, .d (.int .i64 (sumIn (ad (ad (sumRels (ad (ad m.labels.length m.verdicts.length) m.rels.length) (m.rels.take i)) m.rels[i].1.length) m.rels[i].2.length) (m.rels[i].2.take k)))), (4, .d (.int .i64 i)), (5, .d (.int .i64 k))] [(40, (rowMsg m).map .d)])
      (fun k => k ≤ m.rels[i].2.length) (fun k => m.rels[i].2.length - k) 0 (Sub.of [0] ⟨rfl, rfl, by simp, by simp, by simp [sumIn, ad], by simp [rowMsg]⟩) (by simp) ?_
    rintro k hk kl5 hkl5
    refine DWp.seqK fun k6 hk6 => ?_
    refine DWp.reg false fun kk hk => ?_
    simp [rowMsg, hlt]
    refine hk _ ?_
    refine DWp.condB ?_
    simp
    refine ⟨fun hT1 => ?_, fun hF1 => ?_⟩
    · simp [Tt] at hT1
      have hltk : k < m.rels[i].2.length := by omega
      refine DWp.skip ?_
      refine hk6 _ ?_
      refine DWp.seqK fun k7 hk7 => ?_
      refine DWp.block ?_
      refine DWp.regionV false ?_
      simp [rowMsg, hlt, hltk]
      refine hk7 _ ?_
      refine DWp.regionV false ?_
      simp
      have k1 : IntKind.i64.wrap ((k : Int) + 1) = ((k + 1 : Nat) : Int) := by rw [i64_in _ (by omega)]; omega
      refine hkl5 _ (k + 1) (by omega) (by omega) (Sub.of [0] ⟨rfl, rfl, by simp, by simp, by simp [k1, sumIn_take _ _ hltk], by simp [rowMsg]⟩)
    · simp [Ff] at hF1
      obtain rfl : k = m.rels[i].2.length := by omega
      rw [List.take_length]
      refine DWp.exit ?_
      simp
      refine hk4 _ ?_
      refine DWp.regionV false ?_
      simp
      have i1 : IntKind.i64.wrap ((i : Int) + 1) = ((i + 1 : Nat) : Int) := by rw [i64_in _ (by omega)]; omega
      refine hkl2 _ (i + 1) (by omega) (by omega) (Sub.of [0] ⟨rfl, rfl, by simp, by simp, by simp [i1, sumRels_take _ _ hlt, sumRel], by simp [rowMsg]⟩)
  · simp [Ff] at hF0
    obtain rfl : i = m.rels.length := by omega
    rw [List.take_length]
    refine DWp.exit ?_
    simp
    refine hk1 _ ?_
    refine DWp.reg false fun kk hk => ?_
    simp
    refine hk _ ?_
    refine DWp.ret (hE _ ?_).2
    simp [fewD]
attribute [local simp] encMsgs take_rowMsg take_rowMsgD spl_msg rowMsg_one'
theorem fewMs_c (l : List Msg) (hl : l.length ≤ 4611686018427387903) (hal : ∀ x ∈ l, fitM x) : FnWp Try.prog 7 [encMsgs l] (· = .ret (.bool (fewMs l))) := by
  refine FnWp.intro' Try.func7 rfl (by simp [Try.ntmps7]) fun E hE => ?_
  refine DWp.reg false fun kk hk => ?_
  simp
  refine hk _ ?_
  refine DWp.seqK fun k1 hk1 => ?_
  refine DWp.reg false fun kk hk => ?_
  simp
  refine hk _ ?_
  refine DWp.block ?_
  refine DWp.loopK (fun i : Nat => Know.of 19 [(0, .d (encMsgs l)), (3, .d (.int .i64 i))] [])
    (fun i => i ≤ l.length ∧ ∀ j (hj : j < i) (h : j < l.length), fewD l[j] = true) (fun i => l.length - i) 0 (Sub.of [] ⟨rfl, rfl, by simp, by simp, by simp, by simp⟩) ⟨by simp, fun j hj => by omega⟩ ?_
  rintro i ⟨hi, hall⟩ kl2 hkl2
  refine DWp.seqK fun k3 hk3 => ?_
  refine DWp.reg false fun kk hk => ?_
  simp
  refine hk _ ?_
  refine DWp.condB ?_
  simp
  refine ⟨fun hT0 => ?_, fun hF0 => ?_⟩
  · simp [Tt] at hT0
    have hlt : i < l.length := by omega
    refine DWp.skip ?_
    refine hk3 _ ?_
    refine DWp.seqK fun k4 hk4 => ?_
    refine DWp.block ?_
    refine DWp.reg false fun kk hk => ?_
    simp [hlt]
    refine CallAt.det false ent18 (by first | rfl | simp [toDs, encMsg]) (few_c l[i] (hal _ (List.getElem_mem hlt))) ?_
    simp
    refine hk _ ?_
    refine DWp.condB ?_
    simp
    refine ⟨fun hT1 => ?_, fun hF1 => ?_⟩
    · simp [Tt] at hT1
      refine DWp.reg false fun kk hk => ?_
      simp
      refine hk _ ?_
      refine DWp.ret (hE _ ?_).2
      rw [fewMs_bad hlt (by simpa using hT1)]
      simp
    · simp [Ff] at hF1
      refine DWp.skip ?_
      refine hk4 _ ?_
      refine DWp.regionV false ?_
      simp
      have i1 : IntKind.i64.wrap ((i : Int) + 1) = ((i + 1 : Nat) : Int) := by rw [i64_in _ (by omega)]; omega
      refine hkl2 _ (i + 1) ⟨by omega, fun j hj h => ?_⟩ (by omega) (Sub.of [] ⟨rfl, rfl, by simp, by simp, by simp [i1], by simp⟩)
      by_cases e : j = i
      · subst e; simpa using hF1
      · exact hall j (by omega) h
  · simp [Ff] at hF0
    obtain rfl : i = l.length := by omega
    refine DWp.exit ?_
    simp
    refine hk1 _ ?_
    refine DWp.reg false fun kk hk => ?_
    simp
    refine hk _ ?_
    refine DWp.ret (hE _ ?_).2
    rw [fewMs_good fun j hj => hall j hj hj]
    simp
    exact ⟨fun h => by omega, fun h => by omega⟩
end Go.Bf
