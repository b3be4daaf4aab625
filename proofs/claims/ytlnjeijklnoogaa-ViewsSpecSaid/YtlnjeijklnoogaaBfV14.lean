/-
  Views: the reference, canonical relations. Printed by program (v14.py). Nothing is claimed here.
-/
import Derived.Test.YtlnjeijklnoogaaBfV13
set_option maxRecDepth 100000
set_option maxHeartbeats 16000000
namespace Go.Bf
open Go Go.RowKit Go.Proofs Go.IntWalk
attribute [local simp] maxLen encI rowI encII rowII encRel rowRel
theorem rowII_length (x : List Int) : (rowII x).length = 1 := rfl
theorem cF_ii (l : List (List Int)) : l.map (hd1 ∘ rowII) = cF rowII l := by
  rw [← cF_flat]
  induction l with
  | nil => rfl
  | cons x l ih => simp only [List.map_cons, List.flatten_cons, ih]; rfl
theorem chunk1i (l : List (List Int)) : (l.map ((List.map fun d => [d]) ∘ rowII)).flatten = l.map rowII := by
  induction l with
  | nil => rfl
  | cons x l ih => simp only [List.map_cons, List.flatten_cons, ih]; rfl
theorem sum_ii (l : List (List Int)) : (l.map (List.length ∘ rowII)).sum = l.length := by
  induction l with
  | nil => rfl
  | cons x l ih => simp only [List.map_cons, List.sum_cons, ih, List.length_cons]; simp [rowII]; omega
theorem snap_ii {l : List (List Int)} {n : Nat} (h : n = l.length) : List.take n (cF rowII l) = cF rowII l := List.take_of_length_le (by rw [cF_length rowII_length, h]; omega)
theorem ent17 : Enters Try.prog 17 := enters_of Try.func17 rfl rfl
theorem ent13 : Enters Try.prog 13 := enters_of Try.func13 rfl rfl
theorem ent11 : Enters Try.prog 11 := enters_of Try.func11 rfl rfl
theorem ent24 : Enters Try.prog 24 := enters_of Try.func24 rfl rfl
theorem ent8 : Enters Try.prog 8 := enters_of Try.func8 rfl rfl
theorem ent10 : Enters Try.prog 10 := enters_of Try.func10 rfl rfl
theorem about_c (r : Rl) (ls : List Int) (hr : okS r) (hl : ls.length ≤ 100000) : FnWp Try.prog 23 [encRel r, encI ls] (· = .ret (encRel (aboutR r ls))) := by
  refine FnWp.intro' Try.func23 rfl (by simp [Try.ntmps23]) fun E hE => ?_
  refine DWp.reg false fun kk hk => ?_
  simp
  refine hk _ ?_
  refine DWp.reg false fun kk hk => ?_
  simp
  refine hk _ ?_
  refine DWp.seqK fun k1 hk1 => ?_
  refine DWp.reg false fun kk hk => ?_
  simp
  refine hk _ ?_
  refine DWp.block ?_
  refine DWp.loopK (fun q : Nat × SV × List (TypeId × List SV) => Know.of 27 [(1, .d (encI ls)), (2, .loc 0 0), (4, .loc 1 0), (5, .loc 2 0), (6, .d (.int .i64 q.1))] ((45, [.d (encI r.1), .d (encII r.2)]) :: (45, [.clip [], .clip []]) :: (45, [.d (encI ls), q.2.1]) :: q.2.2))
    (fun q => q.1 ≤ ls.length ∧ ((q.2.1 = .clip [] ∧ q.2.2 = [] ∧ q.1 = 0) ∨ (q.2.1 = .own 3 1 0 q.1 none ∧ q.2.2 = [(43, cF rowII ((ls.map (listR r)).take q.1))]))) (fun q => ls.length - q.1) (0, .clip [], []) (Sub.of [0, 1, 2] ⟨rfl, rfl, by simp, by simp, by simp, by simp⟩) ⟨by simp, .inl ⟨rfl, rfl, rfl⟩⟩ ?_
  rintro ⟨i, v, ml⟩ ⟨hi, hv⟩ kl2 hkl2
  simp only at hi hv ⊢
  refine DWp.seqK fun k3 hk3 => ?_
  refine DWp.reg false fun kk hk => ?_
  simp
  refine hk _ ?_
  refine DWp.condB ?_
  simp
  refine ⟨fun hT0 => ?_, fun hF0 => ?_⟩
  · simp [Tt] at hT0
    have hlt : i < ls.length := by omega
    have hst : (ls.map (listR r)).take (i + 1) = (ls.map (listR r)).take i ++ [listR r ls[i]] := by rw [List.take_succ_eq_append_getElem (by simpa using hlt), List.getElem_map]
    refine DWp.skip ?_
    refine hk3 _ ?_
    refine DWp.seqK fun k4 hk4 => ?_
    refine DWp.block ?_
    rcases hv with ⟨rfl, rfl, hi0⟩ | ⟨rfl, rfl⟩
    · refine DWp.drawP true [] (.take 0 (.take 1 (.take 2 (.take 3 (.take 4 (.take 5 (.take 6 (.take 7 (.take 8 (.take 9 (.take 10 (.take 11 .done)))))))))))) mixed (by kernel_rfl) ?_
      simp [hlt]
      refine DetCall.intro ent49 rfl (fun _ => list_c r ls[i] hr) ?_
      simp [hlt]
      refine ⟨by simp [Wide], by simp [Wide], ?_⟩
      refine hk4 _ ?_
      refine DWp.regionV false ?_
      simp
      subst hi0
      have i1 : IntKind.i64.wrap 1 = 1 := i64_in _ (by omega)
      have hst1 : List.take 1 (ls.map (listR r)) = [listR r ls[0]] := by simpa using hst
      refine hkl2 _ (1, .own 3 1 0 1 none, [(43, cF rowII ((ls.map (listR r)).take 1))]) ⟨by simp only; omega, .inr ⟨rfl, rfl⟩⟩ (by simp only; omega) (Sub.of [0, 1, 2, 3] ⟨rfl, rfl, by simp, by simp, by simp [i1], by simp [hst1, cF_one]⟩)
    · refine DWp.drawP true [] (.take 0 (.take 1 (.take 2 (.take 3 (.take 4 (.take 5 (.take 6 (.take 7 (.take 8 (.take 9 (.take 10 (.take 11 .done)))))))))))) mixed (by kernel_rfl) ?_
      simp [hlt]
      refine DetCall.intro ent49 rfl (fun _ => list_c r ls[i] hr) ?_
      simp [hlt]
      refine ⟨⟨by simp [Wide], by simp [cF_length rowII_length, Nat.min_eq_left hi], by omega, by omega⟩, ?_⟩
      refine hk4 _ ?_
      refine DWp.regionV false ?_
      simp
      have i1 : IntKind.i64.wrap ((i : Int) + 1) = ((i + 1 : Nat) : Int) := by rw [i64_in _ (by omega)]; omega
      refine hkl2 _ (i + 1, .own 3 1 0 (i + 1) none, [(43, cF rowII ((ls.map (listR r)).take (i + 1)))]) ⟨by simp only; omega, .inr ⟨rfl, rfl⟩⟩ (by simp only; omega) (Sub.of [0, 1, 2, 4] ⟨rfl, rfl, by simp, by simp, by simp [i1], by simp [hst, cF_append, cF_one]⟩)
  · simp [Ff] at hF0
    obtain rfl : i = ls.length := by omega
    refine DWp.exit ?_
    simp
    refine hk1 _ ?_
    rcases hv with ⟨rfl, rfl, hi0⟩ | ⟨rfl, rfl⟩
    · have hls0 : ls = [] := List.eq_nil_of_length_eq_zero hi0
      refine DWp.sub (Sub.declip 2 (cells' := [.d (encI ls), .d (.list [])]) rfl (fun j s hs => by match j with | 0 => exact ⟨_, rfl, .inl (by simpa using hs.symm)⟩ | 1 => exact ⟨_, rfl, .inr ⟨[], rfl, by simpa using hs.symm⟩⟩ | j + 2 => simp at hs)) ?_
      refine DWp.reg false fun kk hk => ?_
      simp
      refine hk _ ?_
      refine DWp.ret (hE _ ?_).2
      subst hls0
      simp [aboutR]
    · rw [List.take_of_length_le (by simp)]
      obtain ⟨M, hM⟩ : ∃ M, ls.map (listR r) = M := ⟨_, rfl⟩
      have hMl : M.length = ls.length := by rw [← hM]; simp
      rw [hM, ← hMl]
      have hT : List.take M.length (List.map rowII M).flatten = (List.map rowII M).flatten := List.take_of_length_le (by rw [flat_lenF rowII_length]; omega)
      refine DWp.sub (Sub.freeze 3 rfl (cF_allD _ _)) ?_
      refine DWp.sub (Sub.of (n := 27) (sl := [(4, .loc 0 0), (5, .loc 1 0)]) (ml := [(45, [.clip [], .clip []]), (45, [.d (encI ls), .d (encII M)])]) [1, 2] ⟨rfl, rfl, by simp, by simp, by simp, by simp [hT, chunk1i, sum_ii]⟩) ?_
      refine DWp.reg false fun kk hk => ?_
      simp
      refine hk _ ?_
      refine DWp.ret (hE _ ?_).2
      simp [aboutR, hM]
theorem canonical_c (r : Rl) (hr : okS r) : FnWp Try.prog 34 [encRel r] (· = .ret (encRel (canonR r))) := by
  refine FnWp.intro' Try.func34 rfl (by simp [Try.ntmps34]) fun E hE => ?_
  refine DWp.reg false fun kk hk => ?_
  simp
  refine hk _ ?_
  refine DWp.reg true fun kk hk => ?_
  simp
  refine hk _ ?_
  refine DWp.seqK fun k1 hk1 => ?_
  refine DWp.reg false fun kk hk => ?_
  simp
  refine hk _ ?_
  refine DWp.block ?_
  have hr1 := hr.1
  refine DWp.loopK (fun i : Nat => Know.of 23 [(1, .loc 0 0), (2, .loc 1 0), (3, .d (encI ((r.1.take i).foldl putD []))), (4, .d (.int .i64 i))] [(45, [.d (encI r.1), .d (encII r.2)]), (45, [.clip [], .clip []])])
    (fun i => i ≤ r.1.length) (fun i => r.1.length - i) 0 (Sub.of [0, 1] ⟨rfl, rfl, by simp, by simp, by simp, by simp⟩) (by omega) ?_
  rintro i hi kl2 hkl2
  refine DWp.seqK fun k3 hk3 => ?_
  refine DWp.reg false fun kk hk => ?_
  simp
  refine hk _ ?_
  refine DWp.condB ?_
  simp
  refine ⟨fun hT0 => ?_, fun hF0 => ?_⟩
  · simp [Tt] at hT0
    have hlt : i < r.1.length := by omega
    have hFl := foldP_len (r.1.take i) []
    have hTl : (r.1.take i).length ≤ 100 := by rw [List.length_take]; omega
    simp only [List.length_nil, Nat.zero_add] at hFl
    refine DWp.skip ?_
    refine hk3 _ ?_
    refine DWp.seqK fun k4 hk4 => ?_
    refine DWp.block ?_
    refine DWp.regionV false ?_
    simp [hlt]
    refine CallAt.det false ent58 rfl (put_c _ _ (by omega)) ?_
    simp
    refine hk4 _ ?_
    refine DWp.regionV false ?_
    simp
    have i1 : IntKind.i64.wrap ((i : Int) + 1) = ((i + 1 : Nat) : Int) := by rw [i64_in _ (by omega)]; omega
    refine hkl2 _ (i + 1) (by omega) (by omega) (Sub.of [0, 1] ⟨rfl, rfl, by simp, by simp, by simp [i1, foldP_take [] hlt], by simp⟩)
  · simp [Ff] at hF0
    obtain rfl : i = r.1.length := by omega
    rw [List.take_length]
    have hFl := foldP_len r.1 []
    simp only [List.length_nil, Nat.zero_add] at hFl
    refine DWp.exit ?_
    simp
    refine hk1 _ ?_
    refine DWp.reg false fun kk hk => ?_
    simp
    refine CallAt.det false ent23 rfl (about_c r (r.1.foldl putD []) hr (by omega)) ?_
    simp
    refine hk _ ?_
    refine DWp.ret (hE _ ?_).2
    simp [canonR]
end Go.Bf
