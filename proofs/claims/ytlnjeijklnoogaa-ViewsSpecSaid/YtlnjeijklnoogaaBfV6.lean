/-
  Views: public. Printed by program (v6.py). Nothing is claimed here.
-/
import Derived.Test.YtlnjeijklnoogaaBfV6a
set_option maxRecDepth 100000
set_option maxHeartbeats 16000000
namespace Go.Bf
open Go Go.RowKit Go.Proofs Go.IntWalk
attribute [local simp] maxLen encRels encRel encI encII
theorem ent21 : Enters Try.prog 21 := enters_of Try.func21 rfl rfl
theorem ent16 : Enters Try.prog 16 := enters_of Try.func16 rfl rfl
theorem ent9 : Enters Try.prog 9 := enters_of Try.func9 rfl rfl
theorem ent31 : Enters Try.prog 31 := enters_of Try.func31 rfl rfl
theorem ent22 : Enters Try.prog 22 := enters_of Try.func22 rfl rfl
theorem pubOf_c (L : List (Int × List Int)) (hl : L.length * 8 ≤ 140737488355328) : FnWp Try.prog 31 [encMM L] (· = .ret (encI (sortI (L.map (·.1))))) := by
  refine FnWp.intro' Try.func31 rfl (by simp [Try.ntmps31]) fun E hE => ?_
  refine DWp.reg false fun kk hk => ?_
  simp
  refine hk _ ?_
  refine DWp.reg false fun kk hk => ?_
  simp
  refine CallAt.det false ent33 rfl (keysB_c _) ?_
  simp
  refine CallAt.det false ent32 rfl (sortedB_c L hl) ?_
  simp
  refine hk _ ?_
  refine DWp.ret (hE _ ?_).2
  simp
theorem learnOf_c (L : List (Int × List Int)) (ls : List Int) : FnWp Try.prog 22 [encMM L, .ptr [encI ls]] (· = .ret (encI ls)) := by
  refine FnWp.intro' Try.func22 rfl (by simp [Try.ntmps22]) fun E hE => ?_
  refine DWp.reg false fun kk hk => ?_
  simp
  refine hk _ ?_
  refine DWp.reg false fun kk hk => ?_
  simp
  refine hk _ ?_
  refine DWp.ret (hE _ ?_).2
  simp
theorem insNil_c  : FnWp Try.prog 73 [.list [], .int .i64 0, .int .i64 0, .fn 46 []] (· = .ret (.tup [])) := by
  refine FnWp.intro' Try.func73 rfl (by simp [Try.ntmps73]) fun E hE => ?_
  refine DWp.reg false fun kk hk => ?_
  simp
  refine hk _ ?_
  refine DWp.block ?_
  refine DWp.loopK (fun _ : Unit => Know.of 53 [(2, .d (.int .i64 0)), (8, .d (.int .i64 1))] [])
    (fun _ => True) (fun _ => 0) () (Sub.of [] ⟨rfl, rfl, by simp, by simp, by simp [show IntKind.i64.wrap 1 = 1 from i64_in _ (by omega)], by simp⟩) trivial ?_
  rintro _ _ kl1 hkl1
  refine DWp.seqK fun k2 hk2 => ?_
  refine DWp.reg false fun kk hk => ?_
  simp
  refine hk _ ?_
  refine DWp.condB ?_
  simp
  refine DWp.exit ?_
  simp
  refine (hE _ ?_).1
  simp
theorem pdqNil_c (m : Int) : FnWp Try.prog 66 [.list [], .int .i64 0, .int .i64 0, .int .i64 m, .fn 46 []] (· = .ret (.tup [])) := by
  refine FnWp.intro' Try.func66 rfl (by simp [Try.ntmps66]) fun E hE => ?_
  refine DWp.reg false fun kk hk => ?_
  simp
  refine hk _ ?_
  refine DWp.reg false fun kk hk => ?_
  simp
  refine hk _ ?_
  refine DWp.block ?_
  refine DWp.loopK (fun _ : Unit => Know.of 148 [(0, .d (.list [])), (1, .d (.int .i64 0)), (2, .d (.int .i64 0)), (4, .d (.fn 46 []))] [])
    (fun _ => True) (fun _ => 0) () (Sub.of [] ⟨rfl, rfl, by simp, by simp, by simp, by simp⟩) trivial ?_
  rintro _ _ kl1 hkl1
  refine DWp.block ?_
  refine DWp.reg false fun kk hk => ?_
  simp [show IntKind.i64.wrap 0 = 0 from i64_in _ (by omega)]
  refine hk _ ?_
  refine DWp.seqK fun k2 hk2 => ?_
  refine DWp.reg false fun kk hk => ?_
  simp
  refine hk _ ?_
  refine DWp.condB ?_
  simp
  refine DWp.reg false fun kk hk => ?_
  simp
  refine CallAt.det false ent73 rfl insNil_c ?_
  simp
  refine hk _ ?_
  refine DWp.ret (hE _ ?_).2
  simp
theorem sortNil_c  : FnWp Try.prog 45 [.list [], .fn 46 []] (· = .ret (.tup [])) := by
  refine FnWp.intro' Try.func45 rfl (by simp [Try.ntmps45]) fun E hE => ?_
  refine DWp.reg false fun kk hk => ?_
  simp
  refine hk _ ?_
  refine DWp.regionV false ?_
  simp [show IntKind.u64.wrap 0 = ((0 : Nat) : Int) from u64_in _ ⟨by omega, by omega⟩]
  refine CallAt.any (R := fun d => ∃ m, d = .int .i64 m) false ent67 rfl ((len_c 0 (by omega)).mono fun o ⟨m, h⟩ => ⟨_, h, m, rfl⟩) fun d ⟨m, hd⟩ => ?_
  subst hd
  simp
  refine CallAt.det false ent66 rfl (pdqNil_c m) ?_
  simp
  refine (hE _ ?_).1
  simp
theorem compactNil_c  : FnWp Try.prog 47 [.list [], .fn 48 []] (· = .ret (.list [])) := by
  refine FnWp.intro' Try.func47 rfl (by simp [Try.ntmps47]) fun E hE => ?_
  refine DWp.reg false fun kk hk => ?_
  simp
  refine hk _ ?_
  refine DWp.seqK fun k1 hk1 => ?_
  refine DWp.reg false fun kk hk => ?_
  simp
  refine hk _ ?_
  refine DWp.condB ?_
  simp
  refine DWp.reg false fun kk hk => ?_
  simp
  refine hk _ ?_
  refine DWp.ret (hE _ ?_).2
  simp
theorem pubAll_c (l : List Rl) (hl : l.length ≤ 12)  (hok : ∀ r ∈ l, okR (fun L => sortI (L.map (·.1))) r) : FnWp Try.prog 21 [encRels l, .fn 31 []] (· = .ret (encRels (publicD (fun L => sortI (L.map (·.1))) l))) := by
  refine FnWp.intro' Try.func21 rfl (by simp [Try.ntmps21]) fun E hE => ?_
  refine DWp.reg false fun kk hk => ?_
  simp
  refine hk _ ?_
  refine DWp.reg false fun kk hk => ?_
  simp
  refine hk _ ?_
  refine DWp.seqK fun k1 hk1 => ?_
  refine DWp.reg false fun kk hk => ?_
  simp
  refine hk _ ?_
  refine DWp.block ?_
  refine DWp.loopK (fun q : Nat × SV × List (TypeId × List SV) => Know.of 65 [(0, .d (encRels l)), (1, .d (.fn 31 [])), (4, .clip []), (14, .d (encRels l)), (15, .d (.int .i64 l.length)), (16, .d (.int .i64 q.1)), (5, q.2.1)] q.2.2)
    (fun q => q.1 ≤ l.length ∧ ((q.2.1 = .clip [] ∧ q.2.2 = [] ∧ q.1 = 0) ∨ (q.2.1 = .own 0 2 0 q.1 none ∧ q.2.2 = [(75, cR ((l.map (canonD (fun L => sortI (L.map (·.1))))).take q.1))]))) (fun q => l.length - q.1) (0, .clip [], []) (Sub.of [] ⟨rfl, rfl, by simp, by simp, by simp [encRels], by simp⟩) ⟨by simp, .inl ⟨rfl, rfl, rfl⟩⟩ ?_
  rintro ⟨i, v, ml⟩ ⟨hi, hv⟩ kl2 hkl2
  simp only at hi hv ⊢
  refine DWp.reg false fun kk hk => ?_
  simp
  refine hk _ ?_
  refine DWp.seqK fun k3 hk3 => ?_
  refine DWp.condB ?_
  simp
  refine ⟨fun hT0 => ?_, fun hF0 => ?_⟩
  · simp [Tt] at hT0
    have hlt : i < l.length := by omega
    have hr := hok _ (List.getElem_mem hlt)
    obtain ⟨L, hL⟩ : ∃ L, listsN l[i].1 l[i].2 l[i].1.length = L := ⟨_, rfl⟩
    have hlists := lists_c l[i].1 l[i].2 (by have := hr.1; omega) (fun x hx => by have := hr.2.1 x hx; omega)
    rw [hL] at hlists
    have hLl : L.length ≤ 1000000 := by rw [← hL]; exact hr.2.2.2.1
    obtain ⟨labs, hlabs⟩ : ∃ a, (fun L => sortI (L.map (·.1))) L = a := ⟨_, rfl⟩
    have hof : FnWp Try.prog 31 (encMM L :: []) (· = .ret (encI labs)) := by rw [← hlabs]; exact pubOf_c L (by omega)
    have hal : labs.length ≤ 1000000 := by rw [← hlabs, ← hL]; exact hr.2.2.1
    obtain ⟨g, hg⟩ : ∃ g : Int → List Int, (fun a => sortI ((getL L a).getD [])) = g := ⟨_, rfl⟩
    have hcan : canonD (fun L => sortI (L.map (·.1))) l[i] = (labs, labs.map g) := by simp only [canonD, hL, hlabs, ← hg]
    have hgl : ∀ a, ((getL L a).getD []).length * 8 ≤ 140737488355328 := fun a => by have := hr.2.2.2.2 a; rw [hL] at this; omega
    refine DWp.skip ?_
    refine hk3 _ ?_
    refine DWp.seqK fun k4 hk4 => ?_
    refine DWp.block ?_
    rcases hv with ⟨rfl, rfl, hi0⟩ | ⟨rfl, rfl⟩
    · refine DWp.reg false fun kk hk => ?_
      simp [hlt, encRels, rowRel]
      refine hk _ ?_
      refine DWp.reg false fun kk hk => ?_
      simp
      refine CallAt.det false ent43 rfl hlists ?_
      simp
      refine hk _ ?_
      refine DWp.reg false fun kk hk => ?_
      simp
      refine CallAt.det false ent31 rfl hof ?_
      simp
      refine hk _ ?_
      refine DWp.seqK fun k5 hk5 => ?_
      refine DWp.reg false fun kk hk => ?_
      simp [encI]
      refine hk _ ?_
      refine DWp.block ?_
      refine DWp.loopK (fun q : Nat × SV × List (TypeId × List SV) => Know.of 65 [(0, .d (encRels l)), (1, .d (.fn 31 [])), (4, .clip []), (14, .d (encRels l)), (15, .d (.int .i64 l.length)), (16, .d (.int .i64 i)), (5, .clip []), (8, .d (encMM L)), (9, .loc 0 0), (27, .d (encI labs)), (28, .d (.int .i64 labs.length)), (29, .d (.int .i64 q.1))] ((77, [.d (encI labs), q.2.1]) :: (q.2.2)))
        (fun q => q.1 ≤ labs.length ∧ ((q.2.1 = .clip [] ∧ q.2.2 = [] ∧ q.1 = 0) ∨ (q.2.1 = .own 1 1 0 q.1 none ∧ q.2.2 = [(43, cI ((labs.map g).take q.1))]))) (fun q => labs.length - q.1) (0, .clip [], []) (Sub.of [1] ⟨rfl, rfl, by simp, by simp, by simp, by simp⟩) ⟨by simp, .inl ⟨rfl, rfl, rfl⟩⟩ ?_
      rintro ⟨k, v8, ml8⟩ ⟨hkk, hv8⟩ kl6 hkl6
      simp only at hkk hv8 ⊢
      refine DWp.reg false fun kk hk => ?_
      simp
      refine hk _ ?_
      refine DWp.seqK fun k7 hk7 => ?_
      refine DWp.condB ?_
      simp
      refine ⟨fun hT1 => ?_, fun hF1 => ?_⟩
      · simp [Tt] at hT1
        have hlt8 : k < labs.length := by omega
        obtain ⟨a, ha⟩ : ∃ a, labs[k] = a := ⟨_, rfl⟩
        have hga : sortI ((getL L a).getD []) = g a := by rw [← hg]
        have hcell : (labs.map g).take (k + 1) = (labs.map g).take k ++ [g a] := by rw [List.take_succ_eq_append_getElem (by simpa using hlt8), List.getElem_map, ha]
        refine DWp.skip ?_
        refine hk7 _ ?_
        refine DWp.seqK fun k8 hk8 => ?_
        refine DWp.block ?_
        rcases hv8 with ⟨rfl, rfl, rfl⟩ | ⟨rfl, rfl⟩
        · refine DWp.reg false fun kk hk => ?_
          simp [encI, hlt8, rowI, ha]
          refine hk _ ?_
          refine DWp.drawP true [] (.take 0 (.take 1 (.take 2 (.take 3 (.take 4 (.take 5 (.take 6 (.take 7 (.take 8 (.take 9 (.take 10 .done))))))))))) mixed (by kernel_rfl) ?_
          simp [encMM, getE_MM]
          refine DetCall.intro ent44 rfl (fun _ => keysO_c (getL L a)) ?_
          simp [encMM, getE_MM]
          refine DetCall.intro ent32 rfl (fun _ => sortedO_c (getL L a) (hgl a)) ?_
          simp [encMM, getE_MM]
          refine ⟨by simp [Wide], by simp [Wide], ?_⟩
          refine hk8 _ ?_
          refine DWp.regionV false ?_
          simp
          have k1 : IntKind.i64.wrap 1 = 1 := i64_in _ (by omega)
          have hcell1 : List.take 1 (labs.map g) = [g a] := by simpa using hcell
          refine hkl6 _ (1, .own 1 1 0 1 none, [(43, cI ((labs.map g).take 1))]) ⟨by simp only; omega, .inr ⟨rfl, rfl⟩⟩ (by simp only; omega) (Sub.of [0, 1] ⟨rfl, rfl, by simp, by simp, by simp [k1, encMM], by simp [hcell1, cI_one, hga]⟩)
        · refine DWp.reg false fun kk hk => ?_
          simp [encI, hlt8, rowI, ha]
          refine hk _ ?_
          refine DWp.drawP true [] (.take 0 (.take 1 (.take 2 (.take 3 (.take 4 (.take 5 (.take 6 (.take 7 (.take 8 (.take 9 (.take 10 .done))))))))))) mixed (by kernel_rfl) ?_
          simp [encMM, getE_MM]
          refine DetCall.intro ent44 rfl (fun _ => keysO_c (getL L a)) ?_
          simp [encMM, getE_MM]
          refine DetCall.intro ent32 rfl (fun _ => sortedO_c (getL L a) (hgl a)) ?_
          simp [encMM, getE_MM]
          refine ⟨⟨by simp [Wide], by omega, by omega, by omega⟩, ?_⟩
          refine hk8 _ ?_
          refine DWp.regionV false ?_
          simp
          have k1 : IntKind.i64.wrap ((k : Int) + 1) = ((k + 1 : Nat) : Int) := by rw [i64_in _ (by omega)]; omega
          refine hkl6 _ (k + 1, .own 1 1 0 (k + 1) none, [(43, cI ((labs.map g).take (k + 1)))]) ⟨by simp only; omega, .inr ⟨rfl, rfl⟩⟩ (by simp only; omega) (Sub.of [0, 2] ⟨rfl, rfl, by simp, by simp, by simp [k1, encMM], by simp [hcell, cI_append, cI_one, hga]⟩)
      · simp [Ff] at hF1
        obtain rfl : k = labs.length := by omega
        refine DWp.exit ?_
        simp
        refine hk5 _ ?_
        rcases hv8 with ⟨rfl, rfl, hk0⟩ | ⟨rfl, rfl⟩
        · have hlabs0 : labs = [] := List.eq_nil_of_length_eq_zero hk0
          refine DWp.sub (Sub.declip 0 (cells' := [.d (encI labs), .d (.list [])]) rfl (fun j s hs => by match j with | 0 => exact ⟨_, rfl, .inl (by simpa using hs.symm)⟩ | 1 => exact ⟨_, rfl, .inr ⟨[], rfl, by simpa using hs.symm⟩⟩ | j + 2 => simp at hs)) ?_
          refine DWp.regionV true ?_
          simp
          refine ⟨by simp [Wide], by simp [Wide], ?_⟩
          refine hk4 _ ?_
          refine DWp.regionV false ?_
          simp
          have i1 : IntKind.i64.wrap ((i : Int) + 1) = ((i + 1 : Nat) : Int) := by rw [i64_in _ (by omega)]; omega
          have hst : (l.map (canonD (fun L => sortI (L.map (·.1))))).take (i + 1) = (l.map (canonD (fun L => sortI (L.map (·.1))))).take i ++ [(labs, labs.map g)] := by rw [List.take_succ_eq_append_getElem (by simpa using hlt), List.getElem_map, hcan]
          have hI : (fun d => [d]) ∘ encI ∘ g = rowII ∘ g := rfl
          have hT : ∀ f : Int → List DV, List.take labs.length (labs.map f) = labs.map f := fun f => List.take_of_length_le (by simp)
          subst hi0
          have hst1 : List.take 1 (l.map (canonD (fun L => sortI (L.map (·.1))))) = [(labs, labs.map g)] := by simpa using hst
          have i2 : IntKind.i64.wrap 1 = 1 := i64_in _ (by omega)
          refine hkl2 _ (1, .own 0 2 0 1 none, [(75, cR ((l.map (canonD (fun L => sortI (L.map (·.1))))).take 1))]) ⟨by simp only; omega, .inr ⟨rfl, rfl⟩⟩ (by simp only; omega) (Sub.of [1] ⟨rfl, rfl, by simp, by simp, by simp [i2], by simp [hst1, cR_cons, hT, hI, hlabs0]⟩)
        · refine DWp.sub (Sub.freeze 1 rfl (cI_allD _)) ?_
          refine DWp.regionV true ?_
          simp
          refine ⟨by simp [Wide], by simp [Wide], ?_⟩
          refine hk4 _ ?_
          refine DWp.regionV false ?_
          simp
          have i1 : IntKind.i64.wrap ((i : Int) + 1) = ((i + 1 : Nat) : Int) := by rw [i64_in _ (by omega)]; omega
          have hst : (l.map (canonD (fun L => sortI (L.map (·.1))))).take (i + 1) = (l.map (canonD (fun L => sortI (L.map (·.1))))).take i ++ [(labs, labs.map g)] := by rw [List.take_succ_eq_append_getElem (by simpa using hlt), List.getElem_map, hcan]
          have hI : (fun d => [d]) ∘ encI ∘ g = rowII ∘ g := rfl
          have hT : ∀ f : Int → List DV, List.take labs.length (labs.map f) = labs.map f := fun f => List.take_of_length_le (by simp)
          subst hi0
          have hst1 : List.take 1 (l.map (canonD (fun L => sortI (L.map (·.1))))) = [(labs, labs.map g)] := by simpa using hst
          have i2 : IntKind.i64.wrap 1 = 1 := i64_in _ (by omega)
          refine hkl2 _ (1, .own 0 2 0 1 none, [(75, cR ((l.map (canonD (fun L => sortI (L.map (·.1))))).take 1))]) ⟨by simp only; omega, .inr ⟨rfl, rfl⟩⟩ (by simp only; omega) (Sub.of [2] ⟨rfl, rfl, by simp, by simp, by simp [i2], by simp [hst1, cR_cons, hT, hI]⟩)
    · refine DWp.reg false fun kk hk => ?_
      simp [hlt, encRels, rowRel]
      refine hk _ ?_
      refine DWp.reg false fun kk hk => ?_
      simp
      refine CallAt.det false ent43 rfl hlists ?_
      simp
      refine hk _ ?_
      refine DWp.reg false fun kk hk => ?_
      simp
      refine CallAt.det false ent31 rfl hof ?_
      simp
      refine hk _ ?_
      refine DWp.seqK fun k9 hk9 => ?_
      refine DWp.reg false fun kk hk => ?_
      simp [encI]
      refine hk _ ?_
      refine DWp.block ?_
      refine DWp.loopK (fun q : Nat × SV × List (TypeId × List SV) => Know.of 65 [(0, .d (encRels l)), (1, .d (.fn 31 [])), (4, .clip []), (14, .d (encRels l)), (15, .d (.int .i64 l.length)), (16, .d (.int .i64 i)), (5, .own (q.2.2.length + 1) 2 0 i none), (8, .d (encMM L)), (9, .loc 0 0), (27, .d (encI labs)), (28, .d (.int .i64 labs.length)), (29, .d (.int .i64 q.1))] ((77, [.d (encI labs), q.2.1]) :: (q.2.2 ++ [(75, cR ((l.map (canonD (fun L => sortI (L.map (·.1))))).take i))])))
        (fun q => q.1 ≤ labs.length ∧ ((q.2.1 = .clip [] ∧ q.2.2 = [] ∧ q.1 = 0) ∨ (q.2.1 = .own 1 1 0 q.1 none ∧ q.2.2 = [(43, cI ((labs.map g).take q.1))]))) (fun q => labs.length - q.1) (0, .clip [], []) (Sub.of [2, 0] ⟨rfl, rfl, by simp, by simp, by simp, by simp⟩) ⟨by simp, .inl ⟨rfl, rfl, rfl⟩⟩ ?_
      rintro ⟨k, v8, ml8⟩ ⟨hkk, hv8⟩ kl10 hkl10
      simp only at hkk hv8 ⊢
      refine DWp.reg false fun kk hk => ?_
      simp
      refine hk _ ?_
      refine DWp.seqK fun k11 hk11 => ?_
      refine DWp.condB ?_
      simp
      refine ⟨fun hT1 => ?_, fun hF1 => ?_⟩
      · simp [Tt] at hT1
        have hlt8 : k < labs.length := by omega
        obtain ⟨a, ha⟩ : ∃ a, labs[k] = a := ⟨_, rfl⟩
        have hga : sortI ((getL L a).getD []) = g a := by rw [← hg]
        have hcell : (labs.map g).take (k + 1) = (labs.map g).take k ++ [g a] := by rw [List.take_succ_eq_append_getElem (by simpa using hlt8), List.getElem_map, ha]
        refine DWp.skip ?_
        refine hk11 _ ?_
        refine DWp.seqK fun k12 hk12 => ?_
        refine DWp.block ?_
        rcases hv8 with ⟨rfl, rfl, rfl⟩ | ⟨rfl, rfl⟩
        · refine DWp.reg false fun kk hk => ?_
          simp [encI, hlt8, rowI, ha]
          refine hk _ ?_
          refine DWp.drawP true [] (.take 0 (.take 1 (.take 2 (.take 3 (.take 4 (.take 5 (.take 6 (.take 7 (.take 8 (.take 9 (.take 10 .done))))))))))) mixed (by kernel_rfl) ?_
          simp [encMM, getE_MM]
          refine DetCall.intro ent44 rfl (fun _ => keysO_c (getL L a)) ?_
          simp [encMM, getE_MM]
          refine DetCall.intro ent32 rfl (fun _ => sortedO_c (getL L a) (hgl a)) ?_
          simp [encMM, getE_MM]
          refine ⟨by simp [Wide], by simp [Wide], ?_⟩
          refine hk12 _ ?_
          refine DWp.regionV false ?_
          simp
          have k1 : IntKind.i64.wrap 1 = 1 := i64_in _ (by omega)
          have hcell1 : List.take 1 (labs.map g) = [g a] := by simpa using hcell
          refine hkl10 _ (1, .own 1 1 0 1 none, [(43, cI ((labs.map g).take 1))]) ⟨by simp only; omega, .inr ⟨rfl, rfl⟩⟩ (by simp only; omega) (Sub.of [0, 2, 1] ⟨rfl, rfl, by simp, by simp, by simp [k1, encMM], by simp [hcell1, cI_one, hga]⟩)
        · refine DWp.reg false fun kk hk => ?_
          simp [encI, hlt8, rowI, ha]
          refine hk _ ?_
          refine DWp.drawP true [] (.take 0 (.take 1 (.take 2 (.take 3 (.take 4 (.take 5 (.take 6 (.take 7 (.take 8 (.take 9 (.take 10 .done))))))))))) mixed (by kernel_rfl) ?_
          simp [encMM, getE_MM]
          refine DetCall.intro ent44 rfl (fun _ => keysO_c (getL L a)) ?_
          simp [encMM, getE_MM]
          refine DetCall.intro ent32 rfl (fun _ => sortedO_c (getL L a) (hgl a)) ?_
          simp [encMM, getE_MM]
          refine ⟨⟨by simp [Wide], by omega, by omega, by omega⟩, ?_⟩
          refine hk12 _ ?_
          refine DWp.regionV false ?_
          simp
          have k1 : IntKind.i64.wrap ((k : Int) + 1) = ((k + 1 : Nat) : Int) := by rw [i64_in _ (by omega)]; omega
          refine hkl10 _ (k + 1, .own 1 1 0 (k + 1) none, [(43, cI ((labs.map g).take (k + 1)))]) ⟨by simp only; omega, .inr ⟨rfl, rfl⟩⟩ (by simp only; omega) (Sub.of [0, 3, 2] ⟨rfl, rfl, by simp, by simp, by simp [k1, encMM], by simp [hcell, cI_append, cI_one, hga]⟩)
      · simp [Ff] at hF1
        obtain rfl : k = labs.length := by omega
        refine DWp.exit ?_
        simp
        refine hk9 _ ?_
        rcases hv8 with ⟨rfl, rfl, hk0⟩ | ⟨rfl, rfl⟩
        · have hlabs0 : labs = [] := List.eq_nil_of_length_eq_zero hk0
          refine DWp.sub (Sub.declip 0 (cells' := [.d (encI labs), .d (.list [])]) rfl (fun j s hs => by match j with | 0 => exact ⟨_, rfl, .inl (by simpa using hs.symm)⟩ | 1 => exact ⟨_, rfl, .inr ⟨[], rfl, by simpa using hs.symm⟩⟩ | j + 2 => simp at hs)) ?_
          refine DWp.regionV true ?_
          simp
          refine ⟨⟨by simp [Wide], by omega, by omega, by omega⟩, ?_⟩
          refine hk4 _ ?_
          refine DWp.regionV false ?_
          simp
          have i1 : IntKind.i64.wrap ((i : Int) + 1) = ((i + 1 : Nat) : Int) := by rw [i64_in _ (by omega)]; omega
          have hst : (l.map (canonD (fun L => sortI (L.map (·.1))))).take (i + 1) = (l.map (canonD (fun L => sortI (L.map (·.1))))).take i ++ [(labs, labs.map g)] := by rw [List.take_succ_eq_append_getElem (by simpa using hlt), List.getElem_map, hcan]
          have hI : (fun d => [d]) ∘ encI ∘ g = rowII ∘ g := rfl
          have hT : ∀ f : Int → List DV, List.take labs.length (labs.map f) = labs.map f := fun f => List.take_of_length_le (by simp)
          refine hkl2 _ (i + 1, .own 0 2 0 (i + 1) none, [(75, cR ((l.map (canonD (fun L => sortI (L.map (·.1))))).take (i + 1)))]) ⟨by simp only; omega, .inr ⟨rfl, rfl⟩⟩ (by simp only; omega) (Sub.of [2] ⟨rfl, rfl, by simp, by simp, by simp [i1], by simp [hst, cR_append, cR_cons, hT, hI, hlabs0]⟩)
        · refine DWp.sub (Sub.freeze 1 rfl (cI_allD _)) ?_
          refine DWp.regionV true ?_
          simp
          refine ⟨⟨by simp [Wide], by omega, by omega, by omega⟩, ?_⟩
          refine hk4 _ ?_
          refine DWp.regionV false ?_
          simp
          have i1 : IntKind.i64.wrap ((i : Int) + 1) = ((i + 1 : Nat) : Int) := by rw [i64_in _ (by omega)]; omega
          have hst : (l.map (canonD (fun L => sortI (L.map (·.1))))).take (i + 1) = (l.map (canonD (fun L => sortI (L.map (·.1))))).take i ++ [(labs, labs.map g)] := by rw [List.take_succ_eq_append_getElem (by simpa using hlt), List.getElem_map, hcan]
          have hI : (fun d => [d]) ∘ encI ∘ g = rowII ∘ g := rfl
          have hT : ∀ f : Int → List DV, List.take labs.length (labs.map f) = labs.map f := fun f => List.take_of_length_le (by simp)
          refine hkl2 _ (i + 1, .own 0 2 0 (i + 1) none, [(75, cR ((l.map (canonD (fun L => sortI (L.map (·.1))))).take (i + 1)))]) ⟨by simp only; omega, .inr ⟨rfl, rfl⟩⟩ (by simp only; omega) (Sub.of [3] ⟨rfl, rfl, by simp, by simp, by simp [i1], by simp [hst, cR_append, cR_cons, hT, hI]⟩)
  · simp [Ff] at hF0
    obtain rfl : i = l.length := by omega
    refine DWp.exit ?_
    simp
    refine hk1 _ ?_
    rcases hv with ⟨rfl, rfl, hi0⟩ | ⟨rfl, rfl⟩
    · have hl0 : l = [] := List.eq_nil_of_length_eq_zero hi0
      refine DWp.reg false fun kk hk => ?_
      simp
      refine CallAt.det false ent45 rfl sortNil_c ?_
      simp
      refine hk _ ?_
      refine DWp.reg false fun kk hk => ?_
      simp
      refine CallAt.det false ent47 rfl compactNil_c ?_
      simp
      refine hk _ ?_
      refine DWp.seqK fun k13 hk13 => ?_
      refine DWp.reg false fun kk hk => ?_
      simp
      refine hk _ ?_
      refine DWp.block ?_
      refine DWp.loopK (fun _ : Unit => Know.of 65 [(4, .clip []), (53, .d (.list [])), (54, .d (.int .i64 0)), (55, .d (.int .i64 0))] [])
        (fun _ => True) (fun _ => 0) () (Sub.of [] ⟨rfl, rfl, by simp, by simp, by simp, by simp⟩) trivial ?_
      rintro _ _ kl14 hkl14
      refine DWp.reg false fun kk hk => ?_
      simp
      refine hk _ ?_
      refine DWp.seqK fun k15 hk15 => ?_
      refine DWp.condB ?_
      simp
      refine DWp.exit ?_
      simp
      refine hk13 _ ?_
      refine DWp.reg false fun kk hk => ?_
      simp
      refine hk _ ?_
      refine DWp.ret (hE _ ?_).2
      subst hl0
      simp [publicD, sortR, dd]
    · obtain ⟨M, hM⟩ : ∃ M, l.map (canonD (fun L => sortI (L.map (·.1)))) = M := ⟨_, rfl⟩
      have hMl : M.length = l.length := by rw [← hM]; simp
      rw [hM, List.take_of_length_le (by omega)]
      have hfl : ∀ r ∈ M, fitR r := fun r hr => by rw [← hM] at hr; obtain ⟨s, hs, rfl⟩ := List.mem_map.1 hr; exact canon_fit (hok s hs)
      refine DWp.cap 5 (b := 0) (wd := 2) (off := 0) (len := l.length) (by simp) fun cap hcap => ?_
      have hsf := sortFunc_c M cap (by omega) hfl
      rw [hMl] at hsf
      obtain ⟨M2, hM2⟩ : ∃ M2, sortR cmpC M = M2 := ⟨_, rfl⟩
      have hM2l : M2.length = l.length := by rw [← hM2, sortR_length, hMl]
      have hfl2 : ∀ r ∈ M2, fitR r := fun r hr => hfl r ((sortR_perm cmpC M).mem_iff.1 (by rw [hM2]; exact hr))
      have hcp := compact_c M2 cap (by omega) (by omega) hfl2
      rw [hM2l] at hcp
      obtain ⟨D, hD⟩ : ∃ D, dd eqC M2 = D := ⟨_, rfl⟩
      have hDp : publicD (fun L => sortI (L.map (·.1))) l = D := by rw [publicD, hM, hM2, hD]
      rw [hM2] at hsf
      rw [hD] at hcp
      refine DWp.reg false fun kk hk => ?_
      simp
      refine CallAt.mem1 (t := 75) 0 false ent45 (by simp) (cR_allD _) rfl hsf ?_
      rintro s ds' ⟨rfl, rfl⟩
      simp
      refine hk _ ?_
      refine DWp.reg false fun kk hk => ?_
      simp
      refine CallAt.mem1 (t := 75) 1 false ent47 (by simp [cR_flat]) (cR_allD _) rfl hcp ?_
      rintro s ds' ⟨⟨c, rfl⟩, z, rfl⟩
      simp
      refine hk _ ?_
      refine DWp.seqK fun k16 hk16 => ?_
      refine DWp.sub (Sub.of (n := 65) (sl := [(4, .clip []), (5, .own 0 2 0 D.length c)]) (ml := [(75, cR (D ++ z))]) [2] ⟨rfl, rfl, by simp, by simp, by simp, by simp [cR_flat, cR_append]⟩) ?_
      refine DWp.reg false fun kk hk => ?_
      simp
      refine hk _ ?_
      refine DWp.block ?_
      refine DWp.loopK (fun q : Nat × SV × List (TypeId × List SV) => Know.of 65 [(4, q.2.1), (53, .own 0 2 0 D.length c), (54, .d (.int .i64 D.length)), (55, .d (.int .i64 q.1))] ((75, cR (D ++ z)) :: q.2.2))
        (fun q => q.1 ≤ D.length ∧ ((q.2.1 = .clip [] ∧ q.2.2 = [] ∧ q.1 = 0) ∨ (q.2.1 = .own 1 2 0 q.1 none ∧ q.2.2 = [(23, cR (D.take q.1))]))) (fun q => D.length - q.1) (0, .clip [], []) (Sub.of [0] ⟨rfl, rfl, by simp, by simp, by simp, by simp⟩) ⟨by simp, .inl ⟨rfl, rfl, rfl⟩⟩ ?_
      rintro ⟨k, v4, ml4⟩ ⟨hkk, hv4⟩ kl17 hkl17
      simp only at hkk hv4 ⊢
      refine DWp.reg false fun kk hk => ?_
      simp
      refine hk _ ?_
      refine DWp.seqK fun k18 hk18 => ?_
      refine DWp.condB ?_
      simp
      refine ⟨fun hT2 => ?_, fun hF2 => ?_⟩
      · simp [Tt] at hT2
        have hltD : k < D.length := by omega
        have hDl : D.length ≤ 12 := by have := dd_le eqC M2; rw [hD] at this; omega
        obtain ⟨x, hx⟩ : ∃ x, D[k] = x := ⟨_, rfl⟩
        have hA : List.take 2 (List.drop (k * 2) (cR (D ++ z))) = [.d (encI x.1), .d (encII x.2)] := by have := cR_get (l := D ++ z) (i := k) (by simp; omega); rw [List.getElem_append_left hltD, hx] at this; exact this
        have hstD : D.take (k + 1) = D.take k ++ [x] := by rw [List.take_succ_eq_append_getElem hltD, hx]
        simp only [encI, encII] at hA
        refine DWp.skip ?_
        refine hk18 _ ?_
        refine DWp.seqK fun k19 hk19 => ?_
        refine DWp.block ?_
        refine DWp.reg false fun kk hk => ?_
        simp [hA]
        refine ⟨by omega, by omega, ?_⟩
        refine hk _ ?_
        rcases hv4 with ⟨rfl, rfl, hk0⟩ | ⟨rfl, rfl⟩
        · refine DWp.regionV true ?_
          simp
          refine ⟨by simp [Wide], by simp [Wide], ?_⟩
          refine hk19 _ ?_
          refine DWp.regionV false ?_
          simp
          have i1 : IntKind.i64.wrap 1 = 1 := i64_in _ (by omega)
          subst hk0
          have hstD1 : D.take 1 = [x] := by simpa using hstD
          refine hkl17 _ (1, .own 1 2 0 1 none, [(23, cR (D.take 1))]) ⟨by simp only; omega, .inr ⟨rfl, rfl⟩⟩ (by simp only; omega) (Sub.of [0, 2] ⟨rfl, rfl, by simp, by simp, by simp [i1], by simp [hstD1, cR_cons]⟩)
        · refine DWp.regionV true ?_
          simp
          refine ⟨⟨by simp [Wide], by omega, by omega, by omega⟩, ?_⟩
          refine hk19 _ ?_
          refine DWp.regionV false ?_
          simp
          have i1 : IntKind.i64.wrap ((k : Int) + 1) = ((k + 1 : Nat) : Int) := by rw [i64_in _ (by omega)]; omega
          refine hkl17 _ (k + 1, .own 1 2 0 (k + 1) none, [(23, cR (D.take (k + 1)))]) ⟨by simp only; omega, .inr ⟨rfl, rfl⟩⟩ (by simp only; omega) (Sub.of [0, 3] ⟨rfl, rfl, by simp, by simp, by simp [i1], by simp [hstD, cR_append, cR_cons]⟩)
      · simp [Ff] at hF2
        obtain rfl : k = D.length := by omega
        rw [List.take_length] at hv4
        refine DWp.exit ?_
        simp
        refine hk16 _ ?_
        rcases hv4 with ⟨rfl, rfl, hk0⟩ | ⟨rfl, rfl⟩
        · refine DWp.reg false fun kk hk => ?_
          simp
          refine hk _ ?_
          have hD0 : D = [] := List.eq_nil_of_length_eq_zero hk0
          refine DWp.ret (hE _ ?_).2
          rw [hDp, hD0]
          simp
        · refine DWp.reg false fun kk hk => ?_
          simp
          refine hk _ ?_
          refine DWp.ret (hE _ ?_).2
          rw [hDp]
          have hTk : List.take (D.length * 2) (cR D) = cR D := List.take_of_length_le (by simp)
          simp [hTk, sum_len2, chunk_flatR]
def pubOf (L : List (Int × List Int)) : List Int := sortI (L.map (·.1))
theorem Public_c (l : List Rl) (hl : l.length ≤ 12) (hok : ∀ r ∈ l, okR pubOf r) : FnWp Try.prog 16 [encRels l] (· = .ret (encRels (publicD pubOf l))) := by
  refine FnWp.intro' Try.func16 rfl (by simp [Try.ntmps16]) fun E hE => ?_
  refine DWp.reg false fun kk hk => ?_
  simp
  refine hk _ ?_
  refine DWp.reg false fun kk hk => ?_
  simp
  refine CallAt.det false ent21 rfl (pubAll_c l hl hok) ?_
  simp
  refine hk _ ?_
  refine DWp.ret (hE _ ?_).2
  simp; rfl
end Go.Bf
