/-
  Views: the chapter's examples. Printed by program (v11.py). Nothing is claimed here.
-/
import Derived.Test.YtlnjeijklnoogaaBfV11a
set_option maxRecDepth 100000
set_option maxHeartbeats 16000000
namespace Go.Bf
open Go Go.RowKit Go.Proofs Go.IntWalk
theorem ex_s1 : seenD [mE 1 3, mE 2 4, mE 3 3] 3 = [mE 1 3, mE 3 3] := by decide +kernel
theorem ex_s2 : seenD [mE 1 3, mE 2 4, mE 3 3] 5 = [] := by decide +kernel
theorem ex_fit : ∀ x ∈ [mE 1 3, mE 2 4, mE 3 3], fitM x := fun x hx => by simp only [List.mem_cons, List.not_mem_nil, or_false] at hx; rcases hx with rfl | rfl | rfl <;> exact ⟨by decide, by decide, by decide, fun r hr => by cases hr⟩
theorem ex_n1 : decide ([mE 1 3, mE 2 4, mE 3 3] = [mE 1 3, mE 3 3]) = false := by decide +kernel
attribute [local simp] maxLen encI encII rowI rowII exR exW exZ
theorem ent6 : Enters Try.prog 6 := enters_of Try.func6 rfl rfl
theorem sane51_c  : FnWp Try.prog 6 [] (· = .ret (.bool true)) := by
  refine FnWp.intro' Try.func6 rfl (by simp [Try.ntmps6]) fun E hE => ?_
  refine DWp.reg false fun kk hk => ?_
  simp
  refine hk _ ?_
  refine DWp.reg true fun kk hk => ?_
  simp
  refine hk _ ?_
  refine DWp.reg true fun kk hk => ?_
  simp
  refine hk _ ?_
  refine DWp.sub (Sub.of (n := 127) (sl := [(1, .loc 0 0), (2, .loc 1 0)]) (ml := [(45, [.d (encI exR.1), .d (encII exR.2)]), (45, [.d (encI exW.1), .d (encII exW.2)])]) [0, 1] ⟨rfl, rfl, by simp, by simp, by simp, by simp [encI, encII, rowI, rowII, exR, exW]⟩) ?_
  refine DWp.reg true fun kk hk => ?_
  simp
  have hP : FnWp Try.prog 16 [encRels [exR, exW, exR]] (· = .ret (encRels [exW])) := by have := Public_c [exR, exW, exR] (by decide) (fun r hr => by simp only [List.mem_cons, List.not_mem_nil, or_false] at hr; rcases hr with rfl | rfl | rfl; exact ok_R; exact ok_W; exact ok_R); rwa [ex_pub] at this
  refine CallAt.det  false ent16 rfl (hP) ?_
  simp
  refine hk _ ?_
  refine DWp.sub (Sub.of (n := 127) (sl := [(1, .loc 0 0), (2, .loc 1 0), (3, .d (encRels [exW]))]) (ml := [(45, [.d (encI exR.1), .d (encII exR.2)]), (45, [.d (encI exW.1), .d (encII exW.2)])]) [0, 1] ⟨rfl, rfl, by simp, by simp, by simp, by simp [encI, encII, rowI, rowII, exR, exW]⟩) ?_
  refine DWp.reg true fun kk hk => ?_
  simp
  have hL1 : FnWp Try.prog 9 [encRels [exR], encI [2, 3]] (· = .ret (.tup [encRels [([2, 3], [[5], []])], .int .i64 0])) := by have := Learned_c [exR] [2, 3] (by decide) (by decide) (fun r hr => by simp only [List.mem_cons, List.not_mem_nil, or_false] at hr; subst hr; exact ok_R1); rwa [ex_l1] at this
  refine CallAt.det  false ent9 rfl (hL1) ?_
  simp
  refine hk _ ?_
  refine DWp.sub (Sub.of (n := 127) (sl := [(1, .loc 0 0), (2, .loc 1 0), (3, .d (encRels [exW])), (4, .d (encRels [([2, 3], [[5], []])])), (5, .d (.int .i64 0))]) (ml := [(45, [.d (encI exR.1), .d (encII exR.2)]), (45, [.d (encI exW.1), .d (encII exW.2)])]) [0, 1] ⟨rfl, rfl, by simp, by simp, by simp, by simp [encI, encII, rowI, rowII, exR, exW]⟩) ?_
  refine DWp.reg true fun kk hk => ?_
  simp
  have hL2 : FnWp Try.prog 9 [encRels [], encI [3, 3]] (· = .ret (.tup [encRels [], .int .i64 510])) := by have := Learned_c [] [3, 3] (by decide) (by decide) (fun r hr => by cases hr); rwa [ex_l2] at this
  refine CallAt.det  false ent9 rfl (hL2) ?_
  simp
  refine hk _ ?_
  refine DWp.sub (Sub.of (n := 127) (sl := [(1, .loc 0 0), (2, .loc 1 0), (3, .d (encRels [exW])), (4, .d (encRels [([2, 3], [[5], []])])), (5, .d (.int .i64 0)), (6, .d (encRels [])), (7, .d (.int .i64 510))]) (ml := [(45, [.d (encI exR.1), .d (encII exR.2)]), (45, [.d (encI exW.1), .d (encII exW.2)])]) [0, 1] ⟨rfl, rfl, by simp, by simp, by simp, by simp [encI, encII, rowI, rowII, exR, exW]⟩) ?_
  refine DWp.reg true fun kk hk => ?_
  simp
  have hL3 : FnWp Try.prog 9 [encRels [exR, exZ], encI []] (· = .ret (.tup [encRels [exZ], .int .i64 0])) := by have := Learned_c [exR, exZ] [] (by decide) (by decide) (fun r hr => by simp only [List.mem_cons, List.not_mem_nil, or_false] at hr; rcases hr with rfl | rfl; exact ok_R0; exact ok_Z0); rwa [ex_l3] at this
  refine CallAt.det  false ent9 rfl (hL3) ?_
  simp
  refine hk _ ?_
  refine DWp.sub (Sub.of (n := 127) (sl := [(1, .loc 0 0), (2, .loc 1 0), (3, .d (encRels [exW])), (4, .d (encRels [([2, 3], [[5], []])])), (5, .d (.int .i64 0)), (6, .d (encRels [])), (7, .d (.int .i64 510)), (8, .d (encRels [exZ])), (9, .d (.int .i64 0))]) (ml := [(45, [.d (encI exR.1), .d (encII exR.2)]), (45, [.d (encI exW.1), .d (encII exW.2)])]) [0, 1] ⟨rfl, rfl, by simp, by simp, by simp, by simp [encI, encII, rowI, rowII, exR, exW]⟩) ?_
  refine DWp.reg true fun kk hk => ?_
  simp
  refine hk _ ?_
  refine DWp.sub (Sub.of (n := 127) (sl := [(1, .loc 0 0), (2, .loc 1 0), (3, .d (encRels [exW])), (4, .d (encRels [([2, 3], [[5], []])])), (5, .d (.int .i64 0)), (6, .d (encRels [])), (7, .d (.int .i64 510)), (8, .d (encRels [exZ])), (9, .d (.int .i64 0)), (10, .d (encMsgs [mE 1 3, mE 2 4, mE 3 3]))]) (ml := [(45, [.d (encI exR.1), .d (encII exR.2)]), (45, [.d (encI exW.1), .d (encII exW.2)])]) [0, 1] ⟨rfl, rfl, by simp, by simp, by simp [encMsgs, rowMsg, mE, zMsg, cB, encRels], by simp [encI, encII, rowI, rowII, exR, exW]⟩) ?_
  refine DWp.reg false fun kk hk => ?_
  simp
  have hS1 := Seen_c [mE 1 3, mE 2 4, mE 3 3] 3 (by decide)
  rw [ex_s1] at hS1
  refine CallAt.det  false ent12 rfl (hS1) ?_
  simp
  refine hk _ ?_
  refine DWp.sub (Sub.of (n := 127) (sl := [(1, .loc 0 0), (2, .loc 1 0), (3, .d (encRels [exW])), (4, .d (encRels [([2, 3], [[5], []])])), (5, .d (.int .i64 0)), (6, .d (encRels [])), (7, .d (.int .i64 510)), (8, .d (encRels [exZ])), (9, .d (.int .i64 0)), (10, .d (encMsgs [mE 1 3, mE 2 4, mE 3 3])), (11, .d (encMsgs [mE 1 3, mE 3 3]))]) (ml := [(45, [.d (encI exR.1), .d (encII exR.2)]), (45, [.d (encI exW.1), .d (encII exW.2)])]) [0, 1] ⟨rfl, rfl, by simp, by simp, by simp, by simp [encI, encII, rowI, rowII, exR, exW]⟩) ?_
  refine DWp.reg true fun kk hk => ?_
  simp [encRels, encMsgs, rowMsg, mE, zMsg, cB]
  have hR : FnWp Try.prog 15 [encRels [exW], encRels [exW]] (· = .ret (.bool true)) := by have := sameRs_c [exW] [exW] (by decide) (fun x hx => by simp only [List.mem_cons, List.not_mem_nil, or_false] at hx; subst hx; exact ⟨by decide, by decide, by decide⟩); rwa [decide_eq_true rfl] at this
  refine CallAtG.det true ent15 rfl (fun _ => hR) ?_
  simp [encRels, encMsgs, rowMsg, mE, zMsg, cB]
  have hR : FnWp Try.prog 15 [encRels [([2, 3], [[5], []])], encRels [([2, 3], [[5], []])]] (· = .ret (.bool true)) := by have := sameRs_c [([2, 3], [[5], []])] [([2, 3], [[5], []])] (by decide) (fun x hx => by simp only [List.mem_cons, List.not_mem_nil, or_false] at hx; subst hx; exact ⟨by decide, by decide, by decide⟩); rwa [decide_eq_true rfl] at this
  refine CallAtG.det true ent15 rfl (fun _ => hR) ?_
  simp [encRels, encMsgs, rowMsg, mE, zMsg, cB]
  have hR : FnWp Try.prog 15 [encRels [exZ], encRels [exZ]] (· = .ret (.bool true)) := by have := sameRs_c [exZ] [exZ] (by decide) (fun x hx => by simp only [List.mem_cons, List.not_mem_nil, or_false] at hx; subst hx; exact ⟨by decide, by decide, by decide⟩); rwa [decide_eq_true rfl] at this
  refine CallAtG.det true ent15 rfl (fun _ => hR) ?_
  simp [encRels, encMsgs, rowMsg, mE, zMsg, cB]
  have hP0 : FnWp Try.prog 16 [encRels []] (· = .ret (encRels [])) := by have := Public_c [] (by decide) (fun r hr => by cases hr); rwa [ex_pub0] at this
  refine CallAtG.det true ent16 rfl (fun _ => hP0) ?_
  simp [encRels, encMsgs, rowMsg, mE, zMsg, cB]
  have hS2 : FnWp Try.prog 12 [encMsgs [mE 1 3, mE 2 4, mE 3 3], .int .i64 5] (· = .ret (encMsgs [])) := by have := Seen_c [mE 1 3, mE 2 4, mE 3 3] 5 (by decide); rwa [ex_s2] at this
  refine CallAtG.det true ent12 rfl (fun _ => hS2) ?_
  simp [encRels, encMsgs, rowMsg, mE, zMsg, cB]
  have hM1 : FnWp Try.prog 14 [encMsgs [mE 1 3, mE 2 4, mE 3 3], encMsgs [mE 1 3, mE 2 4, mE 3 3]] (· = .ret (.bool true)) := by have := vSame_c [mE 1 3, mE 2 4, mE 3 3] [mE 1 3, mE 2 4, mE 3 3] (by decide) ex_fit; rwa [decide_eq_true rfl] at this
  refine CallAtG.det true ent14 rfl (fun _ => hM1) ?_
  simp [encRels, encMsgs, rowMsg, mE, zMsg, cB]
  have hM2 : FnWp Try.prog 14 [encMsgs [mE 1 3, mE 2 4, mE 3 3], encMsgs [mE 1 3, mE 3 3]] (· = .ret (.bool false)) := by have := vSame_c [mE 1 3, mE 2 4, mE 3 3] [mE 1 3, mE 3 3] (by decide) ex_fit; rwa [ex_n1] at this
  refine CallAtG.det true ent14 rfl (fun _ => hM2) ?_
  simp [encRels, encMsgs, rowMsg, mE, zMsg, cB]
  have hM3 : FnWp Try.prog 14 [encMsgs [], encMsgs []] (· = .ret (.bool true)) := by have := vSame_c [] [] (by decide) (fun x hx => by cases hx); rwa [decide_eq_true rfl] at this
  refine CallAtG.det true ent14 rfl (fun _ => hM3) ?_
  simp [encRels, encMsgs, rowMsg, mE, zMsg, cB]
  refine hk _ ?_
  refine DWp.ret (hE _ ?_).2
  simp
end Go.Bf
