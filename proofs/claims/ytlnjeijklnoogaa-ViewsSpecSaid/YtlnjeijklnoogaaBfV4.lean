/-
  Views: sorting canonical relations. Printed by program (v4.py). Nothing is claimed here.
-/
import Derived.Test.YtlnjeijklnoogaaBfV4a
import Derived.Test.YtlnjeijklnoogaaBfTy
set_option maxRecDepth 100000
set_option maxHeartbeats 8000000
namespace Go.Bf
open Go Go.RowKit Go.Proofs Go.IntWalk
attribute [local simp] maxLen
theorem ent73 : Enters Try.prog 73 := enters_of Try.func73 rfl rfl
theorem ent66 : Enters Try.prog 66 := enters_of Try.func66 rfl rfl
theorem ent45 : Enters Try.prog 45 := enters_of Try.func45 rfl rfl
theorem ent67 : Enters Try.prog 67 := enters_of Try.func67 rfl rfl
theorem ent82 : Enters Try.prog 82 := enters_of Try.func82 rfl rfl
theorem insertion_c (l : List Rl) (cap : Nat) (hl : l.length ≤ 12) (hf : ∀ r ∈ l, fitR r) : FnM1 Try.prog 73 [.own 0 2 0 l.length (some cap), .d (.int .i64 0), .d (.int .i64 l.length), .d (.fn 46 [])] 75 (l.map rowRel).flatten (fun s ds' => s = .d (.tup []) ∧ ds' = ((sortR cmpC l).map rowRel).flatten) := by
  refine FnM1.intro' 0 Try.func73 rfl (by simp [Try.ntmps73]) (.inr ⟨_, _, _, _, rfl⟩) fun E hE => ?_
  refine DWp.reg false fun kk hk => ?_
  simp
  refine hk _ ?_
  refine DWp.block ?_
  have w1 : IntKind.i64.wrap 1 = 1 := i64_in _ (by omega)
  refine DWp.loopK (fun i : Nat => Know.of 53 [(0, .own 0 2 0 l.length (some cap)), (1, .d (.int .i64 0)), (2, .d (.int .i64 l.length)), (3, .d (.fn 46 [])), (8, .d (.int .i64 i))] [(75, cR (sortR cmpC (l.take i) ++ l.drop i))] (fun _ _ _ => True) [0])
    (fun i => 1 ≤ i ∧ (i ≤ l.length ∨ i = 1)) (fun i => l.length - i) 1 (Sub.of [0] ⟨rfl, rfl, by simp, by simp, by simp [w1], by have := sortR_one cmpC l; simp only [List.drop_one] at this; simp [this, cR_flat]⟩) (by simp) ?_
  rintro i ⟨hi1, hi⟩ kl1 hkl1
  refine DWp.seqK fun k2 hk2 => ?_
  refine DWp.reg false fun kk hk => ?_
  simp
  refine hk _ ?_
  refine DWp.condB ?_
  simp
  refine ⟨fun hT0 => ?_, fun hF0 => ?_⟩
  · simp [Tt] at hT0
    have hlt : i < l.length := by omega
    obtain ⟨acc, hacc⟩ : ∃ a, sortR cmpC (l.take i) = a := ⟨_, rfl⟩
    obtain ⟨rest, hrest⟩ : ∃ a, l.drop (i + 1) = a := ⟨_, rfl⟩
    have halen : acc.length = i := by rw [← hacc, sortR_length]; simp; omega
    obtain ⟨x, hx⟩ : ∃ x, l[i] = x := ⟨_, rfl⟩
    have hm0 : sortR cmpC (l.take i) ++ l.drop i = acc ++ x :: ([] ++ rest) := by rw [hacc, List.drop_eq_getElem_cons hlt, hx, hrest]; rfl
    have hxf : fitR x := by rw [← hx]; exact hf _ (List.getElem_mem hlt)
    refine DWp.skip ?_
    refine hk2 _ ?_
    refine DWp.seqK fun k3 hk3 => ?_
    refine DWp.block ?_
    refine DWp.reg false fun kk hk => ?_
    simp
    refine hk _ ?_
    refine DWp.block ?_
    refine DWp.loopK (fun q : Nat × List Rl × List Rl => Know.of 53 [(0, .own 0 2 0 l.length (some cap)), (1, .d (.int .i64 0)), (2, .d (.int .i64 l.length)), (3, .d (.fn 46 [])), (8, .d (.int .i64 i)), (9, .d (.int .i64 q.1))] [(75, cR (q.2.1 ++ x :: (q.2.2 ++ rest)))] (fun _ _ _ => True) [0])
      (fun q => q.2.1.length = q.1 ∧ q.1 ≤ i ∧ insR cmpC q.2.1 x ++ q.2.2 = insR cmpC acc x ∧ q.1 + q.2.2.length = i) (fun q => q.1) (i, acc, []) (Sub.of [0] ⟨rfl, rfl, by simp, by simp, by simp, by simp [hm0]⟩) ⟨halen, Nat.le_refl _, by simp, by simp⟩ ?_
    rintro ⟨j, p, s⟩ ⟨hpj, hji, hins, hjs⟩ kl4 hkl4
    simp only at hpj hji hins hjs ⊢
    obtain ⟨m, hm⟩ : ∃ m, p ++ x :: (s ++ rest) = m := ⟨_, rfl⟩
    rw [hm]
    refine DWp.seqK fun k5 hk5 => ?_
    rcases List.eq_nil_or_concat p with rfl | ⟨p', y, rfl⟩
    · obtain rfl : 0 = j := hpj
      have wj : IntKind.i64.wrap (-1) = -1 := i64_in _ (by omega)
      have hA : List.take 2 (cR m) = [.d (encI x.1), .d (encII x.2)] := by rw [← hm]; exact cR_at [] x _ rfl
      have hml : m.length = l.length := by rw [← hm, ← hrest]; simp at hjs ⊢; omega
      have hfin : sortR cmpC (l.take (i + 1)) ++ l.drop (i + 1) = m := by rw [sortR_take _ _ _ hlt, hacc, hx, hrest, ← hins, ← hm]; simp [insR_nil]
      refine DWp.drawPR false [] (.take 0 (.take 1 (.take 2 (.take 3 (.take 4 (.take 5 (.take 6 (.take 7 (.take 8 (.take 9 (.take 10 (.take 11 (.take 12 (.take 13 (.take 14 (.take 15 (.take 16 .done))))))))))))))))) mixed (by kernel_rfl) fun kk hk => ?_
      simp [wj, hA]
      refine DetCall.intro (d := .int .i64 0) ent46 rfl (fun h => absurd h (by simp)) ?_
      simp [wj, hA]
      refine hk _ ?_
      refine DWp.condB ?_
      simp
      refine DWp.exit ?_
      simp
      refine hk3 _ ?_
      refine DWp.regionV false ?_
      simp
      have i1 : IntKind.i64.wrap ((i : Int) + 1) = ((i + 1 : Nat) : Int) := by rw [i64_in _ (by omega)]; omega
      refine hkl1 _ (i + 1) ⟨by omega, by omega⟩ (by omega) (Sub.of [0] ⟨rfl, rfl, by simp, by simp, by simp [i1], by simp [hfin]⟩)
    · simp only [List.concat_eq_append] at hpj hins hm
      have hrl : rest.length = l.length - (i + 1) := by rw [← hrest]; simp
      have hj0 : 0 < j := by rw [← hpj]; simp
      have hp' : p'.length = j - 1 := by rw [← hpj]; simp
      have wj : IntKind.i64.wrap ((j : Int) - 1) = ((j - 1 : Nat) : Int) := by rw [i64_in _ (by omega)]; omega
      have hA : List.take 2 (List.drop (j * 2) (cR m)) = [.d (encI x.1), .d (encII x.2)] := by rw [← hm]; exact cR_at _ x _ hpj
      have hm' : m = p' ++ y :: (x :: (s ++ rest)) := by rw [← hm]; simp
      have hB : List.take 2 (List.drop ((j - 1) * 2) (cR m)) = [.d (encI y.1), .d (encII y.2)] := by rw [hm']; exact cR_at _ y _ hp'
      have hml : m.length = l.length := by rw [← hm, ← hrest]; simp at hjs hpj ⊢; omega
      refine DWp.drawPR false [] (.take 0 (.take 1 (.take 2 (.take 3 (.take 4 (.take 5 (.take 6 (.take 7 (.take 8 (.take 9 (.take 10 (.take 11 (.take 12 (.take 13 (.take 14 (.take 15 (.take 16 .done))))))))))))))))) mixed (by kernel_rfl) fun kk hk => ?_
      simp [wj, hA, hB, hj0]
      refine ⟨by omega, by omega, by omega, by omega, ?_⟩
      refine DetCall.intro (d := .int .i64 (cmpC x y)) ent46 rfl (fun _ => cmpC_c x y hxf) ?_
      simp [wj, hA, hB, hj0]
      refine hk _ ?_
      refine DWp.condB ?_
      simp
      refine ⟨fun hT1 => ?_, fun hF1 => ?_⟩
      · simp [Tt] at hT1
        have hP1 : List.take (j * 2) (cR m) ++ (.d (encI y.1) :: .d (encII y.2) :: List.drop (j * 2 + 2) (cR m)) = cR (p' ++ y :: (y :: (s ++ rest))) := by rw [← hm]; have := cR_put (p' ++ [y]) x y (s ++ rest) hpj; rw [this]; simp
        have hP2 : List.take ((j - 1) * 2) (cR (p' ++ y :: (y :: (s ++ rest)))) ++ (.d (encI x.1) :: .d (encII x.2) :: List.drop ((j - 1) * 2 + 2) (cR (p' ++ y :: (y :: (s ++ rest))))) = cR (p' ++ x :: (y :: (s ++ rest))) := cR_put p' y x _ hp'
        refine DWp.skip ?_
        refine hk5 _ ?_
        refine DWp.seqK fun k6 hk6 => ?_
        refine DWp.block ?_
        refine DWp.drawP false [] (.take 0 (.take 1 (.take 2 (.take 3 (.take 4 (.take 5 (.take 6 (.take 7 (.take 8 (.take 9 (.take 10 (.take 11 (.take 12 (.take 13 (.take 14 (.take 15 (.take 16 (.take 17 .done)))))))))))))))))) mixed (by kernel_rfl) ?_
        simp [-DV.one, wj, hA, hB, hP1, hP2]
        refine ⟨by omega, by omega, by omega, by omega, by omega, by omega, by omega, by omega, ?_⟩
        refine hk6 _ ?_
        refine DWp.regionV false ?_
        simp
        refine hkl4 _ (j - 1, p', y :: s) ⟨by simp only; omega, by simp only; omega, ?_, by simp; omega⟩ (by simp only; omega) (Sub.of [0] ⟨rfl, rfl, by simp, by simp, by simp [wj], by simp⟩)
        simp only
        rw [← hins, insR_snoc, if_pos hT1]
        simp
      · simp [Ff] at hF1
        have hfin : sortR cmpC (l.take (i + 1)) ++ l.drop (i + 1) = m := by rw [sortR_take _ _ _ hlt, hacc, hx, hrest, ← hins, ← hm, insR_snoc, if_neg (by omega)]; simp
        refine DWp.exit ?_
        simp
        refine hk3 _ ?_
        refine DWp.regionV false ?_
        simp
        have i1 : IntKind.i64.wrap ((i : Int) + 1) = ((i + 1 : Nat) : Int) := by rw [i64_in _ (by omega)]; omega
        refine hkl1 _ (i + 1) ⟨by omega, by omega⟩ (by omega) (Sub.of [0] ⟨rfl, rfl, by simp, by simp, by simp [i1], by simp [hfin]⟩)
  · simp [Ff] at hF0
    refine DWp.exit ?_
    simp
    have hlen : i = l.length ∨ (i = 1 ∧ l = []) := by by_cases h0 : l.length = 0; exact .inr ⟨by omega, List.eq_nil_of_length_eq_zero h0⟩; exact .inl (by omega)
    have hend : sortR cmpC (l.take i) ++ l.drop i = sortR cmpC l := by rcases hlen with rfl | ⟨rfl, rfl⟩ <;> simp [sortR]
    rw [hend]
    refine (hE _ ⟨by simp, 0, _, ((sortR cmpC l).map rowRel).flatten, .inr ⟨2, 0, l.length, some cap, by simp, by simp⟩, by first | rfl | (simp; rfl), by first | exact allD_mapD _ | (rw [cR_flat]; exact cR_allD _), ?_⟩).1
    simp
theorem len64_c (n : Nat) (hn : n ≤ 12) : FnWp Try.prog 82 [.int .u64 n] (fun o => ∃ m, o = .ret (.int .i64 m)) := by
  refine FnWp.intro' Try.func82 rfl (by simp [Try.ntmps82]) fun E hE => ?_
  refine DWp.reg false fun kk hk => ?_
  simp
  refine hk _ ?_
  refine DWp.seqK fun k1 hk1 => ?_
  refine DWp.reg false fun kk hk => ?_
  simp
  refine hk _ ?_
  refine DWp.condB ?_
  simp [show ¬ (4294967296 ≤ (n : Int)) by omega]
  refine DWp.skip ?_
  refine hk1 _ ?_
  refine DWp.seqK fun k2 hk2 => ?_
  refine DWp.reg false fun kk hk => ?_
  simp
  refine hk _ ?_
  refine DWp.condB ?_
  simp [show ¬ (65536 ≤ (n : Int)) by omega]
  refine DWp.skip ?_
  refine hk2 _ ?_
  refine DWp.seqK fun k3 hk3 => ?_
  refine DWp.reg false fun kk hk => ?_
  simp
  refine hk _ ?_
  refine DWp.condB ?_
  simp [show ¬ (256 ≤ (n : Int)) by omega]
  refine DWp.skip ?_
  refine hk3 _ ?_
  refine DWp.reg false fun kk hk => ?_
  simp [u8_in (n : Int) ⟨by omega, by omega⟩]
  refine ⟨by omega, ?_⟩
  refine hk _ ?_
  refine DWp.ret (hE _ ?_).2
  simp
theorem len_c (n : Nat) (hn : n ≤ 12) : FnWp Try.prog 67 [.int .u64 n] (fun o => ∃ m, o = .ret (.int .i64 m)) := by
  refine FnWp.intro' Try.func67 rfl (by simp [Try.ntmps67]) fun E hE => ?_
  refine DWp.reg false fun kk hk => ?_
  simp
  refine hk _ ?_
  refine DWp.seqK fun k1 hk1 => ?_
  refine DWp.condB ?_
  simp
  refine DWp.skip ?_
  refine hk1 _ ?_
  refine DWp.reg false fun kk hk => ?_
  simp
  refine CallAt.any (R := fun d => ∃ m, d = .int .i64 m) false ent82 rfl ((len64_c n hn).mono fun o ⟨m, h⟩ => ⟨_, h, m, rfl⟩) fun d ⟨m, hd⟩ => ?_
  subst hd
  simp
  refine hk _ ?_
  refine DWp.ret (hE _ ?_).2
  simp
theorem pdq_c (l : List Rl) (cap : Nat) (hl : l.length ≤ 12) (hf : ∀ r ∈ l, fitR r) (m : Int) : FnM1 Try.prog 66 [.own 0 2 0 l.length (some cap), .d (.int .i64 0), .d (.int .i64 l.length), .d (.int .i64 m), .d (.fn 46 [])] 75 (l.map rowRel).flatten (fun s ds' => s = .d (.tup []) ∧ ds' = ((sortR cmpC l).map rowRel).flatten) := by
  refine FnM1.intro' 0 Try.func66 rfl (by simp [Try.ntmps66]) (.inr ⟨_, _, _, _, rfl⟩) fun E hE => ?_
  refine DWp.reg false fun kk hk => ?_
  simp
  refine hk _ ?_
  refine DWp.reg false fun kk hk => ?_
  simp
  refine hk _ ?_
  refine DWp.block ?_
  refine DWp.loopK (fun _ : Unit => Know.of 148 [(0, .own 0 2 0 l.length (some cap)), (1, .d (.int .i64 0)), (2, .d (.int .i64 l.length)), (4, .d (.fn 46 []))] [(75, cR l)] (fun _ _ _ => True) [0])
    (fun _ => True) (fun _ => 0) () (Sub.of [0] ⟨rfl, rfl, by simp, by simp, by simp, by simp [cR_flat]⟩) trivial ?_
  rintro _ _ kl1 hkl1
  refine DWp.block ?_
  refine DWp.reg false fun kk hk => ?_
  simp [i64_in (l.length : Int) (by omega)]
  refine hk _ ?_
  refine DWp.seqK fun k2 hk2 => ?_
  refine DWp.reg false fun kk hk => ?_
  simp
  refine hk _ ?_
  refine DWp.condB ?_
  simp [show (l.length : Int) ≤ 12 by omega]
  refine DWp.reg false fun kk hk => ?_
  simp
  refine CallAt.mem1 0 false ent73 (by first | rfl | (simp; rfl)) (cR_allD l) rfl (insertion_c l cap hl hf) ?_
  rintro d ds' ⟨rfl, rfl⟩
  simp
  refine hk _ ?_
  refine (DWp.ret (hE _ ⟨by simp, 1, _, ((sortR cmpC l).map rowRel).flatten, .inr ⟨2, 0, l.length, some cap, by simp, by simp⟩, by first | rfl | (simp; rfl), by first | exact allD_mapD _ | (rw [cR_flat]; exact cR_allD _), ?_⟩).2)
  simp
theorem sortFunc_c (l : List Rl) (cap : Nat) (hl : l.length ≤ 12) (hf : ∀ r ∈ l, fitR r) : FnM1 Try.prog 45 [.own 0 2 0 l.length (some cap), .d (.fn 46 [])] 75 (l.map rowRel).flatten (fun s ds' => s = .d (.tup []) ∧ ds' = ((sortR cmpC l).map rowRel).flatten) := by
  refine FnM1.intro' 0 Try.func45 rfl (by simp [Try.ntmps45]) (.inr ⟨_, _, _, _, rfl⟩) fun E hE => ?_
  refine DWp.reg false fun kk hk => ?_
  simp
  refine hk _ ?_
  refine DWp.regionV false ?_
  simp [u64_in (l.length : Int) ⟨by omega, by omega⟩]
  refine CallAt.any (R := fun d => ∃ m, d = .int .i64 m) false ent67 rfl ((len_c l.length hl).mono fun o ⟨m, h⟩ => ⟨_, h, m, rfl⟩) fun d ⟨m, hd⟩ => ?_
  subst hd
  simp
  refine CallAt.mem1 (t := 75) 0 false ent66 (by simp [cR_flat]) (cR_allD l) rfl (pdq_c l cap hl hf m) ?_
  rintro d ds' ⟨rfl, rfl⟩
  simp
  refine (hE _ ⟨by simp, 1, _, ((sortR cmpC l).map rowRel).flatten, .inr ⟨2, 0, l.length, some cap, by simp, by simp⟩, by first | rfl | (simp; rfl), by first | exact allD_mapD _ | (rw [cR_flat]; exact cR_allD _), ?_⟩).1
  simp
end Go.Bf
