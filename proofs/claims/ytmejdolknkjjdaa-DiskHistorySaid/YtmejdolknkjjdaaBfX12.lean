import Derived.Test.YtmejdolknkjjdaaBfX11
namespace Go.Bf
open Go Go.RowKit Go.Proofs Go.IntWalk
attribute [local simp] encB rowL rowW encSs encPs encD maxLen

theorem refNew_c (n : Int) : FnWp Try.prog 13 [.int .i64 n] (· = .ret (.tup [encD (newD n).1, .int .i64 (newD n).2])) := by
  refine FnWp.intro' Try.func13 rfl (by simp [Try.ntmps13]) fun E hE => ?_
  refine DWp.reg false fun k hk => ?_
  simp
  refine hk _ (DWp.seqK fun kA hkA => ?_)
  refine DWp.reg false fun k hk => ?_
  simp
  refine hk _ (DWp.cond ?_)
  simp
  refine ⟨fun hb => ?_, fun h1 h2 => ?_⟩
  · refine DWp.reg false fun k hk => ?_
    simp
    refine hk _ (DWp.ret ?_)
    simp
    refine (hE _ ?_).2
    rw [show newD n = (zeroD, 1) by simp only [newD]; rw [if_pos hb]]
    simp [zeroD]
  · refine DWp.skip ?_
    simp
    obtain ⟨m, rfl⟩ : ∃ m : Nat, n = m := ⟨n.toNat, by omega⟩
    refine hkA _ (DWp.reg false fun k hk => ?_)
    simp
    refine hk _ (DWp.seqK fun kB hkB => ?_)
    refine DWp.reg false fun k hk => ?_
    simp
    refine hk _ (DWp.block ?_)
    refine DWp.loopK (fun j : Nat => if j = 0 then Know.of 26 [(0, .d (.int .i64 m)), (2, .loc 0 0), (4, .loc 1 0), (5, .d (.int .i64 j))] [(25, [.clip [], .clip [], .d (.int .i64 0), .d (.bool false)]), (25, [.clip [], .clip [], .d (.int .i64 (-1)), .d (.bool false)])]
        else Know.of 26 [(0, .d (.int .i64 m)), (2, .loc 0 0), (4, .loc 1 0), (5, .d (.int .i64 j))] [(25, [.clip [], .clip [], .d (.int .i64 0), .d (.bool false)]), (25, [.own 2 1 0 j none, .clip [], .d (.int .i64 (-1)), .d (.bool false)]), (22, cellsL (List.replicate j zeroS))])
      (fun j => j ≤ m) (fun j => m - j) 0 (by rw [if_pos rfl]; exact Sub.of [0, 1] ⟨rfl, rfl, by simp, by simp, by simp, by simp⟩) (by omega) ?_
    rintro j hj kl hkl
    by_cases hj0 : j = 0
    · rw [if_pos hj0]
      subst hj0
      refine DWp.seqK fun k1 hk1 => ?_
      refine DWp.reg false fun k hk => ?_
      simp
      refine hk _ (DWp.cond ?_)
      simp
      refine ⟨fun hlt => DWp.skip (hk1 _ ?_), fun hge => absurd hge (by omega)⟩
      refine DWp.blockK fun k2 hk2 => ?_
      refine DWp.draw true (Plan.of [0, 1, 2, 3, 4, 5, 6] .done) mixed (by kernel_rfl) ?_
      simp
      rw [zeroS_rows]
      refine ⟨wideL [zeroS], (fun r hr => by cases hr), hk2 _ (DWp.regionV false ?_)⟩
      simp
      refine hkl _ 1 (by omega) (by omega) ?_
      rw [if_neg (by omega)]
      exact Sub.of [0, 1, 2] ⟨rfl, rfl, by simp, by simp, (by simp; exact i64_in 1 (by omega)), by simp [cellsL]⟩
    · rw [if_neg hj0]
      refine DWp.seqK fun k1 hk1 => ?_
      refine DWp.reg false fun k hk => ?_
      simp
      refine hk _ (DWp.cond ?_)
      simp
      refine ⟨fun hlt => DWp.skip (hk1 _ ?_), fun hge => DWp.exit ?_⟩
      · refine DWp.blockK fun k2 hk2 => ?_
        refine DWp.draw true (Plan.of [0, 1, 2, 3, 4, 5, 6] .done) mixed (by kernel_rfl) ?_
        simp
        rw [zeroS_rows]
        refine ⟨⟨wideL [zeroS], by omega, by omega⟩, hk2 _ (DWp.regionV false ?_)⟩
        simp
        rw [i64_in _ (by omega)]
        refine hkl _ (j + 1) (by omega) (by omega) ?_
        rw [if_neg (by omega)]
        exact Sub.of [0, 1, 3] ⟨rfl, rfl, by simp, by simp, by simp, by simp [cellsL, renL_append, List.replicate_succ']⟩
      · simp
        have hjm : j = m := by omega
        subst hjm
        refine hkB _ (DWp.reg false fun k hk => ?_)
        simp
        refine hk _ (DWp.ret ?_)
        refine (hE _ ?_).2
        rw [show newD j = (⟨List.replicate j zeroS, [], -1, false⟩, 0) by simp only [newD]; rw [if_neg (by omega)]; simp]
        have htk : List.take j (cellsL (List.replicate j zeroS)) = cellsL (List.replicate j zeroS) := List.take_of_length_le (by simp)
        simp [htk]
end Go.Bf
