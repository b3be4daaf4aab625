import Derived.Test.YtmkgmmgfjibjmaaBfX9
namespace Go.Bf
open Go Go.RowKit Go.Proofs Go.IntWalk
attribute [local simp] encB rowL rowW encSs encPs encD maxLen

theorem ent31 : Enters Try.prog 31 := enters_of Try.func31 rfl rfl
theorem refCheck_c (d : Dk) (_ : d.fits) : FnWp Try.prog 31 [encD d] (· = .ret (.int .i64 (if okD d then 0 else 440))) := by
  refine FnWp.intro' Try.func31 rfl (by simp [Try.ntmps31]) fun E hE => ?_
  refine DWp.reg false fun k hk => ?_
  simp
  refine hk _ (DWp.reg false fun k hk => ?_)
  simp
  refine hk _ (DWp.seqK fun kA hkA => ?_)
  refine DWp.reg false fun k hk => ?_
  simp
  refine hk _ (DWp.cond ?_)
  simp
  refine ⟨fun hb => ?_, fun h1 h2 h3 h4 h5 => ?_⟩
  · refine DWp.reg false fun k hk => ?_
    simp
    refine hk _ (DWp.ret ?_)
    simp
    refine (hE _ ?_).2
    have : okD d = false := by
      unfold okD
      simp
      omega
    simp [this]
  · refine DWp.skip ?_
    simp
    refine hkA _ (DWp.seqK fun kA hkA => ?_)
    refine DWp.reg false fun k hk => ?_
    simp
    refine hk _ (DWp.block ?_)
    refine DWp.loopK (fun i : Nat => Know.of 71 [(1, .loc 0 0), (3, .d (.int .i64 d.ss.length)), (4, .d (.int .i64 i))] [(25, [.d (encSs d.ss), .d (encPs d.ps), .d (.int .i64 d.left), .d (.bool d.st)])])
      (fun i => i ≤ d.ss.length ∧ (d.ss.take i).any (fun b => decide (b.length ≠ 128)) = false) (fun i => d.ss.length - i) 0 (Sub.of [0] ⟨rfl, rfl, by simp, by simp, by simp, by simp⟩) (by simp) ?_
    rintro i ⟨hi, hno⟩ kl hkl
    refine DWp.seqK fun k1 hk1 => ?_
    refine DWp.reg false fun k hk => ?_
    simp
    refine hk _ (DWp.cond ?_)
    simp
    refine ⟨fun hlt => DWp.skip (hk1 _ ?_), fun hge => DWp.exit ?_⟩
    · refine DWp.blockK fun k2 hk2 => ?_
      refine DWp.reg false fun k hk => ?_
      simp [hlt]
      refine hk _ (DWp.cond ?_)
      simp
      refine ⟨fun hne => ?_, fun heq => ?_⟩
      · refine DWp.reg false fun k hk => ?_
        simp
        refine hk _ (DWp.ret ?_)
        simp
        refine (hE _ ?_).2
        have hb : okD d = false := by
          unfold okD
          rw [show (d.ss.any fun b => decide (b.length ≠ 128)) = true from List.any_eq_true.2 ⟨d.ss[i], List.getElem_mem hlt, by simp; omega⟩]; simp
        simp [hb]
      · refine DWp.skip ?_
        simp
        refine hk2 _ (DWp.regionV false ?_)
        simp
        rw [i64_in _ (by omega)]
        refine hkl _ (i + 1) ⟨by omega, take_any_succ _ _ _ hlt hno (by simp; omega)⟩ (by omega) (Sub.of [0] ⟨rfl, rfl, by simp, by simp, by simp, by simp⟩)
    · simp
      have hfull : (d.ss.any fun b => decide (b.length ≠ 128)) = false := by rwa [List.take_of_length_le (by omega)] at hno
      refine hkA _ (DWp.seqK fun kA hkA => ?_)
      refine DWp.reg false fun k hk => ?_
      simp
      refine hk _ (DWp.block ?_)
      refine DWp.loopK (fun i : Nat => Know.of 71 [(1, .loc 0 0), (3, .d (.int .i64 d.ss.length)), (5, .d (.int .i64 i))] [(25, [.d (encSs d.ss), .d (encPs d.ps), .d (.int .i64 d.left), .d (.bool d.st)])])
        (fun i => i ≤ d.ps.length ∧ (d.ps.take i).any (badW d.ss.length) = false) (fun i => d.ps.length - i) 0 (Sub.of [0] ⟨rfl, rfl, by simp, by simp, by simp, by simp⟩) (by simp) ?_
      rintro i ⟨hi, hno⟩ kl hkl
      refine DWp.seqK fun k1 hk1 => ?_
      refine DWp.reg false fun k hk => ?_
      simp
      refine hk _ (DWp.cond ?_)
      simp
      refine ⟨fun hlt => DWp.skip (hk1 _ ?_), fun hge => DWp.exit ?_⟩
      · refine DWp.blockK fun k2 hk2 => ?_
        refine DWp.reg false fun k hk => ?_
        simp [hlt]
        refine hk _ (DWp.reg false fun k hk => ?_)
        simp
        refine hk _ (DWp.cond ?_)
        simp
        refine ⟨fun hb => ?_, fun hb1 hb2 hb3 => ?_⟩
        · refine DWp.reg false fun k hk => ?_
          simp
          refine hk _ (DWp.ret ?_)
          simp
          refine (hE _ ?_).2
          have hb : okD d = false := by
            unfold okD
            rw [show (d.ps.any (badW d.ss.length)) = true from List.any_eq_true.2 ⟨d.ps[i], List.getElem_mem hlt, by simp [badW]; omega⟩]; simp
          simp [hb]
        · refine DWp.skip ?_
          simp
          refine hk2 _ (DWp.regionV false ?_)
          simp
          rw [i64_in _ (by omega)]
          refine hkl _ (i + 1) ⟨by omega, take_any_succ _ _ _ hlt hno (by simp [badW]; omega)⟩ (by omega) (Sub.of [0] ⟨rfl, rfl, by simp, by simp, by simp, by simp⟩)
      · simp
        rw [List.take_of_length_le (by omega)] at hno
        refine hkA _ (DWp.reg false fun k hk => ?_)
        simp
        refine hk _ (DWp.ret ?_)
        refine (hE _ ?_).2
        have hb : okD d = true := by
          unfold okD
          rw [hno, hfull]; simp; omega
        simp [hb]
end Go.Bf
