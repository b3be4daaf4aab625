import Derived.Test.YtmejdolknkjjdaaBfX10
namespace Go.Bf
open Go Go.RowKit Go.Proofs Go.IntWalk
attribute [local simp] encB rowL rowW encSs encPs encD maxLen

theorem refStop_c (d : Dk) (hd : d.fits) (left : Int) : FnWp Try.prog 26 [encD d, .int .i64 left] (· = .ret (.tup [encD (stopD d left).1, .int .i64 (stopD d left).2])) := by
  refine FnWp.intro' Try.func26 rfl (by simp [Try.ntmps26]) fun E hE => ?_
  refine DWp.reg false fun k hk => ?_
  simp
  refine hk _ (DWp.seqK fun kA hkA => ?_)
  refine DWp.reg false fun k hk => ?_
  simp
  refine CallAt.det false ent16 rfl (refCheck_c d hd) ?_
  simp
  refine hk _ (DWp.cond ?_)
  simp
  refine ⟨fun hb => ?_, fun hb1 hb2 => ?_⟩
  · refine DWp.reg false fun k hk => ?_
    simp
    refine hk _ (DWp.ret ?_)
    simp
    refine (hE _ ?_).2
    have : (okD d && !d.st) = false := by
      cases h1 : okD d <;> cases h2 : d.st <;> simp_all
    rw [show stopD d left = (zeroD, 440) by simp only [stopD, this]; rfl]
    simp [zeroD]
  · have hok : (okD d && !d.st) = true := by simp [hb1, hb2]
    refine DWp.skip ?_
    simp
    refine hkA _ (DWp.seqK fun kA hkA => ?_)
    refine DWp.reg false fun k hk => ?_
    simp
    refine hk _ (DWp.cond ?_)
    simp
    refine ⟨fun hb => ?_, fun h1 h2 => ?_⟩
    · refine DWp.reg false fun k hk => ?_
      simp
      refine hk _ (DWp.ret ?_)
      simp
      refine (hE _ ?_).2
      rw [show stopD d left = (zeroD, 1) by simp only [stopD, hok]; rw [if_pos trivial, if_pos (by omega)]]
      simp [zeroD]
    · refine DWp.skip ?_
      simp
      refine hkA _ (DWp.reg false fun k hk => ?_)
      simp
      refine hk _ (DWp.reg false fun k hk => ?_)
      simp
      refine hk _ (DWp.ret ?_)
      refine (hE _ ?_).2
      rw [show stopD d left = ({ d with left := left }, 0) by simp only [stopD, hok]; rw [if_pos trivial, if_neg (by omega)]]
      simp

def sect (c : UInt8) : List UInt8 := (zeroS.set 0 c).set 64 c
theorem double_c (c : UInt8) : FnWp Try.prog 27 [cB c] (· = .ret (encB (sect c))) := by
  refine FnWp.intro' Try.func27 rfl (by simp [Try.ntmps27]) fun E hE => ?_
  refine DWp.reg false fun k hk => ?_
  simp
  refine hk _ (DWp.reg false fun k hk => ?_)
  simp
  refine hk _ (DWp.reg false fun k hk => ?_)
  simp [cB]
  have e : ((repl 128 (SV.d (.int .u8 0))).set 0 (.d (.int .u8 c.toNat))).set 64 (.d (.int .u8 c.toNat)) = (sect c).map fun c => .d (cB c) := by
    simp only [sect, zeroS, List.map_set, List.map_replicate, repl_eq]; rfl
  rw [e]
  have hl : (sect c).length = 128 := by simp only [sect, zeroS, List.length_set, List.length_replicate]
  have htk : List.take 128 ((sect c).map fun c => SV.d (cB c)) = (sect c).map fun c => .d (cB c) := by rw [← hl, take_map_len]
  generalize sect c = t at *
  refine hk _ (DWp.sub (Sub.of (n := 12) (sl := [(3, .own 0 1 0 128 (some 128))]) (ml := [(35, t.map fun c => .d (cB c))]) [0] ⟨rfl, rfl, by simp, by simp, by simp, by simp⟩) ?_)
  refine DWp.reg false fun k hk => ?_
  simp
  refine hk _ (DWp.ret ?_)
  refine (hE _ ?_).2
  simp [htk, hl, rowB_eq, Function.comp_def]
end Go.Bf
