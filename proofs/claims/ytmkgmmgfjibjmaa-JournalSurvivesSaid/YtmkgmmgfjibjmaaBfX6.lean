import Derived.Test.YtmkgmmgfjibjmaaBfX5
namespace Go.Bf
open Go Go.RowKit Go.Proofs Go.IntWalk
attribute [local simp] encB rowL rowW encSs encPs encD maxLen

def padB (b : List UInt8) : List UInt8 := b ++ List.replicate (128 - b.length) 0
@[simp] theorem padB_length (b : List UInt8) (h : b.length ≤ 128) : (padB b).length = 128 := by simp [padB]; omega
theorem copy_pad (b : List UInt8) (hb : b.length ≤ 128) : spl (repl 128 (SV.d (.int .u8 0))) 0 (List.take (min b.length 128) (b.map fun c => .d (cB c))) = (padB b).map fun c => .d (cB c) := by
  rw [Nat.min_eq_left hb, take_map_len, spl_eq _ _ _ (by simp; omega)]
  simp only [List.take_zero, List.nil_append, padB, List.map_append, List.map_replicate, Nat.zero_add, List.length_map, repl_eq, List.drop_replicate]
  rfl
theorem renL_Wf (ρ : Nat → Nat) (ps : List (Int × List UInt8)) : renL ρ ((ps.map (List.map SV.d ∘ rowW)).flatten) = (ps.map (List.map SV.d ∘ rowW)).flatten := by
  induction ps with
  | nil => simp [renL]
  | cons p ps ih => rw [List.map_cons, List.flatten_cons, renL_append, ih]; simp [rowW]
def writeD (d : Dk) (at' : Int) (b : List UInt8) : Dk × Int :=
  if okD d && !d.st && decide (0 ≤ at' ∧ at' < d.ss.length) then
    if 128 < b.length then (zeroD, 1) else if d.ps.length = 4096 then (zeroD, 2) else ({ d with ps := d.ps ++ [(at', padB b)] }, 0)
  else (zeroD, 440)

theorem okD_ps {d : Dk} (h : okD d = true) : d.ps.length ≤ 4096 ∧ 1 ≤ d.ss.length ∧ d.ss.length ≤ 4096 := by
  unfold okD at h; simp only [Bool.and_eq_true, decide_eq_true_eq] at h; omega

theorem write_c (d : Dk) (hd : d.fits) (at' : Int) (b : List UInt8) : FnWp Try.prog 23 [encD d, .int .i64 at', encB b] (· = .ret (.tup [encD (writeD d at' b).1, .int .i64 (writeD d at' b).2])) := by
  refine FnWp.intro' Try.func23 rfl (by simp [Try.ntmps23]) fun E hE => ?_
  refine DWp.reg false fun k hk => ?_
  simp
  refine hk _ (DWp.blockK fun kA hkA => ?_)
  refine DWp.reg false fun k hk => ?_
  simp
  refine CallAt.det false ent44 rfl (runs_c d hd) ?_
  simp
  refine CallAtG.det false ent45 rfl (fun _ => has_c d at') ?_
  simp
  refine hk _ (DWp.cond ?_)
  simp
  refine ⟨fun hb => ?_, fun hb1 hb2 hb3 hb4 => ?_⟩
  · refine DWp.reg false fun k hk => ?_
    simp
    refine hk _ (DWp.ret ?_)
    simp
    refine (hE _ ?_).2
    have : (okD d && !d.st && decide (0 ≤ at' ∧ at' < d.ss.length)) = false := by
      cases h1 : okD d <;> cases h2 : d.st <;> simp_all <;> omega
    rw [show writeD d at' b = (zeroD, 440) by simp only [writeD, this]; rfl]
    simp [zeroD]
  · have hok : (okD d && !d.st && decide (0 ≤ at' ∧ at' < d.ss.length)) = true := by simp [hb1, hb2, hb3, hb4]
    refine DWp.reg false fun k hk => ?_
    simp
    refine hk _ (DWp.cond ?_)
    simp
    refine ⟨fun hb => ?_, fun hb => ?_⟩
    · refine DWp.reg false fun k hk => ?_
      simp
      refine hk _ (DWp.ret ?_)
      simp
      refine (hE _ ?_).2
      have : 128 < b.length := by omega
      rw [show writeD d at' b = (zeroD, 1) by simp only [writeD, hok, this]; rfl]
      simp [zeroD]
    · refine DWp.reg false fun k hk => ?_
      simp
      refine hk _ (DWp.cond ?_)
      simp
      refine ⟨fun hb' => ?_, fun hb' => ?_⟩
      · refine DWp.reg false fun k hk => ?_
        simp
        refine hk _ (DWp.ret ?_)
        simp
        refine (hE _ ?_).2
        have : ¬ 128 < b.length := by omega
        have h2 : d.ps.length = 4096 := by omega
        rw [show writeD d at' b = (zeroD, 2) by simp only [writeD, hok, this, h2]; rfl]
        simp [zeroD]
      · refine DWp.skip ?_
        simp
        refine hkA _ (DWp.sub (Sub.of (n := 46) (sl := [(1, .d (.int .i64 at')), (2, .d (encB b)), (3, .loc 0 0), (6, .loc 1 0)]) (ml := [(25, [.d (encSs d.ss), .d (encPs d.ps), .d (.int .i64 d.left), .d (.bool d.st)]), (25, [.clip [], .clip [], .d (.int .i64 0), .d (.bool false)])]) [0, 1]
          ⟨rfl, rfl, by simp, by simp, by simp, by simp⟩) ?_)
        refine DWp.reg false fun k hk => ?_
        simp
        refine hk _ (DWp.reg false fun k hk => ?_)
        simp
        refine ⟨⟨wideB b, by omega⟩, hk _ ?_⟩
        refine DWp.sub (Sub.of (n := 46) (sl := [(1, .d (.int .i64 at')), (2, .d (encB b)), (3, .loc 0 0), (6, .loc 1 0), (8, .own 2 1 0 128 (some 128))]) (ml := [(25, [.d (encSs d.ss), .d (encPs d.ps), .d (.int .i64 d.left), .d (.bool d.st)]), (25, [.clip [], .clip [], .d (.int .i64 0), .d (.bool false)]), (35, (padB b).map fun c => .d (cB c))]) [0, 1, 2]
          ⟨rfl, rfl, by simp, by simp, by simp, by simp [copy_pad b (by omega)]⟩) ?_
        refine DWp.sub (Sub.freeze 2 rfl (allD_map cB _)) ?_
        refine DWp.sub (Sub.of (n := 46) (sl := [(1, .d (.int .i64 at')), (2, .d (encB b)), (3, .loc 0 0), (6, .loc 1 0), (8, .d (encB (padB b)))]) (ml := [(25, [.d (encSs d.ss), .d (encPs d.ps), .d (.int .i64 d.left), .d (.bool d.st)]), (25, [.clip [], .clip [], .d (.int .i64 0), .d (.bool false)])]) [0, 1]
          ⟨rfl, rfl, by simp, by simp, ?_, by simp⟩) ?_
        · simp
          rw [padB_length b (by omega), if_pos (Nat.le_refl _), ← padB_length b (by omega), take_map_len]
          simp [rowB_eq, Function.comp_def]
        · refine DWp.reg false fun k hk => ?_
          simp
          refine CallAt.det false ent47 rfl (cloneW_c d.ps (okD_ps hb1).1) ?_
          simp
          refine CallAt.clip false ent46 rfl (clipW_c d.ps) ?_
          simp
          have hps := okD_ps hb1
          refine ⟨wideW _, by omega, by omega, hk _ ?_⟩
          obtain ⟨ps', hp'⟩ : ∃ p, d.ps ++ [(at', padB b)] = p := ⟨_, rfl⟩
          refine DWp.sub (Sub.of (n := 46) (sl := [(3, .loc 0 0), (6, .loc 1 0)]) (ml := [(25, [.d (encSs d.ss), .own 2 2 0 ps'.length none, .d (.int .i64 d.left), .d (.bool d.st)]), (25, [.clip [], .clip [], .d (.int .i64 0), .d (.bool false)]), (23, (ps'.map (List.map SV.d ∘ rowW)).flatten)]) [0, 1, 3]
            ⟨rfl, rfl, by simp, by simp, by simp, ?_⟩) ?_
          · simp [← hp', renL_append, renL_Wf]
          · refine DWp.reg false fun k hk => ?_
            simp
            refine hk _ (DWp.ret ?_)
            refine (hE _ ?_).2
            rw [show writeD d at' b = (⟨d.ss, ps', d.left, d.st⟩, 0) by simp only [writeD, hok, hp']; rw [if_pos trivial, if_neg (by omega), if_neg (by omega)]]
            simp [List.mapM_cons]
end Go.Bf
