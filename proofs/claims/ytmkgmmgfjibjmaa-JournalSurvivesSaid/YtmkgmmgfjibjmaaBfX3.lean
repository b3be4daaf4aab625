import Derived.Test.YtmkgmmgfjibjmaaBfX2
import Derived.Test.YtmkgmmgfjibjmaaFwC
namespace Go.Bf
open Go Go.RowKit Go.Proofs Go.IntWalk
attribute [local simp] encB rowL rowW encSs encPs

structure Dk where
  ss : List (List UInt8)
  ps : List (Int × List UInt8)
  left : Int
  st : Bool

def encD (d : Dk) : DV := .agg [encSs d.ss, encPs d.ps, .int .i64 d.left, .bool d.st]
attribute [local simp] encD
def Dk.fits (d : Dk) : Prop := d.ss.length ≤ 140737488355328 ∧ d.ps.length ≤ 140737488355328

theorem ent51 : Enters Try.prog 51 := enters_of Try.func51 rfl rfl
theorem ent52 : Enters Try.prog 52 := enters_of Try.func52 rfl rfl
theorem ent29 : Enters Try.prog 29 := enters_of Try.func29 rfl rfl
theorem ent44 : Enters Try.prog 44 := enters_of Try.func44 rfl rfl
theorem ent45 : Enters Try.prog 45 := enters_of Try.func45 rfl rfl

theorem has_c (d : Dk) (at' : Int) : FnWp Try.prog 45 [encD d, .int .i64 at'] (· = .ret (.bool (decide (0 ≤ at' ∧ at' < d.ss.length)))) := by
  refine FnWp.intro' Try.func45 rfl (by simp [Try.ntmps45]) fun E hE => ?_
  refine DWp.reg false fun k hk => ?_
  simp
  refine hk _ (DWp.reg false fun k hk => ?_)
  simp
  refine hk _ (DWp.ret (hE _ ?_).2)
  simp

def okD (d : Dk) : Bool := decide (1 ≤ d.ss.length ∧ d.ss.length ≤ 4096 ∧ d.ps.length ≤ 4096 ∧ -1 ≤ d.left ∧ d.left ≤ 65536) && !d.ps.any (badW d.ss.length) && !d.ss.any (fun b => decide (b.length ≠ 128))

theorem check_c (d : Dk) (hd : d.fits) : FnWp Try.prog 29 [encD d] (· = .ret (.int .i64 (if okD d then 0 else 440))) := by
  refine FnWp.intro' Try.func29 rfl (by simp [Try.ntmps29]) fun E hE => ?_
  refine DWp.reg false fun k hk => ?_
  simp
  refine hk _ (DWp.reg false fun k hk => ?_)
  simp
  refine hk _ (DWp.reg false fun k hk => ?_)
  simp
  refine hk _ (DWp.sub (Sub.freeze 1 (t := 3) (ds := [.int .i64 d.ss.length]) rfl rfl) ?_)
  refine DWp.seqK fun k hk => ?_
  refine DWp.reg false fun k1 hk1 => ?_
  simp
  refine CallAtG.det false ent51 rfl (fun _ => containsW_c d.ss.length d.ps hd.2) ?_
  simp
  refine hk1 _ (DWp.cond ?_)
  simp
  refine ⟨fun hb => ?_, fun h1 h2 h3 h4 h5 h6 => ?_⟩
  · refine DWp.reg false fun k1 hk1 => ?_
    simp
    refine hk1 _ (DWp.ret ?_)
    simp
    refine (hE _ ?_).2
    simp
    have : okD d = false := by
      unfold okD
      rcases hb with ((((hb | hb) | hb) | hb) | hb) | hb
      · simp; omega
      · simp; omega
      · simp; omega
      · simp; omega
      · simp; omega
      · rw [List.any_eq_true.2 (by obtain ⟨a, b, h1, h2⟩ := hb; exact ⟨(a, b), h1, h2⟩)]; simp
    simp [this]
  · refine DWp.skip ?_
    simp
    refine hk _ (DWp.seqK fun k hk => ?_)
    refine DWp.reg false fun k1 hk1 => ?_
    simp
    refine CallAt.det false ent52 rfl (containsL_c d.ss hd.1) ?_
    simp
    refine hk1 _ (DWp.cond ?_)
    simp
    refine ⟨fun b hb hl => ?_, fun hb => ?_⟩
    · refine DWp.reg false fun k1 hk1 => ?_
      simp
      refine hk1 _ (DWp.ret ?_)
      simp
      refine (hE _ ?_).2
      simp
      have : okD d = false := by
        unfold okD
        rw [show (d.ss.any fun b => decide (b.length ≠ 128)) = true from List.any_eq_true.2 ⟨b, hb, by simpa using hl⟩]; simp
      simp [this]
    · refine DWp.skip ?_
      simp
      refine hk _ (DWp.reg false fun k1 hk1 => ?_)
      simp
      refine hk1 _ (DWp.ret ?_)
      refine (hE _ ?_).2
      simp
      have : okD d = true := by
        unfold okD
        rw [List.any_eq_false.2 (by rintro ⟨a, b⟩ hh; rw [h6 a b hh]; simp), show (d.ss.any fun b => decide (b.length ≠ 128)) = false from List.any_eq_false.2 (by intro x hx; simpa using hb x hx)]
        simp; omega
      simp [this]

theorem runs_c (d : Dk) (hd : d.fits) : FnWp Try.prog 44 [encD d] (· = .ret (.bool (okD d && !d.st))) := by
  refine FnWp.intro' Try.func44 rfl (by simp [Try.ntmps44]) fun E hE => ?_
  refine DWp.reg false fun k hk => ?_
  simp
  refine hk _ (DWp.reg false fun k hk => ?_)
  simp
  refine CallAt.det false ent29 rfl (check_c d hd) ?_
  simp
  refine hk _ (DWp.ret (hE _ ?_).2)
  simp

theorem restart_c (d : Dk) : FnWp Try.prog 28 [encD d] (· = .ret (encD ⟨d.ss, [], -1, false⟩)) := by
  refine FnWp.intro' Try.func28 rfl (by simp [Try.ntmps28]) fun E hE => ?_
  refine DWp.reg false fun k hk => ?_
  simp
  refine hk _ (DWp.reg false fun k hk => ?_)
  simp
  refine hk _ (DWp.ret (hE _ ?_).2)
  simp

def zeroD : Dk := ⟨[], [], 0, false⟩
def stopD (d : Dk) (left : Int) : Dk × Int :=
  if okD d && !d.st then (if left < 0 ∨ 65536 < left then (zeroD, 1) else ({ d with left := left }, 0)) else (zeroD, 440)

theorem stop_c (d : Dk) (hd : d.fits) (left : Int) : FnWp Try.prog 27 [encD d, .int .i64 left] (· = .ret (.tup [encD (stopD d left).1, .int .i64 (stopD d left).2])) := by
  refine FnWp.intro' Try.func27 rfl (by simp [Try.ntmps27]) fun E hE => ?_
  refine DWp.reg false fun k hk => ?_
  simp
  refine hk _ (DWp.blockK fun kA hkA => ?_)
  refine DWp.reg false fun k hk => ?_
  simp
  refine CallAt.det false ent44 rfl (runs_c d hd) ?_
  simp
  refine hk _ (DWp.cond ?_)
  simp
  refine ⟨fun hb => ?_, fun hb1 hb2 => ?_⟩
  · refine DWp.reg false fun k hk => ?_
    simp
    refine hk _ (DWp.ret ?_)
    simp
    refine (hE _ ?_).2
    have : (okD d && !d.st) = false := by
      cases h1 : okD d <;> cases h2 : d.st <;> simp_all
    simp [stopD, this, zeroD]
  · have hok : (okD d && !d.st) = true := by simp [hb1, hb2]
    refine DWp.reg false fun k hk => ?_
    simp
    refine hk _ (DWp.cond ?_)
    simp
    refine ⟨fun hb => ?_, fun h1 h2 => ?_⟩
    · refine DWp.reg false fun k hk => ?_
      simp
      refine hk _ (DWp.ret ?_)
      simp
      refine (hE _ ?_).2
      simp [stopD, hok, hb, zeroD]
    · refine DWp.skip ?_
      simp
      refine hkA _ (DWp.reg false fun k hk => ?_)
      simp
      refine hk _ (DWp.reg false fun k hk => ?_)
      simp
      refine hk _ (DWp.ret ?_)
      refine (hE _ ?_).2
      have : ¬ (left < 0 ∨ 65536 < left) := by omega
      simp [stopD, hok, this]

theorem clipW_c (ps : List (Int × List UInt8)) : FnWp Try.prog 46 [encPs ps] (· = .clip (ps.map rowW)) := by
  refine FnWp.intro' Try.func46 rfl (by simp [Try.ntmps46]) fun E hE => ?_
  refine DWp.reg false fun k hk => ?_
  simp
  refine hk _ (DWp.reg false fun k hk => ?_)
  simp
  refine ⟨?_, hk _ (DWp.ret (hE _ ?_).2)⟩
  · intro r hr
    obtain ⟨a, b, h1, rfl⟩ := by simpa using hr
    rfl
  · simp
    rw [List.take_of_length_le (by simp)]

end Go.Bf
