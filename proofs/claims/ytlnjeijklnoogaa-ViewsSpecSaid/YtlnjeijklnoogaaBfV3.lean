/-
  Views: the order of canonical relations. Printed by program (v3.py). Nothing is claimed here.
-/
import Derived.Test.YtlnjeijklnoogaaBfV2
import Derived.Test.YtlnjeijklnoogaaBfTy
set_option maxRecDepth 100000
set_option maxHeartbeats 8000000
namespace Go.Bf
open Go Go.RowKit Go.Proofs Go.IntWalk Go.Maps
attribute [local simp] encI encII encRel rowI rowII rowRel maxLen
def cmpI (a b : Int) : Int := if a < b then -1 else if b < a then 1 else 0
def cmpBy {α : Type} (c : α → α → Int) : List α → List α → Int
  | [], [] => 0
  | [], _ :: _ => -1
  | _ :: _, [] => 1
  | a :: x, b :: y => if c a b ≠ 0 then c a b else cmpBy c x y
def cmpL : List Int → List Int → Int := cmpBy cmpI
def cmpC (r s : Rl) : Int := if cmpL r.1 s.1 ≠ 0 then cmpL r.1 s.1 else cmpBy cmpL r.2 s.2
theorem cmpI_rng (a b : Int) : cmpI a b = -1 ∨ cmpI a b = 0 ∨ cmpI a b = 1 := by unfold cmpI; split; simp; split <;> simp
theorem cmpBy_step {α : Type} {c : α → α → Int} {a b : List α} {i : Nat} (h1 : i < a.length) (h2 : i < b.length) : cmpBy c (a.drop i) (b.drop i) = if c a[i] b[i] ≠ 0 then c a[i] b[i] else cmpBy c (a.drop (i + 1)) (b.drop (i + 1)) := by
  rw [List.drop_eq_getElem_cons h1, List.drop_eq_getElem_cons h2, cmpBy]
theorem cmpBy_long {α : Type} {c : α → α → Int} {a b : List α} {i : Nat} (h1 : i < a.length) (h2 : b.length ≤ i) : cmpBy c (a.drop i) (b.drop i) = 1 := by
  rw [List.drop_eq_getElem_cons h1, List.drop_eq_nil_of_le h2, cmpBy]
theorem cmpBy_short {α : Type} {c : α → α → Int} {a b : List α} {i : Nat} (h1 : a.length ≤ i) (h2 : i < b.length) : cmpBy c (a.drop i) (b.drop i) = -1 := by
  rw [List.drop_eq_getElem_cons h2, List.drop_eq_nil_of_le h1, cmpBy]
theorem cmpBy_done {α : Type} {c : α → α → Int} {a b : List α} {i : Nat} (h1 : a.length ≤ i) (h2 : b.length ≤ i) : cmpBy c (a.drop i) (b.drop i) = 0 := by
  rw [List.drop_eq_nil_of_le h2, List.drop_eq_nil_of_le h1, cmpBy]
theorem ent83 : Enters Try.prog 83 := enters_of Try.func83 rfl rfl
theorem ent98 : Enters Try.prog 98 := enters_of Try.func98 rfl rfl
theorem ent68 : Enters Try.prog 68 := enters_of Try.func68 rfl rfl
theorem ent69 : Enters Try.prog 69 := enters_of Try.func69 rfl rfl
theorem ent46 : Enters Try.prog 46 := enters_of Try.func46 rfl rfl
theorem ent48 : Enters Try.prog 48 := enters_of Try.func48 rfl rfl
theorem ent44 : Enters Try.prog 44 := enters_of Try.func44 rfl rfl
theorem ent33 : Enters Try.prog 33 := enters_of Try.func33 rfl rfl
theorem ent32 : Enters Try.prog 32 := enters_of Try.func32 rfl rfl
theorem keysA_c (es : List (DV × DV)) : FnWp Try.prog 44 [.mapd es] (· = .ret (.fn 65 [.box0 [.mapd es]])) := keys_of fun mb w => AnyZI.keys_in Try.keysA Fence.wide 5 trivial rfl mb w
theorem keysB_c (es : List (DV × DV)) : FnWp Try.prog 33 [.mapd es] (· = .ret (.fn 57 [.box0 [.mapd es]])) := keys_of fun mb w => AnyZI.keys_in Try.keysB Fence.wide 5 trivial rfl mb w
theorem sortedA_c (l : List Int) (hl : l.length * 8 ≤ 140737488355328) : FnWp Try.prog 32 [.fn 65 [.box0 [encMB l]]] (· = .ret (encI (sortI l))) := by
  have := sorted_of (g := 65) (enters_of Try.func65 rfl rfl) (L := l.map fun n => (n, [])) (f := fun _ => .bool true) (by simpa using hl) (fun Bm B D w hlt hm hown => AnyZI.keys_gives (ρ := Try.keysA_ren) { Try.keysA with } Fence.wide _ trivial rfl (by omega) Bm B _ D w hlt hm hown)
  simpa [encMB, Function.comp_def] using this
theorem sortedB_c (L : List (Int × List Int)) (hl : L.length * 8 ≤ 140737488355328) : FnWp Try.prog 32 [.fn 57 [.box0 [encMM L]]] (· = .ret (encI (sortI (L.map (·.1))))) :=
  sorted_of (g := 57) (enters_of Try.func57 rfl rfl) (L := L) (f := fun p => encMB p.2) hl (fun Bm B D w hlt hm hown => AnyZI.keys_gives (ρ := Try.keysB_ren) { Try.keysB with } Fence.wide _ trivial rfl (by omega) Bm B _ D w hlt hm hown)
theorem isNaN_c (a : Int) : FnWp Try.prog 98 [.int .i64 a] (· = .ret (.bool false)) := by
  refine FnWp.intro' Try.func98 rfl (by simp [Try.ntmps98]) fun E hE => ?_
  refine DWp.reg false fun kk hk => ?_
  simp
  refine hk _ ?_
  refine DWp.reg false fun kk hk => ?_
  simp
  refine hk _ ?_
  refine DWp.ret (hE _ ?_).2
  simp
theorem cmpI_c (a b : Int) : FnWp Try.prog 83 [.int .i64 a, .int .i64 b] (· = .ret (.int .i64 (cmpI a b))) := by
  refine FnWp.intro' Try.func83 rfl (by simp [Try.ntmps83]) fun E hE => ?_
  refine DWp.reg false fun kk hk => ?_
  simp
  refine hk _ ?_
  refine DWp.reg false fun kk hk => ?_
  simp
  refine CallAt.det false ent98 rfl (isNaN_c a) ?_
  simp
  refine hk _ ?_
  refine DWp.reg false fun kk hk => ?_
  simp
  refine CallAt.det false ent98 rfl (isNaN_c b) ?_
  simp
  refine hk _ ?_
  refine DWp.seqK fun k1 hk1 => ?_
  refine DWp.reg false fun kk hk => ?_
  simp
  refine hk _ ?_
  refine DWp.condB ?_
  simp
  refine DWp.skip ?_
  refine hk1 _ ?_
  refine DWp.seqK fun k2 hk2 => ?_
  refine DWp.reg false fun kk hk => ?_
  simp
  refine hk _ ?_
  refine DWp.condB ?_
  simp
  refine DWp.skip ?_
  refine hk2 _ ?_
  refine DWp.seqK fun k3 hk3 => ?_
  refine DWp.reg false fun kk hk => ?_
  simp
  refine hk _ ?_
  refine DWp.condB ?_
  simp
  refine ⟨fun hT3 => ?_, fun hF3 => ?_⟩
  · simp [Tt] at hT3
    refine DWp.reg false fun kk hk => ?_
    simp
    refine hk _ ?_
    refine DWp.ret (hE _ ?_).2
    simp [cmpI, hT3]
  · simp [Ff] at hF3
    refine DWp.skip ?_
    refine hk3 _ ?_
    refine DWp.seqK fun k4 hk4 => ?_
    refine DWp.reg false fun kk hk => ?_
    simp
    refine hk _ ?_
    refine DWp.condB ?_
    simp
    refine ⟨fun hT4 => ?_, fun hF4 => ?_⟩
    · simp [Tt] at hT4
      refine DWp.reg false fun kk hk => ?_
      simp
      refine hk _ ?_
      refine DWp.ret (hE _ ?_).2
      simp [cmpI]; omega
    · simp [Ff] at hF4
      refine DWp.skip ?_
      refine hk4 _ ?_
      refine DWp.reg false fun kk hk => ?_
      simp
      refine hk _ ?_
      refine DWp.ret (hE _ ?_).2
      simp [cmpI]; omega
theorem cmpL_c (a b : List Int) (ha : a.length ≤ 4611686018427387903) : FnWp Try.prog 68 [encI a, encI b] (· = .ret (.int .i64 (cmpBy cmpI a b))) := by
  refine FnWp.intro' Try.func68 rfl (by simp [Try.ntmps68]) fun E hE => ?_
  refine DWp.reg false fun kk hk => ?_
  simp
  refine hk _ ?_
  refine DWp.seqK fun k1 hk1 => ?_
  refine DWp.reg false fun kk hk => ?_
  simp
  refine hk _ ?_
  refine DWp.block ?_
  refine DWp.loopK (fun i : Nat => Know.of 36 [(0, .d (encI a)), (1, .d (encI b)), (9, .d (encI a)), (10, .d (.int .i64 a.length)), (11, .d (.int .i64 i))] [])
    (fun i => i ≤ a.length ∧ i ≤ b.length ∧ cmpBy cmpI (a.drop i) (b.drop i) = cmpBy cmpI a b) (fun i => a.length - i) 0 (Sub.of [] ⟨rfl, rfl, by simp, by simp, by simp, by simp⟩) (by simp) ?_
  rintro i ⟨hi, hib, hcmp⟩ kl2 hkl2
  refine DWp.reg false fun kk hk => ?_
  simp
  refine hk _ ?_
  refine DWp.seqK fun k3 hk3 => ?_
  refine DWp.condB ?_
  simp
  refine ⟨fun hT0 => ?_, fun hF0 => ?_⟩
  · simp [Tt] at hT0
    have hlt : i < a.length := by omega
    refine DWp.skip ?_
    refine hk3 _ ?_
    refine DWp.seqK fun k4 hk4 => ?_
    refine DWp.block ?_
    refine DWp.reg false fun kk hk => ?_
    simp [hlt]
    refine hk _ ?_
    refine DWp.seqK fun k5 hk5 => ?_
    refine DWp.reg false fun kk hk => ?_
    simp
    refine hk _ ?_
    refine DWp.condB ?_
    simp
    refine ⟨fun hT1 => ?_, fun hF1 => ?_⟩
    · simp [Tt] at hT1
      have hge : b.length ≤ i := by omega
      refine DWp.reg false fun kk hk => ?_
      simp
      refine hk _ ?_
      refine DWp.ret (hE _ ?_).2
      rw [← hcmp, cmpBy_long hlt hge]
      simp
    · simp [Ff] at hF1
      have hlt2 : i < b.length := by omega
      refine DWp.skip ?_
      refine hk5 _ ?_
      refine DWp.reg false fun kk hk => ?_
      simp [hlt2]
      refine hk _ ?_
      refine DWp.reg false fun kk hk => ?_
      simp
      refine CallAt.det false ent83 rfl (cmpI_c a[i] b[i]) ?_
      simp
      refine hk _ ?_
      refine DWp.reg false fun kk hk => ?_
      simp
      refine hk _ ?_
      refine DWp.condB ?_
      simp
      refine ⟨fun hT2 => ?_, fun hF2 => ?_⟩
      · simp [Tt] at hT2
        refine DWp.reg false fun kk hk => ?_
        simp
        refine hk _ ?_
        refine DWp.ret (hE _ ?_).2
        rw [cmpBy_step hlt hlt2, if_pos (by simpa using hT2)] at hcmp
        rw [← hcmp]
        simp
      · simp [Ff] at hF2
        refine DWp.skip ?_
        refine hk4 _ ?_
        refine DWp.regionV false ?_
        simp
        have i1 : IntKind.i64.wrap ((i : Int) + 1) = ((i + 1 : Nat) : Int) := by rw [i64_in _ (by omega)]; omega
        refine hkl2 _ (i + 1) ⟨by omega, by omega, ?_⟩ (by omega) (Sub.of [] ⟨rfl, rfl, by simp, by simp, by simp [i1], by simp⟩)
        rw [cmpBy_step hlt hlt2, if_neg (by simpa using hF2)] at hcmp
        exact hcmp
  · simp [Ff] at hF0
    obtain rfl : i = a.length := by omega
    refine DWp.exit ?_
    simp
    refine hk1 _ ?_
    refine DWp.seqK fun k6 hk6 => ?_
    refine DWp.reg false fun kk hk => ?_
    simp
    refine hk _ ?_
    refine DWp.condB ?_
    simp
    refine ⟨fun hT3 => ?_, fun hF3 => ?_⟩
    · simp [Tt] at hT3
      refine DWp.reg false fun kk hk => ?_
      simp
      refine hk _ ?_
      refine DWp.ret (hE _ ?_).2
      rw [← hcmp, cmpBy_short (Nat.le_refl _) (by omega)]
      simp
    · simp [Ff] at hF3
      refine DWp.skip ?_
      refine hk6 _ ?_
      refine DWp.reg false fun kk hk => ?_
      simp
      refine hk _ ?_
      refine DWp.ret (hE _ ?_).2
      rw [← hcmp, cmpBy_done (Nat.le_refl _) (by omega)]
      simp
theorem cmpL_d (a b : List Int) (ha : a.length ≤ 4611686018427387903) : FnWp Try.prog 68 [encI a, encI b] (· = .ret (.int .i64 (cmpL a b))) := cmpL_c a b ha
theorem cmpLL_c (a b : List (List Int)) (ha : a.length ≤ 4611686018427387903) (hal : ∀ l ∈ a, l.length ≤ 4611686018427387903) : FnWp Try.prog 69 [encII a, encII b, .fn 68 []] (· = .ret (.int .i64 (cmpBy cmpL a b))) := by
  refine FnWp.intro' Try.func69 rfl (by simp [Try.ntmps69]) fun E hE => ?_
  refine DWp.reg false fun kk hk => ?_
  simp
  refine hk _ ?_
  refine DWp.seqK fun k1 hk1 => ?_
  refine DWp.reg false fun kk hk => ?_
  simp
  refine hk _ ?_
  refine DWp.block ?_
  refine DWp.loopK (fun i : Nat => Know.of 39 [(0, .d (encII a)), (1, .d (encII b)), (2, .d (.fn 68 [])), (11, .d (encII a)), (12, .d (.int .i64 a.length)), (13, .d (.int .i64 i))] [])
    (fun i => i ≤ a.length ∧ i ≤ b.length ∧ cmpBy cmpL (a.drop i) (b.drop i) = cmpBy cmpL a b) (fun i => a.length - i) 0 (Sub.of [] ⟨rfl, rfl, by simp, by simp, by simp, by simp⟩) (by simp) ?_
  rintro i ⟨hi, hib, hcmp⟩ kl2 hkl2
  refine DWp.reg false fun kk hk => ?_
  simp
  refine hk _ ?_
  refine DWp.seqK fun k3 hk3 => ?_
  refine DWp.condB ?_
  simp
  refine ⟨fun hT0 => ?_, fun hF0 => ?_⟩
  · simp [Tt] at hT0
    have hlt : i < a.length := by omega
    refine DWp.skip ?_
    refine hk3 _ ?_
    refine DWp.seqK fun k4 hk4 => ?_
    refine DWp.block ?_
    refine DWp.reg false fun kk hk => ?_
    simp [hlt]
    refine hk _ ?_
    refine DWp.seqK fun k5 hk5 => ?_
    refine DWp.reg false fun kk hk => ?_
    simp
    refine hk _ ?_
    refine DWp.condB ?_
    simp
    refine ⟨fun hT1 => ?_, fun hF1 => ?_⟩
    · simp [Tt] at hT1
      have hge : b.length ≤ i := by omega
      refine DWp.reg false fun kk hk => ?_
      simp
      refine hk _ ?_
      refine DWp.ret (hE _ ?_).2
      rw [← hcmp, cmpBy_long hlt hge]
      simp
    · simp [Ff] at hF1
      have hlt2 : i < b.length := by omega
      have hbl := hal _ (List.getElem_mem hlt)
      refine DWp.skip ?_
      refine hk5 _ ?_
      refine DWp.reg false fun kk hk => ?_
      simp [hlt2]
      refine hk _ ?_
      refine DWp.reg false fun kk hk => ?_
      simp
      refine CallAt.det false ent68 rfl (cmpL_d a[i] b[i] hbl) ?_
      simp
      refine hk _ ?_
      refine DWp.reg false fun kk hk => ?_
      simp
      refine hk _ ?_
      refine DWp.condB ?_
      simp
      refine ⟨fun hT2 => ?_, fun hF2 => ?_⟩
      · simp [Tt] at hT2
        refine DWp.reg false fun kk hk => ?_
        simp
        refine hk _ ?_
        refine DWp.ret (hE _ ?_).2
        rw [cmpBy_step hlt hlt2, if_pos (by simpa using hT2)] at hcmp
        rw [← hcmp]
        simp
      · simp [Ff] at hF2
        refine DWp.skip ?_
        refine hk4 _ ?_
        refine DWp.regionV false ?_
        simp
        have i1 : IntKind.i64.wrap ((i : Int) + 1) = ((i + 1 : Nat) : Int) := by rw [i64_in _ (by omega)]; omega
        refine hkl2 _ (i + 1) ⟨by omega, by omega, ?_⟩ (by omega) (Sub.of [] ⟨rfl, rfl, by simp, by simp, by simp [i1], by simp⟩)
        rw [cmpBy_step hlt hlt2, if_neg (by simpa using hF2)] at hcmp
        exact hcmp
  · simp [Ff] at hF0
    obtain rfl : i = a.length := by omega
    refine DWp.exit ?_
    simp
    refine hk1 _ ?_
    refine DWp.seqK fun k6 hk6 => ?_
    refine DWp.reg false fun kk hk => ?_
    simp
    refine hk _ ?_
    refine DWp.condB ?_
    simp
    refine ⟨fun hT3 => ?_, fun hF3 => ?_⟩
    · simp [Tt] at hT3
      refine DWp.reg false fun kk hk => ?_
      simp
      refine hk _ ?_
      refine DWp.ret (hE _ ?_).2
      rw [← hcmp, cmpBy_short (Nat.le_refl _) (by omega)]
      simp
    · simp [Ff] at hF3
      refine DWp.skip ?_
      refine hk6 _ ?_
      refine DWp.reg false fun kk hk => ?_
      simp
      refine hk _ ?_
      refine DWp.ret (hE _ ?_).2
      rw [← hcmp, cmpBy_done (Nat.le_refl _) (by omega)]
      simp
theorem cmpC_c (r s : Rl) (hr : r.1.length ≤ 4611686018427387903 ∧ r.2.length ≤ 4611686018427387903 ∧ ∀ l ∈ r.2, l.length ≤ 4611686018427387903) : FnWp Try.prog 46 [encRel r, encRel s] (· = .ret (.int .i64 (cmpC r s))) := by
  refine FnWp.intro' Try.func46 rfl (by simp [Try.ntmps46]) fun E hE => ?_
  refine DWp.reg false fun kk hk => ?_
  simp
  refine hk _ ?_
  refine DWp.seqK fun k1 hk1 => ?_
  refine DWp.reg false fun kk hk => ?_
  simp
  refine CallAt.det false ent68 rfl (cmpL_d r.1 s.1 hr.1) ?_
  simp
  refine hk _ ?_
  refine DWp.reg false fun kk hk => ?_
  simp
  refine hk _ ?_
  refine DWp.condB ?_
  simp
  refine ⟨fun hT0 => ?_, fun hF0 => ?_⟩
  · simp [Tt] at hT0
    refine DWp.reg false fun kk hk => ?_
    simp
    refine hk _ ?_
    refine DWp.ret (hE _ ?_).2
    rw [cmpC, if_pos (by simpa using hT0)]
    simp
  · simp [Ff] at hF0
    refine DWp.skip ?_
    refine hk1 _ ?_
    refine DWp.reg false fun kk hk => ?_
    simp
    refine CallAt.det false ent69 rfl (cmpLL_c r.2 s.2 hr.2.1 hr.2.2) ?_
    simp
    refine hk _ ?_
    refine DWp.ret (hE _ ?_).2
    rw [cmpC, if_neg (by simpa using hF0)]
    simp
theorem sameC_c (r s : Rl) (hr : r.1.length ≤ 4611686018427387903 ∧ r.2.length ≤ 4611686018427387903 ∧ ∀ l ∈ r.2, l.length ≤ 4611686018427387903) : FnWp Try.prog 48 [encRel r, encRel s] (· = .ret (.bool (decide (cmpC r s = 0)))) := by
  refine FnWp.intro' Try.func48 rfl (by simp [Try.ntmps48]) fun E hE => ?_
  refine DWp.reg false fun kk hk => ?_
  simp
  refine hk _ ?_
  refine DWp.reg false fun kk hk => ?_
  simp
  refine CallAt.det false ent46 rfl (cmpC_c r s hr) ?_
  simp
  refine hk _ ?_
  refine DWp.ret (hE _ ?_).2
  simp
end Go.Bf
