/-
  The disk's laws: what 'holds' and 'sane' yield. Printed by program (x15.py). Nothing is claimed here.
-/
import Derived.Test.YtmejdolknkjjdaaBfX14
set_option maxRecDepth 100000
set_option maxHeartbeats 4000000
namespace Go.Bf
open Go Go.RowKit Go.Proofs Go.IntWalk
attribute [local simp] encB rowL rowW encSs encPs encD maxLen
def holdsAt (d : Dk) (f s : List UInt8) (i : Nat) : Bool := decide ((readD d i).2 = 0) && decide ((readD d i).1.length = 128) && decide ((readD d i).1.getD 0 0 = f.getD i 0) && decide ((readD d i).1.getD 64 0 = s.getD i 0) && decide ((readD d i).1.getD 1 0 = 0) && decide ((readD d i).1.getD 127 0 = 0)
def holdsD (d : Dk) (f s : List UInt8) : Bool := (List.range 4).all (holdsAt d f s)
theorem range_all_succ {p : Nat → Bool} {i : Nat} (h : (List.range i).all p = true) (h1 : p i = true) : (List.range (i + 1)).all p = true := by
  rw [List.range_succ]; simp only [List.all_append, h, List.all_cons, h1, List.all_nil]; rfl
theorem holds_c (d : Dk) (hd : d.fits) (f s : List UInt8) (hf : f.length = 4) (hs : s.length = 4) : FnWp Try.prog 28 [encD d, .agg (f.map cB), .agg (s.map cB)] (· = .ret (.bool (holdsD d f s))) := by
  refine FnWp.intro' Try.func28 rfl (by simp [Try.ntmps28]) fun E hE => ?_
  refine DWp.reg false fun k hk => ?_
  simp
  refine ⟨fun _ _ => rfl, fun _ _ => rfl, ?_⟩
  refine hk _ ?_
  refine DWp.seqK fun k1 hk1 => ?_
  refine DWp.reg false fun k hk => ?_
  simp
  refine hk _ ?_
  refine DWp.block ?_
  refine DWp.loopK (fun i : Nat => Know.of 57 [(3, .loc 0 0), (4, .loc 1 0), (5, .loc 2 0), (7, .d (.int .i64 i))] [(25, [.d (encSs d.ss), .d (encPs d.ps), .d (.int .i64 d.left), .d (.bool d.st)]), (44, f.map (SV.d ∘ cB)), (44, s.map (SV.d ∘ cB))])
    (fun i => i ≤ 4 ∧ (List.range i).all (holdsAt d f s) = true) (fun i => 4 - i) 0 (Sub.of [0, 1, 2] ⟨rfl, rfl, by simp, by simp, by simp, by simp⟩) (by simp) ?_
  rintro i ⟨hi, hal⟩ kl2 hkl2
  refine DWp.seqK fun k3 hk3 => ?_
  refine DWp.reg false fun k hk => ?_
  simp
  refine hk _ ?_
  refine DWp.condB ?_
  simp
  refine ⟨fun hT0 => ?_, fun hF0 => ?_⟩
  · simp [Tt] at hT0
    refine DWp.skip ?_
    refine hk3 _ ?_
    refine DWp.seqK fun k4 hk4 => ?_
    refine DWp.block ?_
    refine DWp.reg false fun k hk => ?_
    simp
    refine CallAt.det false ent21 rfl (read_c d hd i) ?_
    simp
    generalize hr : readD d i = r
    refine hk _ ?_
    refine DWp.drawPR false (.take 0 (.take 1 (.take 2 (.take 3 (.take 4 (.take 5 (.take 6 (.take 7 (.take 8 (.take 9 (.take 10 (.take 11 (.take 12 (.take 13 (.take 14 (.take 15 (.take 16 (.take 17 (.take 18 (.take 19 (.take 20 (.take 21 (.take 22 (.take 23 (.take 24 (.take 25 (.take 26 (.take 27 (.take 28 (.take 29 (.take 30 (.take 31 (.take 32 (.take 33 (.take 34 (.take 35 (.take 36 .done))))))))))))))))))))))))))))))))))))) mixed (by kernel_rfl) fun k hk => ?_
    simp [cB, hf, hs]
    repeat' apply And.intro
    any_goals (intros; first | omega | (constructor <;> omega))
    refine hk _ ?_
    refine DWp.condB ?_
    simp
    refine ⟨fun hT1 => ?_, fun hF1 => ?_⟩
    · simp [Tt] at hT1
      refine DWp.reg false fun k hk => ?_
      simp
      refine hk _ ?_
      have hat : holdsAt d f s i = false := by
        cases hh : holdsAt d f s i with
        | false => rfl
        | true => simp only [holdsAt, hr] at hh; simp [List.getD_eq_getElem?_getD, ← UInt8.toNat_inj] at hh; exfalso; omega
      refine DWp.ret (hE _ ?_).2
      simp
      rw [holdsD, List.all_eq_false]
      exact ⟨i, by simp; omega, by simp [hat]⟩
    · simp [Ff] at hF1
      refine DWp.skip ?_
      refine hk4 _ ?_
      refine DWp.regionV false ?_
      simp
      have hat : holdsAt d f s i = true := by simp only [holdsAt, hr]; simp [List.getD_eq_getElem?_getD, ← UInt8.toNat_inj]; omega
      rw [i64_in _ (by omega)]
      refine hkl2 _ (i + 1) ⟨by omega, range_all_succ hal hat⟩ (by omega) (Sub.of [0, 1, 2] ⟨rfl, rfl, by simp, by simp, by simp, by simp⟩)
  · simp [Ff] at hF0
    refine DWp.exit ?_
    simp
    refine hk1 _ ?_
    refine DWp.reg false fun k hk => ?_
    simp
    refine hk _ ?_
    refine DWp.ret (hE _ ?_).2
    simp
    obtain rfl : i = 4 := by omega
    exact hal
end Go.Bf
