/-
  The law on syncing one by one or together. Printed by program (x22.py). Nothing is claimed here.
-/
import Derived.Test.YtmejdolknkjjdaaBfX17
import Derived.Test.YtmejdolknkjjdaaBfP12
set_option maxRecDepth 100000
set_option maxHeartbeats 8000000
namespace Go.Bf
open Go Go.RowKit Go.Proofs Go.IntWalk
def rowA (a : Ac) : List DV := [.bool a.1, cB a.2.1, cB a.2.2]
def encAs (s : List Ac) : DV := .list (s.map rowA)
attribute [local simp] encB rowL rowW encSs encPs encD maxLen isBytes_map bytesOf_map encAs rowA
theorem wrap_u8i (c : UInt8) : IntKind.i64.wrap (c.toNat : Int) = (c.toNat : Int) := i64_in _ (by have := c.toNat_lt; omega)
theorem tmod_nat (a b : Nat) : Int.tmod (a : Int) (b : Int) = ((a % b : Nat) : Int) := by simp [Int.tmod_eq_emod_of_nonneg]
theorem law_DiskTogether (d : Dk) (hd : d.fits) (s : List Ac) (hs : s.length ≤ 140737488355328) : FnWp Try.prog 8 [encD d, encAs s] (· = .ret (.bool true)) := by
  refine FnWp.intro' Try.func8 rfl (by simp [Try.ntmps8]) fun E hE => ?_
  refine DWp.reg false fun k hk => ?_
  simp
  refine hk _ ?_
  refine DWp.seqK fun k1 hk1 => ?_
  refine DWp.sub (Sub.freeze 0 rfl rfl) ?_
  refine DWp.sub (Sub.of (n := 131) (sl := [(1, .d (encAs s)), (2, .d (.ptr [encSs d.ss, encPs d.ps, .int .i64 d.left, .bool d.st]))]) (ml := []) [] ⟨rfl, rfl, by simp, by simp, by simp, by simp⟩) ?_
  refine DWp.reg false fun k hk => ?_
  simp
  refine CallAt.det false ent10 rfl (sane_c) ?_
  try simp
  refine hk _ ?_
  refine DWp.condB ?_
  simp
  refine DWp.skip ?_
  refine hk1 _ ?_
  refine DWp.seqK fun k2 hk2 => ?_
  refine DWp.reg false fun k hk => ?_
  simp
  refine CallAt.det false ent11 rfl (refFew_c d hd) ?_
  try simp
  refine CallAtG.det false ent15 rfl (fun _ => check_c d hd) ?_
  try simp
  refine hk _ ?_
  refine DWp.condB ?_
  simp
  refine ⟨fun hT1 => ?_, fun hF1 => ?_⟩
  · simp [Tt] at hT1
    refine DWp.reg false fun k hk => ?_
    simp
    refine hk _ ?_
    refine DWp.ret (hE _ ?_).2
    simp
  · simp [Ff] at hF1
    obtain ⟨ws, hws⟩ : ∃ ws, s.map (wOf d.ss.length) = ws := ⟨_, rfl⟩
    obtain ⟨⟨⟨⟨⟨hfw, hsl⟩, hp⟩, hne⟩, hok⟩, hst⟩ := hF1
    have hn := okD_ps hok
    have hwl : ws.length = s.length := by rw [← hws]; simp
    have hw : ∀ w ∈ ws, 0 ≤ w.1 ∧ w.1 < d.ss.length ∧ w.2.length = 128 := fun w h => by rw [← hws] at h; obtain ⟨a, _, rfl⟩ := List.mem_map.1 h; exact wOf_ok hn.2.1 a
    have hwi : ∀ i (h : i < s.length), ws[i]'(by omega) = wOf d.ss.length s[i] := fun i h => by simp [← hws]
    refine DWp.skip ?_
    refine hk2 _ ?_
    refine DWp.drawPR false (.take 0 (.takeP 1 [] (.two 2 3 (.take 3 (.take 4 (.take 5 .done))) (.take 2 (.take 4 (.take 5 .done)))))) mixed (by kernel_rfl) fun k hk => ?_
    have hJ : ∀ (K' : Know) , Sub (Know.of 131 [(1, .d (encAs s)), (2, .d (.ptr [encSs d.ss, encPs d.ps, .int .i64 d.left, .bool d.st])), (5, .loc 0 0), (6, .loc 1 0)] [(25, [.d (encSs d.ss), .d (encPs d.ps), .d (.int .i64 d.left), .d (.bool d.st)]), (25, [.d (encSs d.ss), .d (encPs d.ps), .d (.int .i64 d.left), .d (.bool d.st)])]) K' → k K' := by
      intro K'  hs
      refine hk _ (DWp.sub hs ?_)
      refine DWp.reg false fun k hk => ?_
      simp
      refine hk _ ?_
      refine DWp.seqK fun k3 hk3 => ?_
      refine DWp.reg false fun k hk => ?_
      simp
      refine hk _ ?_
      refine DWp.block ?_
      refine DWp.loopK (fun q : Nat × Dk × Int => Know.of 131 [(1, .d (encAs s)), (2, .d (.ptr [encSs d.ss, encPs d.ps, .int .i64 d.left, .bool d.st])), (5, .loc 0 0), (6, .loc 1 0), (7, .d (.int .i64 q.2.2)), (8, .d (.int .i64 q.1))] [(25, [.d (encSs q.2.1.ss), .d (encPs q.2.1.ps), .d (.int .i64 q.2.1.left), .d (.bool q.2.1.st)]), (25, [.d (encSs d.ss), .d (encPs d.ps), .d (.int .i64 d.left), .d (.bool d.st)])])
        (fun q => TogInv d ws q.1 q.2.1 q.2.2) (fun q => s.length - q.1) (0, d, 0) (Sub.of [0, 1] ⟨rfl, rfl, by simp, by simp, by simp, by simp⟩) (tog_start d ws hp hst) ?_
      rintro ⟨i, x, e⟩ hiv kl4 hkl4
      simp only at hiv ⊢
      refine DWp.seqK fun k5 hk5 => ?_
      refine DWp.reg false fun k hk => ?_
      simp
      refine hk _ ?_
      refine DWp.condB ?_
      simp
      refine ⟨fun hT2 => ?_, fun hF2 => ?_⟩
      · simp [Tt] at hT2
        obtain ⟨hlt, rfl⟩ := hT2
        have hlt : i < s.length := by omega
        have hx := tog_ok hok hw hiv
        have hxf : x.fits := ⟨by rw [hx.2.2.1]; exact hd.1, by rw [hx.2.2.2]; simp⟩
        have hstep := tog_step (b := [s[i].2.2]) hok hw hst (by omega) hiv (by omega) (by simp) (by rw [hwi i hlt]; rfl)
        rw [hwi i hlt] at hstep
        refine DWp.skip ?_
        refine hk5 _ ?_
        refine DWp.seqK fun k6 hk6 => ?_
        refine DWp.block ?_
        refine DWp.drawPR false (.take 0 (.take 1 (.take 2 (.take 3 (.take 4 (.take 5 (.take 6 (.take 7 (.take 8 (.take 9 (.take 10 .done))))))))))) mixed (by kernel_rfl) fun k hk => ?_
        simp [hlt, cB, tmod_nat]
        refine ⟨hne, ?_⟩
        refine hk _ ?_
        refine DWp.sub (Sub.of (n := 131) (sl := [(1, .d (encAs s)), (2, .d (.ptr [encSs d.ss, encPs d.ps, .int .i64 d.left, .bool d.st])), (5, .loc 0 0), (6, .loc 1 0), (7, .d (.int .i64 0)), (8, .d (.int .i64 i)), (9, .d (.int .i64 (wOf d.ss.length s[i]).1))]) (ml := [(25, [.d (encSs x.ss), .d (encPs x.ps), .d (.int .i64 x.left), .d (.bool x.st)]), (25, [.d (encSs d.ss), .d (encPs d.ps), .d (.int .i64 d.left), .d (.bool d.st)])]) [0, 1] ⟨rfl, rfl, by simp, by simp, by simp [wrap_u8i, tmod_nat, wOf], by simp⟩) ?_
        obtain ⟨z, hz⟩ : ∃ z, writeD x (wOf d.ss.length s[i]).1 [s[i].2.2] = z := ⟨_, rfl⟩
        have hzf : z.1.fits := by rw [← hz]; exact fits_write x hxf _ _
        rw [hz] at hstep
        obtain ⟨v, hv⟩ : ∃ v, syncD z.1 = v := ⟨_, rfl⟩
        rw [hv] at hstep
        refine DWp.drawPR true (.take 0 (.take 1 (.take 2 (.take 3 (.take 4 (.take 5 (.take 6 (.take 7 (.take 8 (.take 9 (.take 10 (.take 11 (.take 12 (.take 13 (.take 14 .done))))))))))))))) mixed (by kernel_rfl) fun k hk => ?_
        simp [hlt, cB]
        refine DetCall.intro (d := .tup [encD z.1, .int .i64 z.2]) ent19 rfl (fun _ => by simpa [rowB, cB, hz] using write_c x hxf (wOf d.ss.length s[i]).1 [s[i].2.2]) ?_
        simp
        refine hk _ ?_
        refine DWp.seqK fun k7 hk7 => ?_
        refine DWp.reg false fun k hk => ?_
        simp [hstep.1]
        refine hk _ ?_
        refine DWp.condB ?_
        simp
        refine DWp.skip ?_
        refine hk7 _ ?_
        refine DWp.regionV false ?_
        simp
        refine CallAt.det false ent23 rfl (sync_c z.1 hzf) ?_
        rw [hv]
        simp
        refine hk6 _ ?_
        refine DWp.regionV false ?_
        simp
        rw [i64_in _ (by omega)]
        refine hkl4 _ (i + 1, v.1, v.2) hstep.2 (by simp only; omega) (Sub.of [0, 1] ⟨rfl, rfl, by simp, by simp, by simp, by simp⟩)
      · simp [Ff] at hF2
        have hxfin := tog_end hok hw hst (by omega) hiv (fun h h0 => absurd (hF2 (by omega)) (by simp [h0]))
        have hxf : x.fits := by have := fits_sync ⟨d.ss, ws, d.left, d.st⟩ ⟨hd.1, by simp; omega⟩; rw [hxfin] at this; exact this
        refine DWp.exit ?_
        simp
        refine hk3 _ ?_
        refine DWp.seqK fun k8 hk8 => ?_
        refine DWp.reg false fun k hk => ?_
        simp
        refine hk _ ?_
        refine DWp.block ?_
        refine DWp.loopK (fun j : Nat => Know.of 131 [(1, .d (encAs s)), (2, .d (.ptr [encSs d.ss, encPs d.ps, .int .i64 d.left, .bool d.st])), (5, .loc 0 0), (6, .loc 1 0), (7, .d (.int .i64 e)), (12, .d (.int .i64 j))] [(25, [.d (encSs x.ss), .d (encPs x.ps), .d (.int .i64 x.left), .d (.bool x.st)]), (25, [.d (encSs (⟨d.ss, ws.take j, d.left, d.st⟩ : Dk).ss), .d (encPs (⟨d.ss, ws.take j, d.left, d.st⟩ : Dk).ps), .d (.int .i64 (⟨d.ss, ws.take j, d.left, d.st⟩ : Dk).left), .d (.bool (⟨d.ss, ws.take j, d.left, d.st⟩ : Dk).st)])])
          (fun j => j ≤ s.length) (fun j => s.length - j) 0 (Sub.of [0, 1] ⟨rfl, rfl, by simp, by simp, by simp, by simp [hp]⟩) (by simp) ?_
        rintro j hj kl9 hkl9
        refine DWp.seqK fun k10 hk10 => ?_
        refine DWp.reg false fun k hk => ?_
        simp
        refine hk _ ?_
        refine DWp.condB ?_
        simp
        refine ⟨fun hT4 => ?_, fun hF4 => ?_⟩
        · simp [Tt] at hT4
          have hyf : (⟨d.ss, ws.take j, d.left, d.st⟩ : Dk).fits := ⟨hd.1, by simp; omega⟩
          have hwr := tog_write (b := [s[j].2.2]) hok hw hst (by omega) (j := j) (by omega) (by simp) (by rw [hwi j hT4]; rfl)
          rw [hwi j hT4] at hwr
          have hcall := write_c ⟨d.ss, ws.take j, d.left, d.st⟩ hyf (wOf d.ss.length s[j]).1 [s[j].2.2]
          rw [hwr] at hcall
          refine DWp.skip ?_
          refine hk10 _ ?_
          refine DWp.seqK fun k11 hk11 => ?_
          refine DWp.block ?_
          refine DWp.drawPR true (.take 0 (.take 1 (.take 2 (.take 3 (.take 4 (.take 5 (.take 6 (.take 7 (.take 8 (.take 9 (.take 10 (.take 11 (.take 12 (.take 13 (.take 14 (.take 15 (.take 16 (.take 17 (.take 18 (.take 19 (.take 20 (.take 21 (.take 22 (.take 23 .done)))))))))))))))))))))))) mixed (by kernel_rfl) fun k hk => ?_
          simp [hT4, cB]
          refine ⟨hne, ?_⟩
          simp only [wrap_u8i, tmod_nat]
          refine DetCall.intro (d := .tup [encD ⟨d.ss, ws.take (j + 1), d.left, d.st⟩, .int .i64 0]) ent19 rfl (fun _ => by simpa [rowB, cB, wOf] using hcall) ?_
          simp
          refine hk _ ?_
          refine DWp.seqK fun k12 hk12 => ?_
          refine DWp.reg false fun k hk => ?_
          simp
          refine hk _ ?_
          refine DWp.condB ?_
          simp
          refine DWp.skip ?_
          refine hk12 _ ?_
          refine DWp.regionV false ?_
          simp
          refine hk11 _ ?_
          refine DWp.regionV false ?_
          simp
          rw [i64_in _ (by omega)]
          refine hkl9 _ (j + 1) (by omega) (by omega) (Sub.of [0, 1] ⟨rfl, rfl, by simp, by simp, by simp, by simp⟩)
        · simp [Ff] at hF4
          refine DWp.exit ?_
          simp
          refine hk8 _ ?_
          obtain rfl : j = s.length := by omega
          have htk : List.take s.length (ws.map rowW) = ws.map rowW := List.take_of_length_le (by simp; omega)
          simp only [List.map_take, htk]
          refine DWp.reg false fun k hk => ?_
          simp
          refine CallAt.det false ent23 rfl (sync_c ⟨d.ss, ws, d.left, d.st⟩ ⟨hd.1, by simp; omega⟩) ?_
          rw [hxfin]
          simp
          refine hk _ ?_
          refine DWp.reg false fun k hk => ?_
          simp
          refine CallAtG.det false ent14 rfl (fun _ => refSame_c x x hxf) ?_
          try simp
          refine hk _ ?_
          refine DWp.ret (hE _ ?_).2
          simp
    simp
    repeat' apply And.intro
    any_goals kernel_rfl
    · exact hJ _ (Sub.of [0, 1] ⟨rfl, rfl, by simp, by simp, by simp, by simp⟩)
    · exact hJ _ (Sub.of [1, 0] ⟨rfl, rfl, by simp, by simp, by simp, by simp⟩)
end Go.Bf
