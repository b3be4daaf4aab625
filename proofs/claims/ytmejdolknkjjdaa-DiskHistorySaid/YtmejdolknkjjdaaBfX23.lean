/-
  The law on histories. Printed by program (x23.py). Nothing is claimed here.
-/
import Derived.Test.YtmejdolknkjjdaaBfP123
set_option maxRecDepth 100000
set_option maxHeartbeats 16000000
namespace Go.Bf
open Go Go.RowKit Go.Proofs Go.IntWalk
def rowA (a : Ac) : List DV := [.bool a.1, cB a.2.1, cB a.2.2]
def encAs (s : List Ac) : DV := .list (s.map rowA)
attribute [local simp] encB rowL rowW encSs encPs encD maxLen encAs rowA
theorem ent28 : Enters Try.prog 28 := enters_of Try.func28 rfl rfl
theorem wrap_u8i (c : UInt8) : IntKind.i64.wrap (c.toNat : Int) = (c.toNat : Int) := i64_in _ (by have := c.toNat_lt; omega)
def f0 : List UInt8 := [0, 0, 0, 0]
def d0 : Dk := ⟨f0.map fun c => sect c, [], -1, false⟩
theorem d0_fits : d0.fits := ⟨by simp [d0, f0], by simp [d0]⟩
theorem e_n4 : newD 4 = (d0, 0) := by kernel_rfl
theorem e_s4 (c : UInt8) : stopD d0 (c.toNat : Int) = (hd4 f0 [] c.toNat, 0) := by
  have hok : okD d0 = true := by kernel_rfl
  have := c.toNat_lt
  unfold stopD
  rw [hok]
  simp only [d0, Bool.not_false, Bool.and_true, if_true]
  rw [if_neg (by omega)]
  rfl
theorem zero4 : (f0.map (SV.d ∘ cB)) = [.d (.int .u8 0), .d (.int .u8 0), .d (.int .u8 0), .d (.int .u8 0)] := rfl
theorem law_DiskHistory (s : List Ac) (hs : s.length ≤ 140737488355328) (c : UInt8) : FnWp Try.prog 6 [encAs s, cB c] (· = .ret (.bool true)) := by
  refine FnWp.intro' Try.func6 rfl (by simp [Try.ntmps6]) fun E hE => ?_
  refine DWp.reg false fun kk hk => ?_
  simp
  refine hk _ ?_
  refine DWp.seqK fun k1 hk1 => ?_
  refine DWp.reg false fun kk hk => ?_
  simp
  refine CallAt.det false ent10 rfl (sane_c) ?_
  try simp
  refine hk _ ?_
  refine DWp.condB ?_
  simp
  refine DWp.skip ?_
  refine hk1 _ ?_
  refine DWp.seqK fun k2 hk2 => ?_
  refine DWp.reg false fun kk hk => ?_
  simp
  refine hk _ ?_
  refine DWp.condB ?_
  simp
  refine ⟨fun hT1 => ?_, fun hF1 => ?_⟩
  · simp [Tt] at hT1
    refine DWp.reg false fun kk hk => ?_
    simp
    refine hk _ ?_
    refine DWp.ret (hE _ ?_).2
    simp
  · simp [Ff] at hF1
    refine DWp.skip ?_
    refine hk2 _ ?_
    refine DWp.reg false fun kk hk => ?_
    simp
    refine CallAt.det false ent12 rfl (new_c 4) ?_
    rw [e_n4]
    simp
    refine hk _ ?_
    refine DWp.reg false fun kk hk => ?_
    simp [cB, wrap_u8i]
    refine CallAt.det false ent25 rfl (stop_c d0 d0_fits c.toNat) ?_
    rw [e_s4]
    simp
    refine hk _ ?_
    refine DWp.seqK fun k3 hk3 => ?_
    refine DWp.reg false fun kk hk => ?_
    simp
    refine hk _ ?_
    refine DWp.condB ?_
    simp
    refine DWp.skip ?_
    refine hk3 _ ?_
    refine DWp.reg false fun kk hk => ?_
    simp
    refine hk _ ?_
    refine DWp.reg false fun kk hk => ?_
    simp
    refine hk _ ?_
    refine DWp.reg false fun kk hk => ?_
    simp [cB, wrap_u8i]
    refine hk _ ?_
    refine DWp.seqK fun k4 hk4 => ?_
    refine DWp.reg false fun kk hk => ?_
    simp
    refine hk _ ?_
    refine DWp.block ?_
    refine DWp.loopK (fun q : Nat × List UInt8 × List Ac × Nat => Know.of 163 [(0, .d (encAs s)), (5, .loc 0 0), (8, .loc 1 0), (9, .loc 2 0), (10, .loc 3 0), (11, .own 4 3 0 (q.2.2.1).length (cap0 (q.2.2.1))), (12, .d (.int .i64 (q.2.2.2 : Nat))), (13, .d (.int .i64 q.1))] [(25, [.d (encSs (hd4 q.2.1 (q.2.2.1) (q.2.2.2)).ss), .d (encPs (hd4 q.2.1 (q.2.2.1) (q.2.2.2)).ps), .d (.int .i64 (hd4 q.2.1 (q.2.2.1) (q.2.2.2)).left), .d (.bool (hd4 q.2.1 (q.2.2.1) (q.2.2.2)).st)]), (44, (applyB q.2.1 (q.2.2.1)).map (SV.d ∘ cB)), (44, (q.2.1).map (SV.d ∘ cB)), (44, (q.2.1).map (SV.d ∘ cB)), (43, flatA (q.2.2.1))])
      (fun q => q.2.1.length = 4 ∧ q.2.2.1.length ≤ q.1 ∧ q.1 ≤ s.length ∧ q.2.2.2 ≤ 255) (fun q => s.length - q.1) (0, f0, [], c.toNat) (Sub.of [0, 1, 2, 3, 4] ⟨rfl, rfl, by simp, by simp, by simp, by simp [applyB, zero4]⟩) ⟨rfl, by simp, by simp, by have := c.toNat_lt; simp only; omega⟩ ?_
    rintro ⟨i, f, wl, room⟩ ⟨hf, hwl, his, hrm⟩ kl5 hkl5
    simp only at hf hwl his hrm ⊢
    refine DWp.seqK fun k6 hk6 => ?_
    refine DWp.reg false fun kk hk => ?_
    simp
    refine hk _ ?_
    refine DWp.condB ?_
    simp
    refine ⟨fun hT3 => ?_, fun hF3 => ?_⟩
    · simp [Tt] at hT3
      have hlt : i < s.length := by omega
      have hw4 : wl.length ≤ 40 := by omega
      have hdf := hd4_fits (room := room) hf (show wl.length ≤ 4096 by omega)
      have hal : (applyB f wl).length = 4 := by rw [applyB_length, hf]
      refine DWp.skip ?_
      refine hk6 _ ?_
      refine DWp.seqK fun k7 hk7 => ?_
      refine DWp.block ?_
      refine DWp.reg false fun kk hk => ?_
      simp [hT3]
      refine ⟨⟨rfl, rfl⟩, ?_⟩
      refine hk _ ?_
      refine DWp.seqK fun k8 hk8 => ?_
      generalize hai : s[i] = a
      refine DWp.sub (Sub.of (n := 163) (sl := [(0, .d (encAs s)), (5, .loc 0 0), (8, .loc 1 0), (9, .loc 2 0), (10, .loc 3 0), (11, .own 4 3 0 wl.length (cap0 wl)), (12, .d (.int .i64 room)), (13, .d (.int .i64 i)), (14, .loc 5 0)]) (ml := [(25, [.d (encSs (hd4 f wl room).ss), .d (encPs (hd4 f wl room).ps), .d (.int .i64 (hd4 f wl room).left), .d (.bool (hd4 f wl room).st)]), (44, (applyB f wl).map (SV.d ∘ cB)), (44, (f).map (SV.d ∘ cB)), (44, (f).map (SV.d ∘ cB)), (43, flatA wl), (46, [.d (.bool a.1), .d (cB a.2.1), .d (cB a.2.2)])]) [0, 1, 2, 3, 4, 5] ⟨rfl, rfl, by simp, by simp, by simp, by simp [hai]⟩) ?_
      have hJ8 : ∀ (K' : Know) (f' : List UInt8) (wl' : List Ac) (room' : Nat) (h1 : f'.length = 4) (h2 : wl'.length ≤ i + 1) (h3 : room' ≤ 255), Sub (Know.of 163 [(0, .d (encAs s)), (5, .loc 0 0), (8, .loc 1 0), (9, .loc 2 0), (10, .loc 3 0), (11, .own 4 3 0 (wl').length (cap0 (wl'))), (12, .d (.int .i64 (room' : Nat))), (13, .d (.int .i64 i))] [(25, [.d (encSs (hd4 f' (wl') (room')).ss), .d (encPs (hd4 f' (wl') (room')).ps), .d (.int .i64 (hd4 f' (wl') (room')).left), .d (.bool (hd4 f' (wl') (room')).st)]), (44, (applyB f' (wl')).map (SV.d ∘ cB)), (44, (f').map (SV.d ∘ cB)), (44, (f').map (SV.d ∘ cB)), (43, flatA (wl'))]) K' → k8 K' := by
        intro K' f' wl' room' h1 h2 h3 hs
        refine hk8 _ (DWp.sub hs ?_)
        have hal' : (applyB f' wl').length = 4 := by rw [applyB_length, h1]
        have htk := List.take_of_length_le (show ((applyB f' wl').map (SV.d ∘ cB)).length ≤ 4 by simp [hal'])
        refine DWp.reg false fun kk hk => ?_
        simp [hal', htk]
        refine CallAt.det false ent28 rfl (holds_c (hd4 f' wl' room') (hd4_fits h1 (by omega)) (applyB f' wl') (applyB f' wl') hal' hal') ?_
        rw [hd4_holds h1 (by omega) h3]
        simp
        refine hk _ ?_
        refine DWp.condB ?_
        simp
        refine DWp.skip ?_
        refine hk7 _ ?_
        refine DWp.regionV false ?_
        simp
        rw [i64_in ((i : Int) + 1) (by omega)]
        refine hkl5 _ (i + 1, f', wl', room') ⟨h1, h2, by simp only; omega, h3⟩ (by simp only; omega) (Sub.of [0, 1, 2, 3, 4] ⟨rfl, rfl, by simp, by simp, by simp, by simp⟩)
      refine DWp.reg false fun kk hk => ?_
      simp
      refine hk _ ?_
      refine DWp.condB ?_
      simp
      refine ⟨fun hT4 => ?_, fun hF4 => ?_⟩
      · simp [Tt] at hT4
        refine DWp.drawPR false (.take 0 (.take 1 (.take 2 (.take 3 (.take 4 (.take 5 (.take 6 (.take 7 (.take 8 (.take 9 (.take 10 (.take 11 (.take 12 (.take 13 (.take 14 .done))))))))))))))) mixed (by kernel_rfl) fun kk hk => ?_
        simp [cB, tm4, wrap_at4]
        refine DetCall.intro ent27 rfl (fun _ => double_c a.2.2) ?_
        simp
        refine DetCall.intro (d := .tup [encD (hd4 f (wl ++ [a]) room), .int .i64 0]) ent19 rfl (fun _ => by have h := write_c (hd4 f wl room) hdf (at4 a) (sect a.2.2); rw [hd4_write hf (by omega) hrm a] at h; simpa using h) ?_
        simp
        refine hk _ ?_
        refine DWp.seqK fun k9 hk9 => ?_
        refine DWp.reg false fun kk hk => ?_
        simp
        refine hk _ ?_
        refine DWp.condB ?_
        simp
        refine DWp.skip ?_
        refine hk9 _ ?_
        refine DWp.reg false fun kk hk => ?_
        simp
        refine hk _ ?_
        refine DWp.reg false fun kk hk => ?_
        simp [cB, tm4]
        have hat := at4_lt a
        refine ⟨by omega, by omega, ?_⟩
        refine hk _ ?_
        refine DWp.regionV false ?_
        simp
        refine ⟨⟨by omega, by omega⟩, ?_⟩
        exact hJ8 _ f (wl ++ [a]) room hf (by simp; omega) hrm (Sub.of [0, 1, 2, 3, 8] ⟨rfl, rfl, by simp, by simp, by simp, by simp [applyB_snoc, List.map_set, ← flatA_snoc, cB]⟩)
      · simp [Ff] at hF4
        refine DWp.reg false fun kk hk => ?_
        simp
        refine CallAt.det false ent23 rfl (sync_c (hd4 f wl room) hdf) ?_
        generalize hv : syncD (hd4 f wl room) = v
        have hvf : v.1.fits := by rw [← hv]; exact fits_sync _ hdf
        simp
        refine hk _ ?_
        refine DWp.reg false fun kk hk => ?_
        simp
        refine hk _ ?_
        refine DWp.seqK fun k10 hk10 => ?_
        refine DWp.reg false fun kk hk => ?_
        simp
        refine hk _ ?_
        refine DWp.block ?_
        refine DWp.loopK (fun k : Nat => Know.of 163 [(0, .d (encAs s)), (5, .loc 0 0), (8, .loc 1 0), (9, .loc 2 0), (10, .loc 3 0), (11, .own 4 3 0 wl.length (cap0 wl)), (12, .d (.int .i64 room)), (13, .d (.int .i64 i)), (17, .loc 5 0), (18, .d (.int .i64 v.2)), (19, .d (.bool (decide (room < wl.length)))), (20, .d (.int .i64 k))] [(25, [.d (encSs (hd4 f wl room).ss), .d (encPs (hd4 f wl room).ps), .d (.int .i64 (hd4 f wl room).left), .d (.bool (hd4 f wl room).st)]), (44, (applyB f wl).map (SV.d ∘ cB)), (44, (applyB f (wl.take k)).map (SV.d ∘ cB)), (44, (applyB f (wl.take (min k room))).map (SV.d ∘ cB)), (43, flatA wl), (25, [.d (encSs v.1.ss), .d (encPs v.1.ps), .d (.int .i64 v.1.left), .d (.bool v.1.st)])])
          (fun k => k ≤ wl.length ∧ k ≤ room + 1) (fun k => wl.length - k) 0 (Sub.of [0, 1, 2, 3, 4, 6] ⟨rfl, rfl, by simp, by simp, by simp, by simp [applyB]⟩) (by simp) ?_
        rintro k ⟨hk1', hk2'⟩ kl11 hkl11
        refine DWp.seqK fun k12 hk12 => ?_
        refine DWp.reg false fun kk hk => ?_
        simp
        refine hk _ ?_
        refine DWp.condB ?_
        simp
        refine ⟨fun hT6 => ?_, fun hF6 => ?_⟩
        · simp [Tt] at hT6
          refine DWp.skip ?_
          refine hk12 _ ?_
          refine DWp.seqK fun k13 hk13 => ?_
          refine DWp.block ?_
          obtain ⟨g1, g2⟩ := flatA_get wl k (by omega)
          have hat := at4_lt (wl[k]'(by omega))
          have hl1 : (applyB f (wl.take k)).length = 4 := by rw [applyB_length, hf]
          have hl2 : (applyB f (wl.take (min k room))).length = 4 := by rw [applyB_length, hf]
          refine DWp.drawPR false (.take 0 (.take 1 (.take 2 (.take 3 (.take 4 (.take 5 (.take 6 (.take 7 (.take 8 (.take 9 (.take 10 (.take 11 (.take 12 .done))))))))))))) mixed (by kernel_rfl) fun kk hk => ?_
          simp [g1, g2, cB, tm4, hl1]
          refine ⟨by omega, by omega, by omega, ?_⟩
          refine hk _ ?_
          refine DWp.reg false fun kk hk => ?_
          simp
          refine hk _ ?_
          refine DWp.condB ?_
          simp
          refine ⟨fun hT7 => ?_, fun hF7 => ?_⟩
          · simp [Tt] at hT7
            refine DWp.drawP false (.take 0 (.take 1 (.take 2 (.take 3 (.take 4 (.take 5 (.take 6 (.take 7 (.take 8 (.take 9 (.take 10 (.take 11 (.take 12 .done))))))))))))) mixed (by kernel_rfl) ?_
            simp [g1, g2, cB, tm4, hl2]
            refine ⟨by omega, by omega, by omega, ?_⟩
            refine hk13 _ ?_
            refine DWp.regionV false ?_
            simp
            have hA := applyB_succ f wl k (by omega)
            rw [i64_in ((k : Int) + 1) (by omega)]
            refine hkl11 _ (k + 1) ⟨by omega, by omega⟩ (by omega) (Sub.of [0, 1, 2, 3, 4, 5] ⟨rfl, rfl, by simp, by simp, by simp, by rw [show min (k + 1) room = k + 1 by omega, hA]; simp [List.map_set, cB, show min k room = k by omega]⟩)
          · simp [Ff] at hF7
            refine DWp.skip ?_
            refine hk13 _ ?_
            refine DWp.regionV false ?_
            simp
            have hA := applyB_succ f wl k (by omega)
            rw [i64_in ((k : Int) + 1) (by omega)]
            refine hkl11 _ (k + 1) ⟨by omega, by omega⟩ (by omega) (Sub.of [0, 1, 2, 3, 4, 5] ⟨rfl, rfl, by simp, by simp, by simp, by rw [show min (k + 1) room = min k room by omega, hA]; simp [List.map_set, cB]⟩)
        · simp [Ff] at hF6
          refine DWp.exit ?_
          simp
          refine hk10 _ ?_
          refine DWp.seqK fun k14 hk14 => ?_
          refine DWp.reg false fun kk hk => ?_
          simp
          refine hk _ ?_
          refine DWp.condB ?_
          simp
          refine ⟨fun hT8 => ?_, fun hF8 => ?_⟩
          · simp [Tt] at hT8
            obtain rfl : k = room + 1 := by omega
            have hst := hd4_stop hf (by omega) hrm hT8
            rw [hv] at hst
            obtain ⟨v1, v2, v3⟩ := hst
            have hlA : (applyB f (wl.take (room + 1))).length = 4 := by rw [applyB_length, hf]
            have hlB : (applyB f (wl.take room)).length = 4 := by rw [applyB_length, hf]
            have htA := List.take_of_length_le (show ((applyB f (wl.take (room + 1))).map (SV.d ∘ cB)).length ≤ 4 by simp [hlA])
            have htB := List.take_of_length_le (show ((applyB f (wl.take room)).map (SV.d ∘ cB)).length ≤ 4 by simp [hlB])
            simp only [show min (room + 1) room = room by omega]
            refine DWp.drawPR false (.take 0 (.take 1 (.take 2 (.take 3 (.take 4 (.take 5 (.take 6 (.take 7 (.take 8 (.take 9 (.take 10 (.take 11 (.take 12 (.take 13 .done)))))))))))))) mixed (by kernel_rfl) fun kk hk => ?_
            simp [v1, v2, hlA, hlB, htA, htB]
            refine DetCall.intro (d := encD ⟨v.1.ss, [], -1, false⟩) ent17 rfl (fun _ => by simpa [v2] using restart_c v.1) ?_
            simp [hlA, hlB, htA, htB]
            refine DetCall.intro ent28 rfl (fun _ => holds_c ⟨v.1.ss, [], -1, false⟩ ⟨hvf.1, by simp⟩ (applyB f (wl.take (room + 1))) (applyB f (wl.take room)) hlA hlB) ?_
            rw [v3]
            try simp
            refine hk _ ?_
            refine DWp.ret (hE _ ?_).2
            simp
          · simp [Ff] at hF8
            obtain rfl : k = wl.length := by omega
            have hsy := hd4_sync hf (by omega) hrm hF8
            rw [hv] at hsy
            subst hsy
            obtain ⟨r', hr'⟩ : ∃ r' : Nat, r' = room - wl.length := ⟨_, rfl⟩
            simp only [show min wl.length room = wl.length by omega, List.take_length, ← hr']
            refine DWp.skip ?_
            refine hk14 _ ?_
            refine DWp.seqK fun k15 hk15 => ?_
            refine DWp.reg false fun kk hk => ?_
            simp
            refine hk _ ?_
            refine DWp.condB ?_
            simp
            refine DWp.skip ?_
            refine hk15 _ ?_
            refine DWp.reg false fun kk hk => ?_
            simp
            rw [show IntKind.i64.wrap ((room : Int) - (wl.length : Int)) = (r' : Int) by rw [i64_in _ (by omega)]; omega]
            refine hk _ ?_
            refine DWp.reg false fun kk hk => ?_
            simp
            refine hk _ ?_
            refine DWp.regionV false ?_
            simp
            exact hJ8 _ (applyB f wl) [] r' hal (by simp) (by omega) (Sub.of [0, 1, 2, 3, 6] ⟨rfl, rfl, by simp, by simp, by simp, by simp [applyB]⟩)
    · simp [Ff] at hF3
      refine DWp.exit ?_
      simp
      refine hk4 _ ?_
      have htk := List.take_of_length_le (show (f.map (SV.d ∘ cB)).length ≤ 4 by simp [hf])
      refine DWp.drawPR false (.take 0 (.take 1 (.take 2 (.take 3 (.take 4 (.take 5 .done)))))) mixed (by kernel_rfl) fun kk hk => ?_
      simp [hf, htk]
      refine DetCall.intro ent17 rfl (fun _ => restart_c (hd4 f wl room)) ?_
      simp [hf, htk]
      refine DetCall.intro ent28 rfl (fun _ => holds_c ⟨(hd4 f wl room).ss, [], -1, false⟩ ⟨by simp [hd4, hf], by simp⟩ f f hf hf) ?_
      rw [hd4_rest hf]
      try simp
      refine hk _ ?_
      refine DWp.ret (hE _ ?_).2
      simp
end Go.Bf
