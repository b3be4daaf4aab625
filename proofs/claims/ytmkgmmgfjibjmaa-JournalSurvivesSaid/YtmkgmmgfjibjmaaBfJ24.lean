/-
  The law on crashes. Printed by program (j16.py). Nothing is claimed here.
-/
import Derived.Test.YtmkgmmgfjibjmaaBfJ23
set_option maxRecDepth 100000
set_option maxHeartbeats 8000000
namespace Go.Bf
open Go Go.RowKit Go.Proofs Go.IntWalk
/-- A round of the script. -/
structure Cr where
  recs : List (List UInt8)
  stop : Bool
  left : UInt8
def rowC (c : Cr) : List DV := [encSs c.recs, .bool c.stop, cB c.left]
def encCs (s : List Cr) : DV := .list (s.map rowC)
attribute [local simp] encB rowL rowW encSs encPs encD maxLen isBytes_map bytesOf_map encJ encCs rowC cB
theorem stop_of {n i : Nat} {d : Dk} (h : Live n i d) (t : Nat) (ht : t < 40) : stopD d (t : Int) = ({ d with left := (t : Int) }, 0) := by
  unfold stopD
  rw [h.ok, h.st]
  simp
  omega
theorem mod30 (c : UInt8) : IntKind.i64.wrap (IntKind.i64.wrap (Int.tmod (c.toNat : Int) 30) + 1) = ((c.toNat % 30 + 1 : Nat) : Int) := by
  have : Int.tmod (c.toNat : Int) 30 = ((c.toNat % 30 : Nat) : Int) := by rw [Int.tmod_eq_emod_of_nonneg (by omega)]; omega
  rw [this, i64_in ((c.toNat % 30 : Nat) : Int) (by omega), i64_in _ (by omega)]; omega
theorem mod40 (c : UInt8) : IntKind.i64.wrap (Int.tmod (c.toNat : Int) 40) = ((c.toNat % 40 : Nat) : Int) := by
  have : Int.tmod (c.toNat : Int) 40 = ((c.toNat % 40 : Nat) : Int) := by rw [Int.tmod_eq_emod_of_nonneg (by omega)]; omega
  rw [this, i64_in _ (by omega)]
theorem law_JournalSurvives (n : UInt8) (script : List Cr) (hsl : script.length ≤ 140737488355328) (hsc : ∀ c ∈ script, FitL c.recs) : FnWp Try.prog 8 [cB n, encCs script] (· = .ret (.bool true)) := by
  refine FnWp.intro' Try.func8 rfl (by simp [Try.ntmps8]) fun E hE => ?_
  refine DWp.reg false fun kk hk => ?_
  simp
  refine hk _ ?_
  refine DWp.seqK fun k1 hk1 => ?_
  refine DWp.reg false fun kk hk => ?_
  simp
  refine CallAt.det false ent9 rfl (jsane_c) ?_
  simp
  refine hk _ ?_
  refine DWp.condB ?_
  simp
  refine DWp.skip ?_
  refine hk1 _ ?_
  refine DWp.seqK fun k2 hk2 => ?_
  refine DWp.reg false fun kk hk => ?_
  simp
  refine hk _ ?_
  refine DWp.condB ?_
  simp
  refine ⟨fun hT1 => ?_, fun hF1 => ?_⟩
  · simp [Tt] at hT1
    refine DWp.reg false fun kk hk => ?_
    simp
    refine hk _ ?_
    refine DWp.ret (hE _ ?_).2
    simp
  · simp [Ff] at hF1
    obtain ⟨N0, hN0⟩ : ∃ k, n.toNat % 30 + 1 = k := ⟨_, rfl⟩
    have he := mod30 n
    rw [hN0] at he
    obtain ⟨d0, hn0, hl0, hr0⟩ := live_new N0 (by omega) (by omega)
    refine DWp.skip ?_
    refine hk2 _ ?_
    refine DWp.reg false fun kk hk => ?_
    simp [he]
    refine CallAt.det false ent21 rfl (new_c _) ?_
    rw [hn0]
    simp
    refine hk _ ?_
    refine DWp.seqK fun k3 hk3 => ?_
    refine DWp.reg false fun kk hk => ?_
    simp
    refine hk _ ?_
    refine DWp.condB ?_
    simp
    refine DWp.skip ?_
    refine hk3 _ ?_
    refine DWp.reg false fun kk hk => ?_
    simp
    refine hk _ ?_
    refine DWp.seqK fun k4 hk4 => ?_
    refine DWp.reg false fun kk hk => ?_
    simp
    refine hk _ ?_
    refine DWp.block ?_
    refine DWp.loopK (fun q : Nat × Dk => Know.of 195 [(5, .loc 0 0), (7, .d (encSs (recsL q.2.ss))), (38, .d (encCs script)), (39, .d (.int .i64 script.length)), (40, .d (.int .i64 q.1))] [(25, [.d (encSs q.2.ss), .d (encPs q.2.ps), .d (.int .i64 q.2.left), .d (.bool q.2.st)])])
      (fun q => q.1 ≤ script.length ∧ Live N0 q.1 q.2) (fun q => script.length - q.1) (0, d0) (Sub.trans (Sub.of [0] ⟨rfl, rfl, by simp, by simp, by simp [hr0], by simp⟩) (Sub.clipd 7 (xs := []) (by simp))) ⟨by simp, hl0⟩ ?_
    rintro ⟨i, d⟩ ⟨hi, hlive⟩ kl5 hkl5
    simp only at hi hlive ⊢
    refine DWp.reg false fun kk hk => ?_
    simp
    refine hk _ ?_
    refine DWp.seqK fun k6 hk6 => ?_
    refine DWp.condB ?_
    simp
    refine ⟨fun hT3 => ?_, fun hF3 => ?_⟩
    · simp [Tt] at hT3
      have hlt : i < script.length := by omega
      have hfr := hsc _ (List.getElem_mem hlt)
      have hopen := hlive.open
      have hdf := hlive.fits
      have hrl : (recsL d.ss).length ≤ 31 := by have := recsL_len d.ss; have := hlive.len; omega
      refine DWp.skip ?_
      refine hk6 _ ?_
      refine DWp.seqK fun k7 hk7 => ?_
      refine DWp.block ?_
      refine DWp.reg false fun kk hk => ?_
      simp [hlt]
      refine hk _ ?_
      refine DWp.seqK fun k8 hk8 => ?_
      refine DWp.reg false fun kk hk => ?_
      simp
      refine CallAt.det false ent10 rfl (few_c d script[i].recs (by have := hfr.1; omega) hfr.2) ?_
      simp
      refine hk _ ?_
      refine DWp.condB ?_
      simp
      refine ⟨fun hT4 => ?_, fun hF4 => ?_⟩
      · simp [Tt] at hT4
        refine DWp.reg false fun kk hk => ?_
        simp
        refine hk _ ?_
        refine DWp.ret (hE _ ?_).2
        simp
      · simp [Ff] at hF4
        refine DWp.skip ?_
        refine hk8 _ ?_
        refine DWp.reg false fun kk hk => ?_
        simp
        refine CallAt.det false ent11 rfl (open_c d hdf) ?_
        rw [hopen]
        simp
        refine hk _ ?_
        refine DWp.seqK fun k9 hk9 => ?_
        refine DWp.reg false fun kk hk => ?_
        simp [jO]
        refine CallAtG.det false ent20 rfl (fun _ => sameR_c (recsL d.ss) (recsL d.ss) (by omega)) ?_
        try simp
        refine hk _ ?_
        refine DWp.condB ?_
        simp
        refine DWp.skip ?_
        refine hk9 _ ?_
        refine DWp.seqK fun k10 hk10 => ?_
        refine DWp.reg false fun kk hk => ?_
        simp
        refine hk _ ?_
        refine DWp.block ?_
        refine DWp.loopK (fun q : Nat × Jn => Know.of 195 [(5, .loc 0 0), (7, .d (encSs (recsL d.ss))), (38, .d (encCs script)), (39, .d (.int .i64 script.length)), (40, .d (.int .i64 i)), (9, .loc 1 0), (10, .loc 2 0), (72, .d (encSs script[i].recs)), (73, .d (.int .i64 script[i].recs.length)), (74, .d (.int .i64 q.1))] [(25, [.d (encSs d.ss), .d (encPs d.ps), .d (.int .i64 d.left), .d (.bool d.st)]), (54, [.d (encSs script[i].recs), .d (.bool script[i].stop), .d (cB script[i].left)]), (29, [.d (.int .i64 q.2.many), .d (.int .i64 q.2.synced), .d (encSs q.2.recs)])])
          (fun q => q.1 ≤ script[i].recs.length ∧ Sm q.2 ∧ q.2 = addJ (jO N0 d) (script[i].recs.take q.1)) (fun q => script[i].recs.length - q.1) (0, jO N0 d) (Sub.of [0, 1, 2] ⟨rfl, rfl, by simp, by simp, by simp, by simp [jO]⟩) ⟨by simp, hlive.sm, by simp [addJ]⟩ ?_
        rintro ⟨t, x⟩ ⟨ht, hx, hxa⟩ kl11 hkl11
        simp only at ht hx hxa ⊢
        refine DWp.reg false fun kk hk => ?_
        simp
        refine hk _ ?_
        refine DWp.seqK fun k12 hk12 => ?_
        refine DWp.condB ?_
        simp
        refine ⟨fun hT6 => ?_, fun hF6 => ?_⟩
        · simp [Tt] at hT6
          have htl : t < script[i].recs.length := by omega
          refine DWp.skip ?_
          refine hk12 _ ?_
          refine DWp.seqK fun k13 hk13 => ?_
          refine DWp.block ?_
          refine DWp.reg false fun kk hk => ?_
          simp [htl]
          refine hk _ ?_
          refine DWp.reg false fun kk hk => ?_
          simp
          refine CallAt.det false ent14 rfl (jappend_c x hx.fit script[i].recs[t] (hfr.2 _ (List.getElem_mem htl))) ?_
          simp
          refine hk _ ?_
          refine DWp.reg false fun kk hk => ?_
          simp
          refine hk _ ?_
          refine DWp.condB ?_
          simp
          refine ⟨fun hT7 => ?_, fun hF7 => ?_⟩
          · simp [Tt] at hT7
            have hadd : add1 x script[i].recs[t] = (appendJ x script[i].recs[t]).1 := if_pos hT7
            refine DWp.regionV false ?_
            simp
            refine hk13 _ ?_
            refine DWp.regionV false ?_
            simp
            have t1 : IntKind.i64.wrap ((t : Int) + 1) = ((t + 1 : Nat) : Int) := by have := hfr.1; rw [i64_in _ (by omega)]; omega
            refine hkl11 _ (t + 1, add1 x script[i].recs[t]) ⟨by simp only; omega, (add1_sm hx (hfr.2 _ (List.getElem_mem htl))).1, by simp only; rw [addJ_succ _ script[i].recs t htl, hxa]⟩ (by simp only; omega) (Sub.of [0, 1, 2] ⟨rfl, rfl, by simp, by simp, by simp [t1], by simp [hadd]⟩)
          · simp [Ff] at hF7
            have hadd : add1 x script[i].recs[t] = x := if_neg hF7
            refine DWp.skip ?_
            refine hk13 _ ?_
            refine DWp.regionV false ?_
            simp
            have t1 : IntKind.i64.wrap ((t : Int) + 1) = ((t + 1 : Nat) : Int) := by have := hfr.1; rw [i64_in _ (by omega)]; omega
            refine hkl11 _ (t + 1, add1 x script[i].recs[t]) ⟨by simp only; omega, (add1_sm hx (hfr.2 _ (List.getElem_mem htl))).1, by simp only; rw [addJ_succ _ script[i].recs t htl, hxa]⟩ (by simp only; omega) (Sub.of [0, 1, 2] ⟨rfl, rfl, by simp, by simp, by simp [t1], by simp [hadd]⟩)
        · simp [Ff] at hF6
          obtain rfl : t = script[i].recs.length := by omega
          rw [List.take_length] at hxa
          refine DWp.exit ?_
          simp
          refine hk10 _ ?_
          refine DWp.seqK fun k14 hk14 => ?_
          obtain ⟨a1, a2, a3, tt, a4⟩ := addJ_sm script[i].recs hlive.sm hfr.2
          have hge : (recsL d.ss).length ≤ x.recs.length := by rw [hxa, a4]; simp [jO]
          refine DWp.reg false fun kk hk => ?_
          simp
          refine hk _ ?_
          refine DWp.condB ?_
          simp
          refine ⟨fun hT8 => ?_, fun hF8 => ?_⟩
          · simp [Tt] at hT8
            exfalso
            omega
          · simp [Ff] at hF8
            refine DWp.skip ?_
            refine hk14 _ ?_
            refine DWp.seqK fun k15 hk15 => ?_
            have hJ15 : ∀ (K' : Know) (dl : Dk) (hdl : dl = d ∨ ∃ t : Nat, t < 40 ∧ dl = { d with left := (t : Int) }) (hstop : dl ≠ d → script[i].stop = true), Sub (Know.of 195 [(5, .loc 0 0), (7, .d (encSs (recsL d.ss))), (38, .d (encCs script)), (39, .d (.int .i64 script.length)), (40, .d (.int .i64 i)), (9, .loc 1 0), (10, .loc 2 0)] [(25, [.d (encSs dl.ss), .d (encPs dl.ps), .d (.int .i64 dl.left), .d (.bool dl.st)]), (54, [.d (encSs script[i].recs), .d (.bool script[i].stop), .d (cB script[i].left)]), (29, [.d (.int .i64 x.many), .d (.int .i64 x.synced), .d (encSs x.recs)])]) K' → k15 K' := by
              intro K' dl hdl hstop hs
              refine hk15 _ (DWp.sub hs ?_)
              have hround := hlive.round (by omega) hfr.2 hdl
              have hask := hlive.asked (by omega) hdl hfr.2
              rw [← hxa] at hround hask
              have hxf := hx.fit
              have hxu : usedN x.recs < 4611686018427387904 := by have := hx.used; have := hx.syn; omega
              rcases hround with ⟨x', y, g1, g2, g3, hlv, g5⟩ | ⟨hne, y, g1, hlv, g3, g4, g5⟩
              · refine DWp.reg false fun kk hk => ?_
                simp
                refine CallAt.det false ent22 rfl (jsync_c x hxf dl hask.2.2.2 hxu) ?_
                rw [g1]
                simp
                refine hk _ ?_
                refine DWp.seqK fun k16 hk16 => ?_
                refine DWp.reg false fun kk hk => ?_
                simp
                refine hk _ ?_
                refine DWp.block ?_
                refine DWp.reg false fun kk hk => ?_
                simp
                refine hk _ ?_
                refine DWp.condB ?_
                simp
                refine DWp.seqK fun k17 hk17 => ?_
                refine DWp.reg false fun kk hk => ?_
                simp [g2, g3]
                refine CallAtG.det false ent20 rfl (fun _ => sameR_c x.recs x.recs (by have := hxf.1; omega)) ?_
                try simp
                refine hk _ ?_
                refine DWp.condB ?_
                simp
                refine DWp.skip ?_
                refine hk17 _ ?_
                refine DWp.regionV false ?_
                simp
                refine hk16 _ ?_
                refine DWp.regionV false ?_
                simp
                refine CallAt.det false ent28 rfl (restart_c y) ?_
                simp
                refine hk7 _ ?_
                refine DWp.regionV false ?_
                simp
                have i1 : IntKind.i64.wrap ((i : Int) + 1) = ((i + 1 : Nat) : Int) := by rw [i64_in _ (by omega)]; omega
                have e7 : recsL (backD y).ss = x.recs := g5
                refine hkl5 _ (i + 1, backD y) ⟨by simp only; omega, hlv⟩ (by simp only; omega) (Sub.of [0] ⟨rfl, rfl, by simp, by simp, by simp [i1, e7], by simp [backD]⟩)
              · refine DWp.reg false fun kk hk => ?_
                simp
                refine CallAt.det false ent22 rfl (jsync_c x hxf dl hask.2.2.2 hxu) ?_
                rw [g1]
                simp
                refine hk _ ?_
                refine DWp.seqK fun k18 hk18 => ?_
                refine DWp.reg false fun kk hk => ?_
                simp
                refine hk _ ?_
                refine DWp.block ?_
                refine DWp.reg false fun kk hk => ?_
                simp
                refine hk _ ?_
                refine DWp.condB ?_
                simp
                refine DWp.reg false fun kk hk => ?_
                simp
                refine hk _ ?_
                refine DWp.condB ?_
                simp
                refine DWp.reg false fun kk hk => ?_
                simp
                refine CallAt.det false ent28 rfl (restart_c y) ?_
                simp
                refine CallAt.det false ent11 rfl (open_c (backD y) hlv.fits) ?_
                rw [hlv.open]
                simp [jO, backD]
                refine hk _ ?_
                refine DWp.seqK fun k19 hk19 => ?_
                have hs39 := hstop hne
                obtain ⟨kp, hkp⟩ : ∃ kp, recsL y.ss = kp := ⟨_, rfl⟩
                rw [hkp] at g3 g4 g5
                have ekp : recsL (backD y).ss = kp := hkp
                have hkpl : kp.length ≤ 140737488355328 := by have := hxf.1; omega
                have hsame : FnWp Try.prog 20 [DV.list (List.map rowL kp), DV.list (List.take kp.length (List.map rowL x.recs))] (· = .ret (.bool true)) := by
                  rw [← List.map_take, ← g5]
                  have := sameR_c kp kp hkpl
                  rwa [decide_eq_true rfl] at this
                refine DWp.drawPR false [] (.take 0 (.take 1 (.take 2 (.take 3 (.take 4 (.take 5 (.take 6 (.take 7 (.take 8 (.take 9 (.take 10 (.take 11 (.take 12 (.take 13 (.take 14 (.take 15 (.take 16 (.take 17 (.take 18 (.take 19 (.take 20 (.take 21 (.take 22 (.take 23 (.take 24 (.take 25 (.take 26 (.take 27 (.take 28 (.take 29 (.take 30 (.take 31 (.take 32 (.take 33 (.take 34 (.take 35 .done)))))))))))))))))))))))))))))))))))) mixed (by kernel_rfl) fun kk hk => ?_
                simp [hs39, hkp]
                refine DetCall.intro (d := .bool true) ent20 rfl (fun _ => hsame) ?_
                simp [hs39, hkp]
                refine hk _ ?_
                refine DWp.condB ?_
                simp
                refine ⟨fun hT14 => ?_, fun hF14 => ?_⟩
                · simp [Tt] at hT14
                  exfalso
                  omega
                · simp [Ff] at hF14
                  refine DWp.skip ?_
                  refine hk19 _ ?_
                  refine DWp.regionV false ?_
                  simp
                  refine hk18 _ ?_
                  refine DWp.regionV false ?_
                  simp
                  refine CallAt.det false ent28 rfl (restart_c y) ?_
                  simp
                  refine hk7 _ ?_
                  refine DWp.regionV false ?_
                  simp
                  have i1 : IntKind.i64.wrap ((i : Int) + 1) = ((i + 1 : Nat) : Int) := by rw [i64_in _ (by omega)]; omega
                  refine hkl5 _ (i + 1, backD y) ⟨by simp only; omega, hlv⟩ (by simp only; omega) (Sub.of [0] ⟨rfl, rfl, by simp, by simp, by simp [i1, ekp], by simp [backD]⟩)
            refine DWp.reg false fun kk hk => ?_
            simp
            refine hk _ ?_
            refine DWp.condB ?_
            simp
            refine ⟨fun hT9 => ?_, fun hF9 => ?_⟩
            · simp [Tt] at hT9
              obtain ⟨tz, htz⟩ : ∃ t, script[i].left.toNat % 40 = t := ⟨_, rfl⟩
              have hm40 := mod40 script[i].left
              rw [htz] at hm40
              have hst := stop_of hlive tz (by omega)
              refine DWp.reg false fun kk hk => ?_
              simp [hm40]
              refine CallAt.det false ent27 rfl (stop_c d hdf _) ?_
              rw [hst]
              simp
              refine hk _ ?_
              refine DWp.reg false fun kk hk => ?_
              simp
              refine hk _ ?_
              refine DWp.condB ?_
              simp
              refine DWp.skip ?_
              exact hJ15 _ { d with left := (tz : Int) } (.inr ⟨tz, by omega, rfl⟩) (fun _ => hT9) (Sub.of [0, 1, 2] ⟨rfl, rfl, by simp, by simp, by simp, by simp⟩)
            · simp [Ff] at hF9
              refine DWp.skip ?_
              exact hJ15 _ d (.inl rfl) (fun h => absurd rfl h) (Sub.of [0, 1, 2] ⟨rfl, rfl, by simp, by simp, by simp, by simp⟩)
    · simp [Ff] at hF3
      have hopen := hlive.open
      have hdf := hlive.fits
      have hrl : (recsL d.ss).length ≤ 31 := by have := recsL_len d.ss; have := hlive.len; omega
      refine DWp.exit ?_
      simp
      refine hk4 _ ?_
      refine DWp.reg false fun kk hk => ?_
      simp
      refine CallAt.det false ent11 rfl (open_c d hdf) ?_
      rw [hopen]
      simp
      refine hk _ ?_
      refine DWp.reg false fun kk hk => ?_
      simp [jO]
      refine CallAtG.det false ent20 rfl (fun _ => sameR_c (recsL d.ss) (recsL d.ss) (by omega)) ?_
      try simp
      refine hk _ ?_
      refine DWp.ret (hE _ ?_).2
      simp
end Go.Bf
