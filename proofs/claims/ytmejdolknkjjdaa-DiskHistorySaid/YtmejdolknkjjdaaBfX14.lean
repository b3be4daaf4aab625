/-
  The disk's reference, further functions: what each yields. Printed by program (x14.py). Nothing is claimed here.
-/
import Derived.Test.YtmejdolknkjjdaaBfX13
import Derived.Test.YtmejdolknkjjdaaBfZ4
set_option maxRecDepth 100000
set_option maxHeartbeats 4000000
namespace Go.Bf
open Go Go.RowKit Go.Proofs Go.IntWalk
attribute [local simp] encB rowL rowW encSs encPs encD maxLen
def curR (d : Dk) (at' : Int) (i : Nat) : List UInt8 := match (d.ps.take i).reverse.find? (fun w => w.1 = at') with
  | some w => w.2
  | none => d.ss.getD at'.toNat []
theorem curR_succ (d : Dk) (at' : Int) (i : Nat) (h : i < d.ps.length) : curR d at' (i + 1) = if d.ps[i].1 = at' then d.ps[i].2 else curR d at' i := by
  unfold curR
  rw [List.take_succ_eq_append_getElem h, List.reverse_append]
  simp only [List.reverse_cons, List.reverse_nil, List.nil_append, List.singleton_append, List.find?_cons]
  by_cases hh : d.ps[i].1 = at' <;> simp [hh]
theorem refRead_c (d : Dk) (hd : d.fits) (at' : Int) : FnWp Try.prog 22 [encD d, .int .i64 at'] (· = .ret (.tup [encB (readD d at').1, .int .i64 (readD d at').2])) := by
  refine FnWp.intro' Try.func22 rfl (by simp [Try.ntmps22]) fun E hE => ?_
  refine DWp.reg false fun k hk => ?_
  simp
  refine hk _ ?_
  refine DWp.seqK fun k1 hk1 => ?_
  refine DWp.reg false fun k hk => ?_
  simp
  refine CallAt.det false ent16 rfl (refCheck_c d hd) ?_
  simp
  refine hk _ ?_
  refine DWp.condB ?_
  simp
  refine ⟨fun hT0 => ?_, fun hF0 => ?_⟩
  · simp [Tt] at hT0
    have hok : (okD d && !d.st && decide (0 ≤ at' ∧ at' < d.ss.length)) = false := by
      cases h1 : okD d <;> cases h2 : d.st <;> simp_all <;> omega
    refine DWp.reg false fun k hk => ?_
    simp
    refine hk _ ?_
    refine DWp.ret (hE _ ?_).2
    rw [show readD d at' = ([], 440) by simp only [readD, hok]; rfl]
    simp
  · simp [Ff] at hF0
    have hok : (okD d && !d.st && decide (0 ≤ at' ∧ at' < d.ss.length)) = true := by
      cases h1 : okD d <;> cases h2 : d.st <;> simp_all
    have hokd : okD d = true := by cases h1 : okD d <;> simp_all
    have hlt : at'.toNat < d.ss.length := by omega
    have hps := okD_ps hokd
    refine DWp.skip ?_
    refine hk1 _ ?_
    refine DWp.reg false fun k hk => ?_
    simp [hlt]
    refine ⟨by omega, ?_⟩
    refine hk _ ?_
    refine DWp.seqK fun k2 hk2 => ?_
    refine DWp.reg false fun k hk => ?_
    simp
    refine hk _ ?_
    refine DWp.block ?_
    refine DWp.loopK (fun i : Nat => Know.of 53 [(1, .d (.int .i64 at')), (2, .loc 0 0), (6, .d (encB (curR d at' i))), (7, .d (.int .i64 i))] [(25, [.d (encSs d.ss), .d (encPs d.ps), .d (.int .i64 d.left), .d (.bool d.st)])])
      (fun i => i ≤ d.ps.length) (fun i => d.ps.length - i) 0 (Sub.of [0] ⟨rfl, rfl, by simp, by simp, by simp [curR, hlt], by simp⟩) (by simp) ?_
    rintro i hi kl3 hkl3
    refine DWp.seqK fun k4 hk4 => ?_
    refine DWp.reg false fun k hk => ?_
    simp
    refine hk _ ?_
    refine DWp.condB ?_
    simp
    refine ⟨fun hT1 => ?_, fun hF1 => ?_⟩
    · simp [Tt] at hT1
      refine DWp.skip ?_
      refine hk4 _ ?_
      refine DWp.seqK fun k5 hk5 => ?_
      refine DWp.block ?_
      refine DWp.reg false fun k hk => ?_
      simp [hT1]
      refine hk _ ?_
      refine DWp.condB ?_
      simp
      refine ⟨fun hT2 => ?_, fun hF2 => ?_⟩
      · simp [Tt] at hT2
        refine DWp.regionV false ?_
        simp [hT1]
        refine hk5 _ ?_
        refine DWp.regionV false ?_
        simp
        rw [i64_in _ (by omega)]
        refine hkl3 _ (i + 1) (by omega) (by omega) (Sub.of [0] ⟨rfl, rfl, by simp, by simp, by simp [curR_succ d at' i hT1, hT2], by simp⟩)
      · simp [Ff] at hF2
        refine DWp.skip ?_
        refine hk5 _ ?_
        refine DWp.regionV false ?_
        simp
        rw [i64_in _ (by omega)]
        refine hkl3 _ (i + 1) (by omega) (by omega) (Sub.of [0] ⟨rfl, rfl, by simp, by simp, by simp [curR_succ d at' i hT1, hF2], by simp⟩)
    · simp [Ff] at hF1
      refine DWp.exit ?_
      simp
      refine hk2 _ ?_
      refine DWp.reg false fun k hk => ?_
      simp
      refine hk _ ?_
      refine DWp.ret (hE _ ?_).2
      obtain rfl : i = d.ps.length := by omega
      have hr : readD d at' = (curR d at' d.ps.length, 0) := by
        simp only [readD, hok, curR, List.take_length]
        rw [if_pos trivial]
        cases d.ps.reverse.find? (fun w => w.1 = at') <;> rfl
      rw [hr]
      simp
@[simp] theorem wideB_t (l : List UInt8) : Wide 1 (List.map rowB l) = True := by simp only [wideB]
@[simp] theorem wideL_t (l : List (List UInt8)) : Wide 1 (List.map rowL l) = True := by simp only [wideL]
@[simp] theorem wideW_t (l : List (Int × List UInt8)) : Wide 2 (List.map rowW l) = True := by simp only [wideW]
@[simp] theorem wideBt_t (n : Nat) (l : List UInt8) : Wide 1 (List.take n (List.map rowB l)) = True := by rw [← List.map_take]; exact wideB_t _
@[simp] theorem wideBd_t (n : Nat) (l : List UInt8) : Wide 1 (List.drop n (List.map rowB l)) = True := by rw [← List.map_drop]; exact wideB_t _
theorem performL_succ (ss : List (List UInt8)) (ps : List (Int × List UInt8)) (j : Nat) (h : j < ps.length) : performL ss (ps.take (j + 1)) = (performL ss (ps.take j)).set ps[j].1.toNat ps[j].2 := by
  rw [List.take_succ_eq_append_getElem h]
  simp only [performL, List.foldl_append, List.foldl_cons, List.foldl_nil, setAt]
@[simp] theorem renL_set (ρ : Nat → Nat) (l : List SV) (i : Nat) (s : SV) : renL ρ (l.set i s) = (renL ρ l).set i (s.ren ρ) := by simp [renL_eq, List.map_set]
@[simp] theorem frzL_set (b : Nat) (ds : List DV) (l : List SV) (i : Nat) (s : SV) : frzL b ds (l.set i s) = (frzL b ds l).set i (s.frz b ds) := by simp [frzL_eq, List.map_set]
theorem refSync_c (d : Dk) (hd : d.fits) : FnWp Try.prog 24 [encD d] (· = .ret (.tup [encD (syncD d).1, .int .i64 (syncD d).2])) := by
  refine FnWp.intro' Try.func24 rfl (by simp [Try.ntmps24]) fun E hE => ?_
  refine DWp.reg false fun k hk => ?_
  simp
  refine hk _ ?_
  refine DWp.seqK fun k1 hk1 => ?_
  refine DWp.sub (Sub.freeze 0 rfl rfl) ?_
  refine DWp.sub (Sub.of (n := 95) (sl := [(1, .d (.ptr [encSs d.ss, encPs d.ps, .int .i64 d.left, .bool d.st])), (2, .loc 0 0)]) (ml := [(25, [.clip [], .clip [], .d (.int .i64 0), .d (.bool false)])]) [1] ⟨rfl, rfl, by simp, by simp, by simp, by simp⟩) ?_
  refine DWp.reg false fun k hk => ?_
  simp
  refine CallAt.det false ent16 rfl (refCheck_c d hd) ?_
  simp
  refine hk _ ?_
  refine DWp.condB ?_
  simp
  refine ⟨fun hT0 => ?_, fun hF0 => ?_⟩
  · simp [Tt] at hT0
    have hok : (okD d && !d.st) = false := by cases h1 : okD d <;> cases h2 : d.st <;> simp_all
    refine DWp.reg false fun k hk => ?_
    simp
    refine hk _ ?_
    refine DWp.ret (hE _ ?_).2
    rw [show syncD d = (zeroD, 440) by simp only [syncD, hok]; rfl]
    simp [zeroD]
  · simp [Ff] at hF0
    have hok : (okD d && !d.st) = true := by cases h1 : okD d <;> cases h2 : d.st <;> simp_all
    have hokd : okD d = true := by cases h1 : okD d <;> simp_all
    have hps := okD_ps hokd
    refine DWp.skip ?_
    refine hk1 _ ?_
    refine DWp.reg false fun k hk => ?_
    simp
    refine hk _ ?_
    refine DWp.reg false fun k hk => ?_
    simp
    refine hk _ ?_
    refine DWp.seqK fun k2 hk2 => ?_
    obtain ⟨b, hb⟩ : ∃ b, b = (decide (0 ≤ d.left) && decide (d.left < d.ps.length)) := ⟨_, rfl⟩
    obtain ⟨m, hm⟩ : ∃ m : Nat, m = if b then d.left.toNat else d.ps.length := ⟨_, rfl⟩
    have hmle : m ≤ d.ps.length := by cases b <;> simp at hb hm <;> omega
    have hJ2 : ∀ (K' : Know) , Sub (Know.of 95 [(1, .d (.ptr [encSs d.ss, encPs d.ps, .int .i64 d.left, .bool d.st])), (2, .loc 0 0), (4, .d (.int .i64 m)), (5, .d (.bool b))] [(25, [.clip [], .clip [], .d (.int .i64 0), .d (.bool false)])]) K' → k2 K' := by
      intro K'  hs
      refine hk2 _ (DWp.sub hs ?_)
      refine DWp.drawPR false (.takeP 1 [] (.takeP 2 [] (.takeP 4 [] (.takeP 5 [] (.two 0 7 (.two 3 7 (.take 6 (.take 7 (.take 8 .done))) (.take 3 (.take 6 (.take 8 .done)))) (.take 0 (.take 3 (.take 6 (.take 8 .done))))))))) mixed (by kernel_rfl) fun k hk => ?_
      have hJ : ∀ (K' : Know) , Sub (Know.of 95 [(1, .d (.ptr [encSs d.ss, encPs d.ps, .int .i64 d.left, .bool d.st])), (2, .loc 0 0), (4, .d (.int .i64 m)), (5, .d (.bool b)), (6, .loc 1 0)] [(25, [.clip [], .clip [], .d (.int .i64 0), .d (.bool false)]), (25, [.own 2 1 0 d.ss.length none, .clip [], .d (.int .i64 d.left), .d (.bool false)]), (22, cellsL d.ss)]) K' → k K' := by
        intro K'  hs
        refine hk _ (DWp.sub hs ?_)
        refine DWp.seqK fun k3 hk3 => ?_
        refine DWp.reg false fun k hk => ?_
        simp
        refine hk _ ?_
        refine DWp.block ?_
        refine DWp.loopK (fun j : Nat => Know.of 95 [(1, .d (.ptr [encSs d.ss, encPs d.ps, .int .i64 d.left, .bool d.st])), (2, .loc 0 0), (4, .d (.int .i64 m)), (5, .d (.bool b)), (6, .loc 1 0), (7, .d (.int .i64 j))] [(25, [.clip [], .clip [], .d (.int .i64 0), .d (.bool false)]), (25, [.own 2 1 0 d.ss.length none, .clip [], .d (.int .i64 d.left), .d (.bool false)]), (22, cellsL (performL d.ss (d.ps.take j)))])
          (fun j => j ≤ m) (fun j => m - j) 0 (Sub.of [0, 1, 2] ⟨rfl, rfl, by simp, by simp, by simp, by simp [performL]⟩) (by omega) ?_
        rintro j hj kl4 hkl4
        refine DWp.seqK fun k5 hk5 => ?_
        refine DWp.reg false fun k hk => ?_
        simp
        refine hk _ ?_
        refine DWp.condB ?_
        simp
        refine ⟨fun hT2 => ?_, fun hF2 => ?_⟩
        · simp [Tt] at hT2
          refine DWp.skip ?_
          refine hk5 _ ?_
          refine DWp.seqK fun k6 hk6 => ?_
          refine DWp.block ?_
          have hlt : j < d.ps.length := by omega
          have hw := okD_w hokd d.ps[j] (List.getElem_mem hlt)
          refine DWp.drawP false (.take 0 (.take 1 (.take 2 (.take 3 (.take 4 (.take 5 (.take 6 (.take 7 (.take 8 (.take 9 (.take 10 (.take 11 (.take 12 (.take 13 (.take 14 (.take 15 .done)))))))))))))))) mixed (by kernel_rfl) ?_
          simp [hlt]
          refine ⟨⟨hw.1, hw.2.1⟩, by omega, ?_⟩
          refine hk6 _ ?_
          refine DWp.regionV false ?_
          simp
          rw [i64_in _ (by omega)]
          refine hkl4 _ (j + 1) (by omega) (by omega) (Sub.of [0, 1, 2] ⟨rfl, rfl, by simp, by simp, by simp, by simp [performL_succ d.ss d.ps j hlt, ← cellsL_set]⟩)
        · simp [Ff] at hF2
          refine DWp.exit ?_
          simp
          refine hk3 _ ?_
          refine DWp.seqK fun k7 hk7 => ?_
          refine DWp.reg false fun k hk => ?_
          simp
          refine hk _ ?_
          refine DWp.condB ?_
          simp
          refine ⟨fun hT3 => ?_, fun hF3 => ?_⟩
          · simp [Tt] at hT3
            obtain ⟨hl1, hl2⟩ : 0 ≤ d.left ∧ d.left < d.ps.length := by simpa [hT3] using hb.symm
            have hml : m = d.left.toNat := by simp [hm, hT3]
            obtain rfl : j = m := by omega
            have hlt : j < d.ps.length := by omega
            have hw := okD_w hokd d.ps[j] (List.getElem_mem hlt)
            refine DWp.reg false fun k hk => ?_
            simp [hlt]
            refine hk _ ?_
            generalize hwn : d.ps[j] = wn at *
            generalize hxs : performL d.ss (d.ps.take j) = xs
            have hxl : xs.length = d.ss.length := by rw [← hxs, performL_length]
            have hxa : ∀ b ∈ xs, b.length = 128 := by rw [← hxs]; exact performL_all (okD_s hokd) (fun w h => (okD_w hokd w (List.mem_of_mem_take h)).2.2)
            have hil : wn.1.toNat < xs.length := by omega
            obtain ⟨t, hgt⟩ : ∃ t, xs[wn.1.toNat] = t := ⟨_, rfl⟩
            have htl : t.length = 128 := by rw [← hgt]; exact hxa _ (List.getElem_mem hil)
            have hct : (cellsL xs)[wn.1.toNat]? = some (.d (encB t)) := by rw [cellsL_get hil, hgt]
            have hsync : syncD d = (⟨xs.set wn.1.toNat (wn.2.take 64 ++ t.drop 64), [], 0, true⟩, 440) := by simp only [syncD, hok, if_true]; rw [← hml, List.getElem?_eq_getElem hlt, hwn]; simp only [hl1, if_true, hxs, tornD]; rw [List.getD_eq_getElem?_getD, List.getElem?_eq_getElem hil, hgt]; rfl
            refine DWp.sub (Sub.freeze 3 rfl rfl) ?_
            refine DWp.sub (Sub.of (n := 95) (sl := [(1, .d (.ptr [encSs d.ss, encPs d.ps, .int .i64 d.left, .bool d.st])), (2, .loc 0 0), (4, .d (.int .i64 j)), (6, .loc 1 0), (8, .d (.ptr (rowW wn)))]) (ml := [(25, [.clip [], .clip [], .d (.int .i64 0), .d (.bool false)]), (25, [.own 2 1 0 xs.length none, .clip [], .d (.int .i64 d.left), .d (.bool false)]), (22, cellsL xs)]) [0, 1, 2] ⟨rfl, rfl, by simp, by simp, by simp, by simp [hxl]⟩) ?_
            refine DWp.drawPR false (.takeP 0 [1, 2] (.takeP 1 [1, 2] (.takeP 2 [] (.takeP 3 [] (.takeP 5 [] (.takeP 6 [] (.takeP 7 [] (.takeP 9 [1, 2] (.takeP 10 [1, 2] (.takeP 11 [] (.takeP 12 [] (.takeP 13 [1, 2] (.takeP 14 [1, 2] (.takeP 15 [1, 2] (.take 4 (.take 8 (.take 16 (.take 17 (.take 18 .done))))))))))))))))))) mixed (by kernel_rfl) fun k hk => ?_
            simp [hct, hw, htl]
            repeat' apply And.intro
            any_goals first | omega | kernel_rfl
            refine hk _ ?_
            generalize htt : wn.2.take 64 ++ t.drop 64 = tt at *
            have httl : tt.length = 128 := by rw [← htt]; simp; omega
            refine DWp.sub (Sub.freeze (ds := tt.map cB) 5 rfl (by rw [← htt, ← List.map_take, ← List.map_drop, ← List.map_append]; exact allD_map _ _)) ?_
            obtain ⟨ys, hys⟩ : ∃ y, xs.set wn.1.toNat tt = y := ⟨_, rfl⟩
            have hyl : ys.length = xs.length := by rw [← hys]; simp
            refine DWp.sub (Sub.of (n := 95) (sl := [(2, .loc 0 0), (6, .loc 1 0)]) (ml := [(25, [.clip [], .clip [], .d (.int .i64 0), .d (.bool false)]), (25, [.own 2 1 0 ys.length none, .clip [], .d (.int .i64 d.left), .d (.bool false)]), (22, cellsL ys)]) [0, 1, 2] ⟨rfl, rfl, by simp, by simp, by simp, ?_⟩) ?_
            · simp [httl, hyl]
              rw [← hys, ← cellsL_set, List.take_of_length_le (by simp [httl])]
              simp [rowB_eq, Function.comp_def]
            refine DWp.reg false fun k hk => ?_
            simp
            refine hk _ ?_
            refine DWp.reg false fun k hk => ?_
            simp
            refine hk _ ?_
            refine DWp.reg false fun k hk => ?_
            simp
            refine hk _ ?_
            refine DWp.ret (hE _ ?_).2
            rw [hsync, hys]
            simp [List.mapM_cons, Function.comp_def]
          · simp [Ff] at hF3
            have hml : m = d.ps.length := by simp [hm, hF3]
            obtain rfl : j = m := by omega
            refine DWp.skip ?_
            refine hk7 _ ?_
            refine DWp.seqK fun k8 hk8 => ?_
            have htk : List.take d.ss.length (cellsL (performL d.ss d.ps)) = cellsL (performL d.ss d.ps) := List.take_of_length_le (by simp)
            have hsync : syncD d = (⟨performL d.ss d.ps, [], if 0 ≤ d.left then d.left - d.ps.length else d.left, false⟩, 0) := by
              simp only [syncD, hok, if_true]
              have hn : 0 ≤ d.left → d.ps.length ≤ d.left.toNat := by intro h; simp [hF3, h] at hb; omega
              by_cases hg : 0 ≤ d.left
              · rw [List.getElem?_eq_none (hn hg)]
              · cases hh : d.ps[d.left.toNat]? with
                | none => rfl
                | some w => simp [hg]
            refine DWp.reg false fun k hk => ?_
            simp
            refine hk _ ?_
            refine DWp.condB ?_
            simp
            refine ⟨fun hT4 => ?_, fun hF4 => ?_⟩
            · simp [Tt] at hT4
              refine DWp.regionV false ?_
              simp
              refine hk8 _ ?_
              refine DWp.reg false fun k hk => ?_
              simp
              refine hk _ ?_
              refine DWp.ret (hE _ ?_).2
              rw [hsync, if_pos hT4, hml]
              rw [List.take_length, ]
              simp [htk]
              exact i64_in _ (by have := okD_l hokd; omega)
            · simp [Ff] at hF4
              refine DWp.skip ?_
              refine hk8 _ ?_
              refine DWp.reg false fun k hk => ?_
              simp
              refine hk _ ?_
              refine DWp.ret (hE _ ?_).2
              rw [hsync, if_neg (by omega)]
              simp [htk, hml]
      simp
      repeat' apply And.intro
      any_goals first | omega | kernel_rfl
      · exact hJ _ (Sub.of [0, 3, 2] ⟨rfl, rfl, by simp, by simp, by simp, by simp [cellsL]⟩)
      · exact hJ _ (Sub.of [0, 2, 3] ⟨rfl, rfl, by simp, by simp, by simp, by simp [cellsL]⟩)
      · exact hJ _ (Sub.of [0, 1, 3] ⟨rfl, rfl, by simp, by simp, by simp, by simp [cellsL]⟩)
    refine DWp.reg false fun k hk => ?_
    simp
    refine hk _ ?_
    refine DWp.condB ?_
    simp
    refine ⟨fun hT1 => ?_, fun hF1 => ?_⟩
    · simp [Tt] at hT1
      refine DWp.regionV false ?_
      simp
      have e : d.left = (m : Int) := by simp [hT1] at hb; simp [hb] at hm; omega
      exact hJ2 _ (Sub.of [0] ⟨rfl, rfl, by simp, by simp, by simp [← e, hb], by simp⟩)
    · simp [Ff] at hF1
      refine DWp.skip ?_
      have hb' : b = false := by simp [hb]; omega
      have e : (d.ps.length : Int) = (m : Int) := by simp [hb'] at hm; omega
      exact hJ2 _ (Sub.of [0] ⟨rfl, rfl, by simp, by simp, by simp [e, hb], by simp⟩)
end Go.Bf
