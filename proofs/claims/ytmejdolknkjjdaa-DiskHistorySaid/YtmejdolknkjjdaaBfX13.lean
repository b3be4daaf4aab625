import Derived.Test.YtmejdolknkjjdaaBfX12
import Derived.Test.YtmejdolknkjjdaaBfZ4
set_option maxRecDepth 100000
set_option maxHeartbeats 4000000
namespace Go.Bf
open Go Go.RowKit Go.Proofs Go.IntWalk
attribute [local simp] encB rowL rowW encSs encPs encD maxLen
/-- What Few adds up. -/
def fewGo : List Nat → Int → Int
  | [], n => n
  | l :: ls, n => if n ≤ 9000 then fewGo ls (IntKind.i64.wrap (IntKind.i64.wrap (n + 1) + l)) else n
def fewD (d : Dk) : Bool := decide (fewGo (d.ps.map fun w => w.2.length) (fewGo (d.ss.map List.length) 0) ≤ 9000)
theorem fewGo_step {l : List Nat} {i : Nat} {n : Int} (h : i < l.length) (hn : n ≤ 9000) : fewGo (l.drop i) n = fewGo (l.drop (i + 1)) (IntKind.i64.wrap (IntKind.i64.wrap (n + 1) + (l[i] : Nat))) := by
  rw [List.drop_eq_getElem_cons h]
  simp only [fewGo, if_pos hn]
theorem fewGo_end {l : List Nat} {i : Nat} {n : Int} (h : i < l.length → 9000 < n) : fewGo (l.drop i) n = n := by
  by_cases hi : i < l.length
  · rw [List.drop_eq_getElem_cons hi]
    simp only [fewGo]
    rw [if_neg (by have := h hi; omega)]
  · rw [List.drop_eq_nil_of_le (by omega)]; rfl
theorem refFew_c (d : Dk) (hd : d.fits) : FnWp Try.prog 11 [encD d] (· = .ret (.bool (fewD d))) := by
  obtain ⟨hd1, hd2⟩ := hd
  refine FnWp.intro' Try.func11 rfl (by simp [Try.ntmps11]) fun E hE => ?_
  refine DWp.reg false fun k hk => ?_
  simp
  refine hk _ ?_
  refine DWp.reg false fun k hk => ?_
  simp
  refine hk _ ?_
  refine DWp.seqK fun k1 hk1 => ?_
  refine DWp.reg false fun k hk => ?_
  simp
  refine hk _ ?_
  refine DWp.block ?_
  refine DWp.loopK (fun s : Int × Nat => Know.of 49 [(1, .loc 0 0), (3, .d (.int .i64 s.1)), (4, .d (.int .i64 s.2))] [(25, [.d (encSs d.ss), .d (encPs d.ps), .d (.int .i64 d.left), .d (.bool d.st)])])
    (fun s => s.2 ≤ d.ss.length ∧ fewGo ((d.ss.map List.length).drop s.2) s.1 = fewGo (d.ss.map List.length) 0) (fun s => d.ss.length - s.2) (0, 0) (Sub.of [0] ⟨rfl, rfl, by simp, by simp, by simp, by simp⟩) (by simp) ?_
  rintro ⟨n, i⟩ ⟨hi, hfe⟩ kl2 hkl2
  simp only at hi hfe ⊢
  refine DWp.seqK fun k3 hk3 => ?_
  refine DWp.reg false fun k hk => ?_
  simp
  refine hk _ ?_
  refine DWp.condB ?_
  simp
  refine ⟨fun hT0 => ?_, fun hF0 => ?_⟩
  · simp [Tt] at hT0
    refine DWp.skip ?_
    refine hk3 _ ?_
    refine DWp.seqK fun k4 hk4 => ?_
    refine DWp.block ?_
    refine DWp.regionV false ?_
    simp [hT0]
    refine hk4 _ ?_
    refine DWp.regionV false ?_
    simp
    rw [i64_in ((i : Int) + 1) (by omega)]
    have hfe' := fewGo_step (l := (d.ss.map List.length)) (i := i) (n := n) (by simp; omega) (by omega)
    refine hkl2 _ (IntKind.i64.wrap (IntKind.i64.wrap (n + 1) + (d.ss[i]'hT0.1).length), i + 1) ⟨by simp only; omega, by simp only; rw [← hfe, hfe']; simp⟩ (by simp only; omega) (Sub.of [0] ⟨rfl, rfl, by simp, by simp, by simp, by simp⟩)
  · simp [Ff] at hF0
    refine DWp.exit ?_
    simp
    refine hk1 _ ?_
    refine DWp.seqK fun k5 hk5 => ?_
    refine DWp.reg false fun k hk => ?_
    simp
    refine hk _ ?_
    refine DWp.block ?_
    refine DWp.loopK (fun s : Int × Nat => Know.of 49 [(1, .loc 0 0), (3, .d (.int .i64 s.1)), (5, .d (.int .i64 s.2))] [(25, [.d (encSs d.ss), .d (encPs d.ps), .d (.int .i64 d.left), .d (.bool d.st)])])
      (fun s => s.2 ≤ d.ps.length ∧ fewGo ((d.ps.map fun w => w.2.length).drop s.2) s.1 = fewGo (d.ps.map fun w => w.2.length) (fewGo (d.ss.map List.length) 0)) (fun s => d.ps.length - s.2) (n, 0) (Sub.of [0] ⟨rfl, rfl, by simp, by simp, by simp, by simp⟩) ⟨by simp, by simp; rw [← hfe, fewGo_end (by simp; omega)]⟩ ?_
    rintro ⟨n, i⟩ ⟨hi, hfe⟩ kl6 hkl6
    simp only at hi hfe ⊢
    refine DWp.seqK fun k7 hk7 => ?_
    refine DWp.reg false fun k hk => ?_
    simp
    refine hk _ ?_
    refine DWp.condB ?_
    simp
    refine ⟨fun hT1 => ?_, fun hF1 => ?_⟩
    · simp [Tt] at hT1
      refine DWp.skip ?_
      refine hk7 _ ?_
      refine DWp.seqK fun k8 hk8 => ?_
      refine DWp.block ?_
      refine DWp.regionV false ?_
      simp [hT1]
      refine hk8 _ ?_
      refine DWp.regionV false ?_
      simp
      rw [i64_in ((i : Int) + 1) (by omega)]
      have hfe' := fewGo_step (l := (d.ps.map fun w => w.2.length)) (i := i) (n := n) (by simp; omega) (by omega)
      refine hkl6 _ (IntKind.i64.wrap (IntKind.i64.wrap (n + 1) + ((d.ps[i]'hT1.1).2).length), i + 1) ⟨by simp only; omega, by simp only; rw [← hfe, hfe']; simp⟩ (by simp only; omega) (Sub.of [0] ⟨rfl, rfl, by simp, by simp, by simp, by simp⟩)
    · simp [Ff] at hF1
      refine DWp.exit ?_
      simp
      refine hk5 _ ?_
      refine DWp.reg false fun k hk => ?_
      simp
      refine hk _ ?_
      refine DWp.ret (hE _ ?_).2
      have hn : fewD d = decide (n ≤ 9000) := by unfold fewD; rw [← hfe, fewGo_end (by simp; omega)]
      simp [hn]
theorem take_eq_succ {α : Type} {l m : List α} {i : Nat} (h : l.take i = m.take i) (hl : i < l.length) (hm : i < m.length) (he : l[i] = m[i]) : l.take (i + 1) = m.take (i + 1) := by
  rw [List.take_succ_eq_append_getElem hl, List.take_succ_eq_append_getElem hm, h, he]
theorem dk_ext {a b : Dk} (h1 : a.ss = b.ss) (h2 : a.ps = b.ps) (h3 : a.left = b.left) (h4 : a.st = b.st) : a = b := by
  cases a; cases b; simp at h1 h2 h3 h4; subst h1; subst h2; subst h3; subst h4; rfl
deriving instance DecidableEq for Dk
theorem refSame_c (a b : Dk) (ha : a.fits) : FnWp Try.prog 14 [encD a, encD b] (· = .ret (.bool (decide (a = b)))) := by
  obtain ⟨ha1, ha2⟩ := ha
  refine FnWp.intro' Try.func14 rfl (by simp [Try.ntmps14]) fun E hE => ?_
  refine DWp.reg false fun k hk => ?_
  simp
  refine hk _ ?_
  refine DWp.seqK fun k1 hk1 => ?_
  refine DWp.reg false fun k hk => ?_
  simp
  refine hk _ ?_
  refine DWp.condB ?_
  simp
  refine ⟨fun hT0 => ?_, fun hF0 => ?_⟩
  · simp [Tt] at hT0
    refine DWp.reg false fun k hk => ?_
    simp
    refine hk _ ?_
    refine DWp.ret (hE _ ?_).2
    simp
    rintro rfl
    simp at hT0
  · simp [Ff] at hF0
    obtain ⟨⟨⟨e1, e2⟩, e3⟩, e4⟩ := hF0
    refine DWp.skip ?_
    refine hk1 _ ?_
    refine DWp.seqK fun k2 hk2 => ?_
    refine DWp.reg false fun k hk => ?_
    simp
    refine hk _ ?_
    refine DWp.block ?_
    refine DWp.loopK (fun i : Nat => Know.of 94 [(2, .loc 0 0), (3, .loc 1 0), (5, .d (.int .i64 i))] [(25, [.d (encSs a.ss), .d (encPs a.ps), .d (.int .i64 a.left), .d (.bool a.st)]), (25, [.d (encSs b.ss), .d (encPs b.ps), .d (.int .i64 b.left), .d (.bool b.st)])])
      (fun i => i ≤ a.ss.length ∧ a.ss.take i = b.ss.take i) (fun i => a.ss.length - i) 0 (Sub.of [0, 1] ⟨rfl, rfl, by simp, by simp, by simp, by simp⟩) (by simp) ?_
    rintro i ⟨hi, htk⟩ kl3 hkl3
    refine DWp.seqK fun k4 hk4 => ?_
    refine DWp.reg false fun k hk => ?_
    simp
    refine hk _ ?_
    refine DWp.condB ?_
    simp
    refine ⟨fun hT1 => ?_, fun hF1 => ?_⟩
    · simp [Tt] at hT1
      refine DWp.skip ?_
      refine hk4 _ ?_
      refine DWp.seqK fun k5 hk5 => ?_
      refine DWp.block ?_
      have hb1 : i < b.ss.length := by omega
      refine DWp.drawPR false (.take 0 (.take 1 (.take 2 (.take 3 (.take 4 (.take 5 (.take 6 (.take 7 (.take 8 (.take 9 (.take 10 (.take 11 (.take 12 .done))))))))))))) mixed (by kernel_rfl) fun k hk => ?_
      simp [hT1, hb1, isBytes_map, bytesOf_map]
      refine hk _ ?_
      refine DWp.condB ?_
      simp
      refine ⟨fun hT2 => ?_, fun hF2 => ?_⟩
      · simp [Tt] at hT2
        refine DWp.reg false fun k hk => ?_
        simp
        refine hk _ ?_
        refine DWp.ret (hE _ ?_).2
        simp
        rintro rfl
        simp at hT2
      · simp [Ff] at hF2
        refine DWp.skip ?_
        refine hk5 _ ?_
        refine DWp.regionV false ?_
        simp
        rw [i64_in _ (by omega)]
        refine hkl3 _ (i + 1) ⟨by omega, ?_⟩ (by omega) (Sub.of [0, 1] ⟨rfl, rfl, by simp, by simp, by simp, by simp⟩)
        exact take_eq_succ htk (by omega) (by omega) (by simpa using hF2)
    · simp [Ff] at hF1
      have htk1 := htk
      rw [List.take_of_length_le (by omega), List.take_of_length_le (by omega)] at htk1
      refine DWp.exit ?_
      simp
      refine hk2 _ ?_
      refine DWp.seqK fun k6 hk6 => ?_
      refine DWp.reg false fun k hk => ?_
      simp
      refine hk _ ?_
      refine DWp.block ?_
      refine DWp.loopK (fun i : Nat => Know.of 94 [(2, .loc 0 0), (3, .loc 1 0), (6, .d (.int .i64 i))] [(25, [.d (encSs a.ss), .d (encPs a.ps), .d (.int .i64 a.left), .d (.bool a.st)]), (25, [.d (encSs b.ss), .d (encPs b.ps), .d (.int .i64 b.left), .d (.bool b.st)])])
        (fun i => i ≤ a.ps.length ∧ a.ps.take i = b.ps.take i) (fun i => a.ps.length - i) 0 (Sub.of [0, 1] ⟨rfl, rfl, by simp, by simp, by simp, by simp⟩) (by simp) ?_
      rintro i ⟨hi, htk⟩ kl7 hkl7
      refine DWp.seqK fun k8 hk8 => ?_
      refine DWp.reg false fun k hk => ?_
      simp
      refine hk _ ?_
      refine DWp.condB ?_
      simp
      refine ⟨fun hT3 => ?_, fun hF3 => ?_⟩
      · simp [Tt] at hT3
        refine DWp.skip ?_
        refine hk8 _ ?_
        refine DWp.seqK fun k9 hk9 => ?_
        refine DWp.block ?_
        have hb2 : i < b.ps.length := by omega
        refine DWp.drawPR false (.take 0 (.take 1 (.take 2 (.take 3 (.take 4 (.take 5 (.take 6 (.take 7 (.take 8 (.take 9 (.take 10 (.take 11 (.take 12 (.take 13 (.take 14 (.take 15 (.take 16 (.take 17 (.take 18 (.take 19 (.take 20 (.take 21 (.take 22 (.take 23 (.take 24 (.take 25 (.take 26 (.take 27 (.take 28 (.take 29 .done)))))))))))))))))))))))))))))) mixed (by kernel_rfl) fun k hk => ?_
        simp [hT3, hb2, isBytes_map, bytesOf_map]
        refine hk _ ?_
        refine DWp.condB ?_
        simp
        refine ⟨fun hT4 => ?_, fun hF4 => ?_⟩
        · simp [Tt] at hT4
          refine DWp.reg false fun k hk => ?_
          simp
          refine hk _ ?_
          refine DWp.ret (hE _ ?_).2
          simp
          rintro rfl
          simp at hT4
        · simp [Ff] at hF4
          refine DWp.skip ?_
          refine hk9 _ ?_
          refine DWp.regionV false ?_
          simp
          rw [i64_in _ (by omega)]
          refine hkl7 _ (i + 1) ⟨by omega, ?_⟩ (by omega) (Sub.of [0, 1] ⟨rfl, rfl, by simp, by simp, by simp, by simp⟩)
          exact take_eq_succ htk (by omega) (by omega) (by exact Prod.ext hF4.1 hF4.2)
      · simp [Ff] at hF3
        refine DWp.exit ?_
        simp
        refine hk6 _ ?_
        refine DWp.reg false fun k hk => ?_
        simp
        refine hk _ ?_
        refine DWp.ret (hE _ ?_).2
        simp
        rw [List.take_of_length_le (by omega), List.take_of_length_le (by omega)] at htk
        exact dk_ext htk1 htk e3 e4
@[simp] theorem sumWf (ps : List (Int × List UInt8)) : (List.map (List.length ∘ List.map SV.d ∘ rowW) ps).sum = ps.length * 2 := by
  have := lenWf ps
  simpa [List.length_flatten, Function.comp_def] using this
theorem allD_pad (b : List UInt8) (n : Nat) : allD (b.map (fun c => SV.d (cB c)) ++ List.replicate n (SV.d (cB 0))) = some ((b ++ List.replicate n 0).map cB) := by
  rw [← allD_map cB (b ++ List.replicate n 0)]; simp
theorem refWrite_c (d : Dk) (hd : d.fits) (at' : Int) (b : List UInt8) : FnWp Try.prog 20 [encD d, .int .i64 at', encB b] (· = .ret (.tup [encD (writeD d at' b).1, .int .i64 (writeD d at' b).2])) := by
  refine FnWp.intro' Try.func20 rfl (by simp [Try.ntmps20]) fun E hE => ?_
  refine DWp.reg false fun k hk => ?_
  simp
  refine hk _ ?_
  refine DWp.seqK fun k1 hk1 => ?_
  refine DWp.reg false fun k hk => ?_
  simp
  refine CallAt.det false ent16 rfl (refCheck_c d hd) ?_
  simp
  refine hk _ ?_
  refine DWp.condB ?_
  simp
  refine ⟨fun hT0 => ?_, fun hF0 => ?_⟩
  · simp [Tt] at hT0
    have hok : (okD d && !d.st && decide (0 ≤ at' ∧ at' < d.ss.length)) = false := by
      cases h1 : okD d <;> cases h2 : d.st <;> simp_all <;> omega
    refine DWp.reg false fun k hk => ?_
    simp
    refine hk _ ?_
    refine DWp.ret (hE _ ?_).2
    rw [show writeD d at' b = (zeroD, 440) by simp only [writeD, hok]; rfl]
    simp [zeroD]
  · simp [Ff] at hF0
    have hok : (okD d && !d.st && decide (0 ≤ at' ∧ at' < d.ss.length)) = true := by
      cases h1 : okD d <;> cases h2 : d.st <;> simp_all
    have hokd : okD d = true := by cases h1 : okD d <;> simp_all
    refine DWp.skip ?_
    refine hk1 _ ?_
    refine DWp.seqK fun k2 hk2 => ?_
    refine DWp.reg false fun k hk => ?_
    simp
    refine hk _ ?_
    refine DWp.condB ?_
    simp
    refine ⟨fun hT1 => ?_, fun hF1 => ?_⟩
    · simp [Tt] at hT1
      refine DWp.reg false fun k hk => ?_
      simp
      refine hk _ ?_
      refine DWp.ret (hE _ ?_).2
      rw [show writeD d at' b = (zeroD, 1) by simp only [writeD, hok]; rw [if_pos trivial, if_pos (by omega)]]
      simp [zeroD]
    · simp [Ff] at hF1
      refine DWp.skip ?_
      refine hk2 _ ?_
      refine DWp.seqK fun k3 hk3 => ?_
      refine DWp.reg false fun k hk => ?_
      simp
      refine hk _ ?_
      refine DWp.condB ?_
      simp
      refine ⟨fun hT2 => ?_, fun hF2 => ?_⟩
      · simp [Tt] at hT2
        refine DWp.reg false fun k hk => ?_
        simp
        refine hk _ ?_
        refine DWp.ret (hE _ ?_).2
        rw [show writeD d at' b = (zeroD, 2) by simp only [writeD, hok]; rw [if_pos trivial, if_neg (by omega), if_pos (by omega)]]
        simp [zeroD]
      · simp [Ff] at hF2
        refine DWp.skip ?_
        refine hk3 _ ?_
        have hp := (okD_ps hokd).1
        refine DWp.reg false fun k hk => ?_
        simp
        refine ⟨⟨wideB b, by omega⟩, ?_⟩
        refine hk _ ?_
        refine DWp.seqK fun k4 hk4 => ?_
        refine DWp.block ?_
        refine DWp.loopK (fun j : Nat => Know.of 57 [(1, .d (.int .i64 at')), (2, .d (encB b)), (3, .loc 0 0), (6, .loc 1 0), (8, .own 2 1 0 (b.length + j) none)] [(25, [.d (encSs d.ss), .d (encPs d.ps), .d (.int .i64 d.left), .d (.bool d.st)]), (25, [.clip [], .clip [], .d (.int .i64 0), .d (.bool false)]), (35, (b ++ List.replicate j 0).map fun c => .d (cB c))])
          (fun j => b.length + j ≤ 128) (fun j => 128 - (b.length + j)) 0 (Sub.of [0, 1, 3] ⟨rfl, rfl, by simp, by simp, by simp, by simp⟩) (by omega) ?_
        rintro j hj kl5 hkl5
        refine DWp.seqK fun k6 hk6 => ?_
        refine DWp.reg false fun k hk => ?_
        simp
        refine hk _ ?_
        refine DWp.condB ?_
        simp
        refine ⟨fun hT3 => ?_, fun hF3 => ?_⟩
        · simp [Tt] at hT3
          refine DWp.skip ?_
          refine hk6 _ ?_
          refine DWp.block ?_
          refine DWp.regionV false ?_
          simp
          refine ⟨by omega, ?_⟩
          refine hkl5 _ (j + 1) (by omega) (by omega) (Sub.of [0, 1, 4] ⟨rfl, rfl, by simp, by simp, by simp; omega, by simp [List.replicate_succ', cB]⟩)
        · simp [Ff] at hF3
          refine DWp.exit ?_
          simp
          refine hk4 _ ?_
          obtain rfl : j = 128 - b.length := by omega
          refine DWp.sub (Sub.freeze 2 rfl (allD_pad b _)) ?_
          refine DWp.sub (Sub.of (n := 57) (sl := [(1, .d (.int .i64 at')), (2, .d (encB b)), (3, .loc 0 0), (6, .loc 1 0), (8, .d (encB (padB b)))]) (ml := [(25, [.d (encSs d.ss), .d (encPs d.ps), .d (.int .i64 d.left), .d (.bool d.st)]), (25, [.clip [], .clip [], .d (.int .i64 0), .d (.bool false)])]) [0, 1] ⟨rfl, rfl, by simp, by simp, by simp [padB, rowB_eq]; rw [List.take_of_length_le (by simp)]; rfl, by simp⟩) ?_
          refine DWp.reg false fun k hk => ?_
          simp
          refine ⟨⟨wideW _, by omega, by omega⟩, ⟨by omega, by omega⟩, ?_⟩
          refine hk _ ?_
          obtain ⟨ps', hp'⟩ : ∃ p, d.ps ++ [(at', padB b)] = p := ⟨_, rfl⟩
          refine DWp.sub (Sub.of (n := 57) (sl := [(3, .loc 0 0), (6, .loc 1 0)]) (ml := [(25, [.d (encSs d.ss), .own 2 2 0 ps'.length none, .d (.int .i64 d.left), .d (.bool d.st)]), (25, [.clip [], .clip [], .d (.int .i64 0), .d (.bool false)]), (23, (ps'.map (List.map SV.d ∘ rowW)).flatten)]) [0, 1, 5] ⟨rfl, rfl, by simp, by simp, by simp, ?_⟩) ?_
          · simp [← hp', renL_append, renL_Wf]
          refine DWp.reg false fun k hk => ?_
          simp
          refine hk _ ?_
          refine DWp.ret (hE _ ?_).2
          rw [show writeD d at' b = (⟨d.ss, ps', d.left, d.st⟩, 0) by simp only [writeD, hok, hp']; rw [if_pos trivial, if_neg (by omega), if_neg (by omega)]]
          simp [List.mapM_cons]
end Go.Bf
