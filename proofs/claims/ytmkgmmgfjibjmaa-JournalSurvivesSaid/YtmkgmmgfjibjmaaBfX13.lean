import Derived.Test.YtmkgmmgfjibjmaaBfX12
import Derived.Test.YtmkgmmgfjibjmaaFwC
set_option maxRecDepth 100000
set_option maxHeartbeats 4000000
namespace Go.Bf
open Go Go.RowKit Go.Proofs Go.IntWalk
attribute [local simp] encB rowL rowW encSs encPs encD maxLen
/-- What Few adds up. -/
def fewGo : List Nat → Int → Int
  | [], n => n
  | l :: ls, n => if n ≤ 9000 then fewGo ls (IntKind.i64.wrap (IntKind.i64.wrap (n + 1) + l)) else n
def fewD (d : Dk) : Bool := decide (fewGo (d.ps.map fun w => w.2.length) (fewGo (d.ss.map List.length) 0) ≤ 9000)
theorem fewGo_step {l : List Nat} {i : Nat} {n : Int} (h : i < l.length) (hn : n ≤ 9000) : fewGo (l.drop i) n = fewGo (l.drop (i + 1)) (IntKind.i64.wrap (IntKind.i64.wrap (n + 1) + (l[i] : Nat))) := by
  rw [List.drop_eq_getElem_cons h]
  simp only [fewGo, if_pos hn]
theorem fewGo_end {l : List Nat} {i : Nat} {n : Int} (h : i < l.length → 9000 < n) : fewGo (l.drop i) n = n := by
  by_cases hi : i < l.length
  · rw [List.drop_eq_getElem_cons hi]
    simp only [fewGo]
    rw [if_neg (by have := h hi; omega)]
  · rw [List.drop_eq_nil_of_le (by omega)]; rfl
theorem take_eq_succ {α : Type} {l m : List α} {i : Nat} (h : l.take i = m.take i) (hl : i < l.length) (hm : i < m.length) (he : l[i] = m[i]) : l.take (i + 1) = m.take (i + 1) := by
  rw [List.take_succ_eq_append_getElem hl, List.take_succ_eq_append_getElem hm, h, he]
theorem dk_ext {a b : Dk} (h1 : a.ss = b.ss) (h2 : a.ps = b.ps) (h3 : a.left = b.left) (h4 : a.st = b.st) : a = b := by
  cases a; cases b; simp at h1 h2 h3 h4; subst h1; subst h2; subst h3; subst h4; rfl
deriving instance DecidableEq for Dk
theorem refSame_c (a b : Dk) (ha : a.fits) : FnWp Try.prog 26 [encD a, encD b] (· = .ret (.bool (decide (a = b)))) := by
  obtain ⟨ha1, ha2⟩ := ha
  refine FnWp.intro' Try.func26 rfl (by simp [Try.ntmps26]) fun E hE => ?_
  refine DWp.reg false fun kk hk => ?_
  simp
  refine hk _ ?_
  refine DWp.seqK fun k1 hk1 => ?_
  refine DWp.reg false fun kk hk => ?_
  simp
  refine hk _ ?_
  refine DWp.condB ?_
  simp
  refine ⟨fun hT0 => ?_, fun hF0 => ?_⟩
  · simp [Tt] at hT0
    refine DWp.reg false fun kk hk => ?_
    simp
    refine hk _ ?_
    refine DWp.ret (hE _ ?_).2
    simp
    rintro rfl
    simp at hT0
  · simp [Ff] at hF0
    obtain ⟨⟨⟨e1, e2⟩, e3⟩, e4⟩ := hF0
    refine DWp.skip ?_
    refine hk1 _ ?_
    refine DWp.seqK fun k2 hk2 => ?_
    refine DWp.reg false fun kk hk => ?_
    simp
    refine hk _ ?_
    refine DWp.block ?_
    refine DWp.loopK (fun i : Nat => Know.of 94 [(2, .loc 0 0), (3, .loc 1 0), (5, .d (.int .i64 i))] [(25, [.d (encSs a.ss), .d (encPs a.ps), .d (.int .i64 a.left), .d (.bool a.st)]), (25, [.d (encSs b.ss), .d (encPs b.ps), .d (.int .i64 b.left), .d (.bool b.st)])])
      (fun i => i ≤ a.ss.length ∧ a.ss.take i = b.ss.take i) (fun i => a.ss.length - i) 0 (Sub.of [0, 1] ⟨rfl, rfl, by simp, by simp, by simp, by simp⟩) (by simp) ?_
    rintro i ⟨hi, htk⟩ kl3 hkl3
    refine DWp.seqK fun k4 hk4 => ?_
    refine DWp.reg false fun kk hk => ?_
    simp
    refine hk _ ?_
    refine DWp.condB ?_
    simp
    refine ⟨fun hT1 => ?_, fun hF1 => ?_⟩
    · simp [Tt] at hT1
      refine DWp.skip ?_
      refine hk4 _ ?_
      refine DWp.seqK fun k5 hk5 => ?_
      refine DWp.block ?_
      have hb1 : i < b.ss.length := by omega
      refine DWp.drawPR false [] (.take 0 (.take 1 (.take 2 (.take 3 (.take 4 (.take 5 (.take 6 (.take 7 (.take 8 (.take 9 (.take 10 (.take 11 (.take 12 .done))))))))))))) mixed (by kernel_rfl) fun kk hk => ?_
      simp [hT1, hb1, isBytes_map, bytesOf_map]
      refine hk _ ?_
      refine DWp.condB ?_
      simp
      refine ⟨fun hT2 => ?_, fun hF2 => ?_⟩
      · simp [Tt] at hT2
        refine DWp.reg false fun kk hk => ?_
        simp
        refine hk _ ?_
        refine DWp.ret (hE _ ?_).2
        simp
        rintro rfl
        simp at hT2
      · simp [Ff] at hF2
        refine DWp.skip ?_
        refine hk5 _ ?_
        refine DWp.regionV false ?_
        simp
        rw [i64_in _ (by omega)]
        refine hkl3 _ (i + 1) ⟨by omega, ?_⟩ (by omega) (Sub.of [0, 1] ⟨rfl, rfl, by simp, by simp, by simp, by simp⟩)
        exact take_eq_succ htk (by omega) (by omega) (by simpa using hF2)
    · simp [Ff] at hF1
      have htk1 := htk
      rw [List.take_of_length_le (by omega), List.take_of_length_le (by omega)] at htk1
      refine DWp.exit ?_
      simp
      refine hk2 _ ?_
      refine DWp.seqK fun k6 hk6 => ?_
      refine DWp.reg false fun kk hk => ?_
      simp
      refine hk _ ?_
      refine DWp.block ?_
      refine DWp.loopK (fun i : Nat => Know.of 94 [(2, .loc 0 0), (3, .loc 1 0), (6, .d (.int .i64 i))] [(25, [.d (encSs a.ss), .d (encPs a.ps), .d (.int .i64 a.left), .d (.bool a.st)]), (25, [.d (encSs b.ss), .d (encPs b.ps), .d (.int .i64 b.left), .d (.bool b.st)])])
        (fun i => i ≤ a.ps.length ∧ a.ps.take i = b.ps.take i) (fun i => a.ps.length - i) 0 (Sub.of [0, 1] ⟨rfl, rfl, by simp, by simp, by simp, by simp⟩) (by simp) ?_
      rintro i ⟨hi, htk⟩ kl7 hkl7
      refine DWp.seqK fun k8 hk8 => ?_
      refine DWp.reg false fun kk hk => ?_
      simp
      refine hk _ ?_
      refine DWp.condB ?_
      simp
      refine ⟨fun hT3 => ?_, fun hF3 => ?_⟩
      · simp [Tt] at hT3
        refine DWp.skip ?_
        refine hk8 _ ?_
        refine DWp.seqK fun k9 hk9 => ?_
        refine DWp.block ?_
        have hb2 : i < b.ps.length := by omega
        refine DWp.drawPR false [] (.take 0 (.take 1 (.take 2 (.take 3 (.take 4 (.take 5 (.take 6 (.take 7 (.take 8 (.take 9 (.take 10 (.take 11 (.take 12 (.take 13 (.take 14 (.take 15 (.take 16 (.take 17 (.take 18 (.take 19 (.take 20 (.take 21 (.take 22 (.take 23 (.take 24 (.take 25 (.take 26 (.take 27 (.take 28 (.take 29 .done)))))))))))))))))))))))))))))) mixed (by kernel_rfl) fun kk hk => ?_
        simp [hT3, hb2, isBytes_map, bytesOf_map]
        refine hk _ ?_
        refine DWp.condB ?_
        simp
        refine ⟨fun hT4 => ?_, fun hF4 => ?_⟩
        · simp [Tt] at hT4
          refine DWp.reg false fun kk hk => ?_
          simp
          refine hk _ ?_
          refine DWp.ret (hE _ ?_).2
          simp
          rintro rfl
          simp at hT4
        · simp [Ff] at hF4
          refine DWp.skip ?_
          refine hk9 _ ?_
          refine DWp.regionV false ?_
          simp
          rw [i64_in _ (by omega)]
          refine hkl7 _ (i + 1) ⟨by omega, ?_⟩ (by omega) (Sub.of [0, 1] ⟨rfl, rfl, by simp, by simp, by simp, by simp⟩)
          exact take_eq_succ htk (by omega) (by omega) (by exact Prod.ext hF4.1 hF4.2)
      · simp [Ff] at hF3
        refine DWp.exit ?_
        simp
        refine hk6 _ ?_
        refine DWp.reg false fun kk hk => ?_
        simp
        refine hk _ ?_
        refine DWp.ret (hE _ ?_).2
        simp
        rw [List.take_of_length_le (by omega), List.take_of_length_le (by omega)] at htk
        exact dk_ext htk1 htk e3 e4
@[simp] theorem sumWf (ps : List (Int × List UInt8)) : (List.map (List.length ∘ List.map SV.d ∘ rowW) ps).sum = ps.length * 2 := by
  have := lenWf ps
  simpa [List.length_flatten, Function.comp_def] using this
theorem allD_pad (b : List UInt8) (n : Nat) : allD (b.map (fun c => SV.d (cB c)) ++ List.replicate n (SV.d (cB 0))) = some ((b ++ List.replicate n 0).map cB) := by
  rw [← allD_map cB (b ++ List.replicate n 0)]; simp
end Go.Bf
