/-
  The journal's reference: records. Printed by program (j18.py). Nothing is claimed here.
-/
import Derived.Test.YtmkgmmgfjibjmaaBfJ12
import Derived.Test.YtmkgmmgfjibjmaaBfJ17
set_option maxRecDepth 100000
set_option maxHeartbeats 8000000
namespace Go.Bf
open Go Go.RowKit Go.Proofs Go.IntWalk
attribute [local simp] encB rowL rowW encSs encPs encD maxLen isBytes_map bytesOf_map encJ
def recO (l : List (List UInt8)) (p : Nat) : List UInt8 × Nat := match oneD l p 0 (l.length - p) p [] with
  | none => ([], 0)
  | some (b, m) => (b, m - p)
theorem recO_none {l : List (List UInt8)} {p : Nat} (h : oneD l p 0 (l.length - p) p [] = none) : recO l p = ([], 0) := by simp only [recO, h]
theorem recO_some {l : List (List UInt8)} {p : Nat} {b : List UInt8} {m : Nat} (h : oneD l p 0 (l.length - p) p [] = some (b, m)) : recO l p = (b, m - p) := by simp only [recO, h]
theorem fitsR_bool (l : List (List UInt8)) (p m j : Nat) (hm : p + j = m) (s t : List UInt8) (ht : l.getD p [] = t) (h0 : j = 0 → s = t) : (!goodD s m || !decide (((kindD s).toNat : Int).tmod 2 = 1) == decide (j = 0) || decide (0 < j) && !decide ((genD s : Int) = (genD t : Int))) = !fitsD l p 0 m s := by
  have e : ((kindD s).toNat : Int).tmod 2 = 1 ↔ (kindD s).toNat % 2 = 1 := tmod2 _
  rw [Bool.eq_iff_iff, Bool.not_eq_true', ← Bool.not_eq_true, fits_iff, ht]
  by_cases hg : goodD s m = true
  · by_cases hj : j = 0
    · have := h0 hj
      subst hj
      simp only [Nat.add_zero] at hm
      subst hm
      rw [← this] at ht ⊢
      simp [hg, e]
    · have : m ≠ p := by omega
      simp [hg, hj, this, e, show 0 < j by omega]
      first | done | omega
  · simp [hg]
theorem goodF {s : List UInt8} {k : Nat} (h : goodD s k = true) : formD s = true := by
  simp only [goodD, Bool.and_eq_true] at h; exact h.1.1
theorem kind_le {s : List UInt8} {k : Nat} (h : goodD s k = true) : (kindD s).toNat ≤ 3 := ((form_iff _).1 (goodF h)).2.1
theorem ent56 : Enters Try.prog 56 := enters_of Try.func56 rfl rfl
theorem ent32 : Enters Try.prog 32 := enters_of Try.func32 rfl rfl
theorem refRecord_c (l : List (List UInt8)) (hl : ∀ s ∈ l, s.length = 128) (hlen : l.length ≤ 4096) (p : Nat) (hp : p ≤ l.length) : FnWp Try.prog 56 [encSs l, .int .i64 p] (· = .ret (.tup [encB (recO l p).1, .int .i64 (recO l p).2])) := by
  refine FnWp.intro' Try.func56 rfl (by simp [Try.ntmps56]) fun E hE => ?_
  refine DWp.reg false fun kk hk => ?_
  simp
  refine hk _ ?_
  refine DWp.reg false fun kk hk => ?_
  simp
  refine hk _ ?_
  refine DWp.seqK fun k1 hk1 => ?_
  refine DWp.reg false fun kk hk => ?_
  simp
  refine hk _ ?_
  refine DWp.block ?_
  refine DWp.loopK (fun q : Nat × List UInt8 × Option Nat => Know.of 72 [(0, .d (encSs l)), (1, .d (.int .i64 p)), (6, .own 0 1 0 q.2.1.length q.2.2), (7, .d (.int .i64 q.1))] [(35, q.2.1.map (SV.d ∘ cB))])
    (fun q => q.2.1.length ≤ 112 * q.1 ∧ p + q.1 ≤ l.length ∧ oneD l p 0 (l.length - (p + q.1)) (p + q.1) q.2.1 = oneD l p 0 (l.length - p) p []) (fun q => l.length - (p + q.1)) (0, [], some 0) (Sub.of [0] ⟨rfl, rfl, by simp, by simp, by simp, by simp⟩) ⟨by simp, hp, rfl⟩ ?_
  rintro ⟨j, b, cp⟩ ⟨hbl, hj, hone⟩ kl2 hkl2
  simp only at hbl hj hone ⊢
  obtain ⟨m, hm⟩ : ∃ m, p + j = m := ⟨_, rfl⟩
  rw [hm] at hj hone
  have i0 : IntKind.i64.wrap ((p : Int) + (j : Int)) = (m : Int) := by rw [i64_in _ (by omega)]; omega
  refine DWp.seqK fun k3 hk3 => ?_
  refine DWp.reg false fun kk hk => ?_
  simp [i0]
  refine hk _ ?_
  refine DWp.condB ?_
  simp
  refine ⟨fun hT0 => ?_, fun hF0 => ?_⟩
  · simp [Tt] at hT0
    have hlt : m < l.length := by omega
    have hpl : p < l.length := by omega
    have hs : l[m].length = 128 := hl _ (List.getElem_mem hlt)
    have hsp : l[p].length = 128 := hl _ (List.getElem_mem hpl)
    have hs10 : 10 < l[m].length := by omega
    have hs11 : 11 < l[m].length := by omega
    have e10 : l[m][10] = kindD l[m] := s10_eq _ hs10
    have e11 : l[m][11].toNat = lenD l[m] := s11_eq _ hs11
    have hgp0 : l.getD p [] = l[p] := by simp [hpl]
    have hgm0 : l.getD m [] = l[m] := by simp [hlt]
    refine DWp.skip ?_
    refine hk3 _ ?_
    refine DWp.seqK fun k4 hk4 => ?_
    refine DWp.block ?_
    refine DWp.reg false fun kk hk => ?_
    simp [i0, hlt, rowL]
    refine hk _ ?_
    refine DWp.seqK fun k5 hk5 => ?_
    refine DWp.drawPR false [] (.take 0 (.take 1 (.take 2 (.take 3 (.take 4 (.take 5 (.take 6 (.take 7 (.take 8 (.take 9 (.take 10 (.take 11 (.take 12 (.take 13 (.take 14 (.take 15 (.take 16 (.take 17 (.take 18 (.take 19 (.take 20 (.take 21 (.take 22 (.take 23 (.take 24 (.take 25 (.take 26 (.take 27 (.take 28 (.take 29 (.take 30 (.take 31 .done)))))))))))))))))))))))))))))))) mixed (by kernel_rfl) fun kk hk => ?_
    simp [i0, hlt, hpl, rowL, hs10, rowB, cB, e10]
    have hA : FnWp Try.prog 57 [DV.list (List.take 4 (List.map rowB l[m]))] (· = .ret (.int .u64 (genD l[m]))) := by rw [← List.map_take]; exact refNumber_c (l[m].take 4) (by simp; omega)
    have hB : FnWp Try.prog 57 [DV.list (List.take 4 (List.map rowB l[p]))] (· = .ret (.int .u64 (genD l[p]))) := by rw [← List.map_take]; exact refNumber_c (l[p].take 4) (by simp; omega)
    refine DetCall.intro (d := .bool (goodD l[m] m)) ent64 rfl (fun _ => refGood_c l[m] hs m (by omega)) ?_
    simp [i0, hlt, hpl, rowL, hs10, rowB, cB, e10]
    refine ⟨by intros; omega, by intros; omega, ?_⟩
    refine DetCall.intro (d := .int .u64 (genD l[m])) ent57 rfl (fun _ => hA) ?_
    simp [i0, hlt, hpl, rowL, hs10, rowB, cB, e10]
    refine ⟨by intros; omega, ?_⟩
    refine DetCall.intro (d := .int .u64 (genD l[p])) ent57 rfl (fun _ => hB) ?_
    simp [i0, hlt, hpl, rowL, hs10, rowB, cB, e10]
    refine hk _ ?_
    refine DWp.sub (Sub.slots [(0, .d (encSs l)), (1, .d (.int .i64 p)), (6, .own 0 1 0 b.length cp), (7, .d (.int .i64 j)), (8, .d (encB l[m])), (55, .d (.bool (!fitsD l p 0 m l[m])))] ?_) ?_
    · simp
      exact fitsR_bool l p m j hm l[m] l[p] hgp0 (fun e => by subst e; simp at hm; subst hm; rfl)
    refine DWp.condB ?_
    simp
    refine ⟨fun hT1 => ?_, fun hF1 => ?_⟩
    · simp [Tt] at hT1
      refine DWp.reg false fun kk hk => ?_
      simp
      refine hk _ ?_
      refine DWp.ret (hE _ ?_).2
      rw [recO_none (by rw [← hone]; exact oneD_no hlt hT1)]
      simp
    · simp [Ff] at hF1
      have hle : lenD l[m] ≤ 112 := form_le (fits_form hF1)
      have hk3' : (kindD l[m]).toNat ≤ 3 := kind_le (fits_good hF1)
      have w11 : IntKind.i64.wrap (lenD l[m] : Int) = lenD l[m] := i64_in _ (by omega)
      have w12 : IntKind.i64.wrap (12 + (lenD l[m] : Int)) = ((12 + lenD l[m] : Nat) : Int) := by rw [i64_in _ (by omega)]; omega
      have w13 : ((12 : Int) + (lenD l[m] : Int)).toNat = 12 + lenD l[m] := by omega
      have hpart : List.drop 12 (List.take (12 + lenD l[m]) (l[m].map rowB)) = (partD l[m]).map rowB := by rw [List.drop_take, Nat.add_sub_cancel_left, partD, List.map_take, List.map_drop]
      have hpl2 : (partD l[m]).length ≤ 112 := by simp only [partD, List.length_take]; omega
      obtain ⟨c, hc⟩ : ∃ c, b ++ partD l[m] = c := ⟨_, rfl⟩
      refine DWp.skip ?_
      refine hk5 _ ?_
      refine DWp.reg false fun kk hk => ?_
      simp [rowB, cB, e11, w11, w12, w13, hpart, hs11]
      refine ⟨by omega, ⟨by omega, by omega⟩, ⟨by omega, by omega⟩, ?_⟩
      refine hk _ ?_
      refine DWp.sub (Sub.of (n := 72) (sl := [(0, .d (encSs l)), (1, .d (.int .i64 p)), (6, .own 0 1 0 c.length none), (7, .d (.int .i64 j)), (8, .d (encB l[m]))]) (ml := [(35, c.map (SV.d ∘ cB))]) [1] ⟨rfl, rfl, by simp, by simp, by simp [← hc], by simp [← hc]; intro a _; rfl⟩) ?_
      have i1 : IntKind.i64.wrap ((j : Int) + 1) = ((m + 1 - p : Nat) : Int) := by rw [i64_in _ (by omega)]; omega
      refine DWp.reg false fun kk hk => ?_
      simp [rowB, cB, e10, hs10]
      refine ⟨by omega, ?_⟩
      refine hk _ ?_
      refine DWp.condB ?_
      simp
      refine ⟨fun hT2 => ?_, fun hF2 => ?_⟩
      · simp [Tt] at hT2
        have hk2' : ¬ kindD l[m] &&& 2 = 0 := fun h => by have := (kind2 _ hk3').1 h; omega
        refine DWp.reg false fun kk hk => ?_
        simp [i1]
        refine hk _ ?_
        refine DWp.ret (hE _ ?_).2
        rw [recO_some (b := c) (m := m + 1) (by rw [← hone, oneD_end hlt hF1 hk2', hc])]
        simp
        intro a _
        rfl
      · simp [Ff] at hF2
        have hk2' : kindD l[m] &&& 2 = 0 := (kind2 _ hk3').2 (by omega)
        refine DWp.skip ?_
        refine hk4 _ ?_
        refine DWp.regionV false ?_
        simp
        have i1 : IntKind.i64.wrap ((j : Int) + 1) = ((j + 1 : Nat) : Int) := by rw [i64_in _ (by omega)]; omega
        refine hkl2 _ (j + 1, c, none) ⟨by simp only; rw [← hc, List.length_append]; omega, by simp only; omega, ?_⟩ (by simp only; omega) (Sub.of [0] ⟨rfl, rfl, by simp, by simp, by simp [i1], by simp⟩)
        simp only
        rw [← hone, ← hc, show p + (j + 1) = m + 1 by omega]
        exact (oneD_go hlt hF1 hk2').symm
  · simp [Ff] at hF0
    obtain rfl : m = l.length := by omega
    refine DWp.exit ?_
    simp
    refine hk1 _ ?_
    refine DWp.reg false fun kk hk => ?_
    simp
    refine hk _ ?_
    refine DWp.ret (hE _ ?_).2
    rw [recO_none (by rw [← hone, Nat.sub_self]; rfl)]
    simp
theorem recO_cases (l : List (List UInt8)) (p : Nat) (hp : p ≤ l.length) : (oneD l p 0 (l.length - p) p [] = none ∧ recO l p = ([], 0) ∧ l[p]? = none) ∨ (oneD l p 0 (l.length - p) p [] = none ∧ recO l p = ([], 0) ∧ p < l.length) ∨ ∃ b m, oneD l p 0 (l.length - p) p [] = some (b, m) ∧ recO l p = (b, m - p) ∧ p < m ∧ m ≤ l.length := by
  cases h : oneD l p 0 (l.length - p) p [] with
  | none =>
    by_cases hl : p < l.length
    · exact .inr (.inl ⟨rfl, recO_none h, hl⟩)
    · exact .inl ⟨rfl, recO_none h, List.getElem?_eq_none (by omega)⟩
  | some r => obtain ⟨b, m⟩ := r; exact .inr (.inr ⟨b, m, rfl, recO_some h, oneD_le h⟩)
theorem refRecords_c (l : List (List UInt8)) (hl : ∀ s ∈ l, s.length = 128) (hlen : l.length ≤ 4096) : FnWp Try.prog 32 [encSs l] (· = .ret (encSs (recsL l))) := by
  refine FnWp.intro' Try.func32 rfl (by simp [Try.ntmps32]) fun E hE => ?_
  refine DWp.reg false fun kk hk => ?_
  simp
  refine hk _ ?_
  refine DWp.reg false fun kk hk => ?_
  simp
  refine hk _ ?_
  refine DWp.reg false fun kk hk => ?_
  simp
  refine hk _ ?_
  refine DWp.reg false fun kk hk => ?_
  simp
  refine hk _ ?_
  refine DWp.block ?_
  refine DWp.loopK (fun q : Nat × Nat × Nat × List (List UInt8) × Option Nat => Know.of 41 [(0, .d (encSs l)), (3, .own 0 1 0 q.2.2.2.1.length q.2.2.2.2), (4, .d (.int .i64 q.1)), (5, .d (.int .u64 q.2.1))] [(22, cellsL q.2.2.2.1)])
    (fun q => q.1 ≤ l.length ∧ l.length < q.1 + q.2.2.1 ∧ q.2.2.2.1 ++ (recsF l q.2.2.1 q.1 q.2.1).map (·.2) = recsL l ∧ q.2.2.2.1.length ≤ q.1) (fun q => l.length - q.1) (0, 0, l.length + 1, [], some 0) (Sub.of [0] ⟨rfl, rfl, by simp, by simp, by simp, by simp [cellsL]⟩) ⟨by simp, by simp, rfl, by simp⟩ ?_
  rintro ⟨p, last, f, pre, cp⟩ ⟨hp, hf, hpre, hpl⟩ kl1 hkl1
  simp only at hp hf hpre hpl ⊢
  refine DWp.block ?_
  refine DWp.reg false fun kk hk => ?_
  simp
  refine CallAt.det false ent56 rfl (refRecord_c l hl hlen p hp) ?_
  simp
  refine hk _ ?_
  refine DWp.seqK fun k2 hk2 => ?_
  rcases recO_cases l p hp with ⟨h1, h2, h5⟩ | ⟨h1, h2, h5⟩ | ⟨b, m, h1, h2, h3, h4⟩
  · simp only [h2]
    refine DWp.reg false fun kk hk => ?_
    simp [h5]
    refine CallAtG.det (d := .int .u64 0) false ent57 rfl (fun h => absurd h (by simp)) ?_
    simp
    refine hk _ ?_
    refine DWp.condB ?_
    simp
    refine DWp.reg false fun kk hk => ?_
    simp
    refine hk _ ?_
    have := recsF_none (f := f) (last := last) h1
    rw [this, List.map_nil, List.append_nil] at hpre
    refine DWp.ret (hE _ ?_).2
    rw [← hpre]
    simp [Function.comp_def, cellsL]
  · simp only [h2]
    refine DWp.reg false fun kk hk => ?_
    simp [h5, rowL]
    refine CallAtG.det (d := .int .u64 0) false ent57 rfl (fun h => absurd h (by simp)) ?_
    simp
    refine hk _ ?_
    refine DWp.condB ?_
    simp
    refine DWp.reg false fun kk hk => ?_
    simp
    refine hk _ ?_
    have := recsF_none (f := f) (last := last) h1
    rw [this, List.map_nil, List.append_nil] at hpre
    refine DWp.ret (hE _ ?_).2
    rw [← hpre]
    simp [Function.comp_def, cellsL]
  · simp only [h2]
    have hpl' : p < l.length := by omega
    have hsp : l[p].length = 128 := hl _ (List.getElem_mem hpl')
    have hgp0 : l.getD p [] = l[p] := by simp [hpl']
    have hmp : m - p ≠ 0 := by omega
    have hB : FnWp Try.prog 57 [DV.list (List.take 4 (List.map rowB l[p]))] (· = .ret (.int .u64 (genD l[p]))) := by rw [← List.map_take]; exact refNumber_c (l[p].take 4) (by simp; omega)
    refine DWp.reg false fun kk hk => ?_
    simp [hpl', rowL, hmp]
    refine ⟨by omega, ?_⟩
    refine CallAtG.det (d := .int .u64 (genD l[p])) false ent57 rfl (fun _ => hB) ?_
    simp [hmp]
    refine hk _ ?_
    refine DWp.condB ?_
    simp
    refine ⟨fun hT0 => ?_, fun hF0 => ?_⟩
    · simp [Tt] at hT0
      refine DWp.reg false fun kk hk => ?_
      simp
      refine hk _ ?_
      have := recsF_low (l := l) (f := f) (p := p) (last := last) (by rw [hgp0]; omega)
      rw [this, List.map_nil, List.append_nil] at hpre
      refine DWp.ret (hE _ ?_).2
      rw [← hpre]
      simp [Function.comp_def, cellsL]
    · simp [Ff] at hF0
      refine DWp.skip ?_
      refine hk2 _ ?_
      refine DWp.reg false fun kk hk => ?_
      simp [hpl', rowL]
      refine ⟨by omega, ?_⟩
      refine CallAt.det false ent57 rfl hB ?_
      simp
      refine hk _ ?_
      refine DWp.reg false fun kk hk => ?_
      simp
      refine ⟨⟨by omega, by omega⟩, ?_⟩
      refine hk _ ?_
      refine DWp.regionV false ?_
      simp
      have i1 : IntKind.i64.wrap ((p : Int) + ((m - p : Nat) : Int)) = (m : Int) := by rw [i64_in _ (by omega)]; omega
      refine hkl1 _ (m, genD l[p], f - 1, pre ++ [b], none) ⟨h4, by simp only; omega, ?_, by simp; omega⟩ (by simp only; omega) (Sub.of [2] ⟨rfl, rfl, by simp, by simp, by simp [i1], by simp [cellsL]⟩)
      simp only
      rw [← hpre, recsF_some h1 (by rw [hgp0]; omega) (by omega), hgp0]
      simp
end Go.Bf
