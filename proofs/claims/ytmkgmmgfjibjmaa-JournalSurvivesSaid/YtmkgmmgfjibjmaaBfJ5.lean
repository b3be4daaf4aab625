/-
  The journal: the records that sectors bear. Printed by program (j5.py). Nothing is claimed here.
-/
import Derived.Test.YtmkgmmgfjibjmaaBfJ4
import Derived.Test.YtmkgmmgfjibjmaaBfSc
set_option maxRecDepth 100000
set_option maxHeartbeats 8000000
namespace Go.Bf
open Go Go.RowKit Go.Proofs Go.IntWalk
attribute [local simp] encB rowL rowW encSs encPs encD maxLen isBytes_map bytesOf_map
/-- May sector m go on the record that begins at sector p? -/
def fitsD (l : List (List UInt8)) (p last m : Nat) (s : List UInt8) : Bool := goodD s m && (decide (kindD s &&& 1 ≠ 0) == decide (m = p)) && decide (genD s = genD (l.getD p [])) && decide (last ≤ genD s)
/-- The rest of a record, from sector m on, with the sector behind it. -/
def oneD (l : List (List UInt8)) (p last : Nat) : Nat → Nat → List UInt8 → Option (List UInt8 × Nat)
  | 0, _, _ => none
  | f + 1, m, b => if fitsD l p last m (l.getD m []) then (if kindD (l.getD m []) &&& 2 ≠ 0 then some (b ++ partD (l.getD m []), m + 1) else oneD l p last f (m + 1) (b ++ partD (l.getD m []))) else none
theorem lk_memS : ∀ {sl : List (Nat × SV)} {i : Nat} {s : SV}, lk sl i = some s → (i, s) ∈ sl
  | (j, t) :: sl, i, s, h => by
    simp only [lk] at h
    split at h
    · rename_i e; cases h; subst e; exact List.mem_cons_self
    · exact List.mem_cons_of_mem _ (lk_memS h)
/-- A clipped slice is data. -/
theorem Sub.clipd {K : Know} (i : Nat) {xs : List (List DV)} (h : K.slots i = some (.clip xs)) : Sub { K with slots := Bf.put K.slots i (some (.d (.list xs))) } K := fun x a w hm => by
  refine ⟨x, Ctx.ext_refl _, ⟨hm.fro, hm.size, hm.defers, hm.below, hm.holds, hm.old, fun j s hs => ?_, hm.unborn, hm.dead, hm.live, hm.inj, hm.one, hm.fresh⟩⟩
  simp only [Bf.put] at hs
  split at hs
  · rename_i e
    subst e
    cases hs
    obtain ⟨v, e1, r⟩ := hm.slots _ _ h
    obtain ⟨_, _, hv⟩ := clip_inv r
    exact ⟨v, e1, .d hv⟩
  · exact hm.slots j s hs
/-- Only these slots are known any more. -/
theorem Sub.slots {K : Know} (sl : List (Nat × SV)) (h : ∀ p ∈ sl, K.slots p.1 = some p.2) : Sub { K with slots := lk sl } K := fun x _ _ hm =>
  ⟨x, Ctx.ext_refl _, hm.weaken ⟨rfl, Nat.le_refl _, fun i t hs => h (i, t) (lk_memS hs), rfl, rfl, fun _ h => h, rfl⟩⟩
def recsF (l : List (List UInt8)) : Nat → Nat → Nat → List (Nat × List UInt8)
  | 0, _, _ => []
  | f + 1, p, last => match oneD l p last (l.length - p) p [] with
    | none => []
    | some (b, m) => (m, b) :: recsF l f m (genD (l.getD (m - 1) []))
def recsD (l : List (List UInt8)) : List (Nat × List UInt8) := recsF l (l.length + 1) 0 0
def rowR (x : Nat × List UInt8) : List DV := [.int .i64 x.1, encB x.2]
def ysD (l : List (List UInt8)) : List (List DV) := (recsD l).map rowR
theorem fits_bool (l : List (List UInt8)) (p last m : Nat) (s t : List UInt8) (h : l.getD p [] = t) : (!goodD s m || !(!decide (bitF .and .u8 ((kindD s).toNat : Int) 1 = 0)) == decide ((m : Int) = (p : Int)) || !decide ((genD s : Int) = (genD t : Int)) || decide (genD s < last)) = !fitsD l p last m s := by
  have hb1 := and8 (kindD s) 1 (by omega)
  rw [show ((1 : Nat) : Int) = 1 from rfl] at hb1
  have z : ∀ x : UInt8, decide ((x.toNat : Int) = 0) = decide (x = 0) := fun x => by
    rw [decide_eq_decide, ← UInt8.toNat_inj, UInt8.toNat_zero]; omega
  have e1 : decide ((m : Int) = (p : Int)) = decide (m = p) := by rw [decide_eq_decide]; omega
  have e2 : decide ((genD s : Int) = (genD t : Int)) = decide (genD s = genD t) := by rw [decide_eq_decide]; omega
  rw [hb1, z, fitsD, h, e1, e2, show decide (genD s < last) = !decide (last ≤ genD s) by rw [← decide_not, decide_eq_decide]; omega]
  show _ = !(goodD s m && ((decide (¬ kindD s &&& 1 = 0)) == decide (m = p)) && decide (genD s = genD t) && decide (last ≤ genD s))
  rw [decide_not]
  show _ = !(goodD s m && ((!decide (kindD s &&& UInt8.ofNat 1 = 0)) == decide (m = p)) && decide (genD s = genD t) && decide (last ≤ genD s))
  simp only [Bool.not_and]
theorem and2_iff (x : UInt8) : bitF .and .u8 (x.toNat : Int) 2 = 0 ↔ x &&& 2 = 0 := by
  have hb1 := and8 x 2 (by omega)
  rw [show ((2 : Nat) : Int) = 2 from rfl] at hb1
  rw [hb1, ← UInt8.toNat_inj, UInt8.toNat_zero]
  exact ⟨fun h => Int.ofNat.inj h, fun h => congrArg Int.ofNat h⟩
theorem recs_end {l : List (List UInt8)} {p last f : Nat} (h : oneD l p last (l.length - p) p [] = none) (hf : 0 < f) : recsF l f p last = [] := by
  obtain ⟨f, rfl⟩ : ∃ g, f = g + 1 := ⟨f - 1, by omega⟩
  rw [recsF, h]
theorem recs_step {l : List (List UInt8)} {p last f m : Nat} {b : List UInt8} (h : oneD l p last (l.length - p) p [] = some (b, m)) (hf : 0 < f) : recsF l f p last = (m, b) :: recsF l (f - 1) m (genD (l.getD (m - 1) [])) := by
  obtain ⟨f, rfl⟩ : ∃ g, f = g + 1 := ⟨f - 1, by omega⟩
  rw [recsF, h]; rfl
theorem oneD_zero (l : List (List UInt8)) (p last m : Nat) (b : List UInt8) : oneD l p last 0 m b = none := rfl
theorem oneD_no {l : List (List UInt8)} {p last m : Nat} {b : List UInt8} (hm : m < l.length) (h : fitsD l p last m l[m] = false) : oneD l p last (l.length - m) m b = none := by
  rw [show l.length - m = (l.length - m - 1) + 1 by omega, oneD, show l.getD m [] = l[m] by simp [hm], h]; rfl
theorem oneD_go {l : List (List UInt8)} {p last m : Nat} {b : List UInt8} (hm : m < l.length) (h : fitsD l p last m l[m] = true) (hk : kindD l[m] &&& 2 = 0) : oneD l p last (l.length - m) m b = oneD l p last (l.length - (m + 1)) (m + 1) (b ++ partD l[m]) := by
  rw [show l.length - m = (l.length - (m + 1)) + 1 by omega, oneD, show l.getD m [] = l[m] by simp [hm], h, if_pos rfl, if_neg (by simpa using hk)]
theorem oneD_end {l : List (List UInt8)} {p last m : Nat} {b : List UInt8} (hm : m < l.length) (h : fitsD l p last m l[m] = true) (hk : ¬ kindD l[m] &&& 2 = 0) : oneD l p last (l.length - m) m b = some (b ++ partD l[m], m + 1) := by
  rw [show l.length - m = (l.length - (m + 1)) + 1 by omega, oneD, show l.getD m [] = l[m] by simp [hm], h, if_pos rfl, if_pos hk]
theorem fits_form {l : List (List UInt8)} {p last m : Nat} {s : List UInt8} (h : fitsD l p last m s = true) : formD s = true := by
  simp only [fitsD, goodD, Bool.and_eq_true] at h; exact h.1.1.1.1.1
theorem oneD_some {l : List (List UInt8)} {p last : Nat} : ∀ {f m : Nat} {b c : List UInt8} {q : Nat}, oneD l p last f m b = some (c, q) → m < q ∧ q ≤ m + f
  | 0, m, b, c, q, h => by simp [oneD] at h
  | f + 1, m, b, c, q, h => by
    rw [oneD] at h
    split at h
    · split at h
      · simp at h; omega
      · have := oneD_some h; omega
    · simp at h
theorem ent30 : Enters Try.prog 30 := enters_of Try.func30 rfl rfl
theorem ent54 : Enters Try.prog 54 := enters_of Try.func54 rfl rfl
theorem records_c (l : List (List UInt8)) : FnWp Try.prog 30 [encSs l] (· = .ret (.fn 54 [.ptr [encSs l]])) := by
  refine FnWp.intro' Try.func30 rfl (by simp [Try.ntmps30]) fun E hE => ?_
  refine DWp.reg false fun kk hk => ?_
  simp
  refine hk _ ?_
  refine DWp.sub (Sub.freeze 0 rfl rfl) ?_
  refine DWp.reg false fun kk hk => ?_
  simp
  refine hk _ ?_
  refine DWp.ret (hE _ ?_).2
  simp
theorem records_seq (l : List (List UInt8)) (hl : ∀ s ∈ l, s.length = 128) (hlen : l.length ≤ 4096) : SeqWp Try.prog 54 [.ptr [encSs l]] (ysD l) := by
  refine SeqWp.intro Try.func54 rfl rfl (by simp [Try.ntmps54]) fun yl n J St Sx hSt hSx hJn hy => ?_
  refine DWp.scope ?_
  refine DWp.reg false fun kk hk => ?_
  simp
  refine hk _ ?_
  refine DWp.labelK ?_
  refine DWp.block ?_
  refine DWp.loopK (fun q : Nat × Nat × Nat × List (Nat × List UInt8) => Know.of 77 [(0, .d (.yld yl)), (1, .d (.ptr [encSs l])), (3, .d (.int .i64 q.1)), (4, .d (.int .u64 q.2.1))] [] (St (q.2.2.2.map rowR)) [] (some (n, J)))
    (fun q => q.1 ≤ l.length ∧ l.length < q.1 + q.2.2.1 ∧ q.2.2.2 ++ recsF l q.2.2.1 q.1 q.2.1 = recsD l) (fun q => l.length - q.1) (0, 0, l.length + 1, []) (Sub.of [] ⟨rfl, rfl, by simp, by simp, by simp, by simp⟩) ⟨by simp, by simp, rfl⟩ ?_
  rintro ⟨p, last, f, pre⟩ ⟨hp, hf, hpre⟩ kl1 hkl1
  simp only at hp hf hpre ⊢
  have hpre0 : pre.map rowR ++ (recsF l f p last).map rowR = ysD l := by rw [ysD, ← hpre, List.map_append]
  refine DWp.block ?_
  refine DWp.reg false fun kk hk => ?_
  simp
  refine hk _ ?_
  refine DWp.seqK fun k2 hk2 => ?_
  refine DWp.reg false fun kk hk => ?_
  simp
  refine hk _ ?_
  refine DWp.block ?_
  refine DWp.loopK (fun q : Nat × List UInt8 × SV × List (TypeId × List SV) => Know.of 77 [(0, .d (.yld yl)), (1, .d (.ptr [encSs l])), (3, .d (.int .i64 p)), (4, .d (.int .u64 last)), (5, q.2.2.1), (6, .d (.int .i64 q.1))] q.2.2.2 (St (pre.map rowR)) [] (some (n, J)))
    (fun q => q.2.1.length ≤ 112 * q.1 ∧ p ≤ q.1 ∧ q.1 ≤ l.length ∧ oneD l p last (l.length - q.1) q.1 q.2.1 = oneD l p last (l.length - p) p [] ∧ ((q.2.2.1 = .clip [] ∧ q.2.2.2 = [] ∧ q.2.1 = []) ∨ (q.2.2.1 = .own 0 1 0 q.2.1.length none ∧ q.2.2.2 = [(35, q.2.1.map (SV.d ∘ cB))]))) (fun q => l.length - q.1) (p, [], .clip [], []) (Sub.of [] ⟨rfl, rfl, by simp, by simp, by simp, by simp⟩) ⟨by simp, by simp, hp, rfl, .inl ⟨rfl, rfl, rfl⟩⟩ ?_
  rintro ⟨m, b, v, ml⟩ ⟨hbl, hpm, hm, hone, hv⟩ kl3 hkl3
  simp only at hbl hpm hm hone hv ⊢
  refine DWp.seqK fun k4 hk4 => ?_
  refine DWp.reg false fun kk hk => ?_
  simp
  refine hk _ ?_
  refine DWp.condB ?_
  simp
  refine ⟨fun hT0 => ?_, fun hF0 => ?_⟩
  · simp [Tt] at hT0
    have hlt : m < l.length := by omega
    have hpl : p < l.length := by omega
    have hs : l[m].length = 128 := hl _ (List.getElem_mem hlt)
    have hsp : l[p].length = 128 := hl _ (List.getElem_mem hpl)
    have hgm0 : l.getD m [] = l[m] := by simp [hlt]
    have hgm : FnWp Try.prog 40 [DV.list (List.take 4 (List.map rowB l[m]))] (· = .ret (.int .u64 (genD l[m]))) := by rw [← List.map_take]; exact get_c (l[m].take 4) (by simp; omega)
    have hgp0 : l.getD p [] = l[p] := by simp [hpl]
    refine DWp.skip ?_
    refine hk4 _ ?_
    refine DWp.seqK fun k5 hk5 => ?_
    refine DWp.block ?_
    refine DWp.reg false fun kk hk => ?_
    simp [hlt, rowL]
    refine hk _ ?_
    refine DWp.seqK fun k6 hk6 => ?_
    refine DWp.drawPR false [] (.take 0 (.take 1 (.take 2 (.take 3 (.take 4 (.take 5 (.take 6 (.take 7 (.take 8 (.take 9 (.take 10 (.take 11 (.take 12 (.take 13 (.take 14 (.take 15 (.take 16 (.take 17 (.take 18 (.take 19 (.take 20 (.take 21 (.take 22 (.take 23 (.take 24 (.take 25 (.take 26 (.take 27 (.take 28 (.take 29 (.take 30 (.take 31 (.take 32 (.take 33 .done)))))))))))))))))))))))))))))))))) mixed (by kernel_rfl) fun kk hk => ?_
    simp
    have hgm : FnWp Try.prog 40 [DV.list (List.take 4 (List.map rowB l[m]))] (· = .ret (.int .u64 (genD l[m]))) := by rw [← List.map_take]; exact get_c (l[m].take 4) (by simp; omega)
    have hgp : FnWp Try.prog 40 [DV.list (List.take 4 (List.map rowB l[p]))] (· = .ret (.int .u64 (genD l[p]))) := by rw [← List.map_take]; exact get_c (l[p].take 4) (by simp; omega)
    have hgc := good_c l[m] hs m (by omega)
    refine DetCall.intro (d := .bool (goodD l[m] m)) ent55 rfl (fun _ => hgc) ?_
    simp [hs, s10_eq, rowB, cB]
    refine DetCall.intro (d := .int .u64 (genD l[m])) ent40 rfl (fun _ => hgm) ?_
    try simp [hpl, rowL, hsp]
    refine DetCall.intro (d := .int .u64 (genD l[p])) ent40 rfl (fun _ => hgp) ?_
    try simp [hs]
    refine DetCall.intro (d := .int .u64 (genD l[m])) ent40 rfl (fun _ => hgm) ?_
    try simp
    refine hk _ ?_
    refine DWp.sub (Sub.slots [(0, .d (.yld yl)), (1, .d (.ptr [encSs l])), (3, .d (.int .i64 p)), (4, .d (.int .u64 last)), (5, v), (6, .d (.int .i64 m)), (7, .d (encB l[m])), (52, .d (.bool (!fitsD l p last m l[m])))] ?_) ?_
    · simp
      exact fits_bool l p last m l[m] l[p] hgp0
    refine DWp.condB ?_
    simp
    refine ⟨fun hT1 => ?_, fun hF1 => ?_⟩
    · simp [Tt] at hT1
      refine DWp.ret (.inl ?_)
      show St _ = St _
      rw [← hpre0, recs_end (by rw [← hone]; exact oneD_no hlt hT1) (by omega), List.map_nil, List.append_nil]
    · simp [Ff] at hF1
      have hle : lenD l[m] ≤ 112 := form_le (fits_form hF1)
      have w11 : IntKind.i64.wrap (lenD l[m] : Int) = lenD l[m] := i64_in _ (by omega)
      have w12 : IntKind.i64.wrap (12 + (lenD l[m] : Int)) = ((12 + lenD l[m] : Nat) : Int) := by rw [i64_in _ (by omega)]; omega
      have w13 : ((12 : Int) + (lenD l[m] : Int)).toNat = 12 + lenD l[m] := by omega
      have hpart : List.drop 12 (List.take (12 + lenD l[m]) (l[m].map rowB)) = (partD l[m]).map rowB := by rw [List.drop_take, Nat.add_sub_cancel_left, partD, List.map_take, List.map_drop]
      have hs11 : 11 < l[m].length := by omega
      have hs10 : 10 < l[m].length := by omega
      have e10 : l[m][10] = kindD l[m] := s10_eq _ hs10
      have e11 : l[m][11].toNat = lenD l[m] := s11_eq _ hs11
      refine DWp.skip ?_
      refine hk6 _ ?_
      obtain ⟨c, hc⟩ : ∃ c, b ++ partD l[m] = c := ⟨_, rfl⟩
      refine DWp.reg false fun kk hk => ?_
      have hJ : ∀ (K' : Know) (v' : SV) (ml' : List (TypeId × List SV)) (hv' : (v' = .clip [] ∧ ml' = [] ∧ c = []) ∨ (v' = .own 0 1 0 c.length none ∧ ml' = [(35, c.map (SV.d ∘ cB))])), Sub (Know.of 77 [(0, .d (.yld yl)), (1, .d (.ptr [encSs l])), (3, .d (.int .i64 p)), (4, .d (.int .u64 last)), (5, v'), (6, .d (.int .i64 m)), (7, .d (encB l[m]))] ml' (St (pre.map rowR)) [] (some (n, J))) K' → kk K' := by
        intro K' v' ml' hv' hs
        refine hk _ (DWp.sub hs ?_)
        refine DWp.reg false fun kk hk => ?_
        simp [rowB, cB, e10, hs10, and2_iff]
        refine ⟨by omega, ?_⟩
        refine hk _ ?_
        refine DWp.condB ?_
        simp
        refine ⟨fun hT2 => ?_, fun hF2 => ?_⟩
        · simp [Tt] at hT2
          have h1 := oneD_end (b := b) (p := p) (last := last) hlt hF1 hT2
          rw [hc, hone] at h1
          have h2 := recs_step h1 (f := f) (by omega)
          rw [show m + 1 - 1 = m by omega, hgm0] at h2
          rw [h2, List.map_cons] at hpre0
          have i1 : IntKind.i64.wrap ((m : Int) + 1) = ((m + 1 : Nat) : Int) := by rw [i64_in _ (by omega)]; omega
          refine DWp.reg false fun kk hk => ?_
          have hJ : ∀ (K' : Know) , Sub (Know.of 77 [(0, .d (.yld yl)), (1, .d (.ptr [encSs l])), (3, .d (.int .i64 (m + 1 : Nat))), (4, .d (.int .u64 (genD l[m]))), (5, .d (encB c))] [] (St (pre.map rowR)) [] (some (n, J))) K' → kk K' := by
            intro K'  hs
            refine hk _ (DWp.sub hs ?_)
            refine DWp.seqK fun k7 hk7 => ?_
            refine DWp.reg false fun kk hk => ?_
            simp
            refine OpsWp.yield (ss := [.d (.int .i64 ((m + 1 : Nat) : Int)), .d (encB c)]) (x := rowR (m + 1, c)) (g1 := St (pre.map rowR ++ [rowR (m + 1, c)])) (g2 := Sx) rfl rfl (by simp) (by simp) (by simp) rfl (by simp) rfl hJn (hSt _) hSx (hy _ _ ⟨(recsF l (f - 1) (m + 1) (genD l[m])).map rowR, by rw [← hpre0]; simp⟩) ?_ ?_
            rotate_left
            · refine VCops_sound (im := false) _ _ ?_
              simp
              refine hk _ ?_
              refine DWp.condB ?_
              simp
              exact DWp.ret (.inr rfl)
            refine VCops_sound (im := false) _ _ ?_
            simp
            refine hk _ ?_
            refine DWp.condB ?_
            simp
            refine DWp.skip ?_
            refine hk7 _ ?_
            refine DWp.exit ?_
            simp
            have hge : l.length < (m + 1) + (f - 1) := by omega
            refine hkl1 _ (m + 1, genD l[m], f - 1, pre ++ [(m + 1, c)]) ⟨by simp only; omega, hge, ?_⟩ (by simp only; omega) ?_
            · simp only; rw [← hpre, h2]; simp
            · simp only [List.map_append, List.map_cons, List.map_nil]
              exact (Sub.of [] ⟨rfl, rfl, by simp, by simp, by simp, by simp⟩)
          simp [i1]
          refine ⟨by omega, ?_⟩
          refine CallAt.det false ent40 (ds := [DV.list (List.take 4 (List.map rowB l[m]))]) rfl hgm ?_
          simp
          rcases hv' with ⟨rfl, rfl, rfl⟩ | ⟨rfl, rfl⟩
          · exact hJ _ (Sub.trans (Sub.of (n := 77) (sl := [(0, .d (.yld yl)), (1, .d (.ptr [encSs l])), (3, .d (.int .i64 (m + 1 : Nat))), (4, .d (.int .u64 (genD l[m]))), (5, .d (encB []))]) (ml := []) [] ⟨rfl, rfl, by simp, by simp, by simp, by simp⟩) (Sub.clipd 5 (xs := []) (by simp)))
          · exact hJ _ (Sub.trans (Sub.of (n := 77) (sl := [(0, .d (.yld yl)), (1, .d (.ptr [encSs l])), (3, .d (.int .i64 (m + 1 : Nat))), (4, .d (.int .u64 (genD l[m]))), (5, .d (encB c))]) (ml := []) [] ⟨rfl, rfl, by simp, by simp, by simp [rowB], by simp⟩) (Sub.freeze 0 rfl (allD_mapc cB c)))
        · simp [Ff] at hF2
          refine DWp.skip ?_
          refine hk5 _ ?_
          refine DWp.regionV false ?_
          simp
          have i1 : IntKind.i64.wrap ((m : Int) + 1) = ((m + 1 : Nat) : Int) := by rw [i64_in _ (by omega)]; omega
          have hpl3 : (partD l[m]).length ≤ 112 := by simp [partD]; omega
          have hcl : c.length ≤ 112 * (m + 1) := by rw [← hc, List.length_append]; omega
          refine hkl3 _ (m + 1, c, v', ml') ⟨hcl, by omega, by omega, ?_, hv'⟩ (by simp only; omega) (Sub.slots [(0, .d (.yld yl)), (1, .d (.ptr [encSs l])), (3, .d (.int .i64 p)), (4, .d (.int .u64 last)), (5, v'), (6, .d (.int .i64 (m + 1 : Nat)))] (by simp [i1]))
          rw [← hc, ← oneD_go hlt hF1 hF2, hone]
      have hpl2 : (partD l[m]).length ≤ 112 := by simp [partD]; omega
      rcases hv with ⟨rfl, rfl, rfl⟩ | ⟨rfl, rfl⟩
      · simp [rowB, cB, e11, w11, w12, w13, hpart, hs11]
        refine ⟨by omega, by omega, by simp [Wide], by omega, by omega, fun he => ?_, fun he => ?_⟩
        · exact hJ _ (.clip []) [] (.inl ⟨rfl, rfl, by simp [← hc, he]⟩) (Sub.of [] ⟨rfl, rfl, by simp, by simp, by simp, by simp⟩)
        · exact hJ _ (.own 0 1 0 c.length none) [(35, c.map (SV.d ∘ cB))] (.inr ⟨rfl, rfl⟩) (Sub.of [0] ⟨rfl, rfl, by simp, by simp, by simp [← hc], by simp [← hc]; intro a _; rfl⟩)
      · simp [rowB, cB, e11, w11, w12, w13, hpart, hs11]
        refine ⟨by omega, by omega, ⟨by omega, by omega⟩, ?_⟩
        exact hJ _ (.own 0 1 0 c.length none) [(35, c.map (SV.d ∘ cB))] (.inr ⟨rfl, rfl⟩) (Sub.of [1] ⟨rfl, rfl, by simp, by simp, by simp [← hc], by simp [← hc]; intro a _; rfl⟩)
  · simp [Ff] at hF0
    obtain rfl : m = l.length := by omega
    refine DWp.exit ?_
    simp
    refine hk2 _ ?_
    refine DWp.ret (.inl ?_)
    show St _ = St _
    rw [← hpre0, recs_end (by rw [← hone, Nat.sub_self]; rfl) (by omega), List.map_nil, List.append_nil]
end Go.Bf
