/-
  Views: the reference. Printed by program (v13.py). Nothing is claimed here.
-/
import Derived.Test.YtlnjeijklnoogaaBfV13a
set_option maxRecDepth 100000
set_option maxHeartbeats 16000000
namespace Go.Bf
open Go Go.RowKit Go.Proofs Go.IntWalk
attribute [local simp] maxLen encI rowI
theorem putD_step {l : List Int} {n : Int} {k : Nat} (h : k < l.length) (hn : l[k] < n) (e : putD l n = l.take k ++ putD (l.drop k) n) : putD l n = l.take (k + 1) ++ putD (l.drop (k + 1)) n := by
  rw [e, List.drop_eq_getElem_cons h, putD, if_pos hn, List.take_succ_eq_append_getElem h, List.append_assoc]; rfl
theorem putD_there {l : List Int} {n : Int} {k : Nat} (h : k < l.length) (hn : l[k] = n) (e : putD l n = l.take k ++ putD (l.drop k) n) : putD l n = l := by
  rw [e, List.drop_eq_getElem_cons h, putD, if_neg (by omega), if_pos hn, ← List.drop_eq_getElem_cons h, List.take_append_drop]
theorem putD_new {l : List Int} {n : Int} {k : Nat} (h : k < l.length) (h1 : ¬ l[k] < n) (hn : ¬ l[k] = n) (e : putD l n = l.take k ++ putD (l.drop k) n) : putD l n = l.take k ++ n :: l.drop k := by
  rw [e, List.drop_eq_getElem_cons h, putD, if_neg h1, if_neg hn]
theorem putD_end {l : List Int} {n : Int} (e : putD l n = l.take l.length ++ putD (l.drop l.length) n) : putD l n = l ++ [n] := by
  rw [e]; simp [putD]
theorem ent58 : Enters Try.prog 58 := enters_of Try.func58 rfl rfl
theorem ent49 : Enters Try.prog 49 := enters_of Try.func49 rfl rfl
theorem ent23 : Enters Try.prog 23 := enters_of Try.func23 rfl rfl
theorem ent34 : Enters Try.prog 34 := enters_of Try.func34 rfl rfl
theorem ent59 : Enters Try.prog 59 := enters_of Try.func59 rfl rfl
theorem ent35 : Enters Try.prog 35 := enters_of Try.func35 rfl rfl
theorem rowI_length (x : Int) : (rowI x).length = 1 := rfl
theorem wide_int (l : List Int) : Wide 1 (l.map rowI) := fun r hr => by obtain ⟨m, _, rfl⟩ := List.mem_map.1 hr; rfl
theorem wide_takeI (l : List Int) (k : Nat) : Wide 1 (List.take k (l.map rowI)) := fun r hr => wide_int l r (List.mem_of_mem_take hr)
theorem wide_dropI (l : List Int) (k : Nat) : Wide 1 (List.drop k (l.map rowI)) := fun r hr => wide_int l r (List.mem_of_mem_drop hr)
theorem cF_one {α : Type} (f : α → List DV) (x : α) : cF f [x] = (f x).map .d := by simp [cF]
theorem cF_int (l : List Int) : l.map (hd1 ∘ rowI) = cF rowI l := by
  rw [← cF_flat]
  induction l with
  | nil => rfl
  | cons x l ih => simp only [List.map_cons, List.flatten_cons, ih]; rfl
theorem takeI (l : List Int) (k : Nat) : List.take k (l.map (hd1 ∘ rowI)) = cF rowI (l.take k) := by rw [← List.map_take, cF_int]
theorem dropI (l : List Int) (k : Nat) : List.drop k (l.map (hd1 ∘ rowI)) = cF rowI (l.drop k) := by rw [← List.map_drop, cF_int]
theorem chunk1 (l : List Int) : (l.map ((List.map fun d => [d]) ∘ rowI)).flatten = l.map rowI := by
  induction l with
  | nil => rfl
  | cons x l ih => simp only [List.map_cons, List.flatten_cons, ih]; rfl
theorem snap_int {l : List Int} {n : Nat} (h : n = l.length) : List.take n (cF rowI l) = cF rowI l := List.take_of_length_le (by rw [cF_length rowI_length, h]; omega)
theorem put_c (l : List Int) (n : Int) (hl : l.length ≤ 100000) : FnWp Try.prog 58 [encI l, .int .i64 n] (· = .ret (encI (putD l n))) := by
  refine FnWp.intro' Try.func58 rfl (by simp [Try.ntmps58]) fun E hE => ?_
  refine DWp.reg false fun kk hk => ?_
  simp
  refine hk _ ?_
  refine DWp.reg false fun kk hk => ?_
  simp
  refine hk _ ?_
  refine DWp.seqK fun k1 hk1 => ?_
  refine DWp.block ?_
  refine DWp.loopK (fun k : Nat => Know.of 48 [(0, .d (encI l)), (1, .d (.int .i64 n)), (5, .d (.int .i64 k))] [])
    (fun k => k ≤ l.length ∧ putD l n = l.take k ++ putD (l.drop k) n) (fun k => l.length - k) 0 (Sub.of [] ⟨rfl, rfl, by simp, by simp, by simp, by simp⟩) ⟨by omega, by simp⟩ ?_
  rintro k ⟨hk0, hpd⟩ kl2 hkl2
  refine DWp.seqK fun k3 hk3 => ?_
  rcases Nat.lt_or_ge k l.length with hlt | hge
  · refine DWp.reg false fun kk hk => ?_
    simp [hlt]
    refine hk _ ?_
    refine DWp.condB ?_
    simp
    refine ⟨fun hT0 => ?_, fun hF0 => ?_⟩
    · simp [Tt] at hT0
      refine DWp.skip ?_
      refine hk3 _ ?_
      refine DWp.block ?_
      refine DWp.regionV false ?_
      simp
      have k1 : IntKind.i64.wrap ((k : Int) + 1) = ((k + 1 : Nat) : Int) := by rw [i64_in _ (by omega)]; omega
      refine hkl2 _ (k + 1) ⟨by omega, putD_step hlt hT0 hpd⟩ (by omega) (Sub.of [] ⟨rfl, rfl, by simp, by simp, by simp [k1], by simp⟩)
    · simp [Ff] at hF0
      refine DWp.exit ?_
      simp
      refine hk1 _ ?_
      refine DWp.seqK fun k4 hk4 => ?_
      refine DWp.reg false fun kk hk => ?_
      simp [hlt]
      refine hk _ ?_
      refine DWp.condB ?_
      simp
      refine ⟨fun hT1 => ?_, fun hF1 => ?_⟩
      · simp [Tt] at hT1
        refine DWp.reg false fun kk hk => ?_
        simp
        refine hk _ ?_
        refine DWp.ret (hE _ ?_).2
        rw [putD_there hlt hT1 hpd]
        simp
      · simp [Ff] at hF1
        refine DWp.skip ?_
        refine hk4 _ ?_
        have hfin := putD_new hlt (by omega) hF1 hpd
        refine DWp.reg false fun kk hk => ?_
        simp
        refine ⟨⟨by omega, wide_int l⟩, ⟨wide_takeI l k, by omega, by omega⟩, ?_⟩
        refine hk _ ?_
        refine DWp.sub (Sub.of (n := 48) (sl := [(0, .d (encI l)), (1, .d (.int .i64 n)), (5, .d (.int .i64 k)), (6, .own 0 1 0 k none)]) (ml := [(24, cF rowI (l.take k))]) [1] ⟨rfl, rfl, by simp, by simp, by simp [Nat.min_eq_left hk0, takeI], by simp [Nat.min_eq_left hk0, takeI]⟩) ?_
        refine DWp.reg false fun kk hk => ?_
        simp [cF_length rowI_length, Nat.min_eq_left hk0]
        refine ⟨⟨by omega, by omega⟩, ?_⟩
        refine hk _ ?_
        refine DWp.sub (Sub.of (n := 48) (sl := [(0, .d (encI l)), (1, .d (.int .i64 n)), (5, .d (.int .i64 k)), (6, .own 0 1 0 (k + 1) none)]) (ml := [(24, cF rowI (l.take k ++ [n]))]) [2] ⟨rfl, rfl, by simp, by simp, by simp [cF_append, cF_one], by simp [cF_append, cF_one]⟩) ?_
        refine DWp.reg false fun kk hk => ?_
        simp [cF_length rowI_length, Nat.min_eq_left hk0]
        refine ⟨⟨by omega, wide_int l⟩, ⟨wide_dropI l k, by omega, by omega⟩, ?_⟩
        refine hk _ ?_
        refine DWp.ret (hE _ ?_).2
        have hlk : k + 1 + (l.length - k) = (putD l n).length := by rw [hfin]; simp; omega
        have hce : cF rowI (l.take k ++ [n]) ++ cF rowI (l.drop k) = cF rowI (putD l n) := by rw [hfin, ← cF_append]; simp
        simp [dropI, hce, hlk, snap_int rfl, flat_lenF rowI_length, chunk1]
  · refine DWp.reg false fun kk hk => ?_
    simp [show ¬ k < l.length by omega]
    refine hk _ ?_
    refine DWp.condB ?_
    simp
    refine DWp.exit ?_
    simp
    refine hk1 _ ?_
    refine DWp.seqK fun k5 hk5 => ?_
    refine DWp.reg false fun kk hk => ?_
    simp [show ¬ k < l.length by omega]
    refine hk _ ?_
    refine DWp.condB ?_
    simp
    refine DWp.skip ?_
    refine hk5 _ ?_
    have hfin : putD l n = l.take k ++ n :: l.drop k := by rw [hpd, List.drop_eq_nil_of_le (by omega)]; rfl
    refine DWp.reg false fun kk hk => ?_
    simp
    refine ⟨⟨by omega, wide_int l⟩, ⟨wide_takeI l k, by omega, by omega⟩, ?_⟩
    refine hk _ ?_
    refine DWp.sub (Sub.of (n := 48) (sl := [(0, .d (encI l)), (1, .d (.int .i64 n)), (5, .d (.int .i64 k)), (6, .own 0 1 0 k none)]) (ml := [(24, cF rowI (l.take k))]) [1] ⟨rfl, rfl, by simp, by simp, by simp [Nat.min_eq_left hk0, takeI], by simp [Nat.min_eq_left hk0, takeI]⟩) ?_
    refine DWp.reg false fun kk hk => ?_
    simp [cF_length rowI_length, Nat.min_eq_left hk0]
    refine ⟨⟨by omega, by omega⟩, ?_⟩
    refine hk _ ?_
    refine DWp.sub (Sub.of (n := 48) (sl := [(0, .d (encI l)), (1, .d (.int .i64 n)), (5, .d (.int .i64 k)), (6, .own 0 1 0 (k + 1) none)]) (ml := [(24, cF rowI (l.take k ++ [n]))]) [2] ⟨rfl, rfl, by simp, by simp, by simp [cF_append, cF_one], by simp [cF_append, cF_one]⟩) ?_
    refine DWp.reg false fun kk hk => ?_
    simp [cF_length rowI_length, Nat.min_eq_left hk0]
    refine ⟨⟨by omega, wide_int l⟩, ⟨wide_dropI l k, by omega, by omega⟩, ?_⟩
    refine hk _ ?_
    refine DWp.ret (hE _ ?_).2
    have hlk : k + 1 + (l.length - k) = (putD l n).length := by rw [hfin]; simp; omega
    have hce : cF rowI (l.take k ++ [n]) ++ cF rowI (l.drop k) = cF rowI (putD l n) := by rw [hfin, ← cF_append]; simp
    simp [dropI, hce, hlk, snap_int rfl, flat_lenF rowI_length, chunk1]
theorem putD_len (l : List Int) (n : Int) : (putD l n).length ≤ l.length + 1 := by
  induction l with
  | nil => simp [putD]
  | cons x t ih => rw [putD]; split; simp; omega; split <;> simp
theorem foldP_len (ns l : List Int) : (ns.foldl putD l).length ≤ l.length + ns.length := by
  induction ns generalizing l with
  | nil => simp
  | cons n ns ih => have := ih (putD l n); have := putD_len l n; simp only [List.foldl_cons, List.length_cons]; omega
theorem foldP_take {ns : List Int} (l : List Int) {k : Nat} (h : k < ns.length) : (ns.take (k + 1)).foldl putD l = putD ((ns.take k).foldl putD l) ns[k] := by
  rw [List.take_succ_eq_append_getElem h, List.foldl_append]; rfl
/-- Sizes of relations. -/
def okS (r : Rl) : Prop := r.1.length ≤ 100 ∧ r.2.length ≤ 100 ∧ ∀ x ∈ r.2, x.length ≤ 1000
theorem listRN_len {out : List Int} {ins : List (List Int)} (h : ∀ x ∈ ins, x.length ≤ 1000) (a : Int) : ∀ i, (listRN out ins a i).length ≤ i * 1000
  | 0 => by simp [listRN]
  | i + 1 => by
    have ih := listRN_len (out := out) h a i
    rw [listRN]
    split
    · have h1 := foldP_len (ins.getD i []) (listRN out ins a i)
      have h2 : (ins.getD i []).length ≤ 1000 := by
        by_cases e : i < ins.length
        · rw [List.getD_eq_getElem?_getD, List.getElem?_eq_getElem e]; exact h _ (List.getElem_mem e)
        · rw [List.getD_eq_getElem?_getD, List.getElem?_eq_none (by omega)]; simp
      omega
    · omega
theorem listRN_step {out : List Int} {ins : List (List Int)} {a : Int} {i : Nat} (h1 : i < out.length) (h2 : i < ins.length) : listRN out ins a (i + 1) = if out[i] = a then ins[i].foldl putD (listRN out ins a i) else listRN out ins a i := by
  rw [listRN, List.getD_eq_getElem?_getD, List.getD_eq_getElem?_getD, List.getElem?_eq_getElem h1, List.getElem?_eq_getElem h2]; rfl
theorem pre_step {a b : List (List Int)} {i : Nat} (h1 : i < a.length) (h2 : i < b.length) : cmpPre (a.drop i) (b.drop i) = if cmpL a[i] b[i] ≠ 0 then cmpL a[i] b[i] else cmpPre (a.drop (i + 1)) (b.drop (i + 1)) := by
  rw [List.drop_eq_getElem_cons h1, List.drop_eq_getElem_cons h2, cmpPre]
theorem pre_end {a b : List (List Int)} {i : Nat} (h : a.length ≤ i ∨ b.length ≤ i) : cmpPre (a.drop i) (b.drop i) = 0 := by
  rcases h with h | h
  · rw [List.drop_eq_nil_of_le h]; simp [cmpPre]
  · rw [List.drop_eq_nil_of_le h]; cases a.drop i <;> simp [cmpPre]
attribute [local simp] encII rowII encRel rowRel
theorem list_c (r : Rl) (a : Int) (hr : okS r) : FnWp Try.prog 49 [encRel r, .int .i64 a] (· = .ret (encI (listR r a))) := by
  refine FnWp.intro' Try.func49 rfl (by simp [Try.ntmps49]) fun E hE => ?_
  refine DWp.reg false fun kk hk => ?_
  simp
  refine hk _ ?_
  refine DWp.reg true fun kk hk => ?_
  simp
  refine hk _ ?_
  refine DWp.seqK fun k1 hk1 => ?_
  refine DWp.reg false fun kk hk => ?_
  simp
  refine hk _ ?_
  refine DWp.block ?_
  have hr1 := hr.1
  have hr2 := hr.2.1
  refine DWp.loopK (fun i : Nat => Know.of 53 [(1, .d (.int .i64 a)), (2, .loc 0 0), (5, .d (encI (listRN r.1 r.2 a i))), (6, .d (.int .i64 i))] [(45, [.d (encI r.1), .d (encII r.2)])])
    (fun i => i ≤ r.1.length ∧ i ≤ r.2.length) (fun i => r.1.length - i) 0 (Sub.of [0] ⟨rfl, rfl, by simp, by simp, by simp [listRN], by simp⟩) ⟨by omega, by omega⟩ ?_
  rintro i ⟨hi1, hi2⟩ kl2 hkl2
  refine DWp.seqK fun k3 hk3 => ?_
  refine DWp.reg false fun kk hk => ?_
  simp
  refine hk _ ?_
  refine DWp.condB ?_
  simp
  refine ⟨fun hT0 => ?_, fun hF0 => ?_⟩
  · simp [Tt] at hT0
    have hlt1 : i < r.1.length := by omega
    have hlt2 : i < r.2.length := by omega
    have hLn := listRN_len (out := r.1) hr.2.2 a i
    have hx := hr.2.2 _ (List.getElem_mem hlt2)
    refine DWp.skip ?_
    refine hk3 _ ?_
    refine DWp.seqK fun k4 hk4 => ?_
    refine DWp.block ?_
    refine DWp.reg false fun kk hk => ?_
    simp
    refine hk _ ?_
    refine DWp.block ?_
    refine DWp.loopK (fun k : Nat => Know.of 53 [(1, .d (.int .i64 a)), (2, .loc 0 0), (5, .d (encI ((r.2[i].take k).foldl putD (listRN r.1 r.2 a i)))), (6, .d (.int .i64 i)), (7, .d (.int .i64 k))] [(45, [.d (encI r.1), .d (encII r.2)])])
      (fun k => k ≤ r.2[i].length ∧ (r.1[i] = a ∨ k = 0)) (fun k => r.2[i].length - k) 0 (Sub.of [0] ⟨rfl, rfl, by simp, by simp, by simp, by simp⟩) ⟨by omega, .inr rfl⟩ ?_
    rintro k ⟨hkk, hka⟩ kl5 hkl5
    refine DWp.seqK fun k6 hk6 => ?_
    refine DWp.reg false fun kk hk => ?_
    simp [hlt1, hlt2]
    refine hk _ ?_
    refine DWp.condB ?_
    simp
    refine ⟨fun hT1 => ?_, fun hF1 => ?_⟩
    · simp [Tt] at hT1
      have hlk : k < r.2[i].length := by omega
      have hFl := foldP_len (r.2[i].take k) (listRN r.1 r.2 a i)
      have hTl : (r.2[i].take k).length ≤ 1000 := by rw [List.length_take]; omega
      refine DWp.skip ?_
      refine hk6 _ ?_
      refine DWp.seqK fun k7 hk7 => ?_
      refine DWp.block ?_
      refine DWp.regionV false ?_
      simp [hlt1, hlt2, hlk]
      refine CallAt.det false ent58 rfl (put_c _ _ (by omega)) ?_
      simp
      refine hk7 _ ?_
      refine DWp.regionV false ?_
      simp
      have k1 : IntKind.i64.wrap ((k : Int) + 1) = ((k + 1 : Nat) : Int) := by rw [i64_in _ (by omega)]; omega
      refine hkl5 _ (k + 1) (And.intro (by omega) (.inl hT1.2)) (by omega) (Sub.of [0] ⟨rfl, rfl, by simp, by simp, by simp [k1, foldP_take _ hlk], by simp⟩)
    · simp [Ff] at hF1
      have hfin : (r.2[i].take k).foldl putD (listRN r.1 r.2 a i) = listRN r.1 r.2 a (i + 1) := by
        rw [listRN_step hlt1 hlt2]
        by_cases e : r.1[i] = a
        · rw [if_pos e, show k = r.2[i].length by have : ¬ (k < r.2[i].length) := fun h => hF1 h e; omega, List.take_length]
        · rw [if_neg e, show k = 0 from hka.resolve_left e]; rfl
      refine DWp.exit ?_
      simp
      refine hk4 _ ?_
      refine DWp.regionV false ?_
      simp
      have i1 : IntKind.i64.wrap ((i : Int) + 1) = ((i + 1 : Nat) : Int) := by rw [i64_in _ (by omega)]; omega
      refine hkl2 _ (i + 1) ⟨by omega, by omega⟩ (by omega) (Sub.of [0] ⟨rfl, rfl, by simp, by simp, by simp [i1, hfin], by simp⟩)
  · simp [Ff] at hF0
    have hmin : i = min r.1.length r.2.length := by omega
    subst hmin
    refine DWp.exit ?_
    simp
    refine hk1 _ ?_
    refine DWp.reg false fun kk hk => ?_
    simp
    refine hk _ ?_
    refine DWp.ret (hE _ ?_).2
    simp [listR]
theorem compare_c (a b : List Int) (ha : a.length ≤ 4611686018427387903) : FnWp Try.prog 59 [encI a, encI b] (· = .ret (.int .i64 (cmpL a b))) := by
  refine FnWp.intro' Try.func59 rfl (by simp [Try.ntmps59]) fun E hE => ?_
  refine DWp.reg false fun kk hk => ?_
  simp
  refine hk _ ?_
  refine DWp.seqK fun k1 hk1 => ?_
  refine DWp.reg false fun kk hk => ?_
  simp
  refine hk _ ?_
  refine DWp.block ?_
  refine DWp.loopK (fun i : Nat => Know.of 46 [(0, .d (encI a)), (1, .d (encI b)), (5, .d (.int .i64 i))] [])
    (fun i => i ≤ a.length ∧ i ≤ b.length ∧ cmpL a b = cmpL (a.drop i) (b.drop i)) (fun i => a.length - i) 0 (Sub.of [] ⟨rfl, rfl, by simp, by simp, by simp, by simp⟩) ⟨by omega, by omega, rfl⟩ ?_
  rintro i ⟨hia, hib, hc⟩ kl2 hkl2
  refine DWp.seqK fun k3 hk3 => ?_
  refine DWp.reg false fun kk hk => ?_
  simp
  refine hk _ ?_
  refine DWp.condB ?_
  simp
  refine ⟨fun hT0 => ?_, fun hF0 => ?_⟩
  · simp [Tt] at hT0
    have h1 : i < a.length := by omega
    have h2 : i < b.length := by omega
    refine DWp.skip ?_
    refine hk3 _ ?_
    refine DWp.seqK fun k4 hk4 => ?_
    refine DWp.block ?_
    refine DWp.seqK fun k5 hk5 => ?_
    refine DWp.drawPR false [] (.take 0 (.take 1 (.take 2 (.take 3 (.take 4 (.take 5 (.take 6 (.take 7 (.take 8 .done))))))))) mixed (by kernel_rfl) fun kk hk => ?_
    simp [h1, h2]
    refine hk _ ?_
    refine DWp.condB ?_
    simp
    refine ⟨fun hT1 => ?_, fun hF1 => ?_⟩
    · simp [Tt] at hT1
      refine DWp.reg false fun kk hk => ?_
      simp
      refine hk _ ?_
      refine DWp.ret (hE _ ?_).2
      have hst : cmpI a[i] b[i] = -1 := by unfold cmpI; rw [if_pos (by omega)]
      have hr : cmpL a b = -1 := by rw [hc, cmpL, cmpBy_step h1 h2, hst]; rfl
      simp [hr]
    · simp [Ff] at hF1
      refine DWp.skip ?_
      refine hk5 _ ?_
      refine DWp.drawPR false [] (.take 0 (.take 1 (.take 2 (.take 3 (.take 4 (.take 5 (.take 6 (.take 7 (.take 8 .done))))))))) mixed (by kernel_rfl) fun kk hk => ?_
      simp [h1, h2]
      refine hk _ ?_
      refine DWp.condB ?_
      simp
      refine ⟨fun hT2 => ?_, fun hF2 => ?_⟩
      · simp [Tt] at hT2
        refine DWp.reg false fun kk hk => ?_
        simp
        refine hk _ ?_
        refine DWp.ret (hE _ ?_).2
        have hst : cmpI a[i] b[i] = 1 := by unfold cmpI; rw [if_neg (by omega), if_pos (by omega)]
        have hr : cmpL a b = 1 := by rw [hc, cmpL, cmpBy_step h1 h2, hst]; rfl
        simp [hr]
      · simp [Ff] at hF2
        refine DWp.skip ?_
        refine hk4 _ ?_
        refine DWp.regionV false ?_
        simp
        have i1 : IntKind.i64.wrap ((i : Int) + 1) = ((i + 1 : Nat) : Int) := by rw [i64_in _ (by omega)]; omega
        have hst : cmpI a[i] b[i] = 0 := (cmpI_cmp.eq0 _ _).2 (by omega)
        refine hkl2 _ (i + 1) (And.intro (by omega) (And.intro (by omega) (by rw [hc, cmpL, cmpBy_step h1 h2, hst]; rfl))) (by omega) (Sub.of [] ⟨rfl, rfl, by simp, by simp, by simp [i1], by simp⟩)
  · simp [Ff] at hF0
    refine DWp.exit ?_
    simp
    refine hk1 _ ?_
    refine DWp.seqK fun k6 hk6 => ?_
    refine DWp.reg false fun kk hk => ?_
    simp
    refine hk _ ?_
    refine DWp.condB ?_
    simp
    refine ⟨fun hT3 => ?_, fun hF3 => ?_⟩
    · simp [Tt] at hT3
      refine DWp.reg false fun kk hk => ?_
      simp
      refine hk _ ?_
      refine DWp.ret (hE _ ?_).2
      have hr : cmpL a b = -1 := by rw [hc, cmpL, cmpBy_short (by omega) (by omega)]
      simp [hr]
    · simp [Ff] at hF3
      refine DWp.skip ?_
      refine hk6 _ ?_
      refine DWp.seqK fun k7 hk7 => ?_
      refine DWp.reg false fun kk hk => ?_
      simp
      refine hk _ ?_
      refine DWp.condB ?_
      simp
      refine ⟨fun hT4 => ?_, fun hF4 => ?_⟩
      · simp [Tt] at hT4
        refine DWp.reg false fun kk hk => ?_
        simp
        refine hk _ ?_
        refine DWp.ret (hE _ ?_).2
        have hr : cmpL a b = 1 := by rw [hc, cmpL, cmpBy_long (by omega) (by omega)]
        simp [hr]
      · simp [Ff] at hF4
        refine DWp.skip ?_
        refine hk7 _ ?_
        refine DWp.reg false fun kk hk => ?_
        simp
        refine hk _ ?_
        refine DWp.ret (hE _ ?_).2
        have hr : cmpL a b = 0 := by rw [hc, cmpL, List.drop_eq_nil_of_le (by omega), List.drop_eq_nil_of_le (by omega)]; rfl
        simp [hr]
theorem order_c (r s : Rl) (hr : fitRs r) : FnWp Try.prog 35 [encRel r, encRel s] (· = .ret (.int .i64 (orderR r s))) := by
  refine FnWp.intro' Try.func35 rfl (by simp [Try.ntmps35]) fun E hE => ?_
  refine DWp.reg false fun kk hk => ?_
  simp
  refine hk _ ?_
  refine DWp.reg false fun kk hk => ?_
  simp
  refine CallAt.det false ent59 rfl (compare_c r.1 s.1 hr.1) ?_
  simp
  refine hk _ ?_
  refine DWp.seqK fun k1 hk1 => ?_
  refine DWp.reg false fun kk hk => ?_
  simp
  refine hk _ ?_
  refine DWp.block ?_
  refine DWp.loopK (fun q : Nat × Int => Know.of 42 [(2, .loc 0 0), (3, .loc 1 0), (5, .d (.int .i64 q.2)), (6, .d (.int .i64 q.1))] [(45, [.d (encI r.1), .d (encII r.2)]), (45, [.d (encI s.1), .d (encII s.2)])])
    (fun q => q.1 ≤ r.2.length ∧ q.1 ≤ s.2.length ∧ orderR r s = if q.2 ≠ 0 then q.2 else cmpPre (r.2.drop q.1) (s.2.drop q.1)) (fun q => r.2.length - q.1) (0, cmpL r.1 s.1) (Sub.of [0, 1] ⟨rfl, rfl, by simp, by simp, by simp, by simp⟩) ⟨by simp, by simp, by simp [orderR]⟩ ?_
  rintro ⟨i, n⟩ ⟨hia, hib, hc⟩ kl2 hkl2
  simp only at hia hib hc ⊢
  have hr2 := hr.2.1
  refine DWp.seqK fun k3 hk3 => ?_
  refine DWp.reg false fun kk hk => ?_
  simp
  refine hk _ ?_
  refine DWp.condB ?_
  simp
  refine ⟨fun hT0 => ?_, fun hF0 => ?_⟩
  · simp [Tt] at hT0
    have h1 : i < r.2.length := by omega
    have h2 : i < s.2.length := by omega
    have hn0 : n = 0 := by omega
    refine DWp.skip ?_
    refine hk3 _ ?_
    refine DWp.seqK fun k4 hk4 => ?_
    refine DWp.block ?_
    refine DWp.drawP false [] (.take 0 (.take 1 (.take 2 (.take 3 (.take 4 (.take 5 (.take 6 (.take 7 (.take 8 (.take 9 (.take 10 (.take 11 .done)))))))))))) mixed (by kernel_rfl) ?_
    simp [h1, h2]
    refine DetCall.intro ent59 rfl (fun _ => compare_c r.2[i] s.2[i] (hr.2.2 _ (List.getElem_mem h1))) ?_
    simp [h1, h2]
    refine hk4 _ ?_
    refine DWp.regionV false ?_
    simp
    have i1 : IntKind.i64.wrap ((i : Int) + 1) = ((i + 1 : Nat) : Int) := by rw [i64_in _ (by omega)]; omega
    refine hkl2 _ (i + 1, cmpL r.2[i] s.2[i]) ⟨by simp only; omega, by simp only; omega, by rw [hc, if_neg (by simp [hn0]), pre_step h1 h2]⟩ (by simp only; omega) (Sub.of [0, 1] ⟨rfl, rfl, by simp, by simp, by simp [i1], by simp⟩)
  · simp [Ff] at hF0
    have hor : orderR r s = n := by
        rw [hc]
        by_cases e : n = 0
        · rw [if_neg (by simp [e]), pre_end (by have := hF0; omega), e]
        · rw [if_pos e]
    refine DWp.exit ?_
    simp
    refine hk1 _ ?_
    refine DWp.reg false fun kk hk => ?_
    simp
    refine hk _ ?_
    refine DWp.ret (hE _ ?_).2
    simp [hor]
end Go.Bf
