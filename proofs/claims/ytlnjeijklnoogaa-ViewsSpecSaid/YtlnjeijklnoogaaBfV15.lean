/-
  Views: the reference, lists of canonical relations. Printed by program (v15.py). Nothing is claimed here.
-/
import Derived.Test.YtlnjeijklnoogaaBfV14
set_option maxRecDepth 100000
set_option maxHeartbeats 16000000
namespace Go.Bf
open Go Go.RowKit Go.Proofs Go.IntWalk
attribute [local simp] maxLen encRels
theorem insC_step {α : Type} {f : α → α → Int} {l : List α} {n : α} {k : Nat} (h : k < l.length) (hn : f l[k] n < 0) (e : insC f l n = l.take k ++ insC f (l.drop k) n) : insC f l n = l.take (k + 1) ++ insC f (l.drop (k + 1)) n := by
  rw [e, List.drop_eq_getElem_cons h, insC, if_pos hn, List.take_succ_eq_append_getElem h, List.append_assoc]; rfl
theorem insC_there {α : Type} {f : α → α → Int} {l : List α} {n : α} {k : Nat} (h : k < l.length) (hn : f l[k] n = 0) (e : insC f l n = l.take k ++ insC f (l.drop k) n) : insC f l n = l := by
  rw [e, List.drop_eq_getElem_cons h, insC, if_neg (by omega), if_pos hn, ← List.drop_eq_getElem_cons h, List.take_append_drop]
theorem insC_new {α : Type} {f : α → α → Int} {l : List α} {n : α} {k : Nat} (h : k < l.length) (h1 : ¬ f l[k] n < 0) (hn : ¬ f l[k] n = 0) (e : insC f l n = l.take k ++ insC f (l.drop k) n) : insC f l n = l.take k ++ n :: l.drop k := by
  rw [e, List.drop_eq_getElem_cons h, insC, if_neg h1, if_neg hn]
theorem insC_sub {α : Type} (f : α → α → Int) (r x : α) : ∀ l : List α, x ∈ insC f l r → x = r ∨ x ∈ l
  | [], h => by simpa [insC] using h
  | y :: t, h => by
    rw [insC] at h
    split at h
    · rcases List.mem_cons.1 h with rfl | h
      · exact .inr List.mem_cons_self
      · exact (insC_sub f r x t h).imp id (List.mem_cons_of_mem _)
    · split at h
      · exact .inr h
      · exact List.mem_cons.1 h
theorem insC_len {α : Type} (f : α → α → Int) (r : α) : ∀ l : List α, (insC f l r).length ≤ l.length + 1
  | [] => by simp [insC]
  | y :: t => by
    rw [insC]
    split
    · have := insC_len f r t; simp; omega
    · split <;> simp
def XX (l : List Rl) (i : Nat) : List Rl := ((l.take i).map canonR).foldl (insC orderR) []
theorem XX_step {l : List Rl} {i : Nat} (h : i < l.length) : XX l (i + 1) = insC orderR (XX l i) (canonR l[i]) := by
  rw [XX, List.take_succ_eq_append_getElem h, List.map_append, List.foldl_append]; rfl
theorem XX_all (l : List Rl) : XX l l.length = refPub l := by rw [XX, List.take_length]; rfl
theorem XX_len (l : List Rl) : ∀ i, i ≤ l.length → (XX l i).length ≤ i
  | 0, _ => by simp [XX]
  | i + 1, h => by
    rw [XX_step (by omega)]
    have := XX_len l i (by omega)
    have := insC_len orderR (canonR (l[i]'(by omega))) (XX l i)
    omega
theorem XX_mem (l : List Rl) (x : Rl) : ∀ i, i ≤ l.length → x ∈ XX l i → ∃ r ∈ l, x = canonR r
  | 0, _, h => by simp [XX] at h
  | i + 1, hi, h => by
    rw [XX_step (by omega)] at h
    rcases insC_sub _ _ _ _ h with rfl | h
    · exact ⟨_, List.getElem_mem _, rfl⟩
    · exact XX_mem l x i (by omega) h
theorem listR_len {r : Rl} (h : okS r) (a : Int) : (listR r a).length ≤ 100000 := by
  have := listRN_len (out := r.1) h.2.2 a (min r.1.length r.2.length)
  have := h.1
  rw [listR]
  have : min r.1.length r.2.length ≤ 100 := by omega
  omega
theorem about_fit {r : Rl} (h : okS r) {ls : List Int} (hl : ls.length ≤ 1000) : fitRs (aboutR r ls) := by
  refine ⟨by simp only [aboutR]; omega, by simp only [aboutR, List.length_map]; omega, fun x hx => ?_⟩
  simp only [aboutR, List.mem_map] at hx
  obtain ⟨a, _, rfl⟩ := hx
  have := listR_len h a
  omega
theorem canon_fits {r : Rl} (h : okS r) : fitRs (canonR r) := about_fit h (by have h1 := foldP_len r.1 []; have := h.1; simp at h1; omega)
theorem XX_fit {l : List Rl} (h : ∀ r ∈ l, okS r) {i : Nat} (hi : i ≤ l.length) : ∀ x ∈ XX l i, fitRs x := fun x hx => by
  obtain ⟨r, hr, rfl⟩ := XX_mem l x i hi hx
  exact canon_fits (h r hr)
theorem rowRel_length (r : Rl) : (rowRel r).length = 2 := rfl
theorem wide_rel (l : List Rl) : Wide 2 (l.map rowRel) := fun r hr => by obtain ⟨m, _, rfl⟩ := List.mem_map.1 hr; rfl
theorem wide_takeR (l : List Rl) (k : Nat) : Wide 2 (List.take k (l.map rowRel)) := fun r hr => wide_rel l r (List.mem_of_mem_take hr)
theorem wide_dropR (l : List Rl) (k : Nat) : Wide 2 (List.drop k (l.map rowRel)) := fun r hr => wide_rel l r (List.mem_of_mem_drop hr)
theorem cF_takeG {α : Type} (f : α → List DV) (l : List α) (k : Nat) : (List.take k (l.map (List.map SV.d ∘ f))).flatten = cF f (l.take k) := by rw [← List.map_take, cF_flat]
theorem cF_dropG {α : Type} (f : α → List DV) (l : List α) (k : Nat) : (List.drop k (l.map (List.map SV.d ∘ f))).flatten = cF f (l.drop k) := by rw [← List.map_drop, cF_flat]
theorem refPub_c (l : List Rl) (hl : l.length ≤ 1000) (hok : ∀ r ∈ l, okS r) : FnWp Try.prog 17 [encRels l] (· = .ret (encRels (refPub l))) := by
  refine FnWp.intro' Try.func17 rfl (by simp [Try.ntmps17]) fun E hE => ?_
  refine DWp.reg false fun kk hk => ?_
  simp
  refine hk _ ?_
  refine DWp.reg true fun kk hk => ?_
  simp
  refine hk _ ?_
  refine DWp.seqK fun k1 hk1 => ?_
  refine DWp.reg false fun kk hk => ?_
  simp
  refine hk _ ?_
  refine DWp.block ?_
  refine DWp.loopK (fun i : Nat => Know.of 63 [(0, .d (encRels l)), (3, .d (encRels (XX l i))), (4, .d (.int .i64 i))] [])
    (fun i => i ≤ l.length) (fun i => l.length - i) 0 (Sub.of [] ⟨rfl, rfl, by simp, by simp, by simp [XX], by simp⟩) (by omega) ?_
  rintro i hi kl2 hkl2
  refine DWp.seqK fun k3 hk3 => ?_
  refine DWp.reg false fun kk hk => ?_
  simp
  refine hk _ ?_
  refine DWp.condB ?_
  simp
  refine ⟨fun hT0 => ?_, fun hF0 => ?_⟩
  · simp [Tt] at hT0
    have hlt : i < l.length := by omega
    have hcan := canonical_c l[i] (hok _ (List.getElem_mem hlt))
    have hXst := XX_step hlt
    have hXl := XX_len l i hi
    have hXf := XX_fit hok hi
    obtain ⟨X, hX⟩ : ∃ X, XX l i = X := ⟨_, rfl⟩
    obtain ⟨c, hc⟩ : ∃ c, canonR l[i] = c := ⟨_, rfl⟩
    rw [hX] at hXst hXl hXf
    rw [hc] at hcan hXst
    rw [hX]
    refine DWp.skip ?_
    refine hk3 _ ?_
    refine DWp.seqK fun k4 hk4 => ?_
    refine DWp.block ?_
    refine DWp.reg false fun kk hk => ?_
    simp [hlt, rowRel]
    refine CallAt.det (ds := [encRel l[i]]) false ent34 rfl hcan ?_
    simp [encRel]
    refine ⟨⟨rfl, rfl⟩, ?_⟩
    refine hk _ ?_
    refine DWp.reg false fun kk hk => ?_
    simp
    refine hk _ ?_
    refine DWp.seqK fun k5 hk5 => ?_
    refine DWp.block ?_
    refine DWp.loopK (fun k : Nat => Know.of 63 [(0, .d (encRels l)), (3, .d (encRels X)), (4, .d (.int .i64 i)), (5, .loc 0 0), (6, .d (.int .i64 k))] [(45, [.d (encI c.1), .d (encII c.2)])])
      (fun k => k ≤ X.length ∧ insC orderR X c = X.take k ++ insC orderR (X.drop k) c) (fun k => X.length - k) 0 (Sub.of [0] ⟨rfl, rfl, by simp, by simp, by simp, by simp⟩) ⟨by omega, by simp⟩ ?_
    rintro k ⟨hk0, hpd⟩ kl6 hkl6
    refine DWp.seqK fun k7 hk7 => ?_
    rcases Nat.lt_or_ge k X.length with hlk | hge
    · refine DWp.drawPR false [] (.take 0 (.take 1 (.take 2 (.take 3 (.take 4 (.take 5 (.take 6 (.take 7 (.take 8 (.take 9 (.take 10 (.take 11 (.take 12 .done))))))))))))) mixed (by kernel_rfl) fun kk hk => ?_
      simp [hlk, rowRel]
      refine DetCall.intro ent35 rfl (fun _ => order_c X[k] c (hXf _ (List.getElem_mem hlk))) ?_
      simp [hlk, rowRel]
      refine hk _ ?_
      refine DWp.condB ?_
      simp
      refine ⟨fun hT1 => ?_, fun hF1 => ?_⟩
      · simp [Tt] at hT1
        refine DWp.skip ?_
        refine hk7 _ ?_
        refine DWp.block ?_
        refine DWp.regionV false ?_
        simp
        have k1 : IntKind.i64.wrap ((k : Int) + 1) = ((k + 1 : Nat) : Int) := by rw [i64_in _ (by omega)]; omega
        refine hkl6 _ (k + 1) ⟨by omega, insC_step hlk hT1 hpd⟩ (by omega) (Sub.of [0] ⟨rfl, rfl, by simp, by simp, by simp [k1], by simp⟩)
      · simp [Ff] at hF1
        refine DWp.exit ?_
        simp
        refine hk5 _ ?_
        refine DWp.seqK fun k8 hk8 => ?_
        refine DWp.drawPR false [] (.take 0 (.take 1 (.take 2 (.take 3 (.take 4 (.take 5 (.take 6 (.take 7 (.take 8 (.take 9 (.take 10 (.take 11 (.take 12 .done))))))))))))) mixed (by kernel_rfl) fun kk hk => ?_
        simp [hlk, rowRel]
        refine DetCall.intro ent35 rfl (fun _ => order_c X[k] c (hXf _ (List.getElem_mem hlk))) ?_
        simp [hlk, rowRel]
        refine hk _ ?_
        refine DWp.condB ?_
        simp
        refine ⟨fun hT2 => ?_, fun hF2 => ?_⟩
        · simp [Tt] at hT2
          refine DWp.exit ?_
          simp
          refine hk4 _ ?_
          have hnx : XX l (i + 1) = X := by rw [hXst, insC_there hlk hT2 hpd]
          refine DWp.regionV false ?_
          simp
          have i1 : IntKind.i64.wrap ((i : Int) + 1) = ((i + 1 : Nat) : Int) := by rw [i64_in _ (by omega)]; omega
          refine hkl2 _ (i + 1) (by omega) (by omega) (Sub.of [] ⟨rfl, rfl, by simp, by simp, by simp [i1, hnx], by simp⟩)
        · simp [Ff] at hF2
          refine DWp.skip ?_
          refine hk8 _ ?_
          have hfin := insC_new hlk (by omega) hF2 hpd
          refine DWp.reg false fun kk hk => ?_
          simp [-DV.one]
          refine ⟨⟨by omega, wide_rel X⟩, ⟨wide_takeR X k, by omega, by omega⟩, ?_⟩
          refine hk _ ?_
          refine DWp.sub (Sub.of (n := 63) (sl := [(0, .d (encRels l)), (3, .d (encRels X)), (4, .d (.int .i64 i)), (5, .loc 0 0), (6, .d (.int .i64 k)), (7, .own 1 2 0 k none)]) (ml := [(45, [.d (encI c.1), .d (encII c.2)]), (23, cF rowRel (X.take k))]) [0, 2] ⟨rfl, rfl, by simp, by simp, by simp [Nat.min_eq_left hk0], by simp [cF_takeG]⟩) ?_
          refine DWp.reg false fun kk hk => ?_
          simp [encI, encII, cF_length rowRel_length, Nat.min_eq_left hk0]
          refine ⟨⟨by omega, by omega⟩, ?_⟩
          refine hk _ ?_
          refine DWp.sub (Sub.of (n := 63) (sl := [(0, .d (encRels l)), (3, .d (encRels X)), (4, .d (.int .i64 i)), (5, .loc 0 0), (6, .d (.int .i64 k)), (7, .own 1 2 0 (k + 1) none)]) (ml := [(45, [.d (encI c.1), .d (encII c.2)]), (23, cF rowRel (X.take k ++ [c]))]) [0, 3] ⟨rfl, rfl, by simp, by simp, by simp, by simp [cF_append, cF_one, rowRel, encI, encII]⟩) ?_
          refine DWp.regionV false ?_
          simp [cF_length rowRel_length, Nat.min_eq_left hk0]
          refine ⟨⟨by omega, wide_rel X⟩, ⟨wide_dropR X k, by omega, by omega⟩, ?_⟩
          refine hk4 _ ?_
          obtain ⟨Y, hY⟩ : ∃ Y, X.take k ++ c :: X.drop k = Y := ⟨_, rfl⟩
          have hYl : k + 1 + (X.length - k) = Y.length := by rw [← hY]; simp; omega
          have hnx : XX l (i + 1) = Y := by rw [hXst, hfin, hY]
          rw [hYl]
          refine DWp.sub (Sub.of (n := 63) (sl := [(0, .d (encRels l)), (4, .d (.int .i64 i)), (3, .own 0 2 0 Y.length none)]) (ml := [(23, cF rowRel Y)]) [2] ⟨rfl, rfl, by simp, by simp, by simp, by simp [← hY, cF_append, cF_cons, cF_dropG]⟩) ?_
          have hTk : List.take (Y.length * 2) (Y.map rowRel).flatten = (Y.map rowRel).flatten := List.take_of_length_le (Nat.le_of_eq (flat_lenF rowRel_length Y))
          refine DWp.sub (Sub.freeze 0 rfl (cF_allD _ _)) ?_
          refine DWp.sub (Sub.of (n := 63) (sl := [(0, .d (encRels l)), (4, .d (.int .i64 i)), (3, .d (encRels Y))]) (ml := []) [] ⟨rfl, rfl, by simp, by simp, by simp [hTk, flat_lenF rowRel_length, chunk_flatF rowRel_length], by simp⟩) ?_
          refine DWp.regionV false ?_
          simp
          have i1 : IntKind.i64.wrap ((i : Int) + 1) = ((i + 1 : Nat) : Int) := by rw [i64_in _ (by omega)]; omega
          refine hkl2 _ (i + 1) (by omega) (by omega) (Sub.of [] ⟨rfl, rfl, by simp, by simp, by simp [i1, hnx], by simp⟩)
    · refine DWp.drawPR false [] (.take 0 (.take 1 (.take 2 (.take 3 (.take 4 (.take 5 (.take 6 (.take 7 (.take 8 (.take 9 (.take 10 (.take 11 (.take 12 .done))))))))))))) mixed (by kernel_rfl) fun kk hk => ?_
      simp [show ¬ k < X.length by omega]
      refine DetCall.intro (d := .int .i64 0) ent35 rfl (fun h => by simp at h) ?_
      simp [show ¬ k < X.length by omega]
      refine hk _ ?_
      refine DWp.condB ?_
      simp
      refine DWp.exit ?_
      simp
      refine hk5 _ ?_
      refine DWp.seqK fun k9 hk9 => ?_
      refine DWp.drawPR false [] (.take 0 (.take 1 (.take 2 (.take 3 (.take 4 (.take 5 (.take 6 (.take 7 (.take 8 (.take 9 (.take 10 (.take 11 (.take 12 .done))))))))))))) mixed (by kernel_rfl) fun kk hk => ?_
      simp [show ¬ k < X.length by omega]
      refine DetCall.intro (d := .int .i64 0) ent35 rfl (fun h => by simp at h) ?_
      simp [show ¬ k < X.length by omega]
      refine hk _ ?_
      refine DWp.condB ?_
      simp
      refine DWp.skip ?_
      refine hk9 _ ?_
      have hfin : insC orderR X c = X.take k ++ c :: X.drop k := by rw [hpd, List.drop_eq_nil_of_le (by omega)]; rfl
      refine DWp.reg false fun kk hk => ?_
      simp [-DV.one]
      refine ⟨⟨by omega, wide_rel X⟩, ⟨wide_takeR X k, by omega, by omega⟩, ?_⟩
      refine hk _ ?_
      refine DWp.sub (Sub.of (n := 63) (sl := [(0, .d (encRels l)), (3, .d (encRels X)), (4, .d (.int .i64 i)), (5, .loc 0 0), (6, .d (.int .i64 k)), (7, .own 1 2 0 k none)]) (ml := [(45, [.d (encI c.1), .d (encII c.2)]), (23, cF rowRel (X.take k))]) [0, 2] ⟨rfl, rfl, by simp, by simp, by simp [Nat.min_eq_left hk0], by simp [cF_takeG]⟩) ?_
      refine DWp.reg false fun kk hk => ?_
      simp [encI, encII, cF_length rowRel_length, Nat.min_eq_left hk0]
      refine ⟨⟨by omega, by omega⟩, ?_⟩
      refine hk _ ?_
      refine DWp.sub (Sub.of (n := 63) (sl := [(0, .d (encRels l)), (3, .d (encRels X)), (4, .d (.int .i64 i)), (5, .loc 0 0), (6, .d (.int .i64 k)), (7, .own 1 2 0 (k + 1) none)]) (ml := [(45, [.d (encI c.1), .d (encII c.2)]), (23, cF rowRel (X.take k ++ [c]))]) [0, 3] ⟨rfl, rfl, by simp, by simp, by simp, by simp [cF_append, cF_one, rowRel, encI, encII]⟩) ?_
      refine DWp.regionV false ?_
      simp [cF_length rowRel_length, Nat.min_eq_left hk0]
      refine ⟨⟨by omega, wide_rel X⟩, ⟨wide_dropR X k, by omega, by omega⟩, ?_⟩
      refine hk4 _ ?_
      obtain ⟨Y, hY⟩ : ∃ Y, X.take k ++ c :: X.drop k = Y := ⟨_, rfl⟩
      have hYl : k + 1 + (X.length - k) = Y.length := by rw [← hY]; simp; omega
      have hnx : XX l (i + 1) = Y := by rw [hXst, hfin, hY]
      rw [hYl]
      refine DWp.sub (Sub.of (n := 63) (sl := [(0, .d (encRels l)), (4, .d (.int .i64 i)), (3, .own 0 2 0 Y.length none)]) (ml := [(23, cF rowRel Y)]) [2] ⟨rfl, rfl, by simp, by simp, by simp, by simp [← hY, cF_append, cF_cons, cF_dropG]⟩) ?_
      have hTk : List.take (Y.length * 2) (Y.map rowRel).flatten = (Y.map rowRel).flatten := List.take_of_length_le (Nat.le_of_eq (flat_lenF rowRel_length Y))
      refine DWp.sub (Sub.freeze 0 rfl (cF_allD _ _)) ?_
      refine DWp.sub (Sub.of (n := 63) (sl := [(0, .d (encRels l)), (4, .d (.int .i64 i)), (3, .d (encRels Y))]) (ml := []) [] ⟨rfl, rfl, by simp, by simp, by simp [hTk, flat_lenF rowRel_length, chunk_flatF rowRel_length], by simp⟩) ?_
      refine DWp.regionV false ?_
      simp
      have i1 : IntKind.i64.wrap ((i : Int) + 1) = ((i + 1 : Nat) : Int) := by rw [i64_in _ (by omega)]; omega
      refine hkl2 _ (i + 1) (by omega) (by omega) (Sub.of [] ⟨rfl, rfl, by simp, by simp, by simp [i1, hnx], by simp⟩)
  · simp [Ff] at hF0
    obtain rfl : i = l.length := by omega
    rw [XX_all]
    refine DWp.exit ?_
    simp
    refine hk1 _ ?_
    refine DWp.reg false fun kk hk => ?_
    simp
    refine hk _ ?_
    refine DWp.ret (hE _ ?_).2
    simp
theorem listRN_lenB {out : List Int} {ins : List (List Int)} {b : Nat} (h : ∀ x ∈ ins, x.length ≤ b) (a : Int) : ∀ i, (listRN out ins a i).length ≤ i * b
  | 0 => by simp [listRN]
  | i + 1 => by
    have ih := listRN_lenB (out := out) h a i
    rw [listRN, Nat.succ_mul]
    split
    · have h1 := foldP_len (ins.getD i []) (listRN out ins a i)
      have h2 : (ins.getD i []).length ≤ b := by
        by_cases e : i < ins.length
        · rw [List.getD_eq_getElem?_getD, List.getElem?_eq_getElem e]; exact h _ (List.getElem_mem e)
        · rw [List.getD_eq_getElem?_getD, List.getElem?_eq_none (by omega)]; simp
      omega
    · omega
/-- Small relations. -/
def okT (r : Rl) : Prop := r.1.length ≤ 10 ∧ r.2.length ≤ 12 ∧ ∀ x ∈ r.2, x.length ≤ 12
theorem okT_S {r : Rl} (h : okT r) : okS r := ⟨by have := h.1; omega, by have := h.2.1; omega, fun x hx => by have := h.2.2 x hx; omega⟩
theorem about_S {r : Rl} (h : okT r) {ls : List Int} (hl : ls.length ≤ 64) : okS (aboutR r ls) := by
  refine ⟨by simp only [aboutR]; omega, by simp only [aboutR, List.length_map]; omega, fun x hx => ?_⟩
  simp only [aboutR, List.mem_map] at hx
  obtain ⟨a, _, rfl⟩ := hx
  have := listRN_lenB (out := r.1) h.2.2 a (min r.1.length r.2.length)
  have := h.1
  rw [listR]
  have : min r.1.length r.2.length ≤ 10 := by omega
  omega
attribute [local simp] encI encII
theorem refLearned_c (l : List Rl) (ls : List Int) (hl : l.length ≤ 1000) (hls : ls.length ≤ 100000) (hok : ∀ r ∈ l, okT r) : FnWp Try.prog 10 [encRels l, encI ls] (· = .ret (.tup [encRels (learnR l ls).1, .int .i64 (learnR l ls).2])) := by
  refine FnWp.intro' Try.func10 rfl (by simp [Try.ntmps10]) fun E hE => ?_
  refine DWp.reg false fun kk hk => ?_
  simp
  refine hk _ ?_
  refine DWp.seqK fun k1 hk1 => ?_
  refine DWp.reg false fun kk hk => ?_
  simp
  refine hk _ ?_
  refine DWp.block ?_
  refine DWp.loopK (fun i : Nat => Know.of 64 [(0, .d (encRels l)), (1, .d (encI ls)), (6, .d (.int .i64 i))] [])
    (fun i => i ≤ ls.length ∧ ∀ j, j < i → badAt ls j = false) (fun i => ls.length - i) 0 (Sub.of [] ⟨rfl, rfl, by simp, by simp, by simp, by simp⟩) ⟨by simp, fun j h => by omega⟩ ?_
  rintro i ⟨hi, hg⟩ kl2 hkl2
  refine DWp.seqK fun k3 hk3 => ?_
  refine DWp.reg false fun kk hk => ?_
  simp
  refine hk _ ?_
  refine DWp.condB ?_
  simp
  refine ⟨fun hT0 => ?_, fun hF0 => ?_⟩
  · simp [Tt] at hT0
    have hlt : i < ls.length := by omega
    refine DWp.skip ?_
    refine hk3 _ ?_
    refine DWp.seqK fun k4 hk4 => ?_
    refine DWp.block ?_
    rcases Nat.eq_zero_or_pos i with hi0 | hi0
    · have wj : IntKind.i64.wrap ((i : Int) - 1) = -1 := by rw [i64_in _ (by omega)]; omega
      have hni : ¬ 0 < i := by omega
      have hbd : badAt ls i = (decide (ls[i] < 0) || decide (4095 < ls[i])) := by simp [badAt, hlt, hni]
      refine DWp.drawPR false [] (.take 0 (.take 1 (.take 2 (.take 3 (.take 4 (.take 5 (.take 6 (.take 7 (.take 8 (.take 9 (.take 10 (.take 11 (.take 12 (.take 13 (.take 14 (.take 15 (.take 16 (.take 17 (.take 18 (.take 19 (.take 20 (.take 21 (.take 22 (.take 23 (.take 24 (.take 25 (.take 26 (.take 27 .done)))))))))))))))))))))))))))) mixed (by kernel_rfl) fun kk hk => ?_
      simp [wj, rowI, hlt, hni, show 0 < ls.length by omega]
      refine hk _ ?_
      refine DWp.sub (Sub.slots [(0, .d (encRels l)), (1, .d (encI ls)), (6, .d (.int .i64 i)), (42, .d (.bool (badAt ls i)))] (by rw [hbd]; simp)) ?_
      refine DWp.condB ?_
      simp
      refine ⟨fun hT1 => ?_, fun hF1 => ?_⟩
      · simp [Tt] at hT1
        refine DWp.reg false fun kk hk => ?_
        simp
        refine hk _ ?_
        refine DWp.ret (hE _ ?_).2
        rw [learnR, learn_bad hlt hT1]
        simp
      · simp [Ff] at hF1
        refine DWp.skip ?_
        refine hk4 _ ?_
        refine DWp.regionV false ?_
        simp
        have i1 : IntKind.i64.wrap ((i : Int) + 1) = ((i + 1 : Nat) : Int) := by rw [i64_in _ (by omega)]; omega
        refine hkl2 _ (i + 1) ⟨by omega, fun j hj => ?_⟩ (by omega) (Sub.of [] ⟨rfl, rfl, by simp, by simp, by simp [i1], by simp⟩)
        by_cases e : j = i
        · subst e; exact hF1
        · exact hg j (by omega)
    · have wj : IntKind.i64.wrap ((i : Int) - 1) = ((i - 1 : Nat) : Int) := by rw [i64_in _ (by omega)]; omega
      have hlt1 : i - 1 < ls.length := by omega
      have hbd : badAt ls i = (decide (ls[i] < 0) || decide (4095 < ls[i]) || decide (ls[i] ≤ ls[i - 1])) := by simp [badAt, hlt, hi0, hlt1]
      refine DWp.drawPR false [] (.take 0 (.take 1 (.take 2 (.take 3 (.take 4 (.take 5 (.take 6 (.take 7 (.take 8 (.take 9 (.take 10 (.take 11 (.take 12 (.take 13 (.take 14 (.take 15 (.take 16 (.take 17 (.take 18 (.take 19 (.take 20 (.take 21 (.take 22 (.take 23 (.take 24 (.take 25 (.take 26 (.take 27 .done)))))))))))))))))))))))))))) mixed (by kernel_rfl) fun kk hk => ?_
      simp [wj, rowI, hlt, hlt1, hi0]
      refine hk _ ?_
      refine DWp.sub (Sub.slots [(0, .d (encRels l)), (1, .d (encI ls)), (6, .d (.int .i64 i)), (42, .d (.bool (badAt ls i)))] (by rw [hbd]; simp)) ?_
      refine DWp.condB ?_
      simp
      refine ⟨fun hT1 => ?_, fun hF1 => ?_⟩
      · simp [Tt] at hT1
        refine DWp.reg false fun kk hk => ?_
        simp
        refine hk _ ?_
        refine DWp.ret (hE _ ?_).2
        rw [learnR, learn_bad hlt hT1]
        simp
      · simp [Ff] at hF1
        refine DWp.skip ?_
        refine hk4 _ ?_
        refine DWp.regionV false ?_
        simp
        have i1 : IntKind.i64.wrap ((i : Int) + 1) = ((i + 1 : Nat) : Int) := by rw [i64_in _ (by omega)]; omega
        refine hkl2 _ (i + 1) ⟨by omega, fun j hj => ?_⟩ (by omega) (Sub.of [] ⟨rfl, rfl, by simp, by simp, by simp [i1], by simp⟩)
        by_cases e : j = i
        · subst e; exact hF1
        · exact hg j (by omega)
  · simp [Ff] at hF0
    obtain rfl : i = ls.length := by omega
    refine DWp.exit ?_
    simp
    refine hk1 _ ?_
    refine DWp.seqK fun k5 hk5 => ?_
    refine DWp.reg false fun kk hk => ?_
    simp
    refine hk _ ?_
    refine DWp.condB ?_
    simp
    refine ⟨fun hT2 => ?_, fun hF2 => ?_⟩
    · simp [Tt] at hT2
      refine DWp.reg false fun kk hk => ?_
      simp
      refine hk _ ?_
      refine DWp.ret (hE _ ?_).2
      rw [learnR, learn_long (by omega)]
      simp
    · simp [Ff] at hF2
      refine DWp.skip ?_
      refine hk5 _ ?_
      have h64 : ls.length ≤ 64 := by omega
      refine DWp.reg false fun kk hk => ?_
      simp
      refine hk _ ?_
      refine DWp.seqK fun k6 hk6 => ?_
      refine DWp.reg false fun kk hk => ?_
      simp
      refine hk _ ?_
      refine DWp.block ?_
      refine DWp.loopK (fun q : Nat × Option Nat => Know.of 64 [(0, .d (encRels l)), (1, .d (encI ls)), (7, .own 0 2 0 q.1 q.2), (8, .d (.int .i64 q.1))] [(23, cF rowRel ((l.take q.1).map fun r => aboutR r ls))])
        (fun q => q.1 ≤ l.length) (fun q => l.length - q.1) (0, some 0) (Sub.of [0] ⟨rfl, rfl, by simp, by simp, by simp, by simp⟩) (by simp) ?_
      rintro ⟨i, cp⟩ hi kl7 hkl7
      simp only at hi ⊢
      refine DWp.seqK fun k8 hk8 => ?_
      refine DWp.reg false fun kk hk => ?_
      simp
      refine hk _ ?_
      refine DWp.condB ?_
      simp
      refine ⟨fun hT3 => ?_, fun hF3 => ?_⟩
      · simp [Tt] at hT3
        have hlt : i < l.length := by omega
        refine DWp.skip ?_
        refine hk8 _ ?_
        refine DWp.seqK fun k9 hk9 => ?_
        refine DWp.block ?_
        refine DWp.regionV false ?_
        simp [hlt, rowRel]
        refine CallAt.det (ds := [encRel l[i], encI ls]) false ent23 rfl (about_c l[i] ls (okT_S (hok _ (List.getElem_mem hlt))) (by omega)) ?_
        simp [encRel]
        refine ⟨⟨by rw [cF_length rowRel_length]; simp; omega, by omega, by omega⟩, ?_⟩
        refine hk9 _ ?_
        refine DWp.regionV false ?_
        simp
        have i1 : IntKind.i64.wrap ((i : Int) + 1) = ((i + 1 : Nat) : Int) := by rw [i64_in _ (by omega)]; omega
        have hst : (l.take (i + 1)).map (fun r => aboutR r ls) = (l.take i).map (fun r => aboutR r ls) ++ [aboutR l[i] ls] := by rw [List.take_succ_eq_append_getElem hlt, List.map_append]; rfl
        refine hkl7 _ (i + 1, none) (by simp only; omega) (by simp only; omega) (Sub.of [2] ⟨rfl, rfl, by simp, by simp, by simp [i1], by simp only [hst, cF_append, cF_one]; simp [rowRel, encI]⟩)
      · simp [Ff] at hF3
        obtain rfl : i = l.length := by omega
        refine DWp.exit ?_
        simp
        refine hk6 _ ?_
        obtain ⟨Y, hY⟩ : ∃ Y, l.map (fun r => aboutR r ls) = Y := ⟨_, rfl⟩
        have hYl : l.length = Y.length := by rw [← hY]; simp
        rw [List.take_of_length_le (show (l.map fun r => aboutR r ls).length ≤ l.length by simp), hY]
        have hYo : ∀ r ∈ Y, okS r := fun r hr => by rw [← hY] at hr; obtain ⟨s, hs, rfl⟩ := List.mem_map.1 hr; exact about_S (hok s hs) h64
        rw [hYl]
        have hTk : List.take (Y.length * 2) (Y.map rowRel).flatten = (Y.map rowRel).flatten := List.take_of_length_le (Nat.le_of_eq (flat_lenF rowRel_length Y))
        refine DWp.sub (Sub.freeze 0 rfl (cF_allD _ _)) ?_
        refine DWp.sub (Sub.of (n := 64) (sl := [(7, .d (encRels Y))]) (ml := []) [] ⟨rfl, rfl, by simp, by simp, by simp [hTk, flat_lenF rowRel_length, chunk_flatF rowRel_length], by simp⟩) ?_
        refine DWp.reg false fun kk hk => ?_
        simp
        refine CallAt.det false ent17 rfl (refPub_c Y (by omega) hYo) ?_
        simp
        refine hk _ ?_
        refine DWp.ret (hE _ ?_).2
        rw [learnR, learn_good hg h64, if_pos rfl, hY]
        simp
end Go.Bf
