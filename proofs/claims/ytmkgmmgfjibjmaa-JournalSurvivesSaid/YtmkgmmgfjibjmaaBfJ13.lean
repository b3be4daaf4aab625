/-
  The law on syncing in steps. Printed by program (j13.py). Nothing is claimed here.
-/
import Derived.Test.YtmkgmmgfjibjmaaBfJ10
import Derived.Test.YtmkgmmgfjibjmaaBfJ15
set_option maxRecDepth 100000
set_option maxHeartbeats 8000000
namespace Go.Bf
open Go Go.RowKit Go.Proofs Go.IntWalk
attribute [local simp] encB rowL rowW encSs encPs encD maxLen isBytes_map bytesOf_map encJ
def add1 (j : Jn) (b : List UInt8) : Jn := if (appendJ j b).2 = 0 then (appendJ j b).1 else j
def addJ (j : Jn) (l : List (List UInt8)) : Jn := l.foldl add1 j
theorem addJ_succ (j : Jn) (l : List (List UInt8)) (i : Nat) (h : i < l.length) : addJ j (l.take (i + 1)) = add1 (addJ j (l.take i)) l[i] := by
  rw [List.take_succ_eq_append_getElem h]; simp only [addJ, List.foldl_append, List.foldl_cons, List.foldl_nil]
/-- A journal whose records have room. -/
structure Sm (j : Jn) : Prop where
  ok : okJ j = true
  used : (usedN j.recs : Int) ≤ j.many
  len : ∀ b ∈ j.recs, b.length ≤ 140737488355328
theorem usedN_len (l : List (List UInt8)) : l.length ≤ usedN l := by
  induction l with
  | nil => simp
  | cons b l ih => rw [usedN_cons, List.length_cons]; have := secD_pos b.length; omega
theorem Sm.syn {j : Jn} (h : Sm j) : 0 ≤ j.synced ∧ j.synced ≤ j.recs.length ∧ 1 ≤ j.many ∧ j.many ≤ 4096 := by
  have := okJ_syn h.ok
  omega
theorem Sm.fit {j : Jn} (h : Sm j) : FitL j.recs := ⟨by have := h.syn; have := h.used; have := usedN_len j.recs; omega, h.len⟩
theorem Sm.of {j : Jn} (h1 : 1 ≤ j.many ∧ j.many ≤ 4096) (h2 : 0 ≤ j.synced ∧ j.synced ≤ j.recs.length) (h3 : (usedN j.recs : Int) ≤ j.many) (h4 : ∀ b ∈ j.recs, b.length ≤ 140737488355328) : Sm j := by
  refine ⟨?_, h3, h4⟩
  have := usedW_eq j.recs (by omega)
  simp only [okJ]
  simp
  omega
theorem append_sm {j : Jn} (h : Sm j) {b : List UInt8} (hb : b.length ≤ 140737488355328) (h0 : (appendJ j b).2 = 0) : (appendJ j b).1 = { j with recs := j.recs ++ [b] } ∧ Sm (appendJ j b).1 := by
  have hs := h.syn
  have hu := h.used
  have hw := usedW_eq j.recs (by omega)
  have hle := secD_le b.length hb
  unfold appendJ at h0 ⊢
  rw [if_pos h.ok] at h0 ⊢
  by_cases hc : leftJ j < secD b.length
  · rw [if_pos hc] at h0; cases h0
  · rw [if_neg hc]
    have hl : leftJ j = j.many - usedN j.recs := by rw [leftJ, hw, i64_in _ (by omega)]
    refine ⟨rfl, Sm.of ⟨hs.2.2.1, hs.2.2.2⟩ ⟨hs.1, by simp; omega⟩ ?_ fun c hc => ?_⟩
    · simp only [usedN_snoc]; omega
    · rcases List.mem_append.1 hc with hc | hc
      · exact h.len c hc
      · simp at hc; subst hc; exact hb
theorem add1_sm {j : Jn} (h : Sm j) {b : List UInt8} (hb : b.length ≤ 140737488355328) : Sm (add1 j b) ∧ (add1 j b).many = j.many ∧ (add1 j b).synced = j.synced ∧ ∃ t, (add1 j b).recs = j.recs ++ t := by
  unfold add1
  by_cases h0 : (appendJ j b).2 = 0
  · obtain ⟨h1, h2⟩ := append_sm h hb h0
    rw [if_pos h0]
    refine ⟨h2, ?_, ?_, [b], ?_⟩ <;> rw [h1]
  · rw [if_neg h0]
    exact ⟨h, rfl, rfl, [], by simp⟩
theorem addJ_sm : ∀ (l : List (List UInt8)) {j : Jn}, Sm j → (∀ b ∈ l, b.length ≤ 140737488355328) → Sm (addJ j l) ∧ (addJ j l).many = j.many ∧ (addJ j l).synced = j.synced ∧ ∃ t, (addJ j l).recs = j.recs ++ t
  | [], j, h, _ => ⟨h, rfl, rfl, [], by simp [addJ]⟩
  | b :: l, j, h, hl => by
    obtain ⟨h1, h2, h3, t, h4⟩ := add1_sm h (hl b (by simp))
    obtain ⟨g1, g2, g3, u, g4⟩ := addJ_sm l h1 (fun c hc => hl c (by simp [hc]))
    exact ⟨g1, g2.trans h2, g3.trans h3, t ++ u, by show (addJ (add1 j b) l).recs = _; rw [g4, h4, List.append_assoc]⟩
theorem append_fits {j : Jn} (b : List UInt8) : FitL (appendJ j b).1.recs ∨ True := .inr trivial
theorem ent25 : Enters Try.prog 25 := enters_of Try.func25 rfl rfl
theorem add_c (j : Jn) (hj : Sm j) (l : List (List UInt8)) (hl : FitL l) : FnWp Try.prog 25 [encJ j, encSs l] (· = .ret (encJ (addJ j l))) := by
  refine FnWp.intro' Try.func25 rfl (by simp [Try.ntmps25]) fun E hE => ?_
  refine DWp.reg false fun kk hk => ?_
  simp
  refine hk _ ?_
  refine DWp.seqK fun k1 hk1 => ?_
  refine DWp.reg false fun kk hk => ?_
  simp
  refine hk _ ?_
  refine DWp.block ?_
  refine DWp.loopK (fun q : Nat × Jn => Know.of 26 [(2, .loc 0 0), (4, .loc 1 0), (9, .d (encSs l)), (10, .d (.int .i64 l.length)), (11, .d (.int .i64 q.1))] [(29, [.d (.int .i64 q.2.many), .d (.int .i64 q.2.synced), .d (encSs q.2.recs)]), (29, [.d (.int .i64 0), .d (.int .i64 0), .clip []])])
    (fun q => q.1 ≤ l.length ∧ Sm q.2 ∧ q.2 = addJ j (l.take q.1)) (fun q => l.length - q.1) (0, j) (Sub.of [0, 1] ⟨rfl, rfl, by simp, by simp, by simp, by simp⟩) ⟨by simp, hj, by simp [addJ]⟩ ?_
  rintro ⟨i, x⟩ ⟨hi, hx, hxa⟩ kl2 hkl2
  simp only at hi hx hxa ⊢
  refine DWp.reg false fun kk hk => ?_
  simp
  refine hk _ ?_
  refine DWp.seqK fun k3 hk3 => ?_
  refine DWp.condB ?_
  simp
  refine ⟨fun hT0 => ?_, fun hF0 => ?_⟩
  · simp [Tt] at hT0
    have hlt : i < l.length := by omega
    refine DWp.skip ?_
    refine hk3 _ ?_
    refine DWp.seqK fun k4 hk4 => ?_
    refine DWp.block ?_
    refine DWp.reg false fun kk hk => ?_
    simp [hlt]
    refine hk _ ?_
    refine DWp.reg false fun kk hk => ?_
    simp
    refine CallAt.det false ent14 rfl (jappend_c x hx.fit l[i] (hl.2 _ (List.getElem_mem hlt))) ?_
    simp
    refine hk _ ?_
    refine DWp.reg false fun kk hk => ?_
    simp
    refine hk _ ?_
    refine DWp.condB ?_
    simp
    refine ⟨fun hT1 => ?_, fun hF1 => ?_⟩
    · simp [Tt] at hT1
      have hadd : add1 x l[i] = (appendJ x l[i]).1 := if_pos hT1
      refine DWp.regionV false ?_
      simp
      refine hk4 _ ?_
      refine DWp.regionV false ?_
      simp
      have i1 : IntKind.i64.wrap ((i : Int) + 1) = ((i + 1 : Nat) : Int) := by have := hl.1; rw [i64_in _ (by omega)]; omega
      refine hkl2 _ (i + 1, add1 x l[i]) ⟨by simp only; omega, (add1_sm hx (hl.2 _ (List.getElem_mem hlt))).1, by simp only; rw [addJ_succ j l i hlt, hxa]⟩ (by simp only; omega) (Sub.of [0, 1] ⟨rfl, rfl, by simp, by simp, by simp [i1], by simp [hadd]⟩)
    · simp [Ff] at hF1
      have hadd : add1 x l[i] = x := if_neg hF1
      refine DWp.skip ?_
      refine hk4 _ ?_
      refine DWp.regionV false ?_
      simp
      have i1 : IntKind.i64.wrap ((i : Int) + 1) = ((i + 1 : Nat) : Int) := by have := hl.1; rw [i64_in _ (by omega)]; omega
      refine hkl2 _ (i + 1, add1 x l[i]) ⟨by simp only; omega, (add1_sm hx (hl.2 _ (List.getElem_mem hlt))).1, by simp only; rw [addJ_succ j l i hlt, hxa]⟩ (by simp only; omega) (Sub.of [0, 1] ⟨rfl, rfl, by simp, by simp, by simp [i1], by simp [hadd]⟩)
  · simp [Ff] at hF0
    obtain rfl : i = l.length := by omega
    rw [List.take_length] at hxa
    refine DWp.exit ?_
    simp
    refine hk1 _ ?_
    refine DWp.reg false fun kk hk => ?_
    simp
    refine hk _ ?_
    refine DWp.ret (hE _ ?_).2
    rw [← hxa]
    simp
end Go.Bf
