/-
  Views: what a firm sees. Printed by program (v9.py). Nothing is claimed here.
-/
import Derived.Test.YtlnjeijklnoogaaBfV8
set_option maxRecDepth 100000
set_option maxHeartbeats 16000000
namespace Go.Bf
open Go Go.RowKit Go.Proofs Go.IntWalk
attribute [local simp] maxLen encMsgs take_rowMsg take_rowMsgD spl_msg rowMsg_one'
theorem zrows_msg (n : Nat) : zrows [DV.int IntKind.i64 0, DV.int IntKind.i64 0, DV.int IntKind.i64 0, DV.int IntKind.i64 0, DV.int IntKind.i64 0, DV.int IntKind.i64 0, DV.int IntKind.i64 0, DV.int IntKind.i64 0, DV.list [], DV.list [], DV.list [], DV.int IntKind.u8 0, DV.int IntKind.u8 0, DV.int IntKind.u8 0, DV.int IntKind.u8 0, DV.int IntKind.u8 0, DV.int IntKind.u8 0, DV.int IntKind.u8 0, DV.int IntKind.u8 0, DV.int IntKind.u8 0, DV.int IntKind.u8 0, DV.int IntKind.u8 0, DV.int IntKind.u8 0, DV.int IntKind.u8 0, DV.int IntKind.u8 0, DV.int IntKind.u8 0, DV.int IntKind.u8 0, DV.int IntKind.u8 0, DV.int IntKind.u8 0, DV.int IntKind.u8 0, DV.int IntKind.u8 0, DV.int IntKind.u8 0, DV.int IntKind.u8 0, DV.int IntKind.u8 0, DV.int IntKind.u8 0, DV.int IntKind.u8 0, DV.int IntKind.u8 0, DV.int IntKind.u8 0, DV.int IntKind.u8 0, DV.int IntKind.u8 0, DV.int IntKind.u8 0, DV.int IntKind.u8 0, DV.int IntKind.u8 0] n = cF rowMsg (List.replicate n zMsg) := by rw [← zrows_F (f := rowMsg) zMsg n]; rfl
theorem wide_msg (l : List Msg) : Wide 43 (l.map rowMsg) := fun r hr => by
  obtain ⟨m, _, rfl⟩ := List.mem_map.1 hr
  simp
/-- What is seen. -/
def seenD (l : List Msg) (id : Int) : List Msg := l.filter fun m => decide (m.to = id)
def idxD (l : List Msg) (id : Int) : Int := match l.findIdx? (fun m => decide (m.to ≠ id)) with
  | none => -1
  | some i => i
theorem idx_none {l : List Msg} {id : Int} (h : ∀ j (hj : j < l.length), l[j].to = id) : idxD l id = -1 ∧ seenD l id = l := by
  have h1 : l.findIdx? (fun m => decide (m.to ≠ id)) = none := by
    rw [List.findIdx?_eq_none_iff]
    intro x hx
    obtain ⟨j, hj, rfl⟩ := List.mem_iff_getElem.1 hx
    simp [h j hj]
  refine ⟨by rw [idxD, h1], ?_⟩
  rw [seenD, List.filter_eq_self]
  intro x hx
  obtain ⟨j, hj, rfl⟩ := List.mem_iff_getElem.1 hx
  simp [h j hj]
theorem idx_some {l : List Msg} {id : Int} {i : Nat} (hi : i < l.length) (h : ∀ j (hj : j < i), (l[j]'(by omega)).to = id) (hn : l[i].to ≠ id) : idxD l id = i := by
  have : l.findIdx? (fun m => decide (m.to ≠ id)) = some i := by
    rw [List.findIdx?_eq_some_iff_getElem]
    exact ⟨hi, by simpa using hn, fun j hj => by simp [h j hj]⟩
  rw [idxD, this]
theorem idx_inv {l : List Msg} {id : Int} : (idxD l id = -1 ∧ seenD l id = l) ∨ ∃ i, ∃ hi : i < l.length, idxD l id = (i : Int) ∧ seenD (l.take i) id = l.take i ∧ l[i].to ≠ id := by
  cases h : l.findIdx? (fun m => decide (m.to ≠ id)) with
  | none =>
    left
    rw [List.findIdx?_eq_none_iff] at h
    exact idx_none fun j hj => by have := h _ (List.getElem_mem hj); simpa using this
  | some i =>
    right
    have h0 := h
    rw [List.findIdx?_eq_some_iff_getElem] at h
    obtain ⟨h1, h2, h3⟩ := h
    refine ⟨i, h1, by rw [idxD, h0], ?_, by simpa using h2⟩
    refine (idx_none fun j hj => ?_).2
    have hj' : j < i := by simp at hj; omega
    have := h3 j hj'
    simpa using this
theorem seen_take (l : List Msg) (id : Int) {j : Nat} (h : j < l.length) : seenD (l.take (j + 1)) id = seenD (l.take j) id ++ (if l[j].to = id then [l[j]] else []) := by
  rw [List.take_succ_eq_append_getElem h, seenD, seenD, List.filter_append]
  congr 1
  by_cases e : l[j].to = id <;> simp [e]
theorem ent51 : Enters Try.prog 51 := enters_of Try.func51 rfl rfl
theorem ent25 : Enters Try.prog 25 := enters_of Try.func25 rfl rfl
theorem ent26 : Enters Try.prog 26 := enters_of Try.func26 rfl rfl
theorem ent27 : Enters Try.prog 27 := enters_of Try.func27 rfl rfl
theorem ent12 : Enters Try.prog 12 := enters_of Try.func12 rfl rfl
theorem del_c (m : Msg) (id : Int) : FnWp Try.prog 27 [encMsg m, .ptr [.int .i64 id]] (· = .ret (.bool (!decide (m.to = id)))) := by
  refine FnWp.intro' Try.func27 rfl (by simp [Try.ntmps27]) fun E hE => ?_
  refine DWp.reg false fun kk hk => ?_
  simp [encMsg, rowMsg, m.sg.2]
  refine ⟨⟨rfl, rfl, rfl, fun x _ => rfl⟩, ?_⟩
  refine hk _ ?_
  refine DWp.reg false fun kk hk => ?_
  simp
  refine hk _ ?_
  refine DWp.ret (hE _ ?_).2
  simp
theorem index_c (l : List Msg) (id : Int) (hl : l.length ≤ 4611686018427387903) : FnWp Try.prog 51 [encMsgs l, .fn 27 [.ptr [.int .i64 id]]] (· = .ret (.int .i64 (idxD l id))) := by
  refine FnWp.intro' Try.func51 rfl (by simp [Try.ntmps51]) fun E hE => ?_
  refine DWp.reg false fun kk hk => ?_
  simp
  refine hk _ ?_
  refine DWp.seqK fun k1 hk1 => ?_
  refine DWp.reg false fun kk hk => ?_
  simp
  refine hk _ ?_
  refine DWp.block ?_
  refine DWp.loopK (fun i : Nat => Know.of 19 [(0, .d (encMsgs l)), (1, .d (.fn 27 [.ptr [.int .i64 id]])), (6, .d (encMsgs l)), (7, .d (.int .i64 l.length)), (8, .d (.int .i64 i))] [])
    (fun i => i ≤ l.length ∧ ∀ j (hj : j < i) (hl : i ≤ l.length), l[j].to = id) (fun i => l.length - i) 0 (Sub.of [] ⟨rfl, rfl, by simp, by simp, by simp, by simp⟩) ⟨by simp, fun j hj => by omega⟩ ?_
  rintro i ⟨hi, hall⟩ kl2 hkl2
  refine DWp.reg false fun kk hk => ?_
  simp
  refine hk _ ?_
  refine DWp.seqK fun k3 hk3 => ?_
  refine DWp.condB ?_
  simp
  refine ⟨fun hT0 => ?_, fun hF0 => ?_⟩
  · simp [Tt] at hT0
    have hlt : i < l.length := by omega
    refine DWp.skip ?_
    refine hk3 _ ?_
    refine DWp.seqK fun k4 hk4 => ?_
    refine DWp.block ?_
    refine DWp.reg false fun kk hk => ?_
    simp
    refine hk _ ?_
    refine DWp.reg false fun kk hk => ?_
    simp [hlt]
    refine CallAt.det false ent27 rfl (del_c l[i] id) ?_
    simp
    refine hk _ ?_
    refine DWp.condB ?_
    simp
    refine ⟨fun hT1 => ?_, fun hF1 => ?_⟩
    · simp [Tt] at hT1
      refine DWp.reg false fun kk hk => ?_
      simp
      refine hk _ ?_
      refine DWp.ret (hE _ ?_).2
      rw [idx_some hlt (fun j hj => hall j hj hi) hT1]
      simp
    · simp [Ff] at hF1
      refine DWp.skip ?_
      refine hk4 _ ?_
      refine DWp.regionV false ?_
      simp
      have i1 : IntKind.i64.wrap ((i : Int) + 1) = ((i + 1 : Nat) : Int) := by rw [i64_in _ (by omega)]; omega
      refine hkl2 _ (i + 1) ⟨by omega, fun j hj hl2 => ?_⟩ (by omega) (Sub.of [] ⟨rfl, rfl, by simp, by simp, by simp [i1], by simp⟩)
      by_cases e : j = i
      · subst e; exact hF1
      · exact hall j (by omega) hi
  · simp [Ff] at hF0
    obtain rfl : i = l.length := by omega
    refine DWp.exit ?_
    simp
    refine hk1 _ ?_
    refine DWp.reg false fun kk hk => ?_
    simp
    refine hk _ ?_
    refine DWp.ret (hE _ ?_).2
    rw [(idx_none fun j hj => hall j hj hi).1]
    simp
theorem delete_c (l : List Msg) (id : Int) (c : Option Nat) (hl : l.length ≤ 4611686018427387903) : FnM1 Try.prog 25 [.own 0 43 0 l.length c, .d (.fn 27 [.ptr [.int .i64 id]])] 22 (l.map rowMsg).flatten (fun s ds' => (∃ c, s = .own 0 43 0 (seenD l id).length c) ∧ ∃ z : List Msg, ds' = ((seenD l id ++ z).map rowMsg).flatten) := by
  refine FnM1.intro' 0 Try.func25 rfl (by simp [Try.ntmps25]) (.inr ⟨_, _, _, _, rfl⟩) fun E hE => ?_
  refine DWp.reg false fun kk hk => ?_
  simp
  refine hk _ ?_
  refine DWp.sub (Sub.of (n := 42) (sl := [(0, .own 0 43 0 l.length c), (1, .d (.fn 27 [.ptr [.int .i64 id]])), (4, .clip [])]) (ml := [(22, cF rowMsg l)]) [0] ⟨rfl, rfl, by simp, by simp, by simp, by simp [cF_flat]⟩) ?_
  have hTk : List.take (l.length * 43) (cF rowMsg l) = cF rowMsg l := List.take_of_length_le (Nat.le_of_eq (cF_length rowMsg_length l))
  have hsn : snapD (Know.of 42 [(0, .own 0 43 0 l.length c), (1, .d (.fn 27 [.ptr [.int .i64 id]])), (4, .clip [])] [(22, cF rowMsg l)] (fun _ _ _ => True) [0]).mem 6 (.own 0 43 0 l.length c) = some (encMsgs l) := by simp only [snapD, Know.of_mem, List.getElem?_cons_zero, List.drop_zero, hTk, cF_allD]; rw [if_pos (flat_lenF rowMsg_length l), if_neg (by omega), chunk_flatF rowMsg_length]; rfl
  refine DWp.reg false fun kk hk => ?_
  simp
  refine CallAt.lend (ds := [encMsgs l, .fn 27 [.ptr [.int .i64 id]]]) false ent51 (by simp only [snapL]; rw [hsn]; rfl) (index_c l id hl) rfl ?_
  simp
  refine hk _ ?_
  refine DWp.seqK fun k1 hk1 => ?_
  rcases idx_inv (l := l) (id := id) with ⟨h1, h2⟩ | ⟨i, hi, h1, h2, h3⟩
  · refine DWp.reg false fun kk hk => ?_
    simp [h1]
    refine hk _ ?_
    refine DWp.condB ?_
    simp
    refine DWp.reg false fun kk hk => ?_
    simp
    refine hk _ ?_
    refine (DWp.ret (hE _ ⟨by simp, 0, _, ((l).map rowMsg).flatten, .inr ⟨43, 0, l.length, c, by simp, by simp⟩, by first | rfl | (simp; rfl), by first | exact allD_mapD _ | (rw [cF_flat]; exact cF_allD _ _) | exact cF_allD _ _ | simp, .inr ?_⟩).2)
    simp [h2]
    exact ⟨[], by simp⟩
  · refine DWp.reg false fun kk hk => ?_
    simp [h1]
    refine hk _ ?_
    refine DWp.condB ?_
    simp [show ¬ ((i : Int) = -1) by omega]
    refine DWp.skip ?_
    refine hk1 _ ?_
    refine DWp.seqK fun k2 hk2 => ?_
    refine DWp.reg false fun kk hk => ?_
    simp
    refine hk _ ?_
    refine DWp.block ?_
    have i0 : IntKind.i64.wrap ((i : Int) + 1) = ((i + 1 : Nat) : Int) := by rw [i64_in _ (by omega)]; omega
    have hA0 : l.take i ++ l[i] :: l.drop (i + 1) = l := by rw [← List.drop_eq_getElem_cons hi, List.take_append_drop]
    refine DWp.loopK (fun q : Nat × List Msg × List Msg => Know.of 42 [(0, .own 0 43 0 l.length c), (1, .d (.fn 27 [.ptr [.int .i64 id]])), (5, .d (.int .i64 q.2.1.length)), (6, .d (.int .i64 q.1))] [(22, cF rowMsg (q.2.1 ++ (q.2.2 ++ l.drop q.1)))] (fun _ _ _ => True) [0])
      (fun q => q.1 ≤ l.length ∧ seenD (l.take q.1) id = q.2.1 ∧ q.2.1.length + q.2.2.length = q.1 ∧ 0 < q.2.2.length) (fun q => l.length - q.1) (i + 1, l.take i, [l[i]]) (Sub.of [0] ⟨rfl, rfl, by simp, by simp, by simp [i0, Nat.min_eq_left (Nat.le_of_lt hi)], by simp [hA0]⟩) ⟨by simp only; omega, by rw [seen_take l id hi, h2, if_neg h3, List.append_nil], by simp; omega, by simp⟩ ?_
    rintro ⟨j, w, u⟩ ⟨hj, hw, hwu, hu⟩ kl3 hkl3
    simp only at hj hw hwu hu ⊢
    refine DWp.seqK fun k4 hk4 => ?_
    refine DWp.reg false fun kk hk => ?_
    simp
    refine hk _ ?_
    refine DWp.condB ?_
    simp
    refine ⟨fun hT1 => ?_, fun hF1 => ?_⟩
    · simp [Tt] at hT1
      have hlt : j < l.length := by omega
      obtain ⟨x, hx⟩ : ∃ x, l[j] = x := ⟨_, rfl⟩
      obtain ⟨rest, hrest⟩ : ∃ r, l.drop (j + 1) = r := ⟨_, rfl⟩
      have hdr : l.drop j = x :: rest := by rw [List.drop_eq_getElem_cons hlt, hx, hrest]
      rw [hdr]
      obtain ⟨A, hAA⟩ : ∃ A, w ++ (u ++ x :: rest) = A := ⟨_, rfl⟩
      have hAl : A.length = l.length := by have := congrArg List.length hdr; simp at this; rw [← hAA]; simp; omega
      have hA : List.take 43 (List.drop (j * 43) (cF rowMsg A)) = (rowMsg x).map .d := by have := cF_at rowMsg_length (w ++ u) x rest (j := j) (by simp; omega); rw [← hAA]; simpa using this
      have hcl : (cF rowMsg A).length = l.length * 43 := by rw [cF_length rowMsg_length, hAl]
      rw [hAA]
      refine DWp.skip ?_
      refine hk4 _ ?_
      refine DWp.seqK fun k5 hk5 => ?_
      refine DWp.block ?_
      refine DWp.reg false fun kk hk => ?_
      simp [hA, hcl]
      refine ⟨by omega, by omega, rowMsg_one _, ?_⟩
      refine hk _ ?_
      refine DWp.reg false fun kk hk => ?_
      simp
      refine CallAt.det false ent27 rfl (del_c x id) ?_
      simp
      refine hk _ ?_
      refine DWp.condB ?_
      simp
      refine ⟨fun hT2 => ?_, fun hF2 => ?_⟩
      · simp [Tt] at hT2
        obtain ⟨h0, g, rfl⟩ : ∃ h0 g, u = h0 :: g := by cases u with | nil => simp at hu | cons h g => exact ⟨h, g, rfl⟩
        have hP := cF_put rowMsg_length (by omega) w h0 x (g ++ x :: rest) (j := w.length) rfl
        rw [show w ++ h0 :: (g ++ x :: rest) = A by rw [← hAA]; rfl] at hP
        have w1 : IntKind.i64.wrap ((w.length : Int) + 1) = ((w.length + 1 : Nat) : Int) := by rw [i64_in _ (by omega)]; omega
        refine DWp.reg false fun kk hk => ?_
        simp [hP, hcl]
        refine ⟨by omega, rowMsg_one _, by omega, ?_⟩
        refine hk _ ?_
        refine DWp.regionV false ?_
        simp
        refine hk5 _ ?_
        refine DWp.regionV false ?_
        simp
        have k1 : IntKind.i64.wrap ((j : Int) + 1) = ((j + 1 : Nat) : Int) := by rw [i64_in _ (by omega)]; omega
        refine hkl3 _ (j + 1, w ++ [x], g ++ [x]) ⟨by simp only; omega, by simp only; rw [seen_take l id hlt, hw, hx, if_pos hT2], by simp at hwu ⊢; omega, by simp⟩ (by simp only; omega) (Sub.of [0] ⟨rfl, rfl, by simp, by simp, by simp [k1, w1], by simp [hrest]⟩)
      · simp [Ff] at hF2
        refine DWp.skip ?_
        refine hk5 _ ?_
        refine DWp.regionV false ?_
        simp
        have k1 : IntKind.i64.wrap ((j : Int) + 1) = ((j + 1 : Nat) : Int) := by rw [i64_in _ (by omega)]; omega
        refine hkl3 _ (j + 1, w, u ++ [x]) ⟨by simp only; omega, by simp only; rw [seen_take l id hlt, hw, hx, if_neg hF2, List.append_nil], by simp; omega, by simp⟩ (by simp only; omega) (Sub.of [0] ⟨rfl, rfl, by simp, by simp, by simp [k1], by simp [hrest, ← hAA]⟩)
    · simp [Ff] at hF1
      obtain rfl : j = l.length := by omega
      rw [List.drop_length, List.append_nil]
      rw [List.take_length] at hw
      refine DWp.exit ?_
      simp
      refine hk2 _ ?_
      refine DWp.reg false fun kk hk => ?_
      simp [zrows_msg, cF_length rowMsg_length]
      refine ⟨⟨by omega, .inr (by omega)⟩, by omega, ?_⟩
      refine hk _ ?_
      have hsp := cF_spl rowMsg_length (by omega) w u (List.replicate (l.length - w.length) zMsg) (by simp; omega)
      refine DWp.sub (Sub.of (n := 42) (sl := [(0, .own 0 43 0 l.length c), (5, .d (.int .i64 w.length))]) (ml := [(22, cF rowMsg (w ++ List.replicate (l.length - w.length) zMsg))]) [0] ⟨rfl, rfl, by simp, by simp, by simp, by simp [hsp]⟩) ?_
      refine DWp.reg false fun kk hk => ?_
      simp
      refine ⟨by omega, ?_⟩
      refine hk _ ?_
      subst hw
      refine (DWp.ret (hE _ ⟨by simp, 0, _, ((seenD l id ++ List.replicate (l.length - (seenD l id).length) zMsg).map rowMsg).flatten, .inr ⟨43, 0, l.length, c, by simp, by simp⟩, by first | rfl | (simp; rfl), by first | exact allD_mapD _ | (rw [cF_flat]; exact cF_allD _ _) | exact cF_allD _ _ | simp, .inr ?_⟩).2)
      simp
      exact ⟨List.replicate (l.length - (seenD l id).length) zMsg, by simp⟩
theorem cloneNil_c  : FnWp Try.prog 26 [.list []] (· = .ret (.list [])) := by
  refine FnWp.intro' Try.func26 rfl (by simp [Try.ntmps26]) fun E hE => ?_
  refine DWp.reg false fun kk hk => ?_
  simp
  refine hk _ ?_
  refine DWp.seqK fun k1 hk1 => ?_
  refine DWp.reg false fun kk hk => ?_
  simp
  refine OpsWp.nilEq (xs := []) rfl Try.underlying22 rfl (by simp) (by simp) fun b hb => VCops_sound (im := false) _ _ ?_
  simp
  refine hk _ ?_
  refine DWp.condB ?_
  simp
  refine ⟨fun hT0 => ?_, fun hF0 => ?_⟩
  · simp [Tt] at hT0
    refine DWp.reg false fun kk hk => ?_
    simp
    refine hk _ ?_
    refine DWp.ret (hE _ ?_).2
    simp
  · simp [Ff] at hF0
    refine DWp.skip ?_
    refine hk1 _ ?_
    refine DWp.reg false fun kk hk => ?_
    simp
    refine ⟨(fun x hx => by simp at hx), ?_⟩
    refine hk _ ?_
    refine DWp.ret (hE _ ?_).2
    simp
theorem clone_c (l : List Msg) (h0 : 0 < l.length) (hl : l.length ≤ 100000) : FnWp Try.prog 26 [encMsgs l] (· = .fresh (.own 0 43 0 l.length none) [(22, cF rowMsg l)]) := by
  refine FnWp.intro' Try.func26 rfl (by simp [Try.ntmps26]) fun E hE => ?_
  refine DWp.reg false fun kk hk => ?_
  simp
  refine hk _ ?_
  refine DWp.seqK fun k1 hk1 => ?_
  refine DWp.reg false fun kk hk => ?_
  simp
  refine OpsWp.nilEq (xs := l.map rowMsg) rfl Try.underlying22 rfl (by simp) (by simp) fun b hb => VCops_sound (im := false) _ _ ?_
  obtain rfl : b = false := by cases b with | false => rfl | true => exact absurd (hb rfl) (by cases l; simp at h0; simp)
  simp
  refine hk _ ?_
  refine DWp.condB ?_
  simp
  refine DWp.skip ?_
  refine hk1 _ ?_
  refine DWp.reg false fun kk hk => ?_
  simp
  refine ⟨⟨wide_msg l, by omega, by omega⟩, ?_⟩
  refine hk _ ?_
  refine DWp.ret (hE _ (.inr (.inr ⟨.own 0 43 0 l.length none, [(22, cF rowMsg l)], [1], ⟨rfl, rfl, by simp, by simp, by simp, by simp [cF_flat]⟩, rfl⟩))).2
theorem delNil_c (id : Int) : FnWp Try.prog 25 [.list [], .fn 27 [.ptr [.int .i64 id]]] (· = .ret (.list [])) := by
  refine FnWp.intro' Try.func25 rfl (by simp [Try.ntmps25]) fun E hE => ?_
  refine DWp.reg false fun kk hk => ?_
  simp
  refine hk _ ?_
  refine DWp.reg false fun kk hk => ?_
  simp
  refine CallAt.det false ent51 rfl (index_c [] id (by simp)) ?_
  simp
  have i1 : idxD [] id = -1 := rfl
  refine hk _ ?_
  refine DWp.seqK fun k1 hk1 => ?_
  refine DWp.reg false fun kk hk => ?_
  simp [i1]
  refine hk _ ?_
  refine DWp.condB ?_
  simp
  refine DWp.reg false fun kk hk => ?_
  simp
  refine hk _ ?_
  refine DWp.ret (hE _ ?_).2
  simp
theorem Seen_c (l : List Msg) (id : Int) (hl : l.length ≤ 100000) : FnWp Try.prog 12 [encMsgs l, .int .i64 id] (· = .ret (encMsgs (seenD l id))) := by
  refine FnWp.intro' Try.func12 rfl (by simp [Try.ntmps12]) fun E hE => ?_
  refine DWp.reg false fun kk hk => ?_
  simp
  refine hk _ ?_
  rcases Nat.eq_zero_or_pos l.length with h0 | h0
  · refine DWp.sub (Sub.freeze 0 rfl rfl) ?_
    refine DWp.reg false fun kk hk => ?_
    simp
    obtain rfl := List.eq_nil_of_length_eq_zero h0
    refine CallAt.det false ent26 rfl cloneNil_c ?_
    simp
    refine CallAt.det false ent25 rfl (delNil_c id) ?_
    simp
    refine hk _ ?_
    refine DWp.ret (hE _ ?_).2
    simp [seenD]
  · refine DWp.sub (Sub.freeze 0 rfl rfl) ?_
    refine DWp.reg false fun kk hk => ?_
    simp
    refine CallAt.own false ent26 rfl (clone_c l h0 hl) ?_
    simp
    refine CallAt.mem1 (t := 22) 1 false ent25 (by simp) (cF_allD _ _) rfl (delete_c l id none (by omega)) ?_
    rintro s ds' ⟨⟨c, rfl⟩, z, rfl⟩
    simp
    refine hk _ ?_
    refine DWp.ret (hE _ ?_).2
    simp [cF_flat, List.take_left' (cF_length rowMsg_length (seenD l id)), flat_lenF rowMsg_length, chunk_flatF rowMsg_length]
end Go.Bf
