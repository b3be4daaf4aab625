import Derived.Test.YtmkgmmgfjibjmaaBfX3
namespace Go.Bf
open Go Go.RowKit Go.Proofs Go.IntWalk
attribute [local simp] encB rowL rowW encSs encPs encD

theorem spl_eq {α : Type} (cells : List α) (off : Nat) (p : List α) (h : off + p.length ≤ cells.length) : spl cells off p = cells.take off ++ p ++ cells.drop (off + p.length) := by
  unfold spl
  split
  · rename_i c
    simp only [List.length_cons, List.length_nil] at h ⊢
    rw [List.set_eq_take_append_cons_drop, if_pos (by omega)]; simp
  · rfl
theorem allD_append (a b : List SV) : allD (a ++ b) = match allD a, allD b with | some x, some y => some (x ++ y) | _, _ => none := by
  induction a with
  | nil => cases h : allD b <;> simp [allD, h]
  | cons c a ih =>
    cases c with
    | d x =>
      simp only [List.cons_append, allD, ih]
      cases allD a <;> cases allD b <;> simp
    | _ => simp [allD]
theorem chunk_flat {wd : Nat} : ∀ {xs : List (List DV)}, Wide wd xs → chunk wd xs.length xs.flatten = xs
  | [], _ => rfl
  | x :: xs, h => by
    have hx : x.length = wd := h x (by simp)
    simp only [List.length_cons, chunk, List.flatten_cons]
    rw [List.take_left' hx, List.drop_left' hx, chunk_flat fun r hr => h r (by simp [hr])]
theorem wideW (ps : List (Int × List UInt8)) : Wide 2 (ps.map rowW) := fun r hr => by
  obtain ⟨w, _, rfl⟩ := List.mem_map.1 hr; rfl
theorem wideL (ss : List (List UInt8)) : Wide 1 (ss.map rowL) := fun r hr => by
  obtain ⟨w, _, rfl⟩ := List.mem_map.1 hr; rfl
theorem wideB (b : List UInt8) : Wide 1 (b.map rowB) := fun r hr => by
  obtain ⟨w, _, rfl⟩ := List.mem_map.1 hr; rfl
@[simp] theorem lenWf (ps : List (Int × List UInt8)) : ((ps.map (List.map SV.d ∘ rowW)).flatten).length = ps.length * 2 := by
  induction ps with
  | nil => rfl
  | cons p ps ih => rw [List.map_cons, List.flatten_cons, List.length_append, ih]; simp [rowW]; omega
@[simp] theorem lenWd (ps : List (Int × List UInt8)) : ((ps.map rowW).flatten).length = ps.length * 2 := by
  induction ps with
  | nil => rfl
  | cons p ps ih => rw [List.map_cons, List.flatten_cons, List.length_append, ih]; simp [rowW]; omega
@[simp] theorem takeWf (ps : List (Int × List UInt8)) : List.take (ps.length * 2) ((ps.map (List.map SV.d ∘ rowW)).flatten) = (ps.map (List.map SV.d ∘ rowW)).flatten := List.take_of_length_le (by rw [lenWf]; omega)
@[simp] theorem allDWf (ps : List (Int × List UInt8)) : allD ((ps.map (List.map SV.d ∘ rowW)).flatten) = some (ps.map rowW).flatten := by
  induction ps with
  | nil => rfl
  | cons p ps ih => rw [List.map_cons, List.flatten_cons, allD_append, ih]; simp [allD, rowW]
@[simp] theorem chunkWf (ps : List (Int × List UInt8)) : chunk 2 ps.length (ps.map rowW).flatten = ps.map rowW := by
  have := chunk_flat (wideW ps); rwa [List.length_map] at this

@[simp] theorem sumW (ps : List (Int × List UInt8)) : (List.map (List.length ∘ rowW) ps).sum = ps.length * 2 := by
  induction ps with
  | nil => rfl
  | cons p ps ih => rw [List.map_cons, List.sum_cons, ih]; simp [rowW]; omega
@[simp] theorem hd1_rowB : hd1 ∘ rowB = fun c => .d (cB c) := rfl
@[simp] theorem hd1_rowL : hd1 ∘ rowL = fun l => .d (encB l) := rfl

@[simp] theorem take_map_len {α β : Type} (l : List α) (f : α → β) : List.take l.length (l.map f) = l.map f := List.take_of_length_le (by simp)
theorem rowB_eq : rowB = fun c => [cB c] := rfl

theorem cloneW_c (ps : List (Int × List UInt8)) (hl : ps.length ≤ 4096) : FnWp Try.prog 47 [encPs ps] (· = .ret (encPs ps)) := by
  refine FnWp.intro' Try.func47 rfl (by simp [Try.ntmps47]) fun E hE => ?_
  refine DWp.reg false fun k hk => ?_
  simp
  refine hk _ (DWp.seqK fun kA hkA => ?_)
  refine DWp.reg false fun k1 hk1 => ?_
  simp
  refine OpsWp.nilEq (xs := ps.map rowW) rfl Try.underlying23 rfl (by simp) (by simp) fun b hb => VCops_sound (im := false) _ _ ?_
  simp
  refine hk1 _ (DWp.cond ?_)
  simp
  refine ⟨fun h => ?_, fun h => ?_⟩
  · refine DWp.reg false fun k hk => ?_
    simp
    refine hk _ (DWp.ret ?_)
    simp
    refine (hE _ ?_).2
    simp at hb
    simp [hb h]
  · refine DWp.skip ?_
    simp
    refine hkA _ (DWp.reg false fun k hk => ?_)
    simp
    refine ⟨⟨wideW ps, by simp [maxLen]; omega, by omega⟩, hk _ (DWp.ret ?_)⟩
    refine (hE _ ?_).2
    simp

theorem cloneB_c (bs : List UInt8) (hl : bs.length ≤ 140737488355328) : FnWp Try.prog 36 [encB bs] (· = .ret (encB bs)) := by
  refine FnWp.intro' Try.func36 rfl (by simp [Try.ntmps36]) fun E hE => ?_
  refine DWp.reg false fun k hk => ?_
  simp
  refine hk _ (DWp.seqK fun kA hkA => ?_)
  refine DWp.reg false fun k1 hk1 => ?_
  simp
  refine OpsWp.nilEq (xs := bs.map rowB) rfl Try.underlying35 rfl (by simp) (by simp) fun b hb => VCops_sound (im := false) _ _ ?_
  simp
  refine hk1 _ (DWp.cond ?_)
  simp
  refine ⟨fun h => ?_, fun h => ?_⟩
  · refine DWp.reg false fun k hk => ?_
    simp
    refine hk _ (DWp.ret ?_)
    simp
    refine (hE _ ?_).2
    simp at hb
    simp [hb h]
  · refine DWp.skip ?_
    simp
    refine hkA _ (DWp.reg false fun k hk => ?_)
    simp
    refine ⟨⟨wideB bs, by simp [maxLen]; omega, by omega⟩, hk _ (DWp.ret ?_)⟩
    refine (hE _ ?_).2
    simp [rowB_eq, Function.comp_def]

theorem cloneL_c (ss : List (List UInt8)) (hl : ss.length ≤ 4096) : FnWp Try.prog 61 [encSs ss] (· = .ret (encSs ss)) := by
  refine FnWp.intro' Try.func61 rfl (by simp [Try.ntmps61]) fun E hE => ?_
  refine DWp.reg false fun k hk => ?_
  simp
  refine hk _ (DWp.seqK fun kA hkA => ?_)
  refine DWp.reg false fun k1 hk1 => ?_
  simp
  refine OpsWp.nilEq (xs := ss.map rowL) rfl Try.underlying22 rfl (by simp) (by simp) fun b hb => VCops_sound (im := false) _ _ ?_
  simp
  refine hk1 _ (DWp.cond ?_)
  simp
  refine ⟨fun h => ?_, fun h => ?_⟩
  · refine DWp.reg false fun k hk => ?_
    simp
    refine hk _ (DWp.ret ?_)
    simp
    refine (hE _ ?_).2
    simp at hb
    simp [hb h]
  · refine DWp.skip ?_
    simp
    refine hkA _ (DWp.reg false fun k hk => ?_)
    simp
    refine ⟨⟨wideL ss, by simp [maxLen]; omega, by omega⟩, hk _ (DWp.ret ?_)⟩
    refine (hE _ ?_).2
    simp [Function.comp_def]
end Go.Bf
