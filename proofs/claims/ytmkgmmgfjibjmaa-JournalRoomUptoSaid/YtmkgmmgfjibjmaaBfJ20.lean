/-
  The law on room. Printed by program (j14.py). Nothing is claimed here.
-/
import Derived.Test.YtmkgmmgfjibjmaaBfJ13
set_option maxRecDepth 100000
set_option maxHeartbeats 8000000
namespace Go.Bf
open Go Go.RowKit Go.Proofs Go.IntWalk
attribute [local simp] encB rowL rowW encSs encPs encD maxLen isBytes_map bytesOf_map encJ
/-- A journal with room L, in sectors. -/
theorem room_of {j : Jn} (hk : okJ j = true) (hu : usedN j.recs ≤ 1048576) : ∃ L : Nat, L ≤ 4096 ∧ leftJ j = L ∧ roomJ j = ((112 * L : Nat) : Int) ∧ j.many = ((usedN j.recs + L : Nat) : Int) := by
  have h1 := okJ_syn hk
  have h2 := usedW_eq j.recs (by omega)
  refine ⟨(j.many - usedN j.recs).toNat, by omega, ?_, ?_, by omega⟩
  · rw [leftJ, h2, i64_in _ (by omega)]; omega
  · rw [roomJ, if_pos hk, leftJ, h2, i64_in (j.many - usedN j.recs) (by omega), i64_in _ (by omega)]; omega
theorem fits_iffR (n L : Nat) : ¬ ((L : Int) < secD n) ↔ 0 < 112 * L ∧ n ≤ 112 * L := by unfold secD; omega
theorem append_yes {j : Jn} {b : List UInt8} {L : Nat} (hk : okJ j = true) (hl : leftJ j = L) (h : ¬ ((L : Int) < secD b.length)) : appendJ j b = ({ j with recs := j.recs ++ [b] }, 0) := by
  unfold appendJ; rw [if_pos hk, hl, if_neg h]
theorem append_no {j : Jn} {b : List UInt8} {L : Nat} (hk : okJ j = true) (hl : leftJ j = L) (h : (L : Int) < secD b.length) : appendJ j b = (zeroJ, 2) := by
  unfold appendJ; rw [if_pos hk, hl, if_pos h]
theorem append_room {j : Jn} {b : List UInt8} {L : Nat} (hk : okJ j = true) (_ : L ≤ 4096) (hm : j.many = ((usedN j.recs + L : Nat) : Int)) (_ : usedN j.recs ≤ 1048576) (h : ¬ ((L : Int) < secD b.length)) :
    okJ { j with recs := j.recs ++ [b] } = true ∧ roomJ { j with recs := j.recs ++ [b] } < ((112 * L : Nat) : Int) := by
  have h1 := okJ_syn hk
  have h0 := secD_pos b.length
  have hus := usedN_snoc j.recs b
  have h2 := usedW_eq (j.recs ++ [b]) (by omega)
  have hk' : okJ { j with recs := j.recs ++ [b] } = true := by
    simp only [okJ]
    simp
    omega
  refine ⟨hk', ?_⟩
  rw [roomJ, if_pos hk', leftJ]
  simp only
  rw [h2, i64_in (j.many - usedN (j.recs ++ [b])) (by omega), i64_in _ (by omega)]
  omega
theorem law_JournalRoom (j : Jn) (hj : FitL j.recs) (b : List UInt8) (hb : b.length ≤ 140737488355328) (hu : usedN j.recs ≤ 1048576) : FnWp Try.prog 5 [encJ j, encB b] (· = .ret (.bool true)) := by
  refine FnWp.intro' Try.func5 rfl (by simp [Try.ntmps5]) fun E hE => ?_
  refine DWp.reg false fun kk hk => ?_
  simp
  refine hk _ ?_
  refine DWp.seqK fun k1 hk1 => ?_
  refine DWp.reg false fun kk hk => ?_
  simp
  refine CallAt.det false ent9 rfl (jsane_c) ?_
  simp
  refine hk _ ?_
  refine DWp.condB ?_
  simp
  refine DWp.skip ?_
  refine hk1 _ ?_
  refine DWp.seqK fun k2 hk2 => ?_
  refine DWp.reg false fun kk hk => ?_
  simp
  refine CallAt.det false ent10 rfl (few_c zeroD j.recs (by have := hj.1; omega) hj.2) ?_
  simp
  refine CallAtG.det false ent16 rfl (fun _ => jcheck_c j hj) ?_
  try simp
  refine hk _ ?_
  refine DWp.condB ?_
  simp
  refine ⟨fun hT1 => ?_, fun hF1 => ?_⟩
  · simp [Tt] at hT1
    refine DWp.reg false fun kk hk => ?_
    simp
    refine hk _ ?_
    refine DWp.ret (hE _ ?_).2
    simp
  · simp [Ff] at hF1
    have hkj : okJ j = true := by simp_all
    obtain ⟨L, hL, hleft, hroom, hmany⟩ := room_of hkj hu
    have hfl := fits_iffR b.length L
    refine DWp.skip ?_
    refine hk2 _ ?_
    by_cases hfit : (L : Int) < secD b.length
    · have happ := append_no hkj hleft hfit
      have hnf : ¬ (0 < 112 * L ∧ b.length ≤ 112 * L) := fun h => (hfl.2 h) hfit
      refine DWp.reg false fun kk hk => ?_
      simp
      refine CallAt.det false ent14 rfl (jappend_c j hj b hb) ?_
      rw [happ]
      simp
      refine hk _ ?_
      refine DWp.reg false fun kk hk => ?_
      simp
      refine CallAt.det false ent18 rfl (jroom_c j hj) ?_
      rw [hroom]
      simp
      refine hk _ ?_
      refine DWp.seqK fun k3 hk3 => ?_
      refine DWp.reg false fun kk hk => ?_
      simp
      refine hk _ ?_
      refine DWp.condB ?_
      simp
      refine ⟨fun hT2 => ?_, fun hF2 => ?_⟩
      · simp [Tt] at hT2
        exact absurd ⟨by omega, by omega⟩ hnf
      · simp [Ff] at hF2
        refine DWp.skip ?_
        refine hk3 _ ?_
        refine DWp.seqK fun k4 hk4 => ?_
        refine DWp.reg false fun kk hk => ?_
        simp
        refine hk _ ?_
        refine DWp.condB ?_
        simp
        refine DWp.reg false fun kk hk => ?_
        simp
        refine hk _ ?_
        refine DWp.ret (hE _ ?_).2
        simp [zeroJ]
    · have happ := append_yes hkj hleft hfit
      have hyf := hfl.1 hfit
      obtain ⟨hk', hr'⟩ := append_room hkj hL hmany hu hfit
      refine DWp.reg false fun kk hk => ?_
      simp
      refine CallAt.det false ent14 rfl (jappend_c j hj b hb) ?_
      rw [happ]
      simp
      refine hk _ ?_
      refine DWp.reg false fun kk hk => ?_
      simp
      refine CallAt.det false ent18 rfl (jroom_c j hj) ?_
      rw [hroom]
      simp
      refine hk _ ?_
      refine DWp.seqK fun k5 hk5 => ?_
      refine DWp.reg false fun kk hk => ?_
      simp
      refine hk _ ?_
      refine DWp.condB ?_
      simp
      refine ⟨fun hT2 => ?_, fun hF2 => ?_⟩
      · simp [Tt] at hT2
        exfalso
        omega
      · simp [Ff] at hF2
        refine DWp.skip ?_
        refine hk5 _ ?_
        refine DWp.seqK fun k6 hk6 => ?_
        refine DWp.reg false fun kk hk => ?_
        simp
        refine hk _ ?_
        refine DWp.condB ?_
        simp
        refine DWp.skip ?_
        refine hk6 _ ?_
        refine DWp.reg false fun kk hk => ?_
        simp
        refine hk _ ?_
        have hjl := usedN_len j.recs
        have hfx : FitL (j.recs ++ [b]) := ⟨by simp; omega, fun x hx => (List.mem_append.1 hx).elim (hj.2 x) (fun h => by simp at h; subst h; exact hb)⟩
        have hchk : FnWp Try.prog 16 [encJ ⟨j.many, j.synced, j.recs ++ [b]⟩] (· = .ret (.int .i64 0)) := by have := jcheck_c ⟨j.many, j.synced, j.recs ++ [b]⟩ hfx; rwa [hk', if_pos rfl] at this
        have hln : IntKind.i64.wrap ((j.recs.length : Int) + 1) = (j.recs.length : Int) + 1 := i64_in _ (by have := hj.1; omega)
        refine DWp.drawPR false [] (.take 0 (.take 1 (.take 2 (.take 3 (.take 4 (.take 5 (.take 6 (.take 7 (.take 8 (.take 9 (.take 10 (.take 11 (.take 12 (.take 13 (.take 14 (.take 15 (.take 16 (.take 17 (.take 18 (.take 19 (.take 20 (.take 21 (.take 22 (.take 23 (.take 24 (.take 25 (.take 26 (.take 27 (.take 28 (.take 29 (.take 30 (.take 31 (.take 32 (.take 33 (.take 34 (.take 35 (.take 36 (.take 37 (.take 38 (.take 39 (.take 40 (.take 41 (.take 42 (.take 43 (.take 44 (.take 45 (.take 46 (.take 47 (.take 48 (.take 49 (.take 50 (.take 51 .done)))))))))))))))))))))))))))))))))))))))))))))))))))) mixed (by kernel_rfl) fun kk hk => ?_
        simp
        refine DetCall.intro (d := .int .i64 0) ent16 ?_ (fun _ => hchk) ?_
        · simp
        simp [hln]
        have hwide : Wide 1 (List.map rowL j.recs ++ [[DV.list (List.map rowB b)]]) := by
          intro r hr
          rcases List.mem_append.1 hr with hr | hr
          · obtain ⟨x, _, rfl⟩ := List.mem_map.1 hr; rfl
          · rw [List.mem_singleton.1 hr]; rfl
        refine ⟨hwide, ?_⟩
        refine DetCall.intro ent20 rfl (fun _ => sameR_c j.recs j.recs (by have := hj.1; omega)) ?_
        simp
        refine DetCall.intro (d := .int .i64 (roomJ ⟨j.many, j.synced, j.recs ++ [b]⟩)) ent18 ?_ (fun _ => jroom_c ⟨j.many, j.synced, j.recs ++ [b]⟩ hfx) ?_
        · simp
        simp
        refine hk _ ?_
        refine DWp.ret (hE _ ?_).2
        simp
        omega
end Go.Bf
