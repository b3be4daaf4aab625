/-
  Views: the law on all functions. Printed by program (v17.py). Nothing is claimed here.
-/
import Derived.Test.YtlnjeijklnoogaaBfV11
import Derived.Test.YtlnjeijklnoogaaBfV16
set_option maxRecDepth 100000
set_option maxHeartbeats 16000000
namespace Go.Bf
open Go Go.RowKit Go.Proofs Go.IntWalk
attribute [local simp] maxLen
theorem foldK_len : ∀ (ns l : List Int), (ns.foldl addK l).length ≤ l.length + ns.length
  | [], l => by simp
  | n :: ns, l => by
    have h := foldK_len ns (addK l n)
    have h2 : (addK l n).length ≤ l.length + 1 := by unfold addK; split <;> simp
    simp only [List.foldl_cons, List.length_cons]; omega
theorem stepR_len (a : Int) (ns : List Int) : ∀ L : List (Int × List Int), (stepR a ns L).length ≤ L.length + 1
  | [] => by simp [stepR]
  | p :: L => by rw [stepR]; have := stepR_len a ns L; split <;> simp <;> omega
theorem listsN_len (out : List Int) (ins : List (List Int)) : ∀ i, (listsN out ins i).length ≤ i
  | 0 => by simp [listsN]
  | i + 1 => by rw [listsN, stepL_eq]; have := listsN_len out ins i; have := stepR_len (out.getD i 0) (ins.getD i []) (listsN out ins i); omega
theorem getL_len2 {out : List Int} {ins : List (List Int)} {b : Nat} (h : ∀ x ∈ ins, x.length ≤ b) (a : Int) : ∀ i, ((getL (listsN out ins i) a).getD []).length ≤ i * b
  | 0 => by simp [listsN, getL]
  | i + 1 => by
    have ih := getL_len2 (out := out) h a i
    rw [listsN, stepL_eq, getL_step, Nat.succ_mul]
    split
    · rename_i e
      rw [Option.getD_some, ← e]
      have h1 := foldK_len (ins.getD i []) ((getL (listsN out ins i) a).getD [])
      have h2 : (ins.getD i []).length ≤ b := by
        by_cases e : i < ins.length
        · rw [List.getD_eq_getElem?_getD, List.getElem?_eq_getElem e]; exact h _ (List.getElem_mem e)
        · rw [List.getD_eq_getElem?_getD, List.getElem?_eq_none (by omega)]; simp
      omega
    · omega
theorem okT_R {of : List (Int × List Int) → List Int} {r : Rl} (h : okT r) (ho : (of (listsN r.1 r.2 r.1.length)).length ≤ 1000000) : okR of r := by
  refine ⟨by have := h.1; omega, fun l hl => by have := h.2.2 l hl; omega, ho, by have := listsN_len r.1 r.2 r.1.length; have := h.1; omega, fun a => ?_⟩
  have := getL_len2 (out := r.1) h.2.2 a r.1.length
  have := h.1
  omega
theorem okT_pub {r : Rl} (h : okT r) : okR pubOf r := okT_R h (by
  rw [pubOf, sortI, List.length_mergeSort, List.length_map]
  have := listsN_len r.1 r.2 r.1.length
  have := h.1
  omega)
theorem refPub_len (l : List Rl) : (refPub l).length ≤ l.length := by rw [← XX_all]; exact XX_len l _ (Nat.le_refl _)
theorem refPub_fit {l : List Rl} (h : ∀ r ∈ l, okS r) : ∀ x ∈ refPub l, fitRs x := by rw [← XX_all]; exact XX_fit h (Nat.le_refl _)
theorem learnR_fit {l : List Rl} (ls : List Int) (h : ∀ r ∈ l, okT r) (hl : l.length ≤ 12) : (learnR l ls).1.length ≤ 12 ∧ ∀ x ∈ (learnR l ls).1, fitRs x := by
  rw [learnR]
  by_cases e : learnOK ls = true
  · rw [if_pos e]
    have h64 : ls.length ≤ 64 := by rw [learnOK, Bool.and_eq_true] at e; simpa using e.2
    refine ⟨Nat.le_trans (refPub_len _) (by simpa using hl), refPub_fit fun r hr => ?_⟩
    obtain ⟨s, hs, rfl⟩ := List.mem_map.1 hr
    exact about_S (h s hs) h64
  · rw [if_neg e]; simp
theorem ent3 : Enters Try.prog 3 := enters_of Try.func3 rfl rfl
theorem law_ViewsSpec (a b : List Msg) (id : Int) (l : List Rl) (ls : List Int) (ha : a.length ≤ 4611686018427387903) (hal : ∀ x ∈ a, fitM x) (hb : b.length ≤ 4611686018427387903) (hbl : ∀ x ∈ b, fitM x) (hl : l.length ≤ 4611686018427387903) (hll : ∀ x ∈ l, fitRs x) (hls : ls.length ≤ 4611686018427387903) : FnWp Try.prog 3 [encMsgs a, encMsgs b, .int .i64 id, encRels l, encI ls] (· = .ret (.bool true)) := by
  refine FnWp.intro' Try.func3 rfl (by simp [Try.ntmps3]) fun E hE => ?_
  refine DWp.reg false fun kk hk => ?_
  simp
  refine hk _ ?_
  refine DWp.seqK fun k1 hk1 => ?_
  refine DWp.reg false fun kk hk => ?_
  simp
  refine CallAt.det (ds := []) false ent6 rfl sane51_c ?_
  simp
  refine hk _ ?_
  refine DWp.condB ?_
  simp
  refine DWp.skip ?_
  refine hk1 _ ?_
  refine DWp.seqK fun k2 hk2 => ?_
  refine DWp.reg false fun kk hk => ?_
  simp [encI]
  refine CallAt.det false ent7 rfl (fewMs_c a ha hal) ?_
  simp
  refine CallAtG.det false ent7 rfl (fun _ => fewMs_c b hb hbl) ?_
  simp
  refine CallAtG.det false ent8 rfl (fun _ => fewRs_c l hl hll) ?_
  simp
  refine hk _ ?_
  refine DWp.condB ?_
  simp
  refine ⟨fun hT1 => ?_, fun hF1 => ?_⟩
  · simp [Tt] at hT1
    refine DWp.reg false fun kk hk => ?_
    simp
    refine hk _ ?_
    refine DWp.ret (hE _ ?_).2
    simp
  · simp [Ff] at hF1
    refine DWp.skip ?_
    refine hk2 _ ?_
    have hFa : a.length ≤ 12 := by have := hF1.1.1.1; rw [fewMs, Bool.and_eq_true] at this; simpa using this.2
    have hFb : b.length ≤ 12 := by have := hF1.1.1.2; rw [fewMs, Bool.and_eq_true] at this; simpa using this.2
    obtain ⟨hFl, hFo⟩ := fewRs_spec hF1.1.2
    have hF80 : ls.length ≤ 80 := by have := hF1.2; omega
    have hfit := learnR_fit ls hFo hFl
    have hL1 := Learned_c l ls hFl hls (fun r hr => okT_R (hFo r hr) (by omega))
    have hL2 := refLearned_c l ls (by omega) (by omega) hFo
    rw [learnD_ref] at hL1
    obtain ⟨Y, hY⟩ : ∃ Y, (learnR l ls).1 = Y := ⟨_, rfl⟩
    obtain ⟨e, he⟩ : ∃ e, (learnR l ls).2 = e := ⟨_, rfl⟩
    rw [hY] at hL1 hL2 hfit
    rw [he] at hL1 hL2
    have hP1 := Public_c l hFl (fun r hr => okT_pub (hFo r hr))
    rw [publicD_ref] at hP1
    have hP2 := refPub_c l (by omega) (fun r hr => okT_S (hFo r hr))
    have hPl := refPub_len l
    have hPf := refPub_fit (fun r hr => okT_S (hFo r hr))
    obtain ⟨Z, hZ⟩ : ∃ Z, refPub l = Z := ⟨_, rfl⟩
    rw [hZ] at hP1 hP2 hPl hPf
    have hS1 := Seen_c a id (by omega)
    have hS2 := refSeen_c a id (by omega)
    have hSf : ∀ x ∈ seenD a id, fitM x := fun x hx => hal x (List.mem_filter.1 hx).1
    have hSl : (seenD a id).length ≤ 12 := Nat.le_trans (List.length_filter_le _ _) hFa
    obtain ⟨X, hX⟩ : ∃ X, seenD a id = X := ⟨_, rfl⟩
    rw [hX] at hS1 hS2 hSf hSl
    refine DWp.sub (Sub.of (n := 80) (sl := [(0, .d (encMsgs a)), (1, .d (encMsgs b)), (2, .d (.int .i64 id)), (3, .d (encRels l)), (4, .d (encI ls))]) (ml := []) [] ⟨rfl, rfl, by simp, by simp, by simp [encI], by simp⟩) ?_
    refine DWp.reg false fun kk hk => ?_
    simp
    refine CallAt.det false ent9 rfl (hL1) ?_
    simp
    refine hk _ ?_
    refine DWp.sub (Sub.slots [(0, .d (encMsgs a)), (1, .d (encMsgs b)), (2, .d (.int .i64 id)), (3, .d (encRels l)), (4, .d (encI ls)), (11, .d (encRels Y)), (12, .d (.int .i64 e))] (by simp)) ?_
    refine DWp.reg false fun kk hk => ?_
    simp
    refine CallAt.det false ent10 rfl (hL2) ?_
    simp
    refine hk _ ?_
    refine DWp.reg false fun kk hk => ?_
    simp
    refine CallAt.det false ent12 rfl (hS1) ?_
    simp
    refine CallAt.det false ent13 rfl (hS2) ?_
    simp
    refine CallAt.det false ent11 rfl (refSame_c X X (by omega) hSf) ?_
    simp
    refine CallAtG.det false ent14 rfl (fun _ => vSame_c a b ha hal) ?_
    simp
    refine CallAtG.det false ent11 rfl (fun _ => refSame_c a b ha hal) ?_
    simp
    refine CallAtG.det false ent16 rfl (fun _ => hP1) ?_
    simp
    refine CallAtG.det false ent17 rfl (fun _ => hP2) ?_
    simp
    refine CallAtG.det false ent15 rfl (fun _ => sameRs_c Z Z (by omega) hPf) ?_
    simp
    refine CallAtG.det false ent15 rfl (fun _ => sameRs_c Y Y (by omega) hfit.2) ?_
    simp
    refine hk _ ?_
    refine DWp.ret (hE _ ?_).2
    simp
end Go.Bf
