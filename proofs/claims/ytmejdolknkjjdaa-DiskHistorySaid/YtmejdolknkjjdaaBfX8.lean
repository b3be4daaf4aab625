import Derived.Test.YtmejdolknkjjdaaBfX7
import Derived.Test.YtmejdolknkjjdaaBfIt2
namespace Go.Bf
open Go Go.RowKit Go.Proofs Go.IntWalk
attribute [local simp] encB rowL rowW encSs encPs encD maxLen

theorem ent39 : Enters Try.prog 39 := enters_of Try.func39 rfl rfl
theorem ent45 : Enters Try.prog 45 := enters_of Try.func45 rfl rfl

theorem backward_c (ps : List (Int × List UInt8)) : FnWp Try.prog 39 [encPs ps] (· = .ret (.fn 45 [.ptr [encPs ps]])) := by
  refine FnWp.intro' Try.func39 rfl (by simp [Try.ntmps39]) fun E hE => ?_
  refine DWp.reg false fun k hk => ?_
  simp
  refine hk _ (DWp.reg false fun k hk => ?_)
  simp
  refine hk _ (DWp.ret (hE _ ?_).2)
  simp [List.mapM_cons]

/-- The rows that slices.Backward yields. -/
def bk (ps : List (Int × List UInt8)) : List (List DV) := (List.range ps.length).map fun j => [.int .i64 ((ps.length - 1 - j : Nat) : Int), .agg (rowW (ps.getD (ps.length - 1 - j) (0, [])))]
theorem bk_length (ps : List (Int × List UInt8)) : (bk ps).length = ps.length := by simp [bk]

theorem bkseq_c (ps : List (Int × List UInt8)) (hl : ps.length ≤ 140737488355328) : SeqWp Try.prog 45 [.ptr [encPs ps]] (bk ps) := by
  refine SeqWp.intro Try.func45 rfl rfl (by simp [Try.ntmps45]) fun l n J St Sx hst hsx hJn hy => ?_
  refine DWp.reg false fun k hk => ?_
  simp
  rw [i64_in _ (by omega)]
  refine hk _ (DWp.block ?_)
  refine DWp.loopK (fun j : Nat => Know.of 19 [(0, .d (.yld l)), (1, .d (.ptr [encPs ps])), (3, .d (.int .i64 (ps.length - 1 - j)))] [] (St ((bk ps).take j)) [] (some (n, J)))
    (fun j => j ≤ ps.length) (fun j => ps.length - j) 0 (Sub.of [] ⟨rfl, rfl, by simp, by simp, by simp, by simp⟩) (by simp) ?_
  rintro j hj kl hkl
  refine DWp.seqK fun k1 hk1 => ?_
  refine DWp.reg false fun k hk => ?_
  simp
  refine hk _ (DWp.cond ?_)
  simp
  refine ⟨fun hlt => DWp.skip (hk1 _ ?_), fun hge => DWp.exit ?_⟩
  · have hlt' : j < ps.length := by omega
    have hi : (ps.length : Int) - 1 - j = ((ps.length - 1 - j : Nat) : Int) := by omega
    rw [hi]
    have hii : ps.length - 1 - j < ps.length := by omega
    have hrow : (bk ps)[j]'(by rw [bk_length]; exact hlt') = [.int .i64 ((ps.length - 1 - j : Nat) : Int), .agg (rowW ps[ps.length - 1 - j])] := by simp [bk, hii]
    have hpre : (bk ps).take j ++ [(bk ps)[j]'(by rw [bk_length]; exact hlt')] = (bk ps).take (j + 1) := by rw [List.take_add_one, List.getElem?_eq_getElem (by rw [bk_length]; exact hlt')]; rfl
    have hyj := hy ((bk ps).take j) _ (by rw [hpre]; exact List.take_prefix _ _)
    rw [hpre, hrow] at hyj
    generalize hie : ps.length - 1 - j = i at *
    refine DWp.blockK fun k2 hk2 => ?_
    refine DWp.reg false fun k hk => ?_
    simp [hii]
    refine OpsWp.yield (l := l) (n := n) (J := J) (ss := [.d (.int .i64 i), .d (.agg (rowW ps[i]))]) (x := [.int .i64 i, .agg (rowW ps[i])]) (g1 := St ((bk ps).take (j + 1))) (g2 := Sx) rfl rfl (by simp) (by simp) (by simp) (by simp) (by simp) (by simp) hJn (hst _) hsx hyj
      (VCops_sound (im := false) _ _ ?_) (VCops_sound (im := false) _ _ ?_)
    · simp
      refine hk _ (DWp.cond ?_)
      simp
      refine DWp.skip ?_
      simp
      refine hk2 _ (DWp.regionV false ?_)
      simp
      rw [i64_in _ (by omega)]
      refine hkl _ (j + 1) (by omega) (by omega) (Sub.of [] ⟨rfl, rfl, by simp, by simp, ?_, by simp⟩)
      simp
      omega
    · simp
      refine hk _ (DWp.cond ?_)
      simp
      refine DWp.ret ?_
      simp [SeqPost]
  · simp [SeqPost]
    left
    rw [List.take_of_length_le (by rw [bk_length]; omega)]

theorem lk_mem : ∀ {sl : List (Nat × SV)} {i : Nat} {s : SV}, lk sl i = some s → i ∈ sl.map (·.1)
  | [], i, s, h => by simp [lk] at h
  | (j, t) :: sl, i, s, h => by
    simp only [lk] at h
    split at h
    · rename_i e; simp [e]
    · simp only [List.map_cons, List.mem_cons]; exact .inr (lk_mem h)

theorem find_rev (ps : List (Int × List UInt8)) (at' : Int) (j : Nat) (hj : j < ps.length) (hno : ∀ k, k < j → ∀ w, ps[ps.length - 1 - k]? = some w → w.1 ≠ at') (he : (ps[ps.length - 1 - j]'(by omega)).1 = at') :
    ps.reverse.find? (fun w => w.1 = at') = some (ps[ps.length - 1 - j]'(by omega)) := by
  rw [List.find?_eq_some_iff_getElem]
  refine ⟨by simpa using he, j, by simpa using hj, by rw [List.getElem_reverse], fun k hk => ?_⟩
  have := hno k hk _ (List.getElem?_eq_getElem (by omega))
  rw [List.getElem_reverse]
  simpa using this
theorem find_rev_none (ps : List (Int × List UInt8)) (at' : Int) (hno : ∀ k, k < ps.length → ∀ w, ps[ps.length - 1 - k]? = some w → w.1 ≠ at') : ps.reverse.find? (fun w => w.1 = at') = none := by
  rw [List.find?_eq_none]
  intro w hw
  rw [List.mem_reverse] at hw
  obtain ⟨i, hi, rfl⟩ := List.getElem_of_mem hw
  have := hno (ps.length - 1 - i) (by omega) ps[i] (by rw [show ps.length - 1 - (ps.length - 1 - i) = i by omega]; exact List.getElem?_eq_getElem hi)
  simpa using this

def readD (d : Dk) (at' : Int) : List UInt8 × Int :=
  if okD d && !d.st && decide (0 ≤ at' ∧ at' < d.ss.length) then
    match d.ps.reverse.find? (fun w => w.1 = at') with
    | some w => (w.2, 0)
    | none => (d.ss.getD at'.toNat [], 0)
  else ([], 440)

theorem read_c (d : Dk) (hd : d.fits) (at' : Int) : FnWp Try.prog 21 [encD d, .int .i64 at'] (· = .ret (.tup [encB (readD d at').1, .int .i64 (readD d at').2])) := by
  refine FnWp.intro' Try.func21 rfl (by simp [Try.ntmps21]) fun E hE => ?_
  refine DWp.reg false fun k hk => ?_
  simp
  refine hk _ (DWp.seqK fun kA hkA => ?_)
  refine DWp.reg false fun k hk => ?_
  simp
  refine CallAt.det false ent35 rfl (runs_c d hd) ?_
  simp
  refine CallAtG.det false ent36 rfl (fun _ => has_c d at') ?_
  simp
  refine hk _ (DWp.cond ?_)
  simp
  refine ⟨fun hb => ?_, fun hb1 hb2 hb3 hb4 => ?_⟩
  · refine DWp.reg false fun k hk => ?_
    simp
    refine hk _ (DWp.ret ?_)
    simp
    refine (hE _ ?_).2
    have : (okD d && !d.st && decide (0 ≤ at' ∧ at' < d.ss.length)) = false := by
      cases h1 : okD d <;> cases h2 : d.st <;> simp_all <;> omega
    rw [show readD d at' = ([], 440) by simp only [readD, this]; rfl]
    simp
  · have hok : (okD d && !d.st && decide (0 ≤ at' ∧ at' < d.ss.length)) = true := by simp [hb1, hb2, hb3, hb4]
    refine DWp.skip ?_
    simp
    refine hkA _ (DWp.sub (Sub.of (n := 33) (sl := [(2, .loc 0 0), (3, .loc 1 0), (4, .loc 2 0), (5, .loc 3 0)]) (ml := [(25, [.d (encSs d.ss), .d (encPs d.ps), .d (.int .i64 d.left), .d (.bool d.st)]), (3, [.d (.int .i64 at')]), (35, [.clip []]), (28, [.d (.int .i64 0)])]) [0, 1, 2, 3]
          ⟨rfl, rfl, by simp, by simp, by simp, by simp⟩) ?_)
    refine DWp.seqK fun kB hkB => ?_
    refine DWp.reg false fun k hk => ?_
    simp
    refine CallAt.det false ent39 rfl (backward_c d.ps) ?_
    simp
    refine hk _ (DWp.block ?_)
    refine DWp.rangeF (fun _ => Know.of 33 [(2, .loc 0 0), (3, .loc 1 0), (4, .loc 2 0), (5, .loc 3 0)] [(25, [.d (encSs d.ss), .d (encPs d.ps), .d (.int .i64 d.left), .d (.bool d.st)]), (3, [.d (.int .i64 at')]), (35, [.clip []]), (28, [.d (.int .i64 0)])])
      (fun pre => ∀ j, j < pre.length → ∀ w, d.ps[d.ps.length - 1 - j]? = some w → w.1 ≠ at') [2, 3, 4, 5] ent45 (bkseq_c d.ps hd.2) (by simp) (fun _ => ⟨rfl, rfl, rfl, rfl, ?_⟩) (by decide) (by simp) ?_
      (Sub.of [0, 1, 2, 3] ⟨rfl, rfl, by simp, by simp, by simp, by simp⟩) (by simp) ?_ ?_
    · intro i s hs
      have := lk_mem hs
      simpa using this
    · intro x hx
      simp [bk] at hx
      obtain ⟨j, hj, rfl⟩ := hx
      rfl
    · intro l pre x hpre hiv
      obtain ⟨t, ht⟩ := hpre
      have hx : (bk d.ps)[pre.length]? = some x := by rw [← ht]; simp
      have hj : pre.length < d.ps.length := by have := (List.getElem?_eq_some_iff.1 hx).1; rwa [bk_length] at this
      have hi : d.ps.length - 1 - pre.length < d.ps.length := by omega
      have hxe : x = [.int .i64 ((d.ps.length - 1 - pre.length : Nat) : Int), .agg (rowW d.ps[d.ps.length - 1 - pre.length])] := by
        simp [bk, hj, hi] at hx
        rw [← hx]; simp
      subst hxe
      generalize hwe : d.ps[d.ps.length - 1 - pre.length] = wn
      refine DWp.regionV false ?_
      simp
      refine DWp.block ?_
      refine DWp.reg false fun k hk => ?_
      simp
      refine hk _ (DWp.cond ?_)
      simp
      refine ⟨fun he => ?_, fun he => ?_⟩
      · refine DWp.reg false fun k hk => ?_
        simp
        refine hk _ (DWp.ret ?_)
        simp
        refine ⟨Know.of 33 [(4, .loc 0 0), (5, .loc 1 0)] [(35, [.d (encB wn.2)]), (28, [.d (.int .i64 0)])], ⟨rfl, rfl, rfl, rfl, fun i s hs => ?_⟩,
          Sub.of (n := 33) (sl := [(4, .loc 0 0), (5, .loc 1 0)]) (ml := [(35, [.d (encB wn.2)]), (28, [.d (.int .i64 0)])]) [2, 3] ⟨rfl, rfl, by simp, by simp, by simp, by simp⟩, ?_⟩
        · have := lk_mem hs
          simp at this
          rcases this with rfl | rfl <;> simp
        · simp
          refine (hE _ ?_).2
          rw [show readD d at' = (wn.2, 0) by simp only [readD, hok, find_rev d.ps at' _ hj hiv (by rw [hwe]; exact he), hwe]; rfl]
          simp [List.mapM_cons]
      · refine DWp.skip ?_
        simp
        refine ⟨fun j hj' w1 w2 hw => ?_, Sub.of (n := 33) (sl := [(2, .loc 0 0), (3, .loc 1 0), (4, .loc 2 0), (5, .loc 3 0)]) (ml := [(25, [.d (encSs d.ss), .d (encPs d.ps), .d (.int .i64 d.left), .d (.bool d.st)]), (3, [.d (.int .i64 at')]), (35, [.clip []]), (28, [.d (.int .i64 0)])]) [0, 1, 2, 3]
          ⟨rfl, rfl, by simp, by simp, by simp, by simp⟩⟩
        by_cases hjj : j = pre.length
        · subst hjj
          rw [List.getElem?_eq_getElem hi, hwe, Option.some.injEq] at hw
          rw [hw] at he
          exact he
        · exact hiv j (by omega) (w1, w2) hw
    · intro hiv
      simp
      refine hkB _ (DWp.reg false fun k hk => ?_)
      have hat : at'.toNat < d.ss.length := by omega
      have hg : d.ss[at'.toNat]? = some d.ss[at'.toNat] := List.getElem?_eq_getElem hat
      simp [hg]
      refine ⟨⟨hb3, hb4⟩, hk _ (DWp.ret ?_)⟩
      refine (hE _ ?_).2
      rw [show readD d at' = (d.ss[at'.toNat], 0) by
        simp only [readD, hok, find_rev_none d.ps at' (fun j hj => hiv j (by rw [bk_length]; exact hj))]
        simp [hg]]
      simp [List.mapM_cons]
end Go.Bf
