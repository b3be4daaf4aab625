import Derived.Test.YtmkgmmgfjibjmaaBfX6
namespace Go.Bf
open Go Go.RowKit Go.Proofs Go.IntWalk
attribute [local simp] encB rowL rowW encSs encPs encD maxLen

theorem cloneB_own (bs : List UInt8) (hl : bs.length ≤ 140737488355328) (h0 : bs ≠ []) : FnWp Try.prog 36 [encB bs] (· = .fresh (.own 0 1 0 bs.length none) [(35, bs.map fun c => .d (cB c))]) := by
  refine FnWp.intro' Try.func36 rfl (by simp [Try.ntmps36]) fun E hE => ?_
  refine DWp.reg false fun k hk => ?_
  simp
  refine hk _ (DWp.seqK fun kA hkA => ?_)
  refine DWp.reg false fun k1 hk1 => ?_
  simp
  refine OpsWp.nilEq (xs := bs.map rowB) rfl Try.underlying35 rfl (by simp) (by simp) fun b hb => VCops_sound (im := false) _ _ ?_
  simp
  refine hk1 _ (DWp.cond ?_)
  simp
  refine ⟨fun h => ?_, fun h => ?_⟩
  · simp at hb
    exact absurd (hb h) h0
  · refine DWp.skip ?_
    simp
    refine hkA _ (DWp.reg false fun k hk => ?_)
    simp
    refine ⟨⟨wideB bs, by omega, by omega⟩, hk _ (DWp.ret ?_)⟩
    refine (hE _ (RetPost.fresh [1] ⟨rfl, rfl, by simp, by simp, by simp, by simp [renL_eq]⟩ rfl)).2

def tornD (ss : List (List UInt8)) (w : Int × List UInt8) : List UInt8 := w.2.take 64 ++ (ss.getD w.1.toNat []).drop 64
def syncD (d : Dk) : Dk × Int :=
  if okD d && !d.st then
    match d.ps[d.left.toNat]? with
    | some w => if 0 ≤ d.left then (⟨(performL d.ss (d.ps.take d.left.toNat)).set w.1.toNat (tornD (performL d.ss (d.ps.take d.left.toNat)) w), [], 0, true⟩, 440)
      else (⟨performL d.ss d.ps, [], d.left, false⟩, 0)
    | none => (⟨performL d.ss d.ps, [], if 0 ≤ d.left then d.left - d.ps.length else d.left, false⟩, 0)
  else (zeroD, 440)

theorem okD_w {d : Dk} (h : okD d = true) : ∀ w ∈ d.ps, 0 ≤ w.1 ∧ w.1 < d.ss.length ∧ w.2.length = 128 := fun w hw => by
  unfold okD at h
  simp only [Bool.and_eq_true, Bool.not_eq_true', List.any_eq_false] at h
  have := h.1.2 w hw
  simp [badW] at this
  omega
theorem okD_s {d : Dk} (h : okD d = true) : ∀ b ∈ d.ss, b.length = 128 := fun b hb => by
  unfold okD at h
  simp only [Bool.and_eq_true, Bool.not_eq_true', List.any_eq_false] at h
  have := h.2 b hb
  simpa using this
theorem okD_l {d : Dk} (h : okD d = true) : -1 ≤ d.left ∧ d.left ≤ 65536 ∧ d.ss ≠ [] := by
  have := okD_ps h
  unfold okD at h; simp only [Bool.and_eq_true, decide_eq_true_eq] at h
  refine ⟨by omega, by omega, fun e => ?_⟩
  rw [e] at this; simp at this

theorem performL_all {ss : List (List UInt8)} {ps : List (Int × List UInt8)} (h1 : ∀ b ∈ ss, b.length = 128) (h2 : ∀ w ∈ ps, w.2.length = 128) : ∀ b ∈ performL ss ps, b.length = 128 := by
  unfold performL
  induction ps generalizing ss with
  | nil => exact h1
  | cons p ps ih =>
    rw [List.foldl_cons]
    refine ih (fun b hb => ?_) fun w hw => h2 w (by simp [hw])
    rcases List.mem_or_eq_of_mem_set hb with hb | rfl
    · exact h1 b hb
    · exact h2 p (by simp)
theorem cellsL_get {ss : List (List UInt8)} {i : Nat} (h : i < ss.length) : (cellsL ss)[i]? = some (.d (encB ss[i])) := by simp [cellsL, h]

theorem copy_torn (w t : List UInt8) (hw : w.length = 128) (ht : t.length = 128) : spl (t.map fun c => SV.d (cB c)) 0 (List.take (min w.length 64) (w.map fun c => .d (cB c))) = (w.take 64 ++ t.drop 64).map fun c => .d (cB c) := by
  rw [hw, spl_eq _ _ _ (by simp; omega)]
  simp [List.map_take, List.map_drop, hw]

theorem perform_d (ss : List (List UInt8)) (ps : List (Int × List UInt8)) (hl : ss.length ≤ 4096) (h0 : ss ≠ []) (hp : ps.length ≤ 4096) (hb : ∀ w ∈ ps, 0 ≤ w.1 ∧ w.1 < ss.length) :
    FnWp Try.prog 48 [encSs ss, encPs ps] (· = .ret (encSs (performL ss ps))) := by
  refine (perform_c ss ps hl h0 hp hb).frozen (allD_cellsL _) ?_
  simp
  rw [← performL_length ss ps, take_map_len]
  simp [Function.comp_def]

theorem sync_c (d : Dk) (hd : d.fits) : FnWp Try.prog 24 [encD d] (· = .ret (.tup [encD (syncD d).1, .int .i64 (syncD d).2])) := by
  refine FnWp.intro' Try.func24 rfl (by simp [Try.ntmps24]) fun E hE => ?_
  refine DWp.reg false fun k hk => ?_
  simp
  refine hk _ (DWp.seqK fun kA hkA => ?_)
  refine DWp.reg false fun k hk => ?_
  simp
  refine CallAt.det false ent44 rfl (runs_c d hd) ?_
  simp
  refine hk _ (DWp.cond ?_)
  simp
  refine ⟨fun hb => ?_, fun hb1 hb2 => ?_⟩
  · refine DWp.reg false fun k hk => ?_
    simp
    refine hk _ (DWp.ret ?_)
    simp
    refine (hE _ ?_).2
    have : (okD d && !d.st) = false := by
      cases h1 : okD d <;> cases h2 : d.st <;> simp_all
    rw [show syncD d = (zeroD, 440) by simp only [syncD, this]; rfl]
    simp [zeroD]
  · refine DWp.skip ?_
    have hok : (okD d && !d.st) = true := by simp [hb1, hb2]
    have hps := okD_ps hb1
    have hw := okD_w hb1
    have hs := okD_s hb1
    have hl := okD_l hb1
    simp
    refine hkA _ (DWp.sub (Sub.of (n := 78) (sl := [(1, .loc 0 0), (2, .loc 1 0)]) (ml := [(25, [.d (encSs d.ss), .d (encPs d.ps), .d (.int .i64 d.left), .d (.bool d.st)]), (25, [.clip [], .clip [], .d (.int .i64 0), .d (.bool false)])]) [0, 1]
          ⟨rfl, rfl, by simp, by simp, by simp, by simp⟩) ?_)
    refine DWp.reg false fun k hk => ?_
    simp
    refine hk _ (DWp.seqK fun kB hkB => ?_)
    refine DWp.reg false fun k hk => ?_
    simp
    refine hk _ (DWp.cond ?_)
    simp
    refine ⟨fun hge hlt => ?_, fun hn => ?_⟩
    · obtain ⟨n, hn⟩ : ∃ n : Nat, d.left = n := ⟨d.left.toNat, by omega⟩
      have hlt' : n < d.ps.length := by omega
      refine DWp.reg false fun k hk => ?_
      simp [hn]
      refine ⟨⟨by omega, wideW _⟩, hk _ ?_⟩
      refine DWp.reg false fun k hk => ?_
      simp
      refine CallAt.own (ds := [encSs d.ss, encPs (d.ps.take n)]) false ent48 (by simp [List.map_take]) (perform_c d.ss (d.ps.take n) (by omega) hl.2.2 (by simp; omega) fun w h => ⟨(hw w (List.mem_of_mem_take h)).1, (hw w (List.mem_of_mem_take h)).2.1⟩) ?_
      simp
      have hxl : (performL d.ss (d.ps.take n)).length = d.ss.length := performL_length _ _
      have hxa := performL_all hs (ps := d.ps.take n) fun w h => (hw w (List.mem_of_mem_take h)).2.2
      have hsync : syncD d = (⟨(performL d.ss (d.ps.take n)).set d.ps[n].1.toNat (tornD (performL d.ss (d.ps.take n)) d.ps[n]), [], 0, true⟩, 440) := by
        have : d.left.toNat = n := by omega
        simp only [syncD, hok, this, List.getElem?_eq_getElem hlt', if_true, if_pos hge]
      generalize performL d.ss (d.ps.take n) = xs at *
      have hwn := hw d.ps[n] (List.getElem_mem hlt')
      generalize hwe : d.ps[n] = wn at *
      have hi : wn.1.toNat < xs.length := by omega
      refine hk _ (DWp.sub (Sub.of (n := 78) (sl := [(1, .loc 0 0), (2, .loc 1 0)]) (ml := [(25, [.d (encSs d.ss), .d (encPs d.ps), .d (.int .i64 n), .d (.bool d.st)]), (25, [.own 2 1 0 xs.length none, .clip [], .d (.int .i64 0), .d (.bool true)]), (22, cellsL xs)]) [0, 1, 2]
          ⟨rfl, rfl, by simp, by simp, by simp, by simp [hxl]⟩) ?_)
      refine DWp.reg false fun k hk => ?_
      simp [hlt', hwe]
      refine hk _ (DWp.reg false fun k hk => ?_)
      simp [cellsL_get hi]
      have ht : xs[wn.1.toNat].length = 128 := hxa _ (List.getElem_mem hi)
      have hgd : xs.getD wn.1.toNat [] = xs[wn.1.toNat] := by simp [hi]
      simp only [tornD, hgd] at hsync
      generalize xs[wn.1.toNat] = t at *
      refine ⟨by omega, CallAt.own false ent36 rfl (cloneB_own t (by omega) (fun e => by rw [e] at ht; cases ht)) ?_⟩
      simp
      refine hk _ (DWp.sub (Sub.of (n := 78) (sl := [(1, .loc 0 0), (2, .loc 1 0), (6, .loc 3 0), (7, .own 4 1 0 128 none)]) (ml := [(25, [.d (encSs d.ss), .d (encPs d.ps), .d (.int .i64 n), .d (.bool d.st)]), (25, [.own 2 1 0 xs.length none, .clip [], .d (.int .i64 0), .d (.bool true)]), (22, cellsL xs), (76, [.d (.int .i64 wn.1), .d (encB wn.2)]), (35, t.map fun c => .d (cB c))]) [0, 1, 2, 3, 4]
          ⟨rfl, rfl, by simp, by simp, by simp [ht], by simp⟩) ?_)
      refine DWp.drawR false (Plan.of [0, 1, 2, 3, 4] .done) mixed (by kernel_rfl) fun k hk => ?_
      simp
      refine ⟨⟨wideB _, by omega⟩, hk _ ?_⟩
      have hcp := copy_torn wn.2 t hwn.2.2 ht
      generalize htt : wn.2.take 64 ++ t.drop 64 = tt at *
      have httl : tt.length = 128 := by rw [← htt]; simp; omega
      refine DWp.sub (Sub.of (n := 78) (sl := [(1, .loc 0 0), (2, .loc 1 0), (6, .loc 3 0), (7, .own 4 1 0 128 none)]) (ml := [(25, [.d (encSs d.ss), .d (encPs d.ps), .d (.int .i64 n), .d (.bool d.st)]), (25, [.own 2 1 0 xs.length none, .clip [], .d (.int .i64 0), .d (.bool true)]), (22, cellsL xs), (76, [.d (.int .i64 wn.1), .d (encB wn.2)]), (35, tt.map fun c => .d (cB c))]) [0, 1, 2, 3, 4]
          ⟨rfl, rfl, by simp, by simp, by simp, by simp [hcp]⟩) ?_
      refine DWp.sub (Sub.freeze 4 rfl (allD_map cB _)) ?_
      refine DWp.sub (Sub.of (n := 78) (sl := [(1, .loc 0 0), (2, .loc 1 0), (6, .loc 3 0), (7, .d (encB tt))]) (ml := [(25, [.d (encSs d.ss), .d (encPs d.ps), .d (.int .i64 n), .d (.bool d.st)]), (25, [.own 2 1 0 xs.length none, .clip [], .d (.int .i64 0), .d (.bool true)]), (22, cellsL xs), (76, [.d (.int .i64 wn.1), .d (encB wn.2)])]) [0, 1, 2, 3]
          ⟨rfl, rfl, by simp, by simp, ?_, by simp⟩) ?_
      · simp
        rw [httl, if_pos (Nat.le_refl _), ← httl, take_map_len]
        simp [rowB_eq, Function.comp_def]
      · refine DWp.reg false fun k hk => ?_
        simp
        refine ⟨by omega, by omega, hk _ ?_⟩
        obtain ⟨ys, hys⟩ : ∃ y, xs.set wn.1.toNat tt = y := ⟨_, rfl⟩
        have hyl : ys.length = xs.length := by rw [← hys]; simp
        refine DWp.sub (Sub.of (n := 78) (sl := [(1, .loc 0 0), (2, .loc 1 0)]) (ml := [(25, [.d (encSs d.ss), .d (encPs d.ps), .d (.int .i64 n), .d (.bool d.st)]), (25, [.own 2 1 0 ys.length none, .clip [], .d (.int .i64 0), .d (.bool true)]), (22, cellsL ys)]) [0, 1, 2]
          ⟨rfl, rfl, by simp, by simp, by simp, by simp [hyl, cellsL_set, hys]⟩) ?_
        refine DWp.reg false fun k hk => ?_
        simp
        refine hk _ (DWp.ret ?_)
        simp
        refine (hE _ ?_).2
        rw [hsync, hys]
        simp [List.mapM_cons, Function.comp_def]
    · refine DWp.skip ?_
      simp
      refine hkB _ (DWp.sub (Sub.of (n := 78) (sl := [(1, .loc 0 0), (2, .loc 1 0), (4, .d (.int .i64 d.ps.length))]) (ml := [(25, [.d (encSs d.ss), .d (encPs d.ps), .d (.int .i64 d.left), .d (.bool d.st)]), (25, [.clip [], .clip [], .d (.int .i64 0), .d (.bool false)])]) [0, 1]
          ⟨rfl, rfl, by simp, by simp, by simp, by simp⟩) ?_)
      refine DWp.drawR false (Plan.of [0, 1, 2, 3, 5, 6, 4, 7, 8] .done) mixed (by kernel_rfl) fun k hk => ?_
      simp
      refine DetCall.intro ent48 rfl (fun _ => perform_d d.ss d.ps (by omega) hl.2.2 hps.1 fun w h => ⟨(hw w h).1, (hw w h).2.1⟩) ?_
      simp
      have hsync : syncD d = (⟨performL d.ss d.ps, [], if 0 ≤ d.left then d.left - d.ps.length else d.left, false⟩, 0) := by
        simp only [syncD, hok, if_true]
        by_cases hg : 0 ≤ d.left
        · rw [List.getElem?_eq_none (by have := hn hg; omega)]
        · have h0 : d.left.toNat = 0 := by omega
          rw [h0]
          cases d.ps[0]? with
          | none => simp [hg]
          | some w => simp [hg]
      refine hk _ (DWp.seqK fun kC hkC => ?_)
      refine DWp.reg false fun k hk => ?_
      simp
      refine hk _ (DWp.cond ?_)
      simp
      refine ⟨fun hg => ?_, fun hg => ?_⟩
      · refine DWp.regionV false ?_
        simp
        rw [i64_in _ (by have := hn hg; omega)]
        refine hkC _ (DWp.reg false fun k hk => ?_)
        simp
        refine hk _ (DWp.ret ?_)
        refine (hE _ ?_).2
        rw [hsync, if_pos hg]
        simp
      · refine DWp.skip ?_
        simp
        refine hkC _ (DWp.reg false fun k hk => ?_)
        simp
        refine hk _ (DWp.ret ?_)
        refine (hE _ ?_).2
        rw [hsync, if_neg (by omega)]
        simp
end Go.Bf
