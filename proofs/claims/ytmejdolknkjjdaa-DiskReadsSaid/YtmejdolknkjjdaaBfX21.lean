/-
  The law on what is read. Printed by program (x21b.py). Nothing is claimed here.
-/
import Derived.Test.YtmejdolknkjjdaaBfX17
import Derived.Test.YtmejdolknkjjdaaBfP1
set_option maxRecDepth 100000
set_option maxHeartbeats 8000000
namespace Go.Bf
open Go Go.RowKit Go.Proofs Go.IntWalk
attribute [local simp] encB rowL rowW encSs encPs encD maxLen isBytes_map bytesOf_map
theorem isBytes_take (l : List UInt8) (n : Nat) : IsBytes ((l.map rowB).take n) := by rw [← List.map_take]; exact isBytes_map _
theorem bytesOf_take (l : List UInt8) (n : Nat) : bytesOf ((l.map rowB).take n) = l.take n := by rw [← List.map_take]; exact bytesOf_map _
attribute [local simp] isBytes_take bytesOf_take
theorem padB_take (b : List UInt8) : (padB b).take b.length = b := by simp [padB]
theorem law_DiskReads (d : Dk) (hd : d.fits) (a o : Int) (b c : List UInt8) : FnWp Try.prog 7 [encD d, .int .i64 a, .int .i64 o, encB b, encB c] (· = .ret (.bool true)) := by
  refine FnWp.intro' Try.func7 rfl (by simp [Try.ntmps7]) fun E hE => ?_
  refine DWp.reg false fun k hk => ?_
  simp
  refine hk _ ?_
  refine DWp.seqK fun k1 hk1 => ?_
  refine DWp.reg false fun k hk => ?_
  simp
  refine CallAt.det false ent10 rfl (sane_c) ?_
  try simp
  refine hk _ ?_
  refine DWp.condB ?_
  simp
  refine DWp.skip ?_
  refine hk1 _ ?_
  refine DWp.seqK fun k2 hk2 => ?_
  refine DWp.reg false fun k hk => ?_
  simp
  refine CallAt.det false ent11 rfl (refFew_c d hd) ?_
  try simp
  refine hk _ ?_
  refine DWp.condB ?_
  simp
  refine ⟨fun hT1 => ?_, fun hF1 => ?_⟩
  · simp [Tt] at hT1
    refine DWp.reg false fun k hk => ?_
    simp
    refine hk _ ?_
    refine DWp.ret (hE _ ?_).2
    simp
  · simp [Ff] at hF1
    refine DWp.skip ?_
    refine hk2 _ ?_
    obtain ⟨e, he⟩ : ∃ e, readD d o = e := ⟨_, rfl⟩
    obtain ⟨f, hf⟩ : ∃ f, writeD d a b = f := ⟨_, rfl⟩
    refine DWp.reg false fun k hk => ?_
    simp
    refine CallAt.det false ent21 rfl (read_c d hd o) ?_
    try simp
    refine hk _ ?_
    refine DWp.reg false fun k hk => ?_
    simp
    refine CallAt.det false ent19 rfl (write_c d hd a b) ?_
    try simp
    refine hk _ ?_
    refine DWp.seqK fun k3 hk3 => ?_
    refine DWp.reg false fun k hk => ?_
    simp
    refine hk _ ?_
    refine DWp.condB ?_
    simp
    refine ⟨fun hT2 => ?_, fun hF2 => ?_⟩
    · simp [Tt] at hT2
      refine DWp.reg false fun k hk => ?_
      simp
      refine hk _ ?_
      refine DWp.ret (hE _ ?_).2
      simp
    · simp [Ff] at hF2
      obtain ⟨w1, w2, w3, w4, w5, w6, w7⟩ := writeD_ok hF2.2
      obtain ⟨_, _, o1, o2⟩ := readD_ok hF2.1
      have hXok := okD_write w1 w3 w4 (padB_length b w5) w6
      have hXf : (writeD d a b).1.fits := fits_write d hd a b
      rw [w7] at hXf ⊢
      simp only at hXf ⊢
      obtain ⟨x, hx⟩ : ∃ x : Dk, ({ d with ps := d.ps ++ [(a, padB b)] } : Dk) = x := ⟨_, rfl⟩
      have hxst : x.st = false := by rw [← hx]; exact w2
      have hxss : x.ss = d.ss := by rw [← hx]
      have hxw : ∀ k, lastW x k = if a = k then padB b else lastW d k := fun k => by rw [← hx]; exact lastW_write d a k _
      rw [hx] at hXok hXf
      have rx : ∀ k : Int, 0 ≤ k → k < d.ss.length → readD x k = (if a = k then padB b else lastW d k, 0) := fun k h1 h2 => by rw [readD_val hXok hxst h1 (by rw [hxss]; exact h2), hxw]
      have rd : readD d o = (lastW d o, 0) := readD_val w1 w2 o1 o2
      refine DWp.skip ?_
      refine hk3 _ ?_
      have hc128 : c.length ≤ 128 := by omega
      refine DWp.sub (Sub.of (n := 172) (sl := [(1, .d (.int .i64 a)), (2, .d (.int .i64 o)), (3, .d (encB b)), (4, .d (encB c)), (5, .loc 0 0), (11, .d (encB (lastW d o))), (13, .loc 1 0)]) (ml := [(25, [.d (encSs d.ss), .d (encPs d.ps), .d (.int .i64 d.left), .d (.bool d.st)]), (25, [.d (encSs x.ss), .d (encPs x.ps), .d (.int .i64 x.left), .d (.bool x.st)])]) [0, 1] ⟨rfl, rfl, by simp, by simp, by simp [rd], by simp [← hx]⟩) ?_
      refine DWp.reg false fun k hk => ?_
      simp
      refine CallAt.det false ent21 rfl (read_c x hXf o) ?_
      rw [rx o o1 o2]
      simp
      refine hk _ ?_
      refine DWp.reg false fun k hk => ?_
      simp
      refine CallAt.det false ent21 rfl (read_c x hXf a) ?_
      rw [rx a w3 w4]
      simp
      refine hk _ ?_
      refine DWp.seqK fun k4 hk4 => ?_
      obtain ⟨af, haf⟩ : ∃ af, (if a = o then padB b else lastW d o) = af := ⟨_, rfl⟩
      have haf' : a ≠ o → af = lastW d o := fun h => by rw [← haf, if_neg h]
      rw [haf]
      refine DWp.drawPR false (.take 0 (.take 1 (.take 2 (.take 3 (.take 4 (.take 5 (.take 6 (.take 7 (.take 8 (.take 9 (.take 10 (.take 11 (.take 12 (.take 13 (.take 14 (.take 15 (.take 16 (.take 17 (.take 18 (.take 19 (.take 20 (.take 21 (.take 22 (.take 23 (.take 24 (.take 25 (.take 26 (.take 27 (.take 28 (.take 29 (.take 30 (.take 31 (.take 32 .done))))))))))))))))))))))))))))))))) mixed (by kernel_rfl) fun k hk => ?_
      simp [padB_length b w5, padB_take]
      refine ⟨w5, ?_⟩
      refine hk _ ?_
      refine DWp.condB ?_
      simp
      refine ⟨fun hT3 => ?_, fun hF3 => ?_⟩
      · simp [Tt] at hT3
        exact absurd (haf' hT3.1).symm hT3.2
      · simp [Ff] at hF3
        refine DWp.skip ?_
        refine hk4 _ ?_
        obtain ⟨y, hy⟩ : ∃ y, writeD x o c = y := ⟨_, rfl⟩
        have hyf : y.1.fits := by rw [← hy]; exact fits_write x hXf o c
        have hyc : y.2 = 2 ∨ (y.2 = 0 ∧ okD y.1 = true ∧ y.1.st = false ∧ y.1.ss.length = d.ss.length) := by
          rcases writeD_cases x o c hXok hxst o1 (by rw [hxss]; exact o2) hc128 with ⟨g1, g2⟩ | ⟨g1, g2⟩
          · left; rw [← hy, g2]
          · right; rw [← hy, g2]; exact ⟨rfl, okD_write hXok o1 (by rw [hxss]; exact o2) (padB_length c hc128) g1, hxst, by rw [hxss]⟩
        refine DWp.reg false fun k hk => ?_
        simp
        refine CallAt.det false ent19 rfl (write_c x hXf o c) ?_
        rw [hy]
        simp
        refine hk _ ?_
        refine DWp.seqK fun k5 hk5 => ?_
        refine DWp.reg false fun k hk => ?_
        simp
        refine hk _ ?_
        refine DWp.condB ?_
        simp
        refine ⟨fun hT4 => ?_, fun hF4 => ?_⟩
        · simp [Tt] at hT4
          refine DWp.reg false fun k hk => ?_
          simp
          refine hk _ ?_
          refine DWp.ret (hE _ ?_).2
          simp
          rcases hyc with h | h
          · exact h
          · exact absurd h.1 hT4
        · simp [Ff] at hF4
          obtain ⟨_, y1, y2, y3⟩ := hyc.resolve_left (by omega)
          refine DWp.skip ?_
          refine hk5 _ ?_
          obtain ⟨z, hz⟩ : ∃ z, syncD y.1 = z := ⟨_, rfl⟩
          have hzf : z.1.fits := by rw [← hz]; exact fits_sync _ hyf
          have hzc : z.2 ≠ 0 → z.2 = 440 ∧ z.1.st = true := fun h => by
            rcases syncD_cases y.1 y1 y2 with ⟨_, g2⟩ | ⟨_, g2⟩
            · rw [← hz]; exact g2
            · rw [← hz, g2] at h; exact absurd rfl h
          refine DWp.reg false fun k hk => ?_
          simp
          refine CallAt.det false ent23 rfl (sync_c y.1 hyf) ?_
          rw [hz]
          simp
          refine hk _ ?_
          refine DWp.seqK fun k6 hk6 => ?_
          refine DWp.reg false fun k hk => ?_
          simp
          refine hk _ ?_
          refine DWp.condB ?_
          simp
          refine ⟨fun hT5 => ?_, fun hF5 => ?_⟩
          · simp [Tt] at hT5
            refine DWp.reg false fun k hk => ?_
            simp
            refine hk _ ?_
            obtain ⟨z1, z2⟩ := hzc hT5
            refine DWp.ret (hE _ ?_).2
            simp [z1, z2]
          · simp [Ff] at hF5
            obtain ⟨z1, z2, z3, z4⟩ := okD_sync y1 y2 (by rw [hz]; exact hF5)
            rw [hz] at z1 z2 z3 z4
            have hread : ∀ k : Nat, k < d.ss.length → readD z.1 k = readD y.1 k ∧ (readD y.1 k).2 = 0 := fun k hk => by have := readD_sync y1 y2 (by rw [hz]; exact hF5) k (by omega); rw [hz] at this; exact this
            refine DWp.skip ?_
            refine hk6 _ ?_
            refine DWp.seqK fun k7 hk7 => ?_
            refine DWp.reg false fun k hk => ?_
            simp
            refine hk _ ?_
            refine DWp.block ?_
            refine DWp.loopK (fun k : Nat => Know.of 172 [(5, .loc 0 0), (19, .loc 1 0), (21, .loc 2 0), (23, .d (.int .i64 k))] [(25, [.d (encSs d.ss), .d (encPs d.ps), .d (.int .i64 d.left), .d (.bool d.st)]), (25, [.d (encSs y.1.ss), .d (encPs y.1.ps), .d (.int .i64 y.1.left), .d (.bool y.1.st)]), (25, [.d (encSs z.1.ss), .d (encPs z.1.ps), .d (.int .i64 z.1.left), .d (.bool z.1.st)])])
              (fun k => k ≤ d.ss.length) (fun k => d.ss.length - k) 0 (Sub.of [0, 2, 3] ⟨rfl, rfl, by simp, by simp, by simp, by simp⟩) (by simp) ?_
            rintro j hk' kl8 hkl8
            refine DWp.seqK fun k9 hk9 => ?_
            refine DWp.reg false fun k hk => ?_
            simp
            refine hk _ ?_
            refine DWp.condB ?_
            simp
            refine ⟨fun hT6 => ?_, fun hF6 => ?_⟩
            · simp [Tt] at hT6
              refine DWp.skip ?_
              refine hk9 _ ?_
              refine DWp.seqK fun k10 hk10 => ?_
              refine DWp.block ?_
              refine DWp.reg false fun k hk => ?_
              simp
              refine CallAt.det false ent21 rfl (read_c y.1 hyf j) ?_
              try simp
              refine hk _ ?_
              refine DWp.reg false fun k hk => ?_
              simp
              refine CallAt.det false ent21 rfl (read_c z.1 hzf j) ?_
              have hrk := hread j hT6
              rw [hrk.1]
              simp
              refine hk _ ?_
              refine DWp.reg false fun k hk => ?_
              simp [hrk.2]
              refine hk _ ?_
              refine DWp.condB ?_
              simp
              refine DWp.skip ?_
              refine hk10 _ ?_
              refine DWp.regionV false ?_
              simp
              rw [i64_in _ (by have := hd.1; omega)]
              refine hkl8 _ (j + 1) (by omega) (by omega) (Sub.of [0, 1, 2] ⟨rfl, rfl, by simp, by simp, by simp, by simp⟩)
            · simp [Ff] at hF6
              refine DWp.exit ?_
              simp
              refine hk7 _ ?_
              refine DWp.reg false fun k hk => ?_
              simp [z3]
              refine CallAtG.det (d := .int .i64 (if okD z.1 then 0 else 440)) false ent15 rfl (fun _ => by simpa [z3] using check_c z.1 hzf) ?_
              simp
              refine hk _ ?_
              refine DWp.ret (hE _ ?_).2
              simp [z1]
end Go.Bf
