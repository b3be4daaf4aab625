/-
  The law on syncing in steps. Printed by program (j13b.py). Nothing is claimed here.
-/
import Derived.Test.YtmkgmmgfjibjmaaBfJ13
set_option maxRecDepth 100000
set_option maxHeartbeats 8000000
namespace Go.Bf
open Go Go.RowKit Go.Proofs Go.IntWalk
attribute [local simp] encB rowL rowW encSs encPs encD maxLen isBytes_map bytesOf_map encJ
attribute [local irreducible] LendC
theorem snap_ab (a b : List (List UInt8)) : allD (List.take (a.length + b.length) (List.map (fun l => SV.d (DV.list (List.map rowB l))) a ++ List.map (fun l => SV.d (DV.list (List.map rowB l))) b)) = some ((a ++ b).map fun l => DV.list (l.map rowB)) := by
  rw [← List.map_append, List.take_of_length_le (by simp), allD_map (fun l : List UInt8 => DV.list (l.map rowB))]
def sD40 : Dk := (newD 40).1
def sL40 : Jn := (openD sD40).1
theorem e_new40 : newD 40 = (sD40, 0) := rfl
theorem e_open40 : openD sD40 = (sL40, 0) := by kernel_rfl
theorem e_lm : sL40.many = 40 ∧ sL40.synced = 0 ∧ sL40.recs = [] := ⟨by kernel_rfl, by kernel_rfl, by kernel_rfl⟩
theorem e_d40 : okD sD40 = true ∧ sD40.st = false ∧ sD40.ps = [] ∧ sD40.left = -1 ∧ sD40.ss.length = 40 ∧ recsL sD40.ss = [] ∧ gensD sD40.ss = 1 := ⟨by kernel_rfl, by kernel_rfl, by kernel_rfl, by kernel_rfl, by kernel_rfl, by kernel_rfl, by kernel_rfl⟩
theorem e_fd40 : sD40.fits := fitsC (by decide +kernel)
theorem sL40_sm : Sm sL40 := by
  obtain ⟨h1, h2, h3⟩ := e_lm
  exact Sm.of (by omega) (by rw [h2, h3]; simp) (by rw [h3, h1]; decide) (by rw [h3]; simp)
/-- A disk and the journal that was opened of it. -/
structure Pair (j : Jn) (d : Dk) : Prop where
  sm : Sm j
  many : j.many = d.ss.length
  ok : okD d = true
  st : d.st = false
  ps : d.ps = []
  left : d.left = -1
  opened : recsL d.ss = j.recs
  all : j.synced = j.recs.length
theorem Pair.asked {j : Jn} {d : Dk} (h : Pair j d) (hg : gensD d.ss < 4294967296) {l : List (List UInt8)} (hl : ∀ b ∈ l, b.length ≤ 140737488355328) : Asked (addJ j l) d ∧ Sm (addJ j l) := by
  obtain ⟨h1, h2, h3, t, h4⟩ := addJ_sm l h.sm hl
  have := h1.syn
  refine ⟨⟨h1.ok, by have := h1.used; omega, h.ok, h.st, h.ps, by rw [h2]; exact h.many, ?_, hg⟩, h1⟩
  rw [h3, h.all, h4, h.opened]
  simp
theorem Pair.next {j x : Jn} {d y : Dk} (h : Pair j d) {l : List (List UInt8)} (h1 : Sm (addJ j l)) (hm : (addJ j l).many = j.many) (hs : Synced (addJ j l) d x y) (hl : y.left = -1) : Pair x y := by
  have hx : x = { addJ j l with synced := (addJ j l).recs.length } := by
    cases x; have := hs.many; have := hs.recs; have := hs.all
    simp_all
  refine ⟨?_, by rw [hs.many, hm, h.many, hs.len], hs.ok, hs.st, hs.ps, hl, by rw [hs.opened, hs.recs], by rw [hs.all, hs.recs]⟩
  have hy := h1.syn
  subst hx
  exact Sm.of (by simp only; omega) (by simp only; omega) h1.used h1.len
/-- One sync of what was added. -/
theorem Pair.step {j : Jn} {d : Dk} (h : Pair j d) (hg : gensD d.ss < 4294967296) {l : List (List UInt8)} (hl : ∀ b ∈ l, b.length ≤ 140737488355328) :
    ∃ x y, jsyncD (addJ j l) d = (x, y, 0) ∧ Pair x y ∧ x.recs = (addJ j l).recs ∧ x.many = j.many ∧ gensD y.ss ≤ gensD d.ss + 1 := by
  obtain ⟨ha, hs⟩ := h.asked hg hl
  have hm := (addJ_sm l h.sm hl).2.1
  obtain ⟨x, y, h1, h2, h3⟩ := synced_of ha (by have := h.left; omega)
  exact ⟨x, y, h1, h.next hs hm h2 (h3 h.left), h2.recs, h2.many.trans hm, h2.gens⟩
theorem Pair.open {j : Jn} {d : Dk} (h : Pair j d) : openD d = (j, 0) := by
  unfold openD
  rw [if_pos h.ok, h.st, h.ps]
  have h1 := h.many; have h2 := h.all; have h3 := h.opened
  cases j
  simp at h1 h2 h3
  simp [h1, h2, h3]
theorem Pair.fits {j : Jn} {d : Dk} (h : Pair j d) : d.fits := by
  have := okD_ps h.ok
  exact ⟨by omega, by omega⟩
theorem jn_eq {x y : Jn} (h1 : x.many = y.many) (h2 : x.synced = y.synced) (h3 : x.recs = y.recs) : x = y := by
  cases x; cases y; simp at h1 h2 h3; subst h1; subst h2; subst h3; rfl
theorem addJ_append (j : Jn) (a b : List (List UInt8)) : addJ j (a ++ b) = addJ (addJ j a) b := by simp [addJ]
/-- What is added depends on nothing but what is there. -/
theorem add1_alike {j k : Jn} (hj : Sm j) (hk : Sm k) (h1 : j.many = k.many) (h2 : j.recs = k.recs) {b : List UInt8} (_ : b.length ≤ 140737488355328) : (add1 j b).recs = (add1 k b).recs := by
  unfold add1 appendJ
  rw [if_pos hj.ok, if_pos hk.ok]
  have : leftJ j = leftJ k := by unfold leftJ; rw [h1, h2]
  rw [this]
  split
  · simp [h2]
  · simp [h2]
theorem addJ_alike : ∀ (l : List (List UInt8)) {j k : Jn}, Sm j → Sm k → j.many = k.many → j.recs = k.recs → (∀ b ∈ l, b.length ≤ 140737488355328) → (addJ j l).recs = (addJ k l).recs
  | [], _, _, _, _, _, h, _ => h
  | b :: l, j, k, hj, hk, h1, h2, hl => by
    obtain ⟨a1, a2, _, _⟩ := add1_sm hj (hl b (by simp))
    obtain ⟨b1, b2, _, _⟩ := add1_sm hk (hl b (by simp))
    exact addJ_alike l a1 b1 (by rw [a2, b2, h1]) (add1_alike hj hk h1 h2 (hl b (by simp))) (fun c hc => hl c (by simp [hc]))
/-- All that the law on steps asks. -/
theorem steps_all (a b : List (List UInt8)) (ha : ∀ x ∈ a, x.length ≤ 140737488355328) (hb : ∀ x ∈ b, x.length ≤ 140737488355328) :
    ∃ two c one x y, jsyncD (addJ (addJ sL40 a) b) sD40 = (two, c, 0) ∧ jsyncD (addJ sL40 a) sD40 = (one, x, 0) ∧ jsyncD (addJ one b) x = (two, y, 0) ∧ jsyncD two y = (two, y, 0) ∧ openD c = (two, 0) ∧ openD y = (two, 0) ∧
      Sm (addJ (addJ sL40 a) b) ∧ Sm (addJ sL40 a) ∧ Sm one ∧ Sm (addJ one b) ∧ Sm two ∧ c.fits ∧ x.fits ∧ y.fits := by
  obtain ⟨e1, e2, e3, e4, e5, e6, e7⟩ := e_d40
  obtain ⟨m1, m2, m3⟩ := e_lm
  have h0 : Pair sL40 sD40 := ⟨sL40_sm, by rw [m1, e5]; rfl, e1, e2, e3, e4, by rw [e6, m3], by rw [m2, m3]; rfl⟩
  have hab : ∀ x ∈ a ++ b, x.length ≤ 140737488355328 := fun x hx => (List.mem_append.1 hx).elim (ha x) (hb x)
  obtain ⟨two, c, g1, g2, g3, g4, _⟩ := h0.step (by rw [e7]; decide) hab
  obtain ⟨one, x, k1, k2, k3, k4, k5⟩ := h0.step (by rw [e7]; decide) ha
  obtain ⟨two', y, l1, l2, l3, l4, l5⟩ := k2.step (by omega) hb
  have hs2 := addJ_sm (a ++ b) h0.sm hab
  have hs1 := addJ_sm a h0.sm ha
  rw [addJ_append] at g1 g3 hs2
  have hrec : (addJ one b).recs = (addJ (addJ sL40 a) b).recs := addJ_alike b k2.sm hs1.1 (by rw [k4, hs1.2.1]) k3 hb
  have htt : two' = two := jn_eq (by rw [l4, k4, g4]) (by rw [l2.all, g2.all, l3, g3, hrec]) (by rw [l3, g3, hrec])
  subst htt
  obtain ⟨q1, q2, q3, q4, _⟩ := l2.step (by omega) (l := []) (by simp)
  have hall : jsyncD two' y = (two', y, 0) := by
    obtain ⟨ha, _⟩ := l2.asked (by omega) (l := []) (by simp)
    have := asked_run ha
    rw [show addJ two' [] = two' from rfl, if_pos l2.all] at this
    exact this
  exact ⟨two', c, one, x, y, g1, k1, l1, hall, g2.open, l2.open, hs2.1, hs1.1, k2.sm, (addJ_sm b k2.sm hb).1, l2.sm, g2.fits, k2.fits, l2.fits⟩
theorem ent26 : Enters Try.prog 26 := enters_of Try.func26 rfl rfl
theorem law_JournalSteps (a : List (List UInt8)) (ha : FitL a) (b : List (List UInt8)) (hb : FitL b) (hbig : a.length + b.length ≤ 1048576) : FnWp Try.prog 7 [encSs a, encSs b] (· = .ret (.bool true)) := by
  refine FnWp.intro' Try.func7 rfl (by simp [Try.ntmps7]) fun E hE => ?_
  refine DWp.reg false fun kk hk => ?_
  simp
  refine hk _ ?_
  refine DWp.seqK fun k1 hk1 => ?_
  refine DWp.reg false fun kk hk => ?_
  simp
  refine CallAt.det false ent9 rfl (jsane_c) ?_
  simp
  refine hk _ ?_
  refine DWp.condB ?_
  simp
  refine DWp.skip ?_
  refine hk1 _ ?_
  refine DWp.reg false fun kk hk => ?_
  simp
  refine CallAt.det false ent21 rfl (new_c 40) ?_
  rw [e_new40]
  simp
  refine hk _ ?_
  refine DWp.seqK fun k2 hk2 => ?_
  have hal := ha.1
  have hbl := hb.1
  have h41 : a.length ≤ 9223372036854775807 := by omega
  have h42 : a.length * 24 ≤ 140737488355328 := by omega
  have h43 : a.length + b.length ≤ 9223372036854775807 := by omega
  have h44 : (a.length + b.length) * 24 ≤ 140737488355328 := by omega
  have hfew := few_c sD40 (a ++ b) (by simp; omega) (fun x hx => (List.mem_append.1 hx).elim (ha.2 x) (hb.2 x))
  refine DWp.drawPR false [] (.take 0 (.take 1 (.take 2 (.take 5 (.take 7 (.two 3 4 (.take 4 (.take 6 (.take 8 (.lend 9 (.take 10 (.take 11 .done)))))) (.two 3 6 (.take 6 (.take 8 (.lend 9 (.take 10 (.take 11 .done))))) (.two 3 8 (.take 8 (.lend 9 (.take 10 (.take 11 .done)))) (.take 3 (.lend 9 (.take 10 (.take 11 .done)))))))))))) mixed (by kernel_rfl) fun kk hk => ?_
  have hJ : ∀ (K' : Know) , Sub (Know.of 154 [(0, .d (encSs a)), (1, .d (encSs b)), (5, .loc 0 0), (6, .d (.int .i64 0)), (43, .d (.bool (!fewJ sD40 (a ++ b))))] [(25, [.d (encSs sD40.ss), .d (encPs sD40.ps), .d (.int .i64 sD40.left), .d (.bool sD40.st)])]) K' → kk K' := by
    intro K'  hs
    refine hk _ (DWp.sub hs ?_)
    refine DWp.condB ?_
    simp
    refine ⟨fun hT1 => ?_, fun hF1 => ?_⟩
    · simp [Tt] at hT1
      refine DWp.reg false fun kk hk => ?_
      simp
      refine hk _ ?_
      refine DWp.ret (hE _ ?_).2
      simp
    · simp [Ff] at hF1
      refine DWp.skip ?_
      refine hk2 _ ?_
      refine DWp.reg false fun kk hk => ?_
      simp
      refine hk _ ?_
      refine DWp.reg false fun kk hk => ?_
      simp
      refine CallAt.det false ent11 rfl (open_c sD40 e_fd40) ?_
      rw [e_open40]
      simp
      refine hk _ ?_
      refine DWp.seqK fun k3 hk3 => ?_
      refine DWp.reg false fun kk hk => ?_
      simp
      refine hk _ ?_
      refine DWp.condB ?_
      simp
      refine DWp.skip ?_
      refine hk3 _ ?_
      obtain ⟨two, c, one, x, y, q1, q2, q3, q4, q5, q6, s1, s2, s3, s4, s5, f1, f2, f3⟩ := steps_all a b ha.2 hb.2
      refine DWp.drawPR false [] (.take 0 (.take 1 (.take 2 (.take 3 (.take 4 (.take 5 (.take 6 (.take 7 (.take 8 (.take 9 (.take 10 (.take 11 (.take 12 (.two 13 14 (.take 14 (.take 15 (.take 16 (.take 17 .done)))) (.take 13 (.take 15 (.take 16 (.take 17 .done)))))))))))))))))) mixed (by kernel_rfl) fun kk hk => ?_
      have hJ : ∀ (K' : Know) , Sub (Know.of 154 [(0, .d (encSs a)), (1, .d (encSs b)), (5, .loc 0 0), (7, .d (.fn 25 [])), (8, .loc 1 0), (10, .loc 2 0), (11, .loc 3 0), (12, .d (.int .i64 0))] [(25, [.d (encSs sD40.ss), .d (encPs sD40.ps), .d (.int .i64 sD40.left), .d (.bool sD40.st)]), (29, [.d (.int .i64 sL40.many), .d (.int .i64 sL40.synced), .d (encSs sL40.recs)]), (29, [.d (.int .i64 two.many), .d (.int .i64 two.synced), .d (encSs two.recs)]), (25, [.d (encSs c.ss), .d (encPs c.ps), .d (.int .i64 c.left), .d (.bool c.st)])]) K' → kk K' := by
        intro K'  hs
        refine hk _ (DWp.sub hs ?_)
        refine DWp.drawPR false [] (.take 0 (.take 1 (.take 2 (.take 3 (.take 4 (.take 5 (.take 6 (.take 7 (.take 8 (.take 9 (.two 10 11 (.take 11 (.take 12 (.take 13 (.take 14 .done)))) (.take 10 (.take 12 (.take 13 (.take 14 .done))))))))))))))) mixed (by kernel_rfl) fun kk hk => ?_
        have hJ : ∀ (K' : Know) , Sub (Know.of 154 [(0, .d (encSs a)), (1, .d (encSs b)), (5, .loc 0 0), (7, .d (.fn 25 [])), (10, .loc 2 0), (11, .loc 3 0), (12, .d (.int .i64 0)), (13, .loc 4 0), (14, .loc 5 0), (15, .d (.int .i64 0))] [(25, [.d (encSs sD40.ss), .d (encPs sD40.ps), .d (.int .i64 sD40.left), .d (.bool sD40.st)]), (29, [.d (.int .i64 sL40.many), .d (.int .i64 sL40.synced), .d (encSs sL40.recs)]), (29, [.d (.int .i64 two.many), .d (.int .i64 two.synced), .d (encSs two.recs)]), (25, [.d (encSs c.ss), .d (encPs c.ps), .d (.int .i64 c.left), .d (.bool c.st)]), (29, [.d (.int .i64 one.many), .d (.int .i64 one.synced), .d (encSs one.recs)]), (25, [.d (encSs x.ss), .d (encPs x.ps), .d (.int .i64 x.left), .d (.bool x.st)])]) K' → kk K' := by
          intro K'  hs
          refine hk _ (DWp.sub hs ?_)
          refine DWp.drawPR false [] (.take 0 (.take 1 (.take 2 (.take 3 (.take 4 (.take 5 (.take 6 (.take 7 (.take 8 (.take 9 (.two 10 11 (.take 11 (.take 12 (.take 13 (.take 14 .done)))) (.take 10 (.take 12 (.take 13 (.take 14 .done))))))))))))))) mixed (by kernel_rfl) fun kk hk => ?_
          have hJ : ∀ (K' : Know) , Sub (Know.of 154 [(10, .loc 2 0), (11, .loc 3 0), (12, .d (.int .i64 0)), (15, .d (.int .i64 0)), (16, .loc 6 0), (17, .loc 7 0), (18, .d (.int .i64 0))] [(25, [.d (encSs sD40.ss), .d (encPs sD40.ps), .d (.int .i64 sD40.left), .d (.bool sD40.st)]), (29, [.d (.int .i64 sL40.many), .d (.int .i64 sL40.synced), .d (encSs sL40.recs)]), (29, [.d (.int .i64 two.many), .d (.int .i64 two.synced), .d (encSs two.recs)]), (25, [.d (encSs c.ss), .d (encPs c.ps), .d (.int .i64 c.left), .d (.bool c.st)]), (29, [.d (.int .i64 one.many), .d (.int .i64 one.synced), .d (encSs one.recs)]), (25, [.d (encSs x.ss), .d (encPs x.ps), .d (.int .i64 x.left), .d (.bool x.st)]), (29, [.d (.int .i64 two.many), .d (.int .i64 two.synced), .d (encSs two.recs)]), (25, [.d (encSs y.ss), .d (encPs y.ps), .d (.int .i64 y.left), .d (.bool y.st)])]) K' → kk K' := by
            intro K'  hs
            refine hk _ (DWp.sub hs ?_)
            refine DWp.reg false fun kk hk => ?_
            simp
            refine CallAt.det false ent22 rfl (jsync_c _ s5.fit y f3 (by have := (s5).used; have := (s5).syn; omega)) ?_
            rw [q4]
            simp
            refine hk _ ?_
            refine DWp.reg false fun kk hk => ?_
            simp
            refine CallAt.det false ent11 rfl (open_c c f1) ?_
            rw [q5]
            simp
            refine hk _ ?_
            refine DWp.reg false fun kk hk => ?_
            simp
            refine CallAt.det false ent11 rfl (open_c y f3) ?_
            rw [q6]
            simp
            refine hk _ ?_
            refine DWp.reg false fun kk hk => ?_
            simp
            refine CallAtG.det false ent13 rfl (fun _ => sameJ_c two two (by have := s5.fit.1; omega)) ?_
            try simp
            refine CallAtG.det false ent13 rfl (fun _ => sameJ_c two two (by have := s5.fit.1; omega)) ?_
            try simp
            refine CallAtG.det false ent20 rfl (fun _ => sameR_c two.recs two.recs (by have := s5.fit.1; omega)) ?_
            try simp
            refine CallAtG.det false ent20 rfl (fun _ => sameR_c two.recs two.recs (by have := s5.fit.1; omega)) ?_
            try simp
            refine CallAtG.det false ent26 rfl (fun _ => refSame_c y y f3) ?_
            try simp
            refine hk _ ?_
            refine DWp.ret (hE _ ?_).2
            simp
          simp
          refine DetCall.intro ent25 rfl (fun _ => add_c one s3 b hb) ?_
          simp
          refine DetCall.intro ent22 rfl (fun _ => jsync_c _ s4.fit x f2 (by have := (s4).used; have := (s4).syn; omega)) ?_
          rw [q3]
          simp
          exact ⟨hJ _ (Sub.of [0, 1, 2, 3, 4, 5, 6, 7] ⟨rfl, rfl, by simp, by simp, by simp, by simp⟩), hJ _ (Sub.of [0, 1, 2, 3, 4, 5, 7, 6] ⟨rfl, rfl, by simp, by simp, by simp, by simp⟩)⟩
        simp
        refine DetCall.intro ent25 rfl (fun _ => add_c sL40 sL40_sm a ha) ?_
        simp
        refine DetCall.intro ent22 rfl (fun _ => jsync_c _ s2.fit sD40 e_fd40 (by have := (s2).used; have := (s2).syn; omega)) ?_
        rw [q2]
        simp
        exact ⟨hJ _ (Sub.of [0, 1, 2, 3, 4, 5] ⟨rfl, rfl, by simp, by simp, by simp, by simp⟩), hJ _ (Sub.of [0, 1, 2, 3, 5, 4] ⟨rfl, rfl, by simp, by simp, by simp, by simp⟩)⟩
      simp
      refine DetCall.intro ent25 rfl (fun _ => add_c sL40 sL40_sm a ha) ?_
      simp
      refine DetCall.intro ent25 rfl (fun _ => add_c (addJ sL40 a) s2 b hb) ?_
      simp
      refine DetCall.intro ent22 rfl (fun _ => jsync_c _ s1.fit sD40 e_fd40 (by have := (s1).used; have := (s1).syn; omega)) ?_
      rw [q1]
      simp
      exact ⟨hJ _ (Sub.of [0, 1, 2, 3] ⟨rfl, rfl, by simp, by simp, by simp, by simp⟩), hJ _ (Sub.of [0, 1, 3, 2] ⟨rfl, rfl, by simp, by simp, by simp, by simp⟩)⟩
  simp [h41, h42, h43, h44]
  repeat' apply And.intro
  all_goals refine LendC.intro (ds := [encD sD40, encSs (a ++ b)]) ent10 ?_ hfew rfl ?_
  all_goals first | exact hJ _ (Sub.of [0] ⟨rfl, rfl, by simp, by simp, by simp, by simp⟩) | simp [snap_ab]
  all_goals first | exact hJ _ (Sub.of [0] ⟨rfl, rfl, by simp, by simp, by simp, by simp⟩) | rfl
end Go.Bf
