/-
  The journal: opening. Printed by program (j6.py). Nothing is claimed here.
-/
import Derived.Test.YtmkgmmgfjibjmaaBfJ5
import Derived.Test.YtmkgmmgfjibjmaaBfJ1
set_option maxRecDepth 100000
set_option maxHeartbeats 8000000
namespace Go.Bf
open Go Go.RowKit Go.Proofs Go.IntWalk
attribute [local simp] encB rowL rowW encSs encPs encD maxLen isBytes_map bytesOf_map encJ
def recsL (l : List (List UInt8)) : List (List UInt8) := (recsD l).map (·.2)
def openD (d : Dk) : Jn × Int := if okD d then (if d.st then (zeroJ, 440) else if d.ps ≠ [] then (zeroJ, 1) else (⟨d.ss.length, (recsL d.ss).length, recsL d.ss⟩, 0)) else (zeroJ, 440)
theorem recsF_len (l : List (List UInt8)) : ∀ f p last, (recsF l f p last).length ≤ f
  | 0, _, _ => by simp [recsF]
  | f + 1, p, last => by
    rw [recsF]
    split
    · simp
    · simp; exact recsF_len l f _ _
theorem recsL_len (l : List (List UInt8)) : (recsL l).length ≤ l.length + 1 := by rw [recsL, List.length_map]; exact recsF_len _ _ _ _
def openM (d : Dk) : List (List UInt8) → List (TypeId × List SV)
  | [] => [(29, [.d (.int .i64 d.ss.length), .d (.int .i64 0), .clip []])]
  | r :: rs => [(29, [.d (.int .i64 d.ss.length), .d (.int .i64 0), .own 1 1 0 (r :: rs).length none]), (22, cellsL (r :: rs))]
theorem openM_cases (d : Dk) (q : List (List UInt8)) : (q = [] ∧ openM d q = [(29, [.d (.int .i64 d.ss.length), .d (.int .i64 0), .clip []])]) ∨ openM d q = [(29, [.d (.int .i64 d.ss.length), .d (.int .i64 0), .own 1 1 0 q.length none]), (22, cellsL q)] := by
  cases q with
  | nil => exact .inl ⟨rfl, rfl⟩
  | cons r rs => exact .inr rfl
theorem openM_snoc (d : Dk) (q : List (List UInt8)) (b : List UInt8) : openM d (q ++ [b]) = [(29, [.d (.int .i64 d.ss.length), .d (.int .i64 0), .own 1 1 0 (q ++ [b]).length none]), (22, cellsL (q ++ [b]))] := by
  cases q <;> rfl
def openS (d : Dk) (ml : List (TypeId × List SV)) : Know := Know.of 41 [(1, .d (.ptr [encSs d.ss, encPs d.ps, .int .i64 d.left, .bool d.st])), (2, .loc 0 0)] ml
theorem openS_slots {d : Dk} {ml : List (TypeId × List SV)} {i : Nat} {s : SV} (h : (openS d ml).slots i = some s) : i ∈ [1, 2] := by
  have := lk_memS h
  simp at this
  rcases this with h | h <;> simp [h.1]
theorem row_at {l : List (List UInt8)} {pre : List (List DV)} {x : List DV} (h : pre ++ [x] <+: ysD l) : ∃ m b, x = rowR (m, b) ∧ (recsL l).take (pre ++ [x]).length = (recsL l).take pre.length ++ [b] ∧ pre.length < (recsL l).length := by
  obtain ⟨t, ht⟩ := h
  have h1 : (ysD l)[pre.length]? = some x := by rw [← ht]; simp
  rw [ysD, List.getElem?_map, Option.map_eq_some_iff] at h1
  obtain ⟨y, h1, rfl⟩ := h1
  have h2 : (recsL l)[pre.length]? = some y.2 := by rw [recsL, List.getElem?_map, h1]; rfl
  refine ⟨y.1, y.2, rfl, ?_, ?_⟩
  · rw [List.length_append, List.length_singleton, List.take_add_one, h2]; rfl
  · exact (List.getElem?_eq_some_iff.1 h2).1
theorem full_take (l : List (List UInt8)) : (recsL l).take (ysD l).length = recsL l := List.take_of_length_le (by simp [ysD, recsL])
theorem ent11 : Enters Try.prog 11 := enters_of Try.func11 rfl rfl
theorem open_c (d : Dk) (hd : d.fits) : FnWp Try.prog 11 [encD d] (· = .ret (.tup [encJ (openD d).1, .int .i64 (openD d).2])) := by
  refine FnWp.intro' Try.func11 rfl (by simp [Try.ntmps11]) fun E hE => ?_
  refine DWp.reg false fun kk hk => ?_
  simp
  refine hk _ ?_
  refine DWp.seqK fun k1 hk1 => ?_
  refine DWp.sub (Sub.freeze 0 rfl rfl) ?_
  refine DWp.sub (Sub.of (n := 41) (sl := [(1, .d (.ptr [encSs d.ss, encPs d.ps, .int .i64 d.left, .bool d.st])), (2, .loc 0 0), (3, .d (.int .i64 0))]) (ml := [(29, [.d (.int .i64 0), .d (.int .i64 0), .clip []])]) [1] ⟨rfl, rfl, by simp, by simp, by simp, by simp⟩) ?_
  refine DWp.reg false fun kk hk => ?_
  simp
  refine CallAt.det false ent29 rfl (check_c d hd) ?_
  simp
  refine hk _ ?_
  refine DWp.reg false fun kk hk => ?_
  simp
  refine hk _ ?_
  refine DWp.condB ?_
  simp
  refine ⟨fun hT0 => ?_, fun hF0 => ?_⟩
  · simp [Tt] at hT0
    refine DWp.reg false fun kk hk => ?_
    simp
    refine hk _ ?_
    refine DWp.ret (hE _ ?_).2
    rw [show openD d = (zeroJ, 440) by simp [openD, hT0]]
    simp [zeroJ, hT0]
  · simp [Ff] at hF0
    refine DWp.skip ?_
    refine hk1 _ ?_
    refine DWp.seqK fun k2 hk2 => ?_
    refine DWp.reg false fun kk hk => ?_
    simp
    refine hk _ ?_
    refine DWp.condB ?_
    simp
    refine ⟨fun hT1 => ?_, fun hF1 => ?_⟩
    · simp [Tt] at hT1
      refine DWp.reg false fun kk hk => ?_
      simp
      refine hk _ ?_
      refine DWp.ret (hE _ ?_).2
      rw [show openD d = (zeroJ, 440) by simp [openD, hF0, hT1]]
      simp [zeroJ]
    · simp [Ff] at hF1
      refine DWp.skip ?_
      refine hk2 _ ?_
      refine DWp.seqK fun k3 hk3 => ?_
      refine DWp.reg false fun kk hk => ?_
      simp
      refine hk _ ?_
      refine DWp.condB ?_
      simp
      refine ⟨fun hT2 => ?_, fun hF2 => ?_⟩
      · simp [Tt] at hT2
        refine DWp.reg false fun kk hk => ?_
        simp
        refine hk _ ?_
        refine DWp.ret (hE _ ?_).2
        rw [show openD d = (zeroJ, 1) by simp only [openD, hF0, hF1, if_true]; rw [if_neg (by simp), if_pos (by intro e; simp [e] at hT2)]]
        simp [zeroJ]
      · simp [Ff] at hF2
        refine DWp.skip ?_
        refine hk3 _ ?_
        refine DWp.reg false fun kk hk => ?_
        simp
        refine hk _ ?_
        refine DWp.seqK fun k4 hk4 => ?_
        refine DWp.reg false fun kk hk => ?_
        simp
        refine CallAt.det false ent30 rfl (records_c d.ss) ?_
        simp
        refine hk _ ?_
        refine DWp.block ?_
        have hl : ∀ s ∈ d.ss, s.length = 128 := okD_s hF0
        have hn := okD_ps hF0
        have hrl := recsL_len d.ss
        refine DWp.sub (Sub.of (n := 41) (sl := [(1, .d (.ptr [encSs d.ss, encPs d.ps, .int .i64 d.left, .bool d.st])), (2, .loc 0 0), (27, .d (.fn 54 [.ptr [encSs d.ss]]))]) (ml := openM d []) [0] ⟨rfl, rfl, by simp, by simp, by simp, by simp [openM]⟩) ?_
        refine DWp.rangeF (f := 54) (caps := [.ptr [encSs d.ss]]) (ys := ysD d.ss) (fun pre => openS d (openM d ((recsL d.ss).take pre.length))) (fun _ => True) [1, 2] ent54 (records_seq d.ss hl (by omega)) (by simp) (fun pre => ⟨rfl, rfl, rfl, rfl, fun i s hs => openS_slots hs⟩) (by simp) (by simp) (fun x hx => by obtain ⟨y, _, rfl⟩ := List.mem_map.1 hx; rfl) (Sub.of [0] ⟨rfl, rfl, by simp, by simp [openM], by simp, by simp [openM]⟩) trivial ?_ ?_
        · intro l pre x hpx _
          obtain ⟨m, b, rfl, htk, hlt⟩ := row_at hpx
          simp only [htk]
          have hql : ((recsL d.ss).take pre.length).length = pre.length := by simp; omega
          generalize (recsL d.ss).take pre.length = q at hql
          refine DWp.sub (Sub.slots [(1, .d (.ptr [encSs d.ss, encPs d.ps, .int .i64 d.left, .bool d.st])), (2, .loc 0 0), (29, .d (encB b))] (by simp [roundK, openS, rowR])) ?_
          refine DWp.regionV false ?_
          simp [openS]
          refine DWp.block ?_
          refine DWp.regionV false ?_
          rcases openM_cases d q with ⟨rfl, hM⟩ | hM
          · simp [hM]
            exact ⟨by simp [Wide], trivial, Sub.of (n := 41) (sl := [(1, .d (.ptr [encSs d.ss, encPs d.ps, .int .i64 d.left, .bool d.st])), (2, .loc 0 0)]) (ml := openM d [b]) [0, 2] ⟨rfl, rfl, by simp, by simp, by simp, by simp [openM, cellsL]⟩⟩
          · simp [hM]
            exact ⟨⟨by omega, by omega⟩, trivial, Sub.of (n := 41) (sl := [(1, .d (.ptr [encSs d.ss, encPs d.ps, .int .i64 d.left, .bool d.st])), (2, .loc 0 0)]) (ml := openM d (q ++ [b])) [0, 3] ⟨rfl, by rw [openM_snoc]; rfl, by simp, by simp, by simp, by rw [openM_snoc]; simp [cellsL]⟩⟩
        · intro hdone
          show blockX _ _ _ (openS d (openM d ((recsL d.ss).take (ysD d.ss).length)))
          rw [full_take]
          generalize hR : recsL d.ss = R at *
          rcases openM_cases d R with ⟨he, hM⟩ | hM
          all_goals
            refine hk4 _ ?_
            refine DWp.reg false fun kk hk => ?_
            simp [openS, hM]
            refine hk _ ?_
            refine DWp.reg false fun kk hk => ?_
            simp
            refine hk _ ?_
            refine DWp.ret (hE _ ?_).2
            rw [show openD d = (⟨d.ss.length, R.length, R⟩, 0) by simp [openD, hF0, hF1, hF2, hR]]
            first | (simp [he]; done) | (simp [Function.comp_def]; done) | (simp [Function.comp_def]; rfl) | (simp; rfl)
end Go.Bf
