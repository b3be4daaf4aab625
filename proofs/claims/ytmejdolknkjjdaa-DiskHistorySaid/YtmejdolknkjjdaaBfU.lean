/-
  A function's contract out of its body. Nothing is claimed here.
-/
import Derived.Test.YtmejdolknkjjdaaBfT2
namespace Go.Bf
open Go Go.RowKit
variable {P : Program}

/-- Blocks of cells are as they were. -/
structure SameC (base : Nat) (oth : Nat → Prop) (w w' : World) : Prop where
  below : Below base w w'
  oth : ∀ k : Nat, oth k → w'.heap[k]? = w.heap[k]?
  cells : ∀ (B : Nat) c t f, w.heap[B]? = some (.cells c t f) → w'.heap[B]? = some (.cells c t f)
  size : w'.heap.size = w.heap.size

theorem SameC.refl (base : Nat) (oth : Nat → Prop) (w : World) : SameC base oth w w := ⟨Below.refl _ _, fun _ _ => rfl, fun _ _ _ _ h => h, rfl⟩
theorem SameC.trans {base : Nat} {oth : Nat → Prop} {a b c : World} (h : SameC base oth a b) (k : SameC base oth b c) : SameC base oth a c :=
  ⟨h.below.trans k.below, fun i hi => (k.oth i hi).trans (h.oth i hi), fun B c t f e => k.cells B c t f (h.cells B c t f e), k.size.trans h.size⟩

theorem sameC_put {base : Nat} {oth : Nat → Prop} {w : World} {D : Nat} {ds : Option (List Deferred)} (h : w.heap[D]? = some (.deferred ds)) (hb : base ≤ D ∧ ¬ oth D) (ds' : Option (List Deferred)) : SameC base oth w (w.putObj D (.deferred ds')) := by
  refine ⟨⟨rfl, rfl, rfl, by simp, fun k hk => World.putObj_heap_other (by omega)⟩, fun k hk => World.putObj_heap_other (fun e => hb.2 (e ▸ hk)), fun B c t f e => ?_, by simp⟩
  have : B ≠ D := fun e2 => by subst e2; rw [h] at e; cases e
  exact (World.putObj_heap_other this).trans e

theorem SameC.cell {base : Nat} {oth : Nat → Prop} {w w' : World} (h : SameC base oth w w') {a : Addr} {v : Value} (hv : w.cell? a = some v) : w'.cell? a = some v := by
  unfold World.cell? at hv ⊢
  split at hv
  · rename_i c t f e
    rw [h.cells _ c t f e]; exact hv
  · cases hv

theorem Models.sameC {x : Ctx} {K : Know} {a : Act} {w w' : World} (hm : Models x K a w) (h : SameC x.w0.heap.size x.oth w w') : Models x K { a with defers := [] } w' where
  fro := hm.fro
  size := hm.size
  defers := trivial
  below := x.w0.up _ _ _ _ _ hm.below h.below h.oth (fun b o v hv => h.cell (hm.holds b o v hv))
  holds := fun b o v hv => h.cell (hm.holds b o v hv)
  old := hm.old
  slots := hm.slots
  unborn := hm.unborn
  dead := hm.dead
  live := fun b t cells hmem => by
    obtain ⟨B, vals, fr, g1, ⟨T, g2⟩, g3⟩ := (hm.live b t cells hmem).out
    exact ⟨B, vals, fr, g1, ⟨T, h.cells B vals T fr g2⟩, g3⟩
  inj := hm.inj
  one := hm.one
  fresh := hm.fresh

theorem leaves_marks {fn : Func} {tmps : Array Value} {R : Ending → World → Prop} {u : FrameMode} {F : Fence} {n base : Nat} {oth : Nat → Prop} (hu : u ≠ .run) : ∀ (ds : List Deferred) (w : World), Marks w base oth ds →
    (∀ w', SameC base oth w w' → LeavesIn F n P fn tmps R [] u w') → LeavesInM F n P fn tmps R ds u w := by
  intro ds
  induction ds with
  | nil => intro w _ h; exact h w (SameC.refl _ _ _)
  | cons d ds ih =>
    intro w hmk h
    obtain ⟨⟨D, rfl, h2, h3, h4⟩, hrest⟩ := hmk
    refine ⟨hu, .inl ⟨D, w.putObj D (.deferred none), rfl, run_takeDeferred h2, ?_⟩⟩
    have hs := sameC_put h2 h3 none
    have key : ∀ (ds : List Deferred), (∀ d' ∈ ds, d'.target ≠ .collected D) → Marks w base oth ds → Marks (w.putObj D (.deferred none)) base oth ds := by
      intro ds
      induction ds with
      | nil => intro _ _; trivial
      | cons d ds ih' =>
        intro hne hmk
        obtain ⟨⟨D', rfl, k2, k3, k4⟩, hr⟩ := hmk
        have hDD : D' ≠ D := fun e => hne { target := .collected D', args := #[] } (by simp) (by simp [e])
        exact ⟨⟨D', rfl, (World.putObj_heap_other hDD).trans k2, k3, k4⟩, ih' (fun d' hd' => hne d' (by simp [hd'])) hr⟩
    exact ih _ (key ds h4 hrest) fun w' hw' => h w' (hs.trans hw')

def resS (P : Program) (K : Know) : ResultVar → R
  | .tmp t => rdK K true (.tmp t)
  | .cell t ty => match K.slots t with
    | some s => loadF P K.mem ty s
    | none => none

def resL (P : Program) (K : Know) : List ResultVar → Option (Prop × List DV)
  | [] => some (True, [])
  | rv :: rs => match resS P K rv, resL P K rs with
    | some (p, s), some (q, ds) => match snapD K.mem 6 s with
      | some d => some (p ∧ q, d :: ds)
      | none => none
    | _, _ => none

def retOf : List DV → DV
  | [d] => d
  | ds => .tup ds

/-- What is asked where a function's body is left by a return. -/
def RetPost (P : Program) (K : Know) (rv : List ResultVar) (Q : Out → Prop) : Prop :=
  (match resL P K rv with | some (p, ds) => p ∧ Q (.ret (retOf ds)) | none => False) ∨
  (match rv with
    | [r] => match resS P K r with | some (p, .clip xs) => p ∧ Q (.clip xs) | _ => False
    | _ => False) ∨
  (match rv with
    | [.tmp i] => ∃ s ml ν, ViewOk K K.n [(i, s)] ml ν ∧ Q (.fresh s ml)
    | _ => False)

/-- What is asked where a function's body is left. -/
def FnPost (P : Program) (rv : List ResultVar) (Q : Out → Prop) : XE → Know → Prop
  | .normal, K => RetPost P K rv Q
  | .ret, K => RetPost P K rv Q
  | .pan d, _ => Q (.pan d)
  | .exit _, _ => False

def resFn (tmps : Array Value) : ResultVar → Sem Value
  | .tmp t => pure (tmps.getD t undef)
  | .cell b t => do loadVar t (← asAddr (tmps.getD b undef))

theorem results_eq (fn : Func) (tmps : Array Value) : results fn tmps = (do let vs ← fn.results.mapM (resFn tmps); pure (if h : vs.size = 1 then vs[0] else .tuple vs)) := by
  unfold results
  have : (fun rv : ResultVar => (match rv with | .tmp t => pure (tmps.getD t undef) | .cell a t => do loadVar t (← asAddr (tmps.getD a undef)) : Sem Value)) = resFn tmps := by
    funext rv; cases rv <;> rfl
  rw [← this]
  rfl

theorem resS_sound {x : Ctx} {K : Know} {a : Act} {w : World} (hm : Models x K a w) {rv : ResultVar} {p : Prop} {s : SV} (h : resS P K rv = some (p, s)) (hp : p) :
    ∃ v, (resFn a.tmps rv).run P w = .ok v w ∧ SRep x.J x.β v s := by
  cases rv with
  | tmp t =>
    have := rdK_rep hm (o := .tmp t) h hp rfl
    exact ⟨_, rfl, this⟩
  | cell b t =>
    simp only [resS] at h
    split at h
    · rename_i s' hs
      obtain ⟨v, e, r⟩ := hm.slots b s' hs
      obtain ⟨u, e2, r2⟩ := loadF_sound (P := P) hm r h hp
      have hg : a.tmps.getD b undef = v := eval_tmp e
      refine ⟨u, ?_, r2⟩
      simp only [resFn, hg]
      cases v with
      | pointer ad =>
        cases ad with
        | none => simp [Instr.loadAt, Instr.sureAddr] at e2
        | some ad => simpa [Instr.loadAt, Instr.sureAddr, asAddr] using e2
      | _ => simp [Instr.loadAt, Instr.sureAddr] at e2
    · cases h

theorem resL_sound {x : Ctx} {K : Know} {a : Act} {w : World} (hm : Models x K a w) {J : Imm} (hJ : SnapJ x K w J) : ∀ (rvs : List ResultVar) (p : Prop) (ds : List DV), resL P K rvs = some (p, ds) → p →
    ∃ vs : List Value, (rvs.mapM (resFn a.tmps)).run P w = .ok vs w ∧ vs.length = ds.length ∧
      ∀ (i : Nat) v d, vs[i]? = some v → ds[i]? = some d → Rep J v d := by
  intro rvs
  induction rvs with
  | nil =>
    intro p ds h _
    simp only [resL, Option.some.injEq, Prod.mk.injEq] at h
    obtain ⟨rfl, rfl⟩ := h
    exact ⟨[], rfl, rfl, fun i v d h => by simp at h⟩
  | cons rv rvs ih =>
    intro p ds h hp
    simp only [resL] at h
    split at h
    · rename_i p1 s q1 ds1 h1 h2
      split at h
      · rename_i d hd
        simp only [Option.some.injEq, Prod.mk.injEq] at h
        obtain ⟨rfl, rfl⟩ := h
        obtain ⟨v, e1, r1⟩ := resS_sound hm h1 hp.1
        obtain ⟨vs, e2, g1, g2⟩ := ih q1 ds1 h2 hp.2
        refine ⟨v :: vs, ?_, by simp [g1], fun i u q hu hq => ?_⟩
        · simp only [List.mapM_cons, Sem.run_bind, e1, e2, Result.andThen_ok, Sem.run_pure]
        · cases i with
          | zero => simp at hu hq; subst hu; subst hq; exact snapD_rep hm hJ 6 s v d r1 hd
          | succ i => exact g2 i u q (by simpa using hu) (by simpa using hq)
      · cases h
    · cases h

def Know.start (n : Nat) (ds : List DV) : Know := { slots := fun i => (ds[i]?).map .d, mem := fun _ => .unborn, n := n, nx := 0 }

/-- **A function's contract out of its body.** -/
theorem FnWp.intro {f : FuncId} {fn : Func} {c : Code} {ds : List DV} {Q : Out → Prop} (hf : P.funcs[f]? = some fn) (hb : fn.body = some c) (hn : ds.length ≤ fn.ntmps)
    (h : DWp P none c (FnPost P fn.results.toList Q) (Know.start fn.ntmps ds)) : FnWp P f ds Q := by
  intro w J vs hJ hv
  refine callsIn_wide.1 (callsIn_of_wp_marks (F := Fence.wide) (n := 0) hf hb trivial ?_ rfl)
  let x : Ctx := { J := J, β := fun _ => .unborn, w0 := Base.plain w, J0 := J, oth := fun _ => False }
  have hm : Models x (Know.start fn.ntmps ds) { tmps := vs ++ Array.replicate (fn.ntmps - vs.size) undef, defers := [] } w := by
    refine ⟨⟨fun i hi => (by simp [Know.start] at hi), fun n J h => by cases h⟩, ?_, trivial, ⟨Below.refl _ _, fun _ h => h⟩, hJ.cell, fun _ _ _ => rfl, ?_, fun _ _ => rfl, fun b hb => (by simp [Know.start] at hb), fun b t cells hb => (by simp [Know.start] at hb), fun b b' B sz t sz' t' hb => (by cases hb), hJ.one, fun _ _ => rfl⟩
    · simp [Know.start]; have := hv.1; omega
    · intro i s hs
      simp only [Know.start, Option.map_eq_some_iff] at hs
      obtain ⟨d, hd, rfl⟩ := hs
      have hlt : i < vs.size := by rw [hv.1]; exact (List.getElem?_eq_some_iff.1 hd).1
      refine ⟨vs[i], ?_, .d (hv.2 i _ d (Array.getElem?_eq_getElem hlt) hd)⟩
      rw [Array.getElem?_append_left hlt]; exact Array.getElem?_eq_getElem hlt
  refine wpIn_mono (h x _ w hm) ?_
  rintro e a' w' ⟨y, K, xe, hxy, he, hm', hq⟩
  have hw0 : y.w0 = Base.plain w := hxy.w0
  have hJ0 : y.J0 = J := hxy.J0
  -- the end of the body, all local cells held immutable
  have fin : ∀ (w2 : World), SameC y.w0.heap.size y.oth w' w2 → ∃ J', Below w.heap.size w w2 ∧ (∀ b o v, J b o = some v → J' b o = some v) ∧ (∀ b o, b < w.heap.size → J' b o = J b o) ∧ Holds J' w2 ∧
      Models y K { a' with defers := [] } w2 ∧ SnapJ y K w2 J' := fun w2 hs => by
    have hm2 := hm'.sameC hs
    let J' : Imm := fun b o => if b < w.heap.size then y.J b o else match w2.cell? ⟨b, o, none⟩ with | some v => if v.oneCell' then some v else none | none => none
    have hge : ∀ b o, ¬ b < w.heap.size → ∀ v, J' b o = some v ↔ w2.cell? ⟨b, o, none⟩ = some v ∧ v.oneCell' = true := fun b o hb v => by
      simp only [J', if_neg hb]
      cases w2.cell? ⟨b, o, none⟩ with
      | none => simp
      | some u => by_cases h1 : u.oneCell' = true <;> simp [h1] <;> (intro e; subst e; simp [h1])
    have hlt : ∀ b o, b < w.heap.size → J' b o = y.J b o := fun b o hb => by simp only [J', if_pos hb]
    have hle : ∀ b o v, y.J b o = some v → J' b o = some v := fun b o v hv => by
      by_cases hb : b < w.heap.size
      · rw [hlt b o hb]; exact hv
      · exact (hge b o hb v).2 ⟨hm2.holds b o v hv, hm2.one b o v hv⟩
    refine ⟨J', by have := hm2.below; rw [hw0] at this; exact this.1, fun b o v hv => hle b o v (hxy.J b o v hv), fun b o hb => ?_, ⟨fun b o v hv => ?_, fun b o v hv => ?_⟩, hm2, ⟨hle, fun b t cells hmem B sz t' hβ o v hv => ?_⟩⟩
    · rw [hlt b o hb, hm2.old b o (.inl (by rw [hw0]; exact hb)), hJ0]
    · by_cases hb : b < w.heap.size
      · rw [hlt b o hb] at hv; exact hm2.holds b o v hv
      · exact ((hge b o hb v).1 hv).1
    · by_cases hb : b < w.heap.size
      · rw [hlt b o hb] at hv; exact hm2.one b o v hv
      · exact ((hge b o hb v).1 hv).2
    · obtain ⟨B2, vals2, fr2, g1, ⟨T, g2⟩, g3, g4, g5, g6, g7, g8⟩ := (hm2.live b t cells hmem).out
      rw [hβ] at g1; cases g1
      rw [hw0] at g7
      replace g7 : w.heap.size ≤ B := g7.1
      refine (hge B o (by omega) v).2 ⟨hv, g8 v ?_⟩
      simp only [World.cell?, g2, Option.isSome_none, Bool.false_eq_true, if_false] at hv
      exact Array.mem_of_getElem? hv
  have leave0 : ∀ p dd, resL P K fn.results.toList = some (p, dd) → p → Q (.ret (retOf dd)) → LeavesInM Fence.wide 0 P fn a'.tmps (fun e w' => ∃ o J', Below w.heap.size w w' ∧ (∀ b o v, J b o = some v → J' b o = some v) ∧
      (∀ b o, b < w.heap.size → J' b o = J b o) ∧ Holds J' w' ∧ EndR w w' J' e o ∧ Q o) a'.defers .returning w' := fun p dd hres hp hQ => by
    refine leaves_marks (by simp) _ _ hm'.defers fun w2 hs => ?_
    obtain ⟨J', k1, k2, k3, k4, hm2, k6⟩ := fin w2 hs
    obtain ⟨us, e1, g1, g2⟩ := resL_sound hm2 k6 _ p dd hres hp
    refine ⟨if h : us.length = 1 then us[0] else .tuple us.toArray, ?_, .ret (retOf dd), J', k1, k2, k3, k4, ?_, hQ⟩
    · rw [results_eq, Sem.run_bind, Array.mapM_eq_mapM_toList, Sem.run_map]
      have e1' : (fn.results.toList.mapM (resFn a'.tmps)).run P w2 = .ok us w2 := e1
      rw [e1']
      simp only [Result.andThen_ok, Sem.run_pure, Result.ok.injEq, and_true]
      simp
    · match dd, us, g1, g2 with
      | [], [], _, _ => exact .tup rfl (fun i v d h => by simp at h)
      | [d], [u], _, g2 => exact g2 0 u d (by simp) (by simp)
      | d1 :: d2 :: dd, u1 :: u2 :: us, g1, g2 =>
        simp only [List.length_cons] at g1
        simp only [EndR, retOf, List.length_cons]
        rw [dif_neg (by omega)]
        exact .tup (by simp; omega) (fun i v d hv hd => g2 i v d (by simpa using hv) hd)
  have leave : RetPost P K fn.results.toList Q → LeavesInM Fence.wide 0 P fn a'.tmps (fun e w' => ∃ o J', Below w.heap.size w w' ∧ (∀ b o v, J b o = some v → J' b o = some v) ∧
      (∀ b o, b < w.heap.size → J' b o = J b o) ∧ Holds J' w' ∧ EndR w w' J' e o ∧ Q o) a'.defers .returning w' := fun hr => by
    rcases hr with hr | hr | hr
    · split at hr
      · rename_i p dd hres; exact leave0 p dd hres hr.1 hr.2
      · exact hr.elim
    · split at hr
      · rename_i r hrv
        split at hr
        · rename_i p xs hres
          refine leaves_marks (by simp) _ _ hm'.defers fun w2 hs => ?_
          obtain ⟨J', k1, k2, k3, k4, hm2, k6⟩ := fin w2 hs
          obtain ⟨v, e1, r1⟩ := resS_sound (a := { a' with defers := [] }) hm2 hres hr.1
          obtain ⟨a0, hva, hv⟩ := clip_inv r1
          refine ⟨v, ?_, .clip xs, J', k1, k2, k3, k4, ⟨hv.mono k6.le, _, _, hva⟩, hr.2⟩
          rw [results_eq, Sem.run_bind, Array.mapM_eq_mapM_toList, Sem.run_map, hrv]
          simp only [List.mapM_cons, List.mapM_nil, Sem.run_bind, e1, Result.andThen_ok, Sem.run_pure]
          simp
        · exact hr.elim
      · exact hr.elim
    · split at hr
      · rename_i i hrv
        obtain ⟨s, ml, ν, hview, hQ⟩ := hr
        refine leaves_marks (by simp) _ _ hm'.defers fun w2 hs => ?_
        have hm2 := hm'.sameC hs
        obtain ⟨z, hz, hm3⟩ := Sub.of ν hview y _ w2 hm2
        obtain ⟨v, e1, r1⟩ := hm3.slots i s (by simp [Know.of, lk])
        have hzw : z.w0 = Base.plain w := hz.w0.trans hw0
        refine ⟨v, ?_, .fresh s ml, z.J, by have := hm2.below; rw [hw0] at this; exact this.1, fun b o v hv => hz.J b o v (hxy.J b o v hv), fun b o hb => ?_, ⟨hm3.holds, hm3.one⟩, ⟨z.β, r1, fun j t cs hg => ?_, hm3.inj, fun j hj => hm3.unborn j ?_⟩, hQ⟩
        · rw [results_eq, Sem.run_bind, Array.mapM_eq_mapM_toList, Sem.run_map, hrv]
          have e2 : a'.tmps.getD i undef = v := eval_tmp (a := { a' with defers := [] }) e1
          simp only [List.mapM_cons, List.mapM_nil, Sem.run_bind, resFn, e2, Result.andThen_ok, Sem.run_pure]
          simp
        · rw [hm3.old b o (.inl (by rw [hzw]; exact hb)), hz.J0, hJ0]
        · obtain ⟨B, vals, fr, k1, k2, k3, k4, k5, k6, k7, k8⟩ := (hm3.live j t cs (by simp [Know.of, hg])).out
          exact ⟨B, vals, fr, k1, k2, k3, k4, k5, k6, by rw [hzw] at k7; exact ⟨k7.1, fun h => h⟩, k8⟩
        · simp [Know.of, List.getElem?_eq_none hj]
      · exact hr.elim
  cases e with
  | normal =>
    cases xe <;> first | exact he.elim | skip
    exact leave hq
  | ret =>
    cases xe <;> first | exact he.elim | skip
    exact leave hq
  | panic ch =>
    cases xe <;> first | exact he.elim | skip
    rename_i d
    refine leaves_marks (by simp) _ _ hm'.defers fun w2 hs => ?_
    obtain ⟨J', k1, k2, k3, k4, hm2, k6⟩ := fin w2 hs
    obtain ⟨v, rfl, hr⟩ := he
    exact ⟨.pan d, J', k1, k2, k3, k4, ⟨v, rfl, hr.mono k6.le⟩, hq⟩
  | exit id => cases xe <;> first | exact he.elim | exact hq.elim
  | goto l => cases xe <;> exact he.elim
  | outgrown => cases xe <;> exact he.elim

end Go.Bf
