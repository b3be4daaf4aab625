/-
  Lists of operations on what is known; calls by contract. Nothing is claimed here.
-/
import Derived.Test.YtmejdolknkjjdaaBfQ
namespace Go.Bf
open Go Go.RowKit
variable {P : Program}

/-- Every function may be entered; the rounds of loop r are walked where there is one. -/
def FW (r : Option Nat) : Fence := { Fence.wide with round := r }

/-- How code is left. -/
inductive XE where
  | normal
  | exit (id : Nat)
  | ret
  | pan (d : DV)

def ExitR (J : Imm) : Exit → XE → Prop
  | .normal, .normal => True
  | .exit a, .exit b => a = b
  | .ret, .ret => True
  | .panic ch, .pan d => ∃ v, ch = [{ v, recovered := false }] ∧ Rep J v d
  | _, _ => False

structure Ctx.ext (x y : Ctx) : Prop where
  J : ∀ b o v, x.J b o = some v → y.J b o = some v
  w0 : y.w0 = x.w0
  J0 : y.J0 = x.J0

theorem Ctx.ext_refl (x : Ctx) : x.ext x := ⟨fun _ _ _ h => h, rfl, rfl⟩
theorem Ctx.ext_trans {x y z : Ctx} (h : x.ext y) (k : y.ext z) : x.ext z := ⟨fun b o v e => k.J b o v (h.J b o v e), k.w0.trans h.w0, k.J0.trans h.J0⟩
theorem Ctx.le.ext {x y : Ctx} (h : x.le y) : x.ext y := ⟨h.J, h.w0, h.J0⟩

def Post (x : Ctx) (Q : XE → Know → Prop) (e : Exit) (a : Act) (w : World) : Prop := ∃ y K xe, x.ext y ∧ ExitR y.J e xe ∧ Models y K a w ∧ Q xe K

theorem Post.ext {x y : Ctx} {Q : XE → Know → Prop} {e : Exit} {a : Act} {w : World} (hx : x.ext y) (h : Post y Q e a w) : Post x Q e a w := by
  obtain ⟨z, K, xe, h1, h2, h3, h4⟩ := h
  exact ⟨z, K, xe, Ctx.ext_trans hx h1, h2, h3, h4⟩
theorem Post.mono {x : Ctx} {Q Q' : XE → Know → Prop} (hq : ∀ e K, Q e K → Q' e K) {e : Exit} {a : Act} {w : World} (h : Post x Q e a w) : Post x Q' e a w := by
  obtain ⟨z, K, xe, h1, h2, h3, h4⟩ := h
  exact ⟨z, K, xe, h1, h2, h3, hq _ _ h4⟩

/-- Some operations one after the other, as the machine carries them out. -/
def opsL (P : Program) (r : Option Nat) (ops : Array Oper) (Q : Exit → Act → World → Prop) : List Oper → Act → World → Prop
  | [], a, w => Q .normal a w
  | o :: rest, a, w => if Region.wanted o (yielded ops a.tmps) then o.wpIn (FW r) 0 P a w (opsL P r ops Q rest) Q else opsL P r ops Q rest (a.put o.dst undef) w

theorem about_wide {r : Option Nat} {f : FuncId} : (FW r).fn f := trivial

theorem opsL_sound {r : Option Nat} {ops : Array Oper} {Q : Exit → Act → World → Prop} : ∀ (l : List Oper) (k : Nat) (a : Act) (w : World), (∀ j : Nat, l[j]? = ops[k + j]?) → opsL P r ops Q l a w →
    wpOpsIn (FW r) 0 P ops Q ((List.range l.length).map (k + ·)) a w := by
  intro l
  induction l with
  | nil => intro k a w _ h; exact h
  | cons o l ih =>
    intro k a w hl h
    have h0 : ops[k]? = some o := by simpa using (hl 0).symm
    have hl' : ∀ j : Nat, l[j]? = ops[k + 1 + j]? := fun j => by have := hl (j + 1); simpa [Nat.add_assoc, Nat.add_comm 1 j] using this
    have e : (List.range (o :: l).length).map (k + ·) = k :: (List.range l.length).map (k + 1 + ·) := by
      rw [List.length_cons, List.range_succ_eq_map, List.map_cons, List.map_map]
      simp only [Nat.add_zero, List.cons.injEq, true_and]
      apply List.map_congr_left
      intro j _; simp only [Function.comp]; omega
    rw [e]
    simp only [wpOpsIn, h0]
    simp only [opsL] at h
    split at h
    · rename_i hw
      rw [if_pos hw]
      exact Oper.wpIn_mono (fun a' w' h' => ih (k + 1) a' w' hl' h') h
    · rename_i hw
      rw [if_neg hw]
      exact ⟨fun _ _ => about_wide, ih (k + 1) _ _ hl' h⟩

theorem opsL_mono {r : Option Nat} {ops : Array Oper} {x : Ctx} {Q Q' : XE → Know → Prop} (hq : ∀ e K, Q e K → Q' e K) : ∀ (l : List Oper) (a : Act) (w : World), opsL P r ops (Post x Q) l a w → opsL P r ops (Post x Q') l a w := by
  intro l
  induction l with
  | nil => intro a w h; exact Post.mono hq h
  | cons o l ih =>
    intro a w h
    simp only [opsL] at h ⊢
    split
    · rename_i hw
      rw [if_pos hw] at h
      unfold Oper.wpIn at h ⊢
      refine ⟨h.1, ?_⟩
      have h2 := h.2
      generalize (o.semAt (FW r).round a.eval).run P w = res at h2 ⊢
      cases res with
      | ok nx w' =>
        cases nx <;> simp only [Oper.uponIn] at h2 ⊢ <;> first
          | exact ih _ _ h2
          | exact h2
          | exact ⟨h2.1, CallsIn.mono h2.2 (fun e w'' he => by
              cases e with
              | returned v => exact ih _ _ he
              | panicked ch => exact Post.mono hq he
              | outgrown => obtain ⟨a0, w0, hp⟩ := he; exact ⟨a0, w0, Post.mono hq hp⟩)⟩
          | exact ⟨h2.1, RowsIn.mono h2.2 (fun _ _ he => ih _ _ he)⟩
          | exact ⟨h2.1, RoundIn.mono h2.2 (fun e w'' he => by
              cases e with
              | returned v => exact ih _ _ he
              | panicked ch => exact Post.mono hq he
              | outgrown => obtain ⟨a0, w0, hp⟩ := he; exact ⟨a0, w0, Post.mono hq hp⟩)⟩
      | halt hh w' => cases hh <;> simp only [Oper.uponIn] at h2 ⊢ <;> first | exact Post.mono hq h2 | exact h2
    · rename_i hw
      rw [if_neg hw] at h
      exact ih _ _ h

theorem opsL_ext {r : Option Nat} {ops : Array Oper} {x y : Ctx} (hx : x.ext y) {Q : XE → Know → Prop} : ∀ (l : List Oper) (a : Act) (w : World), opsL P r ops (Post y Q) l a w → opsL P r ops (Post x Q) l a w := by
  intro l
  induction l with
  | nil => intro a w h; exact Post.ext hx h
  | cons o l ih =>
    intro a w h
    simp only [opsL] at h ⊢
    split
    · rename_i hw
      rw [if_pos hw] at h
      unfold Oper.wpIn at h ⊢
      refine ⟨h.1, ?_⟩
      have h2 := h.2
      generalize (o.semAt (FW r).round a.eval).run P w = res at h2 ⊢
      cases res with
      | ok nx w' =>
        cases nx <;> simp only [Oper.uponIn] at h2 ⊢ <;> first
          | exact ih _ _ h2
          | exact h2
          | exact ⟨h2.1, CallsIn.mono h2.2 (fun e w'' he => by
              cases e with
              | returned v => exact ih _ _ he
              | panicked ch => exact Post.ext hx he
              | outgrown => obtain ⟨a0, w0, hp⟩ := he; exact ⟨a0, w0, Post.ext hx hp⟩)⟩
          | exact ⟨h2.1, RowsIn.mono h2.2 (fun _ _ he => ih _ _ he)⟩
          | exact ⟨h2.1, RoundIn.mono h2.2 (fun e w'' he => by
              cases e with
              | returned v => exact ih _ _ he
              | panicked ch => exact Post.ext hx he
              | outgrown => obtain ⟨a0, w0, hp⟩ := he; exact ⟨a0, w0, Post.ext hx hp⟩)⟩
      | halt hh w' => cases hh <;> simp only [Oper.uponIn] at h2 ⊢ <;> first | exact Post.ext hx h2 | exact h2
    · rename_i hw
      rw [if_neg hw] at h
      exact ih _ _ h

/-! ### Contracts -/
inductive Out where
  | ret (d : DV)
  | clip (xs : List (List DV))
  | fresh (s : SV) (ml : List (TypeId × List SV))
  | pan (d : DV)

/-- w: the world at the call; w': the one behind it. 'fresh': a value over new blocks that nothing else knows. -/
def EndR (w w' : World) (J : Imm) : Ending → Out → Prop
  | .returned v, .ret d => Rep J v d
  | .returned v, .clip xs => Rep J v (.list xs) ∧ ∃ a n, v = .slice a n n
  | .returned v, .fresh s ml => ∃ β : Nat → Nam, SRep J β v s ∧ (∀ j t cs, ml[j]? = some (t, cs) → Block ⟨J, β, Base.plain w, J, fun _ => False⟩ w' j t cs) ∧ (∀ b b' B sz t sz' t', β b = .live B sz t → β b' = .live B sz' t' → b = b') ∧ (∀ j, ml.length ≤ j → β j = .unborn)
  | .panicked ch, .pan d => ∃ v, ch = [{ v, recovered := false }] ∧ Rep J v d
  | _, _ => False

structure Holds (J : Imm) (w : World) : Prop where
  cell : ∀ b o v, J b o = some v → w.cell? ⟨b, o, none⟩ = some v
  one : ∀ b o v, J b o = some v → v.oneCell' = true

def RepL (J : Imm) (vs : Array Value) (ds : List DV) : Prop := vs.size = ds.length ∧ ∀ (i : Nat) v d, vs[i]? = some v → ds[i]? = some d → Rep J v d

/-- **The contract of a function that turns nothing that was there**: called with these data, it ends in a way that Q takes. -/
def FnWp (P : Program) (f : FuncId) (ds : List DV) (Q : Out → Prop) : Prop :=
  ∀ (w : World) (J : Imm) (vs : Array Value), Holds J w → RepL J vs ds → Calls P f vs w fun e w' => ∃ o J', Below w.heap.size w w' ∧ (∀ b o v, J b o = some v → J' b o = some v) ∧
    (∀ b o, b < w.heap.size → J' b o = J b o) ∧ Holds J' w' ∧ EndR w w' J' e o ∧ Q o

theorem FnWp.mono {f : FuncId} {ds : List DV} {Q Q' : Out → Prop} (h : FnWp P f ds Q) (hq : ∀ o, Q o → Q' o) : FnWp P f ds Q' := fun w J vs hJ hv =>
  (h w J vs hJ hv).mono fun e w' ⟨o, J', h1, h2, h3, h4, h5, h6⟩ => ⟨o, J', h1, h2, h3, h4, h5, hq o h6⟩

inductive OutS where
  | ret (s : SV)
  | pan (d : DV)

def EndS (y : Ctx) : Ending → OutS → Prop
  | .returned v, .ret s => SRep y.J y.β v s
  | .panicked ch, .pan d => ∃ v, ch = [{ v, recovered := false }] ∧ Rep y.J v d
  | _, _ => False

/-- A call, on what is known. -/
def CallS (P : Program) (f : FuncId) (ss : List SV) (K : Know) (k : OutS → Know → Prop) : Prop :=
  ∀ x a w vs, Models x K a w → ArrR x.J x.β vs ss → Calls P f vs w fun e w' => ∃ y K' o, x.ext y ∧ Models y K' a w' ∧ EndS y e o ∧ k o K'

mutual
def SV.ren (ρ : Nat → Nat) : SV → SV
  | .d x => .d x
  | .loc b off => .loc (ρ b) off
  | .own b wd off len c => .own (ρ b) wd off len c
  | .clip xs => .clip xs
  | .agg cs => .agg (renL ρ cs)
  | .clo f cs => .clo f (renL ρ cs)
  | .cnd g s => .cnd g (s.ren ρ)
def renL (ρ : Nat → Nat) : List SV → List SV
  | [] => []
  | c :: cs => c.ren ρ :: renL ρ cs
end

theorem renL_eq (ρ : Nat → Nat) : ∀ cs : List SV, renL ρ cs = cs.map (SV.ren ρ)
  | [] => by simp [renL]
  | c :: cs => by simp [renL, renL_eq ρ cs]

mutual
theorem SRep.renF {J : Imm} {β β' : Nat → Nam} {ρ : Nat → Nat} (hβ : ∀ b, β' (ρ b) = β b) : ∀ (s : SV) {v : Value}, SRep J β v s → SRep J β' v (s.ren ρ)
  | .d x, v, h => by rw [SV.ren]; cases h with | d h => exact .d h
  | .loc b off, v, h => by
    rw [SV.ren]
    cases h with
    | loc h => exact .loc ((hβ b).trans h)
    | locDead h => exact .locDead ((hβ b).trans h)
  | .own b wd off len c, v, h => by
    rw [SV.ren]
    cases h with
    | own h h1 h2 h3 h4 => exact .own ((hβ b).trans h) h1 h2 h3 h4
    | ownDead h => exact .ownDead ((hβ b).trans h)
  | .clip xs, v, h => by rw [SV.ren]; cases h with | clip h => exact .clip h
  | .agg cs, v, h => by
    rw [SV.ren]
    cases h with
    | agg hl hh =>
      refine .agg (by rw [hl, renL_eq, List.length_map]) fun i v d hv hd => ?_
      rw [renL_eq, List.getElem?_map, Option.map_eq_some_iff] at hd
      obtain ⟨d0, h0, rfl⟩ := hd
      exact renL_repF hβ cs i v d0 h0 (hh i v d0 hv h0)
  | .clo f cs, v, h => by
    rw [SV.ren]
    cases h with
    | clo hl hh =>
      refine .clo (by rw [hl, renL_eq, List.length_map]) fun i v d hv hd => ?_
      rw [renL_eq, List.getElem?_map, Option.map_eq_some_iff] at hd
      obtain ⟨d0, h0, rfl⟩ := hd
      exact renL_repF hβ cs i v d0 h0 (hh i v d0 hv h0)
  | .cnd g s, v, h => by
    rw [SV.ren]
    cases h with
    | cndT hg h => exact .cndT hg (SRep.renF hβ s h)
    | cndF hg => exact .cndF hg
theorem renL_repF {J : Imm} {β β' : Nat → Nam} {ρ : Nat → Nat} (hβ : ∀ b, β' (ρ b) = β b) : ∀ (cs : List SV) (i : Nat) (v : Value) (d : SV), cs[i]? = some d → SRep J β v d → SRep J β' v (d.ren ρ)
  | [], i, v, d, h, _ => by simp at h
  | c :: cs, 0, v, d, h, hr => by simp at h; subst h; exact SRep.renF hβ c hr
  | c :: cs, i + 1, v, d, h, hr => renL_repF hβ cs i v d (by simpa using h) hr
end

/-- New blocks, handed over by a function that was called. -/
def Know.more (K : Know) (ml : List (TypeId × List SV)) : Know :=
  { slots := K.slots, mem := fun b => if K.nx ≤ b then (match ml[b - K.nx]? with | some (t, cs) => .live t (renL (fun j => K.nx + j) cs) | none => .unborn) else K.mem b, n := K.n, nx := K.nx + ml.length, gh := K.gh, fro := K.fro, b0 := K.b0 }

/-- Data, where it is no way into local memory. -/
def toD : SV → Option DV
  | .d x => some x
  | .clip xs => some (.list xs)
  | _ => none

def toDs : List SV → Option (List DV)
  | [] => some []
  | .agg cs :: r => match cs.mapM toD, toDs r with
    | some ds, some rs => some (.agg ds :: rs)
    | _, _ => none
  | s :: r => match toD s, toDs r with
    | some d, some rs => some (d :: rs)
    | _, _ => none

theorem toD_rep {J : Imm} {β : Nat → Nam} {v : Value} {s : SV} {d : DV} (h : SRep J β v s) (hd : toD s = some d) : Rep J v d := by
  cases s with
  | d x => cases hd; exact d_inv h
  | clip xs => cases hd; obtain ⟨_, _, hv⟩ := clip_inv h; exact hv
  | _ => cases hd

theorem toDs_rep {J : Imm} {β : Nat → Nam} : ∀ {ss : List SV} {ds : List DV} {vs : List Value}, toDs ss = some ds → ArrR J β vs.toArray ss → RepL J vs.toArray ds := by
  intro ss
  induction ss with
  | nil =>
    intro ds vs h hr
    simp only [toDs, Option.some.injEq] at h
    subst h
    exact ⟨by simpa using hr.1, fun i v d hv hd => by simp at hd⟩
  | cons s ss ih =>
    intro ds vs h hr
    cases vs with
    | nil => obtain ⟨t1, _⟩ := hr; simp at t1
    | cons v vs =>
      have htail : ArrR J β vs.toArray ss := ⟨by obtain ⟨t1, _⟩ := hr; simpa using t1, fun i u q hu hq => hr.2 (i + 1) u q (by simpa using hu) (by simpa using hq)⟩
      have hhead : SRep J β v s := hr.2 0 v s (by simp) (by simp)
      have fin : ∀ (d : DV) (rs : List DV), Rep J v d → toDs ss = some rs → RepL J (v :: vs).toArray (d :: rs) := fun d rs h1 h2 => by
        obtain ⟨t1, t2⟩ := ih h2 htail
        refine ⟨by simpa using t1, fun i u q hu hq => ?_⟩
        cases i with
        | zero => simp at hu hq; subst hu; subst hq; exact h1
        | succ i => exact t2 i u q (by simpa using hu) (by simpa using hq)
      cases s with
      | agg cs =>
        simp only [toDs] at h
        split at h
        · rename_i ds' rs h1 h2
          cases h
          refine fin _ _ ?_ h2
          obtain ⟨g1, g2⟩ := mapM_get h1
          cases hhead with
          | agg hl hh =>
            refine .agg (by omega) fun i u d hu hd => ?_
            have hlt : i < cs.length := by rw [← g1]; exact (List.getElem?_eq_some_iff.1 hd).1
            exact toD_rep (hh i u _ hu (List.getElem?_eq_getElem hlt)) (g2 i _ d (List.getElem?_eq_getElem hlt) hd)
        · cases h
      | _ =>
        simp only [toDs] at h
        split at h
        · rename_i d rs h1 h2
          cases h
          exact fin d rs (toD_rep hhead h1) h2
        · cases h

/-- **A contract serves at a call whose arguments are data.** -/
theorem CallS.pure {f : FuncId} {ss : List SV} {ds : List DV} {K : Know} {Q : Out → Prop} {k : OutS → Know → Prop} (hd : toDs ss = some ds) (h : FnWp P f ds Q) (hk : ∀ o, Q o → match o with | .ret d => k (.ret (.d d)) K | .clip xs => k (.ret (.clip xs)) K | .fresh s ml => k (.ret (s.ren fun j => K.nx + j)) (K.more ml) | .pan d => k (.pan d) K) :
    CallS P f ss K k := by
  intro x a w vs hm hr
  obtain ⟨vs⟩ := vs
  refine (h w x.J vs.toArray ⟨hm.holds, hm.one⟩ (toDs_rep hd hr)).mono ?_
  rintro e w' ⟨o, J', hb, hJ, hold, hH, he, hq⟩
  have hm1 := hm.grow hb
  obtain ⟨hle, hm2⟩ := hm1.moreJ J' hJ hH.cell (fun b o hlt => hold b o (hlt.elim (fun h => Nat.lt_of_lt_of_le h hm.w0le) (fun h => hm.othlt b h))) (fun b t cells hmem B sz t' hβ o => by
    obtain ⟨B2, vals2, fr2, g1, ⟨T, g2⟩, g3, g4, g5, g6, g7, g8⟩ := (hm.live b t cells hmem).out
    rw [hβ] at g1; cases g1
    rw [hold B o (Array.getElem?_eq_some_iff.1 g2).1]; exact g6 o) hH.one
  have := hk o hq
  cases e with
  | returned v =>
    cases o with
    | ret d => exact ⟨_, K, .ret (.d d), hle.ext, hm2, .d he, this⟩
    | clip xs => obtain ⟨h1, a, n, rfl⟩ := he; exact ⟨_, K, .ret (.clip xs), hle.ext, hm2, .clip h1, this⟩
    | fresh s ml =>
      obtain ⟨β, h1, h2, h3, h4⟩ := he
      let y : Ctx := { x with J := J', β := fun b => if K.nx ≤ b then β (b - K.nx) else x.β b }
      have hρ : ∀ j, y.β (K.nx + j) = β j := fun j => by simp only [y]; rw [if_pos (by omega)]; congr 1; omega
      have hold' : ∀ b, b < K.nx → y.β b = x.β b := fun b hb => by simp only [y]; rw [if_neg (by omega)]
      have hbig : ∀ b, K.nx ≤ b → x.β b = .unborn := fun b hb => hm.unborn b (hm.fresh b hb)
      have hle' : ∀ b, (x.β b).le (y.β b) := fun b => by
        by_cases hb : K.nx ≤ b
        · rw [hbig b hb]; trivial
        · rw [hold' b (by omega)]; exact Nam.le_refl _
      have hbase : ∀ b, b < K.nx → ∀ B sz t, x.β b = .live B sz t → K.mem b ≠ .dead := fun b _ B sz t hb hd => by rw [hm.dead b hd] at hb; cases hb
      refine ⟨y, K.more ml, .ret (s.ren fun j => K.nx + j), ⟨hJ, rfl, rfl⟩, ⟨hm2.fro, hm2.size, hm2.defers, hm2.below, hm2.holds, hm2.old, ?_, ?_, ?_, ?_, ?_, hm2.one, ?_⟩, SRep.renF hρ s h1, this⟩
      · intro i q hq
        obtain ⟨u, e1, e2⟩ := hm2.slots i q hq
        exact ⟨u, e1, e2.mono (fun _ _ _ h => h) hle'⟩
      · intro b hb
        simp only [Know.more] at hb
        split at hb
        · rename_i hn
          split at hb
          · cases hb
          · rename_i hnone
            simp only [y]; rw [if_pos hn]; exact h4 _ (List.getElem?_eq_none_iff.1 hnone)
        · rename_i hn
          rw [hold' b (by omega)]; exact hm.unborn b hb
      · intro b hb
        simp only [Know.more] at hb
        split at hb
        · split at hb <;> cases hb
        · rename_i hn
          rw [hold' b (by omega)]; exact hm.dead b hb
      · intro b t cells hb
        simp only [Know.more] at hb
        split at hb
        · rename_i hn
          split at hb
          · rename_i t0 cs hg
            cases hb
            obtain ⟨B, vals, fr, g1, g2, g3, g4, g5, g6, g7, g8⟩ := (h2 _ _ _ hg).out
            refine ⟨B, vals, fr, by simp only [y]; rw [if_pos hn]; exact g1, g2, g3, by rw [renL_eq, List.length_map]; exact g4, fun o q hq => ?_, g6, ⟨Nat.le_trans hm.w0le g7.1, fun ho => by have := hm.othlt B ho; have := g7.1; simp only [Base.plain] at this; omega⟩, g8⟩
            rw [renL_eq, List.getElem?_map, Option.map_eq_some_iff] at hq
            obtain ⟨q0, hq0, rfl⟩ := hq
            obtain ⟨u, e1, e2⟩ := g5 o q0 hq0
            exact ⟨u, e1, SRep.renF hρ q0 e2⟩
          · cases hb
        · rename_i hn
          obtain ⟨B, vals, fr, g1, g2, g3, g4, g5, g6, g7, g8⟩ := (hm2.live b t cells hb).out
          refine ⟨B, vals, fr, by rw [hold' b (by omega)]; exact g1, g2, g3, g4, fun o q hq => ?_, g6, g7, g8⟩
          obtain ⟨u, e1, e2⟩ := g5 o q hq
          exact ⟨u, e1, e2.mono (fun _ _ _ h => h) hle'⟩
      · intro b b' B sz t sz' t' e1 e2
        simp only [y] at e1 e2
        have low : ∀ c C csz ct, x.β c = .live C csz ct → c < K.nx → C < w.heap.size := fun c C csz ct hc hlt => by
          cases hmc : K.mem c with
          | unborn => rw [hm.unborn c hmc] at hc; cases hc
          | dead => rw [hm.dead c hmc] at hc; cases hc
          | live t0 cs0 =>
            obtain ⟨B0, vals0, fr0, g1, ⟨T, g2⟩, _⟩ := (hm.live c t0 cs0 hmc).out
            rw [hc] at g1; cases g1
            exact (Array.getElem?_eq_some_iff.1 g2).1
        have high : ∀ c C csz ct, β c = .live C csz ct → w.heap.size ≤ C := fun c C csz ct hc => by
          rcases Nat.lt_or_ge c ml.length with hlt | hge
          · obtain ⟨⟨t0, cs0⟩, hg⟩ : ∃ q, ml[c]? = some q := ⟨_, List.getElem?_eq_getElem hlt⟩
            obtain ⟨B0, vals0, fr0, g1, _, _, _, _, _, g7, _⟩ := (h2 c t0 cs0 hg).out
            simp only at g1; rw [hc] at g1; cases g1
            exact g7.1
          · rw [h4 c hge] at hc; cases hc
        split at e1 <;> split at e2
        · have := h3 _ _ _ _ _ _ _ e1 e2; omega
        · rename_i q1 q2
          have a1 := high _ _ _ _ e1; have a2 := low _ _ _ _ e2 (by omega); omega
        · rename_i q1 q2
          have a1 := high _ _ _ _ e2; have a2 := low _ _ _ _ e1 (by omega); omega
        · exact hm.inj _ _ _ _ _ _ _ e1 e2
      · intro b hb
        simp only [Know.more] at hb ⊢
        rw [if_pos (by omega), List.getElem?_eq_none (by omega)]
    | pan d => exact he.elim
  | panicked ch =>
    cases o with
    | ret d => exact he.elim
    | clip xs => exact he.elim
    | fresh s ml => exact he.elim
    | pan d => exact ⟨_, K, .pan d, hle.ext, hm2, he, this⟩
  | outgrown => cases o <;> exact he.elim

/-! ### Operations on what is known -/
def OpsWp (P : Program) (r : Option Nat) (ops : Array Oper) (Q : XE → Know → Prop) (l : List Oper) (K : Know) : Prop :=
  ∀ x a w, Models x K a w → opsL P r ops (Post x Q) l a w

def rdS (K : Know) (G : Bool) (u : Operand) : Option SV := (rdK K G u).map (·.2)
def rdC (K : Know) (G : Bool) (u : Operand) : Prop := match rdK K G u with | some (p, _) => p | none => False
def conds (K : Know) (G : Bool) : List Operand → Prop
  | [] => True
  | u :: us => rdC K G u ∧ conds K G us

theorem rdS_rep {x : Ctx} {K : Know} {a : Act} {w : World} (hm : Models x K a w) {us : List Operand} (hc : conds K true us) : ∀ u ∈ us, ∀ s, rdS K true u = some s → SRep x.J x.β (a.eval u) s := by
  induction us with
  | nil => intro u hu; simp at hu
  | cons u us ih =>
    intro q hq s hs
    simp only [conds] at hc
    rcases List.mem_cons.1 hq with rfl | hq
    · simp only [rdS, Option.map_eq_some_iff] at hs
      obtain ⟨⟨p, s'⟩, h1, rfl⟩ := hs
      have := hc.1
      simp only [rdC, h1] at this
      exact rdK_rep hm h1 this rfl
    · exact ih hc.2 q hq s hs

end Go.Bf
