/-
  The verification conditions of a list of operations, and the rules for code. Nothing is claimed here.
-/
import Derived.Test.YtmejdolknkjjdaaBfR
namespace Go.Bf
open Go Go.RowKit
variable {P : Program}

def pickV (a b : Operand) (c x y : Bool) : Bool :=
  match a, b with
  | .const (.bool true), _ => c || y
  | _, .const (.bool false) => c && x
  | _, _ => bif c then x else y

def pickF (K : Know) (G : Bool) (c a b : Operand) : R :=
  match rdK K G c with
  | some (pc, .d (.bool cb)) =>
    match rdK K (G && cb) a, rdK K (G && !cb) b with
    | some (pa, .d (.bool x)), some (pb, .d (.bool y)) => some (pc ∧ (cb = true → pa) ∧ (cb = false → pb), .d (.bool (pickV a b cb x y)))
    | _, _ => none
  | _ => none

def quietF (P : Program) (im : Bool) (K : Know) (G : Bool) (op : Op) : R :=
  match op with
  | .pick c a b => pickF K G c a b
  | op => match opQ P im K.mem (rdS K G) op with
    | some (vc, s) => some (conds K G op.operands.toList ∧ vc, s)
    | none => none

inductive Cls where
  | quiet
  | mem
  | call

def opClass (im : Bool) : Op → Cls
  | .call { callee := .builtin .len, .. } => .quiet
  | .call { callee := .builtin .append, .. } => .mem
  | .call { callee := .builtin .copy, .. } => .mem
  | .call _ => .call
  | .alloc _ => .mem
  | .box _ _ => .mem
  | .store _ _ _ => .mem
  | .makeSlice _ _ _ => if im then .quiet else .mem
  | .buildSlice _ _ _ => if im then .quiet else .mem
  | .panic _ => .call
  | .binOp .eql _ _ (.const (.slice none 0 0)) _ => .call
  | .binOp .neq _ _ (.const (.slice none 0 0)) _ => .call
  | .defer _ => .call
  | _ => .quiet

def opX (P : Program) (K : Know) (rd : Operand → Option SV) (op : Op) (k : SV → Know → Prop) : Prop :=
  match op with
  | .call { callee := .builtin .append, args, argTypes } => opA P K rd (.call { callee := .builtin .append, args, argTypes }) k
  | .call { callee := .builtin .copy, args, argTypes } => opC P K rd (.call { callee := .builtin .copy, args, argTypes }) k
  | op => opM P K rd op k

def dstOk (K : Know) : Option Nat → Prop
  | none => True
  | some d => d < K.n ∧ d ∉ K.fro

def mkc (g : Option (Nat × Bool)) (G : Bool) (s : SV) : SV :=
  match g with
  | none => s
  | some _ => .cnd G s

/-- The machine enters the function. -/
def Enters (P : Program) (f : FuncId) : Prop := ∀ args w, (callFunc f args).run P w = .ok (.enter f args) w

theorem enters_of {f : FuncId} {fn : Func} (hf : P.funcs[f]? = some fn) (hn : (fn.name == "runtime.NumGoroutine") = false) (hb : fn.body.isNone = false) : Enters P f := fun args w => by
  simp only [callFunc, Sem.run_bind, run_program, Result.andThen_ok, hf, hn, hb, Bool.false_eq_true, if_false, Sem.run_pure]

/-- A call: the function, and the arguments (what the function has captured behind them). -/
def rdL (rd : Operand → Option SV) : List Operand → Option (List SV)
  | [] => some []
  | u :: us => match rd u, rdL rd us with
    | some s, some ss => some (s :: ss)
    | _, _ => none

def callF (rd : Operand → Option SV) : Op → Option (FuncId × List SV)
  | .call { callee := .value g, args, .. } =>
    match rd g, rdL rd args.toList with
    | some (.d (.fn f [])), some ss => some (f, ss)
    | some (.d (.fn f caps)), some ss => some (f, ss ++ caps.map .d)
    | some (.clo f caps), some ss => some (f, ss ++ caps)
    | _, _ => none
  | _ => none

/-- What is asked at a call that no guard hangs on. -/
def CallAt (P : Program) (r : Option Nat) (ops : Array Oper) (Q : XE → Know → Prop) (f : FuncId) (ss : List SV) (dst : Option Nat) (rest : List Oper) (K : Know) : Prop :=
  Enters P f ∧ CallS P f ss K fun o K' => match o with
    | .ret s => (dstOk K dst → dstOk K' dst) ∧ OpsWp P r ops Q rest (K'.put dst s)
    | .pan d => Q (.pan d) K'

/-- What is asked at a call under a guard: data in, data out. -/
def CallAtG (P : Program) (r : Option Nat) (ops : Array Oper) (Q : XE → Know → Prop) (f : FuncId) (ss : List SV) (G : Bool) (dst : Option Nat) (rest : List Oper) (K : Know) : Prop :=
  Enters P f ∧ ∃ ds d, toDs ss = some ds ∧ (G = true → FnWp P f ds (· = .ret d)) ∧ OpsWp P r ops Q rest (K.put dst (.cnd G (.d d)))

def VCops (P : Program) (r : Option Nat) (im : Bool) (ops : Array Oper) (Q : XE → Know → Prop) : List Oper → Know → Prop
  | [], K => Q .normal K
  | o :: rest, K =>
    match guardG K ops o with
    | none => False
    | some G =>
      match opClass im o.op with
      | .call => match callF (rdS K G) o.op with
        | some (f, ss) => dstOk K o.dst ∧ (G = true → conds K G o.op.operands.toList) ∧ (match o.guard with
          | none => CallAt P r ops Q f ss o.dst rest K
          | some _ => CallAtG P r ops Q f ss G o.dst rest K)
        | none => OpsWp P r ops Q (o :: rest) K
      | .mem => o.guard = none ∧ dstOk K o.dst ∧ conds K true o.op.operands.toList ∧ opX P K (rdS K true) o.op fun s K' => VCops P r im ops Q rest (K'.put o.dst s)
      | .quiet => match quietF P im K G o.op with
        | some (vc, s) => dstOk K o.dst ∧ (G = true → vc) ∧ VCops P r im ops Q rest (K.put o.dst (mkc o.guard G s))
        | none => False

theorem dstOk_spec {K : Know} {dst : Option Nat} (h : dstOk K dst) : ∀ i, dst = some i → i < K.n ∧ i ∉ K.fro := fun i hi => by subst hi; exact h

/-- More local blocks are known. -/
def MemLe (m m' : Mem) : Prop := ∀ b t cs, m b = .live t cs → m' b = .live t cs

def Fr (K : Know) : Prop := ∀ b, K.nx ≤ b → K.mem b = .unborn

def allocOnly : Op → Bool
  | .alloc _ | .box _ _ => true
  | _ => false

/-- What an operation on memory leaves be. -/
structure Kept (op : Op) (K K' : Know) : Prop where
  slots : K'.slots = K.slots
  n : K'.n = K.n
  fr : Fr K → Fr K'
  le : allocOnly op = true → Fr K → MemLe K.mem K'.mem
  gh : K'.gh = K.gh
  fro : K'.fro = K.fro

theorem kept_new {op : Op} {K : Know} {t : TypeId} {cs : List SV} : Kept op K (K.newB t cs) := ⟨rfl, rfl, fun h b hb => by
  simp only [Know.newB, Bf.put] at hb ⊢
  rw [if_neg (by omega)]; exact h b (by omega), fun _ h b t cs hb => by
  simp only [Know.newB, Bf.put]
  split
  · rename_i e; subst e; rw [h _ (Nat.le_refl _)] at hb; cases hb
  · exact hb, rfl, rfl⟩

theorem fr_set {K : Know} {b : Nat} {m : MB} {t : TypeId} {cs : List SV} (hb : K.mem b = .live t cs) (h : Fr K) : Fr (K.setB b m) := fun b' hb' => by
  simp only [Know.setB, Bf.put] at hb' ⊢
  split
  · rename_i e; subst e; rw [h _ hb'] at hb; cases hb
  · exact h b' hb'

theorem kept_set {op : Op} {K : Know} {b : Nat} {m : MB} {t : TypeId} {cs : List SV} (ho : allocOnly op = false) (hb : K.mem b = .live t cs) : Kept op K (K.setB b m) :=
  ⟨rfl, rfl, fr_set hb, fun h => (by rw [ho] at h; cases h), rfl, rfl⟩

theorem opX_kept {K : Know} {rd : Operand → Option SV} {op : Op} {k k' : SV → Know → Prop} (h : opX P K rd op k) (hk : ∀ s K', Kept op K K' → k s K' → k' s K') : opX P K rd op k' := by
  cases op with
  | alloc t =>
    simp only [opX, opM] at h ⊢
    split at h
    · exact hk _ _ kept_new h
    · exact h.elim
  | box t u =>
    simp only [opX, opM] at h ⊢
    split at h
    · split at h
      · rename_i hc; rw [if_pos hc]; exact hk _ _ kept_new h
      · exact h.elim
    · exact h.elim
  | store t u v =>
    simp only [opX, opM] at h ⊢
    split at h
    · rename_i b off s h1 h2
      cases hb : K.mem b with
      | live bt cells =>
        simp only [hb] at h ⊢
        split at h
        · rename_i hc; rw [if_pos hc]; exact ⟨h.1, hk _ _ (kept_set rfl hb) h.2⟩
        · exact h.elim
      | _ => simp only [hb] at h
    · exact h.elim
  | makeSlice t l c =>
    simp only [opX, opM] at h ⊢
    split at h
    · split at h
      · split at h
        · exact ⟨h.1, hk _ _ kept_new h.2⟩
        · exact h.elim
      · exact h.elim
    · exact h.elim
  | buildSlice t n parts =>
    simp only [opX, opM] at h ⊢
    split at h
    · split at h
      · exact hk _ _ kept_new h
      · exact h.elim
    · exact h.elim
  | call c =>
    obtain ⟨callee, args, ts⟩ := c
    cases callee with
    | builtin bi =>
      cases bi with
      | append =>
        simp only [opX, opA] at h ⊢
        split at h
        · split at h
          · split at h
            · rename_i ek s q _ _ _ _ _ vc n news _ _
              cases s with
              | own b wd off len c =>
                cases off with
                | zero =>
                  simp only at h ⊢
                  cases hb : K.mem b with
                  | live bt cells =>
                    simp only [hb] at h ⊢
                    refine ⟨h.1, hk _ _ ⟨rfl, rfl, fun hf => ?_, fun h => (by cases h), rfl, rfl⟩ h.2⟩
                    exact (kept_new (op := .alloc 0)).fr (fr_set hb hf)
                  | _ => simp only [hb] at h
                | succ o => exact h.elim
              | clip xs =>
                exact ⟨h.1, h.2.1, h.2.2.1, h.2.2.2.1, fun hn => hk _ _ ⟨rfl, rfl, id, fun h => (by cases h), rfl, rfl⟩ (h.2.2.2.2.1 hn), fun hn => hk _ _ kept_new (h.2.2.2.2.2 hn)⟩
              | _ => exact h.elim
            · exact h.elim
          · exact h.elim
        · exact h.elim
      | copy =>
        simp only [opX, opC] at h ⊢
        split at h
        · split at h
          · split at h
            · rename_i hb _
              exact ⟨h.1, hk _ _ (kept_set rfl hb) h.2⟩
            · exact h.elim
          · exact h.elim
        · exact h.elim
      | _ => exact h.elim
    | _ => exact h.elim
  | _ => exact h.elim

theorem Kept.dst {op : Op} {K K' : Know} (h : Kept op K K') {dst : Option Nat} (hd : dstOk K dst) : ∀ i, dst = some i → i < K'.n ∧ i ∉ K'.fro := fun i hi => by
  subst hi
  rw [h.n, h.fro]; exact hd

theorem opX_sound {x : Ctx} {K : Know} {a : Act} {w : World} (hm : Models x K a w) {o : Oper} {rd : Operand → Option SV} (hrd : ∀ u ∈ o.op.operands, ∀ s, rd u = some s → SRep x.J x.β (a.eval u) s)
    {k : SV → Know → Prop} (h : opX P K rd o.op k) : MemRun P x a o w k := by
  unfold opX at h
  split at h
  · rename_i args ts ho
    exact opA_sound hm hrd (by rw [ho]; exact h)
  · rename_i args ts ho
    exact opC_sound hm hrd (by rw [ho]; exact h)
  · exact opM_sound hm hrd h

theorem not_defer {im : Bool} {o : Oper} (h : opClass im o.op ≠ .call) : ∀ c, o.op ≠ .defer c := fun c e => by rw [e] at h; exact h rfl

theorem step_value {r : Option Nat} {o : Oper} {a : Act} {w w' : World} {v : Value} {next : Act → World → Prop} {Q : Exit → Act → World → Prop} (hd : ∀ c, o.op ≠ .defer c)
    (hrun : (execOp a.eval o).run P w = .ok (.value v) w') (h : next (a.put o.dst v) w') : o.wpIn (FW r) 0 P a w next Q := by
  refine ⟨fun _ _ => about_wide, ?_⟩
  rw [Oper.semAt_eq _ _ _ hd, hrun]
  exact h
theorem step_skip {r : Option Nat} {o : Oper} {a : Act} {w w' : World} {next : Act → World → Prop} {Q : Exit → Act → World → Prop} (hd : ∀ c, o.op ≠ .defer c)
    (hrun : (execOp a.eval o).run P w = .ok .skip w') (h : next (a.put o.dst undef) w') : o.wpIn (FW r) 0 P a w next Q := by
  refine ⟨fun _ _ => about_wide, ?_⟩
  rw [Oper.semAt_eq _ _ _ hd, hrun]
  exact h

theorem mkc_true {J : Imm} {β : Nat → Nam} {v : Value} {s : SV} {g : Option (Nat × Bool)} {G : Bool} (hG : G = true) (h : SRep J β v s) : SRep J β v (mkc g G s) := by
  unfold mkc; split
  · exact h
  · exact .cndT hG h

theorem pickF_sound {x : Ctx} {K : Know} {a : Act} {w : World} (hm : Models x K a w) {o : Oper} {c u v : Operand} (ho : o.op = .pick c u v) {vc : Prop} {s : SV} (h : pickF K true c u v = some (vc, s)) (hvc : vc) :
    ∃ z, (execOp a.eval o).run P w = .ok (.value z) w ∧ SRep x.J x.β z s := by
  unfold pickF at h
  split at h
  · rename_i pc cb hc
    split at h
    · rename_i pa xx pb yy ha hb
      simp only [Option.some.injEq, Prod.mk.injEq] at h
      obtain ⟨rfl, rfl⟩ := h
      obtain ⟨h1, h2, h3⟩ := hvc
      have e1 := d_inv (rdK_rep hm hc h1 rfl)
      have hrun : (execOp a.eval o).run P w = .ok (.value (if cb then a.eval u else a.eval v)) w := by
        generalize hev : a.eval c = z at e1
        cases e1
        obtain ⟨dst, op, type, pos, after, guard⟩ := o
        simp only at ho
        subst ho
        simp [execOp, hev, asBool, Result.andThen]
      refine ⟨_, hrun, ?_⟩
      cases cb with
      | true =>
        have e2 := d_inv (rdK_rep hm ha (h2 rfl) rfl)
        have : pickV u v true xx yy = xx := by
          unfold pickV; split
          · simp only [rdK, cval, Option.some.injEq, Prod.mk.injEq, SV.d.injEq, DV.bool.injEq] at ha
            simp [← ha.2]
          · simp
          · rfl
        rw [this]
        exact .d e2
      | false =>
        have e2 := d_inv (rdK_rep hm hb (h3 rfl) rfl)
        have : pickV u v false xx yy = yy := by
          unfold pickV; split
          · simp
          · simp only [rdK, cval, Option.some.injEq, Prod.mk.injEq, SV.d.injEq, DV.bool.injEq] at hb
            simp [← hb.2]
          · rfl
        rw [this]
        exact .d e2
    · cases h
  · cases h

theorem quietF_sound {x : Ctx} {K : Know} {a : Act} {w : World} (hm : Models x K a w) {im : Bool} {o : Oper} {vc : Prop} {s : SV} (h : quietF P im K true o.op = some (vc, s)) (hvc : vc) :
    ∃ x' w' v, (execOp a.eval o).run P w = .ok (.value v) w' ∧ x.le x' ∧ Models x' K a w' ∧ SRep x'.J x'.β v s := by
  unfold quietF at h
  split at h
  · rename_i c u v ho
    obtain ⟨z, e, r⟩ := pickF_sound (P := P) hm ho h hvc
    exact ⟨x, w, z, e, Ctx.le_refl _, hm, r⟩
  · split at h
    · rename_i vc' s' hq
      simp only [Option.some.injEq, Prod.mk.injEq] at h
      obtain ⟨rfl, rfl⟩ := h
      have hr := rdS_rep hm hvc.1
      obtain ⟨x', w', v, e, hle, _, hm', r, _⟩ := opQ_sound hm (fun u hu s hs => hr u (by simpa using hu) s hs) hq hvc.2
      exact ⟨x', w', v, e, hle, hm', r⟩
    · cases h

theorem rdL_spec {rd : Operand → Option SV} : ∀ {us : List Operand} {ss : List SV}, rdL rd us = some ss → ss.length = us.length ∧ ∀ (i : Nat) u s, us[i]? = some u → ss[i]? = some s → rd u = some s := by
  intro us
  induction us with
  | nil => intro ss h; simp only [rdL, Option.some.injEq] at h; subst h; exact ⟨rfl, fun i u s h => by simp at h⟩
  | cons u us ih =>
    intro ss h
    simp only [rdL] at h
    split at h
    · rename_i s ss' h1 h2
      cases h
      obtain ⟨g1, g2⟩ := ih h2
      refine ⟨by simp [g1], fun i u' s' hu hs => ?_⟩
      cases i with
      | zero => simp at hu hs; subst hu; subst hs; exact h1
      | succ i => exact g2 i u' s' (by simpa using hu) (by simpa using hs)
    · cases h

theorem callF_run {x : Ctx} {K : Know} {a : Act} {w : World} (_ : Models x K a w) {o : Oper} {rd : Operand → Option SV} (hrd : ∀ u ∈ o.op.operands, ∀ s, rd u = some s → SRep x.J x.β (a.eval u) s) {f : FuncId} {ss : List SV}
    (h : callF rd o.op = some (f, ss)) (he : Enters P f) : ∃ vs, (execOp a.eval o).run P w = .ok (.enter f vs) w ∧ ArrR x.J x.β vs ss := by
  obtain ⟨dst, op, type, pos, after, guard⟩ := o
  simp only at h hrd
  unfold callF at h
  split at h
  · rename_i g args ts
    have harr : ∀ ss, rdL rd args.toList = some ss → ArrR x.J x.β (args.map a.eval) ss := fun ss hss => by
      obtain ⟨g1, g2⟩ := rdL_spec hss
      refine ⟨by simp [g1], fun i v s hv hs => ?_⟩
      rw [Array.getElem?_map, Option.map_eq_some_iff] at hv
      obtain ⟨u, hu, rfl⟩ := hv
      refine hrd u ?_ s (g2 i u s (by simpa using hu) hs)
      simp only [Op.operands, Call.operands, Array.mem_append]
      exact .inr (Array.mem_of_getElem? hu)
    have hgm : g ∈ (Op.call { callee := .value g, args := args, argTypes := ts }).operands := by simp [Op.operands, Call.operands]
    have run : ∀ cs : Array Value, a.eval g = .func (.func f) #[] cs → (execOp a.eval { dst, op := .call { callee := .value g, args := args, argTypes := ts }, type, pos, after, guard }).run P w = .ok (.enter f (args.map a.eval ++ cs)) w := fun cs hcs => by
      have := he (args.map a.eval ++ cs) w
      simp [execOp, resolve, Deferred.ofValue, hcs, invoke, this, Result.andThen]
    have cat : ∀ (cs : Array Value) (ss ts : List SV), ArrR x.J x.β (args.map a.eval) ss → ArrR x.J x.β cs ts → ArrR x.J x.β (args.map a.eval ++ cs) (ss ++ ts) := fun cs ss ts h1 h2 => by
      refine ⟨by rw [Array.size_append, h1.1, h2.1]; simp, fun i v s hv hs => ?_⟩
      rw [List.getElem?_append] at hs
      split at hs
      · rename_i hlt
        rw [Array.getElem?_append_left (by rw [h1.1]; exact hlt)] at hv
        exact h1.2 i v s hv hs
      · rename_i hlt
        rw [Array.getElem?_append_right (by rw [h1.1]; omega), h1.1] at hv
        exact h2.2 _ v s hv hs
    split at h
    · rename_i f' ss' hg hss
      cases h
      have := d_inv (hrd g hgm _ hg)
      generalize hev : a.eval g = z at this
      cases this with
      | @fn _ cs _ hl hh =>
        have hc0 : cs = #[] := Array.eq_empty_of_size_eq_zero (by simpa using hl)
        subst hc0
        refine ⟨_, run #[] hev, ?_⟩
        simpa using harr _ hss
    · rename_i f' caps ss' hne hg hss
      cases h
      have := d_inv (hrd g hgm _ hg)
      generalize hev : a.eval g = z at this
      cases this with
      | @fn _ cs _ hl hh =>
        refine ⟨_, run cs hev, cat cs _ _ (harr _ hss) ⟨by simp [hl], fun i v s hv hs => ?_⟩⟩
        rw [List.getElem?_map, Option.map_eq_some_iff] at hs
        obtain ⟨d, hd, rfl⟩ := hs
        exact .d (hh i v d hv hd)
    · rename_i f' caps ss' hg hss
      cases h
      have hr := hrd g hgm _ hg
      generalize hev : a.eval g = z at hr
      cases hr with
      | @clo _ cs _ hl hh => exact ⟨_, run cs hev, cat cs _ _ (harr _ hss) ⟨hl, hh⟩⟩
    · cases h
  · cases h

theorem step_enter {r : Option Nat} {o : Oper} {a : Act} {w : World} {f : FuncId} {vs : Array Value} {next : Act → World → Prop} {Q : Exit → Act → World → Prop} (hd : ∀ c, o.op ≠ .defer c)
    (hrun : (execOp a.eval o).run P w = .ok (.enter f vs) w) (h : Calls P f vs w fun | .returned v, w'' => next (a.put o.dst v) w'' | .panicked chain, w'' => Q (.panic chain) a w'' | .outgrown, _ => LetsOut Q) :
    o.wpIn (FW r) 0 P a w next Q := by
  refine ⟨fun _ _ => about_wide, ?_⟩
  rw [Oper.semAt_eq _ _ _ hd, hrun]
  exact ⟨fun h => by simp [FW, Fence.wide] at h, callsIn_wide.2 h⟩

theorem VCcall_sound {r : Option Nat} {ops : Array Oper} {Q : XE → Know → Prop} {o : Oper} {l : List Oper} {K : Know} {G : Bool} (hG : guardG K ops o = some G)
    (h : match callF (rdS K G) o.op with
        | some (f, ss) => dstOk K o.dst ∧ (G = true → conds K G o.op.operands.toList) ∧ (match o.guard with
          | none => CallAt P r ops Q f ss o.dst l K
          | some _ => CallAtG P r ops Q f ss G o.dst l K)
        | none => OpsWp P r ops Q (o :: l) K) : OpsWp P r ops Q (o :: l) K := by
  split at h
  · rename_i f ss hcall
    obtain ⟨hdst, hcond, h⟩ := h
    intro x a w hm
    have hw := guardG_sound hm hG
    have hnd : ∀ c, o.op ≠ .defer c := fun c e => by rw [e] at hcall; simp [callF] at hcall
    simp only [opsL]
    cases G with
    | false =>
      rw [if_neg (by rw [hw]; simp)]
      split at h
      · rename_i hg; unfold guardG at hG; rw [hg] at hG; cases hG
      · obtain ⟨_, ds, d, h1, h2, h3⟩ := h
        exact h3 x _ _ (hm.put (dstOk_spec hdst) (.cndF rfl))
    | true =>
      rw [if_pos hw]
      have hr := rdS_rep hm (hcond rfl)
      split at h
      · obtain ⟨he, hc⟩ := h
        obtain ⟨vs, hrun, harr⟩ := callF_run hm (fun u hu s hs => hr u (by simpa using hu) s hs) hcall he
        refine step_enter hnd hrun ((hc x a w vs hm harr).mono ?_)
        rintro e w' ⟨y, K', out, hxy, hm', hes, hk⟩
        cases e with
        | returned v =>
          cases out with
          | ret s =>
            exact opsL_ext hxy _ _ _ (hk.2 y _ _ (hm'.put (dstOk_spec (hk.1 hdst)) hes))
          | pan d => exact hes.elim
        | panicked ch =>
          cases out with
          | ret s => exact hes.elim
          | pan d => exact ⟨y, K', .pan d, hxy, hes, hm', hk⟩
        | outgrown => cases out <;> exact hes.elim
      · obtain ⟨he, ds, d, h1, h2, h3⟩ := h
        obtain ⟨vs, hrun, harr⟩ := callF_run hm (fun u hu s hs => hr u (by simpa using hu) s hs) hcall he
        have hc : CallS P f ss K fun out K' => out = .ret (.d d) ∧ K' = K := CallS.pure h1 (h2 rfl) (fun o ho => by subst ho; exact ⟨rfl, rfl⟩)
        refine step_enter hnd hrun ((hc x a w vs hm harr).mono ?_)
        rintro e w' ⟨y, K', out, hxy, hm', hes, rfl, rfl⟩
        cases e with
        | returned v => exact opsL_ext hxy _ _ _ (h3 y _ _ (hm'.put (dstOk_spec hdst) (.cndT rfl hes)))
        | panicked ch => exact hes.elim
        | outgrown => exact hes.elim
  · exact h

/-- **The verification condition of a list of operations is enough.** -/
theorem VCops_sound {r : Option Nat} {im : Bool} {ops : Array Oper} {Q : XE → Know → Prop} : ∀ (l : List Oper) (K : Know), VCops P r im ops Q l K → OpsWp P r ops Q l K := by
  intro l
  induction l with
  | nil => intro K h x a w hm; exact ⟨x, K, .normal, Ctx.ext_refl _, trivial, hm, h⟩
  | cons o l ih =>
    intro K h x a w hm
    simp only [VCops] at h
    split at h
    · exact h.elim
    · rename_i G hG
      have hw := guardG_sound hm hG
      split at h
      · exact VCcall_sound hG h x a w hm
      · rename_i hc
        obtain ⟨hg, hdst, hcond, hx⟩ := h
        have hGt : G = true := by
          unfold guardG at hG; rw [hg] at hG; cases hG; rfl
        have hr := rdS_rep hm hcond
        obtain ⟨x', w', K', s, hrun, hle, hm', hkept, hk⟩ := opX_sound hm (fun u hu s hs => hr u (by simpa using hu) s hs) (opX_kept (k' := fun s K' => Kept o.op K K' ∧ VCops P r im ops Q l (K'.put o.dst s)) hx fun s K' h1 h2 => ⟨h1, h2⟩)
        have hnd := not_defer (im := im) (o := o) (by rw [hc]; simp)
        have hdst' := fun i hi => (hkept.dst hdst) i hi
        simp only [opsL]
        rw [if_pos (by rw [hw, hGt])]
        rcases hrun with ⟨v, e, rv⟩ | ⟨e, rv⟩
        · exact step_value hnd e (opsL_ext hle.ext _ _ _ (ih _ hk x' _ _ (hm'.put hdst' rv)))
        · exact step_skip hnd e (opsL_ext hle.ext _ _ _ (ih _ hk x' _ _ (hm'.put hdst' rv)))
      · rename_i hc
        have hnd := not_defer (im := im) (o := o) (by rw [hc]; simp)
        split at h
        · rename_i vc s hq
          obtain ⟨hdst, hvc, hk⟩ := h
          simp only [opsL]
          cases G with
          | true =>
            rw [if_pos hw]
            obtain ⟨x', w', v, e, hle, hm', rv⟩ := quietF_sound hm hq (hvc rfl)
            exact step_value hnd e (opsL_ext hle.ext _ _ _ (ih _ hk x' _ _ (hm'.put (dstOk_spec hdst) (mkc_true rfl rv))))
          | false =>
            rw [if_neg (by rw [hw]; simp)]
            refine ih _ hk x _ _ (hm.put (dstOk_spec hdst) ?_)
            unfold mkc
            split
            · rename_i hg; unfold guardG at hG; rw [hg] at hG; cases hG
            · exact .cndF rfl
        · exact h.elim

theorem OpsWp.mono {r : Option Nat} {ops : Array Oper} {Q Q' : XE → Know → Prop} {l : List Oper} {K : Know} (h : OpsWp P r ops Q l K) (hq : ∀ e K, Q e K → Q' e K) : OpsWp P r ops Q' l K :=
  fun x a w hm => opsL_mono hq l a w (h x a w hm)

end Go.Bf
