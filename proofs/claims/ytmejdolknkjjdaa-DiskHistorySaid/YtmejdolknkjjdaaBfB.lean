/-
  What an operation that only reads yields, reckoned on what is known, and that it does so: over any program. Nothing is claimed here.
-/
import Derived.Test.YtmejdolknkjjdaaBfA
namespace Go.Bf
open Go Go.RowKit

/-! ### Types -/
/-- How many cells a variable of a type has: one that is no aggregate, or an aggregate of so many. -/
inductive LK where
  | one
  | agg (n : Nat)
  | bad
  deriving DecidableEq

/-- What is asked of an element's type. -/
structure EK where
  sz : Nat
  bytes : Nat
  u8 : Bool
  zero : Option (List DV)
  lk : LK

inductive TK where
  | bool
  | int (k : IntKind)
  | str
  | one
  | slice (e : EK)
  | struct (fs : List (Nat × LK)) (n : Nat)
  | arr (n : Nat) (e : EK) (sz : Nat)
  | bad

def zeroDV : Value → Option DV
  | .int k n => if n = 0 then some (.int k 0) else none
  | .bool b => some (.bool b)
  | .string s => if s.data = #[] then some (.str []) else none
  | .slice none 0 0 => some (.list [])
  | .pointer none => some .nilp
  | .nilFunc => some .nilf
  | .nilIface => some .nili
  | .map none => some .nilm
  | _ => none

def lkOf (P : Program) (t : TypeId) : LK :=
  match P.underlying t, P.info? t with
  | some (.struct _), some i => if i.size = 0 then .bad else .agg i.size
  | some (.array _ _), some i => if i.size = 0 then .bad else .agg i.size
  | some _, some i => if i.size = 1 then .one else .bad
  | _, _ => .bad

def isU8 (P : Program) (t : TypeId) : Bool := match P.underlying t with | some (.int .u8) => true | _ => false

def ekOf (P : Program) (t : TypeId) : Option EK :=
  match P.info? t with
  | some i => if i.size = 0 then none else
    some { sz := i.size, bytes := i.bytes, u8 := isU8 P t, lk := lkOf P t, zero := match i.zero with | some z => if z.cells.size = i.size then z.cells.toList.mapM zeroDV else none | none => none }
  | none => none

def tzero (P : Program) (t : TypeId) : Option (List DV) := (ekOf P t).bind (·.zero)

def tk (P : Program) (t : TypeId) : TK :=
  match P.underlying t with
  | some .bool => .bool
  | some (.int k) => .int k
  | some .string => .str
  | some (.slice e) => match ekOf P e with | some k => .slice k | none => .bad
  | some (.struct fs) => match P.info? t with | some i => if i.size = 0 then .bad else .struct (fs.toList.map fun f => (f.offset, lkOf P f.type)) i.size | none => .bad
  | some (.array n e) => match ekOf P e, P.info? t with | some k, some i => if i.size = 0 then .bad else .arr n k i.size | _, _ => .bad
  | some _ => .one
  | none => .bad

variable {P : Program}

theorem tk_slice {t : TypeId} {k : EK} (h : tk P t = .slice k) : ∃ e, P.underlying t = some (.slice e) ∧ ekOf P e = some k := by
  unfold tk at h; split at h <;> try (split at h) <;> try (split at h)
  all_goals simp_all
theorem tk_struct {t : TypeId} {fs : List (Nat × LK)} {n : Nat} (h : tk P t = .struct fs n) : ∃ fields i, P.underlying t = some (.struct fields) ∧ P.info? t = some i ∧ i.size = n ∧ n ≠ 0 ∧ fs = fields.toList.map fun f => (f.offset, lkOf P f.type) := by
  unfold tk at h; split at h
  all_goals (try split at h) <;> (try split at h) <;> simp_all
theorem tk_arr {t : TypeId} {k : EK} {n sz : Nat} (h : tk P t = .arr n k sz) : ∃ e i, P.underlying t = some (.array n e) ∧ ekOf P e = some k ∧ P.info? t = some i ∧ i.size = sz ∧ sz ≠ 0 := by
  unfold tk at h; split at h
  all_goals (try split at h) <;> (try split at h) <;> simp_all
theorem tk_int {t : TypeId} {k : IntKind} (h : tk P t = .int k) : P.underlying t = some (.int k) := by
  unfold tk at h; split at h
  all_goals (try split at h) <;> (try split at h) <;> simp_all
theorem tk_str {t : TypeId} (h : tk P t = .str) : P.underlying t = some .string := by
  unfold tk at h; split at h
  all_goals (try split at h) <;> (try split at h) <;> simp_all
theorem tk_bool {t : TypeId} (h : tk P t = .bool) : P.underlying t = some .bool := by
  unfold tk at h; split at h
  all_goals (try split at h) <;> (try split at h) <;> simp_all

theorem run_underlying' {t : TypeId} {d : TypeDesc} (h : P.underlying t = some d) (w : World) : (underlying t).run P w = .ok d w := by
  simp [underlying, h]
theorem run_sizeOf' {t : TypeId} {i : TypeInfo} (h : P.info? t = some i) (w : World) : (sizeOf t).run P w = .ok i.size w := by
  simp [sizeOf, typeInfo, h]

theorem lk_agg {t : TypeId} {n : Nat} (h : lkOf P t = .agg n) (w : World) : (isAgg t).run P w = .ok true w ∧ (sizeOf t).run P w = .ok n w ∧ n ≠ 0 := by
  unfold lkOf at h
  split at h <;> (try split at h) <;> simp_all [isAgg, underlying, sizeOf, typeInfo] <;> (rw [← h]; assumption)
theorem lk_one {t : TypeId} (h : lkOf P t = .one) (w : World) : (isAgg t).run P w = .ok false w ∧ (sizeOf t).run P w = .ok 1 w := by
  unfold lkOf at h
  split at h
  · split at h <;> cases h
  · split at h <;> cases h
  · rename_i d i h1 h2 h3 h4
    split at h
    · rename_i hs
      refine ⟨?_, by rw [run_sizeOf' h4, hs]⟩
      unfold isAgg
      cases d <;> simp_all [underlying]
    · cases h
  · cases h
theorem ek_info {t : TypeId} {k : EK} (h : ekOf P t = some k) : ∃ i, P.info? t = some i ∧ i.size = k.sz ∧ i.bytes = k.bytes ∧ k.sz ≠ 0 ∧ isU8 P t = k.u8 ∧ lkOf P t = k.lk ∧
    (∀ z, k.zero = some z → ∃ v, i.zero = some v ∧ v.cells.size = i.size ∧ v.cells.toList.mapM zeroDV = some z) := by
  unfold ekOf at h
  split at h
  · rename_i i hi
    split at h
    · cases h
    · rename_i hs
      simp only [Option.some.injEq] at h
      subst h
      refine ⟨i, hi, rfl, rfl, hs, rfl, rfl, fun z hz => ?_⟩
      simp only at hz
      split at hz
      · rename_i v hv
        split at hz
        · rename_i h1; exact ⟨v, hv, h1, hz⟩
        · cases hz
      · cases hz
  · cases h

/-! ### Reading operands -/
def cval : Value → Option (Prop × SV)
  | .int k n => some (InK k n, .d (.int k n))
  | .bool b => some (True, .d (.bool b))
  | .string s => some (s.data.size ≤ maxLen, .d (.str s.data.toList))
  | .slice none 0 0 => some (True, .clip [])
  | .pointer none => some (True, .d .nilp)
  | .nilFunc => some (True, .d .nilf)
  | .nilIface => some (True, .d .nili)
  | .map none => some (True, .d .nilm)
  | _ => none

theorem cval_rep {J : Imm} {β : Nat → Nam} {v : Value} {p : Prop} {d : SV} (h : cval v = some (p, d)) (hp : p) : SRep J β v d := by
  unfold cval at h
  split at h <;> simp only [Option.some.injEq, Prod.mk.injEq, reduceCtorEq] at h <;> obtain ⟨rfl, rfl⟩ := h
  · exact .d (.int hp)
  · exact .d .bool
  · rename_i s; exact .d (Rep.str (s := s.data.toList) (by simpa using hp))
  · exact .clip (.empty (by simp [maxLen]))
  · exact .d .nilp
  · exact .d .nilf
  · exact .d .nili
  · exact .d .nilm

/-- An operand under a guard: what must hold besides, and what it is. -/
def rdK (K : Know) (G : Bool) : Operand → Option (Prop × SV)
  | .const v => cval v
  | .func f => some (True, .d (.fn f []))
  | .tmp t => match K.slots t with
    | some (.cnd g s) => some (G = true → g = true, s)
    | some s => some (True, s)
    | none => none
  | .global _ => none

theorem eval_tmp {a : Act} {i : Nat} {v : Value} (h : a.tmps[i]? = some v) : a.eval (.tmp i) = v := by
  simp [Act.eval, Array.getD_eq_getD_getElem?, h]

theorem rdK_rep {x : Ctx} {K : Know} {a : Act} {w : World} (hm : Models x K a w) {G : Bool} {o : Operand} {p : Prop} {s : SV} (h : rdK K G o = some (p, s)) (hp : p) (hG : G = true) :
    SRep x.J x.β (a.eval o) s := by
  cases o with
  | const v => exact cval_rep h hp
  | func f =>
    simp only [rdK, Option.some.injEq, Prod.mk.injEq] at h
    obtain ⟨rfl, rfl⟩ := h
    exact .d (.fn rfl (by simp))
  | global g => simp [rdK] at h
  | tmp t =>
    simp only [rdK] at h
    cases hs : K.slots t with
    | none => simp [hs] at h
    | some s' =>
      obtain ⟨v, h1, h2⟩ := hm.slots t s' hs
      rw [eval_tmp h1]
      rw [hs] at h
      split at h
      · rename_i g s'' e
        cases e
        simp only [Option.some.injEq, Prod.mk.injEq] at h
        obtain ⟨rfl, rfl⟩ := h
        cases h2 with
        | cndT _ h => exact h
        | cndF hg => rw [hp hG] at hg; cases hg
      · rename_i e
        simp only [Option.some.injEq, Prod.mk.injEq] at h e
        obtain ⟨rfl, rfl⟩ := h
        subst e
        exact h2
      · simp at h

/-! ### Aggregates -/
def allD : List SV → Option (List DV)
  | [] => some []
  | .d x :: r => (allD r).map (x :: ·)
  | _ :: _ => none

theorem allD_eq : ∀ {cs : List SV} {ds : List DV}, allD cs = some ds → cs = ds.map .d
  | [], ds, h => by simp [allD] at h; simp [← h]
  | .d x :: r, ds, h => by
    simp only [allD, Option.map_eq_some_iff] at h
    obtain ⟨ds', h1, rfl⟩ := h
    simp [allD_eq h1]
  | .loc .. :: _, _, h => by simp [allD] at h
  | .own .. :: _, _, h => by simp [allD] at h
  | .clip .. :: _, _, h => by simp [allD] at h
  | .agg .. :: _, _, h => by simp [allD] at h
  | .clo .. :: _, _, h => by simp [allD] at h
  | .cnd .. :: _, _, h => by simp [allD] at h

theorem allD_map {α : Type} (f : α → DV) (l : List α) : allD (l.map fun c => .d (f c)) = some (l.map f) := by
  induction l with
  | nil => rfl
  | cons c l ih => simp [allD, ih]

theorem allD_mapd (l : List DV) : allD (l.map .d) = some l := by
  have := allD_map (fun x => x) l
  simpa using this

def mkAgg (cs : List SV) : SV := match allD cs with | some ds => .d (.agg ds) | none => .agg cs

theorem SRep.of_mkAgg {J : Imm} {β : Nat → Nam} {vs : Array Value} {cs : List SV} (hl : vs.size = cs.length) (h : ∀ (i : Nat) v s, vs[i]? = some v → cs[i]? = some s → SRep J β v s) :
    SRep J β (.agg vs) (mkAgg cs) := by
  unfold mkAgg
  split
  · rename_i ds hd
    have e := allD_eq hd
    subst e
    refine .d (.agg (by simpa using hl) fun i v d hv hd' => ?_)
    have := h i v (.d d) hv (by simp [hd'])
    cases this with | d h => exact h
  · exact .agg hl h

/-- The cells of a value. -/
def SV.cells : SV → List SV
  | .d (.agg ds) => ds.map .d
  | .agg cs => cs
  | s => [s]

theorem SRep.cells_spec {J : Imm} {β : Nat → Nam} {v : Value} {s : SV} (h : SRep J β v s) (hn : ∀ g s', s ≠ .cnd g s') (hdead : ∀ b off, s = .loc b off → β b ≠ .dead) (hdead' : ∀ b wd off l c, s = .own b wd off l c → β b ≠ .dead) :
    v.cells.size = s.cells.length ∧ ∀ (i : Nat) u t, v.cells[i]? = some u → s.cells[i]? = some t → SRep J β u t := by
  cases h with
  | d h =>
    cases h with
    | agg hl h =>
      refine ⟨by simpa [Value.cells, SV.cells] using hl, fun i u t hu ht => ?_⟩
      simp only [SV.cells, List.getElem?_map, Option.map_eq_some_iff] at ht
      obtain ⟨d, hd, rfl⟩ := ht
      exact .d (h i u d hu hd)
    | int h => exact ⟨rfl, fun i u t hu ht => by cases i <;> simp [Value.cells, SV.cells] at hu ht; subst hu ht; exact .d (.int h)⟩
    | bool => exact ⟨rfl, fun i u t hu ht => by cases i <;> simp [Value.cells, SV.cells] at hu ht; subst hu ht; exact .d .bool⟩
    | str h => exact ⟨rfl, fun i u t hu ht => by cases i <;> simp [Value.cells, SV.cells] at hu ht; subst hu ht; exact .d (.str h)⟩
    | empty h => exact ⟨rfl, fun i u t hu ht => by cases i <;> simp [Value.cells, SV.cells] at hu ht; subst hu ht; exact .d (.empty h)⟩
    | slice vs h1 h2 h3 h4 h5 => exact ⟨rfl, fun i u t hu ht => by cases i <;> simp [Value.cells, SV.cells] at hu ht; subst hu ht; exact .d (.slice vs h1 h2 h3 h4 h5)⟩
    | tup h1 h2 => exact ⟨rfl, fun i u t hu ht => by cases i <;> simp [Value.cells, SV.cells] at hu ht; subst hu ht; exact .d (.tup h1 h2)⟩
    | ptr vs h1 h2 => exact ⟨rfl, fun i u t hu ht => by cases i <;> simp [Value.cells, SV.cells] at hu ht; subst hu ht; exact .d (.ptr vs h1 h2)⟩
    | iface h1 => exact ⟨rfl, fun i u t hu ht => by cases i <;> simp [Value.cells, SV.cells] at hu ht; subst hu ht; exact .d (.iface h1)⟩
    | fn h1 h2 => exact ⟨rfl, fun i u t hu ht => by cases i <;> simp [Value.cells, SV.cells] at hu ht; subst hu ht; exact .d (.fn h1 h2)⟩
    | nilp => exact ⟨rfl, fun i u t hu ht => by cases i <;> simp [Value.cells, SV.cells] at hu ht; subst hu ht; exact .d .nilp⟩
    | nilf => exact ⟨rfl, fun i u t hu ht => by cases i <;> simp [Value.cells, SV.cells] at hu ht; subst hu ht; exact .d .nilf⟩
    | nili => exact ⟨rfl, fun i u t hu ht => by cases i <;> simp [Value.cells, SV.cells] at hu ht; subst hu ht; exact .d .nili⟩
    | nilm => exact ⟨rfl, fun i u t hu ht => by cases i <;> simp [Value.cells, SV.cells] at hu ht; subst hu ht; exact .d .nilm⟩
    | yld => exact ⟨rfl, fun i u t hu ht => by cases i <;> simp [Value.cells, SV.cells] at hu ht; subst hu ht; exact .d .yld⟩
  | loc h => exact ⟨rfl, fun i u t hu ht => by cases i <;> simp [Value.cells, SV.cells] at hu ht; subst hu ht; exact .loc h⟩
  | locDead h => exact absurd h (hdead _ _ rfl)
  | own h h1 h2 h3 h4 => exact ⟨rfl, fun i u t hu ht => by cases i <;> simp [Value.cells, SV.cells] at hu ht; subst hu ht; exact .own h h1 h2 h3 h4⟩
  | ownDead h => exact absurd h (hdead' _ _ _ _ _ rfl)
  | clip h => exact ⟨rfl, fun i u t hu ht => by cases i <;> simp [Value.cells, SV.cells] at hu ht; subst hu ht; exact .clip h⟩
  | agg hl h => exact ⟨hl, h⟩
  | clo hl h => exact ⟨rfl, fun i u t hu ht => by cases i <;> simp [Value.cells, SV.cells] at hu ht; subst hu ht; exact .clo hl h⟩
  | cndT _ h => exact absurd rfl (hn _ _)
  | cndF _ => exact absurd rfl (hn _ _)

end Go.Bf
