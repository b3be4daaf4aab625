/-
  Iterators: what a function that is ranged over hands to yield; calls of yield within it. Nothing is claimed here.
-/
import Derived.Test.YtmejdolknkjjdaaBfZ3
namespace Go.Bf
open Go Go.RowKit
variable {P : Program} {r : Option Nat}

/-- What a round leaves be of an iterator's blocks. -/
def Keeps (n : Nat) (oth : Nat → Prop) (W W' : World) : Prop := W.heap.size ≤ W'.heap.size ∧ ∀ k : Nat, n ≤ k → k < W.heap.size → ¬ oth k → W'.heap[k]? = W.heap[k]?

/-- Yield, called with the row x when the caller's state is g: the caller goes on with g1, or tells the iterator to stop, with g2. -/
def Yields1 (P : Program) (l n : Nat) (J : Imm) (x : List DV) (g g1 g2 : Ghost) : Prop :=
  ∀ (oth : Nat → Prop) (W : World) (J' : Imm) (args : Array Value), g oth J' W → (∀ k, oth k → n ≤ k ∧ k < W.heap.size) → n ≤ W.heap.size → Holds J' W → (∀ b o, (b < n ∨ oth b) → J' b o = J b o) → RepL J' args x →
    YieldAt Fence.wide 0 P l args W fun e W' => Keeps n oth W W' ∧ (∀ b o v, J' b o = some v → W'.cell? ⟨b, o, none⟩ = some v) ∧
      ∃ oth' : Nat → Prop, (∀ k, oth k → oth' k) ∧ (∀ k, oth' k → n ≤ k ∧ k < W'.heap.size) ∧ (∀ k, oth' k → ¬ oth k → W.heap.size ≤ k) ∧
        ((e = .returned (.bool true) ∧ g1 oth' J' W') ∨ (e = .returned (.bool false) ∧ g2 oth' J' W'))

/-- **The contract of an iterator**: it hands the rows ys to yield, one after the other, until it is told to stop. -/
def SeqWp (P : Program) (f : FuncId) (caps : List DV) (ys : List (List DV)) : Prop :=
  ∀ (w : World) (J : Imm) (vs : Array Value) (l : Nat) (St : List (List DV) → Ghost) (Sx : Ghost), Holds J w → RepL J vs caps → (∀ pre, StOk w.heap.size (St pre)) → StOk w.heap.size Sx →
    (∀ pre x, pre ++ [x] <+: ys → Yields1 P l w.heap.size J x (St pre) (St (pre ++ [x])) Sx) → St [] (fun _ => False) J w →
    Calls P f (#[.func (.yield l) #[] #[]] ++ vs) w fun e W' => (∃ v, e = .returned v) ∧ ∃ oth J', St ys oth J' W' ∨ Sx oth J' W'

/-- What is asked where an iterator's body is left. -/
def SeqPost (g1 g2 : Ghost) : XE → Know → Prop
  | .normal, K => K.gh = g1 ∨ K.gh = g2
  | .ret, K => K.gh = g1 ∨ K.gh = g2
  | _, _ => False

def Base.iter (w : World) : Base :=
  { heap := w.heap
    inv := fun oth J g W => g oth J W ∧ w.heap.size ≤ W.heap.size ∧ (∀ k, oth k → w.heap.size ≤ k ∧ k < W.heap.size) ∧ StOk w.heap.size g
    fr := #[]
    up := fun oth J g W W' h hb ho hJ => ⟨h.2.2.2.up oth J W W' h.1 hb ho hJ, Nat.le_trans h.2.1 (hb.size), fun k hk => ⟨(h.2.2.1 k hk).1, Nat.lt_of_lt_of_le (h.2.2.1 k hk).2 hb.size⟩, h.2.2.2⟩
    size := fun oth J g W h => ⟨h.2.1, fun k hk => (h.2.2.1 k hk).2⟩
    moreJ := fun oth J J' g W h h1 h2 => ⟨h.2.2.2.moreJ oth J J' W h.1 h1 h2, h.2.1, h.2.2.1, h.2.2.2⟩ }

def Know.iter (n : Nat) (ds : List DV) (g : Ghost) (b : Nat) (J : Imm) : Know := { slots := fun i => (ds[i]?).map .d, mem := fun _ => .unborn, n := n, nx := 0, gh := g, b0 := some (b, J) }

theorem SeqWp.intro {f : FuncId} {fn : Func} {c : Code} {caps : List DV} {ys : List (List DV)} (hf : P.funcs[f]? = some fn) (hb : fn.body = some c) (hres : fn.results = #[]) (hn : caps.length + 1 ≤ fn.ntmps)
    (h : ∀ (l n : Nat) (J : Imm) (St : List (List DV) → Ghost) (Sx : Ghost), (∀ pre, StOk n (St pre)) → StOk n Sx → (∀ b o, n ≤ b → J b o = none) → (∀ pre x, pre ++ [x] <+: ys → Yields1 P l n J x (St pre) (St (pre ++ [x])) Sx) →
      DWp P none c (SeqPost (St ys) Sx) (Know.iter fn.ntmps (.yld l :: caps) (St []) n J)) : SeqWp P f caps ys := by
  intro w J vs l St Sx hJ hv hst hsx hy h0
  refine callsIn_wide.1 (callsIn_of_wp_marks (F := Fence.wide) (n := 0) hf hb trivial ?_ rfl)
  let x : Ctx := { J := J, β := fun _ => .unborn, w0 := Base.iter w, J0 := J, oth := fun _ => False }
  have hm : Models x (Know.iter fn.ntmps (.yld l :: caps) (St []) w.heap.size J) { tmps := (#[Value.func (.yield l) #[] #[]] ++ vs) ++ Array.replicate (fn.ntmps - (#[Value.func (.yield l) #[] #[]] ++ vs).size) undef, defers := [] } w := by
    refine ⟨⟨fun i hi => (by simp [Know.iter] at hi), fun n J' h => ?_⟩, ?_, trivial, ⟨h0, Nat.le_refl _, fun _ h => h.elim, hst []⟩, hJ.cell, fun _ _ _ => rfl, ?_, fun _ _ => rfl, fun b hb => (by simp [Know.iter] at hb), fun b t cells hb => (by simp [Know.iter] at hb), fun b b' B sz t sz' t' hb => (by cases hb), hJ.one, fun _ _ => rfl⟩
    · simp only [Know.iter, Option.some.injEq, Prod.mk.injEq] at h
      obtain ⟨rfl, rfl⟩ := h
      exact ⟨rfl, rfl, fun oth J g W => Iff.rfl⟩
    · simp [Know.iter]; have := hv.1; omega
    · intro i s hs
      simp only [Know.iter, Option.map_eq_some_iff] at hs
      obtain ⟨d, hd, rfl⟩ := hs
      have hsz := hv.1
      cases i with
      | zero =>
        simp at hd; subst hd
        refine ⟨.func (.yield l) #[] #[], ?_, .d .yld⟩
        rw [Array.getElem?_append_left (by simp; omega), Array.getElem?_append_left (by simp)]; rfl
      | succ i =>
        have hd' : caps[i]? = some d := by simpa using hd
        have hlt : i < vs.size := by rw [hsz]; exact (List.getElem?_eq_some_iff.1 hd').1
        refine ⟨vs[i], ?_, .d (hv.2 i _ d (Array.getElem?_eq_getElem hlt) hd')⟩
        rw [Array.getElem?_append_left (by simp; omega), Array.getElem?_append_right (by simp)]
        simp [hlt]
  have hJn : ∀ b o, w.heap.size ≤ b → J b o = none := fun b o hb => by
    cases hc : J b o with
    | none => rfl
    | some v => have := World.block_lt_of_cell? w _ (hJ.cell b o v hc); simp only at this; omega
  refine wpIn_mono (h l w.heap.size J St Sx hst hsx hJn hy x _ w hm) ?_
  rintro e a' w' ⟨y, K, xe, hxy, he, hm', hq⟩
  have fin : (K.gh = St ys ∨ K.gh = Sx) → LeavesInM Fence.wide 0 P fn a'.tmps (fun e W' => (∃ v, e = .returned v) ∧ ∃ oth J', St ys oth J' W' ∨ Sx oth J' W') a'.defers .returning w' := fun hg => by
    refine leaves_marks (by simp) _ _ hm'.defers fun w2 hs => ?_
    have hm2 := hm'.sameC hs
    have hbel := hm2.below
    rw [hxy.w0] at hbel
    refine ⟨.tuple #[], ?_, ⟨_, rfl⟩, y.oth, y.J, ?_⟩
    · rw [results_eq, Sem.run_bind, hres]
      simp
    · rcases hg with hg | hg
      · left; rw [← hg]; exact hbel.1
      · right; rw [← hg]; exact hbel.1
  cases e with
  | normal =>
    cases xe <;> first | exact he.elim | skip
    exact fin hq
  | ret =>
    cases xe <;> first | exact he.elim | skip
    exact fin hq
  | panic ch => cases xe <;> first | exact he.elim | exact hq.elim
  | exit id => cases xe <;> first | exact he.elim | exact hq.elim
  | goto l => cases xe <;> exact he.elim
  | outgrown => cases xe <;> exact he.elim

/-- A world in which all that is known has been left be. -/
theorem Models.turned {x : Ctx} {K : Know} {a : Act} {w w' : World} (hm : Models x K a w) {oth' : Nat → Prop} {g : Ghost} (hsz : w.heap.size ≤ w'.heap.size) (hinv : x.w0.inv oth' x.J g w')
    (hlive : ∀ k : Nat, x.w0.heap.size ≤ k → k < w.heap.size → ¬ x.oth k → w'.heap[k]? = w.heap[k]?) (hJ : ∀ b o v, x.J b o = some v → w'.cell? ⟨b, o, none⟩ = some v)
    (hoth : ∀ k, oth' k → ¬ x.oth k → w.heap.size ≤ k) (hJ0 : ∀ b o, w.heap.size ≤ b → x.J0 b o = none) :
    Models { x with oth := oth' } { K with gh := g } a w' where
  fro := hm.fro
  size := hm.size
  defers := by
    have key : ∀ ds, Marks w x.w0.heap.size x.oth ds → Marks w' x.w0.heap.size oth' ds := by
      intro ds
      induction ds with
      | nil => intro _; trivial
      | cons d ds ih =>
        rintro ⟨⟨D, h1, h2, h3, h4⟩, h⟩
        have hlt := (Array.getElem?_eq_some_iff.1 h2).1
        exact ⟨⟨D, h1, (hlive D h3.1 hlt h3.2).trans h2, ⟨h3.1, fun ho => by have := hoth D ho h3.2; omega⟩, h4⟩, ih h⟩
    exact key _ hm.defers
  below := hinv
  holds := hJ
  old := fun b o hb => by
    by_cases hb' : b < x.w0.heap.size ∨ x.oth b
    · exact hm.old b o hb'
    · rcases hb with hb | hb
      · exact absurd (.inl hb) hb'
      · have hge := hoth b hb (fun h => hb' (.inr h))
        show x.J b o = x.J0 b o
        rw [hJ0 b o hge]
        cases hc : x.J b o with
        | none => rfl
        | some v => have := World.block_lt_of_cell? w _ (hm.holds b o v hc); simp only at this; omega
  slots := hm.slots
  unborn := hm.unborn
  dead := hm.dead
  live := fun b t cells hmem => by
    obtain ⟨B, vals, fr, g1, ⟨T, g2⟩, g3, g4, g5, g6, g7, g8⟩ := (hm.live b t cells hmem).out
    have hlt := (Array.getElem?_eq_some_iff.1 g2).1
    exact ⟨B, vals, fr, g1, ⟨T, (hlive B g7.1 hlt g7.2).trans g2⟩, g3, g4, g5, g6, ⟨g7.1, fun ho => by have := hoth B ho g7.2; omega⟩, g8⟩
  inj := hm.inj
  one := hm.one
  fresh := hm.fresh

/-- A call of yield, within an iterator. -/
theorem OpsWp.yield {ops : Array Oper} {Q : XE → Know → Prop} {o : Oper} {rest : List Oper} {K : Know} {g : Operand} {args : Array Operand} {ts : Array TypeId} {l n : Nat} {J : Imm} {ss : List SV} {x : List DV} {g1 g2 : Ghost}
    (ho : o.op = .call { callee := .value g, args := args, argTypes := ts }) (hgd : o.guard = none) (hg : rdK K true g = some (True, .d (.yld l))) (hd : dstOk K o.dst) (hargs : rdL (rdS K true) args.toList = some ss) (hx : toDs ss = some x)
    (hc : conds K true args.toList) (hb0 : K.b0 = some (n, J)) (hJn : ∀ b o, n ≤ b → J b o = none) (h1 : StOk n g1) (h2 : StOk n g2) (hy : Yields1 P l n J x K.gh g1 g2)
    (hk1 : OpsWp P none ops Q rest (({ K with gh := g1 } : Know).put o.dst (.d (.bool true)))) (hk2 : OpsWp P none ops Q rest (({ K with gh := g2 } : Know).put o.dst (.d (.bool false)))) :
    OpsWp P none ops Q (o :: rest) K := fun x' a w hm => by
  simp only [opsL]
  have hw : Region.wanted o (yielded ops a.tmps) = true := by unfold Region.wanted; rw [hgd]
  rw [if_pos hw]
  obtain ⟨e1, e2, e3⟩ := hm.fro.2 n J hb0
  have hbel := (e3 _ _ _ _).1 hm.below
  have hr := d_inv (rdK_rep hm hg trivial rfl)
  have hrd := rdS_rep hm hc
  obtain ⟨q1, q2⟩ := rdL_spec hargs
  have harr : ArrR x'.J x'.β (args.map a.eval) ss := by
    refine ⟨by simp [q1], fun i v s hv hs => ?_⟩
    rw [Array.getElem?_map, Option.map_eq_some_iff] at hv
    obtain ⟨u, hu, rfl⟩ := hv
    exact hrd u (Array.mem_toList_iff.2 (Array.mem_of_getElem? hu)) s (q2 i u s (by simpa using hu) hs)
  have hrep : RepL x'.J (args.map a.eval) x := by
    have := toDs_rep (J := x'.J) (β := x'.β) (vs := (args.map a.eval).toList) hx (by rw [Array.toArray_toList]; exact harr)
    rwa [Array.toArray_toList] at this
  have hym := hy x'.oth w x'.J (args.map a.eval) hbel.1 hbel.2.2.1 hbel.2.1 ⟨hm.holds, hm.one⟩ (fun b o hb => by rw [hm.old b o (hb.imp (fun h => by rw [e1]; exact h) id), e2]) hrep
  obtain ⟨fn, tmps, assign, body, hyr, hround⟩ := hym
  generalize hev : a.eval g = z at hr
  cases hr
  have hrun : (execOp a.eval o).run P w = .ok (.round l fn tmps assign body) w := by
    obtain ⟨dst, op, type, pos, after, guard⟩ := o
    simp only at ho
    subst ho
    simp [execOp, resolve, Deferred.ofValue, hev, invoke, hyr, Result.andThen]
  have hnd : ∀ c, o.op ≠ .defer c := fun c e => by rw [ho] at e; cases e
  refine ⟨fun _ _ => about_wide, ?_⟩
  rw [Oper.semAt_eq _ _ _ hnd, hrun, Oper.uponIn_round]
  refine ⟨fun h => by simp [FW, Fence.wide] at h, hround.mono ?_⟩
  rintro e w' ⟨hkeep, hJ', oth', ho1, ho2, ho3, hres⟩
  have fin : ∀ (b : Bool) (gx : Ghost), StOk n gx → gx oth' x'.J w' → OpsWp P none ops Q rest (({ K with gh := gx } : Know).put o.dst (.d (.bool b))) → opsL P none ops (Post x' Q) rest (a.put o.dst (.bool b)) w' := fun b gx hok hgx hk => by
    have hm2 := hm.turned (oth' := oth') (g := gx) hkeep.1 ((e3 _ _ _ _).2 ⟨hgx, Nat.le_trans hbel.2.1 hkeep.1, ho2, hok⟩) (fun k hk1 hk2 hk3 => hkeep.2 k (by rw [← e1]; exact hk1) hk2 hk3) hJ' ho3
      (fun b o hb => by rw [e2]; exact hJn b o (Nat.le_trans hbel.2.1 hb))
    have hm3 := hm2.put (dst := o.dst) (v := .bool b) (s := .d (.bool b)) (dstOk_spec hd) (.d .bool)
    have hx' : x'.ext { x' with oth := oth' } := ⟨fun _ _ _ h => h, rfl, rfl⟩
    exact opsL_ext hx' _ _ _ (hk _ _ _ hm3)
  rcases hres with ⟨rfl, hg1⟩ | ⟨rfl, hg2⟩
  · exact fin true g1 h1 hg1 hk1
  · exact fin false g2 h2 hg2 hk2

end Go.Bf
