/-
  How code is walked: one region at a time, what follows behind a variable. Nothing is claimed here.
-/
import Derived.Test.YtmejdolknkjjdaaBfW
import Derived.IntWalk
import Derived.Lib.SliceRun
namespace Go.Bf
open Go Go.RowKit Go.IntWalk
variable {P : Program} {r : Option Nat}

theorem DWp.seqK {c d : Code} {Q : XE → Know → Prop} {K : Know} (h : ∀ k : Know → Prop, (∀ K', DWp P r d Q K' → k K') → DWp P r c (thenX k Q) K) : DWp P r (.seq c d) Q K :=
  DWp.seq (h _ fun _ h => h)
/-- A region, and what follows. -/
theorem DWp.reg {id : Nat} {ops : Array Oper} {d : Code} {Q : XE → Know → Prop} {K : Know} (im : Bool) (h : ∀ k : Know → Prop, (∀ K', DWp P r d Q K' → k K') → VCops P r im ops (thenX k Q) ops.toList K) :
    DWp P r (.seq (.region id ops false) d) Q K :=
  DWp.seqK fun k hk => DWp.regionV im (h k hk)
/-- A test, and what follows. -/
theorem DWp.iff {c : Operand} {t e d : Code} {Q : XE → Know → Prop} {K : Know} (h : ∀ k : Know → Prop, (∀ K', DWp P r d Q K' → k K') → CondVC P r c t e (thenX k Q) K) :
    DWp P r (.seq (.cond c t e) d) Q K :=
  DWp.seqK fun k hk => DWp.cond (h k hk)
theorem DWp.skipS {d : Code} {Q : XE → Know → Prop} {K : Know} (h : DWp P r d Q K) : DWp P r (.seq .skip d) Q K := DWp.seqK fun _ hk => DWp.skip (hk _ h)
theorem DWp.blockK {id : Nat} {c d : Code} {Q : XE → Know → Prop} {K : Know} (h : ∀ k : Know → Prop, (∀ K', DWp P r d Q K' → k K') → DWp P r c (blockX id (thenX k Q)) K) : DWp P r (.seq (.block id c) d) Q K :=
  DWp.seqK fun k hk => DWp.block (h k hk)

/-- A loop: the ghost s says what is known at its head. -/
theorem DWp.loopK {σ : Type} (S : σ → Know) (Iv : σ → Prop) (μ : σ → Nat) (s0 : σ) {c : Code} {Q : XE → Know → Prop} {K : Know} (hs : Sub (S s0) K) (h0 : Iv s0)
    (hr : ∀ s, Iv s → ∀ k : Know → Prop, (∀ K' s', Iv s' → μ s' < μ s → Sub (S s') K' → k K') → DWp P r c (thenX k Q) (S s)) : DWp P r (.loop c) Q K :=
  DWp.loop S Iv μ s0 hs h0 fun s hi => hr s hi _ fun _ s' h1 h2 h3 => ⟨s', h1, h2, h3⟩

theorem FnWp.intro' {f : FuncId} {fn : Func} {c : Code} {ds : List DV} {Q : Out → Prop} (hf : P.funcs[f]? = some fn) (hb : fn.body = some c) (hn : ds.length ≤ fn.ntmps)
    (h : ∀ E : XE → Know → Prop, (∀ K, RetPost P K fn.results.toList Q → E .normal K ∧ E .ret K) → DWp P none c E (Know.start fn.ntmps ds)) : FnWp P f ds Q :=
  FnWp.intro hf hb hn (h _ fun _ h => ⟨h, h⟩)

@[congr] theorem CallAt.congr {ops : Array Oper} {Q : XE → Know → Prop} {f : FuncId} {ss ss' : List SV} {dst : Option Nat} {rest : List Oper} {K K' : Know} (h1 : ss = ss') (h2 : K = K') : CallAt P r ops Q f ss dst rest K = CallAt P r ops Q f ss' dst rest K' := by rw [h1, h2]
@[congr] theorem CallAtG.congr {ops : Array Oper} {Q : XE → Know → Prop} {f : FuncId} {ss ss' : List SV} {G G' : Bool} {dst : Option Nat} {rest : List Oper} {K K' : Know} (h1 : ss = ss') (h2 : G = G') (h3 : K = K') : CallAtG P r ops Q f ss G dst rest K = CallAtG P r ops Q f ss' G' dst rest K' := by rw [h1, h2, h3]
@[congr] theorem OpsWp.congr {ops : Array Oper} {Q : XE → Know → Prop} {l : List Oper} {K K' : Know} (h : K = K') : OpsWp P r ops Q l K = OpsWp P r ops Q l K' := by rw [h]
@[congr] theorem DWp.congr {c : Code} {Q : XE → Know → Prop} {K K' : Know} (h : K = K') : DWp P r c Q K = DWp P r c Q K' := by rw [h]

theorem CallAtG.det {ops : Array Oper} {Q : XE → Know → Prop} {f : FuncId} {ss : List SV} {ds : List DV} {d : DV} {G : Bool} {dst : Option Nat} {rest : List Oper} {K : Know} (im : Bool) (he : Enters P f) (hd : toDs ss = some ds)
    (h : G = true → FnWp P f ds (· = .ret d)) (hk : VCops P r im ops Q rest (K.put dst (.cnd G (.d d)))) : CallAtG P r ops Q f ss G dst rest K :=
  ⟨he, ds, d, hd, h, VCops_sound _ _ hk⟩

/-- '==' nil: a slice that is known by its rows. -/
theorem OpsWp.nilEq {ops : Array Oper} {Q : XE → Know → Prop} {o : Oper} {l : List Oper} {K : Know} {t sl e : TypeId} {x : Operand} {xs : List (List DV)} (ho : o.op = .binOp .eql t x (.const (.slice none 0 0)) sl)
    (hu : P.underlying t = some (.slice e)) (hg : o.guard = none) (hd : dstOk K o.dst) (hx : rdK K true x = some (True, .d (.list xs)))
    (hk : ∀ b : Bool, (b = true → xs = []) → OpsWp P r ops Q l (K.put o.dst (.d (.bool b)))) : OpsWp P r ops Q (o :: l) K := fun x' a w hm => by
  simp only [opsL]
  have hw : Region.wanted o (yielded ops a.tmps) = true := by unfold Region.wanted; rw [hg]
  rw [if_pos hw]
  have hr := d_inv (rdK_rep hm hx trivial rfl)
  generalize hev : a.eval x = z at hr
  have hnd : ∀ c, o.op ≠ .defer c := fun c e => by rw [ho] at e; cases e
  have key : ∀ b : Bool, (b = true → xs = []) → (execOp a.eval o).run P w = .ok (.value (.bool b)) w → o.wpIn (FW r) 0 P a w (opsL P r ops (Post x' Q) l) (Post x' Q) := fun b hb hrun =>
    step_value hnd hrun (hk b hb x' _ _ (hm.put (dstOk_spec hd) (.d .bool)))
  have run : ∀ ad n c, z = .slice ad n c → (execOp a.eval o).run P w = .ok (.value (.bool ad.isNone)) w := fun ad n c hz => by
    subst hz
    obtain ⟨dst, op, type, pos, after, guard⟩ := o
    simp only at ho
    subst ho
    have := Lib.run_eql_slice_nil (P := P) w t e ad n c 0 0 hu
    have hg : (eqGuard .eql t x (.const (.slice none 0 0)) (.slice ad n c) (.slice none 0 0)).run P w = .ok () w := by simp [eqGuard]
    have hc : a.eval (.const (.slice none 0 0)) = .slice none 0 0 := rfl
    simp only [execOp, hev, hc, Sem.run_bind, hg, this, Result.andThen_ok, Sem.run_pure]
  cases hr with
  | @empty ad cap hc =>
    cases ad with
    | none => exact key true (fun _ => rfl) (run _ _ _ rfl)
    | some ad => exact key false (fun h => by cases h) (run _ _ _ rfl)
  | slice vs h1 h2 h3 h4 h5 => exact key false (fun h => by cases h) (run _ _ _ rfl)

@[simp] theorem wrap_u8c (c : UInt8) : IntKind.u8.wrap (c.toNat : Int) = (c.toNat : Int) := u8_in _ ⟨by omega, by have := c.toNat_lt; omega⟩

end Go.Bf
