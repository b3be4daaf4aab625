/-
  How walks over the model are reckoned on data: our own rules, proved sound over any program. Nothing is claimed here.
-/
import Derived.IntWalk
import Derived.Lib.SliceRun
import Derived.ProofKit
import Derived.SizedLaws
import Derived.Test.YtlnjeijklnoogaaFwB
/-
  How code is walked: one region at a time, what follows behind a variable. Nothing is claimed here.
-/
namespace Go.Bf
open Go Go.RowKit Go.IntWalk
variable {P : Program} {r : Option Nat}

theorem DWp.seqK {c d : Code} {Q : XE → Know → Prop} {K : Know} (h : ∀ k : Know → Prop, (∀ K', DWp P r d Q K' → k K') → DWp P r c (thenX k Q) K) : DWp P r (.seq c d) Q K :=
  DWp.seq (h _ fun _ h => h)
/-- A region, and what follows. -/
theorem DWp.reg {id : Nat} {ops : Array Oper} {d : Code} {Q : XE → Know → Prop} {K : Know} (im : Bool) (h : ∀ k : Know → Prop, (∀ K', DWp P r d Q K' → k K') → VCops P r im ops (thenX k Q) ops.toList K) :
    DWp P r (.seq (.region id ops false) d) Q K :=
  DWp.seqK fun k hk => DWp.regionV im (h k hk)
/-- A test, and what follows. -/
theorem DWp.iff {c : Operand} {t e d : Code} {Q : XE → Know → Prop} {K : Know} (h : ∀ k : Know → Prop, (∀ K', DWp P r d Q K' → k K') → CondVC P r c t e (thenX k Q) K) :
    DWp P r (.seq (.cond c t e) d) Q K :=
  DWp.seqK fun k hk => DWp.cond (h k hk)
theorem DWp.skipS {d : Code} {Q : XE → Know → Prop} {K : Know} (h : DWp P r d Q K) : DWp P r (.seq .skip d) Q K := DWp.seqK fun _ hk => DWp.skip (hk _ h)
theorem DWp.blockK {id : Nat} {c d : Code} {Q : XE → Know → Prop} {K : Know} (h : ∀ k : Know → Prop, (∀ K', DWp P r d Q K' → k K') → DWp P r c (blockX id (thenX k Q)) K) : DWp P r (.seq (.block id c) d) Q K :=
  DWp.seqK fun k hk => DWp.block (h k hk)

/-- A loop: the ghost s says what is known at its head. -/
theorem DWp.loopK {σ : Type} (S : σ → Know) (Iv : σ → Prop) (μ : σ → Nat) (s0 : σ) {c : Code} {Q : XE → Know → Prop} {K : Know} (hs : Sub (S s0) K) (h0 : Iv s0)
    (hr : ∀ s, Iv s → ∀ k : Know → Prop, (∀ K' s', Iv s' → μ s' < μ s → Sub (S s') K' → k K') → DWp P r c (thenX k Q) (S s)) : DWp P r (.loop c) Q K :=
  DWp.loop S Iv μ s0 hs h0 fun s hi => hr s hi _ fun _ s' h1 h2 h3 => ⟨s', h1, h2, h3⟩

theorem FnWp.intro' {f : FuncId} {fn : Func} {c : Code} {ds : List DV} {Q : Out → Prop} (hf : P.funcs[f]? = some fn) (hb : fn.body = some c) (hn : ds.length ≤ fn.ntmps)
    (h : ∀ E : XE → Know → Prop, (∀ K, RetPost P K fn.results.toList Q → E .normal K ∧ E .ret K) → DWp P none c E (Know.start fn.ntmps ds)) : FnWp P f ds Q :=
  FnWp.intro hf hb hn (h _ fun _ h => ⟨h, h⟩)

@[congr] theorem CallAt.congr {ops : Array Oper} {Q : XE → Know → Prop} {f : FuncId} {ss ss' : List SV} {dst : Option Nat} {rest : List Oper} {K K' : Know} (h1 : ss = ss') (h2 : K = K') : CallAt P r ops Q f ss dst rest K = CallAt P r ops Q f ss' dst rest K' := by rw [h1, h2]
@[congr] theorem CallAtG.congr {ops : Array Oper} {Q : XE → Know → Prop} {f : FuncId} {ss ss' : List SV} {G G' : Bool} {dst : Option Nat} {rest : List Oper} {K K' : Know} (h1 : ss = ss') (h2 : G = G') (h3 : K = K') : CallAtG P r ops Q f ss G dst rest K = CallAtG P r ops Q f ss' G' dst rest K' := by rw [h1, h2, h3]
@[congr] theorem OpsWp.congr {ops : Array Oper} {Q : XE → Know → Prop} {l : List Oper} {K K' : Know} (h : K = K') : OpsWp P r ops Q l K = OpsWp P r ops Q l K' := by rw [h]
@[congr] theorem DWp.congr {c : Code} {Q : XE → Know → Prop} {K K' : Know} (h : K = K') : DWp P r c Q K = DWp P r c Q K' := by rw [h]

theorem CallAtG.det {ops : Array Oper} {Q : XE → Know → Prop} {f : FuncId} {ss : List SV} {ds : List DV} {d : DV} {G : Bool} {dst : Option Nat} {rest : List Oper} {K : Know} (im : Bool) (he : Enters P f) (hd : toDs ss = some ds)
    (h : G = true → FnWp P f ds (· = .ret d)) (hk : VCops P r im ops Q rest (K.put dst (.cnd G (.d d)))) : CallAtG P r ops Q f ss G dst rest K :=
  ⟨he, ds, d, hd, h, VCops_sound _ _ hk⟩

/-- '==' nil: a slice that is known by its rows. -/
theorem OpsWp.nilEq {ops : Array Oper} {Q : XE → Know → Prop} {o : Oper} {l : List Oper} {K : Know} {t sl e : TypeId} {x : Operand} {xs : List (List DV)} (ho : o.op = .binOp .eql t x (.const (.slice none 0 0)) sl)
    (hu : P.underlying t = some (.slice e)) (hg : o.guard = none) (hd : dstOk K o.dst) (hx : rdK K true x = some (True, .d (.list xs)))
    (hk : ∀ b : Bool, (b = true → xs = []) → OpsWp P r ops Q l (K.put o.dst (.d (.bool b)))) : OpsWp P r ops Q (o :: l) K := fun x' a w hm => by
  simp only [opsL]
  have hw : Region.wanted o (yielded ops a.tmps) = true := by unfold Region.wanted; rw [hg]
  rw [if_pos hw]
  have hr := d_inv (rdK_rep hm hx trivial rfl)
  generalize hev : a.eval x = z at hr
  have hnd : ∀ c, o.op ≠ .defer c := fun c e => by rw [ho] at e; cases e
  have key : ∀ b : Bool, (b = true → xs = []) → (execOp a.eval o).run P w = .ok (.value (.bool b)) w → o.wpIn (FW r) 0 P a w (opsL P r ops (Post x' Q) l) (Post x' Q) := fun b hb hrun =>
    step_value hnd hrun (hk b hb x' _ _ (hm.put (dstOk_spec hd) (.d .bool)))
  have run : ∀ ad n c, z = .slice ad n c → (execOp a.eval o).run P w = .ok (.value (.bool ad.isNone)) w := fun ad n c hz => by
    subst hz
    obtain ⟨dst, op, type, pos, after, guard⟩ := o
    simp only at ho
    subst ho
    have := Lib.run_eql_slice_nil (P := P) w t e ad n c 0 0 hu
    have hg : (eqGuard .eql t x (.const (.slice none 0 0)) (.slice ad n c) (.slice none 0 0)).run P w = .ok () w := by simp [eqGuard]
    have hc : a.eval (.const (.slice none 0 0)) = .slice none 0 0 := rfl
    simp only [execOp, hev, hc, Sem.run_bind, hg, this, Result.andThen_ok, Sem.run_pure]
  cases hr with
  | @empty ad cap hc =>
    cases ad with
    | none => exact key true (fun _ => rfl) (run _ _ _ rfl)
    | some ad => exact key false (fun h => by cases h) (run _ _ _ rfl)
  | slice vs h1 h2 h3 h4 h5 => exact key false (fun h => by cases h) (run _ _ _ rfl)

@[simp] theorem wrap_u8c (c : UInt8) : IntKind.u8.wrap (c.toNat : Int) = (c.toNat : Int) := u8_in _ ⟨by omega, by have := c.toNat_lt; omega⟩

end Go.Bf

/-
  Regions that draw their order: what may be taken first. Part 1: what an operation looks at. Nothing is claimed here.
-/
namespace Go.Bf
open Go Go.RowKit
variable {P : Program} {r : Option Nat}

theorem mapM_congr' {α β : Type} {f g : α → Option β} : ∀ {l : List α}, (∀ x ∈ l, f x = g x) → l.mapM f = l.mapM g
  | [], _ => rfl
  | x :: l, h => by
    rw [List.mapM_cons, List.mapM_cons, h x (by simp), mapM_congr' (l := l) fun y hy => h y (by simp [hy])]

theorem rdParts_congr {rd rd' : Operand → Option SV} {parts : Array (Nat × Operand)} (h : ∀ p ∈ parts, rd p.2 = rd' p.2) : rdParts rd parts = rdParts rd' parts :=
  mapM_congr' fun p hp => by rw [h p (by simpa using hp)]

theorem rdO_congr {rd rd' : Operand → Option SV} {u : Option Operand} (h : ∀ x, u = some x → rd x = rd' x) : rdO rd u = rdO rd' u := by
  cases u with
  | none => rfl
  | some x => simp [rdO, h x rfl]

theorem maxL_congr {mx : Bool} {rd rd' : Operand → Option SV} {l : List Operand} (h : ∀ u ∈ l, rd u = rd' u) : maxL mx rd l = maxL mx rd' l := by
  unfold maxL
  split
  · rename_i x y; rw [h x (by simp), h y (by simp)]
  · rename_i x y z; rw [h x (by simp), h y (by simp), h z (by simp)]
  · rfl
theorem opP_congr {mem : Mem} {rd rd' : Operand → Option SV} {op : Op} (h : ∀ u ∈ op.operands, rd u = rd' u) : opP P mem rd op = opP P mem rd' op := by
  cases op with
  | move x => simp [opP, h x (by simp [Op.operands])]
  | assign x => simp [opP, h x (by simp [Op.operands])]
  | load t x => simp [opP, h x (by simp [Op.operands])]
  | fieldAddr t x f => simp [opP, h x (by simp [Op.operands])]
  | field t x f => simp [opP, h x (by simp [Op.operands])]
  | indexAddr t x i => simp [opP, h x (by simp [Op.operands]), h i (by simp [Op.operands])]
  | index t x i => simp [opP, h x (by simp [Op.operands]), h i (by simp [Op.operands])]
  | slice t x lo hi mx =>
    simp only [opP]
    rw [h x (by simp [Op.operands]), rdO_congr (u := lo) fun u e => h u (by simp [Op.operands, e]), rdO_congr (u := hi) fun u e => h u (by simp [Op.operands, e]), rdO_congr (u := mx) fun u e => h u (by simp [Op.operands, e])]
  | binOp op t x y _ => simp only [opP, h x (by simp [Op.operands]), h y (by simp [Op.operands])]
  | lookup t x i ok => simp only [opP, h x (by simp [Op.operands]), h i (by simp [Op.operands])]
  | unOp op t x => simp [opP, h x (by simp [Op.operands])]
  | convert s d x => simp [opP, h x (by simp [Op.operands])]
  | extract x i => simp [opP, h x (by simp [Op.operands])]
  | makeInterface t x => simp [opP, h x (by simp [Op.operands])]
  | makeFunc f first captured =>
    cases f <;> simp only [opP]
    rw [mapM_congr' fun x hx => h x (by simp [Op.operands]; right; simpa using hx)]
  | call c =>
    obtain ⟨callee, args, ts⟩ := c
    cases callee with
    | builtin bi =>
      cases bi with
      | len =>
        simp only [opP]
        split
        · rename_i x t e1 e2
          have hx : x ∈ args := by rw [← Array.mem_toList_iff, e1]; simp
          rw [h x (by simp [Op.operands, Call.operands, hx])]
        · rfl
      | max => simp only [opP]; exact maxL_congr fun u hu => h u (by simp [Op.operands, Call.operands]; simp at hu; simp [hu])
      | min => simp only [opP]; exact maxL_congr fun u hu => h u (by simp [Op.operands, Call.operands]; simp at hu; simp [hu])
      | _ => rfl
    | _ => rfl
  | _ => simp [opP]

theorem opQ_congr {im : Bool} {mem : Mem} {rd rd' : Operand → Option SV} {op : Op} (h : ∀ u ∈ op.operands, rd u = rd' u) : opQ P im mem rd op = opQ P im mem rd' op := by
  cases op with
  | build t parts =>
    simp only [opQ]
    rw [rdParts_congr fun p hp => h p.2 (by simp [Op.operands]; exact ⟨_, hp⟩)]
  | makeSlice t l c => simp [opQ, h l (by simp [Op.operands]), h c (by simp [Op.operands])]
  | buildSlice t n parts =>
    simp only [opQ]
    rw [rdParts_congr fun p hp => h p.2 (by simp [Op.operands]; exact ⟨_, hp⟩)]
  | convert s d x =>
    simp only [opQ]
    rw [h x (by simp [Op.operands]), opP_congr h]
  | _ => simp only [opQ]; exact opP_congr h

theorem conds_congr {K K' : Know} {G : Bool} : ∀ {us : List Operand}, (∀ u ∈ us, rdK K G u = rdK K' G u) → conds K G us = conds K' G us
  | [], _ => rfl
  | u :: us, h => by
    simp only [conds, rdC]
    rw [h u (by simp), conds_congr fun v hv => h v (by simp [hv])]

theorem rdK_congr {K K' : Know} {G : Bool} {u : Operand} (h : ∀ t, u = .tmp t → K.slots t = K'.slots t) : rdK K G u = rdK K' G u := by
  cases u with
  | tmp t => simp [rdK, h t rfl]
  | _ => rfl

/-! ### More memory -/
theorem loadF_mono {m m' : Mem} (hm : MemLe m m') {t : TypeId} {s : SV} {q : Prop × SV} (h : loadF P m t s = some q) : loadF P m' t s = some q := by
  unfold loadF at h ⊢
  split at h
  · rename_i b off
    cases hb : m b with
    | live t cs => rw [hb] at h; rw [hm b _ _ hb]; exact h
    | _ => rw [hb] at h; cases h
  · exact h
  · cases h
theorem fieldAddrF_mono {m m' : Mem} (hm : MemLe m m') {t : TypeId} {f : Nat} {s : SV} {q : Prop × SV} (h : fieldAddrF P m t f s = some q) : fieldAddrF P m' t f s = some q := by
  unfold fieldAddrF at h ⊢
  split at h
  · split at h
    · cases h
    · rename_i o l hl
      cases s with
      | loc b off =>
        cases hb : m b with
        | live t cs => simp only [hb] at h; simp only [hm b _ _ hb]; exact h
        | _ => simp only [hb] at h; cases h
      | d x => cases x <;> exact h
      | _ => exact h
    · cases h
  · cases h
theorem indexAddrF_mono {m m' : Mem} (hm : MemLe m m') {t : TypeId} {s i : SV} {q : Prop × SV} (h : indexAddrF P m t s i = some q) : indexAddrF P m' t s i = some q := by
  unfold indexAddrF at h ⊢
  split at h
  · split at h
    · cases s with
      | own b wd off len c =>
        cases hb : m b with
        | live t cs => simp only [hb] at h; simp only [hm b _ _ hb]; exact h
        | _ => simp only [hb] at h; cases h
      | d x => cases x <;> exact h
      | _ => exact h
    · cases s with
      | loc b off =>
        cases hb : m b with
        | live t cs => simp only [hb] at h; simp only [hm b _ _ hb]; exact h
        | _ => simp only [hb] at h; cases h
      | d x => cases x <;> exact h
      | _ => exact h
    · cases h
  · cases h
theorem lenF_mono {m m' : Mem} (hm : MemLe m m') {s : SV} {q : Nat} (h : lenF m s = some q) : lenF m' s = some q := by
  cases s with
  | own b wd off len c =>
    simp only [lenF] at h ⊢
    cases hb : m b with
    | live t cs => simp only [hb] at h; simp only [hm b _ _ hb]; exact h
    | _ => simp only [hb] at h; cases h
  | d x => cases x <;> exact h
  | _ => exact h
theorem sliceF_mono {m m' : Mem} (hm : MemLe m m') {t : TypeId} {s : SV} {lo hi mx : Option SV} {q : Prop × SV} (h : sliceF P m t s lo hi mx = some q) : sliceF P m' t s lo hi mx = some q := by
  cases s with
  | own b wd off len c =>
    simp only [sliceF] at h ⊢
    cases hb : m b with
    | live t cs => simp only [hb] at h; simp only [hm b _ _ hb]; exact h
    | _ => simp only [hb] at h; split at h <;> simp_all
  | loc b off =>
    simp only [sliceF] at h ⊢
    cases hb : m b with
    | live t cs => simp only [hb] at h; simp only [hm b _ _ hb]; exact h
    | _ => simp only [hb] at h; split at h <;> simp_all
  | d x => cases x <;> exact h
  | _ => exact h
theorem convF_mono {m m' : Mem} (hm : MemLe m m') {t d : TypeId} {s : SV} {q : Prop × SV} (h : convF P m t d s = some q) : convF P m' t d s = some q := by
  unfold convF at h ⊢
  cases s with
  | own b wd off len c =>
    have ho : ∀ q, ownCells m b wd off len = some q → ownCells m' b wd off len = some q := fun q hq => by
      unfold ownCells at hq ⊢
      cases hb : m b with
      | live t cs => simp only [hb] at hq; simp only [hm b _ _ hb]; exact hq
      | _ => simp only [hb] at hq; cases hq
    cases hd : tk P d with
    | str =>
      simp only [hd] at h ⊢
      split at h
      · split at h
        · rename_i hu
          rw [if_pos hu]
          cases hc : ownCells m b wd off len with
          | none => simp only [hc] at h; cases h
          | some cells => simp only [hc] at h; simp only [ho _ hc]; exact h
        · cases h
      · cases h
    | _ => simp only [hd] at h; cases h
  | d x => cases hd : tk P d <;> cases x <;> simp only [hd] at h ⊢ <;> first | exact h | cases h
  | _ => cases hd : tk P d <;> simp only [hd] at h ⊢ <;> first | exact h | cases h
theorem solid_mono {m m' : Mem} (hm : MemLe m m') {s : SV} (h : solid m s = true) : solid m' s = true := by
  cases s with
  | own b wd off len c =>
    simp only [solid] at h ⊢
    cases hb : m b with
    | live t cs => simp only [hm b _ _ hb]
    | _ => simp only [hb] at h; cases h
  | loc b off =>
    simp only [solid] at h ⊢
    cases hb : m b with
    | live t cs => simp only [hm b _ _ hb]
    | _ => simp only [hb] at h; cases h
  | mp b =>
    simp only [solid] at h ⊢
    cases hb : m b with
    | mp es => simp only [hm.mp b _ hb]
    | _ => simp only [hb] at h; cases h
  | _ => exact h
theorem all_solid_mono {m m' : Mem} (hm : MemLe m m') {l : List SV} (h : l.all (solid m) = true) : l.all (solid m') = true := by
  rw [List.all_eq_true] at h ⊢
  exact fun x hx => solid_mono hm (h x hx)
theorem parts_solid_mono {m m' : Mem} (hm : MemLe m m') {l : List (Nat × SV)} (h : (l.all fun p => solid m p.2) = true) : (l.all fun p => solid m' p.2) = true := by
  rw [List.all_eq_true] at h ⊢
  exact fun x hx => solid_mono hm (h x hx)
theorem buildF_mono {m m' : Mem} (hm : MemLe m m') {t : TypeId} {ps : List (Nat × SV)} {q : Prop × SV} (h : buildF P m t ps = some q) : buildF P m' t ps = some q := by
  unfold buildF at h ⊢
  split at h
  · split at h
    · rename_i hc
      rw [Bool.and_eq_true] at hc
      rw [if_pos (by rw [Bool.and_eq_true]; exact ⟨hc.1, parts_solid_mono hm hc.2⟩)]
      exact h
    · cases h
  · cases h
theorem litCells_mono {m m' : Mem} (hm : MemLe m m') {t : TypeId} {n : Nat} {ps : List (Nat × SV)} {q : EK × List SV} (h : litCells P m t n ps = some q) : litCells P m' t n ps = some q := by
  unfold litCells at h ⊢
  split at h
  · split at h
    · split at h
      · rename_i hc
        rw [Bool.and_eq_true] at hc
        rw [if_pos (by rw [Bool.and_eq_true]; exact ⟨parts_solid_mono hm hc.1, hc.2⟩)]
        split at h
        · split at h
          · rename_i hc
            rw [Bool.and_eq_true] at hc
            rw [if_pos (by rw [Bool.and_eq_true]; exact ⟨hc.1, all_solid_mono hm hc.2⟩)]
            exact h
          · cases h
        · cases h
      · cases h
    · cases h
  · cases h
theorem litF_mono {m m' : Mem} (hm : MemLe m m') {t : TypeId} {n : Nat} {ps : List (Nat × SV)} {q : Prop × SV} (h : litF P m t n ps = some q) : litF P m' t n ps = some q := by
  unfold litF at h ⊢
  split at h
  · rename_i hl
    rw [litCells_mono hm hl]; exact h
  · cases h

theorem lookF_mono {m m' : Mem} (hm : MemLe m m') {t : TypeId} {ok : Bool} {s i : SV} {q : Prop × SV} (h : lookF P m t ok s i = some q) : lookF P m' t ok s i = some q := by
  unfold lookF at h ⊢
  split at h
  · split at h
    · exact h
    · exact h
    · rename_i b
      split at h
      · rename_i es hb
        rw [hm.mp _ _ hb]
        exact h
      · cases h
    · cases h
  · cases h
theorem nilM_mono {m m' : Mem} (hm : MemLe m m') {s : SV} {b : Bool} (h : nilM m s = some b) : nilM m' s = some b := by
  unfold nilM at h ⊢
  split at h
  · exact h
  · exact h
  · split at h
    · rename_i es hb
      rw [hm.mp _ _ hb]
      exact h
    · cases h
  · cases h
theorem mapEqF_mono {m m' : Mem} (hm : MemLe m m') {op : BinOp} {t : TypeId} {s : SV} {q : Prop × SV} (h : mapEqF P m op t s = some q) : mapEqF P m' op t s = some q := by
  unfold mapEqF at h ⊢
  cases hn : nilM m s with
  | none => rw [hn] at h; simp at h
  | some b => rw [nilM_mono hm hn]; rw [hn] at h; exact h
theorem lenM_mono {m m' : Mem} (hm : MemLe m m') {s : SV} {n : Nat} (h : lenM m s = some n) : lenM m' s = some n := by
  unfold lenM at h ⊢
  split at h
  · exact h
  · exact h
  · split at h
    · rename_i es hb
      rw [hm.mp _ _ hb]
      exact h
    · cases h
  · cases h
theorem opP_mono {m m' : Mem} (hm : MemLe m m') {rd : Operand → Option SV} {op : Op} {q : Prop × SV} (h : opP P m rd op = some q) : opP P m' rd op = some q := by
  cases op with
  | load t x => simp only [opP, Option.bind_eq_some_iff] at h ⊢; obtain ⟨s, h1, h2⟩ := h; exact ⟨s, h1, loadF_mono hm h2⟩
  | fieldAddr t x f => simp only [opP, Option.bind_eq_some_iff] at h ⊢; obtain ⟨s, h1, h2⟩ := h; exact ⟨s, h1, fieldAddrF_mono hm h2⟩
  | indexAddr t x i => simp only [opP, Option.bind_eq_some_iff] at h ⊢; obtain ⟨s, h1, j, h2, h3⟩ := h; exact ⟨s, h1, j, h2, indexAddrF_mono hm h3⟩
  | slice t x lo hi mx => simp only [opP, Option.bind_eq_some_iff] at h ⊢; obtain ⟨s, h1, a, h2, b, h3, c, h4, h5⟩ := h; exact ⟨s, h1, a, h2, b, h3, c, h4, sliceF_mono hm h5⟩
  | convert s d x => simp only [opP, Option.bind_eq_some_iff] at h ⊢; obtain ⟨s, h1, h2⟩ := h; exact ⟨s, h1, convF_mono hm h2⟩
  | call c =>
    obtain ⟨callee, args, ts⟩ := c
    cases callee with
    | builtin bi =>
      cases bi with
      | len =>
        simp only [opP] at h ⊢
        split at h
        · split at h
          · exact h
          · simp only [Option.map_eq_some_iff, Option.bind_eq_some_iff] at h ⊢
            obtain ⟨n, ⟨s, h1, h2⟩, h3⟩ := h
            exact ⟨n, ⟨s, h1, lenF_mono hm h2⟩, h3⟩
          · exact h
          · split at h
            · simp only [Option.map_eq_some_iff, Option.bind_eq_some_iff] at h ⊢
              obtain ⟨n, ⟨s, h1, h2⟩, h3⟩ := h
              exact ⟨n, ⟨s, h1, lenM_mono hm h2⟩, h3⟩
            · cases h
          · cases h
        · cases h
      | _ => exact h
    | _ => exact h
  | makeFunc f first cap => cases f <;> exact h
  | lookup t x i ok => simp only [opP, Option.bind_eq_some_iff] at h ⊢; obtain ⟨s, h1, j, h2, h3⟩ := h; exact ⟨s, h1, j, h2, lookF_mono hm h3⟩
  | binOp op t x y u =>
    simp only [opP] at h ⊢
    split at h
    · rename_i hn
      rw [if_pos hn]
      rw [Option.bind_eq_some_iff] at h ⊢
      obtain ⟨s, h1, h2⟩ := h
      exact ⟨s, h1, mapEqF_mono hm h2⟩
    · rename_i hn
      rw [if_neg hn]; exact h
  | _ => exact h

theorem opQ_mono {im : Bool} {m m' : Mem} (hm : MemLe m m') {rd : Operand → Option SV} {op : Op} {q : Prop × SV} (h : opQ P im m rd op = some q) : opQ P im m' rd op = some q := by
  cases op with
  | build t parts => simp only [opQ, Option.bind_eq_some_iff] at h ⊢; obtain ⟨s, h1, h2⟩ := h; exact ⟨s, h1, buildF_mono hm h2⟩
  | makeSlice t l c => exact h
  | buildSlice t n parts =>
    simp only [opQ] at h ⊢
    split at h
    · rename_i e
      rw [if_pos e]
      simp only [Option.bind_eq_some_iff] at h ⊢; obtain ⟨s, h1, h2⟩ := h; exact ⟨s, h1, litF_mono hm h2⟩
    · cases h
  | convert s d x =>
    simp only [opQ] at h ⊢
    split at h
    · exact h
    · exact opP_mono hm h
  | _ => simp only [opQ] at h ⊢; exact opP_mono hm h

/-- Memory is not looked at. -/
def memFree : Op → Bool
  | .binOp _ _ _ y _ => !isNilMap y
  | .move _ | .assign _ | .field _ _ _ | .index _ _ _ | .unOp _ _ _ | .extract _ _ | .makeInterface _ _ | .makeFunc _ _ _ | .makeSlice _ _ _ | .pick _ _ _ => true
  | _ => false

theorem opQ_free {im : Bool} {m m' : Mem} {rd : Operand → Option SV} {op : Op} (h : memFree op = true) : opQ P im m rd op = opQ P im m' rd op := by
  cases op with
  | makeFunc f a b => cases f <;> rfl
  | binOp op t x y u =>
    simp only [memFree, Bool.not_eq_true'] at h
    simp only [opQ, opP, h, Bool.false_eq_true, if_false]
  | _ => first | (cases h; done) | rfl

theorem quietF_congr {im : Bool} {K K' : Know} {G : Bool} {op : Op} {q : Prop × SV} (hs : ∀ t, .tmp t ∈ op.operands → K'.slots t = K.slots t) (hm : memFree op = true ∨ MemLe K.mem K'.mem)
    (h : quietF P im K G op = some q) : quietF P im K' G op = some q := by
  have hrd : ∀ (G : Bool) (u), u ∈ op.operands → rdK K G u = rdK K' G u := fun G u hu => rdK_congr fun t e => (hs t (e ▸ hu)).symm
  have base : ∀ (vc : Prop) s, opQ P im K.mem (rdS K G) op = some (vc, s) → opQ P im K'.mem (rdS K' G) op = some (vc, s) := fun vc s h => by
    rw [opQ_congr (rd := rdS K' G) (rd' := rdS K G) fun u hu => by simp only [rdS, hrd G u hu]]
    rcases hm with hf | hm
    · rw [← h]; exact opQ_free hf
    · exact opQ_mono hm h
  have hc : conds K G op.operands.toList = conds K' G op.operands.toList := conds_congr fun u hu => hrd G u (by simpa using hu)
  unfold quietF at h ⊢
  split at h
  · rename_i c a b
    simp only [Op.operands] at hrd
    unfold pickF at h ⊢
    rw [← hrd G c (by simp)]
    split at h
    · rename_i pc cb hcb
      rw [← hrd _ a (by simp), ← hrd _ b (by simp)]
      exact h
    · cases h
  · split at h
    · rename_i vc s hq
      rw [base vc s hq]
      simp only [Option.some.injEq] at h ⊢
      rw [← h, hc]
    · cases h

end Go.Bf

/-
  Regions that draw their order. Part 2: one order serves. Nothing is claimed here.
-/
namespace Go.Bf
open Go Go.RowKit
variable {P : Program} {r : Option Nat}

theorem rdL_congr {rd rd' : Operand → Option SV} : ∀ {us : List Operand}, (∀ u ∈ us, rd u = rd' u) → rdL rd us = rdL rd' us
  | [], _ => rfl
  | u :: us, h => by
    simp only [rdL]
    rw [h u (by simp), rdL_congr fun v hv => h v (by simp [hv])]

theorem callF_congr {rd rd' : Operand → Option SV} {op : Op} (h : ∀ u ∈ op.operands, rd u = rd' u) : callF rd op = callF rd' op := by
  cases op with
  | call c =>
    obtain ⟨callee, args, ts⟩ := c
    cases callee with
    | value g =>
      simp only [callF]
      rw [h g (by simp [Op.operands, Call.operands]), rdL_congr fun u hu => h u (by simp [Op.operands, Call.operands]; right; simpa using hu)]
    | _ => rfl
  | _ => rfl

/-- What an operation that turns no memory yields: a quiet one, or a call of data to data. -/
def Val (P : Program) (im : Bool) (ops : Array Oper) (K : Know) (o : Oper) (s : SV) : Prop :=
  ∃ G, guardG K ops o = some G ∧ dstOk K o.dst ∧ ∃ s0, s = mkc o.guard G s0 ∧
    match opClass im o.op with
    | .quiet => ∃ vc, quietF P im K G o.op = some (vc, s0) ∧ (G = true → vc)
    | .call => ∃ f ss ds d, callF (rdS K G) o.op = some (f, ss) ∧ (G = true → conds K G o.op.operands.toList) ∧ Enters P f ∧ toDs ss = some ds ∧ (G = true → FnWp P f ds (· = .ret d)) ∧ s0 = .d d
    | .mem => False

def free (im : Bool) (op : Op) : Bool := memFree op || (match opClass im op with | .call => true | _ => false)

theorem looks_op {ops : Array Oper} {o : Oper} {t : Nat} (h : .tmp t ∈ o.op.operands) : t ∈ o.looksAt ops := by
  unfold Oper.looksAt
  exact List.mem_append_left _ (List.mem_filterMap.2 ⟨.tmp t, by simpa using h, rfl⟩)
theorem looks_guard {ops : Array Oper} {o : Oper} {j : Nat} {w : Bool} {t : Nat} (hg : o.guard = some (j, w)) (h : (ops[j]?).bind (·.dst) = some t) : t ∈ o.looksAt ops := by
  unfold Oper.looksAt
  rw [hg]
  simp [h]

theorem guardG_congr {K K' : Know} {ops : Array Oper} {o : Oper} (h : ∀ t ∈ o.looksAt ops, K'.slots t = K.slots t) : guardG K' ops o = guardG K ops o := by
  unfold guardG
  split
  · rfl
  · rename_i j w hg
    split
    · rfl
    · rename_i t ht
      rw [h t (looks_guard hg ht)]

theorem dstOk_n {K K' : Know} (hn : K'.n = K.n) (hf : K'.fro = K.fro) {d : Option Nat} (h : dstOk K d) : dstOk K' d := by
  cases d with
  | none => trivial
  | some d => simp only [dstOk] at h ⊢; rw [hn, hf]; exact h

theorem Val.stable {im : Bool} {ops : Array Oper} {K K' : Know} {o : Oper} {s : SV} (hv : Val P im ops K o s) (hn : K'.n = K.n) (hfr : K'.fro = K.fro) (hs : ∀ t ∈ o.looksAt ops, K'.slots t = K.slots t) (hm : free im o.op = true ∨ MemLe K.mem K'.mem) :
    Val P im ops K' o s := by
  obtain ⟨G, h1, h2, s0, h3, h4⟩ := hv
  have hrd : ∀ G u, u ∈ o.op.operands → rdK K' G u = rdK K G u := fun G u hu => rdK_congr fun t e => hs t (looks_op (e ▸ hu))
  refine ⟨G, (guardG_congr hs).trans h1, ?_, s0, h3, ?_⟩
  · exact dstOk_n hn hfr h2
  · split at h4
    · rename_i hc
      obtain ⟨vc, g1, g2⟩ := h4
      refine ⟨vc, quietF_congr (fun t ht => hs t (looks_op ht)) ?_ g1, g2⟩
      rcases hm with hm | hm
      · unfold free at hm; rw [hc] at hm; simp only [Bool.or_false] at hm; exact .inl hm
      · exact .inr hm
    · obtain ⟨f, ss, ds, d, g1, g2, g3, g4, g5, g6⟩ := h4
      refine ⟨f, ss, ds, d, ?_, fun hG => ?_, g3, g4, g5, g6⟩
      · rw [callF_congr (rd' := rdS K G) fun u hu => by simp only [rdS, hrd G u hu]]; exact g1
      · rw [conds_congr (K' := K) fun u hu => hrd G u (by simpa using hu)]; exact g2 hG
    · exact h4

/-! ### Operations on memory -/
theorem opX_congr {K : Know} {rd rd' : Operand → Option SV} {op : Op} {k : SV → Know → Prop} (h : ∀ u ∈ op.operands, rd u = rd' u) : opX P K rd op k = opX P K rd' op k := by
  cases op with
  | alloc t => rfl
  | box t u => simp only [opX, opM]; rw [h u (by simp [Op.operands])]
  | store t u v => simp only [opX, opM]; rw [h u (by simp [Op.operands]), h v (by simp [Op.operands])]
  | makeSlice t l c => simp only [opX, opM]; rw [h l (by simp [Op.operands]), h c (by simp [Op.operands])]
  | makeMap t r => cases r <;> simp only [opX, opM]; rw [h _ (by simp [Op.operands])]
  | mapUpdate t m i v => simp only [opX, opM]; rw [h m (by simp [Op.operands]), h i (by simp [Op.operands]), h v (by simp [Op.operands])]
  | buildSlice t n parts => simp only [opX, opM]; rw [rdParts_congr fun p hp => h p.2 (by simp [Op.operands]; exact ⟨_, hp⟩)]
  | call c =>
    obtain ⟨callee, args, ts⟩ := c
    cases callee with
    | builtin bi =>
      cases bi with
      | append =>
        simp only [opX, opA]
        split
        · rename_i u v t t' e1 e2
          have hu : u ∈ args := by rw [← Array.mem_toList_iff, e1]; simp
          have hv : v ∈ args := by rw [← Array.mem_toList_iff, e1]; simp
          rw [h u (by simp [Op.operands, Call.operands, hu]), h v (by simp [Op.operands, Call.operands, hv])]
        · rfl
      | copy =>
        simp only [opX, opC]
        split
        · rename_i u v t t' e1 e2
          have hu : u ∈ args := by rw [← Array.mem_toList_iff, e1]; simp
          have hv : v ∈ args := by rw [← Array.mem_toList_iff, e1]; simp
          rw [h u (by simp [Op.operands, Call.operands, hu]), h v (by simp [Op.operands, Call.operands, hv])]
        · rfl
      | clear =>
        simp only [opX, opZ]
        split
        · rename_i u t e1 e2
          have hu : u ∈ args := by rw [← Array.mem_toList_iff, e1]; simp
          rw [h u (by simp [Op.operands, Call.operands, hu])]
        · rfl
      | _ => rfl
    | _ => rfl
  | _ => rfl

/-- What turns memory looks not at the slots but through its operands. -/
theorem opX_put {K : Know} {rd : Operand → Option SV} {op : Op} {k : SV → Know → Prop} (d : Option Nat) (s0 : SV) : opX P (K.put d s0) rd op k = opX P K rd op fun s K' => k s (K'.put d s0) := by
  cases d <;> rfl

/-- One operation, any of those that are told apart here. -/
def StepG (P : Program) (im : Bool) (ops : Array Oper) (o : Oper) (k : Know → Prop) (K : Know) : Prop :=
  (∃ s, Val P im ops K o s ∧ k (K.put o.dst s)) ∨
  (opClass im o.op = .mem ∧ guardG K ops o = some true ∧ dstOk K o.dst ∧ conds K true o.op.operands.toList ∧ opX P K (rdS K true) o.op fun s K' => k (K'.put o.dst s))

theorem StepG.vc {im : Bool} {ops : Array Oper} {o : Oper} {k : Know → Prop} {Q : XE → Know → Prop} {K : Know} (h : StepG P im ops o k K) : VCops P r im ops (thenX k Q) [o] K := by
  rcases h with ⟨s, ⟨G, h1, h2, s0, rfl, h4⟩, hk⟩ | ⟨h0, h1, h2, h3, h4⟩
  · simp only [VCops, h1]
    cases hc : opClass im o.op with
    | quiet =>
      rw [hc] at h4
      obtain ⟨vc, g1, g2⟩ := h4
      simp only [g1]
      exact ⟨h2, g2, hk⟩
    | mem => rw [hc] at h4; exact h4.elim
    | call =>
      rw [hc] at h4
      obtain ⟨f, ss, ds, d, g1, g2, g3, g4, g5, rfl⟩ := h4
      simp only [g1]
      refine ⟨h2, g2, ?_⟩
      split
      · rename_i hg
        have hGt : G = true := by unfold guardG at h1; rw [hg] at h1; cases h1; rfl
        refine CallAt.det im g3 g4 (g5 hGt) ?_
        rw [hg] at hk
        exact hk
      · rename_i gg hg
        refine CallAtG.det im g3 g4 g5 ?_
        rw [hg] at hk
        exact hk
  · simp only [VCops, h1, h0]
    exact ⟨trivial, h2, h3, h4⟩

theorem StepG.mono {im : Bool} {ops : Array Oper} {o : Oper} {k k' : Know → Prop} {K : Know} (h : StepG P im ops o k K) (hk : ∀ K, k K → k' K) (hX : ∀ {K rd op} {k k' : SV → Know → Prop}, (∀ s K, k s K → k' s K) → opX P K rd op k → opX P K rd op k') : StepG P im ops o k' K := by
  rcases h with ⟨s, hv, h⟩ | ⟨h0, h1, h2, h3, h4⟩
  · exact .inl ⟨s, hv, hk _ h⟩
  · exact .inr ⟨h0, h1, h2, h3, hX (fun s K' h => hk _ h) h4⟩

end Go.Bf

/-
  Regions that draw their order. Part 3: a plan of the order serves for all orders. Nothing is claimed here.
-/
namespace Go.Bf
open Go Go.RowKit
variable {P : Program} {r : Option Nat}

/-- One order after the other. -/
def AnyV (P : Program) (im : Bool) (ops : Array Oper) (Q : XE → Know → Prop) : Nat → Array Bool → Know → Prop
  | 0, listed, K => Region.ready .any ops listed = [] ∧ Q .normal K
  | n + 1, listed, K => (Region.ready .any ops listed = [] → Q .normal K) ∧
    ∀ i ∈ Region.ready .any ops listed, ∃ o, ops[i]? = some o ∧ StepG P im ops o (AnyV P im ops Q n (listed.setIfInBounds i true)) K

theorem wpIn_conv {o : Oper} {F : Fence} {n : Nat} {a : Act} {w : World} {K K' : Act → World → Prop} {Q Q' : Exit → Act → World → Prop} (hK : ∀ a w, K a w → K' a w) (hQ : ∀ e a w, e ≠ .normal → Q e a w → Q' e a w)
    (h : o.wpIn F n P a w K Q) : o.wpIn F n P a w K' Q' := by
  unfold Oper.wpIn at h ⊢
  refine ⟨h.1, ?_⟩
  have h2 := h.2
  generalize (o.semAt F.round a.eval).run P w = res at h2 ⊢
  cases res with
  | ok nx w' =>
    cases nx <;> simp only [Oper.uponIn] at h2 ⊢ <;> first
      | exact hK _ _ h2
      | exact hQ _ _ _ (by simp) h2
      | exact h2
      | exact ⟨h2.1, CallsIn.mono h2.2 (fun e w'' he => by
          cases e with
          | returned v => exact hK _ _ he
          | panicked ch => exact hQ _ _ _ (by simp) he
          | outgrown => obtain ⟨a0, w0, hp⟩ := he; exact ⟨a0, w0, hQ _ _ _ (by simp) hp⟩)⟩
      | exact ⟨h2.1, RowsIn.mono h2.2 (fun _ _ he => hK _ _ he)⟩
      | exact ⟨h2.1, RoundIn.mono h2.2 (fun e w'' he => by
          cases e with
          | returned v => exact hK _ _ he
          | panicked ch => exact hQ _ _ _ (by simp) he
          | outgrown => obtain ⟨a0, w0, hp⟩ := he; exact ⟨a0, w0, hQ _ _ _ (by simp) hp⟩)⟩
  | halt hh w' => cases hh <;> simp only [Oper.uponIn] at h2 ⊢ <;> first | exact hQ _ _ _ (by simp) h2 | exact h2

theorem AnyV.sound {im : Bool} {ops : Array Oper} {Q : XE → Know → Prop} : ∀ (fuel : Nat) (listed : Array Bool) (K : Know), AnyV P im ops Q fuel listed K → ∀ (x0 x : Ctx) (a : Act) (w : World), x0.ext x → Models x K a w →
    wpAnyIn (FW r) 0 P .any ops (Post x0 Q) fuel listed a w := by
  intro fuel
  induction fuel with
  | zero =>
    intro listed K h x0 x a w hx hm
    exact ⟨h.1, x, K, .normal, hx, trivial, hm, h.2⟩
  | succ fuel ih =>
    intro listed K h x0 x a w hx hm
    refine ⟨fun hr => ⟨x, K, .normal, hx, trivial, hm, h.1 hr⟩, fun i hi => ?_⟩
    obtain ⟨o, ho, hs⟩ := h.2 i hi
    have hv := VCops_sound (r := r) _ _ (StepG.vc (r := r) (Q := Q) hs) x a w hm
    unfold wpOpIn
    simp only [ho]
    simp only [opsL] at hv
    have next : ∀ a' w', Post x (thenX (AnyV P im ops Q fuel (listed.setIfInBounds i true)) Q) .normal a' w' → wpAnyIn (FW r) 0 P .any ops (Post x0 Q) fuel (listed.setIfInBounds i true) a' w' := fun a' w' hp => by
      obtain ⟨y, K', xe, h1, h2, h3, h4⟩ := hp
      cases xe <;> first | exact h2.elim | skip
      exact ih _ _ h4 x0 y a' w' (Ctx.ext_trans hx h1) h3
    split
    · rename_i hw
      rw [if_pos hw] at hv
      refine wpIn_conv next ?_ hv
      rintro e a' w' hne ⟨y, K', xe, h1, h2, h3, h4⟩
      refine ⟨y, K', xe, Ctx.ext_trans hx h1, h2, h3, ?_⟩
      cases xe with
      | normal => cases e <;> first | exact absurd rfl hne | exact h2.elim
      | _ => exact h4
    · rename_i hw
      rw [if_neg hw] at hv
      exact ⟨fun _ _ => about_wide, next _ _ hv⟩

/-! ### What may be taken first -/
def waits (ops : Array Oper) (i : Nat) : Nat → Nat → Bool
  | 0, _ => false
  | n + 1, j => match ops[j]? with
    | none => false
    | some o => (o.after.any fun e => Region.binds .any e && e.on == i) || o.after.any fun e => Region.binds .any e && waits ops i n e.on

def Closed (ops : Array Oper) (listed : Array Bool) : Prop := ∀ (k : Nat) o, ops[k]? = some o → listed.getD k false = true → ∀ e ∈ o.after, Region.binds .any e = true → listed.getD e.on false = true

theorem waits_listed {ops : Array Oper} {listed : Array Bool} {i : Nat} (hc : Closed ops listed) : ∀ (n j : Nat), waits ops i n j = true →
    (∀ o, ops[j]? = some o → ∀ e ∈ o.after, Region.binds .any e = true → listed.getD e.on false = true) → listed.getD i false = true := by
  intro n
  induction n with
  | zero => intro j h; cases h
  | succ n ih =>
    intro j h hj
    simp only [waits] at h
    split at h
    · cases h
    · rename_i o ho
      rw [Bool.or_eq_true, Array.any_eq_true', Array.any_eq_true'] at h
      rcases h with ⟨e, he, hb⟩ | ⟨e, he, hb⟩
      · rw [Bool.and_eq_true, beq_iff_eq] at hb
        have hl := hj o ho e he hb.1
        rw [← hb.2]; exact hl
      · rw [Bool.and_eq_true] at hb
        have hl := hj o ho e he hb.1
        exact ih e.on hb.2 fun o' ho' => hc _ o' ho' hl

def indep (im : Bool) (ops : Array Oper) (x y : Oper) : Bool := x.apart ops y && (free im x.op || (match opClass im y.op with | .mem => allocOnly y.op | _ => true))

def freeB (im : Bool) (ops : Array Oper) (listed : Array Bool) (i : Nat) : Bool :=
  match ops[i]? with
  | none => false
  | some o => (List.range ops.size).all fun j => match ops[j]? with
    | none => true
    | some oj => j == i || listed.getD j true || indep im ops o oj || waits ops i ops.size j

theorem freeB_spec {im : Bool} {ops : Array Oper} {listed : Array Bool} {i : Nat} {oi : Oper} (hi : ops[i]? = some oi) (h : freeB im ops listed i = true) :
    ∀ (j : Nat) oj, ops[j]? = some oj → j ≠ i → listed.getD j true = false → waits ops i ops.size j = false → indep im ops oi oj = true := fun j oj hj hne hl hw => by
  unfold freeB at h
  rw [hi] at h
  simp only [List.all_eq_true, List.mem_range] at h
  have := h j (Array.getElem?_eq_some_iff.1 hj).1
  rw [hj] at this
  simp only [Bool.or_eq_true, beq_iff_eq] at this
  rcases this with ((h1 | h1) | h1) | h1
  · exact absurd h1 hne
  · rw [hl] at h1; cases h1
  · exact h1
  · rw [hw] at h1; cases h1

theorem closed_set {ops : Array Oper} {listed : Array Bool} {i : Nat} (hc : Closed ops listed) (hi : i ∈ Region.ready .any ops listed) : Closed ops (listed.setIfInBounds i true) := fun k o hk hl e he hb => by
  by_cases hik : i = k
  · subst hik
    obtain ⟨_, o', ho', hall⟩ := mem_ready.1 hi
    rw [hk] at ho'; cases ho'
    exact getD_set_true (hall e he hb)
  · rw [getD_set_ne false hik] at hl
    exact getD_set_true (hc k o hk hl e he hb)

theorem put_put {K : Know} {d d' : Option Nat} {s s' : SV} (h : ∀ x, d = some x → d' ≠ some x) : (K.put d s).put d' s' = (K.put d' s').put d s := by
  cases d with
  | none => cases d' <;> rfl
  | some i =>
    cases d' with
    | none => rfl
    | some j =>
      simp only [Know.put]
      congr 1
      exact put_comm _ _ _ (fun e => h i rfl (by rw [e]))

theorem slots_put {K : Know} {d : Option Nat} {s : SV} {t : Nat} (h : d ≠ some t) : (K.put d s).slots t = K.slots t := by
  cases d with
  | none => rfl
  | some i =>
    simp only [Know.put, Bf.put]
    rw [if_neg (fun e => h (by rw [e]))]

theorem mem_put {K : Know} {d : Option Nat} {s : SV} : (K.put d s).mem = K.mem := by cases d <;> rfl
theorem n_put {K : Know} {d : Option Nat} {s : SV} : (K.put d s).n = K.n := by cases d <;> rfl
theorem fro_put {K : Know} {d : Option Nat} {s : SV} : (K.put d s).fro = K.fro := by cases d <;> rfl
theorem nx_put {K : Know} {d : Option Nat} {s : SV} : (K.put d s).nx = K.nx := by cases d <;> rfl
theorem fr_put {K : Know} {d : Option Nat} {s : SV} (h : Fr K) : Fr (K.put d s) := by unfold Fr; rw [mem_put, nx_put]; exact h

/-- An operation that is apart: it makes no difference to it that the other one has been carried out. -/
theorem StepG.swap {im : Bool} {ops : Array Oper} {oi oj : Oper} {s : SV} {k : Know → Prop} {K : Know} (hind : indep im ops oi oj = true) (hf : Fr K) (hv : Val P im ops K oi s) (h : StepG P im ops oj k (K.put oi.dst s)) :
    StepG P im ops oj (fun K' => Fr K' ∧ Val P im ops K' oi s ∧ k (K'.put oi.dst s)) K := by
  unfold indep at hind
  rw [Bool.and_eq_true] at hind
  obtain ⟨h1, h2, h3⟩ := Oper.apart_spec hind.1
  have hback : ∀ t ∈ oj.looksAt ops, K.slots t = (K.put oi.dst s).slots t := fun t ht => (slots_put fun e => h1 t e ht).symm
  have hrd : ∀ G u, u ∈ oj.op.operands → rdK (K.put oi.dst s) G u = rdK K G u := fun G u hu => rdK_congr fun t e => (hback t (looks_op (e ▸ hu))).symm
  rcases h with ⟨sj, hvj, hk⟩ | ⟨g0, g1, g2, g3, g4⟩
  · refine .inl ⟨sj, hvj.stable (n_put.symm) (fro_put.symm) (fun t ht => hback t ht) (.inr (by rw [mem_put]; exact ⟨fun _ _ _ h => h, fun _ _ h => h⟩)), fr_put hf, ?_, ?_⟩
    · exact hv.stable n_put fro_put (fun t ht => slots_put fun e => h3 t e ht) (.inr (by rw [mem_put]; exact ⟨fun _ _ _ h => h, fun _ _ h => h⟩))
    · rw [← put_put h2]; exact hk
  · refine .inr ⟨g0, (guardG_congr hback).trans g1, dstOk_n n_put.symm fro_put.symm g2, ?_, ?_⟩
    · rw [conds_congr (K' := K.put oi.dst s) fun u hu => (hrd true u (by simpa using hu)).symm]; exact g3
    · rw [opX_congr (rd' := rdS (K.put oi.dst s) true) fun u hu => by simp only [rdS, hrd true u hu]]
      rw [opX_put] at g4
      refine opX_kept g4 fun sj K' hkept hk => ⟨fr_put (hkept.fr hf), ?_, ?_⟩
      · refine hv.stable (n_put.trans hkept.n) (fro_put.trans hkept.fro) (fun t ht => (slots_put fun e => h3 t e ht).trans (by rw [hkept.slots])) ?_
        rw [g0, Bool.or_eq_true] at hind
        rcases hind.2 with hfr | hal
        · exact .inl hfr
        · rw [mem_put]; exact .inr (hkept.le hal hf)
      · rw [← put_put h2]; exact hk

theorem StepG.imp {im : Bool} {ops : Array Oper} {o : Oper} {k k' : Know → Prop} {K : Know} (h : StepG P im ops o k K) (hk : ∀ K, k K → k' K) : StepG P im ops o k' K :=
  h.mono hk fun hkk h => opX_kept h fun s K _ => hkk s K

theorem AnyV.first {im : Bool} {ops : Array Oper} {Q : XE → Know → Prop} {i : Nat} {oi : Oper} {s : SV} (hi : ops[i]? = some oi) : ∀ (fuel : Nat) (listed : Array Bool) (K : Know), Fr K → Closed ops listed →
    (∀ (j : Nat) oj, ops[j]? = some oj → j ≠ i → listed.getD j true = false → waits ops i ops.size j = false → indep im ops oi oj = true) →
    i ∈ Region.ready .any ops listed → Val P im ops K oi s → AnyV P im ops Q fuel (listed.setIfInBounds i true) (K.put oi.dst s) → AnyV P im ops Q (fuel + 1) listed K := by
  intro fuel
  induction fuel with
  | zero =>
    intro listed K hf hc hfree hr hv H
    refine ⟨fun h => (by rw [h] at hr; cases hr), fun j hj => ?_⟩
    by_cases hji : j = i
    · subst hji; exact ⟨oi, hi, .inl ⟨s, hv, H⟩⟩
    · have := ready_mono hj hji
      rw [H.1] at this; cases this
  | succ fuel ih =>
    intro listed K hf hc hfree hr hv H
    refine ⟨fun h => (by rw [h] at hr; cases hr), fun j hj => ?_⟩
    by_cases hji : j = i
    · subst hji; exact ⟨oi, hi, .inl ⟨s, hv, H⟩⟩
    · obtain ⟨oj, hoj, hst⟩ := H.2 j (ready_mono hj hji)
      obtain ⟨hjun, oj', hoj', hall⟩ := mem_ready.1 hj
      rw [hoj] at hoj'; cases hoj'
      have hnw : waits ops i ops.size j = false := by
        cases hw : waits ops i ops.size j with
        | false => rfl
        | true =>
          have h1 := waits_listed hc _ j hw fun o' ho' e he hb => by rw [hoj] at ho'; cases ho'; exact hall e he hb
          have h0 := (mem_ready.1 hr).1
          rcases Nat.lt_or_ge i listed.size with h' | h'
          · simp [h'] at h0 h1; rw [h0] at h1; cases h1
          · simp [Array.getElem?_eq_none h'] at h1
      have hind := hfree j oj hoj hji hjun hnw
      refine ⟨oj, hoj, (hst.swap hind hf hv).imp fun K' hK' => ?_⟩
      refine ih _ K' hK'.1 (closed_set hc hj) (fun k ok hk hki hun hno => hfree k ok hk hki ?_ hno) (ready_mono hr (Ne.symm hji)) hK'.2.1 ?_
      · by_cases hjk : j = k
        · subst hjk; exact hjun
        · rw [getD_set_ne true hjk] at hun; exact hun
      · rw [Array.setIfInBounds_comm _ _ hji]; exact hK'.2.2

/-! ### Plans -/
inductive Plan where
  | done
  | take (i : Nat) (p : Plan)
  | two (i j : Nat) (p q : Plan)

def Plan.depth : Plan → Nat
  | .done => 0
  | .take _ p => p.depth + 1
  | .two _ _ p q => max p.depth q.depth + 1

def Plan.of (l : List Nat) (p : Plan) : Plan := l.foldr .take p

def quietC (im : Bool) (op : Op) : Bool := match opClass im op with | .mem => false | _ => true

def planOK (im : Bool) (ops : Array Oper) : Plan → Array Bool → Bool
  | .done, listed => Region.ready .any ops listed == []
  | .take i p, listed => (Region.ready .any ops listed == [i] || ((Region.ready .any ops listed).contains i && freeB im ops listed i && (match ops[i]? with | some o => quietC im o.op | none => false))) && planOK im ops p (listed.setIfInBounds i true)
  | .two i j p q, listed => Region.ready .any ops listed == [i, j] && planOK im ops p (listed.setIfInBounds i true) && planOK im ops q (listed.setIfInBounds j true)

/-- What follows a call is held fixed: it is reckoned only once the call's outcome is known. -/
inductive PTag {α : Type} (k : α) : Type where
  | mk
class KBox (α : Type) where
  k : α
/-- What is sealed is left alone by simp. -/
def Seal {α : Type} [x : KBox α] : α := x.k
/-- A call of data to data. -/
def DetCall (P : Program) (f : FuncId) (ss : List SV) (G : Bool) (k : DV → Prop) (_ : PTag k) : Prop := Enters P f ∧ ∃ ds d, toDs ss = some ds ∧ (G = true → FnWp P f ds (· = .ret d)) ∧ k d
@[congr] theorem DetCall.congr {f : FuncId} {ss ss' : List SV} {G G' : Bool} {k : DV → Prop} {t : PTag k} (h1 : ss = ss') (h2 : G = G') : DetCall P f ss G k t = DetCall P f ss' G' k t := by rw [h1, h2]
theorem DetCall.intro {f : FuncId} {ss : List SV} {ds : List DV} {G : Bool} {k : DV → Prop} {d : DV} (he : Enters P f) (hd : toDs ss = some ds) (h : G = true → FnWp P f ds (· = .ret d)) {t : PTag (@Seal _ ⟨k⟩)} (hk : k d) : DetCall P f ss G (@Seal _ ⟨k⟩) t := ⟨he, ds, d, hd, h, hk⟩

def StepD (P : Program) (im : Bool) (ops : Array Oper) (o : Oper) (k : Know → Prop) (K : Know) : Prop :=
  match guardG K ops o with
  | none => False
  | some G =>
    match opClass im o.op with
    | .call => match callF (rdS K G) o.op with
      | some (f, ss) => dstOk K o.dst ∧ (G = true → conds K G o.op.operands.toList) ∧ DetCall P f ss G (@Seal _ ⟨fun d => k (K.put o.dst (mkc o.guard G (.d d)))⟩) .mk
      | none => False
    | .mem => G = true ∧ dstOk K o.dst ∧ conds K true o.op.operands.toList ∧ opX P K (rdS K true) o.op fun s K' => k (K'.put o.dst s)
    | .quiet => match quietF P im K G o.op with
      | some (vc, s) => dstOk K o.dst ∧ (G = true → vc) ∧ k (K.put o.dst (mkc o.guard G s))
      | none => False

def DrawV (P : Program) (im : Bool) (ops : Array Oper) (Q : XE → Know → Prop) : Plan → Know → Prop
  | .done, K => Q .normal K
  | .take i p, K => match ops[i]? with | some o => StepD P im ops o (DrawV P im ops Q p) K | none => False
  | .two i j p q, K => (match ops[i]? with | some o => StepD P im ops o (DrawV P im ops Q p) K | none => False) ∧ (match ops[j]? with | some o => StepD P im ops o (DrawV P im ops Q q) K | none => False)

theorem StepD.g {im : Bool} {ops : Array Oper} {o : Oper} {k : Know → Prop} {K : Know} (h : StepD P im ops o k K) : StepG P im ops o k K := by
  unfold StepD at h
  split at h
  · exact h.elim
  · rename_i G hG
    split at h
    · rename_i hc
      split at h
      · rename_i f ss hcall
        obtain ⟨h1, h2, he, ds, d, h3, h4, h5⟩ := h
        exact .inl ⟨_, ⟨G, hG, h1, _, rfl, by rw [hc]; exact ⟨f, ss, ds, d, hcall, h2, he, h3, h4, rfl⟩⟩, h5⟩
      · exact h.elim
    · rename_i hc; exact .inr ⟨hc, by rw [hG, h.1], h.2.1, h.2.2.1, h.2.2.2⟩
    · rename_i hc
      split at h
      · rename_i vc s hq
        exact .inl ⟨_, ⟨G, hG, h.1, _, rfl, by rw [hc]; exact ⟨vc, hq, h.2.1⟩⟩, h.2.2⟩
      · exact h.elim

theorem StepG.val {im : Bool} {ops : Array Oper} {o : Oper} {k : Know → Prop} {K : Know} (h : StepG P im ops o k K) (hc : quietC im o.op = true) : ∃ s, Val P im ops K o s ∧ k (K.put o.dst s) := by
  rcases h with h | ⟨h, _⟩
  · exact h
  · unfold quietC at hc; rw [h] at hc; cases hc

theorem StepG.fr {im : Bool} {ops : Array Oper} {o : Oper} {k : Know → Prop} {K : Know} (h : StepG P im ops o k K) (hf : Fr K) : StepG P im ops o (fun K' => Fr K' ∧ k K') K := by
  rcases h with ⟨s, hv, h⟩ | ⟨h0, h1, h2, h3, h4⟩
  · exact .inl ⟨s, hv, fr_put hf, h⟩
  · exact .inr ⟨h0, h1, h2, h3, opX_kept h4 fun s K' hk h => ⟨fr_put (hk.fr hf), h⟩⟩

theorem DrawV.any {im : Bool} {ops : Array Oper} {Q : XE → Know → Prop} : ∀ (p : Plan) (listed : Array Bool) (K : Know) (fuel : Nat), Fr K → Closed ops listed → planOK im ops p listed = true → p.depth ≤ fuel → DrawV P im ops Q p K → AnyV P im ops Q fuel listed K := by
  intro p
  induction p with
  | done =>
    intro listed K fuel hf hc hok hd h
    simp only [planOK, beq_iff_eq] at hok
    cases fuel with
    | zero => exact ⟨hok, h⟩
    | succ fuel => exact ⟨fun _ => h, fun i hi => by rw [hok] at hi; cases hi⟩
  | take i p ih =>
    intro listed K fuel hf hc hok hd h
    simp only [planOK, Bool.and_eq_true] at hok
    obtain ⟨hok1, hok2⟩ := hok
    simp only [DrawV] at h
    cases fuel with
    | zero => simp [Plan.depth] at hd
    | succ fuel =>
      have hd' : p.depth ≤ fuel := by simp only [Plan.depth] at hd; omega
      split at h
      · rename_i o ho
        rw [Bool.or_eq_true] at hok1
        rcases hok1 with hr | hr
        · rw [beq_iff_eq] at hr
          refine ⟨fun h => (by rw [hr] at h; cases h), fun j hj => ?_⟩
          have hj' := hj
          rw [hr, List.mem_singleton] at hj
          subst hj
          exact ⟨o, ho, ((StepD.g h).fr hf).imp fun K' hK => ih _ K' fuel hK.1 (closed_set hc hj') hok2 hd' hK.2⟩
        · rw [Bool.and_eq_true, Bool.and_eq_true] at hr
          have hri : i ∈ Region.ready .any ops listed := by simpa using hr.1.1
          have hq : quietC im o.op = true := by have := hr.2; rw [ho] at this; exact this
          obtain ⟨s, hv, hk⟩ := (StepD.g h).val hq
          exact AnyV.first ho fuel listed K hf hc (freeB_spec ho hr.1.2) hri hv (ih _ _ fuel (fr_put hf) (closed_set hc hri) hok2 hd' hk)
      · exact h.elim
  | two i j p q ihp ihq =>
    intro listed K fuel hf hc hok hd h
    simp only [planOK, Bool.and_eq_true, beq_iff_eq] at hok
    obtain ⟨⟨hr, hok1⟩, hok2⟩ := hok
    simp only [DrawV] at h
    cases fuel with
    | zero => simp [Plan.depth] at hd
    | succ fuel =>
      simp only [Plan.depth] at hd
      refine ⟨fun h => (by rw [hr] at h; cases h), fun k hk => ?_⟩
      have hk' := hk
      rw [hr, List.mem_cons, List.mem_singleton] at hk
      rcases hk with rfl | rfl
      · have h1 := h.1
        split at h1
        · rename_i o ho
          exact ⟨o, ho, ((StepD.g h1).fr hf).imp fun K' hK => ihp _ K' fuel hK.1 (closed_set hc hk') hok1 (by omega) hK.2⟩
        · exact h1.elim
      · have h1 := h.2
        split at h1
        · rename_i o ho
          exact ⟨o, ho, ((StepD.g h1).fr hf).imp fun K' hK => ihq _ K' fuel hK.1 (closed_set hc hk') hok2 (by omega) hK.2⟩
        · exact h1.elim

/-- **A region that draws its order: a plan serves for all orders.** -/
theorem DWp.draw {id : Nat} {ops : Array Oper} {Q : XE → Know → Prop} {K : Know} (im : Bool) (pl : Plan) (hm : P.follows .mixedOrders = true)
    (hok : (decide (pl.depth ≤ ops.size) && planOK im ops pl (Array.replicate ops.size false)) = true) (h : DrawV P im ops Q pl K) : DWp P r (.region id ops true) Q K := fun x a w hmod => by
  rw [Bool.and_eq_true, decide_eq_true_eq] at hok
  refine wpIn_region_any hm ?_
  refine AnyV.sound _ _ K (DrawV.any pl _ K _ hmod.fresh ?_ hok.2 hok.1 h) x x a _ (Ctx.ext_refl _) (hmod.grow ?_)
  · intro k o hk hl
    rcases Nat.lt_or_ge k ops.size with h' | h'
    · simp [h'] at hl
    · rw [Array.getElem?_eq_none h'] at hk; cases hk
  · exact (Below.refl _ w).drew

theorem DWp.drawR {id : Nat} {ops : Array Oper} {d : Code} {Q : XE → Know → Prop} {K : Know} (im : Bool) (pl : Plan) (hm : P.follows .mixedOrders = true)
    (hok : (decide (pl.depth ≤ ops.size) && planOK im ops pl (Array.replicate ops.size false)) = true) (h : ∀ k : Know → Prop, (∀ K', DWp P r d Q K' → k K') → DrawV P im ops (thenX k Q) pl K) :
    DWp P r (.seq (.region id ops true) d) Q K :=
  DWp.seqK fun k hk => DWp.draw im pl hm hok (h k hk)

attribute [simp] DrawV StepD Plan.of

end Go.Bf

/-
  Iterators: what a function that is ranged over hands to yield; calls of yield within it. Nothing is claimed here.
-/
namespace Go.Bf
open Go Go.RowKit
variable {P : Program} {r : Option Nat}

/-- What a round leaves be of an iterator's blocks. -/
def Keeps (n : Nat) (oth : Nat → Prop) (W W' : World) : Prop := W.heap.size ≤ W'.heap.size ∧ ∀ k : Nat, n ≤ k → k < W.heap.size → ¬ oth k → W'.heap[k]? = W.heap[k]?

/-- Yield, called with the row x when the caller's state is g: the caller goes on with g1, or tells the iterator to stop, with g2. -/
def Yields1 (P : Program) (l n : Nat) (J : Imm) (x : List DV) (g g1 g2 : Ghost) : Prop :=
  ∀ (oth : Nat → Prop) (W : World) (J' : Imm) (args : Array Value), g oth J' W → (∀ k, oth k → n ≤ k ∧ k < W.heap.size) → n ≤ W.heap.size → Holds J' W → (∀ b o, (b < n ∨ oth b) → J' b o = J b o) → RepL J' args x →
    YieldAt Fence.wide 0 P l args W fun e W' => Keeps n oth W W' ∧ (∀ b o v, J' b o = some v → vc W' b o = some v) ∧
      ∃ oth' : Nat → Prop, (∀ k, oth k → oth' k) ∧ (∀ k, oth' k → n ≤ k ∧ k < W'.heap.size) ∧ (∀ k, oth' k → ¬ oth k → W.heap.size ≤ k) ∧
        ((e = .returned (.bool true) ∧ g1 oth' J' W') ∨ (e = .returned (.bool false) ∧ g2 oth' J' W'))

/-- **The contract of an iterator**: it hands the rows ys to yield, one after the other, until it is told to stop. -/
def SeqWp (P : Program) (f : FuncId) (caps : List DV) (ys : List (List DV)) : Prop :=
  ∀ (w : World) (J : Imm) (vs : Array Value) (l : Nat) (St : List (List DV) → Ghost) (Sx : Ghost), Holds J w → RepL J vs caps → (∀ pre, StOk w.heap.size (St pre)) → StOk w.heap.size Sx →
    (∀ pre x, pre ++ [x] <+: ys → Yields1 P l w.heap.size J x (St pre) (St (pre ++ [x])) Sx) → St [] (fun _ => False) J w →
    Calls P f (#[.func (.yield l) #[] #[]] ++ vs) w fun e W' => (∃ v, e = .returned v) ∧ ∃ oth J', St ys oth J' W' ∨ Sx oth J' W'

/-- What is asked where an iterator's body is left. -/
def SeqPost (g1 g2 : Ghost) : XE → Know → Prop
  | .normal, K => K.gh = g1 ∨ K.gh = g2
  | .ret, K => K.gh = g1 ∨ K.gh = g2
  | _, _ => False

def Base.iter (w : World) : Base :=
  { heap := w.heap
    inv := fun oth J g W => g oth J W ∧ w.heap.size ≤ W.heap.size ∧ (∀ k, oth k → w.heap.size ≤ k ∧ k < W.heap.size) ∧ StOk w.heap.size g
    fr := #[]
    up := fun oth J _ W W' h hb ho hJ => ⟨h.2.2.2.up oth J W W' h.1 hb ho hJ, Nat.le_trans h.2.1 (hb.size), fun k hk => ⟨(h.2.2.1 k hk).1, Nat.lt_of_lt_of_le (h.2.2.1 k hk).2 hb.size⟩, h.2.2.2⟩
    size := fun _ _ _ _ h => ⟨h.2.1, fun k hk => (h.2.2.1 k hk).2⟩
    moreJ := fun oth J J' _ W h h1 h2 => ⟨h.2.2.2.moreJ oth J J' W h.1 h1 h2, h.2.1, h.2.2.1, h.2.2.2⟩ }

def Know.iter (n : Nat) (ds : List DV) (g : Ghost) (b : Nat) (J : Imm) : Know := { slots := fun i => (ds[i]?).map .d, mem := fun _ => .unborn, n := n, nx := 0, gh := g, b0 := some (b, J) }

theorem SeqWp.intro {f : FuncId} {fn : Func} {c : Code} {caps : List DV} {ys : List (List DV)} (hf : P.funcs[f]? = some fn) (hb : fn.body = some c) (hres : fn.results = #[]) (hn : caps.length + 1 ≤ fn.ntmps)
    (h : ∀ (l n : Nat) (J : Imm) (St : List (List DV) → Ghost) (Sx : Ghost), (∀ pre, StOk n (St pre)) → StOk n Sx → (∀ b o, n ≤ b → J b o = none) → (∀ pre x, pre ++ [x] <+: ys → Yields1 P l n J x (St pre) (St (pre ++ [x])) Sx) →
      DWp P none c (SeqPost (St ys) Sx) (Know.iter fn.ntmps (.yld l :: caps) (St []) n J)) : SeqWp P f caps ys := by
  intro w J vs l St Sx hJ hv hst hsx hy h0
  refine callsIn_wide.1 (callsIn_of_wp_marks (F := Fence.wide) (n := 0) hf hb trivial ?_ rfl)
  let x : Ctx := { J := J, β := fun _ => .unborn, w0 := Base.iter w, J0 := J, oth := fun _ => False }
  have hm : Models x (Know.iter fn.ntmps (.yld l :: caps) (St []) w.heap.size J) { tmps := (#[Value.func (.yield l) #[] #[]] ++ vs) ++ Array.replicate (fn.ntmps - (#[Value.func (.yield l) #[] #[]] ++ vs).size) undef, defers := [] } w := by
    refine ⟨⟨fun i hi => (by simp [Know.iter] at hi), fun n J' h => ?_⟩, ?_, trivial, ⟨h0, Nat.le_refl _, fun _ h => h.elim, hst []⟩, hJ.cell, fun _ _ _ => rfl, ?_, fun _ _ => rfl, fun b hb => (by simp [Know.iter] at hb), fun b t cells hb => (by simp [Know.iter] at hb), fun b b' B sz t sz' t' hb => (by cases hb), hJ.one, fun _ _ => rfl, fun b es hb => (by simp [Know.iter] at hb)⟩
    · simp only [Know.iter, Option.some.injEq, Prod.mk.injEq] at h
      obtain ⟨rfl, rfl⟩ := h
      exact ⟨rfl, rfl, fun oth J g W => Iff.rfl⟩
    · simp [Know.iter]; have := hv.1; omega
    · intro i s hs
      simp only [Know.iter, Option.map_eq_some_iff] at hs
      obtain ⟨d, hd, rfl⟩ := hs
      have hsz := hv.1
      cases i with
      | zero =>
        simp at hd; subst hd
        refine ⟨.func (.yield l) #[] #[], ?_, .d .yld⟩
        rw [Array.getElem?_append_left (by simp; omega), Array.getElem?_append_left (by simp)]; rfl
      | succ i =>
        have hd' : caps[i]? = some d := by simpa using hd
        have hlt : i < vs.size := by rw [hsz]; exact (List.getElem?_eq_some_iff.1 hd').1
        refine ⟨vs[i], ?_, .d (hv.2 i _ d (Array.getElem?_eq_getElem hlt) hd')⟩
        rw [Array.getElem?_append_left (by simp; omega), Array.getElem?_append_right (by simp)]
        simp [hlt]
  have hJn : ∀ b o, w.heap.size ≤ b → J b o = none := fun b o hb => by
    cases hc : J b o with
    | none => rfl
    | some v => have := vc_lt (hJ.cell b o v hc); omega
  refine wpIn_mono (h l w.heap.size J St Sx hst hsx hJn hy x _ w hm) ?_
  rintro e a' w' ⟨y, K, xe, hxy, he, hm', hq⟩
  have fin : (K.gh = St ys ∨ K.gh = Sx) → LeavesInM Fence.wide 0 P fn a'.tmps (fun e W' => (∃ v, e = .returned v) ∧ ∃ oth J', St ys oth J' W' ∨ Sx oth J' W') a'.defers .returning w' := fun hg => by
    refine leaves_marks (by simp) _ _ hm'.defers fun w2 hs => ?_
    have hm2 := hm'.sameC hs
    have hbel := hm2.below
    rw [hxy.w0] at hbel
    refine ⟨.tuple #[], ?_, ⟨_, rfl⟩, y.oth, y.J, ?_⟩
    · rw [results_eq, Sem.run_bind, hres]
      simp
    · rcases hg with hg | hg
      · left; rw [← hg]; exact hbel.1
      · right; rw [← hg]; exact hbel.1
  cases e with
  | normal =>
    cases xe <;> first | exact he.elim | skip
    exact fin hq
  | ret =>
    cases xe <;> first | exact he.elim | skip
    exact fin hq
  | panic ch => cases xe <;> first | exact he.elim | exact hq.elim
  | exit id => cases xe <;> first | exact he.elim | exact hq.elim
  | goto l => cases xe <;> exact he.elim
  | outgrown => cases xe <;> exact he.elim

/-- A world in which all that is known has been left be. -/
theorem Models.turned {x : Ctx} {K : Know} {a : Act} {w w' : World} (hm : Models x K a w) {oth' : Nat → Prop} {g : Ghost} (_ : w.heap.size ≤ w'.heap.size) (hinv : x.w0.inv oth' x.J g w')
    (hlive : ∀ k : Nat, x.w0.heap.size ≤ k → k < w.heap.size → ¬ x.oth k → w'.heap[k]? = w.heap[k]?) (hJ : ∀ b o v, x.J b o = some v → vc w' b o = some v)
    (hoth : ∀ k, oth' k → ¬ x.oth k → w.heap.size ≤ k) (hJ0 : ∀ b o, w.heap.size ≤ b → x.J0 b o = none) :
    Models { x with oth := oth' } { K with gh := g } a w' where
  fro := hm.fro
  size := hm.size
  defers := by
    have key : ∀ ds, Marks w x.w0.heap.size x.oth ds → Marks w' x.w0.heap.size oth' ds := by
      intro ds
      induction ds with
      | nil => intro _; trivial
      | cons d ds ih =>
        rintro ⟨⟨D, h1, h2, h3, h4⟩, h⟩
        have hlt := (Array.getElem?_eq_some_iff.1 h2).1
        exact ⟨⟨D, h1, (hlive D h3.1 hlt h3.2).trans h2, ⟨h3.1, fun ho => by have := hoth D ho h3.2; omega⟩, h4⟩, ih h⟩
    exact key _ hm.defers
  below := hinv
  holds := hJ
  old := fun b o hb => by
    by_cases hb' : b < x.w0.heap.size ∨ x.oth b
    · exact hm.old b o hb'
    · rcases hb with hb | hb
      · exact absurd (.inl hb) hb'
      · have hge := hoth b hb (fun h => hb' (.inr h))
        show x.J b o = x.J0 b o
        rw [hJ0 b o hge]
        cases hc : x.J b o with
        | none => rfl
        | some v => have := vc_lt (hm.holds b o v hc); omega
  slots := hm.slots
  unborn := hm.unborn
  dead := hm.dead
  live := fun b t cells hmem => by
    obtain ⟨B, vals, fr, g1, ⟨T, g2⟩, g3, g4, g5, g6, g7, g8⟩ := (hm.live b t cells hmem).out
    have hlt := (Array.getElem?_eq_some_iff.1 g2).1
    exact ⟨B, vals, fr, g1, ⟨T, (hlive B g7.1 hlt g7.2).trans g2⟩, g3, g4, g5, g6, ⟨g7.1, fun ho => by have := hoth B ho g7.2; omega⟩, g8⟩
  inj := hm.inj
  one := hm.one
  fresh := hm.fresh
  maps := fun b es hmem => by
    obtain ⟨B, ob, g1, g2, g4, g5, g6⟩ := (hm.maps b es hmem).out
    have hlt := (Array.getElem?_eq_some_iff.1 g2).1
    exact ⟨B, ob, g1, (hlive B g6.1 hlt g6.2).trans g2, g4, g5, ⟨g6.1, fun ho => by have := hoth B ho g6.2; omega⟩⟩

/-- A call of yield, within an iterator. -/
theorem OpsWp.yield {ops : Array Oper} {Q : XE → Know → Prop} {o : Oper} {rest : List Oper} {K : Know} {g : Operand} {args : Array Operand} {ts : Array TypeId} {l n : Nat} {J : Imm} {ss : List SV} {x : List DV} {g1 g2 : Ghost}
    (ho : o.op = .call { callee := .value g, args := args, argTypes := ts }) (hgd : o.guard = none) (hg : rdK K true g = some (True, .d (.yld l))) (hd : dstOk K o.dst) (hargs : rdL (rdS K true) args.toList = some ss) (hx : toDs ss = some x)
    (hc : conds K true args.toList) (hb0 : K.b0 = some (n, J)) (hJn : ∀ b o, n ≤ b → J b o = none) (h1 : StOk n g1) (h2 : StOk n g2) (hy : Yields1 P l n J x K.gh g1 g2)
    (hk1 : OpsWp P none ops Q rest (({ K with gh := g1 } : Know).put o.dst (.d (.bool true)))) (hk2 : OpsWp P none ops Q rest (({ K with gh := g2 } : Know).put o.dst (.d (.bool false)))) :
    OpsWp P none ops Q (o :: rest) K := fun x' a w hm => by
  simp only [opsL]
  have hw : Region.wanted o (yielded ops a.tmps) = true := by unfold Region.wanted; rw [hgd]
  rw [if_pos hw]
  obtain ⟨e1, e2, e3⟩ := hm.fro.2 n J hb0
  have hbel := (e3 _ _ _ _).1 hm.below
  have hr := d_inv (rdK_rep hm hg trivial rfl)
  have hrd := rdS_rep hm hc
  obtain ⟨q1, q2⟩ := rdL_spec hargs
  have harr : ArrR x'.J x'.β (args.map a.eval) ss := by
    refine ⟨by simp [q1], fun i v s hv hs => ?_⟩
    rw [Array.getElem?_map, Option.map_eq_some_iff] at hv
    obtain ⟨u, hu, rfl⟩ := hv
    exact hrd u (Array.mem_toList_iff.2 (Array.mem_of_getElem? hu)) s (q2 i u s (by simpa using hu) hs)
  have hrep : RepL x'.J (args.map a.eval) x := by
    have := toDs_rep (J := x'.J) (β := x'.β) (vs := (args.map a.eval).toList) hx (by rw [Array.toArray_toList]; exact harr)
    rwa [Array.toArray_toList] at this
  have hym := hy x'.oth w x'.J (args.map a.eval) hbel.1 hbel.2.2.1 hbel.2.1 ⟨hm.holds, hm.one⟩ (fun b o hb => by rw [hm.old b o (hb.imp (fun h => by rw [e1]; exact h) id), e2]) hrep
  obtain ⟨fn, tmps, assign, body, hyr, hround⟩ := hym
  generalize hev : a.eval g = z at hr
  cases hr
  have hrun : (execOp a.eval o).run P w = .ok (.round l fn tmps assign body) w := by
    obtain ⟨dst, op, type, pos, after, guard⟩ := o
    simp only at ho
    subst ho
    simp [execOp, resolve, Deferred.ofValue, hev, invoke, hyr]
  have hnd : ∀ c, o.op ≠ .defer c := fun c e => by rw [ho] at e; cases e
  refine ⟨fun _ _ => about_wide, ?_⟩
  rw [Oper.semAt_eq _ _ _ hnd, hrun, Oper.uponIn_round]
  refine ⟨fun h => by simp [FW, Fence.wide] at h, hround.mono ?_⟩
  rintro e w' ⟨hkeep, hJ', oth', ho1, ho2, ho3, hres⟩
  have fin : ∀ (b : Bool) (gx : Ghost), StOk n gx → gx oth' x'.J w' → OpsWp P none ops Q rest (({ K with gh := gx } : Know).put o.dst (.d (.bool b))) → opsL P none ops (Post x' Q) rest (a.put o.dst (.bool b)) w' := fun b gx hok hgx hk => by
    have hm2 := hm.turned (oth' := oth') (g := gx) hkeep.1 ((e3 _ _ _ _).2 ⟨hgx, Nat.le_trans hbel.2.1 hkeep.1, ho2, hok⟩) (fun k hk1 hk2 hk3 => hkeep.2 k (by rw [← e1]; exact hk1) hk2 hk3) hJ' ho3
      (fun b o hb => by rw [e2]; exact hJn b o (Nat.le_trans hbel.2.1 hb))
    have hm3 := hm2.put (dst := o.dst) (v := .bool b) (s := .d (.bool b)) (dstOk_spec hd) (.d .bool)
    have hx' : x'.ext { x' with oth := oth' } := ⟨fun _ _ _ h => h, rfl, rfl⟩
    exact opsL_ext hx' _ _ _ (hk _ _ _ hm3)
  rcases hres with ⟨rfl, hg1⟩ | ⟨rfl, hg2⟩
  · exact fin true g1 h1 hg1 hk1
  · exact fin false g2 h2 hg2 hk2

end Go.Bf

/-
  A range over a function, in the caller. Nothing is claimed here.
-/
namespace Go.Bf
open Go Go.RowKit
variable {P : Program}

/-- The same knowledge in another frame of things. -/
theorem Models.reframe {z : Ctx} {K : Know} {a1 a2 : Act} {w1 w2 : World} (hm : Models z K a1 w1) {B2 : Base} {oth2 : Nat → Prop} {J2 : Imm} {g2 : Ghost} {fro2 : List Nat} {b02 : Option (Nat × Imm)}
    (hfro : (∀ i ∈ fro2, a2.tmps[i]? = B2.fr[i]?) ∧ (∀ n J, b02 = some (n, J) → B2.heap.size = n ∧ J2 = J ∧ ∀ oth J g w, B2.inv oth J g w ↔ (g oth J w ∧ n ≤ w.heap.size ∧ (∀ k, oth k → n ≤ k ∧ k < w.heap.size) ∧ StOk n g)))
    (hsz : a2.tmps.size = K.n) (hsl : ∀ i s, K.slots i = some s → a2.tmps[i]? = a1.tmps[i]?) (hdf : Marks w2 B2.heap.size oth2 a2.defers) (hinv : B2.inv oth2 z.J g2 w2) (hJ : ∀ b o v, z.J b o = some v → vc w2 b o = some v)
    (hold : ∀ b o, (b < B2.heap.size ∨ oth2 b) → z.J b o = J2 b o)
    (hlive : ∀ b B sz t, z.β b = .live B sz t → w2.heap[B]? = w1.heap[B]? ∧ B2.heap.size ≤ B ∧ ¬ oth2 B) :
    Models { z with w0 := B2, oth := oth2, J0 := J2 } { K with gh := g2, fro := fro2, b0 := b02 } a2 w2 where
  fro := hfro
  size := hsz
  defers := hdf
  below := hinv
  holds := hJ
  old := hold
  slots := fun i s hs => by
    obtain ⟨v, e, rr⟩ := hm.slots i s hs
    exact ⟨v, (hsl i s hs).trans e, rr⟩
  unborn := hm.unborn
  dead := hm.dead
  live := fun b t cells hmem => by
    obtain ⟨B, vals, fr, g1, ⟨T, g2⟩, g3, g4, g5, g6, g7, g8⟩ := (hm.live b t cells hmem).out
    obtain ⟨e1, e2, e3⟩ := hlive b B _ _ g1
    exact ⟨B, vals, fr, g1, ⟨T, e1.trans g2⟩, g3, g4, g5, g6, ⟨e2, e3⟩, g8⟩
  inj := hm.inj
  one := hm.one
  fresh := hm.fresh
  maps := fun b es hmem => by
    obtain ⟨B, ob, g1, g2, g4, g5, g6⟩ := (hm.maps b es hmem).out
    obtain ⟨e1, e2, e3⟩ := hlive b B _ _ g1
    exact ⟨B, ob, g1, e1.trans g2, g4, g5, ⟨e2, e3⟩⟩

/-- Cells, or a map. -/
def holdsData : Option Obj → Bool
  | some (.cells ..) => true
  | some o => isMO o
  | _ => false
theorem Models.blockOf {x : Ctx} {K : Know} {a : Act} {w : World} (hm : Models x K a w) {b B sz : Nat} {t : TypeId} (h : x.β b = .live B sz t) : B < w.heap.size ∧ x.w0.heap.size ≤ B ∧ ¬ x.oth B ∧ ∃ (_ _ _ : Unit), holdsData w.heap[B]? = true := by
  cases hmem : K.mem b with
  | unborn => rw [hm.unborn b hmem] at h; cases h
  | dead => rw [hm.dead b hmem] at h; cases h
  | live t' cells =>
    obtain ⟨B2, vals, fr, g1, ⟨T, g2⟩, g3, g4, g5, g6, g7, g8⟩ := (hm.live b t' cells hmem).out
    rw [h] at g1; cases g1
    exact ⟨(Array.getElem?_eq_some_iff.1 g2).1, g7.1, g7.2, (), (), (), by rw [g2]; rfl⟩
  | mp es =>
    obtain ⟨B2, ob, g1, g2, g4, g5, g6⟩ := (hm.maps b es hmem).out
    rw [h] at g1; cases g1
    exact ⟨(Array.getElem?_eq_some_iff.1 g2).1, g6.1, g6.2, (), (), (), by rw [g2]; have := g4.is; cases ob <;> first | rfl | exact this⟩

theorem marks_low {w : World} {base : Nat} {oth : Nat → Prop} : ∀ {ds : List Deferred}, Marks w base oth ds → ∀ d ∈ ds, ∃ D, d = { target := .collected D, args := #[] } ∧ D < w.heap.size ∧ base ≤ D ∧ ¬ oth D
  | [], _, d, hd => by simp at hd
  | e :: ds, ⟨⟨D, h1, h2, h3, h4⟩, h⟩, d, hd => by
    rcases List.mem_cons.1 hd with rfl | hd
    · exact ⟨D, h1, (Array.getElem?_eq_some_iff.1 h2).1, h3.1, h3.2⟩
    · exact marks_low h d hd

theorem Marks.turn {w w' : World} {base : Nat} {oth oth' : Nat → Prop} : ∀ {ds : List Deferred}, (∀ d ∈ ds, ∀ D : Nat, d.target = .collected D → w'.heap[D]? = w.heap[D]? ∧ ¬ oth' D) → Marks w base oth ds → Marks w' base oth' ds
  | [], _, _ => trivial
  | d :: ds, hk, ⟨⟨D, h1, h2, h3, h4⟩, h⟩ => by
    have := hk d (by simp) D (by rw [h1])
    exact ⟨⟨D, h1, this.1.trans h2, ⟨h3.1, this.2⟩, h4⟩, Marks.turn (fun d' hd' => hk d' (by simp [hd'])) h⟩

/-- What is known within a round. -/
def roundK (S : Know) (L : List Nat) (ps : Array Tmp) (x : List DV) : Know :=
  { S with slots := fun i => match lk ((ps.toList.zip x).map fun p => (p.1, SV.d p.2)) i with | some s => some s | none => S.slots i, gh := fun _ _ _ => True, fro := L, b0 := none }

def inner (T : Know) (L : List Nat) : Know := { T with gh := fun _ _ _ => True, fro := L, b0 := none }

/-- Of the frame that the loop is in. -/
structure OfK (K : Know) (L : List Nat) (T : Know) : Prop where
  n : T.n = K.n
  gh : T.gh = K.gh
  fro : T.fro = K.fro
  b0 : T.b0 = K.b0
  slots : ∀ i s, T.slots i = some s → i ∈ L

/-- What is asked where a round is left. -/
def RoundQ (Q : XE → Know → Prop) (K : Know) (L : List Nat) (iv : Prop) (nxt : Know) : XE → Know → Prop
  | .normal, K' => iv ∧ Sub (inner nxt L) K'
  | .ret, K' => ∃ T, OfK K L T ∧ Sub (inner T L) K' ∧ Q .ret T
  | .exit id, K' => ∃ T, OfK K L T ∧ Sub (inner T L) K' ∧ Q (.exit id) T
  | .pan _, _ => False

/-- The base of a round: what was there, and is none of the frame's own, is left be. -/
def Base.round (B : Base) (xoth : Nat → Prop) (xg : Ghost) (W : World) (R : Nat → Prop) (fr : Array Value) (hx : ∀ k, xoth k → R k) : Base :=
  { heap := B.heap
    inv := fun oth J _ W' => B.inv xoth J xg W' ∧ W.heap.size ≤ W'.heap.size ∧ (∀ k, oth k ↔ R k) ∧ ∀ k : Nat, R k → k < W.heap.size ∧ W'.heap[k]? = W.heap[k]?
    fr := fr
    up := fun _ _ _ _ _ h hb ho hJ => ⟨B.up _ _ _ _ _ h.1 hb (fun k hk => ho k ((h.2.2.1 k).2 (hx k hk))) hJ, Nat.le_trans h.2.1 hb.size, h.2.2.1, fun k hk => ⟨(h.2.2.2 k hk).1, (ho k ((h.2.2.1 k).2 hk)).trans (h.2.2.2 k hk).2⟩⟩
    size := fun _ _ _ _ h => ⟨(B.size _ _ _ _ h.1).1, fun k hk => Nat.lt_of_lt_of_le (h.2.2.2 k ((h.2.2.1 k).1 hk)).1 h.2.1⟩
    moreJ := fun _ _ _ _ _ h h1 h2 => ⟨B.moreJ _ _ _ _ _ h.1 h1 h2, h.2⟩ }

theorem foldl_set {args : List Value} {ps : List Nat} (hnd : ps.Nodup) : ∀ (tmps : Array Value), (∀ p ∈ ps, p < tmps.size) →
    ((ps.zip args).foldl (fun t (p : Nat × Value) => t.setIfInBounds p.1 p.2) tmps).size = tmps.size ∧ (∀ i, i ∉ ps → ((ps.zip args).foldl (fun t (p : Nat × Value) => t.setIfInBounds p.1 p.2) tmps)[i]? = tmps[i]?) ∧
      ∀ (j : Nat) p v, ps[j]? = some p → args[j]? = some v → ((ps.zip args).foldl (fun t (p : Nat × Value) => t.setIfInBounds p.1 p.2) tmps)[p]? = some v := by
  induction ps generalizing args with
  | nil => intro tmps _; exact ⟨rfl, fun _ _ => rfl, fun j p v h => by simp at h⟩
  | cons q ps ih =>
    intro tmps hlt
    cases args with
    | nil => exact ⟨rfl, fun _ _ => rfl, fun j p v _ h => by simp at h⟩
    | cons u args =>
      rw [List.nodup_cons] at hnd
      simp only [List.zip_cons_cons, List.foldl_cons]
      obtain ⟨h1, h2, h3⟩ := ih (args := args) hnd.2 (tmps.setIfInBounds q u) (fun p hp => by simp; exact hlt p (by simp [hp]))
      refine ⟨by rw [h1]; simp, fun i hi => ?_, fun j p v hp hv => ?_⟩
      · rw [h2 i (fun h => hi (by simp [h]))]
        exact Array.getElem?_setIfInBounds_ne (fun e => hi (by simp [e]))
      · cases j with
        | zero =>
          simp at hp hv; subst hp; subst hv
          rw [h2 q hnd.1]
          simp [hlt q (by simp)]
        | succ j => exact h3 j p v (by simpa using hp) (by simpa using hv)

theorem marks_at {w : World} {base : Nat} {oth : Nat → Prop} : ∀ {ds : List Deferred}, Marks w base oth ds → ∀ d ∈ ds, ∀ D : Nat, d.target = .collected D → w.heap[D]? = some (.deferred (some [])) ∧ base ≤ D ∧ ¬ oth D
  | [], _, d, hd, _, _ => by simp at hd
  | e :: ds, ⟨⟨D, h1, h2, h3, h4⟩, h⟩, d, hd, D', hD => by
    rcases List.mem_cons.1 hd with rfl | hd
    · rw [h1] at hD; cases hD; exact ⟨h2, h3⟩
    · exact marks_at h d hd D' hD

theorem lk_zip : ∀ (ps : List Nat) (x : List DV) (i : Nat) (s : SV), lk ((ps.zip x).map fun p => (p.1, SV.d p.2)) i = some s → ∃ (j : Nat) (d : DV), ps[j]? = some i ∧ x[j]? = some d ∧ s = .d d
  | [], _, i, s, h => by simp [lk] at h
  | _ :: _, [], i, s, h => by simp [lk] at h
  | p :: ps, d :: x, i, s, h => by
    simp only [List.zip_cons_cons, List.map_cons, lk] at h
    split at h
    · rename_i e; cases h; exact ⟨0, d, by simp [e], by simp, rfl⟩
    · obtain ⟨j, d', h1, h2, h3⟩ := lk_zip ps x i s h
      exact ⟨j + 1, d', by simpa using h1, by simpa using h2, h3⟩

theorem cell_put {w : World} {l : Nat} {lp lp' : Loop} (hl : w.heap[l]? = some (.loop lp)) {b o : Nat} {v : Value} (h : vc w b o = some v) : vc (w.putObj l (.loop lp')) b o = some v := by
  have hne : b ≠ l := fun e => by subst e; simp [vc, hl] at h
  rw [← h]
  exact vc_block (World.putObj_heap_other hne) o

theorem below_put {w : World} {l n : Nat} {o : Obj} (hn : n ≤ l) : Below n w (w.putObj l o) := ⟨rfl, rfl, rfl, by simp, fun k hk => World.putObj_heap_other (by omega)⟩

theorem DWp.rangeF {g : Operand} {ps : Array Tmp} {assign body : Code} {Q : XE → Know → Prop} {K : Know} {f : FuncId} {caps : List DV} {ys : List (List DV)} (S : List (List DV) → Know) (Iv : List (List DV) → Prop) (L : List Nat)
    (he : Enters P f) (hseq : SeqWp P f caps ys) (hg : rdK K true g = some (True, .d (.fn f caps))) (hS : ∀ pre, OfK K L (S pre)) (hnd : ps.toList.Nodup) (hps : ∀ p ∈ ps.toList, p ∉ L ∧ p < K.n) (hys : ∀ x ∈ ys, x.length = ps.size) (h0 : Sub (S []) K) (hi0 : Iv [])
    (hround : ∀ l pre x, pre ++ [x] <+: ys → Iv pre → DWp P (some l) assign (thenX (fun K1 => K1.b0 = none ∧ DWp P (some l) body (RoundQ Q K L (Iv (pre ++ [x])) (S (pre ++ [x]))) K1) (fun _ _ => False)) (roundK (S pre) L ps x))
    (hdone : Iv ys → Q .normal (S ys)) : DWp P none (.rangeFunc g ps assign body) Q K := fun x a w hm => by
  obtain ⟨y0, hxy0, hm0⟩ := h0 x a w hm
  have hrg := d_inv (rdK_rep hm hg trivial rfl)
  generalize hev : a.eval g = zf at hrg
  obtain ⟨cs, rfl, hcl, hch⟩ : ∃ cs : Array Value, zf = .func (.func f) #[] cs ∧ cs.size = caps.length ∧ ∀ (i : Nat) v d, cs[i]? = some v → caps[i]? = some d → Rep x.J v d := by
    cases hrg with | @fn _ cs _ hl hh => exact ⟨cs, rfl, hl, hh⟩
  have hbase : y0.w0 = x.w0 := hxy0.w0
  have hw0 : y0.w0.heap.size ≤ w.heap.size := hm0.w0le
  have hoth0 : ∀ k, y0.oth k → k < w.heap.size := hm0.othlt
  have hlow : ∀ d ∈ a.defers, ∀ D : Nat, d.target = .collected D → D < w.heap.size := fun d hd D hD => (Array.getElem?_eq_some_iff.1 (marks_at hm.defers d hd D hD).1).1
  refine wpIn_rangeFunc ?_
  intro fn hfn
  obtain ⟨rec, hrec⟩ : ∃ rec : LoopState → Option Code → Loop, rec = fun st pe => { state := st, pending := pe, fn, tmps := a.tmps, params := ps, assign, body, defers := w.heap.size } := ⟨_, rfl⟩
  obtain ⟨W1, hW1⟩ : ∃ W1, (w.alloc (.deferred (some []))).alloc (.loop (rec .ready none)) = W1 := ⟨_, rfl⟩
  have hn1 : W1.heap.size = w.heap.size + 2 := by rw [← hW1]; simp
  have hL1 : W1.heap[w.heap.size + 1]? = some (.loop (rec .ready none)) := by
    rw [← hW1]; have := World.alloc_heap_new (w.alloc (.deferred (some []))) (.loop (rec .ready none)); rwa [World.size_alloc] at this
  have hK1 : W1.heap[w.heap.size]? = some (.deferred (some [])) := by
    rw [← hW1]; exact (Below.heap_alloc _ _ _ (by simp)).trans (World.alloc_heap_new w _)
  have hbw : Below w.heap.size w W1 := by rw [← hW1]; exact ((Below.refl _ w).alloc (Nat.le_refl _) _).alloc (by simp) _
  have hm1 := hm0.grow hbw
  -- what the loop holds between two rounds
  let H : Loop → Know → Ghost := fun lp T oth J' W => ∃ y : Ctx, y0.ext y ∧ y.oth = y0.oth ∧ Models y T a W ∧ W.heap[w.heap.size + 1]? = some (.loop lp) ∧ W.heap[w.heap.size]? = some (.deferred (some [])) ∧
    (∀ b B sz t, y.β b = .live B sz t → B < W1.heap.size ∨ oth B) ∧ ∀ b o v, y.J b o = some v → b < W1.heap.size ∨ oth b ∨ J' b o = some v
  have hstok : ∀ lp T, StOk W1.heap.size (H lp T) := fun lp T => by
    refine ⟨?_, ?_⟩
    · rintro oth J' W W' ⟨y, hy, hyo, hmy, hl, hD, hlv, hJc⟩ hb ho hJ'
      have hyb : y.w0.heap.size ≤ w.heap.size := by rw [hy.w0]; exact hw0
      have hsame : ∀ k : Nat, k < W1.heap.size ∨ oth k → W'.heap[k]? = W.heap[k]? := fun k hk => hk.elim (fun h => hb.block k h) (ho k)
      have hcell : ∀ b o v, y.J b o = some v → vc W' b o = some v := fun b o v hv => by
        have h1 := hmy.holds b o v hv
        rcases hJc b o v hv with h | h | h
        · rw [← h1]; exact vc_block (hsame b (.inl h)) o
        · rw [← h1]; exact vc_block (hsame b (.inr h)) o
        · exact hJ' b o v h
      have hoy : ∀ k, y.oth k → k < w.heap.size := fun k hk => hoth0 k (by rw [← hyo]; exact hk)
      refine ⟨y, hy, hyo, ?_, (hsame _ (.inl (by omega))).trans hl, (hsame _ (.inl (by omega))).trans hD, hlv, hJc⟩
      exact hmy.reframe (B2 := y.w0) (oth2 := y.oth) (J2 := y.J0) (g2 := T.gh) (fro2 := T.fro) (b02 := T.b0) hmy.fro hmy.size (fun _ _ _ => rfl)
        (Marks.turn (fun d hd D hD => ⟨hsame D (.inl (by have := hlow d hd D hD; omega)), (marks_at hmy.defers d hd D hD).2.2⟩) hmy.defers)
        (y.w0.up _ _ _ _ _ hmy.below (hb.mono (by omega)) (fun k hk => hsame k (.inl (by have := hoy k hk; omega))) hcell) hcell hmy.old
        (fun b B sz t hβ => ⟨hsame B (hlv b B sz t hβ), (hmy.blockOf hβ).2.1, (hmy.blockOf hβ).2.2.1⟩)
    · rintro oth J' J'' W ⟨y, hy, hyo, hmy, hl, hD, hlv, hJc⟩ h1 h2
      exact ⟨y, hy, hyo, hmy, hl, hD, hlv, fun b o v hv => (hJc b o v hv).imp id (Or.imp id (h1 b o v))⟩
  -- behind the loop
  have hend : ∀ (lp : Loop) (T : Know) oth J' W2, lp.state ≠ .busy → OfK K L T → H lp T oth J' W2 → ∃ W3, (Instr.endLoop (w.heap.size + 1)).run P W2 = .ok lp.pending W3 ∧
      ∃ y, x.ext y ∧ Models y T { a with defers := { target := .collected w.heap.size, args := #[] } :: a.defers } W3 := by
    rintro lp T oth J' W2 hst hT ⟨y, hy, hyo, hmy, hl, hD, hlv, hJc⟩
    have hyb : y.w0.heap.size ≤ w.heap.size := by rw [hy.w0]; exact hw0
    have hoy : ∀ k, y.oth k → k < w.heap.size := fun k hk => hoth0 k (by rw [← hyo]; exact hk)
    have hlt : w.heap.size + 1 < W2.heap.size := (Array.getElem?_eq_some_iff.1 hl).1
    refine ⟨_, run_endLoop hl hst, y, Ctx.ext_trans hxy0 hy, ?_⟩
    have hcell : ∀ b o v, y.J b o = some v → vc (W2.putObj (w.heap.size + 1) (.loop { lp with state := .exhausted })) b o = some v := fun b o v hv => cell_put hl (hmy.holds b o v hv)
    exact hmy.reframe (B2 := y.w0) (oth2 := y.oth) (J2 := y.J0) (g2 := T.gh) (fro2 := T.fro) (b02 := T.b0) hmy.fro hmy.size (fun _ _ _ => rfl)
      ⟨⟨w.heap.size, rfl, (World.putObj_heap_other (by omega)).trans hD, ⟨hyb, fun h => by have := hoy _ h; omega⟩, fun d hd e => by have := hlow d hd _ e; omega⟩,
        Marks.turn (fun d hd D hD => ⟨World.putObj_heap_other (by have := hlow d hd D hD; omega), (marks_at hmy.defers d hd D hD).2.2⟩) hmy.defers⟩
      (y.w0.up _ _ _ _ _ hmy.below (below_put (by omega)) (fun k hk => World.putObj_heap_other (by have := hoy k hk; omega)) hcell) hcell hmy.old
      (fun b B sz t hβ => ⟨World.putObj_heap_other (fun e => by
        obtain ⟨_, _, _, vals, T, fr, hc⟩ := hmy.blockOf hβ
        rw [e, hl] at hc; cases hc), (hmy.blockOf hβ).2.1, (hmy.blockOf hβ).2.2.1⟩)
  refine ⟨w.heap.size + 1, [{ target := .collected w.heap.size, args := #[] }], W1, { target := .fn (.func f) cs, args := #[.func (.yield (w.heap.size + 1)) #[] #[]] }, W1, f,
    #[.func (.yield (w.heap.size + 1)) #[] #[]] ++ cs, W1, ?_, ?_, ?_, ?_, ?_, ?_⟩
  · rw [← hW1, hrec]; exact run_enterLoop_outer _ _ _ _ _
  · simp only [resolve, hev]
    simp [go_sem]
  · intro f' _; exact about_wide
  · have := he (#[.func (.yield (w.heap.size + 1)) #[] #[]] ++ cs) W1
    simp [invoke, this]
  · intro h; simp [FW, Fence.wide] at h
  refine callsIn_wide.2 ((hseq W1 y0.J cs (w.heap.size + 1) (fun pre oth J' W => Iv pre ∧ H (rec .ready none) (S pre) oth J' W) (fun oth J' W => ∃ c T, OfK K L T ∧ H (rec .done (some c)) T oth J' W ∧ ((c = .ret ∧ Q .ret T) ∨ ∃ id, c = .exit id ∧ Q (.exit id) T))
    ⟨hm1.holds, hm1.one⟩ ⟨hcl, fun i v d hv hd => (hch i v d hv hd).mono hxy0.J⟩ (fun pre => ⟨fun _ _ _ _ h h1 h2 h3 => ⟨h.1, (hstok _ _).up _ _ _ _ h.2 h1 h2 h3⟩, fun _ _ _ _ h h1 h2 => ⟨h.1, (hstok _ _).moreJ _ _ _ _ h.2 h1 h2⟩⟩) ?_ ?_ ?_).mono ?_)
  · refine ⟨?_, ?_⟩
    · rintro oth J W W' ⟨c, T, hT, hH, hc⟩ h1 h2 h3
      exact ⟨c, T, hT, (hstok _ _).up _ _ _ _ hH h1 h2 h3, hc⟩
    · rintro oth J J' W ⟨c, T, hT, hH, hc⟩ h1 h2
      exact ⟨c, T, hT, (hstok _ _).moreJ _ _ _ _ hH h1 h2, hc⟩
  · -- one round
    rintro pre row hpre oth W J' args ⟨hiv, y, hy, hyo, hmy, hl, hD, hlv, hJc⟩ hoth hn1W hJ' hJlow hargs
    have hyb : y.w0.heap.size ≤ w.heap.size := by rw [hy.w0]; exact hw0
    have hoy : ∀ k, y.oth k → k < w.heap.size := fun k hk => hoth0 k (by rw [← hyo]; exact hk)
    have hrl : row.length = ps.size := hys row (hpre.subset (by simp))
    have hal : args.size = ps.size := by rw [hargs.1, hrl]
    have hlW : w.heap.size + 1 < W.heap.size := (Array.getElem?_eq_some_iff.1 hl).1
    have hrun := run_yield (P := P) (args := args) hl (by rw [hrec]; exact hal)
    rw [hrec] at hrun
    refine ⟨fn, _, assign, body, hrun, roundIn_of_wpIn trivial ?_⟩
    simp only at hrun ⊢
    generalize htm : (ps.zip args).foldl (fun tmps (t, v) => tmps.setIfInBounds t v) a.tmps = tmps'
    have hfold := foldl_set (args := args.toList) hnd a.tmps (fun p hp => by rw [hm.size]; exact (hps p hp).2)
    have htm' : (ps.toList.zip args.toList).foldl (fun t (p : Nat × Value) => t.setIfInBounds p.1 p.2) a.tmps = tmps' := by
      rw [← htm, ← Array.foldl_toList, Array.toList_zip]
    rw [htm'] at hfold
    -- others' blocks
    let R : Nat → Prop := fun k => k < W.heap.size ∧ ∀ b sz t, y.β b ≠ .live k sz t
    have hyR : ∀ k, y.oth k → R k := fun k hk => ⟨by have := hoy k hk; omega, fun b sz t hβ => (hmy.blockOf hβ).2.2.1 hk⟩
    have hlR : R (w.heap.size + 1) := ⟨hlW, fun b sz t hβ => by obtain ⟨_, _, _, _, _, _, hc⟩ := hmy.blockOf hβ; rw [hl] at hc; cases hc⟩
    have hDR : R w.heap.size := ⟨by omega, fun b sz t hβ => by obtain ⟨_, _, _, _, _, _, hc⟩ := hmy.blockOf hβ; rw [hD] at hc; cases hc⟩
    have hdR : ∀ d ∈ a.defers, ∀ D : Nat, d.target = .collected D → R D := fun d hd D hDt => by
      have h1 := marks_at hmy.defers d hd D hDt
      exact ⟨(Array.getElem?_eq_some_iff.1 h1.1).1, fun b sz t hβ => by obtain ⟨_, _, _, _, _, _, hc⟩ := hmy.blockOf hβ; rw [h1.1] at hc; cases hc⟩
    -- what is immutable: the caller's, and the iterator's
    have hnone : ∀ b o, (b < W1.heap.size ∨ oth b) → y.J b o = none → J' b o = none := fun b o hb hn => by
      rw [hJlow b o hb]
      cases hc : y0.J b o with
      | none => rfl
      | some v => rw [hy.J b o v hc] at hn; cases hn
    let J1 : Imm := fun b o => match y.J b o with | some v => some v | none => J' b o
    have hJ1y : ∀ b o v, y.J b o = some v → J1 b o = some v := fun b o v hv => by simp only [J1, hv]
    have hJ1' : ∀ b o v, J' b o = some v → J1 b o = some v := fun b o v hv => by
      simp only [J1]
      cases hc : y.J b o with
      | none => exact hv
      | some u =>
        have e1 := hmy.holds b o u hc
        have e2 := hJ'.cell b o v hv
        rw [e1] at e2; exact e2
    have hJ1c : ∀ b o v, J1 b o = some v → y.J b o = some v ∨ (y.J b o = none ∧ J' b o = some v) := fun b o v hv => by
      simp only [J1] at hv
      cases hc : y.J b o with
      | none => rw [hc] at hv; exact .inr ⟨rfl, hv⟩
      | some u => rw [hc] at hv; exact .inl hv
    have hJ1low : ∀ b o, (b < y.w0.heap.size ∨ y.oth b) → J1 b o = y.J b o := fun b o hb => by
      simp only [J1]
      cases hc : y.J b o with
      | some u => rfl
      | none => exact hnone b o (.inl (hb.elim (fun h => by omega) (fun h => by have := hoy b h; omega))) hc
    obtain ⟨_, hmJ⟩ := hmy.moreJ J1 hJ1y (fun b o v hv => by
        rcases hJ1c b o v hv with h | h
        · exact hmy.holds b o v h
        · exact hJ'.cell b o v h.2) hJ1low (fun b t cells hmem B sz t' hβ o => by
        obtain ⟨B2, vals2, fr2, g1, _, _, _, _, g6, _, _⟩ := (hmy.live b t cells hmem).out
        rw [hβ] at g1; cases g1
        have := hnone B o (hlv b B _ _ hβ) (g6 o)
        simp only [J1, g6 o, this]) (fun b o v hv => by
        rcases hJ1c b (2 * o) v hv with h | h
        · exact hmy.one b o v h
        · exact hJ'.one b o v h.2) (fun b es hmem B sz t' hβ o => by
        obtain ⟨B2, ob, g1, _, _, g5, _⟩ := (hmy.maps b es hmem).out
        rw [hβ] at g1; cases g1
        have := hnone B o (hlv b B _ _ hβ) (g5 o)
        simp only [J1, g5 o, this])
    let z1 : Ctx := { J := J1, β := y.β, w0 := Base.round y.w0 y.oth K.gh W R a.tmps hyR, J0 := J1, oth := R }
    have hmI : Models z1 (inner (S pre) L) { tmps := a.tmps, defers := [] } W :=
      hmJ.reframe (B2 := Base.round y.w0 y.oth K.gh W R a.tmps hyR) (oth2 := R) (J2 := J1) (g2 := fun _ _ _ => True) (fro2 := L) (b02 := none) ⟨fun _ _ => rfl, fun n J h => by cases h⟩ hmJ.size (fun _ _ _ => rfl) trivial
        ⟨by have := hmJ.below; rw [(hS pre).gh] at this; exact this, Nat.le_refl _, fun _ => Iff.rfl, fun k hk => ⟨hk.1, rfl⟩⟩ hmJ.holds (fun _ _ _ => rfl)
        (fun b B sz t hβ => ⟨rfl, (hmy.blockOf hβ).2.1, fun hR => hR.2 b sz t hβ⟩)
    have hmR : Models z1 (roundK (S pre) L ps row) { tmps := tmps', defers := [] } W :=
      { hmI with
        fro := ⟨fun i hi => by rw [hfold.2.1 i (fun h => (hps i h).1 hi)]; rfl, fun n J h => by cases h⟩
        size := by rw [hfold.1]; exact hmI.size
        slots := fun i s hs => by
          simp only [roundK] at hs
          split at hs
          · rename_i s' hlk
            cases hs
            obtain ⟨j, d, h1, h2, rfl⟩ := lk_zip _ _ _ _ hlk
            have hj : j < args.size := by rw [hargs.1]; exact (List.getElem?_eq_some_iff.1 h2).1
            refine ⟨args[j], hfold.2.2 j i args[j] h1 (by simp [hj]), .d ((hargs.2 j _ d (Array.getElem?_eq_getElem hj) h2).mono hJ1')⟩
          · obtain ⟨v, e, rr⟩ := hmI.slots i s hs
            have hiL := (hS pre).slots i s hs
            exact ⟨v, by rw [hfold.2.1 i (fun h => (hps i h).1 hiL)]; exact e, rr⟩ }
    refine wpIn_mono (hround _ pre row hpre hiv z1 _ W hmR) ?_
    rintro e a1 w1 ⟨z, K1, xe, hz, hex, hmz, hq⟩
    cases e with
    | normal =>
      cases xe <;> first | exact hex.elim | skip
      obtain ⟨hb0n, hbody⟩ := hq
      have hbz := hmz.below
      rw [hz.w0] at hbz
      obtain ⟨i1, i2, i3, i4⟩ := hbz
      have hl1 : w1.heap[w.heap.size + 1]? = some (.loop (rec .ready none)) := (i4 _ hlR).2.trans hl
      refine ⟨_, run_beginRound hl1 (by rw [hrec]), ?_⟩
      obtain ⟨busy, hbusy⟩ : ∃ lp : Loop, lp = { rec .ready none with state := .busy } := ⟨_, rfl⟩
      rw [← hbusy]
      obtain ⟨w2, hw2⟩ : ∃ w2, w1.putObj (w.heap.size + 1) (.loop busy) = w2 := ⟨_, rfl⟩
      have hlt1 : w.heap.size + 1 < w1.heap.size := (Array.getElem?_eq_some_iff.1 hl1).1
      have hsz2 : w2.heap.size = w1.heap.size := by rw [← hw2]; simp
      have hl2 : w2.heap[w.heap.size + 1]? = some (.loop busy) := by rw [← hw2]; exact World.putObj_heap_same hlt1
      have ho2 : ∀ k : Nat, k ≠ w.heap.size + 1 → w2.heap[k]? = w1.heap[k]? := fun k hk => by rw [← hw2]; exact World.putObj_heap_other hk
      have hcell2 : ∀ b o v, z.J b o = some v → vc w2 b o = some v := fun b o v hv => by rw [← hw2]; exact cell_put hl1 (hmz.holds b o v hv)
      have hzl : ∀ b B sz t, z.β b = .live B sz t → B ≠ w.heap.size + 1 ∧ y.w0.heap.size ≤ B ∧ ¬ R B := fun b B sz t hβ => by
        obtain ⟨g1, g2, g3, vals, T, fr, hc⟩ := hmz.blockOf hβ
        refine ⟨fun e => ?_, by rw [hz.w0] at g2; exact g2, fun hR => g3 ((i3 B).2 hR)⟩
        rw [e, hl1] at hc; cases hc
      have hm2 := hmz.reframe (a2 := a1) (w2 := w2) (B2 := Base.round y.w0 y.oth K.gh w2 R a.tmps hyR) (oth2 := R) (J2 := z.J) (g2 := K1.gh) (fro2 := K1.fro) (b02 := K1.b0)
        ⟨by have := hmz.fro.1; rw [hz.w0] at this; exact this, fun n J h => by rw [hb0n] at h; cases h⟩ hmz.size (fun _ _ _ => rfl)
        (by
          have hmk := hmz.defers
          rw [hz.w0] at hmk
          exact Marks.turn (fun d hd D hDt => by
            have h1 := marks_at hmk d hd D hDt
            exact ⟨ho2 D (fun e => by rw [e, hl1] at h1; cases h1.1), fun hR => h1.2.2 ((i3 D).2 hR)⟩) hmk)
        ⟨y.w0.up _ _ _ _ _ i1 (by rw [← hw2]; exact below_put (by omega)) (fun k hk => ho2 k (by have := hoy k hk; omega)) hcell2, Nat.le_refl _, fun _ => Iff.rfl, fun k hk => ⟨by rw [hsz2]; exact Nat.lt_of_lt_of_le (i4 k hk).1 i2, rfl⟩⟩
        hcell2 (fun _ _ _ => rfl) (fun b B sz t hβ => ⟨ho2 B (hzl b B sz t hβ).1, (hzl b B sz t hβ).2.1, (hzl b B sz t hβ).2.2⟩)
      rw [hw2]
      refine wpIn_mono (hbody _ a1 w2 hm2) ?_
      rintro e3 a3 w3 ⟨z3, K3, xe3, hz3, hex3, hm3, hq3⟩
      -- the round's end
      have fin : ∀ (jump : Option Code) (T : Know), OfK K L T → Sub (inner T L) K3 → ∃ v w4, (Instr.endRound (w.heap.size + 1) jump).run P w3 = .ok v w4 ∧ v = .bool jump.isNone ∧ Keeps W1.heap.size oth W w4 ∧
          (∀ b o v, J' b o = some v → vc w4 b o = some v) ∧ w4.heap.size = w3.heap.size ∧ H (rec (if jump.isNone then .ready else .done) jump) T (fun k => oth k ∨ (W.heap.size ≤ k ∧ k < w4.heap.size)) J' w4 := by
        intro jump T hT hsub
        obtain ⟨z4, hz4, hm4⟩ := hsub z3 a3 w3 hm3
        have hz4w : z4.w0 = Base.round y.w0 y.oth K.gh w2 R a.tmps hyR := hz4.w0.trans hz3.w0
        have hz4J : z4.J0 = z.J := hz4.J0.trans hz3.J0
        have hb4 := hm4.below
        rw [hz4w] at hb4
        obtain ⟨j1, j2, j3, j4⟩ := hb4
        have hl3 : w3.heap[w.heap.size + 1]? = some (.loop busy) := (j4 _ hlR).2.trans hl2
        have hlt3 := (Array.getElem?_eq_some_iff.1 hl3).1
        have hlpe : ({ busy with state := if jump.isNone then .ready else .done, pending := jump } : Loop) = rec (if jump.isNone then .ready else .done) jump := by rw [hbusy, hrec]
        have hend4 := run_endRound (P := P) jump hl3
        rw [hlpe] at hend4
        obtain ⟨w4, hw4⟩ : ∃ w4, w3.putObj (w.heap.size + 1) (.loop (rec (if jump.isNone then .ready else .done) jump)) = w4 := ⟨_, rfl⟩
        rw [hw4] at hend4
        have hs4 : w4.heap.size = w3.heap.size := by rw [← hw4]; simp
        have ho4 : ∀ k : Nat, k ≠ w.heap.size + 1 → w4.heap[k]? = w3.heap[k]? := fun k hk => by rw [← hw4]; exact World.putObj_heap_other hk
        have hR4 : ∀ k : Nat, R k → k ≠ w.heap.size + 1 → w4.heap[k]? = W.heap[k]? := fun k hk hne => (ho4 k hne).trans ((j4 k hk).2.trans ((ho2 k hne).trans (i4 k hk).2))
        have hcell4 : ∀ b o v, z4.J b o = some v → vc w4 b o = some v := fun b o v hv => by rw [← hw4]; exact cell_put hl3 (hm4.holds b o v hv)
        have hJz : ∀ b o v, J1 b o = some v → z4.J b o = some v := fun b o v hv => hz4.J b o v (hz3.J b o v (hz.J b o v hv))
        have hWw4 : W.heap.size ≤ w4.heap.size := by omega
        have hz4l : ∀ b B sz t, z4.β b = .live B sz t → B ≠ w.heap.size + 1 ∧ y.w0.heap.size ≤ B ∧ ¬ R B ∧ B < w3.heap.size := fun b B sz t hβ => by
          obtain ⟨g1, g2, g3, vals, T, fr, hc⟩ := hm4.blockOf hβ
          refine ⟨fun e => ?_, by rw [hz4w] at g2; exact g2, fun hR => g3 ((j3 B).2 hR), g1⟩
          rw [e, hl3] at hc; cases hc
        have hJold : ∀ b o, (b < y.w0.heap.size ∨ R b) → z4.J b o = J1 b o := fun b o hb => by
          have e1 := hm4.old b o (by
            rcases hb with h | h
            · left; rw [hz4w]; exact h
            · right; exact (j3 b).2 h)
          have e2 := hmz.old b o (by
            rcases hb with h | h
            · left; rw [hz.w0]; exact h
            · right; exact (i3 b).2 h)
          rw [e1, hz4J, e2, hz.J0]
        have hnotR : ∀ k, k < W.heap.size → ¬ R k → k < W1.heap.size ∨ oth k := fun k hk hn => by
          by_cases hex : ∃ b sz t, y.β b = .live k sz t
          · obtain ⟨b, sz, t, hβ⟩ := hex; exact hlv b k sz t hβ
          · exact absurd ⟨hk, fun b sz t hβ => hex ⟨b, sz, t, hβ⟩⟩ hn
        refine ⟨_, w4, hend4, rfl, ⟨hWw4, fun k h1 h2 h3 => ?_⟩, fun b o v hv => hcell4 b o v (hJz b o v (hJ1' b o v hv)), hs4, ?_⟩
        · by_cases hR : R k
          · exact hR4 k hR (by omega)
          · rcases hnotR k h2 hR with h | h
            · omega
            · exact absurd h h3
        · refine ⟨{ z4 with w0 := y.w0, oth := y.oth, J0 := y.J0 }, ⟨fun b o v hv => hJz b o v (hJ1y b o v (hy.J b o v hv)), hy.w0, hy.J0⟩, hyo, ?_, by rw [← hw4]; exact World.putObj_heap_same hlt3, (hR4 _ hDR (by omega)).trans hD, fun b B sz t hβ => ?_, fun b o v hv => ?_⟩
          · have hfr : ∀ i ∈ L, a3.tmps[i]? = a.tmps[i]? := fun i hi => by have := hm4.fro.1 i hi; rw [hz4w] at this; exact this
            have := hm4.reframe (a2 := a) (w2 := w4) (B2 := y.w0) (oth2 := y.oth) (J2 := y.J0) (g2 := K.gh) (fro2 := K.fro) (b02 := K.b0)
              ⟨by have := hmy.fro.1; rw [(hS pre).fro] at this; exact this, by have := hmy.fro.2; rw [(hS pre).b0] at this; exact this⟩ (by rw [hm.size]; exact hT.n.symm)
              (fun i s hs => (hfr i (hT.slots i s hs)).symm)
              (Marks.turn (fun d hd D hDt => ⟨hR4 D (hdR d hd D hDt) (by have := hlow d hd D hDt; omega), (marks_at hmy.defers d hd D hDt).2.2⟩) hmy.defers)
              (y.w0.up _ _ _ _ _ j1 (by rw [← hw4]; exact below_put (by omega)) (fun k hk => ho4 k (by have := hoy k hk; omega)) hcell4) hcell4
              (fun b o hb => by rw [hJold b o (hb.imp id (hyR b)), hJ1low b o hb]; exact hmy.old b o hb)
              (fun b B sz t hβ => ⟨ho4 B (hz4l b B sz t hβ).1, (hz4l b B sz t hβ).2.1, fun h => (hz4l b B sz t hβ).2.2.1 (hyR B h)⟩)
            have heT : ({ inner T L with gh := K.gh, fro := K.fro, b0 := K.b0 } : Know) = T := by
              obtain ⟨q1, q2, q3, q4, q5⟩ := hT
              cases T
              simp only [inner] at *
              subst q2; subst q3; subst q4
              rfl
            rw [heT] at this
            exact this
          · obtain ⟨g1, g2, g3, g4⟩ := hz4l b B sz t hβ
            rcases Nat.lt_or_ge B W.heap.size with hlt | hge
            · exact (hnotR B hlt g3).imp id .inl
            · exact .inr (.inr ⟨hge, by omega⟩)
          · rcases Nat.lt_or_ge b W.heap.size with hlt | hge
            · by_cases hR : R b
              · have hv' : z4.J b o = some v := hv
                rw [hJold b o (.inr hR)] at hv'
                rcases hJ1c b o v hv' with h | h
                · exact (hJc b o v h).imp id (Or.imp .inl id)
                · exact .inr (.inr h.2)
              · exact (hnotR b hlt hR).imp id fun h => .inl (.inl h)
            · have := vc_lt (hcell4 b o v hv)
              exact .inr (.inl (.inr ⟨hge, this⟩))
      cases e3 with
      | normal =>
        cases xe3 <;> first | exact hex3.elim | skip
        obtain ⟨v, w4, hrun4, rfl, hk, hc, hs4, hH⟩ := fin none _ (hS _) hq3.2
        refine ⟨_, w4, hrun4, hk, hc, _, fun k h => .inl h, fun k h => ?_, fun k h hn => ?_, .inl ⟨rfl, hq3.1, hH⟩⟩
        · rcases h with h | h
          · exact ⟨(hoth k h).1, Nat.lt_of_lt_of_le (hoth k h).2 hk.1⟩
          · exact ⟨by omega, h.2⟩
        · rcases h with h | h
          · exact absurd h hn
          · exact h.1
      | ret =>
        cases xe3 <;> first | exact hex3.elim | skip
        obtain ⟨T, hT, hsub, hQ⟩ := hq3
        obtain ⟨v, w4, hrun4, rfl, hk, hc, hs4, hH⟩ := fin (some .ret) T hT hsub
        refine ⟨_, w4, hrun4, hk, hc, _, fun k h => .inl h, fun k h => ?_, fun k h hn => ?_, .inr ⟨rfl, .ret, T, hT, hH, .inl ⟨rfl, hQ⟩⟩⟩
        · rcases h with h | h
          · exact ⟨(hoth k h).1, Nat.lt_of_lt_of_le (hoth k h).2 hk.1⟩
          · exact ⟨by omega, h.2⟩
        · rcases h with h | h
          · exact absurd h hn
          · exact h.1
      | exit id =>
        cases xe3 <;> first | exact hex3.elim | skip
        have hid : id = _ := hex3
        subst hid
        obtain ⟨T, hT, hsub, hQ⟩ := hq3
        obtain ⟨v, w4, hrun4, rfl, hk, hc, hs4, hH⟩ := fin (some (.exit id)) T hT hsub
        refine ⟨_, w4, hrun4, hk, hc, _, fun k h => .inl h, fun k h => ?_, fun k h hn => ?_, .inr ⟨rfl, .exit id, T, hT, hH, .inr ⟨id, rfl, hQ⟩⟩⟩
        · rcases h with h | h
          · exact ⟨(hoth k h).1, Nat.lt_of_lt_of_le (hoth k h).2 hk.1⟩
          · exact ⟨by omega, h.2⟩
        · rcases h with h | h
          · exact absurd h hn
          · exact h.1
      | panic ch => cases xe3 <;> first | exact hex3.elim | exact hq3.elim
      | goto t => cases xe3 <;> exact hex3.elim
      | outgrown => cases xe3 <;> exact hex3.elim
    | exit id => cases xe <;> first | exact hex.elim | exact hq.elim
    | ret => cases xe <;> first | exact hex.elim | exact hq.elim
    | panic ch => cases xe <;> first | exact hex.elim | exact hq.elim
    | goto t => cases xe <;> exact hex.elim
    | outgrown => cases xe <;> exact hex.elim
  · refine ⟨hi0, y0, Ctx.ext_refl _, rfl, hm1, hL1, hK1, fun b B sz t hβ => .inl (by have := (hm0.blockOf hβ).1; omega), fun b o v hv => .inl ?_⟩
    have := vc_lt (hm1.holds b o v hv)
    exact this
  · rintro e W2 ⟨⟨v, rfl⟩, oth, J', hfin⟩
    rcases hfin with ⟨hiv, hH⟩ | ⟨c, T, hT, hH, hc⟩
    · obtain ⟨W3, hrun, y, hxy, hmy⟩ := hend _ _ _ _ _ (by rw [hrec]; simp) (hS ys) hH
      refine ⟨_, W3, hrun, ?_⟩
      rw [hrec]
      exact ⟨y, S ys, .normal, hxy, trivial, hmy, hdone hiv⟩
    · obtain ⟨W3, hrun, y, hxy, hmy⟩ := hend _ _ _ _ _ (by rw [hrec]; simp) hT hH
      refine ⟨_, W3, hrun, ?_⟩
      rw [hrec]
      rcases hc with ⟨rfl, hq⟩ | ⟨id, rfl, hq⟩
      · exact wpIn_ret ⟨y, T, .ret, hxy, trivial, hmy, hq⟩
      · exact wpIn_exit ⟨y, T, .exit id, hxy, rfl, hmy, hq⟩

attribute [simp] Know.iter roundK inner

end Go.Bf

/-
  Further rules for walks. Nothing is claimed here.
-/
namespace Go.Bf
open Go Go.RowKit
variable {P : Program} {r : Option Nat}
/-- A test has come out so. -/
def Tt (b : Bool) : Prop := b = true
def Ff (b : Bool) : Prop := b = false
@[simp] theorem Tt_true : Tt true = True := by simp [Tt]
@[simp] theorem Tt_false : Tt false = False := by simp [Tt]
@[simp] theorem Ff_true : Ff true = False := by simp [Ff]
@[simp] theorem Ff_false : Ff false = True := by simp [Ff]
def CondB (P : Program) (r : Option Nat) (c : Operand) (t e : Code) (Q : XE → Know → Prop) (K : Know) : Prop :=
  match rdK K true c with
  | some (p, .d (.bool b)) => p ∧ (Tt b → DWp P r t Q K) ∧ (Ff b → DWp P r e Q K)
  | _ => False
theorem DWp.condB {c : Operand} {t e : Code} {Q : XE → Know → Prop} {K : Know} (h : CondB P r c t e Q K) : DWp P r (.cond c t e) Q K := DWp.cond h
attribute [simp] CondB
/-! ### Rows that may not be there -/
@[simp] theorem loadRow_B {l : List UInt8} {i : Nat} : loadRow (.int .u8) ((Option.map rowB l[i]?).getD []) = some (i < l.length, .d (cB (l.getD i 0))) := by
  by_cases h : i < l.length
  · simp [h, rowB, cB, List.getD_eq_getElem?_getD]
  · simp [h, dflt, cB]
@[simp] theorem loadCell_B {l : List UInt8} {i : Nat} : loadCell (.int .u8) (Option.map (SV.d ∘ cB) l[i]?) = some (i < l.length, .d (cB (l.getD i 0))) := by
  by_cases h : i < l.length
  · simp [h, cB, List.getD_eq_getElem?_getD]
  · simp [h, dflt, cB]
@[simp] theorem renL_mapc {α : Type} (ρ : Nat → Nat) (f : α → DV) (l : List α) : renL ρ (l.map (SV.d ∘ f)) = l.map (SV.d ∘ f) := renL_mapd ρ f l
@[simp] theorem frzL_mapc {α : Type} (b : Nat) (ds : List DV) (f : α → DV) (l : List α) : frzL b ds (l.map (SV.d ∘ f)) = l.map (SV.d ∘ f) := frzL_mapd b ds f l
@[simp] theorem allD_mapc {α : Type} (f : α → DV) (l : List α) : allD (l.map (SV.d ∘ f)) = some (l.map f) := allD_map f l
@[simp] theorem renL_mapD (ρ : Nat → Nat) (l : List DV) : renL ρ (l.map SV.d) = l.map SV.d := by simpa using renL_mapd ρ id l
@[simp] theorem frzL_mapD (b : Nat) (ds : List DV) (l : List DV) : frzL b ds (l.map SV.d) = l.map SV.d := by simpa using frzL_mapd b ds id l
@[simp] theorem allD_mapD (l : List DV) : allD (l.map SV.d) = some l := allD_mapd l
@[simp] theorem rowB_len1 {l : List UInt8} {i : Nat} : ((Option.map rowB l[i]?).getD []).length = 1 ↔ i < l.length := by
  by_cases h : i < l.length
  · simp [h, rowB]
  · simp [h]
end Go.Bf

/-
  Regions that draw their order. Part 4: plans that take quiet operations first, with the local blocks named that they look at; two or three ways. Nothing is claimed here.
-/
namespace Go.Bf
open Go Go.RowKit
variable {P : Program} {r : Option Nat}

/-- The local block that an operation writes. -/
def touchF (rd : Operand → Option SV) : Op → Option Nat
  | .store _ u _ => match rd u with
    | some (.loc b _) => some b
    | _ => none
  | .mapUpdate _ u _ _ => match rd u with
    | some (.mp b) => some b
    | _ => none
  | .call { callee := .builtin .append, args := args, .. } => match args.toList with
    | u :: _ => match rd u with
      | some (.own b _ _ _ _) => some b
      | _ => none
    | _ => none
  | .call { callee := .builtin .copy, args := args, .. } => match args.toList with
    | u :: _ => match rd u with
      | some (.own b _ _ _ _) => some b
      | _ => none
    | _ => none
  | .call { callee := .builtin .clear, args := args, .. } => match args.toList with
    | u :: _ => match rd u with
      | some (.own b _ _ _ _) => some b
      | _ => none
    | _ => none
  | _ => none
theorem keep_new {K : Know} {t : TypeId} {cs : List SV} : ∀ b, b ≠ K.nx → (K.newB t cs).mem b = K.mem b := fun b hb => by simp [Know.newB, Bf.put, hb]
theorem opX_touch {K : Know} {rd : Operand → Option SV} {op : Op} {k k' : SV → Know → Prop} (h : opX P K rd op k)
    (hk : ∀ s K', K.nx ≤ K'.nx → (∀ b, b < K.nx → touchF rd op ≠ some b → K'.mem b = K.mem b) → k s K' → k' s K') : opX P K rd op k' := by
  have hnew : ∀ (op : Op) t cs, K.nx ≤ (K.newB t cs).nx ∧ ∀ b, b < K.nx → touchF rd op ≠ some b → (K.newB t cs).mem b = K.mem b := fun op t cs => ⟨Nat.le_succ _, fun b hb _ => keep_new b (by omega)⟩
  cases op with
  | alloc t =>
    simp only [opX, opM] at h ⊢
    split at h
    · exact hk _ _ (hnew (.alloc 0) _ _).1 (hnew _ _ _).2 h
    · exact h.elim
  | box t u =>
    simp only [opX, opM] at h ⊢
    split at h
    · split at h
      · rename_i hc; rw [if_pos hc]; exact hk _ _ (hnew (.alloc 0) _ _).1 (hnew _ _ _).2 h
      · exact h.elim
    · exact h.elim
  | store t u v =>
    simp only [opX, opM] at h ⊢
    split at h
    · rename_i b off s h1 h2
      cases hb : K.mem b with
      | live bt cells =>
        simp only [hb] at h ⊢
        split at h
        · rename_i hc; rw [if_pos hc]
          refine ⟨h.1, hk _ _ (Nat.le_refl _) (fun b' _ hne => ?_) h.2⟩
          simp only [touchF, h1] at hne
          have : b' ≠ b := fun e => hne (by rw [e])
          simp [Know.setB, Bf.put, this]
        · exact h.elim
      | _ => simp only [hb] at h
    · exact h.elim
  | makeSlice t l c =>
    simp only [opX, opM] at h ⊢
    split at h
    · split at h
      · split at h
        · exact ⟨h.1, hk _ _ (hnew (.alloc 0) _ _).1 (hnew _ _ _).2 h.2⟩
        · exact h.elim
      · exact h.elim
    · exact h.elim
  | buildSlice t n parts =>
    simp only [opX, opM] at h ⊢
    split at h
    · split at h
      · exact hk _ _ (hnew (.alloc 0) _ _).1 (hnew _ _ _).2 h
      · exact h.elim
    · exact h.elim
  | makeMap t r =>
    have keep : ∀ (o : MO) b, b < K.nx → (K.newO o).mem b = K.mem b := fun o b hb => by simp [Know.newO, Bf.put, show b ≠ K.nx by omega]
    cases r with
    | none =>
      simp only [opX, opM] at h ⊢
      split at h
      · exact hk _ _ (Nat.le_succ _) (fun b hb _ => keep _ b hb) h
      · exact h.elim
    | some u =>
      simp only [opX, opM] at h ⊢
      split at h
      · exact hk _ _ (Nat.le_succ _) (fun b hb _ => keep _ b hb) h
      · exact h.elim
  | mapUpdate t m i v =>
    simp only [opX, opM] at h ⊢
    split at h
    · rename_i b key s kt z h1 h2 h3 h4
      cases hb : K.mem b with
      | mp o =>
        cases o with
        | map es =>
          simp only [hb] at h ⊢
          refine ⟨h.1, hk _ _ (Nat.le_refl _) (fun b' _ hne => ?_) h.2⟩
          simp only [touchF, h1] at hne
          have : b' ≠ b := fun e => hne (by rw [e])
          simp [Know.setB, Bf.put, this]
        | _ => simp only [hb] at h
      | _ => simp only [hb] at h
    · exact h.elim
  | call c =>
    obtain ⟨callee, args, ts⟩ := c
    cases callee with
    | builtin bi =>
      cases bi with
      | append =>
        simp only [opX, opA] at h ⊢
        split at h
        · rename_i u v t t' hargs hts
          split at h
          · split at h
            · rename_i ek s q _ hu _ _ _ vc n news _ _
              cases s with
              | own b wd off len c =>
                cases off with
                | zero =>
                  simp only at h ⊢
                  cases hb : K.mem b with
                  | live bt cells =>
                    simp only [hb] at h ⊢
                    refine ⟨h.1, hk _ _ (Nat.le_succ _) (fun b' hlt hne => ?_) h.2⟩
                    simp only [touchF, hargs, hu] at hne
                    have : b' ≠ b := fun e => hne (by rw [e])
                    rw [keep_new b' (by show b' ≠ K.nx; omega)]
                    simp [Know.setB, Bf.put, this]
                  | _ => simp only [hb] at h
                | succ o => exact h.elim
              | clip xs =>
                exact ⟨h.1, h.2.1, h.2.2.1, h.2.2.2.1, fun hn => hk _ _ (Nat.le_refl _) (fun _ _ _ => rfl) (h.2.2.2.2.1 hn), fun hn => hk _ _ (hnew (.alloc 0) _ _).1 (fun b hb _ => keep_new b (by omega)) (h.2.2.2.2.2 hn)⟩
              | _ => exact h.elim
            · exact h.elim
          · exact h.elim
        · exact h.elim
      | copy =>
        simp only [opX, opC] at h ⊢
        split at h
        · rename_i u v t t' hargs hts
          split at h
          · rename_i ek b wd off len c q _ hu _
            split at h
            · rename_i hb _
              refine ⟨h.1, hk _ _ (Nat.le_refl _) (fun b' _ hne => ?_) h.2⟩
              simp only [touchF, hargs, hu] at hne
              have : b' ≠ b := fun e => hne (by rw [e])
              simp [Know.setB, Bf.put, this]
            · exact h.elim
          · exact h.elim
        · exact h.elim
      | clear =>
        simp only [opX, opZ] at h ⊢
        split at h
        · rename_i u t hargs hts
          split at h
          · rename_i ek b wd off len c _ hu
            split at h
            · rename_i hb
              refine ⟨h.1, hk _ _ (Nat.le_refl _) (fun b' _ hne => ?_) h.2⟩
              simp only [touchF, hargs, hu] at hne
              have : b' ≠ b := fun e => hne (by rw [e])
              simp [Know.setB, Bf.put, this]
            · exact h.elim
          · exact h.elim
        · exact h.elim
      | _ => exact h.elim
    | _ => exact h.elim
  | _ => exact h.elim

theorem opX_and {K : Know} {rd : Operand → Option SV} {op : Op} {k : SV → Know → Prop} (h : opX P K rd op k) :
    opX P K rd op fun s K' => (Kept op K K' ∧ K.nx ≤ K'.nx ∧ ∀ b, b < K.nx → touchF rd op ≠ some b → K'.mem b = K.mem b) ∧ k s K' := by
  have h1 := opX_touch (k' := fun s K' => (K.nx ≤ K'.nx ∧ ∀ b, b < K.nx → touchF rd op ≠ some b → K'.mem b = K.mem b) ∧ k s K') h (fun s K' g1 g2 g3 => ⟨⟨g1, g2⟩, g3⟩)
  exact opX_kept h1 fun s K' g1 g2 => ⟨⟨g1, g2.1.1, g2.1.2⟩, g2.2⟩

/-- Only some local blocks are looked at. -/
def mask (F : List Nat) (m m' : Mem) : Mem := fun b => if b ∈ F then m b else m' b
theorem mask_eq {F : List Nat} {a b m : Mem} (h : ∀ x ∈ F, a x = b x) : mask F a m = mask F b m := funext fun x => by
  unfold mask
  split
  · rename_i hx; exact h x hx
  · rfl
theorem mask_self (F : List Nat) (m : Mem) : mask F m m = m := funext fun x => by simp [mask]

/-- What a quiet operation yields that looks at these local blocks alone. -/
def ValP (P : Program) (im : Bool) (ops : Array Oper) (F : List Nat) (K : Know) (o : Oper) (s : SV) : Prop :=
  ∃ G, guardG K ops o = some G ∧ dstOk K o.dst ∧ ∃ s0, s = mkc o.guard G s0 ∧ opClass im o.op = .quiet ∧ (∀ b ∈ F, b < K.nx) ∧ ∃ vc, (∀ m : Mem, quietF P im { K with mem := mask F K.mem m } G o.op = some (vc, s0)) ∧ (G = true → vc)
theorem ValP.val {im : Bool} {ops : Array Oper} {F : List Nat} {K : Know} {o : Oper} {s : SV} (h : ValP P im ops F K o s) : Val P im ops K o s := by
  obtain ⟨G, h1, h2, s0, h3, h4, _, vc, h5, h6⟩ := h
  refine ⟨G, h1, h2, s0, h3, ?_⟩
  rw [h4]
  have := h5 K.mem
  rw [mask_self] at this
  exact ⟨vc, this, h6⟩
theorem ValP.stable {im : Bool} {ops : Array Oper} {F : List Nat} {K K' : Know} {o : Oper} {s : SV} (hv : ValP P im ops F K o s) (hn : K'.n = K.n) (hfr : K'.fro = K.fro) (hs : ∀ t ∈ o.looksAt ops, K'.slots t = K.slots t) (hnx : K.nx ≤ K'.nx)
    (hm : ∀ b ∈ F, b < K.nx → K'.mem b = K.mem b) : ValP P im ops F K' o s := by
  obtain ⟨G, h1, h2, s0, h3, h4, h0, vc, h5, h6⟩ := hv
  refine ⟨G, (guardG_congr hs).trans h1, dstOk_n hn hfr h2, s0, h3, h4, fun b hb => Nat.lt_of_lt_of_le (h0 b hb) hnx, vc, fun m => ?_, h6⟩
  rw [mask_eq (a := K'.mem) (b := K.mem) fun b hb => hm b hb (h0 b hb)]
  exact quietF_congr (K := { K with mem := mask F K.mem m }) (K' := { K' with mem := mask F K.mem m }) (fun t ht => hs t (looks_op ht)) (.inr ⟨fun _ _ _ h => h, fun _ _ h => h⟩) (h5 m)

/-! ### Steps that leave some blocks be -/
def StepQ (P : Program) (im : Bool) (ops : Array Oper) (C : Nat → Prop) (o : Oper) (k : Know → Prop) (K : Know) : Prop :=
  (∃ s, Val P im ops K o s ∧ k (K.put o.dst s)) ∨
  (opClass im o.op = .mem ∧ guardG K ops o = some true ∧ dstOk K o.dst ∧ conds K true o.op.operands.toList ∧ (∀ b, touchF (rdS K true) o.op = some b → C b) ∧ opX P K (rdS K true) o.op fun s K' => k (K'.put o.dst s))
theorem StepQ.g {im : Bool} {ops : Array Oper} {C : Nat → Prop} {o : Oper} {k : Know → Prop} {K : Know} (h : StepQ P im ops C o k K) : StepG P im ops o k K := by
  rcases h with h | ⟨a, b, c, d, _, e⟩
  · exact .inl h
  · exact .inr ⟨a, b, c, d, e⟩
theorem StepQ.imp {im : Bool} {ops : Array Oper} {C C' : Nat → Prop} {o : Oper} {k k' : Know → Prop} {K : Know} (h : StepQ P im ops C o k K) (hC : ∀ b, C b → C' b) (hk : ∀ K, k K → k' K) : StepQ P im ops C' o k' K := by
  rcases h with ⟨s, hv, h⟩ | ⟨a, b, c, d, e, f⟩
  · exact .inl ⟨s, hv, hk _ h⟩
  · exact .inr ⟨a, b, c, d, fun x hx => hC x (e x hx), opX_kept f fun s K' _ h => hk _ h⟩
theorem StepQ.fr {im : Bool} {ops : Array Oper} {C : Nat → Prop} {o : Oper} {k : Know → Prop} {K : Know} (h : StepQ P im ops C o k K) (hf : Fr K) : StepQ P im ops C o (fun K' => Fr K' ∧ k K') K := by
  rcases h with ⟨s, hv, h⟩ | ⟨h0, h1, h2, h3, h3', h4⟩
  · exact .inl ⟨s, hv, fr_put hf, h⟩
  · exact .inr ⟨h0, h1, h2, h3, h3', opX_kept h4 fun s K' hk h => ⟨fr_put (hk.fr hf), h⟩⟩

/-- An operation that is apart: it makes no difference to it that the other one has been carried out. -/
theorem StepQ.swap {im : Bool} {ops : Array Oper} {oi oj : Oper} {s : SV} {k : Know → Prop} {K : Know} {C C' : Nat → Prop} {V : Know → Prop} (hap : oi.apart ops oj = true) (hf : Fr K) (hC : ∀ b, C' b → C b) (_ : V K)
    (hV1 : ∀ K', K'.n = K.n → K'.fro = K.fro → (∀ t ∈ oi.looksAt ops, K'.slots t = K.slots t) → K'.nx = K.nx → K'.mem = K.mem → V K')
    (hV2 : opClass im oj.op = .mem → ∀ K', K'.n = K.n → K'.fro = K.fro → (∀ t ∈ oi.looksAt ops, K'.slots t = K.slots t) → K.nx ≤ K'.nx → (∀ b, b < K.nx → ¬ C' b → K'.mem b = K.mem b) → (allocOnly oj.op = true → MemLe K.mem K'.mem) → V K')
    (h : StepQ P im ops C' oj k (K.put oi.dst s)) : StepQ P im ops C oj (fun K' => Fr K' ∧ V K' ∧ k (K'.put oi.dst s)) K := by
  obtain ⟨h1, h2, h3⟩ := Oper.apart_spec hap
  have hback : ∀ t ∈ oj.looksAt ops, K.slots t = (K.put oi.dst s).slots t := fun t ht => (slots_put fun e => h1 t e ht).symm
  have hrd : ∀ G u, u ∈ oj.op.operands → rdK (K.put oi.dst s) G u = rdK K G u := fun G u hu => rdK_congr fun t e => (hback t (looks_op (e ▸ hu))).symm
  rcases h with ⟨sj, hvj, hk⟩ | ⟨g00, g0, g1, g2, g5, g4⟩
  · refine .inl ⟨sj, hvj.stable (n_put.symm) (fro_put.symm) (fun t ht => hback t ht) (.inr (by rw [mem_put]; exact ⟨fun _ _ _ h => h, fun _ _ h => h⟩)), fr_put hf, ?_, ?_⟩
    · exact hV1 _ n_put fro_put (fun t ht => slots_put fun e => h3 t e ht) nx_put mem_put
    · rw [← put_put h2]; exact hk
  · have hrd' : ∀ u ∈ oj.op.operands, rdS K true u = rdS (K.put oi.dst s) true u := fun u hu => by simp only [rdS, hrd true u hu]
    have ht : touchF (rdS K true) oj.op = touchF (rdS (K.put oi.dst s) true) oj.op := by
      have hcl : ∀ c : Call, oj.op = .call c → touchF (rdS K true) (.call c) = touchF (rdS (K.put oi.dst s) true) (.call c) := fun c hop => by
        have hm : ∀ u ∈ c.args.toList, rdS K true u = rdS (K.put oi.dst s) true u := fun u hu => hrd' u (by rw [hop]; simp only [Op.operands, Call.operands]; simp at hu; simp [hu])
        obtain ⟨cal, args, ts⟩ := c
        simp only at hm
        cases cal with
        | builtin bi =>
          cases bi <;> simp only [touchF]
          all_goals
            cases hl : args.toList with
            | nil => rfl
            | cons u us => simp only; rw [hm u (by rw [hl]; simp)]
        | _ => rfl
      cases hop : oj.op with
      | store t u v => simp only [touchF]; rw [hrd' u (by rw [hop]; simp [Op.operands])]
      | mapUpdate t u k v => simp only [touchF]; rw [hrd' u (by rw [hop]; simp [Op.operands])]
      | call c => exact hcl c hop
      | _ => rfl
    refine .inr ⟨g00, (guardG_congr hback).trans g0, dstOk_n n_put.symm fro_put.symm g1, ?_, fun b hb => hC b (g5 b (ht ▸ hb)), ?_⟩
    · rw [conds_congr (K' := K.put oi.dst s) fun u hu => (hrd true u (by simpa using hu)).symm]; exact g2
    · rw [opX_congr (rd' := rdS (K.put oi.dst s) true) hrd']
      rw [opX_put] at g4
      refine opX_kept (opX_and g4) fun sj K' hkept hk => ⟨fr_put (hkept.fr hf), ?_, ?_⟩
      · refine hV2 g00 _ (n_put.trans hkept.n) (fro_put.trans hkept.fro) (fun t ht => (slots_put fun e => h3 t e ht).trans (by rw [hkept.slots])) (by rw [nx_put]; exact hk.1.2.1) (fun b hb hnc => ?_) (fun hal => by rw [mem_put]; exact hkept.le hal hf)
        rw [mem_put]
        exact hk.1.2.2 b hb fun e => hnc (g5 b e)
      · rw [← put_put h2]; exact hk.2

/-- A call by whatever contract: where it is the one operation that may come next. -/
def StepC (P : Program) (im : Bool) (ops : Array Oper) (o : Oper) (k : Know → Prop) (K : Know) : Prop :=
  opClass im o.op = .call ∧ guardG K ops o = some true ∧ dstOk K o.dst ∧ ∃ f ss, callF (rdS K true) o.op = some (f, ss) ∧ conds K true o.op.operands.toList ∧ Enters P f ∧ CallS P f ss K fun o' K' => ∃ s, o' = .ret s ∧ dstOk K' o.dst ∧ k (K'.put o.dst s)
theorem CallS.imp {f : FuncId} {ss : List SV} {K : Know} {k k' : OutS → Know → Prop} (h : CallS P f ss K k) (hk : ∀ o K', Fr K' → k o K' → k' o K') : CallS P f ss K k' := fun x a w vs hm hr =>
  (h x a w vs hm hr).mono fun _ _ ⟨y, K', o, h1, h2, h3, h4⟩ => ⟨y, K', o, h1, h2, h3, hk o K' h2.fresh h4⟩
theorem StepC.imp {im : Bool} {ops : Array Oper} {o : Oper} {k k' : Know → Prop} {K : Know} (h : StepC P im ops o k K) (hk : ∀ K, Fr K → k K → k' K) : StepC P im ops o k' K := by
  obtain ⟨a, b, c, f, ss, d, e, g, h⟩ := h
  exact ⟨a, b, c, f, ss, d, e, g, h.imp fun o K' hf ⟨s, h1, h2, h3⟩ => ⟨s, h1, h2, hk _ (fr_put hf) h3⟩⟩
theorem CallAt.sound {r : Option Nat} {ops : Array Oper} {Q : XE → Know → Prop} {o : Oper} {l : List Oper} {K : Know} {f : FuncId} {ss : List SV} (hG : guardG K ops o = some true) (hcall : callF (rdS K true) o.op = some (f, ss)) (hdst : dstOk K o.dst)
    (hcond : conds K true o.op.operands.toList) (h : CallAt P r ops Q f ss o.dst l K) : OpsWp P r ops Q (o :: l) K := by
  intro x a w hm
  have hw := guardG_sound hm hG
  have hnd : ∀ c, o.op ≠ .defer c := fun c e => by rw [e] at hcall; simp [callF] at hcall
  simp only [opsL]
  rw [if_pos hw]
  have hr := rdS_rep hm hcond
  obtain ⟨he, hc⟩ := h
  obtain ⟨vs, hrun, harr⟩ := callF_run hm (fun u hu s hs => hr u (by simpa using hu) s hs) hcall he
  refine step_enter hnd hrun ((hc x a w vs hm harr).mono ?_)
  rintro e w' ⟨y, K', out, hxy, hm', hes, hk⟩
  cases e with
  | returned v =>
    cases out with
    | ret s => exact opsL_ext hxy _ _ _ (hk.2 y _ _ (hm'.put (dstOk_spec (hk.1 hdst)) hes))
    | pan d => exact hes.elim
  | panicked ch =>
    cases out with
    | ret s => exact hes.elim
    | pan d => exact ⟨y, K', .pan d, hxy, hes, hm', hk⟩
  | outgrown => cases out <;> exact hes.elim
theorem StepC.vc {r : Option Nat} {im : Bool} {ops : Array Oper} {o : Oper} {k : Know → Prop} {Q : XE → Know → Prop} {K : Know} (h : StepC P im ops o k K) : OpsWp P r ops (thenX k Q) [o] K := by
  obtain ⟨h1, h2, h3, f, ss, h4, h5, h6, h7⟩ := h
  refine CallAt.sound h2 h4 h3 h5 ⟨h6, h7.imp fun o' K' _ ⟨s, e, hd, hk⟩ => ?_⟩
  subst e
  exact ⟨fun _ => hd, fun x a w hm => ⟨x, _, .normal, Ctx.ext_refl _, trivial, hm, hk⟩⟩
/-- A call that is lent local memory, and hands back no memory. -/
def ValL (P : Program) (im : Bool) (ops : Array Oper) (K : Know) (o : Oper) (s : SV) : Prop :=
  opClass im o.op = .call ∧ guardG K ops o = some true ∧ dstOk K o.dst ∧ ∃ f ss ds d, callF (rdS K true) o.op = some (f, ss) ∧ conds K true o.op.operands.toList ∧ Enters P f ∧ snapL K.mem ss = some ds ∧ FnWp P f ds (· = .ret d) ∧ d.flat = true ∧ s = .d d
def StepL (P : Program) (im : Bool) (ops : Array Oper) (o : Oper) (k : Know → Prop) (K : Know) : Prop := ∃ s, ValL P im ops K o s ∧ k (K.put o.dst s)
theorem StepL.vc {r : Option Nat} {im : Bool} {ops : Array Oper} {o : Oper} {k : Know → Prop} {Q : XE → Know → Prop} {K : Know} (h : StepL P im ops o k K) : OpsWp P r ops (thenX k Q) [o] K := by
  obtain ⟨s, ⟨h1, h2, h3, f, ss, ds, d, h4, h5, h6, h7, h8, h9, rfl⟩, hk⟩ := h
  exact CallAt.sound h2 h4 h3 h5 (CallAt.lend im h6 h7 h8 h9 hk)
theorem StepL.imp {im : Bool} {ops : Array Oper} {o : Oper} {k k' : Know → Prop} {K : Know} (h : StepL P im ops o k K) (hf : Fr K) (hk : ∀ K, Fr K → k K → k' K) : StepL P im ops o k' K := by
  obtain ⟨s, hv, h⟩ := h
  exact ⟨s, hv, hk _ (fr_put hf) h⟩
theorem StepL.swap {im : Bool} {ops : Array Oper} {oi oj : Oper} {s : SV} {k : Know → Prop} {K : Know} {V : Know → Prop} (hap : oi.apart ops oj = true) (hf : Fr K) (_ : V K)
    (hV1 : ∀ K', K'.n = K.n → K'.fro = K.fro → (∀ t ∈ oi.looksAt ops, K'.slots t = K.slots t) → K'.nx = K.nx → K'.mem = K.mem → V K') (h : StepL P im ops oj k (K.put oi.dst s)) : StepL P im ops oj (fun K' => Fr K' ∧ V K' ∧ k (K'.put oi.dst s)) K := by
  obtain ⟨h1, h2, h3⟩ := Oper.apart_spec hap
  have hback : ∀ t ∈ oj.looksAt ops, K.slots t = (K.put oi.dst s).slots t := fun t ht => (slots_put fun e => h1 t e ht).symm
  have hrd : ∀ G u, u ∈ oj.op.operands → rdK (K.put oi.dst s) G u = rdK K G u := fun G u hu => rdK_congr fun t e => (hback t (looks_op (e ▸ hu))).symm
  obtain ⟨sj, ⟨a1, a2, a3, f, ss, ds, d, a4, a5, a6, a7, a8, a9, rfl⟩, hk⟩ := h
  refine ⟨_, ⟨a1, (guardG_congr hback).trans a2, dstOk_n n_put.symm fro_put.symm a3, f, ss, ds, d, ?_, ?_, a6, by rw [mem_put] at a7; exact a7, a8, a9, rfl⟩, fr_put hf, hV1 _ n_put fro_put (fun t ht => slots_put fun e => h3 t e ht) nx_put mem_put, ?_⟩
  · rw [callF_congr (rd' := rdS (K.put oi.dst s) true) fun u hu => by simp only [rdS, hrd true u hu]]; exact a4
  · rw [conds_congr (K' := K.put oi.dst s) fun u hu => (hrd true u (by simpa using hu)).symm]; exact a5
  · rw [← put_put h2]; exact hk
/-- One order after the other; which blocks each operation may write; G: the calls by whatever contract. -/
def AnyQ (P : Program) (im : Bool) (ops : Array Oper) (G : List Nat) (Q : XE → Know → Prop) (C : Nat → Nat → Prop) : Nat → Array Bool → Know → Prop
  | 0, listed, K => Region.ready .any ops listed = [] ∧ Q .normal K
  | n + 1, listed, K => (Region.ready .any ops listed = [] → Q .normal K) ∧
    ∀ i ∈ Region.ready .any ops listed, ∃ o, ops[i]? = some o ∧ (StepQ P im ops (C i) o (AnyQ P im ops G Q C n (listed.setIfInBounds i true)) K ∨ (i ∈ G ∧ StepC P im ops o (AnyQ P im ops G Q C n (listed.setIfInBounds i true)) K) ∨ StepL P im ops o (AnyQ P im ops G Q C n (listed.setIfInBounds i true)) K)
theorem AnyQ.sound {im : Bool} {ops : Array Oper} {G : List Nat} {Q : XE → Know → Prop} {C : Nat → Nat → Prop} : ∀ (fuel : Nat) (listed : Array Bool) (K : Know), AnyQ P im ops G Q C fuel listed K → ∀ (x0 x : Ctx) (a : Act) (w : World), x0.ext x → Models x K a w →
    wpAnyIn (FW r) 0 P .any ops (Post x0 Q) fuel listed a w := by
  intro fuel
  induction fuel with
  | zero =>
    intro listed K h x0 x a w hx hm
    exact ⟨h.1, x, K, .normal, hx, trivial, hm, h.2⟩
  | succ fuel ih =>
    intro listed K h x0 x a w hx hm
    refine ⟨fun hr => ⟨x, K, .normal, hx, trivial, hm, h.1 hr⟩, fun i hi => ?_⟩
    obtain ⟨o, ho, hs⟩ := h.2 i hi
    have hvc : OpsWp P r ops (thenX (AnyQ P im ops G Q C fuel (listed.setIfInBounds i true)) Q) [o] K := by
      rcases hs with hs | ⟨_, hs⟩ | hs
      · exact VCops_sound _ _ (StepG.vc hs.g)
      · exact hs.vc
      · exact hs.vc
    have hv := hvc x a w hm
    unfold wpOpIn
    simp only [ho]
    simp only [opsL] at hv
    have next : ∀ a' w', Post x (thenX (AnyQ P im ops G Q C fuel (listed.setIfInBounds i true)) Q) .normal a' w' → wpAnyIn (FW r) 0 P .any ops (Post x0 Q) fuel (listed.setIfInBounds i true) a' w' := fun a' w' hp => by
      obtain ⟨y, K', xe, h1, h2, h3, h4⟩ := hp
      cases xe <;> first | exact h2.elim | skip
      exact ih _ _ h4 x0 y a' w' (Ctx.ext_trans hx h1) h3
    split
    · rename_i hw
      rw [if_pos hw] at hv
      refine wpIn_conv next ?_ hv
      rintro e a' w' hne ⟨y, K', xe, h1, h2, h3, h4⟩
      refine ⟨y, K', xe, Ctx.ext_trans hx h1, h2, h3, ?_⟩
      cases xe with
      | normal => cases e <;> first | exact absurd rfl hne | exact h2.elim
      | _ => exact h4
    · rename_i hw
      rw [if_neg hw] at hv
      exact ⟨fun _ _ => about_wide, next _ _ hv⟩

theorem AnyQ.first {im : Bool} {ops : Array Oper} {G : List Nat} {Q : XE → Know → Prop} {i : Nat} {oi : Oper} {s : SV} (hi : ops[i]? = some oi) {V : Know → Prop} {C C' : Nat → Nat → Prop} (hCC : ∀ j b, C' j b → C j b) {A : Nat → Oper → Prop}
    (hval : ∀ K, V K → Val P im ops K oi s) (hsw : ∀ j oj k K, A j oj → Fr K → V K → StepQ P im ops (C' j) oj k (K.put oi.dst s) → StepQ P im ops (C j) oj (fun K' => Fr K' ∧ V K' ∧ k (K'.put oi.dst s)) K)
    (hsl : ∀ j oj k K, A j oj → Fr K → V K → StepL P im ops oj k (K.put oi.dst s) → StepL P im ops oj (fun K' => Fr K' ∧ V K' ∧ k (K'.put oi.dst s)) K) : ∀ (fuel : Nat) (listed : Array Bool) (K : Know), Fr K → Closed ops listed →
    (∀ (j : Nat) oj, ops[j]? = some oj → j ≠ i → listed.getD j true = false → waits ops i ops.size j = false → A j oj) →
    (∀ j ∈ G, j ≠ i → listed.getD j true = false → waits ops i ops.size j = true) →
    i ∈ Region.ready .any ops listed → V K → AnyQ P im ops G Q C' fuel (listed.setIfInBounds i true) (K.put oi.dst s) → AnyQ P im ops G Q C (fuel + 1) listed K := by
  have hmono : ∀ (n : Nat) (l : Array Bool) (K : Know), AnyQ P im ops G Q C' n l K → AnyQ P im ops G Q C n l K := by
    intro n
    induction n with
    | zero => intro l K h; exact h
    | succ n ih =>
      intro l K h
      refine ⟨h.1, fun j hj => ?_⟩
      obtain ⟨o, ho, hs⟩ := h.2 j hj
      refine ⟨o, ho, ?_⟩
      rcases hs with hs | ⟨hg, hs⟩ | ⟨t, hv, hs⟩
      · exact .inl (hs.imp (hCC j) fun K h => ih _ K h)
      · exact .inr (.inl ⟨hg, hs.imp fun K _ h => ih _ K h⟩)
      · exact .inr (.inr ⟨t, hv, ih _ _ hs⟩)
  intro fuel
  induction fuel with
  | zero =>
    intro listed K hf hc hfree hgen hr hv H
    refine ⟨fun h => (by rw [h] at hr; cases hr), fun j hj => ?_⟩
    by_cases hji : j = i
    · subst hji; exact ⟨oi, hi, .inl (.inl ⟨s, hval K hv, H⟩)⟩
    · have := ready_mono hj hji
      rw [H.1] at this; cases this
  | succ fuel ih =>
    intro listed K hf hc hfree hgen hr hv H
    refine ⟨fun h => (by rw [h] at hr; cases hr), fun j hj => ?_⟩
    by_cases hji : j = i
    · subst hji; exact ⟨oi, hi, .inl (.inl ⟨s, hval K hv, hmono _ _ _ H⟩)⟩
    · obtain ⟨oj, hoj, hst⟩ := H.2 j (ready_mono hj hji)
      obtain ⟨hjun, oj', hoj', hall⟩ := mem_ready.1 hj
      rw [hoj] at hoj'; cases hoj'
      have hnw : waits ops i ops.size j = false := by
        cases hw : waits ops i ops.size j with
        | false => rfl
        | true =>
          have h1 := waits_listed hc _ j hw fun o' ho' e he hb => by rw [hoj] at ho'; cases ho'; exact hall e he hb
          have h0 := (mem_ready.1 hr).1
          rcases Nat.lt_or_ge i listed.size with h' | h'
          · simp [h'] at h0 h1; rw [h0] at h1; cases h1
          · simp [Array.getElem?_eq_none h'] at h1
      have hst : StepQ P im ops (C j) oj (fun K' => Fr K' ∧ V K' ∧ AnyQ P im ops G Q C' fuel ((listed.setIfInBounds i true).setIfInBounds j true) (K'.put oi.dst s)) K ∨
          StepL P im ops oj (fun K' => Fr K' ∧ V K' ∧ AnyQ P im ops G Q C' fuel ((listed.setIfInBounds i true).setIfInBounds j true) (K'.put oi.dst s)) K := by
        rcases hst with hst | ⟨hg, _⟩ | hst
        · exact .inl (hsw j oj _ K (hfree j oj hoj hji hjun hnw) hf hv hst)
        · have := hgen j hg hji hjun
          rw [hnw] at this; cases this
        · exact .inr (hsl j oj _ K (hfree j oj hoj hji hjun hnw) hf hv hst)
      suffices key : ∀ K', (Fr K' ∧ V K' ∧ AnyQ P im ops G Q C' fuel ((listed.setIfInBounds i true).setIfInBounds j true) (K'.put oi.dst s)) → AnyQ P im ops G Q C (fuel + 1) (listed.setIfInBounds j true) K' from
        ⟨oj, hoj, hst.elim (fun h => .inl (h.imp (fun _ h => h) key)) (fun h => .inr (.inr (h.imp hf fun K' _ h => key K' h)))⟩
      intro K' hK'
      refine ih _ K' hK'.1 (closed_set hc hj) (fun k ok hk hki hun hno => hfree k ok hk hki ?_ hno) (fun k hk hki hun => hgen k hk hki ?_) (ready_mono hr (Ne.symm hji)) hK'.2.1 ?_
      · by_cases hjk : j = k
        · subst hjk; exact hjun
        · rw [getD_set_ne true hjk] at hun; exact hun
      · by_cases hjk : j = k
        · subst hjk; exact hjun
        · rw [getD_set_ne true hjk] at hun; exact hun
      · rw [Array.setIfInBounds_comm _ _ hji]; exact hK'.2.2

def freeF (ops : Array Oper) (listed : Array Bool) (i : Nat) : Bool :=
  match ops[i]? with
  | none => false
  | some o => (List.range ops.size).all fun j => match ops[j]? with
    | none => true
    | some oj => j == i || listed.getD j true || o.apart ops oj || waits ops i ops.size j
theorem freeF_spec {ops : Array Oper} {listed : Array Bool} {i : Nat} {oi : Oper} (hi : ops[i]? = some oi) (h : freeF ops listed i = true) :
    ∀ (j : Nat) oj, ops[j]? = some oj → j ≠ i → listed.getD j true = false → waits ops i ops.size j = false → oi.apart ops oj = true := fun j oj hj hne hl hw => by
  unfold freeF at h
  rw [hi] at h
  simp only [List.all_eq_true, List.mem_range] at h
  have := h j (Array.getElem?_eq_some_iff.1 hj).1
  rw [hj] at this
  simp only [Bool.or_eq_true, beq_iff_eq] at this
  rcases this with ((h1 | h1) | h1) | h1
  · exact absurd h1 hne
  · rw [hl] at h1; cases h1
  · exact h1
  · rw [hw] at h1; cases h1

/-! ### Plans -/
inductive Pl where
  | done
  | take (i : Nat) (p : Pl)
  | takeP (i : Nat) (F : List Nat) (p : Pl)
  | two (i j : Nat) (p q : Pl)
  | three (i j k : Nat) (p q s : Pl)
  | call (i : Nat) (p : Pl)
  | lend (i : Nat) (p : Pl)

def Pl.depth : Pl → Nat
  | .done => 0
  | .take _ p => p.depth + 1
  | .takeP _ _ p => p.depth + 1
  | .two _ _ p q => max p.depth q.depth + 1
  | .three _ _ _ p q s => max p.depth (max q.depth s.depth) + 1
  | .call _ p => p.depth + 1
  | .lend _ p => p.depth + 1
def genOK (ops : Array Oper) (G : List Nat) (listed : Array Bool) (i : Nat) : Bool := G.all fun j => j == i || listed.getD j true || waits ops i ops.size j
theorem genOK_spec {ops : Array Oper} {G : List Nat} {listed : Array Bool} {i : Nat} (h : genOK ops G listed i = true) : ∀ j ∈ G, j ≠ i → listed.getD j true = false → waits ops i ops.size j = true := fun j hj hne hl => by
  have := List.all_eq_true.1 h j hj
  simp only [Bool.or_eq_true, beq_iff_eq] at this
  rcases this with (h1 | h1) | h1
  · exact absurd h1 hne
  · rw [hl] at h1; cases h1
  · exact h1

def plOK (im : Bool) (ops : Array Oper) (G : List Nat) : Pl → Array Bool → Bool
  | .done, listed => Region.ready .any ops listed == []
  | .take i p, listed => (Region.ready .any ops listed == [i] || ((Region.ready .any ops listed).contains i && freeB im ops listed i && (match ops[i]? with | some o => quietC im o.op | none => false) && genOK ops G listed i)) && plOK im ops G p (listed.setIfInBounds i true)
  | .takeP i _ p, listed => ((Region.ready .any ops listed).contains i && freeF ops listed i && genOK ops G listed i) && plOK im ops G p (listed.setIfInBounds i true)
  | .call i p, listed => (Region.ready .any ops listed == [i] && G.contains i) && plOK im ops G p (listed.setIfInBounds i true)
  | .lend i p, listed => Region.ready .any ops listed == [i] && plOK im ops G p (listed.setIfInBounds i true)
  | .two i j p q, listed => Region.ready .any ops listed == [i, j] && plOK im ops G p (listed.setIfInBounds i true) && plOK im ops G q (listed.setIfInBounds j true)
  | .three i j k p q s, listed => Region.ready .any ops listed == [i, j, k] && plOK im ops G p (listed.setIfInBounds i true) && plOK im ops G q (listed.setIfInBounds j true) && plOK im ops G s (listed.setIfInBounds k true)

/-- The blocks that operation j may write, while some operations have been taken early. -/
def mayT (ops : Array Oper) (pr : List (Nat × List Nat)) (j b : Nat) : Prop := ∀ x ∈ pr, b ∈ x.2 → waits ops x.1 ops.size j = true

def mayB (ops : Array Oper) (pr : List (Nat × List Nat)) (j b : Nat) : Bool := pr.all fun x => !x.2.contains b || waits ops x.1 ops.size j
theorem mayB_spec {ops : Array Oper} {pr : List (Nat × List Nat)} {j b : Nat} (h : mayB ops pr j b = true) : mayT ops pr j b := fun x hx hb => by
  have := List.all_eq_true.1 h x hx
  simpa [hb] using this
@[simp] theorem mayB_nil (ops : Array Oper) (j b : Nat) : mayB ops [] j b = true := rfl

def StepE (P : Program) (im : Bool) (ops : Array Oper) (pr : List (Nat × List Nat)) (j : Nat) (o : Oper) (k : Know → Prop) (K : Know) : Prop :=
  match guardG K ops o with
  | none => False
  | some G =>
    match opClass im o.op with
    | .call => match callF (rdS K G) o.op with
      | some (f, ss) => dstOk K o.dst ∧ (G = true → conds K G o.op.operands.toList) ∧ DetCall P f ss G (@Seal _ ⟨fun d => k (K.put o.dst (mkc o.guard G (.d d)))⟩) .mk
      | none => False
    | .mem => G = true ∧ dstOk K o.dst ∧ conds K true o.op.operands.toList ∧ (match touchF (rdS K true) o.op with | some b => mayB ops pr j b = true | none => True) ∧ opX P K (rdS K true) o.op fun s K' => k (K'.put o.dst s)
    | .quiet => match quietF P im K G o.op with
      | some (vc, s) => dstOk K o.dst ∧ (G = true → vc) ∧ k (K.put o.dst (mkc o.guard G s))
      | none => False
theorem StepE.q {im : Bool} {ops : Array Oper} {pr : List (Nat × List Nat)} {j : Nat} {o : Oper} {k : Know → Prop} {K : Know} (h : StepE P im ops pr j o k K) : StepQ P im ops (mayT ops pr j) o k K := by
  unfold StepE at h
  split at h
  · exact h.elim
  · rename_i G hG
    split at h
    · rename_i hc
      split at h
      · rename_i f ss hcall
        obtain ⟨h1, h2, he, ds, d, h3, h4, h5⟩ := h
        exact .inl ⟨_, ⟨G, hG, h1, _, rfl, by rw [hc]; exact ⟨f, ss, ds, d, hcall, h2, he, h3, h4, rfl⟩⟩, h5⟩
      · exact h.elim
    · rename_i hc
      refine .inr ⟨hc, by rw [hG, h.1], h.2.1, h.2.2.1, fun b hb => ?_, h.2.2.2.2⟩
      have := h.2.2.2.1
      rw [hb] at this
      exact mayB_spec this
    · rename_i hc
      split at h
      · rename_i vc s hq
        exact .inl ⟨_, ⟨G, hG, h.1, _, rfl, by rw [hc]; exact ⟨vc, hq, h.2.1⟩⟩, h.2.2⟩
      · exact h.elim

def StepP (P : Program) (im : Bool) (ops : Array Oper) (F : List Nat) (o : Oper) (k : Know → Prop) (K : Know) : Prop :=
  match guardG K ops o with
  | none => False
  | some G =>
    match opClass im o.op with
    | .quiet => match quietF P im K G o.op with
      | some (vc, s) => (∀ m : Mem, quietF P im { K with mem := mask F K.mem m } G o.op = some (vc, s)) ∧ (∀ b ∈ F, b < K.nx) ∧ dstOk K o.dst ∧ (G = true → vc) ∧ k (K.put o.dst (mkc o.guard G s))
      | none => False
    | _ => False
theorem StepP.val {im : Bool} {ops : Array Oper} {F : List Nat} {o : Oper} {k : Know → Prop} {K : Know} (h : StepP P im ops F o k K) : ∃ s, ValP P im ops F K o s ∧ k (K.put o.dst s) := by
  unfold StepP at h
  split at h
  · exact h.elim
  · rename_i G hG
    split at h
    · rename_i hc
      split at h
      · rename_i vc s hq
        exact ⟨_, ⟨G, hG, h.2.2.1, _, rfl, hc, h.2.1, vc, h.1, h.2.2.2.1⟩, h.2.2.2.2⟩
      · exact h.elim
    · exact h.elim

/-- A call by whatever contract, on what is known. -/
def CallH (P : Program) (f : FuncId) (ss : List SV) (k : SV → Know → Prop) (K : Know) (_ : PTag k) : Prop := Enters P f ∧ CallS P f ss K fun o K' => ∃ s, o = .ret s ∧ k s K'
@[congr] theorem CallH.congr {f : FuncId} {ss ss' : List SV} {k : SV → Know → Prop} {t : PTag k} {K K' : Know} (h1 : ss = ss') (h2 : K = K') : CallH P f ss k K t = CallH P f ss' k K' t := by rw [h1, h2]
def LendC (P : Program) (f : FuncId) (ss : List SV) (k : DV → Prop) (m : Mem) (_ : PTag k) : Prop := Enters P f ∧ ∃ ds d, snapL m ss = some ds ∧ FnWp P f ds (· = .ret d) ∧ d.flat = true ∧ k d
@[congr] theorem LendC.congr {f : FuncId} {ss ss' : List SV} {k : DV → Prop} {t : PTag k} {m m' : Mem} (h1 : ss = ss') (h2 : m = m') : LendC P f ss k m t = LendC P f ss' k m' t := by rw [h1, h2]
theorem LendC.intro {f : FuncId} {ss : List SV} {k : DV → Prop} {m : Mem} {ds : List DV} {d : DV} (he : Enters P f) (hd : snapL m ss = some ds) (h : FnWp P f ds (· = .ret d)) (hf : d.flat = true) {t : PTag (@Seal _ ⟨k⟩)} (hk : k d) : LendC P f ss (@Seal _ ⟨k⟩) m t := ⟨he, ds, d, hd, h, hf, hk⟩
def StepN (P : Program) (ops : Array Oper) (o : Oper) (k : Know → Prop) (K : Know) : Prop :=
  match callF (rdS K true) o.op with
  | some (f, ss) => guardG K ops o = some true ∧ dstOk K o.dst ∧ conds K true o.op.operands.toList ∧ LendC P f ss (@Seal _ ⟨fun d => k (K.put o.dst (.d d))⟩) K.mem .mk
  | none => False
def StepH (P : Program) (ops : Array Oper) (o : Oper) (k : Know → Prop) (K : Know) : Prop :=
  match callF (rdS K true) o.op with
  | some (f, ss) => guardG K ops o = some true ∧ dstOk K o.dst ∧ conds K true o.op.operands.toList ∧ CallH P f ss (@Seal _ ⟨fun s K' => dstOk K' o.dst ∧ k (K'.put o.dst s)⟩) K .mk
  | none => False
def DrawP (P : Program) (im : Bool) (ops : Array Oper) (Q : XE → Know → Prop) : List (Nat × List Nat) → Pl → Know → Prop
  | _, .done, K => Q .normal K
  | pr, .take i p, K => match ops[i]? with | some o => StepE P im ops pr i o (DrawP P im ops Q pr p) K | none => False
  | pr, .takeP i F p, K => match ops[i]? with | some o => StepP P im ops F o (DrawP P im ops Q ((i, F) :: pr) p) K | none => False
  | pr, .two i j p q, K => (match ops[i]? with | some o => StepE P im ops pr i o (DrawP P im ops Q pr p) K | none => False) ∧ (match ops[j]? with | some o => StepE P im ops pr j o (DrawP P im ops Q pr q) K | none => False)
  | pr, .three i j k p q s, K => (match ops[i]? with | some o => StepE P im ops pr i o (DrawP P im ops Q pr p) K | none => False) ∧ (match ops[j]? with | some o => StepE P im ops pr j o (DrawP P im ops Q pr q) K | none => False) ∧ (match ops[k]? with | some o => StepE P im ops pr k o (DrawP P im ops Q pr s) K | none => False)
  | pr, .call i p, K => match ops[i]? with | some o => opClass im o.op = .call ∧ StepH P ops o (DrawP P im ops Q pr p) K | none => False
  | pr, .lend i p, K => match ops[i]? with | some o => opClass im o.op = .call ∧ StepN P ops o (DrawP P im ops Q pr p) K | none => False

theorem DrawP.any {im : Bool} {ops : Array Oper} {G : List Nat} {Q : XE → Know → Prop} : ∀ (p : Pl) (pr : List (Nat × List Nat)) (listed : Array Bool) (K : Know) (fuel : Nat), Fr K → Closed ops listed → plOK im ops G p listed = true → p.depth ≤ fuel → DrawP P im ops Q pr p K → AnyQ P im ops G Q (mayT ops pr) fuel listed K := by
  intro p
  induction p with
  | done =>
    intro pr listed K fuel hf hc hok hd h
    simp only [plOK, beq_iff_eq] at hok
    cases fuel with
    | zero => exact ⟨hok, h⟩
    | succ fuel => exact ⟨fun _ => h, fun i hi => by rw [hok] at hi; cases hi⟩
  | take i p ih =>
    intro pr listed K fuel hf hc hok hd h
    simp only [plOK, Bool.and_eq_true] at hok
    obtain ⟨hok1, hok2⟩ := hok
    simp only [DrawP] at h
    cases fuel with
    | zero => simp [Pl.depth] at hd
    | succ fuel =>
      have hd' : p.depth ≤ fuel := by simp only [Pl.depth] at hd; omega
      split at h
      · rename_i o ho
        rw [Bool.or_eq_true] at hok1
        rcases hok1 with hr | hr
        · rw [beq_iff_eq] at hr
          refine ⟨fun h => (by rw [hr] at h; cases h), fun j hj => ?_⟩
          have hj' := hj
          rw [hr, List.mem_singleton] at hj
          subst hj
          exact ⟨o, ho, .inl (((StepE.q h).fr hf).imp (fun _ h => h) fun K' hK => ih pr _ K' fuel hK.1 (closed_set hc hj') hok2 hd' hK.2)⟩
        · rw [Bool.and_eq_true, Bool.and_eq_true, Bool.and_eq_true] at hr
          obtain ⟨hr, hgen⟩ := hr
          have hri : i ∈ Region.ready .any ops listed := by simpa using hr.1.1
          have hq : quietC im o.op = true := by have := hr.2; rw [ho] at this; exact this
          obtain ⟨s, hv, hk⟩ := (StepE.q h).g.val hq
          refine AnyQ.first ho (C' := mayT ops pr) (V := fun K => Val P im ops K o s) (A := fun j oj => indep im ops o oj = true) (fun _ _ h => h) (fun _ h => h) (fun j oj k K hind hf hv hst => ?_) (fun j oj k K hind hf hv hst => StepL.swap (Bool.and_eq_true _ _ ▸ hind : _ ∧ _).1 hf hv (fun K' a b c _ e => hv.stable a b c (.inr (by rw [e]; exact ⟨fun _ _ _ h => h, fun _ _ h => h⟩))) hst) fuel listed K hf hc (freeB_spec ho hr.1.2) (genOK_spec hgen) hri hv (ih pr _ _ fuel (fr_put hf) (closed_set hc hri) hok2 hd' hk)
          unfold indep at hind
          rw [Bool.and_eq_true] at hind
          refine StepQ.swap hind.1 hf (fun _ h => h) hv (fun K' a b c _ e => hv.stable a b c (.inr (by rw [e]; exact ⟨fun _ _ _ h => h, fun _ _ h => h⟩))) (fun hm K' a b c _ _ e => hv.stable a b c ?_) hst
          have := hind.2
          rw [hm, Bool.or_eq_true] at this
          rcases this with h' | h'
          · exact .inl h'
          · exact .inr (e h')
      · exact h.elim
  | takeP i F p ih =>
    intro pr listed K fuel hf hc hok hd h
    simp only [plOK, Bool.and_eq_true] at hok
    obtain ⟨⟨⟨hr0, hr1⟩, hgen⟩, hok2⟩ := hok
    simp only [DrawP] at h
    cases fuel with
    | zero => simp [Pl.depth] at hd
    | succ fuel =>
      have hd' : p.depth ≤ fuel := by simp only [Pl.depth] at hd; omega
      split at h
      · rename_i o ho
        have hri : i ∈ Region.ready .any ops listed := by simpa using hr0
        obtain ⟨s, hv, hk⟩ := h.val
        refine AnyQ.first ho (C' := mayT ops ((i, F) :: pr)) (V := fun K => ValP P im ops F K o s) (A := fun j oj => o.apart ops oj = true ∧ waits ops i ops.size j = false) (fun j b h x hx => h x (List.mem_cons_of_mem _ hx)) (fun _ h => h.val) (fun j oj k K hA hf hv hst => ?_) (fun j oj k K hA hf hv hst => StepL.swap hA.1 hf hv (fun K' a b c d e => hv.stable a b c (Nat.le_of_eq d.symm) (fun x _ _ => by rw [e])) hst) fuel listed K hf hc
          (fun j oj h1 h2 h3 h4 => ⟨freeF_spec ho hr1 j oj h1 h2 h3 h4, h4⟩) (genOK_spec hgen) hri hv (ih ((i, F) :: pr) _ _ fuel (fr_put hf) (closed_set hc hri) hok2 hd' hk)
        refine StepQ.swap hA.1 hf (fun b h x hx => h x (List.mem_cons_of_mem _ hx)) hv (fun K' a b c d e => hv.stable a b c (Nat.le_of_eq d.symm) (fun x _ _ => by rw [e])) (fun _ K' a b c d e _ => hv.stable a b c d fun x hx hlt => e x hlt fun hC => ?_) hst
        have := hC (i, F) (by simp) hx
        rw [hA.2] at this; cases this
      · exact h.elim
  | two i j p q ihp ihq =>
    intro pr listed K fuel hf hc hok hd h
    simp only [plOK, Bool.and_eq_true, beq_iff_eq] at hok
    obtain ⟨⟨hr, hok1⟩, hok2⟩ := hok
    simp only [DrawP] at h
    cases fuel with
    | zero => simp [Pl.depth] at hd
    | succ fuel =>
      simp only [Pl.depth] at hd
      refine ⟨fun h => (by rw [hr] at h; cases h), fun k hk => ?_⟩
      have hk' := hk
      rw [hr, List.mem_cons, List.mem_singleton] at hk
      rcases hk with rfl | rfl
      · have h1 := h.1
        split at h1
        · rename_i o ho
          exact ⟨o, ho, .inl (((StepE.q h1).fr hf).imp (fun _ h => h) fun K' hK => ihp pr _ K' fuel hK.1 (closed_set hc hk') hok1 (by omega) hK.2)⟩
        · exact h1.elim
      · have h1 := h.2
        split at h1
        · rename_i o ho
          exact ⟨o, ho, .inl (((StepE.q h1).fr hf).imp (fun _ h => h) fun K' hK => ihq pr _ K' fuel hK.1 (closed_set hc hk') hok2 (by omega) hK.2)⟩
        · exact h1.elim
  | three i j k p q s ihp ihq ihs =>
    intro pr listed K fuel hf hc hok hd h
    simp only [plOK, Bool.and_eq_true, beq_iff_eq] at hok
    obtain ⟨⟨⟨hr, hok1⟩, hok2⟩, hok3⟩ := hok
    simp only [DrawP] at h
    cases fuel with
    | zero => simp [Pl.depth] at hd
    | succ fuel =>
      simp only [Pl.depth] at hd
      refine ⟨fun h => (by rw [hr] at h; cases h), fun l hk => ?_⟩
      have hk' := hk
      rw [hr, List.mem_cons, List.mem_cons, List.mem_singleton] at hk
      rcases hk with rfl | rfl | rfl
      · have h1 := h.1
        split at h1
        · rename_i o ho
          exact ⟨o, ho, .inl (((StepE.q h1).fr hf).imp (fun _ h => h) fun K' hK => ihp pr _ K' fuel hK.1 (closed_set hc hk') hok1 (by omega) hK.2)⟩
        · exact h1.elim
      · have h1 := h.2.1
        split at h1
        · rename_i o ho
          exact ⟨o, ho, .inl (((StepE.q h1).fr hf).imp (fun _ h => h) fun K' hK => ihq pr _ K' fuel hK.1 (closed_set hc hk') hok2 (by omega) hK.2)⟩
        · exact h1.elim
      · have h1 := h.2.2
        split at h1
        · rename_i o ho
          exact ⟨o, ho, .inl (((StepE.q h1).fr hf).imp (fun _ h => h) fun K' hK => ihs pr _ K' fuel hK.1 (closed_set hc hk') hok3 (by omega) hK.2)⟩
        · exact h1.elim
  | call i p ih =>
    intro pr listed K fuel hf hc hok hd h
    simp only [plOK, Bool.and_eq_true, beq_iff_eq] at hok
    obtain ⟨⟨hr, hG⟩, hok2⟩ := hok
    simp only [DrawP] at h
    cases fuel with
    | zero => simp [Pl.depth] at hd
    | succ fuel =>
      have hd' : p.depth ≤ fuel := by simp only [Pl.depth] at hd; omega
      refine ⟨fun h => (by rw [hr] at h; cases h), fun j hj => ?_⟩
      have hj' := hj
      rw [hr, List.mem_singleton] at hj
      subst hj
      split at h
      · rename_i o ho
        obtain ⟨hcl, h⟩ := h
        unfold StepH at h
        split at h
        · rename_i f ss hcf
          obtain ⟨h1, h2, h3, h4, h5⟩ := h
          refine ⟨o, ho, .inr (.inl ⟨by simpa using hG, hcl, h1, h2, f, ss, hcf, h3, h4, h5.imp fun o' K' hfr ⟨s, e, hd2, hk⟩ => ⟨s, e, hd2, ?_⟩⟩)⟩
          exact ih pr _ _ fuel (fr_put hfr) (closed_set hc hj') hok2 hd' hk
        · exact h.elim
      · exact h.elim
  | lend i p ih =>
    intro pr listed K fuel hf hc hok hd h
    simp only [plOK, Bool.and_eq_true, beq_iff_eq] at hok
    obtain ⟨hr, hok2⟩ := hok
    simp only [DrawP] at h
    cases fuel with
    | zero => simp [Pl.depth] at hd
    | succ fuel =>
      have hd' : p.depth ≤ fuel := by simp only [Pl.depth] at hd; omega
      refine ⟨fun h => (by rw [hr] at h; cases h), fun j hj => ?_⟩
      have hj' := hj
      rw [hr, List.mem_singleton] at hj
      subst hj
      split at h
      · rename_i o ho
        obtain ⟨hcl, h⟩ := h
        unfold StepN at h
        split at h
        · rename_i f ss hcf
          obtain ⟨h1, h2, h3, h4, ds, d, h5, h6, h7, h8⟩ := h
          refine ⟨o, ho, .inr (.inr ⟨_, ⟨hcl, h1, h2, f, ss, ds, d, hcf, h3, h4, h5, h6, h7, rfl⟩, ?_⟩)⟩
          exact ih pr _ _ fuel (fr_put hf) (closed_set hc hj') hok2 hd' h8
        · exact h.elim
      · exact h.elim

/-- **A region that draws its order: a plan serves for all orders.** -/
theorem DWp.drawP {id : Nat} {ops : Array Oper} {Q : XE → Know → Prop} {K : Know} (im : Bool) (G : List Nat) (pl : Pl) (hm : P.follows .mixedOrders = true)
    (hok : (decide (pl.depth ≤ ops.size) && plOK im ops G pl (Array.replicate ops.size false)) = true) (h : DrawP P im ops Q [] pl K) : DWp P r (.region id ops true) Q K := fun x a w hmod => by
  rw [Bool.and_eq_true, decide_eq_true_eq] at hok
  refine wpIn_region_any hm ?_
  refine AnyQ.sound _ _ K (DrawP.any pl [] _ K _ hmod.fresh ?_ hok.2 hok.1 h) x x a _ (Ctx.ext_refl _) (hmod.grow ?_)
  · intro k o hk hl
    rcases Nat.lt_or_ge k ops.size with h' | h'
    · simp [h'] at hl
    · rw [Array.getElem?_eq_none h'] at hk; cases hk
  · exact (Below.refl _ w).drew

theorem DWp.drawPR {id : Nat} {ops : Array Oper} {d : Code} {Q : XE → Know → Prop} {K : Know} (im : Bool) (G : List Nat) (pl : Pl) (hm : P.follows .mixedOrders = true)
    (hok : (decide (pl.depth ≤ ops.size) && plOK im ops G pl (Array.replicate ops.size false)) = true) (h : ∀ k : Know → Prop, (∀ K', DWp P r d Q K' → k K') → DrawP P im ops (thenX k Q) [] pl K) :
    DWp P r (.seq (.region id ops true) d) Q K :=
  DWp.seqK fun k hk => DWp.drawP im G pl hm hok (h k hk)

attribute [simp] DrawP StepE StepP StepH StepN touchF mask
end Go.Bf

/-
  Functions that turn one local block which their caller hands them. Nothing is claimed here.
-/
namespace Go.Bf
open Go Go.RowKit
variable {P : Program}
/-- A block of cells that are data. -/
def Blk (J : Imm) (w : World) (B sz : Nat) (ds : List DV) : Prop := ∃ (vals : Array Value) (T : TypeId), vals.size = sz ∧ w.heap[B]? = some (.cells vals T (0, 0)) ∧ ds.length ≤ vals.size ∧
  (∀ (o : Nat) d, ds[o]? = some d → ∃ v, vals[o]? = some v ∧ Rep J v d) ∧ (∀ o, J B o = none) ∧ ∀ v ∈ vals, v.oneCell' = true
/-- Nothing but the block B has turned, of what was there. -/
structure Keep1 (B : Nat) (w w' : World) : Prop where
  os : w'.os = w.os
  tape : w'.tape = w.tape
  output : w'.output = w.output
  size : w.heap.size ≤ w'.heap.size
  block : ∀ k, k < w.heap.size → k ≠ B → w'.heap[k]? = w.heap[k]?
def one1 (B sz : Nat) (t : TypeId) : Nat → Nam := fun j => if j = 0 then .live B sz t else .unborn
def m1 (b : Nat) : SV → Option SV
  | .d x => some (.d x)
  | .clip xs => some (.clip xs)
  | .own b' wd off len c => if b' = b then some (.own 0 wd off len c) else none
  | .loc b' off => if b' = b then some (.loc 0 off) else none
  | _ => none
def toM1 (b : Nat) : List SV → Option (List SV)
  | [] => some []
  | s :: ss => match m1 b s, toM1 b ss with
    | some s0, some r => some (s0 :: r)
    | _, _ => none
/-- How far the slice reaches that the first argument is. -/
def bndM : List SV → Nat
  | .own 0 wd off _ (some x) :: _ => off + x * wd
  | _ => 0
def wdOf : Option SV → Option Nat
  | some (.own _ wd _ _ _) => some wd
  | _ => none
theorem m1_idem {b : Nat} {s s0 : SV} (h : m1 b s = some s0) : m1 0 s0 = some s0 := by
  cases s <;> simp only [m1] at h <;> first | (cases h; rfl) | (split at h <;> cases h; rfl) | cases h
/-- **The contract of a function that turns the one block that argument i leads to.** -/
def FnM1 (P : Program) (f : FuncId) (ss : List SV) (t : TypeId) (ds : List DV) (Q : SV → List DV → Prop) : Prop :=
  ∀ (w : World) (J : Imm) (vs : Array Value) (B sz : Nat), Holds J w → B < w.heap.size → ArrR J (one1 B sz t) vs ss → Blk J w B sz ds → Calls P f vs w fun e w' => ∃ v s ds' sz' J', e = .returned v ∧ Keep1 B w w' ∧ (∀ b o v, J b o = some v → J' b o = some v) ∧
    (∀ b o, b < w.heap.size → J' b o = J b o) ∧ Holds J' w' ∧ (SRep J' (one1 B sz' t) v s ∧ m1 0 s = some s) ∧ Blk J' w' B sz' ds' ∧ bndM ss ≤ sz' ∧ Q s ds'
/-- What is asked where the body of such a function is left: slot i still leads to the block. -/
def MuPost (P : Program) (rv : List ResultVar) (i : Nat) (t : TypeId) (w0 : Option Nat) (Q : SV → List DV → Prop) : XE → Know → Prop
  | .normal, K | .ret, K => i ∈ K.fro ∧ ∃ b cs ds', ((∃ off, K.slots i = some (.loc b off)) ∨ ∃ wd off len c, K.slots i = some (.own b wd off len c) ∧ (w0 = none ∨ w0 = some wd)) ∧ K.mem b = .live t cs ∧ allD cs = some ds' ∧
      ((match resL P (K.setB b .dead) rv with | some (p, dd) => p ∧ Q (.d (retOf dd)) ds' | none => False) ∨
       (match rv with
         | [r] => match resS P K r with
           | some (p, s) => match m1 b s with
             | some s0 => p ∧ Q s0 ds'
             | none => False
           | none => False
         | _ => False))
  | _, _ => False
def Know.mu (n i : Nat) (ss : List SV) (t : TypeId) (ds : List DV) : Know :=
  { slots := fun j => ss[j]?, mem := fun b => if b = 0 then .live t (ds.map .d) else .unborn, n := n, nx := 1, fro := [i] }
def Base.call (w : World) (B : Nat) (fr : Array Value) : Base :=
  { heap := #[]
    inv := fun oth _ _ W => (∀ k, oth k ↔ (k < w.heap.size ∧ k ≠ B)) ∧ Keep1 B w W ∧ B < w.heap.size
    fr := fr
    up := fun _ _ _ _ _ h hb ho _ => ⟨h.1, ⟨hb.os.trans h.2.1.os, hb.tape.trans h.2.1.tape, hb.output.trans h.2.1.output, Nat.le_trans h.2.1.size hb.size, fun k hk hne => (ho k ((h.1 k).2 ⟨hk, hne⟩)).trans (h.2.1.block k hk hne)⟩, h.2.2⟩
    size := fun _ _ _ _ h => ⟨Nat.zero_le _, fun k hk => Nat.lt_of_lt_of_le ((h.1 k).1 hk).1 h.2.1.size⟩
    moreJ := fun _ _ _ _ _ h _ _ => h }
theorem Keep1.refl (B : Nat) (w : World) : Keep1 B w w := ⟨rfl, rfl, rfl, Nat.le_refl _, fun _ _ _ => rfl⟩
theorem root_block {J : Imm} {β : Nat → Nam} {v : Value} {s : SV} {b B sz : Nat} {t : TypeId} (hs : (∃ off, s = .loc b off) ∨ ∃ wd off len c, s = .own b wd off len c) (hb : β b = .live B sz t) (h : SRep J β v s) :
    (∃ off, v = .pointer (some ⟨B, off, none⟩)) ∨ ∃ off len cap, v = .slice (some ⟨B, off, none⟩) len cap := by
  rcases hs with ⟨off, rfl⟩ | ⟨wd, off, len, c, rfl⟩
  · exact .inl ⟨off, loc_inv h hb⟩
  · obtain ⟨cap, e, _⟩ := own_inv h hb
    exact .inr ⟨off, len, cap, e⟩
theorem m1_rep {J : Imm} {β : Nat → Nam} {b B sz : Nat} {t : TypeId} (hb : β b = .live B sz t) {v : Value} {s s0 : SV} (h : SRep J β v s) (hm : m1 b s = some s0) : SRep J (one1 B sz t) v s0 := by
  cases s with
  | d x => cases hm; exact .d (d_inv h)
  | clip xs => cases hm; cases h with | clip h => exact .clip h
  | own b' wd off len c =>
    simp only [m1] at hm
    split at hm
    · rename_i e
      subst e
      cases hm
      obtain ⟨cap, e, h1, h2, h3, h4⟩ := own_inv h hb
      subst e
      exact .own (sz := sz) (t := t) (by simp [one1]) h1 h2 h3 h4
    · cases hm
  | loc b' off =>
    simp only [m1] at hm
    split at hm
    · rename_i e
      subst e
      cases hm
      obtain rfl := loc_inv h hb
      exact .loc (sz := sz) (t := t) (by simp [one1])
    · cases hm
  | _ => cases hm
theorem FnM1.intro {f : FuncId} {fn : Func} {c : Code} {ss : List SV} {t : TypeId} {ds : List DV} {Q : SV → List DV → Prop} (i : Nat) (hf : P.funcs[f]? = some fn) (hb : fn.body = some c) (hn : ss.length ≤ fn.ntmps)
    (hi : (∃ off, ss[i]? = some (.loc 0 off)) ∨ ∃ wd off len c, ss[i]? = some (.own 0 wd off len c))
    (h : DWp P none c (MuPost P fn.results.toList i t (wdOf ss[i]?) Q) (Know.mu fn.ntmps i ss t ds)) (hi0 : i = 0 ∨ bndM ss = 0 := by first | exact .inl rfl | exact .inr rfl) : FnM1 P f ss t ds Q := by
  intro w J vs B sz hJ hBw hv hblk
  refine callsIn_wide.1 (callsIn_of_wp_marks (F := Fence.wide) (n := 0) hf hb trivial ?_ rfl)
  let fr0 : Array Value := vs ++ Array.replicate (fn.ntmps - vs.size) undef
  let x : Ctx := { J := J, β := one1 B sz t, w0 := Base.call w B fr0, J0 := J, oth := fun k => k < w.heap.size ∧ k ≠ B }
  have hm : Models x (Know.mu fn.ntmps i ss t ds) { tmps := fr0, defers := [] } w := by
    refine ⟨⟨fun _ _ => rfl, fun n J h => by cases h⟩, ?_, trivial, ⟨fun k => Iff.rfl, Keep1.refl _ _, hBw⟩, hJ.cell, fun _ _ _ => rfl, ?_, ?_, ?_, ?_, ?_, hJ.one, ?_, fun b es hb => (by simp only [Know.mu] at hb; split at hb <;> cases hb)⟩
    · simp [Know.mu, fr0]; have := hv.1; omega
    · intro j s hs
      have hs' : ss[j]? = some s := hs
      have hlt : j < vs.size := by rw [hv.1]; exact (List.getElem?_eq_some_iff.1 hs').1
      refine ⟨vs[j], ?_, hv.2 j _ s (Array.getElem?_eq_getElem hlt) hs'⟩
      simp only [fr0]
      rw [Array.getElem?_append_left hlt]; exact Array.getElem?_eq_getElem hlt
    · intro b hb
      simp only [Know.mu] at hb
      split at hb
      · cases hb
      · rename_i hne; simp only [x, one1, if_neg hne]
    · intro b hb
      simp only [Know.mu] at hb
      split at hb <;> cases hb
    · intro b t' cells hb
      simp only [Know.mu] at hb
      split at hb
      · rename_i e
        cases hb
        obtain ⟨vals, T, g1, g2, g3, g4, g5, g6⟩ := hblk
        refine ⟨B, vals, (0, 0), ?_, ⟨T, g2⟩, rfl, by simpa using g3, fun o s hs => ?_, g5, ⟨Nat.zero_le _, fun h => h.2 rfl⟩, g6⟩
        · simp only [x, one1, e, if_true, g1]
        · rw [List.getElem?_map, Option.map_eq_some_iff] at hs
          obtain ⟨d, hd, rfl⟩ := hs
          obtain ⟨u, e1, e2⟩ := g4 o d hd
          exact ⟨u, e1, .d e2⟩
      · cases hb
    · intro b b' B1 s1 t1 s2 t2 h1 h2
      simp only [x, one1] at h1 h2
      split at h1
      · split at h2
        · rename_i e1 e2; rw [e1, e2]
        · cases h2
      · cases h1
    · intro b hb
      simp only [Know.mu] at hb ⊢
      rw [if_neg (by omega)]
  refine wpIn_mono (h x _ w hm) ?_
  rintro e a' w' ⟨y, K, xe, hxy, he, hm', hq⟩
  have hw0 : y.w0 = Base.call w B fr0 := hxy.w0
  have hJ0 : y.J0 = J := hxy.J0
  have leave : (MuPost P fn.results.toList i t (wdOf ss[i]?) Q .ret K) → LeavesInM Fence.wide 0 P fn a'.tmps (fun e w' => ∃ v s ds' sz' J', e = .returned v ∧ Keep1 B w w' ∧ (∀ b o v, J b o = some v → J' b o = some v) ∧
    (∀ b o, b < w.heap.size → J' b o = J b o) ∧ Holds J' w' ∧ (SRep J' (one1 B sz' t) v s ∧ m1 0 s = some s) ∧ Blk J' w' B sz' ds' ∧ bndM ss ≤ sz' ∧ Q s ds') a'.defers .returning w' := fun hr => by
    obtain ⟨hfi, b, cs, ds', hsl, hmem, hal, hres⟩ := hr
    · refine leaves_marks (by simp) _ _ hm'.defers fun w2 hs => ?_
      have hm2 := hm'.sameC hs
      have hinv := hm2.below
      rw [hw0] at hinv
      obtain ⟨hoth, hkeep, _⟩ := hinv
      -- the block at the end is the block of the start
      obtain ⟨B2, vals2, fr2, k1, ⟨T, k2⟩, k3, k4, k5, k6, k7, k8⟩ := (hm2.live b t cs hmem).out
      subst k3
      have hBB : B2 = B ∧ bndM ss ≤ vals2.size := by
        have hslot : ∃ s, K.slots i = some s ∧ ((∃ off, s = .loc b off) ∨ ∃ wd off len c, s = .own b wd off len c) := by
          rcases hsl with ⟨off, e⟩ | ⟨wd, off, len, c, e, _⟩
          · exact ⟨_, e, .inl ⟨_, rfl⟩⟩
          · exact ⟨_, e, .inr ⟨_, _, _, _, rfl⟩⟩
        obtain ⟨s, hs1, hs2⟩ := hslot
        obtain ⟨u, hu, hur⟩ := hm2.slots i s hs1
        have hfr : a'.tmps[i]? = fr0[i]? := by have := hm'.fro.1 i hfi; rw [hw0] at this; exact this
        have hslot0 : ∃ s, ss[i]? = some s ∧ ((∃ off, s = .loc 0 off) ∨ ∃ wd off len c, s = .own 0 wd off len c) := by
          rcases hi with ⟨off, e⟩ | ⟨wd, off, len, c, e⟩
          · exact ⟨_, e, .inl ⟨_, rfl⟩⟩
          · exact ⟨_, e, .inr ⟨_, _, _, _, rfl⟩⟩
        obtain ⟨s0, hs3, hs4⟩ := hslot0
        have hlt : i < vs.size := by rw [hv.1]; exact (List.getElem?_eq_some_iff.1 hs3).1
        have hu0 : u = vs[i] := by
          have h1 : a'.tmps[i]? = some u := hu
          rw [hfr] at h1
          simp only [fr0] at h1
          rw [Array.getElem?_append_left hlt, Array.getElem?_eq_getElem hlt] at h1
          exact (Option.some.inj h1).symm
        have r0 := hv.2 i _ s0 (Array.getElem?_eq_getElem hlt) hs3
        rw [← hu0] at r0
        have q1 := root_block hs2 k1 hur
        have q2 := root_block (β := one1 B sz t) (B := B) (sz := sz) (t := t) hs4 (by simp [one1]) r0
        refine ⟨by rcases q1 with ⟨o1, e1⟩ | ⟨o1, l1, c1, e1⟩ <;> rcases q2 with ⟨o2, e2⟩ | ⟨o2, l2, c2, e2⟩ <;> rw [e1] at e2 <;> cases e2 <;> rfl, ?_⟩
        rcases hi0 with h0 | h0
        · subst h0
          unfold bndM
          split
          · rename_i wd off len xx rest
            have hs3' : some (SV.own 0 wd off len (some xx)) = some s0 := hs3
            cases hs3'
            obtain ⟨cap, e1, f1, f2, f3, f4⟩ := own_inv r0 (show one1 B sz t 0 = .live B sz t by simp [one1])
            have := f4 xx rfl
            subst this
            rcases hsl with ⟨off', e⟩ | ⟨wd', off', len', c', e, hw'⟩
            · rw [e] at hs1; cases hs1
              have := loc_inv hur k1
              rw [this] at e1; cases e1
            · rw [e] at hs1; cases hs1
              obtain ⟨cap2, e2, f1', _⟩ := own_inv hur k1
              rw [e1] at e2; cases e2
              rcases hw' with h | h
              · cases h
              · cases h; exact f1'
          · exact Nat.zero_le _
        · rw [h0]; exact Nat.zero_le _
      obtain ⟨hBB, hbnd⟩ := hBB
      subst hBB
      have hothB : ∀ k, k < w.heap.size → k ≠ B2 → y.oth k := fun k h1 h2 => (hoth k).2 ⟨h1, h2⟩
      -- it is named no more
      obtain ⟨y2, hy2, hy2J, hy2β, hm3⟩ := hm2.kill hmem
      let J' : Imm := fun b o => if b < w.heap.size then y.J b o else match vc w2 b o with | some v => if o % 2 = 1 ∨ v.oneCell' = true then some v else none | none => none
      have hge : ∀ b o, ¬ b < w.heap.size → ∀ v, J' b o = some v ↔ vc w2 b o = some v ∧ (o % 2 = 1 ∨ v.oneCell' = true) := fun b o hb v => by
        simp only [J', if_neg hb]
        cases vc w2 b o with
        | none => simp
        | some u =>
          by_cases h1 : o % 2 = 1 ∨ u.oneCell' = true
          · show (if _ then _ else _) = _ ↔ _; rw [if_pos h1]; exact ⟨fun e => ⟨e, (Option.some.inj e) ▸ h1⟩, fun e => e.1⟩
          · show (if _ then _ else _) = _ ↔ _; rw [if_neg h1]; exact ⟨fun e => (by cases e), fun e => absurd ((Option.some.inj e.1) ▸ e.2) h1⟩
      have hlt : ∀ b o, b < w.heap.size → J' b o = y.J b o := fun b o hb => by simp only [J', if_pos hb]
      have hle : ∀ b o v, y.J b o = some v → J' b o = some v := fun b o v hv => by
        by_cases hb : b < w.heap.size
        · rw [hlt b o hb]; exact hv
        · exact (hge b o hb v).2 ⟨hm2.holds b o v hv, one_any hm2.one b o v hv⟩
      have hJB : ∀ o, J B2 o = none := by obtain ⟨_, _, _, _, _, _, g5, _⟩ := hblk; exact g5
      have holdJ : ∀ b o, b < w.heap.size → J' b o = J b o := fun b o hb => by
        rw [hlt b o hb]
        by_cases e : b = B2
        · rw [e, k6 o, hJB o]
        · rw [hm2.old b o (.inr (hothB b hb e)), hJ0]
      have hHolds : Holds J' w2 := ⟨fun b o v hv => by
        by_cases hb : b < w.heap.size
        · rw [hlt b o hb] at hv; exact hm2.holds b o v hv
        · exact ((hge b o hb v).1 hv).1, fun b o v hv => by
        by_cases hb : b < w.heap.size
        · rw [hlt b (2 * o) hb] at hv; exact hm2.one b o v hv
        · exact ((hge b (2 * o) hb v).1 hv).2.resolve_left (by omega)⟩
      have hB2lt : B2 < w.heap.size := hBw
      have hsnap : SnapJ y2 (K.setB b .dead) w2 J' := ⟨fun b o v hv => hle b o v (hy2J ▸ hv), fun c t' cells hc B3 sz3 t3 hβ o v hv => by
        obtain ⟨B4, vals4, fr4, g1, ⟨T4, g2⟩, g3, g4, g5, g6, g7, g8⟩ := (hm3.live c t' cells hc).out
        rw [hβ] at g1; cases g1
        have hn3 : ¬ B3 < w.heap.size := fun hlt3 => by
          have hne : B3 ≠ B2 := fun e => by
            subst e
            rw [hy2β] at hβ
            simp only [Bf.put] at hβ
            split at hβ
            · cases hβ
            · rename_i hcb; exact hcb (hm2.inj _ _ _ _ _ _ _ hβ k1)
          have hyo : y2.oth = y.oth := hy2.oth
          rw [show y2.w0 = y.w0 from hy2.w0, hyo] at g7
          exact g7.2 (hothB B3 hlt3 hne)
        refine (hge B3 (2 * o) hn3 v).2 ⟨by rw [vc_cell]; exact hv, .inr (g8 v ?_)⟩
        simp only [World.cell?, g2, Option.isSome_none, Bool.false_eq_true, if_false] at hv
        exact Array.mem_of_getElem? hv, fun c m hc B3 sz3 t3 hβ o v hv => by
        obtain ⟨B4, ob, g1, g2, g4, g5, g7⟩ := (hm3.maps c m hc).out
        rw [hβ] at g1; cases g1
        have hn3 : ¬ B3 < w.heap.size := fun hlt3 => by
          have hne : B3 ≠ B2 := fun e => by
            subst e
            rw [hy2β] at hβ
            simp only [Bf.put] at hβ
            split at hβ
            · cases hβ
            · rename_i hcb; exact hcb (hm2.inj _ _ _ _ _ _ _ hβ k1)
          have hyo : y2.oth = y.oth := hy2.oth
          rw [show y2.w0 = y.w0 from hy2.w0, hyo] at g7
          exact g7.2 (hothB B3 hlt3 hne)
        exact (hge B3 (2 * o + 1) hn3 v).2 ⟨hv, .inl (by omega)⟩⟩
      obtain ⟨a1, a2⟩ := allD_get hal
      have hblk2 : Blk J' w2 B2 vals2.size ds' := ⟨vals2, T, rfl, k2, by omega, fun o d hd => by
        obtain ⟨u, e1, e2⟩ := k5 o _ (a2 o d hd)
        exact ⟨u, e1, (d_inv e2).mono hle⟩, fun o => by rw [hlt B2 o hB2lt]; exact k6 o, k8⟩
      rcases hres with hres | hres
      rotate_left
      · split at hres
        · rename_i rr hrv
          split at hres
          · rename_i p s hrs
            split at hres
            · rename_i s0 hm1
              obtain ⟨v, e1, r1⟩ := resS_sound (a := { a' with defers := [] }) hm2 hrs hres.1
              refine ⟨v, ?_, v, s0, ds', vals2.size, J', rfl, hkeep, fun b o v hv => hle b o v (hxy.J b o v hv), holdJ, hHolds, ⟨(m1_rep k1 r1 hm1).mono hle (fun _ => Nam.le_refl _), m1_idem hm1⟩, hblk2, hbnd, hres.2⟩
              rw [results_eq, Sem.run_bind, Array.mapM_eq_mapM_toList, Sem.run_map, hrv]
              simp only [List.mapM_cons, List.mapM_nil, Sem.run_bind, e1, Result.andThen_ok, Sem.run_pure]
              simp
            · exact hres.elim
          · exact hres.elim
        · exact hres.elim
      split at hres
      rotate_left
      · exact hres.elim
      rename_i p dd hres'
      obtain ⟨hp, hQ⟩ := hres
      obtain ⟨us, e1, g1, g2⟩ := resL_sound hm3 hsnap _ p dd hres' hp
      refine ⟨if h : us.length = 1 then us[0] else .tuple us.toArray, ?_, _, .d (retOf dd), ds', vals2.size, J', rfl, hkeep, fun b o v hv => hle b o v (hxy.J b o v hv), holdJ, hHolds, ⟨.d ?_, rfl⟩, hblk2, hbnd, hQ⟩
      · rw [results_eq, Sem.run_bind, Array.mapM_eq_mapM_toList, Sem.run_map]
        have e1' : (fn.results.toList.mapM (resFn a'.tmps)).run P w2 = .ok us w2 := e1
        rw [e1']
        simp only [Result.andThen_ok, Sem.run_pure, Result.ok.injEq, and_true]
        simp
      · match dd, us, g1, g2 with
        | [], [], _, _ => exact .tup rfl (fun i v d h => by simp at h)
        | [d], [u], _, g2 => exact g2 0 u d (by simp) (by simp)
        | d1 :: d2 :: dd, u1 :: u2 :: us, g1, g2 =>
          simp only [List.length_cons] at g1
          simp only [retOf, List.length_cons]
          rw [dif_neg (by omega)]
          exact .tup (by simp; omega) (fun i v d hv hd => g2 i v d (by simpa using hv) hd)
  cases e with
  | normal =>
    cases xe <;> first | exact he.elim | skip
    exact leave hq
  | ret =>
    cases xe <;> first | exact he.elim | skip
    exact leave hq
  | panic ch => cases xe <;> first | exact he.elim | exact hq.elim
  | exit id => cases xe <;> first | exact he.elim | exact hq.elim
  | goto l => cases xe <;> exact he.elim
  | outgrown => cases xe <;> exact he.elim
theorem FnM1.intro' {f : FuncId} {fn : Func} {c : Code} {ss : List SV} {t : TypeId} {ds : List DV} {Q : SV → List DV → Prop} (i : Nat) (hf : P.funcs[f]? = some fn) (hb : fn.body = some c) (hn : ss.length ≤ fn.ntmps)
    (hi : (∃ off, ss[i]? = some (.loc 0 off)) ∨ ∃ wd off len c, ss[i]? = some (.own 0 wd off len c))
    (h : ∀ E : XE → Know → Prop, (∀ K, MuPost P fn.results.toList i t (wdOf ss[i]?) Q .ret K → E .normal K ∧ E .ret K) → DWp P none c E (Know.mu fn.ntmps i ss t ds)) (hi0 : i = 0 ∨ bndM ss = 0 := by first | exact .inl rfl | exact .inr rfl) : FnM1 P f ss t ds Q :=
  FnM1.intro i hf hb hn hi (h _ fun _ hk => ⟨hk, hk⟩) hi0
/-! ### In the caller -/
theorem toM1_rep {J : Imm} {β : Nat → Nam} {b B sz : Nat} {t : TypeId} (hb : β b = .live B sz t) : ∀ {ss ss0 : List SV} {vs : List Value}, toM1 b ss = some ss0 → ArrR J β vs.toArray ss → ArrR J (one1 B sz t) vs.toArray ss0
  | [], ss0, vs, h, hr => by
    cases h
    exact ⟨hr.1, fun i v s _ hs => by simp at hs⟩
  | s :: ss, ss0, vs, h, hr => by
    simp only [toM1] at h
    split at h
    · rename_i s0 r h1 h2
      cases h
      cases vs with
      | nil => have := hr.1; simp at this
      | cons v vs =>
        have hr' : ArrR J β vs.toArray ss := ⟨by have := hr.1; simpa using this, fun i u q hu hq => hr.2 (i + 1) u q (by simpa using hu) (by simpa using hq)⟩
        have := toM1_rep hb h2 hr'
        refine ⟨by have := this.1; simp at this; simp [this], fun i u q hu hq => ?_⟩
        cases i with
        | zero => simp at hu hq; subst hu; subst hq; exact m1_rep hb (hr.2 0 v s (by simp) rfl) h1
        | succ i => exact this.2 i u q (by simpa using hu) (by simpa using hq)
    · cases h
def SV.mv (b c bnd : Nat) : SV → SV
  | .loc b' off => if b' = b then .loc c off else .loc b' off
  | .own b' wd off len (some x) => if b' = b ∧ off + x * wd ≤ bnd then .own c wd off len (some x) else .own b' wd off len (some x)
  | s => s
/-- The block b bears a new name, and holds these cells. -/
def Know.mv (K : Know) (b : Nat) (t : TypeId) (ds : List DV) (bnd : Nat) : Know :=
  { K with slots := fun i => (K.slots i).map (SV.mv b K.nx bnd), mem := Bf.put (Bf.put K.mem b .dead) K.nx (.live t (ds.map .d)), nx := K.nx + 1 }
/-- What was handed back, seen by the caller. -/
theorem up1_rep {J : Imm} {β : Nat → Nam} {n B sz : Nat} {t : TypeId} (hn : β n = .live B sz t) {v : Value} {s : SV} (h : SRep J (one1 B sz t) v s) (h1 : m1 0 s = some s) : SRep J β v (s.ren fun _ => n) := by
  cases s with
  | d x => exact .d (d_inv h)
  | clip xs => obtain ⟨a, rfl, hv⟩ := clip_inv h; exact .clip hv
  | loc b off =>
    simp only [m1] at h1
    split at h1
    · rename_i e; subst e
      obtain rfl := loc_inv h (show one1 B sz t 0 = .live B sz t by simp [one1])
      exact .loc hn
    · cases h1
  | own b wd off len c =>
    simp only [m1] at h1
    split at h1
    · rename_i e; subst e
      obtain ⟨cap, rfl, f1, f2, f3, f4⟩ := own_inv h (show one1 B sz t 0 = .live B sz t by simp [one1])
      exact .own hn f1 f2 f3 f4
    · cases h1
  | _ => simp [m1] at h1
theorem CallS.mem1 {f : FuncId} {ss ss0 : List SV} {K : Know} {b : Nat} {t : TypeId} {cs : List SV} {ds : List DV} {Q : SV → List DV → Prop} {k : OutS → Know → Prop} (hb : K.mem b = .live t cs) (hd : allD cs = some ds) (ha : toM1 b ss = some ss0)
    (h : FnM1 P f ss0 t ds Q) (hk : ∀ s ds', Q s ds' → k (.ret (s.ren fun _ => K.nx)) (K.mv b t ds' (bndM ss0))) : CallS P f ss K k := by
  intro x a w vs hm hr
  obtain ⟨vs⟩ := vs
  obtain ⟨B, vals, fr, g1, ⟨T, g2⟩, g3, g4, g5, g6, g7, g8⟩ := (hm.live b t cs hb).out
  subst g3
  obtain ⟨a1, a2⟩ := allD_get hd
  have hBlt : B < w.heap.size := (Array.getElem?_eq_some_iff.1 g2).1
  refine (h w x.J vs.toArray B vals.size ⟨hm.holds, hm.one⟩ hBlt (toM1_rep g1 ha hr) ⟨vals, T, rfl, g2, by omega, fun o d hd' => ?_, g6, g8⟩).mono ?_
  · obtain ⟨u, e1, e2⟩ := g5 o _ (a2 o d hd')
    exact ⟨u, e1, d_inv e2⟩
  rintro e w' ⟨v, s0, ds', sz', J', rfl, hkp, hJ, hold, hH, ⟨hrep, hm10⟩, ⟨vals', T', k1, k2, k3, k4, k5, k6⟩, hbnd, hQ⟩
  have hbn : b < K.nx := by
    rcases Nat.lt_or_ge b K.nx with h | h
    · exact h
    · rw [hm.fresh b h] at hb; cases hb
  let y : Ctx := { x with J := J', β := Bf.put (Bf.put x.β b .dead) K.nx (.live B sz' t) }
  have hun : x.β K.nx = .unborn := hm.unborn _ (hm.fresh _ (Nat.le_refl _))
  have hyn : y.β K.nx = .live B sz' t := by simp [y, Bf.put]
  have hyb : y.β b = .dead := by simp only [y, Bf.put]; rw [if_neg (by omega)]; simp
  have hyo : ∀ c, c ≠ b → c ≠ K.nx → y.β c = x.β c := fun c h1 h2 => by simp only [y, Bf.put]; rw [if_neg h2, if_neg h1]
  have hle : ∀ c, (x.β c).le (y.β c) := fun c => by
    by_cases h1 : c = b
    · subst h1; rw [hyb, g1]; exact .inr rfl
    · by_cases h2 : c = K.nx
      · subst h2; rw [hun]; trivial
      · rw [hyo c h1 h2]; exact Nam.le_refl _
  have hcellJ : ∀ b o v, x.J b o = some v → vc w' b o = some v := fun b o v hv => hH.cell b o v (hJ b o v hv)
  have hblkB : ∀ k, k < w.heap.size → k ≠ B → w'.heap[k]? = w.heap[k]? := hkp.block
  have hothB : ∀ k, x.oth k → k ≠ B := fun k hk e => by subst e; exact g7.2 hk
  refine ⟨y, K.mv b t ds' (bndM ss0), .ret (s0.ren fun _ => K.nx), ⟨hJ, rfl, rfl⟩, ⟨hm.fro, hm.size, ?_, ?_, hH.cell, ?_, ?_, ?_, ?_, ?_, ?_, hH.one, ?_, ?_⟩, up1_rep hyn hrep hm10, hk s0 ds' hQ⟩
  · refine hm.defers.mono fun D _ _ hD => hblkB D (Array.getElem?_eq_some_iff.1 hD).1 fun e => ?_
    subst e; rw [g2] at hD; cases hD
  · refine x.w0.moreJ _ _ _ _ _ (x.w0.up _ _ _ _ _ hm.below ⟨hkp.os, hkp.tape, hkp.output, hkp.size, fun k hk => hblkB k (Nat.lt_of_lt_of_le hk hm.w0le) (by have := g7.1; omega)⟩ (fun k hk => hblkB k (hm.othlt k hk) (hothB k hk)) hcellJ) hJ hH.cell
  · intro b' o hb'
    exact (hold b' o (hb'.elim (fun h => Nat.lt_of_lt_of_le h hm.w0le) (hm.othlt b'))).trans (hm.old b' o hb')
  · intro i s' hs
    simp only [Know.mv, Option.map_eq_some_iff] at hs
    obtain ⟨s, hs, rfl⟩ := hs
    obtain ⟨u, e1, r⟩ := hm.slots i s hs
    refine ⟨u, e1, ?_⟩
    cases s with
    | loc b' off =>
      simp only [SV.mv]
      split
      · rename_i e
        subst e
        obtain rfl := loc_inv r g1
        exact .loc hyn
      · exact r.mono hJ hle
    | own b' wd off len c =>
      cases c with
      | none => exact r.mono hJ hle
      | some xx =>
        simp only [SV.mv]
        split
        · rename_i e
          obtain ⟨rfl, hb2⟩ := e
          obtain ⟨cap, rfl, f1, f2, f3, f4⟩ := own_inv r g1
          have := f4 xx rfl
          subst this
          exact .own hyn (by omega) f2 f3 f4
        · exact r.mono hJ hle
    | _ => exact r.mono hJ hle
  · intro c hc
    simp only [Know.mv, Bf.put] at hc
    split at hc
    · cases hc
    · rename_i h2
      split at hc
      · cases hc
      · rename_i h1
        rw [hyo c h1 h2]; exact hm.unborn c hc
  · intro c hc
    simp only [Know.mv, Bf.put] at hc
    split at hc
    · cases hc
    · rename_i h2
      split at hc
      · rename_i h1; subst h1; exact hyb
      · rename_i h1
        rw [hyo c h1 h2]; exact hm.dead c hc
  · intro c t2 cells2 hc
    simp only [Know.mv, Bf.put] at hc
    split at hc
    · rename_i h2
      subst h2
      cases hc
      refine ⟨B, vals', (0, 0), by rw [hyn, k1], ⟨T', k2⟩, rfl, by simpa using k3, fun o s hs => ?_, k5, g7, k6⟩
      rw [List.getElem?_map, Option.map_eq_some_iff] at hs
      obtain ⟨d0, hd0, rfl⟩ := hs
      obtain ⟨u, e1, e2⟩ := k4 o d0 hd0
      exact ⟨u, e1, .d e2⟩
    · rename_i h2
      split at hc
      · cases hc
      · rename_i h1
        obtain ⟨B2, vals2, fr2, q1, ⟨T2, q2⟩, q3, q4, q5, q6, q7, q8⟩ := (hm.live c t2 cells2 hc).out
        have hne : B2 ≠ B := fun e => by subst e; exact h1 (hm.inj _ _ _ _ _ _ _ q1 g1)
        have hlt2 := (Array.getElem?_eq_some_iff.1 q2).1
        refine ⟨B2, vals2, fr2, by rw [hyo c h1 h2]; exact q1, ⟨T2, by rw [hblkB B2 hlt2 hne]; exact q2⟩, q3, q4, fun o s hs => ?_, fun o => ?_, q7, q8⟩
        · obtain ⟨u, e1, e2⟩ := q5 o s hs
          exact ⟨u, e1, e2.mono hJ hle⟩
        · show J' B2 o = none
          rw [hold B2 o hlt2]; exact q6 o
  · intro c c' B1 s1 t1 s2 t2 h1 h2
    by_cases e1 : c = K.nx
    · by_cases e2 : c' = K.nx
      · rw [e1, e2]
      · subst e1
        rw [hyn] at h1
        cases h1
        by_cases e3 : c' = b
        · subst e3; rw [hyb] at h2; cases h2
        · rw [hyo c' e3 e2] at h2
          exact absurd (hm.inj _ _ _ _ _ _ _ h2 g1) e3
    · by_cases e2 : c' = K.nx
      · subst e2
        rw [hyn] at h2
        cases h2
        by_cases e3 : c = b
        · subst e3; rw [hyb] at h1; cases h1
        · rw [hyo c e3 e1] at h1
          exact absurd (hm.inj _ _ _ _ _ _ _ h1 g1) e3
      · by_cases e3 : c = b
        · subst e3; rw [hyb] at h1; cases h1
        · by_cases e4 : c' = b
          · subst e4; rw [hyb] at h2; cases h2
          · rw [hyo c e3 e1] at h1
            rw [hyo c' e4 e2] at h2
            exact hm.inj _ _ _ _ _ _ _ h1 h2
  · intro c hc
    simp only [Know.mv] at hc ⊢
    simp only [Bf.put]
    rw [if_neg (by omega), if_neg (by omega)]
    exact hm.fresh c (by omega)
  · intro c es hc
    simp only [Know.mv, Bf.put] at hc
    split at hc
    · cases hc
    · rename_i h2
      split at hc
      · cases hc
      · rename_i h1
        obtain ⟨B2, ob, q1, q2, q4, q5, q6⟩ := (hm.maps c es hc).out
        have hne : B2 ≠ B := fun e => by subst e; exact h1 (hm.inj _ _ _ _ _ _ _ q1 g1)
        have hlt2 := (Array.getElem?_eq_some_iff.1 q2).1
        exact ⟨B2, ob, by rw [hyo c h1 h2]; exact q1, by rw [hblkB B2 hlt2 hne]; exact q2, q4.mono hJ (fun _ _ r => r.mono hJ hle), fun o => by show J' B2 o = none; rw [hold B2 o hlt2]; exact q5 o, q6⟩
theorem CallAt.mem1 {r : Option Nat} {ops : Array Oper} {Q' : XE → Know → Prop} {f : FuncId} {ss ss0 : List SV} {dst : Option Nat} {rest : List Oper} {K : Know} {t : TypeId} {cs : List SV} {ds : List DV} {Q : SV → List DV → Prop} (b : Nat) (im : Bool) (he : Enters P f) (hb : K.mem b = .live t cs) (hd : allD cs = some ds)
    (ha : toM1 b ss = some ss0) (h : FnM1 P f ss0 t ds Q) (hk : ∀ s ds', Q s ds' → VCops P r im ops Q' rest ((K.mv b t ds' (bndM ss0)).put dst (s.ren fun _ => K.nx))) : CallAt P r ops Q' f ss dst rest K :=
  ⟨he, CallS.mem1 hb hd ha h fun d ds' hq => ⟨fun h => h, VCops_sound _ _ (hk d ds' hq)⟩⟩
theorem CallH.det {f : FuncId} {ss : List SV} {K : Know} {ds : List DV} {d : DV} {k : SV → Know → Prop} {t : PTag (@Seal _ ⟨k⟩)} (he : Enters P f) (hd : toDs ss = some ds) (h : FnWp P f ds (· = .ret d)) (hk : k (.d d) K) : CallH P f ss (@Seal _ ⟨k⟩) K t :=
  ⟨he, CallS.pure hd h fun o ho => by subst ho; exact ⟨_, rfl, hk⟩⟩
theorem CallH.mem1 {f : FuncId} {ss ss0 : List SV} {K : Know} {t : TypeId} {cs : List SV} {ds : List DV} {Q : SV → List DV → Prop} {k : SV → Know → Prop} (b : Nat) (he : Enters P f) (hb : K.mem b = .live t cs) (hd : allD cs = some ds)
    (ha : toM1 b ss = some ss0) (h : FnM1 P f ss0 t ds Q) {tg : PTag (@Seal _ ⟨k⟩)} (hk : ∀ s ds', Q s ds' → k (s.ren fun _ => K.nx) (K.mv b t ds' (bndM ss0))) : CallH P f ss (@Seal _ ⟨k⟩) K tg :=
  ⟨he, CallS.mem1 hb hd ha h fun d ds' hq => ⟨_, rfl, hk d ds' hq⟩⟩
/-- A slice has some capacity. -/
theorem DWp.cap {r : Option Nat} {c : Code} {Q : XE → Know → Prop} {K : Know} (i : Nat) {b wd off len : Nat} (h : K.slots i = some (.own b wd off len none)) (hk : ∀ cap, len ≤ cap → DWp P r c Q { K with slots := Bf.put K.slots i (some (.own b wd off len (some cap))) }) : DWp P r c Q K := fun x a w hm => by
  obtain ⟨v, e, rr⟩ := hm.slots i _ h
  have go : ∀ cap, len ≤ cap → SRep x.J x.β v (.own b wd off len (some cap)) → c.wpIn (FW r) 0 P (Post x Q) a w := fun cap hc hr => hk cap hc x a w
    ⟨hm.fro, hm.size, hm.defers, hm.below, hm.holds, hm.old, fun j s hs => by
      simp only [Bf.put] at hs
      split at hs
      · rename_i e'; subst e'; cases hs; exact ⟨v, e, hr⟩
      · exact hm.slots j s hs, hm.unborn, hm.dead, hm.live, hm.inj, hm.one, hm.fresh, hm.maps⟩
  cases rr with
  | @own _ B sz t _ _ _ cap _ h1 h2 h3 h4 h5 => exact go cap h3 (.own h1 h2 h3 h4 (fun x hx => by cases hx; rfl))
  | ownDead h1 => exact go len (Nat.le_refl _) (.ownDead h1)
attribute [simp] Know.mu m1 toM1 SV.mv Know.mv bndM wdOf
end Go.Bf

/-
  How an argument that a claim's form lets in is read as data. Nothing is claimed here.
-/
namespace Go.Bf
open Go Go.RowKit
/-- All cells of a world, held immutable. -/
def Jof (w : World) : Imm := fun b o => match vc w b o with
  | some v => if o % 2 = 1 ∨ v.oneCell' = true then some v else none
  | none => none
theorem Jof_some {w : World} {b o : Nat} {v : Value} (h : Jof w b o = some v) : vc w b o = some v ∧ (o % 2 = 1 ∨ v.oneCell' = true) := by
  unfold Jof at h
  split at h
  · rename_i u hu
    split at h
    · rename_i h1; cases h; exact ⟨hu, h1⟩
    · cases h
  · cases h
theorem Jof_mk {w : World} {b o : Nat} {v : Value} (h : w.cell? ⟨b, o, none⟩ = some v) (h1 : v.oneCell' = true) : Jof w b (2 * o) = some v := by simp [Jof, vc_cell, h, h1]
theorem Jof_holds (w : World) : Holds (Jof w) w := ⟨fun _ _ _ h => (Jof_some h).1, fun _ _ _ h => (Jof_some h).2.resolve_left (by omega)⟩
/-- Fields lie one after the other. -/
def tile (P : Program) : List Field → Nat → Nat → Bool
  | [], s, e => s == e
  | f :: fs, s, e => f.offset == s && tile P fs (s + P.cellsOf f.type) e
def TyF (T : TypeId → List DV → Prop) : List Field → List DV → Prop
  | [], r => r = []
  | f :: fs, r => ∃ a b, T f.type a ∧ TyF T fs b ∧ r = a ++ b
def TyA (T : List DV → Prop) : Nat → List DV → Prop
  | 0, r => r = []
  | n + 1, r => ∃ a b, T a ∧ TyA T n b ∧ r = a ++ b
/-- The row is one of a variable of the type. -/
def Ty (P : Program) : Nat → TypeId → List DV → Prop
  | 0, _, _ => False
  | m + 1, t, r => match P.underlying t with
    | some .bool => ∃ b, r = [.bool b]
    | some (.int k) => ∃ n, InK k n ∧ r = [.int k n]
    | some .string => ∃ s : List UInt8, s.length ≤ reachBytes ∧ r = [.str s]
    | some (.slice e) => ∃ xs : List (List DV), xs.length * P.bytesOf e ≤ reachBytes ∧ (∀ x ∈ xs, Ty P m e x) ∧ r = [.list xs]
    | some (.struct fs) => TyF (Ty P m) fs.toList r
    | some (.array n e) => TyA (Ty P m e) n r
    | _ => False
def supp (P : Program) : Nat → TypeId → Bool
  | 0, _ => false
  | m + 1, t => match P.underlying t with
    | some .bool => true
    | some (.int _) => true
    | some .string => true
    | some (.slice e) => decide (P.cellsOf e ≠ 0) && supp P m e
    | some (.struct fs) => tile P fs.toList 0 (P.cellsOf t) && fs.toList.all (fun f => supp P m f.type)
    | some (.array n e) => decide (n * P.cellsOf e = P.cellsOf t) && supp P m e
    | _ => false
structure RowR (J : Imm) (cs : List Value) (r : List DV) : Prop where
  len : cs.length = r.length
  rep : ∀ (i : Nat) v d, cs[i]? = some v → r[i]? = some d → Rep J v d
  one : ∀ v ∈ cs, v.oneCell' = true
theorem RowR.nil (J : Imm) : RowR J [] [] := ⟨rfl, fun i v d h => by simp at h, fun v h => by simp at h⟩
theorem RowR.single {J : Imm} {v : Value} {d : DV} (h : Rep J v d) (h1 : v.oneCell' = true) : RowR J [v] [d] := ⟨rfl, fun i v' d' h2 h3 => by
  cases i with
  | zero => simp at h2 h3; subst h2; subst h3; exact h
  | succ i => simp at h2, fun v' h2 => by simp at h2; subst h2; exact h1⟩
theorem RowR.append {J : Imm} {a b : List Value} {r s : List DV} (h : RowR J a r) (k : RowR J b s) : RowR J (a ++ b) (r ++ s) := ⟨by simp [h.len, k.len], fun i v d h1 h2 => by
  have hl := h.len
  by_cases hi : i < a.length
  · rw [List.getElem?_append_left hi] at h1
    rw [List.getElem?_append_left (by omega)] at h2
    exact h.rep i v d h1 h2
  · rw [List.getElem?_append_right (by omega)] at h1
    rw [List.getElem?_append_right (by omega), ← hl] at h2
    exact k.rep _ v d h1 h2, fun v hv => by
  rcases List.mem_append.1 hv with h1 | h1
  · exact h.one v h1
  · exact k.one v h1⟩
variable {H : Type} {enc : TypeId × Value → H} {P : Program} {W : World}
theorem cells_get {a : Addr} {n : Nat} {cs : List Value} (h : W.cells? 0 a n = some cs) : cs.length = n ∧ ∀ (i : Nat) v, cs[i]? = some v → W.cell? (a.add i) = some v := by
  unfold World.cells? at h
  rw [if_pos (Nat.zero_le _)] at h
  obtain ⟨h1, h2⟩ := mapM_get h
  simp at h1
  refine ⟨h1, fun i v hv => ?_⟩
  have hi : i < n := by rw [← h1]; exact (List.getElem?_eq_some_iff.1 hv).1
  exact h2 i i v (by simp [hi]) hv
theorem add_spot {a : Addr} (ha : a.spot = none) (n : Nat) : a.add n = ⟨a.block, a.off + n, none⟩ := by
  obtain ⟨b, o, s⟩ := a
  simp only at ha
  subst ha
  exact addr_add b o n
theorem wEach_cons {t : TypeId} {ts : List TypeId} {d : DataW H} {ds : List (DataW H)} {n : Nat} : n ∈ DataW.weightsEach P (t :: ts) (d :: ds) ↔ n ∈ d.weights P t ∨ n ∈ DataW.weightsEach P ts ds := by
  simp [DataW.weightsEach]
theorem wAll_mem {e : TypeId} : ∀ {ds : List (DataW H)} {d : DataW H} {n : Nat}, d ∈ ds → n ∈ d.weights P e → n ∈ DataW.weightsAll P e ds
  | [], _, _, h, _ => by simp at h
  | d0 :: ds, d, n, h, hn => by
    simp only [DataW.weightsAll, List.mem_append]
    rcases List.mem_cons.1 h with rfl | h
    · exact Or.inl hn
    · exact Or.inr (wAll_mem h hn)
theorem one_of_flat (v : Value) (h : ∀ cs, v ≠ .agg cs) (h' : ∀ cs, v ≠ .tuple cs) : v.oneCell' = true := by
  cases v <;> first | rfl | (exact absurd rfl (h _)) | (exact absurd rfl (h' _))
/-- What is read is data of the type. -/
theorem read_row : ∀ (m : Nat) (t : TypeId) (cs : List Value) (fuel : Nat) (x : DataW H × List MemPlace), supp P m t = true → DataW.trod enc P W 0 (fun _ => true) true fuel t cs = some x →
    (∀ n ∈ x.1.weights P t, n ≤ reachBytes) → ∃ r, Ty P m t r ∧ RowR (Jof W) cs r := by
  intro m
  induction m with
  | zero => intro t cs fuel x h; simp [supp] at h
  | succ m ih =>
    intro t cs fuel x hs h hw
    unfold supp at hs
    unfold Ty
    split at hs
    · rename_i hu
      obtain ⟨b, rfl, rfl⟩ := DataW.trod_bool hu h
      exact ⟨_, ⟨b, rfl⟩, RowR.single .bool rfl⟩
    · rename_i k hu
      obtain ⟨n, rfl, rfl, hwf⟩ := DataW.trod_int hu h
      have hk : InK k n := by
        simp only [Lit.wf, Bool.and_eq_true, decide_eq_true_eq] at hwf
        exact hwf
      exact ⟨_, ⟨n, hk, rfl⟩, RowR.single (.int hk) rfl⟩
    · rename_i hu
      obtain ⟨s, rfl, rfl, hsz⟩ := DataW.trod_string hu h
      refine ⟨_, ⟨s.data.toList, hw _ (by simp [DataW.weights]), rfl⟩, RowR.single ?_ rfl⟩
      have := Rep.str (J := Jof W) (s := s.data.toList) (by simpa using hsz)
      simpa using this
    · rename_i e hu
      simp only [Bool.and_eq_true, decide_eq_true_eq] at hs
      obtain ⟨hc, hs⟩ := hs
      rcases DataW.trod_slice hu h with ⟨rfl, rfl⟩ | ⟨a, len, cap, elems, rest, n, rfl, rfl, rfl, _, h2, h3, h4, h5, h6, _⟩
      · exact ⟨_, ⟨[], by simp, (fun x hx => by simp at hx), rfl⟩, RowR.single (.empty (by simp)) rfl⟩
      · obtain ⟨h6, _⟩ := h6 rfl
        have hel : ∀ i, i < len → ∃ row : List DV, ∃ vs : List Value, W.cells? 0 (a.add (i * P.cellsOf e)) (P.cellsOf e) = some vs ∧ Ty P m e row ∧ RowR (Jof W) vs row := fun i hi => by
          have := h5 i hi
          obtain ⟨y, hy⟩ : ∃ y, elems[i]? = some y := ⟨_, List.getElem?_eq_getElem (by omega)⟩
          rw [hy] at this
          obtain ⟨vs, e1, e2⟩ := Option.bind_eq_some_iff.1 this
          obtain ⟨row, r1, r2⟩ := ih e vs n y hs e2 (fun k hk => hw k (by
            simp only [DataW.weights, hu]
            refine List.mem_cons_of_mem _ (List.mem_append_left _ (wAll_mem ?_ hk))
            exact List.mem_map.2 ⟨y, List.mem_of_getElem? hy, rfl⟩))
          exact ⟨row, vs, e1, r1, r2⟩
        let rw' : Nat → List DV := fun i => if hi : i < len then (hel i hi).choose else []
        have hrw : ∀ i (hi : i < len), rw' i = (hel i hi).choose := fun i hi => by simp only [rw', dif_pos hi]
        have hsp : ∀ i, i < len → a.spot = none := fun i hi => by
          obtain ⟨row, vs, e1, _, _⟩ := hel 0 (by omega)
          obtain ⟨g1, g2⟩ := cells_get e1
          have hv : ∃ v, vs[0]? = some v := ⟨_, List.getElem?_eq_getElem (by omega)⟩
          obtain ⟨v, hv⟩ := hv
          have := g2 0 v hv
          simp only [Nat.zero_mul] at this
          rw [show (a.add 0).add 0 = a from rfl] at this
          unfold World.cell? at this
          split at this
          · split at this
            · cases this
            · rename_i hns
              cases hh : a.spot with
              | none => rfl
              | some _ => rw [hh] at hns; simp at hns
          · cases this
        refine ⟨_, ⟨(List.range len).map rw', ?_, ?_, rfl⟩, RowR.single ?_ rfl⟩
        · have := hw ((elems.length + rest.length) * P.bytesOf e) (by simp [DataW.weights, hu])
          simp only [List.length_map, List.length_range]
          refine Nat.le_trans (Nat.mul_le_mul_right _ ?_) this
          omega
        · intro x hx
          obtain ⟨i, hi, rfl⟩ := List.mem_map.1 hx
          have hi := List.mem_range.1 hi
          rw [hrw i hi]
          exact (hel i hi).choose_spec.choose_spec.2.1
        · rcases Nat.eq_zero_or_pos len with h0 | h0
          · subst h0
            exact Rep.empty (by omega)
          · have ha := hsp 0 h0
            obtain ⟨b, o, sp⟩ := a
            simp only at ha
            subst ha
            let vv : Nat → Nat → Value := fun i j => ((W.cells? 0 ((⟨b, o, none⟩ : Addr).add (i * P.cellsOf e)) (P.cellsOf e)).getD []).getD j undef
            have hrow : ∀ i (hi : i < len), ∃ vs : List Value, W.cells? 0 ((⟨b, o, none⟩ : Addr).add (i * P.cellsOf e)) (P.cellsOf e) = some vs ∧ RowR (Jof W) vs (rw' i) := fun i hi => by
              obtain ⟨vs, e1, _, e3⟩ := (hel i hi).choose_spec
              exact ⟨vs, e1, by rw [hrw i hi]; exact e3⟩
            have hlen : ((List.range len).map rw').length = len := by simp
            have := Rep.slice (J := Jof W) (b := b) (off := o) (cap := cap) (wd := P.cellsOf e) (xs := (List.range len).map rw') vv (by simpa using h2) h3 (fun r hr => by
              obtain ⟨i, hi, rfl⟩ := List.mem_map.1 hr
              obtain ⟨vs, e1, e3⟩ := hrow i (List.mem_range.1 hi)
              rw [← e3.len]; exact (cells_get e1).1) (fun i j hi hj => by
              rw [hlen] at hi
              obtain ⟨vs, e1, e3⟩ := hrow i hi
              obtain ⟨g1, g2⟩ := cells_get e1
              have hj' : j < vs.length := by omega
              have hv : vs[j]? = some (vv i j) := by
                simp only [vv, e1, Option.getD_some]
                rw [List.getD_eq_getElem?_getD, List.getElem?_eq_getElem hj']; rfl
              have hcell := g2 j _ hv
              rw [addr_add, addr_add] at hcell
              exact Jof_mk hcell (e3.one _ (List.mem_of_getElem? hv))) (fun i j r d hr hd => by
              obtain ⟨hi, rfl⟩ := List.getElem?_eq_some_iff.1 hr
              rw [hlen] at hi
              simp only [List.getElem_map, List.getElem_range] at hd
              obtain ⟨vs, e1, e3⟩ := hrow i hi
              have hj' : j < vs.length := by rw [e3.len]; exact (List.getElem?_eq_some_iff.1 hd).1
              refine e3.rep j _ d ?_ hd
              simp only [vv, e1, Option.getD_some]
              rw [List.getD_eq_getElem?_getD, List.getElem?_eq_getElem hj']; rfl)
            rw [hlen] at this
            exact this
    · rename_i fs hu
      simp only [Bool.and_eq_true, List.all_eq_true] at hs
      obtain ⟨htile, hs⟩ := hs
      obtain ⟨xs, n, rfl, rfl, hl, hlen, hf⟩ := DataW.trod_struct hu h
      simp only [DataW.weights, hu] at hw
      have key : ∀ (fl : List Field) (ys : List (DataW H × List MemPlace)) (s : Nat), tile P fl s (P.cellsOf t) = true → (∀ f ∈ fl, supp P m f.type = true) → ys.length = fl.length →
          (∀ (i : Nat) (f : Field), fl[i]? = some f → DataW.trod enc P W 0 (fun _ => true) true n f.type ((cs.drop f.offset).take (P.cellsOf f.type)) = ys[i]?) →
          (∀ k ∈ DataW.weightsEach P (fl.map (·.type)) (ys.map (·.1)), k ≤ reachBytes) → ∃ r, TyF (Ty P m) fl r ∧ RowR (Jof W) (cs.drop s) r := by
        intro fl
        induction fl with
        | nil =>
          intro ys s ht _ _ _ _
          simp only [tile, beq_iff_eq] at ht
          refine ⟨[], rfl, ?_⟩
          rw [List.drop_eq_nil_of_le (by omega)]
          exact RowR.nil _
        | cons f fl ihf =>
          intro ys s ht hsup hyl hget hwt
          simp only [tile, Bool.and_eq_true, beq_iff_eq] at ht
          obtain ⟨hoff, ht⟩ := ht
          cases ys with
          | nil => simp at hyl
          | cons y ys =>
            have h0 := hget 0 f rfl
            simp only [List.getElem?_cons_zero] at h0
            obtain ⟨r1, t1, q1⟩ := ih f.type _ n y (hsup f (by simp)) h0 (fun k hk => hwt k (by simp only [List.map_cons]; exact wEach_cons.2 (Or.inl hk)))
            obtain ⟨r2, t2, q2⟩ := ihf ys (s + P.cellsOf f.type) ht (fun g hg => hsup g (by simp [hg])) (by simpa using hyl) (fun i g hg => by simpa using hget (i + 1) g (by simpa using hg))
              (fun k hk => hwt k (by simp only [List.map_cons]; exact wEach_cons.2 (Or.inr hk)))
            refine ⟨r1 ++ r2, ⟨r1, r2, t1, t2, rfl⟩, ?_⟩
            have := q1.append q2
            rw [hoff, ← List.drop_drop, List.take_append_drop] at this
            exact this
      obtain ⟨r, t1, q1⟩ := key fs.toList xs 0 htile (fun f hf => hs f hf) (by simpa using hlen) (fun i f hf' => hf i f (by simpa using hf')) hw
      exact ⟨r, t1, by simpa using q1⟩
    · rename_i n0 e hu
      simp only [Bool.and_eq_true, decide_eq_true_eq] at hs
      obtain ⟨hsz, hs⟩ := hs
      cases fuel with
      | zero => simp [DataW.trod] at h
      | succ fuel =>
        have hx : ∃ ys, (List.range n0).mapM (fun i => DataW.trod enc P W 0 (fun _ => true) true fuel e ((cs.drop (i * P.cellsOf e)).take (P.cellsOf e))) = some ys ∧ x = (.agg (ys.map (·.1)), ys.flatMap (·.2)) ∧ cs.length = P.cellsOf t := by
          unfold DataW.trod at h
          rw [hu] at h
          split at h <;> simp_all
          obtain ⟨h1, ys, h2, h3⟩ := h
          exact ⟨ys, h2, h3.symm⟩
        obtain ⟨ys, hys, rfl, hl⟩ := hx
        simp only [DataW.weights, hu] at hw
        obtain ⟨hyl, hget⟩ := mapM_get hys
        simp at hyl
        have key : ∀ (k s : Nat), s + k = n0 → ∃ r, TyA (Ty P m e) k r ∧ RowR (Jof W) (cs.drop (s * P.cellsOf e)) r := by
          intro k
          induction k with
          | zero =>
            intro s hk
            refine ⟨[], rfl, ?_⟩
            rw [List.drop_eq_nil_of_le (by rw [hl, ← hsz]; exact Nat.mul_le_mul_right _ (by omega))]
            exact RowR.nil _
          | succ k ihk =>
            intro s hk
            obtain ⟨y, hy⟩ : ∃ y, ys[s]? = some y := ⟨_, List.getElem?_eq_getElem (by omega)⟩
            have h0 := hget s s y (by rw [List.getElem?_range (by omega)]) hy
            obtain ⟨r1, t1, q1⟩ := ih e _ fuel y hs h0 (fun n hn => hw n (wAll_mem (List.mem_map.2 ⟨y, List.mem_of_getElem? hy, rfl⟩) hn))
            obtain ⟨r2, t2, q2⟩ := ihk (s + 1) (by omega)
            refine ⟨r1 ++ r2, ⟨r1, r2, t1, t2, rfl⟩, ?_⟩
            have := q1.append q2
            rw [show (s + 1) * P.cellsOf e = s * P.cellsOf e + P.cellsOf e from Nat.succ_mul _ _, ← List.drop_drop, List.take_append_drop] at this
            exact this
        obtain ⟨r, t1, q1⟩ := key n0 0 (by omega)
        exact ⟨r, t1, by simpa using q1⟩
    · cases hs
end Go.Bf

/-
  From a contract on data to a claim's form. Nothing is claimed here.
-/
namespace Go.Bf
open Go Go.RowKit Go.ChangeShapes Go.WideShapes
/-- The argument that a row is. -/
def argOf (P : Program) (t : TypeId) (r : List DV) : DV :=
  match P.underlying t with
  | some (.struct _) => .agg r
  | some (.array _ _) => .agg r
  | _ => match r with | [d] => d | _ => .agg r
def TyL (P : Program) (m : Nat) : List TypeId → List (List DV) → Prop
  | [], [] => True
  | t :: ts, r :: rs => Ty P m t r ∧ TyL P m ts rs
  | _, _ => False
def argsOf (P : Program) : List TypeId → List (List DV) → List DV
  | t :: ts, r :: rs => argOf P t r :: argsOf P ts rs
  | _, _ => []
variable {H : Type} {enc : TypeId × Value → H} {P : Program} {W : World}
theorem cells_plain {v : Value} (h : ∀ cs, v ≠ .agg cs) : v.cells.toList = [v] := by
  cases v <;> first | rfl | (exact absurd rfl (h _))
theorem row_one {J : Imm} {v : Value} {r : List DV} (h : RowR J [v] r) : ∃ d, r = [d] ∧ Rep J v d := by
  have hl := h.len
  match r, hl with
  | [d], _ => exact ⟨d, rfl, h.rep 0 v d rfl rfl⟩
theorem read_arg {m : Nat} {t : TypeId} {v : Value} {d : DataW H} {ps : List MemPlace} {W0 : World} {base : Nat} (hs : supp P m t = true) (hok : Value.okWide P W0 .any base t v) (h : DataW.Trod enc P W 0 (fun _ => true) true t v d ps)
    (hw : ∀ n ∈ d.weights P t, n ≤ reachBytes) : ∃ r, Ty P m t r ∧ Rep (Jof W) v (argOf P t r) := by
  obtain ⟨fuel, h⟩ := h
  obtain ⟨r, h1, h2⟩ := read_row m t _ fuel (d, ps) hs h hw
  refine ⟨r, h1, ?_⟩
  have hagg : (∃ cs, v = .agg cs) → Rep (Jof W) v (.agg r) := fun ⟨cs, e⟩ => by
    subst e
    refine .agg (by simpa [Value.cells] using h2.len) (fun i v d hv hd => h2.rep i v d (by simpa [Value.cells] using hv) hd)
  have hone : (∀ cs, v ≠ .agg cs) → ∃ d, r = [d] ∧ Rep (Jof W) v d := fun hn => by
    rw [cells_plain hn] at h2
    exact row_one h2
  have hpl : ∀ T : TypeDesc, P.underlying t = some T → (∀ fs, T ≠ .struct fs) → (∀ n e, T ≠ .array n e) → Rep (Jof W) v (argOf P t r) := fun T hT h3 h4 => by
    have hn : ∀ cs, v ≠ .agg cs := fun cs e => by
      subst e
      unfold Value.okWide at hok
      rw [hT] at hok
      cases T <;> first | (exact absurd rfl (h3 _)) | (exact absurd rfl (h4 _ _)) | (simp [Cell.okWide, Cell.ok, hT] at hok)
    obtain ⟨d, rfl, hr⟩ := hone hn
    unfold argOf
    rw [hT]
    cases T <;> first | exact hr | (exact absurd rfl (h3 _)) | (exact absurd rfl (h4 _ _))
  cases m with
  | zero => simp [supp] at hs
  | succ m =>
    unfold supp at hs
    split at hs
    · rename_i hu; exact hpl _ hu (by simp) (by simp)
    · rename_i hu; exact hpl _ hu (by simp) (by simp)
    · rename_i hu; exact hpl _ hu (by simp) (by simp)
    · rename_i hu; exact hpl _ hu (by simp) (by simp)
    · rename_i fs hu
      unfold Value.okWide at hok
      rw [hu] at hok
      obtain ⟨cs, e, _⟩ := hok
      unfold argOf
      rw [hu]
      exact hagg ⟨cs, e⟩
    · rename_i n e hu
      unfold Value.okWide at hok
      rw [hu] at hok
      obtain ⟨cs, e, _⟩ := hok
      unfold argOf
      rw [hu]
      exact hagg ⟨cs, e⟩
    · cases hs
theorem read_args {m : Nat} {W0 : World} {base : Nat} : ∀ {ts : List TypeId} {vs : List Value} {ds : List (DataW H)} {ps : List MemPlace}, (∀ t ∈ ts, supp P m t = true) → (∀ (j : Nat) t v, ts[j]? = some t → vs[j]? = some v → Value.okWide P W0 .any base t v) →
    DataW.TrodAll enc P W 0 (fun _ => true) true ts vs ds ps → (∀ n ∈ DataW.weightsEach P ts ds, n ≤ reachBytes) →
    ∃ rs, TyL P m ts rs ∧ vs.length = (argsOf P ts rs).length ∧ ∀ (i : Nat) v d, vs[i]? = some v → (argsOf P ts rs)[i]? = some d → Rep (Jof W) v d
  | [], vs, ds, ps, _, _, h, _ => by
    obtain ⟨rfl, rfl, rfl⟩ := trodAll_nil h
    exact ⟨[], trivial, rfl, fun i v d h => by simp at h⟩
  | t :: ts, vs, ds, ps, hs, hok, h, hw => by
    obtain ⟨v, vs1, d, ds1, a, b, rfl, rfl, rfl, h1, h2⟩ := trodAll_cons h
    obtain ⟨r, g1, g2⟩ := read_arg (hs t (by simp)) (hok 0 t v rfl rfl) h1 (fun n hn => hw n (wEach_cons.2 (Or.inl hn)))
    obtain ⟨rs, k1, k2, k3⟩ := read_args (m := m) (W0 := W0) (base := base) (fun u hu => hs u (by simp [hu])) (fun j u w hu hw' => hok (j + 1) u w (by simpa using hu) (by simpa using hw')) h2 (fun n hn => hw n (wEach_cons.2 (Or.inr hn)))
    refine ⟨r :: rs, ⟨g1, k1⟩, by simp [argsOf, k2], fun i u e hu he => ?_⟩
    cases i with
    | zero => simp [argsOf] at hu he; subst hu; subst he; exact g2
    | succ i => simp [argsOf] at hu he; exact k3 i u e hu he
theorem trodAll_len {W' : World} {b : Nat} {sp : Nat → Bool} {hd : Bool} : ∀ {ts : List TypeId} {vs : List Value} {ds : List (DataW H)} {ps : List MemPlace}, DataW.TrodAll enc P W' b sp hd ts vs ds ps → ds.length = ts.length
  | [], _, _, _, h => by obtain ⟨_, rfl, _⟩ := trodAll_nil h; rfl
  | t :: ts, _, _, _, h => by
    obtain ⟨v, vs1, d, ds1, a, b, rfl, rfl, rfl, h1, h2⟩ := trodAll_cons h
    simp [trodAll_len h2]
theorem trodAll_stays {W' : World} {sp : Nat → Bool} (hl : laidOutB P = true) (hb : Below W.heap.size W W') : ∀ {ts : List TypeId} {vs : List Value} {ds : List (DataW H)} {ps : List MemPlace}, (∀ t ∈ ts, P.readableRec t = true ∧ t < P.types.size) →
    DataW.TrodAll enc P W 0 (fun _ => true) true ts vs ds ps → (∀ p ∈ ps, p.block < W.heap.size ∧ sp p.block = true) → DataW.TrodAll enc P W' 0 sp true ts vs ds ps
  | [], _, _, _, _, h, _ => by obtain ⟨rfl, rfl, rfl⟩ := trodAll_nil h; rfl
  | t :: ts, _, _, _, hr, h, hp => by
    obtain ⟨v, vs1, d, ds1, a, b, rfl, rfl, rfl, h1, h2⟩ := trodAll_cons h
    exact ⟨a, b, WideElems.Trod_stays hl (hr t (by simp)).1 (hr t (by simp)).2 h1 (fun p hp' => hb.same (hp p (by simp [hp'])).1) (fun p hp' => (hp p (by simp [hp'])).2),
      trodAll_stays hl hb (fun u hu => hr u (by simp [hu])) h2 (fun p hp' => hp p (by simp [hp'])), rfl⟩
/-- **A law's contract meets the form.** -/
theorem law_post {f : FuncId} {fn : Func} {s : ChangeSpec} {apart fresh handsOn again : Bool} {m : Nat} {tb : TypeId} (hl : laidOutB P = true) (hread : ∀ t ∈ fn.params.toList, P.readableRec t = true ∧ t < P.types.size)
    (hs : ∀ t ∈ fn.params.toList, supp P m t = true) (hvars : s.vars = []) (hres : fn.resultTypes = #[tb]) (hub : P.underlying tb = some .bool)
    (hspec : ∀ (ds : List (DataW H)), ds.length = fn.params.toList.length → s.fn H ds = { results := [.lit (.bool true)], args := ds })
    (law : ∀ rs, TyL P m fn.params.toList rs → FnWp P f (argsOf P fn.params.toList rs) (· = .ret (.bool true)))
    {base : Nat} {args : Array Value} {ds gs : List (DataW H)} {before : List MemPlace}
    (hval : ∀ (j : Nat) t v, fn.params[j]? = some t → args[j]? = some v → Value.okWide P W .any base t v)
    (hW : DataW.Whole enc P fn.params.toList s.vars apart W args.toList ds gs before)
    (hsz : (DataW.weightsEach P (fn.params.toList ++ s.plain.varTypes P) (ds ++ gs)).all (· ≤ reachBytes) = true) :
    Calls P f args W fun e W' => ∃ v, e = .returned v ∧ s.post enc P fn apart fresh handsOn again W args v W' := by
  have hW0 := hW
  obtain ⟨p, q, hA, hV, rfl, hfz, hnd⟩ := hW
  rw [hvars] at hV
  have hgs : gs = [] ∧ q = [] := by
    cases gs with
    | nil => exact ⟨rfl, hV⟩
    | cons g gs => exact hV.elim
  obtain ⟨rfl, rfl⟩ := hgs
  have hvt : s.plain.varTypes P = [] := by
    unfold DataSpec.varTypes
    rw [show s.plain.vars = [] from hvars]; rfl
  rw [hvt, List.append_nil, List.append_nil] at hsz
  obtain ⟨rs, h1, h2, h3⟩ := read_args (m := m) (W0 := W) (base := base) hs (fun j t v hj hv => hval j t v (by simpa using hj) (by simpa using hv)) hA (fun n hn => by simpa using List.all_eq_true.1 hsz n hn)
  have hlt : ∀ x ∈ p, x.block < W.heap.size := fun x hx => hW0.lt x (by simpa using hx)
  have hdl := trodAll_len hA
  refine (law rs h1 W (Jof W) args (Jof_holds W) ⟨by simpa using h2, fun i v d hv hd => h3 i v d (by simpa using hv) hd⟩).mono ?_
  rintro e W' ⟨o, J', hb, _, _, _, he, rfl⟩
  cases e with
  | returned v =>
    have hv : Rep J' v (.bool true) := he
    cases hv
    refine ⟨_, rfl, ds, [], p ++ [], [], p, [], hW0, ?_, ?_, ?_, hb.frame _, fun _ => ⟨?_, .lit (.bool true) :: ds, [], p ++ [], ⟨p, [], ?_, ?_, rfl, ?_, ?_⟩, ?_⟩⟩
    · rw [hres, List.append_nil, hspec ds hdl]
      exact trodAll_mk1 (shut_bool hub true)
    · rw [List.append_nil, hspec ds hdl]
      exact trodAll_stays hl hb hread hA (fun x hx => ⟨hlt x hx, by simpa using hlt x hx⟩)
    · rw [hvars, List.append_nil, hspec ds hdl]; rfl
    · exact ok_one hres rfl (okWide_bool_mk hub true)
    · rw [hres]
      exact ⟨[], p, shut_bool hub true, trodAll_stays hl hb hread hA (fun x hx => ⟨hlt x hx, rfl⟩), by simp⟩
    · rw [hvars]; rfl
    · intro b o hx
      have := hlt _ (by simpa using hx)
      rw [hb.frozen this]
      exact hfz b o (by simpa using hx)
    · exact hnd
    · intro x hx _
      exact hx
  | panicked ch => exact he.elim
  | outgrown => exact he.elim
end Go.Bf

/-
  Rows of a type, as data. Nothing is claimed here.
-/
namespace Go.Bf
open Go Go.RowKit
variable {P : Program}
theorem ty_int {m : Nat} {t : TypeId} {k : IntKind} {r : List DV} (hu : P.underlying t = some (.int k)) (h : Ty P m t r) : ∃ n, InK k n ∧ r = [.int k n] := by
  cases m with
  | zero => exact h.elim
  | succ m => unfold Ty at h; rw [hu] at h; exact h
theorem ty_bool {m : Nat} {t : TypeId} {r : List DV} (hu : P.underlying t = some .bool) (h : Ty P m t r) : ∃ b, r = [.bool b] := by
  cases m with
  | zero => exact h.elim
  | succ m => unfold Ty at h; rw [hu] at h; exact h
theorem ty_str {m : Nat} {t : TypeId} {r : List DV} (hu : P.underlying t = some .string) (h : Ty P m t r) : ∃ s : List UInt8, s.length ≤ reachBytes ∧ r = [.str s] := by
  cases m with
  | zero => exact h.elim
  | succ m => unfold Ty at h; rw [hu] at h; exact h
theorem ty_u8 {m : Nat} {t : TypeId} {r : List DV} (hu : P.underlying t = some (.int .u8)) (h : Ty P m t r) : ∃ c : UInt8, r = rowB c := by
  obtain ⟨n, hn, rfl⟩ := ty_int hu h
  rw [inK_u8] at hn
  refine ⟨UInt8.ofNat n.toNat, ?_⟩
  have : (UInt8.ofNat n.toNat).toNat = n.toNat := by simp; omega
  simp only [rowB, cB, this]
  rw [Int.toNat_of_nonneg hn.1]
theorem exists_map {α : Type} {T : List DV → Prop} {B : α → Prop} {E : α → List DV} (hE : ∀ x, T x → ∃ a, B a ∧ x = E a) : ∀ (xs : List (List DV)), (∀ x ∈ xs, T x) → ∃ l : List α, (∀ a ∈ l, B a) ∧ xs = l.map E
  | [], _ => ⟨[], by simp, rfl⟩
  | x :: xs, h => by
    obtain ⟨a, ha, rfl⟩ := hE x (h x (by simp))
    obtain ⟨l, hl, rfl⟩ := exists_map hE xs (fun y hy => h y (by simp [hy]))
    exact ⟨a :: l, by simpa using ⟨ha, hl⟩, rfl⟩
theorem ty_list {α : Type} {B : α → Prop} {E : α → List DV} {t e : TypeId} {m : Nat} {r : List DV} (hu : P.underlying t = some (.slice e)) (h : Ty P m t r) (hE : ∀ m x, Ty P m e x → ∃ a, B a ∧ x = E a) :
    ∃ l : List α, l.length * P.bytesOf e ≤ reachBytes ∧ (∀ a ∈ l, B a) ∧ r = [.list (l.map E)] := by
  cases m with
  | zero => exact h.elim
  | succ m =>
    unfold Ty at h; rw [hu] at h
    obtain ⟨xs, h1, h2, rfl⟩ := h
    obtain ⟨l, h3, rfl⟩ := exists_map (hE m) xs h2
    exact ⟨l, by simpa using h1, h3, rfl⟩
theorem ty_struct {t : TypeId} {m : Nat} {r : List DV} {fs : Array Field} (hu : P.underlying t = some (.struct fs)) (h : Ty P m t r) : ∃ m', TyF (Ty P m') fs.toList r := by
  cases m with
  | zero => exact h.elim
  | succ m => unfold Ty at h; rw [hu] at h; exact ⟨m, h⟩
theorem ty_array {t e : TypeId} {m n : Nat} {r : List DV} (hu : P.underlying t = some (.array n e)) (h : Ty P m t r) : ∃ m', TyA (Ty P m' e) n r := by
  cases m with
  | zero => exact h.elim
  | succ m => unfold Ty at h; rw [hu] at h; exact ⟨m, h⟩
theorem tyL_cons {m : Nat} {t : TypeId} {ts : List TypeId} {rs : List (List DV)} (h : TyL P m (t :: ts) rs) : ∃ r rs', rs = r :: rs' ∧ Ty P m t r ∧ TyL P m ts rs' := by
  cases rs with
  | nil => exact h.elim
  | cons r rs => exact ⟨r, rs, rfl, h.1, h.2⟩
theorem tyL_nil {m : Nat} {rs : List (List DV)} (h : TyL P m [] rs) : rs = [] := by
  cases rs with
  | nil => rfl
  | cons r rs => exact h.elim
theorem reach_le : reachBytes ≤ 140737488355328 := by decide
end Go.Bf
namespace Go.Bf
open Go Go.RowKit
variable {P : Program} {r : Option Nat}
theorem Models.freezeX {x : Ctx} {K : Know} {a : Act} {w : World} (hm : Models x K a w) (b : Nat) {t : TypeId} {cells : List SV} {ds : List DV} (hmem : K.mem b = .live t cells) (hds : allD cells = some ds) :
    ∃ y, x.ext y ∧ Models y (K.frz b ds) a w ∧ y.w0 = x.w0 ∧ y.oth = x.oth ∧ y.β = Bf.put x.β b .dead ∧ ∀ (B : Nat) sz t0, x.β b = .live B sz t0 → FrzC x y b B ds := by
  obtain ⟨B, vals, fr, h1, ⟨T, h2⟩, h3, h4, h5, h6, h7, h8⟩ := (hm.live b t cells hmem).out
  let y : Ctx := { x with J := fun b' o => if b' = B then (if o % 2 = 0 then vals[o / 2]? else none) else x.J b' o, β := Bf.put x.β b .dead }
  have hJ : ∀ b o v, x.J b o = some v → y.J b o = some v := fun b' o v hv => by
    have : b' ≠ B := fun e => by subst e; rw [h6] at hv; cases hv
    simp only [y, if_neg this]; exact hv
  obtain ⟨g1, g2⟩ := allD_get hds
  have hf : FrzC x y b B ds := ⟨hJ, ⟨_, _, h1⟩, rfl, fun o d hd => by
    obtain ⟨v, e, rr⟩ := h5 o _ (g2 o d hd)
    exact ⟨v, by simp only [y, if_true, Nat.mul_mod_right, Nat.mul_div_cancel_left o (show 0 < 2 by omega)]; exact e, (d_inv rr).mono hJ⟩⟩
  have hholds : ∀ b o v, y.J b o = some v → vc w b o = some v := by
    intro b' o v hv
    simp only [y] at hv
    split at hv
    · rename_i e; subst e; simp only [vc, h2]; exact hv
    · exact hm.holds b' o v hv
  refine ⟨y, ⟨hJ, rfl, rfl⟩, ?_, rfl, rfl, rfl, fun B' sz t0 e => by rw [h1] at e; cases e; exact hf⟩
  refine ⟨hm.fro, hm.size, hm.defers, x.w0.moreJ _ _ _ _ _ hm.below hJ hholds, hholds, ?_, ?_, ?_, ?_, ?_, ?_, ?_, ?_, ?_⟩
  · intro b' o hlt
    have hlt' : b' < x.w0.heap.size ∨ x.oth b' := hlt
    have : b' ≠ B := fun e => by
      subst e
      rcases hlt' with h | h
      · have := h7.1; omega
      · exact h7.2 h
    simp only [y, if_neg this]; exact hm.old b' o hlt'
  · intro i s hs
    simp only [Know.frz, Option.map_eq_some_iff] at hs
    obtain ⟨s0, hs0, rfl⟩ := hs
    obtain ⟨v, e, rr⟩ := hm.slots i s0 hs0
    exact ⟨v, e, SRep.frz hf s0 rr⟩
  · intro b' hb
    simp only [Know.frz] at hb
    split at hb
    · cases hb
    · rename_i e
      simp only [y, Bf.put, if_neg e]
      refine hm.unborn b' ?_
      split at hb <;> simp_all
  · intro b' hb
    simp only [Know.frz] at hb
    split at hb
    · rename_i e; subst e; simp [y, Bf.put]
    · rename_i e
      simp only [y, Bf.put, if_neg e]
      refine hm.dead b' ?_
      split at hb <;> simp_all
  · intro b' t' cells' hb
    simp only [Know.frz] at hb
    split at hb
    · cases hb
    · rename_i e
      split at hb
      · rename_i t0 cs0 hm0
        cases hb
        obtain ⟨B', vals', fr', k1, k2, k3, k4, k5, k6, k7, k8⟩ := (hm.live b' _ cs0 hm0).out
        have hBB : B' ≠ B := fun e2 => by subst e2; exact e (hm.inj b' b _ _ _ _ _ k1 h1)
        refine ⟨B', vals', fr', by simp only [y, Bf.put, if_neg e]; exact k1, k2, k3, by simpa [frzL_eq] using k4, fun o s hs => ?_, fun o => by simp only [y, if_neg hBB]; exact k6 o, k7, k8⟩
        rw [frzL_eq, List.getElem?_map, Option.map_eq_some_iff] at hs
        obtain ⟨s0, hs0, rfl⟩ := hs
        obtain ⟨v, e1, rr⟩ := k5 o s0 hs0
        exact ⟨v, e1, SRep.frz hf s0 rr⟩
      · cases hb
      · rename_i n1 n2; exact absurd hb (n1 _ _)
  · intro b1 b2 B1 sz t1 sz' t2 e1 e2
    simp only [y, Bf.put] at e1 e2
    split at e1 <;> split at e2 <;> first | (cases e1; done) | (cases e2; done) | exact hm.inj _ _ _ _ _ _ _ e1 e2
  · intro b' o v hv
    simp only [y] at hv
    split at hv
    · simp only [Nat.mul_mod_right, if_true] at hv
      exact h8 v (Array.mem_of_getElem? hv)
    · exact hm.one b' o v hv
  · intro b' hb
    have hne : b' ≠ b := fun e => by subst e; have := hm.fresh b' hb; rw [hmem] at this; cases this
    simp only [Know.frz, if_neg hne, hm.fresh b' hb]
  · intro b' es hb
    simp only [Know.frz] at hb
    split at hb
    · cases hb
    · rename_i e
      split at hb
      · cases hb
      · rename_i es0 hm0
        cases hb
        obtain ⟨B', ob, k1, k2, k4, k5, k6⟩ := (hm.maps b' _ hm0).out
        have hBB : B' ≠ B := fun e2 => by subst e2; exact e (hm.inj b' b _ _ _ _ _ k1 h1)
        refine ⟨B', ob, by simp only [y, Bf.put, if_neg e]; exact k1, k2, ?_, fun o => by simp only [y, if_neg hBB]; exact k5 o, k6⟩
        have := k4.mono' hJ (f := SV.frz b ds) (fun _ s h => SRep.frz hf s h)
        cases es0 <;> exact this
      · simp_all


theorem freeze_cell (w : World) (B k n : Nat) (a : Addr) : (w.freeze ⟨B, k, none⟩ n).cell? a = w.cell? a := by
  unfold World.freeze
  split
  · rfl
  · simp only [World.cell?, Array.getElem?_modify]
    by_cases e : B = a.block
    · rw [if_pos e]
      cases h : w.heap[a.block]? with
      | none => rfl
      | some o => cases o <;> rfl
    · rw [if_neg e]
theorem freeze_vc (w : World) (B k n b o : Nat) : vc (w.freeze ⟨B, k, none⟩ n) b o = vc w b o := by
  unfold World.freeze
  split
  · rfl
  · simp only [vc, Array.getElem?_modify]
    by_cases e : B = b
    · rw [if_pos e]
      cases h : w.heap[b]? with
      | none => rfl
      | some o => cases o <;> rfl
    · rw [if_neg e]
theorem freeze_other (w : World) (B k n j : Nat) (h : j ≠ B) : (w.freeze ⟨B, k, none⟩ n).heap[j]? = w.heap[j]? := by
  unfold World.freeze
  split
  · rfl
  · simp only [Array.getElem?_modify, if_neg (Ne.symm h)]
theorem freeze_below (w : World) (B k n m : Nat) (h : m ≤ B) : Below m w (w.freeze ⟨B, k, none⟩ n) := by
  refine ⟨?_, ?_, ?_, ?_, fun j hj => freeze_other w B k n j (by omega)⟩ <;> unfold World.freeze <;> split <;> simp
/-- A block of cells that bears no name is marked. -/
theorem Models.marked {x : Ctx} {K : Know} {a : Act} {w : World} (hm : Models x K a w) {B k : Nat} (h0 : x.w0.heap.size ≤ B) (h1 : ¬ x.oth B) (h2 : ∀ b sz t, x.β b ≠ .live B sz t) {vals : Array Value} {T : TypeId} {fr : Nat × Nat} (h3 : w.heap[B]? = some (.cells vals T fr)) :
    Models x K a (w.freeze ⟨B, k, none⟩ 1) := by
  have hb := freeze_below w B k 1 x.w0.heap.size h0
  have hoth : ∀ j : Nat, x.oth j → (w.freeze ⟨B, k, none⟩ 1).heap[j]? = w.heap[j]? := fun j hj => freeze_other w B k 1 j fun e => h1 (e ▸ hj)
  have hh : ∀ b o v, x.J b o = some v → vc (w.freeze ⟨B, k, none⟩ 1) b o = some v := fun b o v hv => by rw [freeze_vc]; exact hm.holds b o v hv
  refine ⟨hm.fro, hm.size, ?_, x.w0.up _ _ _ _ _ hm.below hb hoth hh, hh, hm.old, hm.slots, hm.unborn, hm.dead, fun b t cells hb => ?_, hm.inj, hm.one, hm.fresh, fun b es hb => ?_⟩
  rotate_right
  · obtain ⟨B', ob, k1, k2, k3⟩ := (hm.maps b es hb).out
    exact ⟨B', ob, k1, by rw [freeze_other _ _ _ _ _ (fun e => by subst e; exact h2 _ _ _ k1)]; exact k2, k3⟩
  · refine hm.defers.mono fun D _ _ hD => ?_
    rw [freeze_other _ _ _ _ _ (fun e => by subst e; rw [h3] at hD; cases hD)]
  · obtain ⟨B', vals', fr', k1, ⟨T', k2⟩, k3, k4, k5, k6, k7, k8⟩ := (hm.live b t cells hb).out
    exact ⟨B', vals', fr', k1, ⟨T', by rw [freeze_other _ _ _ _ _ (fun e => by subst e; exact h2 _ _ _ k1)]; exact k2⟩, k3, k4, k5, k6, k7, k8⟩
theorem run_convert_mark {w : World} {t e : TypeId} {B off n c : Nat} {vals : Array Value} {T : TypeId} {fr : Nat × Nat} (ht : P.underlying t = some (.slice e)) (he : P.underlying e = some (.int .u8)) (hB : w.heap[B]? = some (.cells vals T fr)) :
    (convert t t (.slice (some ⟨B, off, none⟩) n c)).run P w = .ok (.slice (some ⟨B, off, none⟩) n c) (w.freeze ⟨B, vals.size, none⟩ 1) := by
  have hsh : w.shape? B = some (T, vals.size) := by simp [World.shape?, hB]
  simp [convert, run_underlying ht, run_underlying he, markStringish, hsh]
/-- '[]byte("..")': the row that the literal has laid is marked; we hold it immutable from here on. -/
theorem OpsWp.convMark {ops : Array Oper} {Q : XE → Know → Prop} {o : Oper} {l : List Oper} {K : Know} {t e ty : TypeId} {u : Operand} {b off n : Nat} {c : Option Nat} {cells : List SV} {ds : List DV} {xs : List (List DV)} (ho : o.op = .convert t t u)
    (hu : P.underlying t = some (.slice e)) (he : P.underlying e = some (.int .u8)) (hg : o.guard = none) (hd : dstOk K o.dst) (hx : rdK K true u = some (True, .own b 1 off n c)) (hmem : K.mem b = .live ty cells) (hds : allD cells = some ds)
    (hfrz : (SV.own b 1 off n c).frz b ds = .d (.list xs)) (hk : OpsWp P r ops Q l ((K.frz b ds).put o.dst (.d (.list xs)))) : OpsWp P r ops Q (o :: l) K := fun x' a w hm => by
  simp only [opsL]
  have hw : Region.wanted o (yielded ops a.tmps) = true := by unfold Region.wanted; rw [hg]
  rw [if_pos hw]
  have hr := rdK_rep hm hx trivial rfl
  obtain ⟨B, vals, fr, h1, ⟨T, h2⟩, h3, h4, h5, h6, h7, h8⟩ := (hm.live b ty cells hmem).out
  obtain ⟨cap, hv, _⟩ := own_inv hr h1
  obtain ⟨y, hext, hmy, hw0, hoth, hβ, hf⟩ := hm.freezeX b hmem hds
  have hrep := SRep.frz (hf B _ _ h1) _ hr
  rw [hfrz] at hrep
  have hmk := hmy.marked (B := B) (k := vals.size) (by rw [hw0]; exact h7.1) (by rw [hoth]; exact h7.2) (fun b' sz t' e' => by
    rw [hβ] at e'
    simp only [Bf.put] at e'
    split at e'
    · cases e'
    · rename_i hne; exact hne (hm.inj _ _ _ _ _ _ _ e' h1)) h2
  have hnd : ∀ c, o.op ≠ .defer c := fun c e => by rw [ho] at e; cases e
  have hrun : (execOp a.eval o).run P w = .ok (.value (a.eval u)) (w.freeze ⟨B, vals.size, none⟩ 1) := by
    obtain ⟨dst, op, type, pos, after, guard⟩ := o
    simp only at ho
    subst ho
    rw [hv]
    have := run_convert_mark (P := P) (t := t) (off := off) (n := n) (c := cap) hu he h2
    simp only [execOp, hv, Sem.run_bind, this, Result.andThen_ok, Sem.run_pure]
  have hd' : dstOk (K.frz b ds) o.dst := hd
  exact step_value hnd hrun (opsL_ext hext l _ _ (hk y _ _ (hmk.put (dstOk_spec hd') hrep)))
/-- Some operations, and then others. -/
theorem OpsWp.split {ops : Array Oper} {Q : XE → Know → Prop} {l2 : List Oper} : ∀ {l1 : List Oper} {K : Know}, OpsWp P r ops (thenX (OpsWp P r ops Q l2) Q) l1 K → OpsWp P r ops Q (l1 ++ l2) K := by
  have key : ∀ (x : Ctx) (e : Exit) (a : Act) (w : World), Post x (thenX (OpsWp P r ops Q l2) Q) e a w → (e = .normal → opsL P r ops (Post x Q) l2 a w) ∧ (e ≠ .normal → Post x Q e a w) := by
    rintro x e a w ⟨y, K, xe, h1, h2, h3, h4⟩
    constructor
    · rintro rfl
      cases xe <;> first | exact h2.elim | skip
      exact opsL_ext h1 l2 a w (h4 y a w h3)
    · intro hne
      refine ⟨y, K, xe, h1, h2, h3, ?_⟩
      cases xe <;> first | exact h4 | skip
      cases e <;> first | exact absurd rfl hne | exact h2.elim
  have main : ∀ (x : Ctx) (l1 : List Oper) (a : Act) (w : World), opsL P r ops (Post x (thenX (OpsWp P r ops Q l2) Q)) l1 a w → opsL P r ops (Post x Q) (l1 ++ l2) a w := by
    intro x l1
    induction l1 with
    | nil => intro a w h; exact (key x _ a w h).1 rfl
    | cons o l ih =>
      intro a w h
      simp only [opsL, List.cons_append] at h ⊢
      split
      · rename_i hw
        rw [if_pos hw] at h
        exact wpIn_conv (fun a w h => ih a w h) (fun e a w he h => (key x e a w h).2 he) h
      · rename_i hw
        rw [if_neg hw] at h
        exact ih _ _ h
  intro l1 K h x a w hm
  exact main x l1 a w (h x a w hm)
theorem DWp.regMark (im : Bool) (i : Nat) {id : Nat} {ops : Array Oper} {d : Code} {Q : XE → Know → Prop} {K : Know}
    (h : ∀ k : Know → Prop, (∀ K', DWp P r d Q K' → k K') → ∀ k2 : Know → Prop, (∀ K', OpsWp P r ops (thenX k Q) (ops.toList.drop i) K' → k2 K') → VCops P r im ops (thenX k2 (thenX k Q)) (ops.toList.take i) K) :
    DWp P r (.seq (.region id ops false) d) Q K := by
  refine DWp.seq (DWp.region ?_)
  have := OpsWp.split (VCops_sound _ _ (h (DWp P r d Q) (fun _ h => h) (OpsWp P r ops (thenX (DWp P r d Q) Q) (ops.toList.drop i)) (fun _ h => h)))
  rwa [List.take_append_drop] at this
end Go.Bf
