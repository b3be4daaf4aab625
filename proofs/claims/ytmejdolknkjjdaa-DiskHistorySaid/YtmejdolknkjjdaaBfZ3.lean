/-
  Regions that draw their order. Part 3: a plan of the order serves for all orders. Nothing is claimed here.
-/
import Derived.Test.YtmejdolknkjjdaaBfZ2
namespace Go.Bf
open Go Go.RowKit
variable {P : Program} {r : Option Nat}

/-- One order after the other. -/
def AnyV (P : Program) (im : Bool) (ops : Array Oper) (Q : XE → Know → Prop) : Nat → Array Bool → Know → Prop
  | 0, listed, K => Region.ready .any ops listed = [] ∧ Q .normal K
  | n + 1, listed, K => (Region.ready .any ops listed = [] → Q .normal K) ∧
    ∀ i ∈ Region.ready .any ops listed, ∃ o, ops[i]? = some o ∧ StepG P im ops o (AnyV P im ops Q n (listed.setIfInBounds i true)) K

theorem wpIn_conv {o : Oper} {F : Fence} {n : Nat} {a : Act} {w : World} {K K' : Act → World → Prop} {Q Q' : Exit → Act → World → Prop} (hK : ∀ a w, K a w → K' a w) (hQ : ∀ e a w, e ≠ .normal → Q e a w → Q' e a w)
    (h : o.wpIn F n P a w K Q) : o.wpIn F n P a w K' Q' := by
  unfold Oper.wpIn at h ⊢
  refine ⟨h.1, ?_⟩
  have h2 := h.2
  generalize (o.semAt F.round a.eval).run P w = res at h2 ⊢
  cases res with
  | ok nx w' =>
    cases nx <;> simp only [Oper.uponIn] at h2 ⊢ <;> first
      | exact hK _ _ h2
      | exact hQ _ _ _ (by simp) h2
      | exact h2
      | exact ⟨h2.1, CallsIn.mono h2.2 (fun e w'' he => by
          cases e with
          | returned v => exact hK _ _ he
          | panicked ch => exact hQ _ _ _ (by simp) he
          | outgrown => obtain ⟨a0, w0, hp⟩ := he; exact ⟨a0, w0, hQ _ _ _ (by simp) hp⟩)⟩
      | exact ⟨h2.1, RowsIn.mono h2.2 (fun _ _ he => hK _ _ he)⟩
      | exact ⟨h2.1, RoundIn.mono h2.2 (fun e w'' he => by
          cases e with
          | returned v => exact hK _ _ he
          | panicked ch => exact hQ _ _ _ (by simp) he
          | outgrown => obtain ⟨a0, w0, hp⟩ := he; exact ⟨a0, w0, hQ _ _ _ (by simp) hp⟩)⟩
  | halt hh w' => cases hh <;> simp only [Oper.uponIn] at h2 ⊢ <;> first | exact hQ _ _ _ (by simp) h2 | exact h2

theorem AnyV.sound {im : Bool} {ops : Array Oper} {Q : XE → Know → Prop} : ∀ (fuel : Nat) (listed : Array Bool) (K : Know), AnyV P im ops Q fuel listed K → ∀ (x0 x : Ctx) (a : Act) (w : World), x0.ext x → Models x K a w →
    wpAnyIn (FW r) 0 P .any ops (Post x0 Q) fuel listed a w := by
  intro fuel
  induction fuel with
  | zero =>
    intro listed K h x0 x a w hx hm
    exact ⟨h.1, x, K, .normal, hx, trivial, hm, h.2⟩
  | succ fuel ih =>
    intro listed K h x0 x a w hx hm
    refine ⟨fun hr => ⟨x, K, .normal, hx, trivial, hm, h.1 hr⟩, fun i hi => ?_⟩
    obtain ⟨o, ho, hs⟩ := h.2 i hi
    have hv := VCops_sound (r := r) _ _ (StepG.vc (r := r) (Q := Q) hs) x a w hm
    unfold wpOpIn
    simp only [ho]
    simp only [opsL] at hv
    have next : ∀ a' w', Post x (thenX (AnyV P im ops Q fuel (listed.setIfInBounds i true)) Q) .normal a' w' → wpAnyIn (FW r) 0 P .any ops (Post x0 Q) fuel (listed.setIfInBounds i true) a' w' := fun a' w' hp => by
      obtain ⟨y, K', xe, h1, h2, h3, h4⟩ := hp
      cases xe <;> first | exact h2.elim | skip
      exact ih _ _ h4 x0 y a' w' (Ctx.ext_trans hx h1) h3
    split
    · rename_i hw
      rw [if_pos hw] at hv
      refine wpIn_conv next ?_ hv
      rintro e a' w' hne ⟨y, K', xe, h1, h2, h3, h4⟩
      refine ⟨y, K', xe, Ctx.ext_trans hx h1, h2, h3, ?_⟩
      cases xe with
      | normal => cases e <;> first | exact absurd rfl hne | exact h2.elim
      | _ => exact h4
    · rename_i hw
      rw [if_neg hw] at hv
      exact ⟨fun _ _ => about_wide, next _ _ hv⟩

/-! ### What may be taken first -/
def waits (ops : Array Oper) (i : Nat) : Nat → Nat → Bool
  | 0, _ => false
  | n + 1, j => match ops[j]? with
    | none => false
    | some o => o.after.any fun e => Region.binds .any e && (e.on == i || waits ops i n e.on)

def Closed (ops : Array Oper) (listed : Array Bool) : Prop := ∀ (k : Nat) o, ops[k]? = some o → listed.getD k false = true → ∀ e ∈ o.after, Region.binds .any e = true → listed.getD e.on false = true

theorem waits_listed {ops : Array Oper} {listed : Array Bool} {i : Nat} (hc : Closed ops listed) : ∀ (n j : Nat), waits ops i n j = true →
    (∀ o, ops[j]? = some o → ∀ e ∈ o.after, Region.binds .any e = true → listed.getD e.on false = true) → listed.getD i false = true := by
  intro n
  induction n with
  | zero => intro j h; cases h
  | succ n ih =>
    intro j h hj
    simp only [waits] at h
    split at h
    · cases h
    · rename_i o ho
      rw [Array.any_eq_true'] at h
      obtain ⟨e, he, hb⟩ := h
      rw [Bool.and_eq_true, Bool.or_eq_true] at hb
      have hl := hj o ho e he hb.1
      rcases hb.2 with h2 | h2
      · rw [beq_iff_eq] at h2; rw [← h2]; exact hl
      · exact ih e.on h2 fun o' ho' => hc _ o' ho' hl

def indep (im : Bool) (ops : Array Oper) (x y : Oper) : Bool := x.apart ops y && (free im x.op || (match opClass im y.op with | .mem => allocOnly y.op | _ => true))

def freeB (im : Bool) (ops : Array Oper) (listed : Array Bool) (i : Nat) : Bool :=
  match ops[i]? with
  | none => false
  | some o => (List.range ops.size).all fun j => match ops[j]? with
    | none => true
    | some oj => j == i || listed.getD j true || waits ops i ops.size j || indep im ops o oj

theorem freeB_spec {im : Bool} {ops : Array Oper} {listed : Array Bool} {i : Nat} {oi : Oper} (hi : ops[i]? = some oi) (h : freeB im ops listed i = true) :
    ∀ (j : Nat) oj, ops[j]? = some oj → j ≠ i → listed.getD j true = false → waits ops i ops.size j = false → indep im ops oi oj = true := fun j oj hj hne hl hw => by
  unfold freeB at h
  rw [hi] at h
  simp only [List.all_eq_true, List.mem_range] at h
  have := h j (Array.getElem?_eq_some_iff.1 hj).1
  rw [hj] at this
  simp only [Bool.or_eq_true, beq_iff_eq] at this
  rcases this with ((h1 | h1) | h1) | h1
  · exact absurd h1 hne
  · rw [hl] at h1; cases h1
  · rw [hw] at h1; cases h1
  · exact h1

theorem closed_set {ops : Array Oper} {listed : Array Bool} {i : Nat} (hc : Closed ops listed) (hi : i ∈ Region.ready .any ops listed) : Closed ops (listed.setIfInBounds i true) := fun k o hk hl e he hb => by
  by_cases hik : i = k
  · subst hik
    obtain ⟨_, o', ho', hall⟩ := mem_ready.1 hi
    rw [hk] at ho'; cases ho'
    exact getD_set_true (hall e he hb)
  · rw [getD_set_ne false hik] at hl
    exact getD_set_true (hc k o hk hl e he hb)

theorem put_put {K : Know} {d d' : Option Nat} {s s' : SV} (h : ∀ x, d = some x → d' ≠ some x) : (K.put d s).put d' s' = (K.put d' s').put d s := by
  cases d with
  | none => cases d' <;> rfl
  | some i =>
    cases d' with
    | none => rfl
    | some j =>
      simp only [Know.put]
      congr 1
      exact put_comm _ _ _ (fun e => h i rfl (by rw [e]))

theorem slots_put {K : Know} {d : Option Nat} {s : SV} {t : Nat} (h : d ≠ some t) : (K.put d s).slots t = K.slots t := by
  cases d with
  | none => rfl
  | some i =>
    simp only [Know.put, Bf.put]
    rw [if_neg (fun e => h (by rw [e]))]

theorem mem_put {K : Know} {d : Option Nat} {s : SV} : (K.put d s).mem = K.mem := by cases d <;> rfl
theorem n_put {K : Know} {d : Option Nat} {s : SV} : (K.put d s).n = K.n := by cases d <;> rfl
theorem fro_put {K : Know} {d : Option Nat} {s : SV} : (K.put d s).fro = K.fro := by cases d <;> rfl
theorem nx_put {K : Know} {d : Option Nat} {s : SV} : (K.put d s).nx = K.nx := by cases d <;> rfl
theorem fr_put {K : Know} {d : Option Nat} {s : SV} (h : Fr K) : Fr (K.put d s) := by unfold Fr; rw [mem_put, nx_put]; exact h

/-- An operation that is apart: it makes no difference to it that the other one has been carried out. -/
theorem StepG.swap {im : Bool} {ops : Array Oper} {oi oj : Oper} {s : SV} {k : Know → Prop} {K : Know} (hind : indep im ops oi oj = true) (hf : Fr K) (hv : Val P im ops K oi s) (h : StepG P im ops oj k (K.put oi.dst s)) :
    StepG P im ops oj (fun K' => Fr K' ∧ Val P im ops K' oi s ∧ k (K'.put oi.dst s)) K := by
  unfold indep at hind
  rw [Bool.and_eq_true] at hind
  obtain ⟨h1, h2, h3⟩ := Oper.apart_spec hind.1
  have hback : ∀ t ∈ oj.looksAt ops, K.slots t = (K.put oi.dst s).slots t := fun t ht => (slots_put fun e => h1 t e ht).symm
  have hrd : ∀ G u, u ∈ oj.op.operands → rdK (K.put oi.dst s) G u = rdK K G u := fun G u hu => rdK_congr fun t e => (hback t (looks_op (e ▸ hu))).symm
  rcases h with ⟨sj, hvj, hk⟩ | ⟨g0, g1, g2, g3, g4⟩
  · refine .inl ⟨sj, hvj.stable (n_put.symm) (fro_put.symm) (fun t ht => hback t ht) (.inr (by rw [mem_put]; exact fun _ _ _ h => h)), fr_put hf, ?_, ?_⟩
    · exact hv.stable n_put fro_put (fun t ht => slots_put fun e => h3 t e ht) (.inr (by rw [mem_put]; exact fun _ _ _ h => h))
    · rw [← put_put h2]; exact hk
  · refine .inr ⟨g0, g1, dstOk_n n_put.symm fro_put.symm g2, ?_, ?_⟩
    · rw [conds_congr (K' := K.put oi.dst s) fun u hu => (hrd true u (by simpa using hu)).symm]; exact g3
    · rw [opX_congr (rd' := rdS (K.put oi.dst s) true) fun u hu => by simp only [rdS, hrd true u hu]]
      rw [opX_put] at g4
      refine opX_kept g4 fun sj K' hkept hk => ⟨fr_put (hkept.fr hf), ?_, ?_⟩
      · refine hv.stable (n_put.trans hkept.n) (fro_put.trans hkept.fro) (fun t ht => (slots_put fun e => h3 t e ht).trans (by rw [hkept.slots])) ?_
        rw [g0, Bool.or_eq_true] at hind
        rcases hind.2 with hfr | hal
        · exact .inl hfr
        · rw [mem_put]; exact .inr (hkept.le hal hf)
      · rw [← put_put h2]; exact hk

theorem StepG.imp {im : Bool} {ops : Array Oper} {o : Oper} {k k' : Know → Prop} {K : Know} (h : StepG P im ops o k K) (hk : ∀ K, k K → k' K) : StepG P im ops o k' K :=
  h.mono hk fun hkk h => opX_kept h fun s K _ => hkk s K

theorem AnyV.first {im : Bool} {ops : Array Oper} {Q : XE → Know → Prop} {i : Nat} {oi : Oper} {s : SV} (hi : ops[i]? = some oi) : ∀ (fuel : Nat) (listed : Array Bool) (K : Know), Fr K → Closed ops listed →
    (∀ (j : Nat) oj, ops[j]? = some oj → j ≠ i → listed.getD j true = false → waits ops i ops.size j = false → indep im ops oi oj = true) →
    i ∈ Region.ready .any ops listed → Val P im ops K oi s → AnyV P im ops Q fuel (listed.setIfInBounds i true) (K.put oi.dst s) → AnyV P im ops Q (fuel + 1) listed K := by
  intro fuel
  induction fuel with
  | zero =>
    intro listed K hf hc hfree hr hv H
    refine ⟨fun h => (by rw [h] at hr; cases hr), fun j hj => ?_⟩
    by_cases hji : j = i
    · subst hji; exact ⟨oi, hi, .inl ⟨s, hv, H⟩⟩
    · have := ready_mono hj hji
      rw [H.1] at this; cases this
  | succ fuel ih =>
    intro listed K hf hc hfree hr hv H
    refine ⟨fun h => (by rw [h] at hr; cases hr), fun j hj => ?_⟩
    by_cases hji : j = i
    · subst hji; exact ⟨oi, hi, .inl ⟨s, hv, H⟩⟩
    · obtain ⟨oj, hoj, hst⟩ := H.2 j (ready_mono hj hji)
      obtain ⟨hjun, oj', hoj', hall⟩ := mem_ready.1 hj
      rw [hoj] at hoj'; cases hoj'
      have hnw : waits ops i ops.size j = false := by
        cases hw : waits ops i ops.size j with
        | false => rfl
        | true =>
          have h1 := waits_listed hc _ j hw fun o' ho' e he hb => by rw [hoj] at ho'; cases ho'; exact hall e he hb
          have h0 := (mem_ready.1 hr).1
          rcases Nat.lt_or_ge i listed.size with h' | h'
          · simp [h'] at h0 h1; rw [h0] at h1; cases h1
          · simp [Array.getElem?_eq_none h'] at h1
      have hind := hfree j oj hoj hji hjun hnw
      refine ⟨oj, hoj, (hst.swap hind hf hv).imp fun K' hK' => ?_⟩
      refine ih _ K' hK'.1 (closed_set hc hj) (fun k ok hk hki hun hno => hfree k ok hk hki ?_ hno) (ready_mono hr (Ne.symm hji)) hK'.2.1 ?_
      · by_cases hjk : j = k
        · subst hjk; exact hjun
        · rw [getD_set_ne true hjk] at hun; exact hun
      · rw [Array.setIfInBounds_comm _ _ hji]; exact hK'.2.2

/-! ### Plans -/
inductive Plan where
  | done
  | take (i : Nat) (p : Plan)
  | two (i j : Nat) (p q : Plan)

def Plan.depth : Plan → Nat
  | .done => 0
  | .take _ p => p.depth + 1
  | .two _ _ p q => max p.depth q.depth + 1

def Plan.of (l : List Nat) (p : Plan) : Plan := l.foldr .take p

def quietC (im : Bool) (op : Op) : Bool := match opClass im op with | .mem => false | _ => true

def planOK (im : Bool) (ops : Array Oper) : Plan → Array Bool → Bool
  | .done, listed => Region.ready .any ops listed == []
  | .take i p, listed => (Region.ready .any ops listed == [i] || ((Region.ready .any ops listed).contains i && freeB im ops listed i && (match ops[i]? with | some o => quietC im o.op | none => false))) && planOK im ops p (listed.setIfInBounds i true)
  | .two i j p q, listed => Region.ready .any ops listed == [i, j] && planOK im ops p (listed.setIfInBounds i true) && planOK im ops q (listed.setIfInBounds j true)

/-- A call of data to data. -/
def DetCall (P : Program) (f : FuncId) (ss : List SV) (G : Bool) (k : DV → Prop) : Prop := Enters P f ∧ ∃ ds d, toDs ss = some ds ∧ (G = true → FnWp P f ds (· = .ret d)) ∧ k d
@[congr] theorem DetCall.congr {f : FuncId} {ss ss' : List SV} {G G' : Bool} {k : DV → Prop} (h1 : ss = ss') (h2 : G = G') : DetCall P f ss G k = DetCall P f ss' G' k := by rw [h1, h2]
theorem DetCall.intro {f : FuncId} {ss : List SV} {ds : List DV} {G : Bool} {k : DV → Prop} {d : DV} (he : Enters P f) (hd : toDs ss = some ds) (h : G = true → FnWp P f ds (· = .ret d)) (hk : k d) : DetCall P f ss G k := ⟨he, ds, d, hd, h, hk⟩

def StepD (P : Program) (im : Bool) (ops : Array Oper) (o : Oper) (k : Know → Prop) (K : Know) : Prop :=
  match guardG K ops o with
  | none => False
  | some G =>
    match opClass im o.op with
    | .call => match callF (rdS K G) o.op with
      | some (f, ss) => dstOk K o.dst ∧ (G = true → conds K G o.op.operands.toList) ∧ DetCall P f ss G fun d => k (K.put o.dst (mkc o.guard G (.d d)))
      | none => False
    | .mem => o.guard = none ∧ dstOk K o.dst ∧ conds K true o.op.operands.toList ∧ opX P K (rdS K true) o.op fun s K' => k (K'.put o.dst s)
    | .quiet => match quietF P im K G o.op with
      | some (vc, s) => dstOk K o.dst ∧ (G = true → vc) ∧ k (K.put o.dst (mkc o.guard G s))
      | none => False

def DrawV (P : Program) (im : Bool) (ops : Array Oper) (Q : XE → Know → Prop) : Plan → Know → Prop
  | .done, K => Q .normal K
  | .take i p, K => match ops[i]? with | some o => StepD P im ops o (DrawV P im ops Q p) K | none => False
  | .two i j p q, K => (match ops[i]? with | some o => StepD P im ops o (DrawV P im ops Q p) K | none => False) ∧ (match ops[j]? with | some o => StepD P im ops o (DrawV P im ops Q q) K | none => False)

theorem StepD.g {im : Bool} {ops : Array Oper} {o : Oper} {k : Know → Prop} {K : Know} (h : StepD P im ops o k K) : StepG P im ops o k K := by
  unfold StepD at h
  split at h
  · exact h.elim
  · rename_i G hG
    split at h
    · rename_i hc
      split at h
      · rename_i f ss hcall
        obtain ⟨h1, h2, he, ds, d, h3, h4, h5⟩ := h
        exact .inl ⟨_, ⟨G, hG, h1, _, rfl, by rw [hc]; exact ⟨f, ss, ds, d, hcall, h2, he, h3, h4, rfl⟩⟩, h5⟩
      · exact h.elim
    · rename_i hc; exact .inr ⟨hc, h.1, h.2.1, h.2.2.1, h.2.2.2⟩
    · rename_i hc
      split at h
      · rename_i vc s hq
        exact .inl ⟨_, ⟨G, hG, h.1, _, rfl, by rw [hc]; exact ⟨vc, hq, h.2.1⟩⟩, h.2.2⟩
      · exact h.elim

theorem StepG.val {im : Bool} {ops : Array Oper} {o : Oper} {k : Know → Prop} {K : Know} (h : StepG P im ops o k K) (hc : quietC im o.op = true) : ∃ s, Val P im ops K o s ∧ k (K.put o.dst s) := by
  rcases h with h | ⟨h, _⟩
  · exact h
  · unfold quietC at hc; rw [h] at hc; cases hc

theorem StepG.fr {im : Bool} {ops : Array Oper} {o : Oper} {k : Know → Prop} {K : Know} (h : StepG P im ops o k K) (hf : Fr K) : StepG P im ops o (fun K' => Fr K' ∧ k K') K := by
  rcases h with ⟨s, hv, h⟩ | ⟨h0, h1, h2, h3, h4⟩
  · exact .inl ⟨s, hv, fr_put hf, h⟩
  · exact .inr ⟨h0, h1, h2, h3, opX_kept h4 fun s K' hk h => ⟨fr_put (hk.fr hf), h⟩⟩

theorem DrawV.any {im : Bool} {ops : Array Oper} {Q : XE → Know → Prop} : ∀ (p : Plan) (listed : Array Bool) (K : Know) (fuel : Nat), Fr K → Closed ops listed → planOK im ops p listed = true → p.depth ≤ fuel → DrawV P im ops Q p K → AnyV P im ops Q fuel listed K := by
  intro p
  induction p with
  | done =>
    intro listed K fuel hf hc hok hd h
    simp only [planOK, beq_iff_eq] at hok
    cases fuel with
    | zero => exact ⟨hok, h⟩
    | succ fuel => exact ⟨fun _ => h, fun i hi => by rw [hok] at hi; cases hi⟩
  | take i p ih =>
    intro listed K fuel hf hc hok hd h
    simp only [planOK, Bool.and_eq_true] at hok
    obtain ⟨hok1, hok2⟩ := hok
    simp only [DrawV] at h
    cases fuel with
    | zero => simp [Plan.depth] at hd
    | succ fuel =>
      have hd' : p.depth ≤ fuel := by simp only [Plan.depth] at hd; omega
      split at h
      · rename_i o ho
        rw [Bool.or_eq_true] at hok1
        rcases hok1 with hr | hr
        · rw [beq_iff_eq] at hr
          refine ⟨fun h => (by rw [hr] at h; cases h), fun j hj => ?_⟩
          have hj' := hj
          rw [hr, List.mem_singleton] at hj
          subst hj
          exact ⟨o, ho, ((StepD.g h).fr hf).imp fun K' hK => ih _ K' fuel hK.1 (closed_set hc hj') hok2 hd' hK.2⟩
        · rw [Bool.and_eq_true, Bool.and_eq_true] at hr
          have hri : i ∈ Region.ready .any ops listed := by simpa using hr.1.1
          have hq : quietC im o.op = true := by have := hr.2; rw [ho] at this; exact this
          obtain ⟨s, hv, hk⟩ := (StepD.g h).val hq
          exact AnyV.first ho fuel listed K hf hc (freeB_spec ho hr.1.2) hri hv (ih _ _ fuel (fr_put hf) (closed_set hc hri) hok2 hd' hk)
      · exact h.elim
  | two i j p q ihp ihq =>
    intro listed K fuel hf hc hok hd h
    simp only [planOK, Bool.and_eq_true, beq_iff_eq] at hok
    obtain ⟨⟨hr, hok1⟩, hok2⟩ := hok
    simp only [DrawV] at h
    cases fuel with
    | zero => simp [Plan.depth] at hd
    | succ fuel =>
      simp only [Plan.depth] at hd
      refine ⟨fun h => (by rw [hr] at h; cases h), fun k hk => ?_⟩
      have hk' := hk
      rw [hr, List.mem_cons, List.mem_singleton] at hk
      rcases hk with rfl | rfl
      · have h1 := h.1
        split at h1
        · rename_i o ho
          exact ⟨o, ho, ((StepD.g h1).fr hf).imp fun K' hK => ihp _ K' fuel hK.1 (closed_set hc hk') hok1 (by omega) hK.2⟩
        · exact h1.elim
      · have h1 := h.2
        split at h1
        · rename_i o ho
          exact ⟨o, ho, ((StepD.g h1).fr hf).imp fun K' hK => ihq _ K' fuel hK.1 (closed_set hc hk') hok2 (by omega) hK.2⟩
        · exact h1.elim

/-- **A region that draws its order: a plan serves for all orders.** -/
theorem DWp.draw {id : Nat} {ops : Array Oper} {Q : XE → Know → Prop} {K : Know} (im : Bool) (pl : Plan) (hm : P.follows .mixedOrders = true)
    (hok : (decide (pl.depth ≤ ops.size) && planOK im ops pl (Array.replicate ops.size false)) = true) (h : DrawV P im ops Q pl K) : DWp P r (.region id ops true) Q K := fun x a w hmod => by
  rw [Bool.and_eq_true, decide_eq_true_eq] at hok
  refine wpIn_region_any hm ?_
  refine AnyV.sound _ _ K (DrawV.any pl _ K _ hmod.fresh ?_ hok.2 hok.1 h) x x a _ (Ctx.ext_refl _) (hmod.grow ?_)
  · intro k o hk hl
    rcases Nat.lt_or_ge k ops.size with h' | h'
    · simp [h'] at hl
    · rw [Array.getElem?_eq_none h'] at hk; cases hk
  · exact (Below.refl _ w).drew

theorem DWp.drawR {id : Nat} {ops : Array Oper} {d : Code} {Q : XE → Know → Prop} {K : Know} (im : Bool) (pl : Plan) (hm : P.follows .mixedOrders = true)
    (hok : (decide (pl.depth ≤ ops.size) && planOK im ops pl (Array.replicate ops.size false)) = true) (h : ∀ k : Know → Prop, (∀ K', DWp P r d Q K' → k K') → DrawV P im ops (thenX k Q) pl K) :
    DWp P r (.seq (.region id ops true) d) Q K :=
  DWp.seqK fun k hk => DWp.draw im pl hm hok (h k hk)

attribute [simp] DrawV StepD Plan.of

end Go.Bf
