/-
  Regions that draw their order. Part 4: plans that take quiet operations first, with the local blocks named that they look at; two or three ways. Nothing is claimed here.
-/
import Derived.Test.YtmejdolknkjjdaaBfG2
namespace Go.Bf
open Go Go.RowKit
variable {P : Program} {r : Option Nat}

/-- The local block that an operation writes. -/
def touchF (rd : Operand → Option SV) : Op → Option Nat
  | .store _ u _ => match rd u with
    | some (.loc b _) => some b
    | _ => none
  | .call { callee := .builtin .append, args := args, .. } => match args.toList with
    | u :: _ => match rd u with
      | some (.own b _ _ _ _) => some b
      | _ => none
    | _ => none
  | .call { callee := .builtin .copy, args := args, .. } => match args.toList with
    | u :: _ => match rd u with
      | some (.own b _ _ _ _) => some b
      | _ => none
    | _ => none
  | _ => none
theorem keep_new {K : Know} {t : TypeId} {cs : List SV} : ∀ b, b ≠ K.nx → (K.newB t cs).mem b = K.mem b := fun b hb => by simp [Know.newB, Bf.put, hb]
theorem opX_touch {K : Know} {rd : Operand → Option SV} {op : Op} {k k' : SV → Know → Prop} (h : opX P K rd op k)
    (hk : ∀ s K', K.nx ≤ K'.nx → (∀ b, b < K.nx → touchF rd op ≠ some b → K'.mem b = K.mem b) → k s K' → k' s K') : opX P K rd op k' := by
  have hnew : ∀ (op : Op) t cs, K.nx ≤ (K.newB t cs).nx ∧ ∀ b, b < K.nx → touchF rd op ≠ some b → (K.newB t cs).mem b = K.mem b := fun op t cs => ⟨Nat.le_succ _, fun b hb _ => keep_new b (by omega)⟩
  cases op with
  | alloc t =>
    simp only [opX, opM] at h ⊢
    split at h
    · exact hk _ _ (hnew (.alloc 0) _ _).1 (hnew _ _ _).2 h
    · exact h.elim
  | box t u =>
    simp only [opX, opM] at h ⊢
    split at h
    · split at h
      · rename_i hc; rw [if_pos hc]; exact hk _ _ (hnew (.alloc 0) _ _).1 (hnew _ _ _).2 h
      · exact h.elim
    · exact h.elim
  | store t u v =>
    simp only [opX, opM] at h ⊢
    split at h
    · rename_i b off s h1 h2
      cases hb : K.mem b with
      | live bt cells =>
        simp only [hb] at h ⊢
        split at h
        · rename_i hc; rw [if_pos hc]
          refine ⟨h.1, hk _ _ (Nat.le_refl _) (fun b' _ hne => ?_) h.2⟩
          simp only [touchF, h1] at hne
          have : b' ≠ b := fun e => hne (by rw [e])
          simp [Know.setB, Bf.put, this]
        · exact h.elim
      | _ => simp only [hb] at h
    · exact h.elim
  | makeSlice t l c =>
    simp only [opX, opM] at h ⊢
    split at h
    · split at h
      · split at h
        · exact ⟨h.1, hk _ _ (hnew (.alloc 0) _ _).1 (hnew _ _ _).2 h.2⟩
        · exact h.elim
      · exact h.elim
    · exact h.elim
  | buildSlice t n parts =>
    simp only [opX, opM] at h ⊢
    split at h
    · split at h
      · exact hk _ _ (hnew (.alloc 0) _ _).1 (hnew _ _ _).2 h
      · exact h.elim
    · exact h.elim
  | call c =>
    obtain ⟨callee, args, ts⟩ := c
    cases callee with
    | builtin bi =>
      cases bi with
      | append =>
        simp only [opX, opA] at h ⊢
        split at h
        · rename_i u v t t' hargs hts
          split at h
          · split at h
            · rename_i ek s q _ hu _ _ _ vc n news _ _
              cases s with
              | own b wd off len c =>
                cases off with
                | zero =>
                  simp only at h ⊢
                  cases hb : K.mem b with
                  | live bt cells =>
                    simp only [hb] at h ⊢
                    refine ⟨h.1, hk _ _ (Nat.le_succ _) (fun b' hlt hne => ?_) h.2⟩
                    simp only [touchF, hargs, hu] at hne
                    have : b' ≠ b := fun e => hne (by rw [e])
                    rw [keep_new b' (by show b' ≠ K.nx; omega)]
                    simp [Know.setB, Bf.put, this]
                  | _ => simp only [hb] at h
                | succ o => exact h.elim
              | clip xs =>
                exact ⟨h.1, h.2.1, h.2.2.1, h.2.2.2.1, fun hn => hk _ _ (Nat.le_refl _) (fun _ _ _ => rfl) (h.2.2.2.2.1 hn), fun hn => hk _ _ (hnew (.alloc 0) _ _).1 (fun b hb _ => keep_new b (by omega)) (h.2.2.2.2.2 hn)⟩
              | _ => exact h.elim
            · exact h.elim
          · exact h.elim
        · exact h.elim
      | copy =>
        simp only [opX, opC] at h ⊢
        split at h
        · rename_i u v t t' hargs hts
          split at h
          · rename_i ek b wd off len c q _ hu _
            split at h
            · rename_i hb _
              refine ⟨h.1, hk _ _ (Nat.le_refl _) (fun b' _ hne => ?_) h.2⟩
              simp only [touchF, hargs, hu] at hne
              have : b' ≠ b := fun e => hne (by rw [e])
              simp [Know.setB, Bf.put, this]
            · exact h.elim
          · exact h.elim
        · exact h.elim
      | _ => exact h.elim
    | _ => exact h.elim
  | _ => exact h.elim

theorem opX_and {K : Know} {rd : Operand → Option SV} {op : Op} {k : SV → Know → Prop} (h : opX P K rd op k) :
    opX P K rd op fun s K' => (Kept op K K' ∧ K.nx ≤ K'.nx ∧ ∀ b, b < K.nx → touchF rd op ≠ some b → K'.mem b = K.mem b) ∧ k s K' := by
  have h1 := opX_touch (k' := fun s K' => (K.nx ≤ K'.nx ∧ ∀ b, b < K.nx → touchF rd op ≠ some b → K'.mem b = K.mem b) ∧ k s K') h (fun s K' g1 g2 g3 => ⟨⟨g1, g2⟩, g3⟩)
  exact opX_kept h1 fun s K' g1 g2 => ⟨⟨g1, g2.1.1, g2.1.2⟩, g2.2⟩

/-- Only some local blocks are looked at. -/
def mask (F : List Nat) (m m' : Mem) : Mem := fun b => if b ∈ F then m b else m' b
theorem mask_eq {F : List Nat} {a b m : Mem} (h : ∀ x ∈ F, a x = b x) : mask F a m = mask F b m := funext fun x => by
  unfold mask
  split
  · rename_i hx; exact h x hx
  · rfl
theorem mask_self (F : List Nat) (m : Mem) : mask F m m = m := funext fun x => by simp [mask]

/-- What a quiet operation yields that looks at these local blocks alone. -/
def ValP (P : Program) (im : Bool) (ops : Array Oper) (F : List Nat) (K : Know) (o : Oper) (s : SV) : Prop :=
  ∃ G, guardG K ops o = some G ∧ dstOk K o.dst ∧ ∃ s0, s = mkc o.guard G s0 ∧ opClass im o.op = .quiet ∧ (∀ b ∈ F, b < K.nx) ∧ ∃ vc, (∀ m : Mem, quietF P im { K with mem := mask F K.mem m } G o.op = some (vc, s0)) ∧ (G = true → vc)
theorem ValP.val {im : Bool} {ops : Array Oper} {F : List Nat} {K : Know} {o : Oper} {s : SV} (h : ValP P im ops F K o s) : Val P im ops K o s := by
  obtain ⟨G, h1, h2, s0, h3, h4, _, vc, h5, h6⟩ := h
  refine ⟨G, h1, h2, s0, h3, ?_⟩
  rw [h4]
  have := h5 K.mem
  rw [mask_self] at this
  exact ⟨vc, this, h6⟩
theorem ValP.stable {im : Bool} {ops : Array Oper} {F : List Nat} {K K' : Know} {o : Oper} {s : SV} (hv : ValP P im ops F K o s) (hn : K'.n = K.n) (hfr : K'.fro = K.fro) (hs : ∀ t ∈ o.looksAt ops, K'.slots t = K.slots t) (hnx : K.nx ≤ K'.nx)
    (hm : ∀ b ∈ F, b < K.nx → K'.mem b = K.mem b) : ValP P im ops F K' o s := by
  obtain ⟨G, h1, h2, s0, h3, h4, h0, vc, h5, h6⟩ := hv
  refine ⟨G, (guardG_congr hs).trans h1, dstOk_n hn hfr h2, s0, h3, h4, fun b hb => Nat.lt_of_lt_of_le (h0 b hb) hnx, vc, fun m => ?_, h6⟩
  rw [mask_eq (a := K'.mem) (b := K.mem) fun b hb => hm b hb (h0 b hb)]
  exact quietF_congr (K := { K with mem := mask F K.mem m }) (K' := { K' with mem := mask F K.mem m }) (fun t ht => hs t (looks_op ht)) (.inr fun _ _ _ h => h) (h5 m)

/-! ### Steps that leave some blocks be -/
def StepQ (P : Program) (im : Bool) (ops : Array Oper) (C : Nat → Prop) (o : Oper) (k : Know → Prop) (K : Know) : Prop :=
  (∃ s, Val P im ops K o s ∧ k (K.put o.dst s)) ∨
  (opClass im o.op = .mem ∧ o.guard = none ∧ dstOk K o.dst ∧ conds K true o.op.operands.toList ∧ (∀ b, touchF (rdS K true) o.op = some b → C b) ∧ opX P K (rdS K true) o.op fun s K' => k (K'.put o.dst s))
theorem StepQ.g {im : Bool} {ops : Array Oper} {C : Nat → Prop} {o : Oper} {k : Know → Prop} {K : Know} (h : StepQ P im ops C o k K) : StepG P im ops o k K := by
  rcases h with h | ⟨a, b, c, d, _, e⟩
  · exact .inl h
  · exact .inr ⟨a, b, c, d, e⟩
theorem StepQ.imp {im : Bool} {ops : Array Oper} {C C' : Nat → Prop} {o : Oper} {k k' : Know → Prop} {K : Know} (h : StepQ P im ops C o k K) (hC : ∀ b, C b → C' b) (hk : ∀ K, k K → k' K) : StepQ P im ops C' o k' K := by
  rcases h with ⟨s, hv, h⟩ | ⟨a, b, c, d, e, f⟩
  · exact .inl ⟨s, hv, hk _ h⟩
  · exact .inr ⟨a, b, c, d, fun x hx => hC x (e x hx), opX_kept f fun s K' _ h => hk _ h⟩
theorem StepQ.fr {im : Bool} {ops : Array Oper} {C : Nat → Prop} {o : Oper} {k : Know → Prop} {K : Know} (h : StepQ P im ops C o k K) (hf : Fr K) : StepQ P im ops C o (fun K' => Fr K' ∧ k K') K := by
  rcases h with ⟨s, hv, h⟩ | ⟨h0, h1, h2, h3, h3', h4⟩
  · exact .inl ⟨s, hv, fr_put hf, h⟩
  · exact .inr ⟨h0, h1, h2, h3, h3', opX_kept h4 fun s K' hk h => ⟨fr_put (hk.fr hf), h⟩⟩

/-- An operation that is apart: it makes no difference to it that the other one has been carried out. -/
theorem StepQ.swap {im : Bool} {ops : Array Oper} {oi oj : Oper} {s : SV} {k : Know → Prop} {K : Know} {C C' : Nat → Prop} {V : Know → Prop} (hap : oi.apart ops oj = true) (hf : Fr K) (hC : ∀ b, C' b → C b) (_ : V K)
    (hV1 : ∀ K', K'.n = K.n → K'.fro = K.fro → (∀ t ∈ oi.looksAt ops, K'.slots t = K.slots t) → K'.nx = K.nx → K'.mem = K.mem → V K')
    (hV2 : opClass im oj.op = .mem → ∀ K', K'.n = K.n → K'.fro = K.fro → (∀ t ∈ oi.looksAt ops, K'.slots t = K.slots t) → K.nx ≤ K'.nx → (∀ b, b < K.nx → ¬ C' b → K'.mem b = K.mem b) → (allocOnly oj.op = true → MemLe K.mem K'.mem) → V K')
    (h : StepQ P im ops C' oj k (K.put oi.dst s)) : StepQ P im ops C oj (fun K' => Fr K' ∧ V K' ∧ k (K'.put oi.dst s)) K := by
  obtain ⟨h1, h2, h3⟩ := Oper.apart_spec hap
  have hback : ∀ t ∈ oj.looksAt ops, K.slots t = (K.put oi.dst s).slots t := fun t ht => (slots_put fun e => h1 t e ht).symm
  have hrd : ∀ G u, u ∈ oj.op.operands → rdK (K.put oi.dst s) G u = rdK K G u := fun G u hu => rdK_congr fun t e => (hback t (looks_op (e ▸ hu))).symm
  rcases h with ⟨sj, hvj, hk⟩ | ⟨g00, g0, g1, g2, g5, g4⟩
  · refine .inl ⟨sj, hvj.stable (n_put.symm) (fro_put.symm) (fun t ht => hback t ht) (.inr (by rw [mem_put]; exact fun _ _ _ h => h)), fr_put hf, ?_, ?_⟩
    · exact hV1 _ n_put fro_put (fun t ht => slots_put fun e => h3 t e ht) nx_put mem_put
    · rw [← put_put h2]; exact hk
  · have hrd' : ∀ u ∈ oj.op.operands, rdS K true u = rdS (K.put oi.dst s) true u := fun u hu => by simp only [rdS, hrd true u hu]
    have ht : touchF (rdS K true) oj.op = touchF (rdS (K.put oi.dst s) true) oj.op := by
      have hcl : ∀ c : Call, oj.op = .call c → touchF (rdS K true) (.call c) = touchF (rdS (K.put oi.dst s) true) (.call c) := fun c hop => by
        have hm : ∀ u ∈ c.args.toList, rdS K true u = rdS (K.put oi.dst s) true u := fun u hu => hrd' u (by rw [hop]; simp only [Op.operands, Call.operands]; simp at hu; simp [hu])
        obtain ⟨cal, args, ts⟩ := c
        simp only at hm
        cases cal with
        | builtin bi =>
          cases bi <;> simp only [touchF]
          all_goals
            cases hl : args.toList with
            | nil => rfl
            | cons u us => simp only; rw [hm u (by rw [hl]; simp)]
        | _ => rfl
      cases hop : oj.op with
      | store t u v => simp only [touchF]; rw [hrd' u (by rw [hop]; simp [Op.operands])]
      | call c => exact hcl c hop
      | _ => rfl
    refine .inr ⟨g00, g0, dstOk_n n_put.symm fro_put.symm g1, ?_, fun b hb => hC b (g5 b (ht ▸ hb)), ?_⟩
    · rw [conds_congr (K' := K.put oi.dst s) fun u hu => (hrd true u (by simpa using hu)).symm]; exact g2
    · rw [opX_congr (rd' := rdS (K.put oi.dst s) true) hrd']
      rw [opX_put] at g4
      refine opX_kept (opX_and g4) fun sj K' hkept hk => ⟨fr_put (hkept.fr hf), ?_, ?_⟩
      · refine hV2 g00 _ (n_put.trans hkept.n) (fro_put.trans hkept.fro) (fun t ht => (slots_put fun e => h3 t e ht).trans (by rw [hkept.slots])) (by rw [nx_put]; exact hk.1.2.1) (fun b hb hnc => ?_) (fun hal => by rw [mem_put]; exact hkept.le hal hf)
        rw [mem_put]
        exact hk.1.2.2 b hb fun e => hnc (g5 b e)
      · rw [← put_put h2]; exact hk.2

/-- One order after the other; which blocks each operation may write. -/
def AnyQ (P : Program) (im : Bool) (ops : Array Oper) (Q : XE → Know → Prop) (C : Nat → Nat → Prop) : Nat → Array Bool → Know → Prop
  | 0, listed, K => Region.ready .any ops listed = [] ∧ Q .normal K
  | n + 1, listed, K => (Region.ready .any ops listed = [] → Q .normal K) ∧
    ∀ i ∈ Region.ready .any ops listed, ∃ o, ops[i]? = some o ∧ StepQ P im ops (C i) o (AnyQ P im ops Q C n (listed.setIfInBounds i true)) K
theorem AnyQ.v {im : Bool} {ops : Array Oper} {Q : XE → Know → Prop} {C : Nat → Nat → Prop} : ∀ {n : Nat} {listed : Array Bool} {K : Know}, AnyQ P im ops Q C n listed K → AnyV P im ops Q n listed K
  | 0, _, _, h => h
  | n + 1, _, _, h => ⟨h.1, fun i hi => by
    obtain ⟨o, ho, hs⟩ := h.2 i hi
    exact ⟨o, ho, hs.g.imp fun _ h => AnyQ.v h⟩⟩

theorem AnyQ.first {im : Bool} {ops : Array Oper} {Q : XE → Know → Prop} {i : Nat} {oi : Oper} {s : SV} (hi : ops[i]? = some oi) {V : Know → Prop} {C C' : Nat → Nat → Prop} (hCC : ∀ j b, C' j b → C j b) {A : Nat → Oper → Prop}
    (hval : ∀ K, V K → Val P im ops K oi s) (hsw : ∀ j oj k K, A j oj → Fr K → V K → StepQ P im ops (C' j) oj k (K.put oi.dst s) → StepQ P im ops (C j) oj (fun K' => Fr K' ∧ V K' ∧ k (K'.put oi.dst s)) K) : ∀ (fuel : Nat) (listed : Array Bool) (K : Know), Fr K → Closed ops listed →
    (∀ (j : Nat) oj, ops[j]? = some oj → j ≠ i → listed.getD j true = false → waits ops i ops.size j = false → A j oj) →
    i ∈ Region.ready .any ops listed → V K → AnyQ P im ops Q C' fuel (listed.setIfInBounds i true) (K.put oi.dst s) → AnyQ P im ops Q C (fuel + 1) listed K := by
  have hmono : ∀ (n : Nat) (l : Array Bool) (K : Know), AnyQ P im ops Q C' n l K → AnyQ P im ops Q C n l K := by
    intro n
    induction n with
    | zero => intro l K h; exact h
    | succ n ih =>
      intro l K h
      refine ⟨h.1, fun j hj => ?_⟩
      obtain ⟨o, ho, hs⟩ := h.2 j hj
      exact ⟨o, ho, hs.imp (hCC j) fun K h => ih _ K h⟩
  intro fuel
  induction fuel with
  | zero =>
    intro listed K hf hc hfree hr hv H
    refine ⟨fun h => (by rw [h] at hr; cases hr), fun j hj => ?_⟩
    by_cases hji : j = i
    · subst hji; exact ⟨oi, hi, .inl ⟨s, hval K hv, H⟩⟩
    · have := ready_mono hj hji
      rw [H.1] at this; cases this
  | succ fuel ih =>
    intro listed K hf hc hfree hr hv H
    refine ⟨fun h => (by rw [h] at hr; cases hr), fun j hj => ?_⟩
    by_cases hji : j = i
    · subst hji; exact ⟨oi, hi, .inl ⟨s, hval K hv, hmono _ _ _ H⟩⟩
    · obtain ⟨oj, hoj, hst⟩ := H.2 j (ready_mono hj hji)
      obtain ⟨hjun, oj', hoj', hall⟩ := mem_ready.1 hj
      rw [hoj] at hoj'; cases hoj'
      have hnw : waits ops i ops.size j = false := by
        cases hw : waits ops i ops.size j with
        | false => rfl
        | true =>
          have h1 := waits_listed hc _ j hw fun o' ho' e he hb => by rw [hoj] at ho'; cases ho'; exact hall e he hb
          have h0 := (mem_ready.1 hr).1
          rcases Nat.lt_or_ge i listed.size with h' | h'
          · simp [h'] at h0 h1; rw [h0] at h1; cases h1
          · simp [Array.getElem?_eq_none h'] at h1
      refine ⟨oj, hoj, (hsw j oj _ K (hfree j oj hoj hji hjun hnw) hf hv hst).imp (fun _ h => h) fun K' hK' => ?_⟩
      refine ih _ K' hK'.1 (closed_set hc hj) (fun k ok hk hki hun hno => hfree k ok hk hki ?_ hno) (ready_mono hr (Ne.symm hji)) hK'.2.1 ?_
      · by_cases hjk : j = k
        · subst hjk; exact hjun
        · rw [getD_set_ne true hjk] at hun; exact hun
      · rw [Array.setIfInBounds_comm _ _ hji]; exact hK'.2.2

def freeF (ops : Array Oper) (listed : Array Bool) (i : Nat) : Bool :=
  match ops[i]? with
  | none => false
  | some o => (List.range ops.size).all fun j => match ops[j]? with
    | none => true
    | some oj => j == i || listed.getD j true || waits ops i ops.size j || o.apart ops oj
theorem freeF_spec {ops : Array Oper} {listed : Array Bool} {i : Nat} {oi : Oper} (hi : ops[i]? = some oi) (h : freeF ops listed i = true) :
    ∀ (j : Nat) oj, ops[j]? = some oj → j ≠ i → listed.getD j true = false → waits ops i ops.size j = false → oi.apart ops oj = true := fun j oj hj hne hl hw => by
  unfold freeF at h
  rw [hi] at h
  simp only [List.all_eq_true, List.mem_range] at h
  have := h j (Array.getElem?_eq_some_iff.1 hj).1
  rw [hj] at this
  simp only [Bool.or_eq_true, beq_iff_eq] at this
  rcases this with ((h1 | h1) | h1) | h1
  · exact absurd h1 hne
  · rw [hl] at h1; cases h1
  · rw [hw] at h1; cases h1
  · exact h1

/-! ### Plans -/
inductive Pl where
  | done
  | take (i : Nat) (p : Pl)
  | takeP (i : Nat) (F : List Nat) (p : Pl)
  | two (i j : Nat) (p q : Pl)
  | three (i j k : Nat) (p q s : Pl)

def Pl.depth : Pl → Nat
  | .done => 0
  | .take _ p => p.depth + 1
  | .takeP _ _ p => p.depth + 1
  | .two _ _ p q => max p.depth q.depth + 1
  | .three _ _ _ p q s => max p.depth (max q.depth s.depth) + 1

def plOK (im : Bool) (ops : Array Oper) : Pl → Array Bool → Bool
  | .done, listed => Region.ready .any ops listed == []
  | .take i p, listed => (Region.ready .any ops listed == [i] || ((Region.ready .any ops listed).contains i && freeB im ops listed i && (match ops[i]? with | some o => quietC im o.op | none => false))) && plOK im ops p (listed.setIfInBounds i true)
  | .takeP i _ p, listed => ((Region.ready .any ops listed).contains i && freeF ops listed i) && plOK im ops p (listed.setIfInBounds i true)
  | .two i j p q, listed => Region.ready .any ops listed == [i, j] && plOK im ops p (listed.setIfInBounds i true) && plOK im ops q (listed.setIfInBounds j true)
  | .three i j k p q s, listed => Region.ready .any ops listed == [i, j, k] && plOK im ops p (listed.setIfInBounds i true) && plOK im ops q (listed.setIfInBounds j true) && plOK im ops s (listed.setIfInBounds k true)

/-- The blocks that operation j may write, while some operations have been taken early. -/
def mayT (ops : Array Oper) (pr : List (Nat × List Nat)) (j b : Nat) : Prop := ∀ x ∈ pr, b ∈ x.2 → waits ops x.1 ops.size j = true

def mayB (ops : Array Oper) (pr : List (Nat × List Nat)) (j b : Nat) : Bool := pr.all fun x => !x.2.contains b || waits ops x.1 ops.size j
theorem mayB_spec {ops : Array Oper} {pr : List (Nat × List Nat)} {j b : Nat} (h : mayB ops pr j b = true) : mayT ops pr j b := fun x hx hb => by
  have := List.all_eq_true.1 h x hx
  simpa [hb] using this
@[simp] theorem mayB_nil (ops : Array Oper) (j b : Nat) : mayB ops [] j b = true := rfl

def StepE (P : Program) (im : Bool) (ops : Array Oper) (pr : List (Nat × List Nat)) (j : Nat) (o : Oper) (k : Know → Prop) (K : Know) : Prop :=
  match guardG K ops o with
  | none => False
  | some G =>
    match opClass im o.op with
    | .call => match callF (rdS K G) o.op with
      | some (f, ss) => dstOk K o.dst ∧ (G = true → conds K G o.op.operands.toList) ∧ DetCall P f ss G fun d => k (K.put o.dst (mkc o.guard G (.d d)))
      | none => False
    | .mem => o.guard = none ∧ dstOk K o.dst ∧ conds K true o.op.operands.toList ∧ (match touchF (rdS K true) o.op with | some b => mayB ops pr j b = true | none => True) ∧ opX P K (rdS K true) o.op fun s K' => k (K'.put o.dst s)
    | .quiet => match quietF P im K G o.op with
      | some (vc, s) => dstOk K o.dst ∧ (G = true → vc) ∧ k (K.put o.dst (mkc o.guard G s))
      | none => False
theorem StepE.q {im : Bool} {ops : Array Oper} {pr : List (Nat × List Nat)} {j : Nat} {o : Oper} {k : Know → Prop} {K : Know} (h : StepE P im ops pr j o k K) : StepQ P im ops (mayT ops pr j) o k K := by
  unfold StepE at h
  split at h
  · exact h.elim
  · rename_i G hG
    split at h
    · rename_i hc
      split at h
      · rename_i f ss hcall
        obtain ⟨h1, h2, he, ds, d, h3, h4, h5⟩ := h
        exact .inl ⟨_, ⟨G, hG, h1, _, rfl, by rw [hc]; exact ⟨f, ss, ds, d, hcall, h2, he, h3, h4, rfl⟩⟩, h5⟩
      · exact h.elim
    · rename_i hc
      refine .inr ⟨hc, h.1, h.2.1, h.2.2.1, fun b hb => ?_, h.2.2.2.2⟩
      have := h.2.2.2.1
      rw [hb] at this
      exact mayB_spec this
    · rename_i hc
      split at h
      · rename_i vc s hq
        exact .inl ⟨_, ⟨G, hG, h.1, _, rfl, by rw [hc]; exact ⟨vc, hq, h.2.1⟩⟩, h.2.2⟩
      · exact h.elim

def StepP (P : Program) (im : Bool) (ops : Array Oper) (F : List Nat) (o : Oper) (k : Know → Prop) (K : Know) : Prop :=
  match guardG K ops o with
  | none => False
  | some G =>
    match opClass im o.op with
    | .quiet => match quietF P im K G o.op with
      | some (vc, s) => (∀ m : Mem, quietF P im { K with mem := mask F K.mem m } G o.op = some (vc, s)) ∧ (∀ b ∈ F, b < K.nx) ∧ dstOk K o.dst ∧ (G = true → vc) ∧ k (K.put o.dst (mkc o.guard G s))
      | none => False
    | _ => False
theorem StepP.val {im : Bool} {ops : Array Oper} {F : List Nat} {o : Oper} {k : Know → Prop} {K : Know} (h : StepP P im ops F o k K) : ∃ s, ValP P im ops F K o s ∧ k (K.put o.dst s) := by
  unfold StepP at h
  split at h
  · exact h.elim
  · rename_i G hG
    split at h
    · rename_i hc
      split at h
      · rename_i vc s hq
        exact ⟨_, ⟨G, hG, h.2.2.1, _, rfl, hc, h.2.1, vc, h.1, h.2.2.2.1⟩, h.2.2.2.2⟩
      · exact h.elim
    · exact h.elim

def DrawP (P : Program) (im : Bool) (ops : Array Oper) (Q : XE → Know → Prop) : List (Nat × List Nat) → Pl → Know → Prop
  | _, .done, K => Q .normal K
  | pr, .take i p, K => match ops[i]? with | some o => StepE P im ops pr i o (DrawP P im ops Q pr p) K | none => False
  | pr, .takeP i F p, K => match ops[i]? with | some o => StepP P im ops F o (DrawP P im ops Q ((i, F) :: pr) p) K | none => False
  | pr, .two i j p q, K => (match ops[i]? with | some o => StepE P im ops pr i o (DrawP P im ops Q pr p) K | none => False) ∧ (match ops[j]? with | some o => StepE P im ops pr j o (DrawP P im ops Q pr q) K | none => False)
  | pr, .three i j k p q s, K => (match ops[i]? with | some o => StepE P im ops pr i o (DrawP P im ops Q pr p) K | none => False) ∧ (match ops[j]? with | some o => StepE P im ops pr j o (DrawP P im ops Q pr q) K | none => False) ∧ (match ops[k]? with | some o => StepE P im ops pr k o (DrawP P im ops Q pr s) K | none => False)

theorem DrawP.any {im : Bool} {ops : Array Oper} {Q : XE → Know → Prop} : ∀ (p : Pl) (pr : List (Nat × List Nat)) (listed : Array Bool) (K : Know) (fuel : Nat), Fr K → Closed ops listed → plOK im ops p listed = true → p.depth ≤ fuel → DrawP P im ops Q pr p K → AnyQ P im ops Q (mayT ops pr) fuel listed K := by
  intro p
  induction p with
  | done =>
    intro pr listed K fuel hf hc hok hd h
    simp only [plOK, beq_iff_eq] at hok
    cases fuel with
    | zero => exact ⟨hok, h⟩
    | succ fuel => exact ⟨fun _ => h, fun i hi => by rw [hok] at hi; cases hi⟩
  | take i p ih =>
    intro pr listed K fuel hf hc hok hd h
    simp only [plOK, Bool.and_eq_true] at hok
    obtain ⟨hok1, hok2⟩ := hok
    simp only [DrawP] at h
    cases fuel with
    | zero => simp [Pl.depth] at hd
    | succ fuel =>
      have hd' : p.depth ≤ fuel := by simp only [Pl.depth] at hd; omega
      split at h
      · rename_i o ho
        rw [Bool.or_eq_true] at hok1
        rcases hok1 with hr | hr
        · rw [beq_iff_eq] at hr
          refine ⟨fun h => (by rw [hr] at h; cases h), fun j hj => ?_⟩
          have hj' := hj
          rw [hr, List.mem_singleton] at hj
          subst hj
          exact ⟨o, ho, ((StepE.q h).fr hf).imp (fun _ h => h) fun K' hK => ih pr _ K' fuel hK.1 (closed_set hc hj') hok2 hd' hK.2⟩
        · rw [Bool.and_eq_true, Bool.and_eq_true] at hr
          have hri : i ∈ Region.ready .any ops listed := by simpa using hr.1.1
          have hq : quietC im o.op = true := by have := hr.2; rw [ho] at this; exact this
          obtain ⟨s, hv, hk⟩ := (StepE.q h).g.val hq
          refine AnyQ.first ho (C' := mayT ops pr) (V := fun K => Val P im ops K o s) (A := fun j oj => indep im ops o oj = true) (fun _ _ h => h) (fun _ h => h) (fun j oj k K hind hf hv hst => ?_) fuel listed K hf hc (freeB_spec ho hr.1.2) hri hv (ih pr _ _ fuel (fr_put hf) (closed_set hc hri) hok2 hd' hk)
          unfold indep at hind
          rw [Bool.and_eq_true] at hind
          refine StepQ.swap hind.1 hf (fun _ h => h) hv (fun K' a b c _ e => hv.stable a b c (.inr (by rw [e]; exact fun _ _ _ h => h))) (fun hm K' a b c _ _ e => hv.stable a b c ?_) hst
          have := hind.2
          rw [hm, Bool.or_eq_true] at this
          rcases this with h' | h'
          · exact .inl h'
          · exact .inr (e h')
      · exact h.elim
  | takeP i F p ih =>
    intro pr listed K fuel hf hc hok hd h
    simp only [plOK, Bool.and_eq_true] at hok
    obtain ⟨⟨hr0, hr1⟩, hok2⟩ := hok
    simp only [DrawP] at h
    cases fuel with
    | zero => simp [Pl.depth] at hd
    | succ fuel =>
      have hd' : p.depth ≤ fuel := by simp only [Pl.depth] at hd; omega
      split at h
      · rename_i o ho
        have hri : i ∈ Region.ready .any ops listed := by simpa using hr0
        obtain ⟨s, hv, hk⟩ := h.val
        refine AnyQ.first ho (C' := mayT ops ((i, F) :: pr)) (V := fun K => ValP P im ops F K o s) (A := fun j oj => o.apart ops oj = true ∧ waits ops i ops.size j = false) (fun j b h x hx => h x (List.mem_cons_of_mem _ hx)) (fun _ h => h.val) (fun j oj k K hA hf hv hst => ?_) fuel listed K hf hc
          (fun j oj h1 h2 h3 h4 => ⟨freeF_spec ho hr1 j oj h1 h2 h3 h4, h4⟩) hri hv (ih ((i, F) :: pr) _ _ fuel (fr_put hf) (closed_set hc hri) hok2 hd' hk)
        refine StepQ.swap hA.1 hf (fun b h x hx => h x (List.mem_cons_of_mem _ hx)) hv (fun K' a b c d e => hv.stable a b c (Nat.le_of_eq d.symm) (fun x _ _ => by rw [e])) (fun _ K' a b c d e _ => hv.stable a b c d fun x hx hlt => e x hlt fun hC => ?_) hst
        have := hC (i, F) (by simp) hx
        rw [hA.2] at this; cases this
      · exact h.elim
  | two i j p q ihp ihq =>
    intro pr listed K fuel hf hc hok hd h
    simp only [plOK, Bool.and_eq_true, beq_iff_eq] at hok
    obtain ⟨⟨hr, hok1⟩, hok2⟩ := hok
    simp only [DrawP] at h
    cases fuel with
    | zero => simp [Pl.depth] at hd
    | succ fuel =>
      simp only [Pl.depth] at hd
      refine ⟨fun h => (by rw [hr] at h; cases h), fun k hk => ?_⟩
      have hk' := hk
      rw [hr, List.mem_cons, List.mem_singleton] at hk
      rcases hk with rfl | rfl
      · have h1 := h.1
        split at h1
        · rename_i o ho
          exact ⟨o, ho, ((StepE.q h1).fr hf).imp (fun _ h => h) fun K' hK => ihp pr _ K' fuel hK.1 (closed_set hc hk') hok1 (by omega) hK.2⟩
        · exact h1.elim
      · have h1 := h.2
        split at h1
        · rename_i o ho
          exact ⟨o, ho, ((StepE.q h1).fr hf).imp (fun _ h => h) fun K' hK => ihq pr _ K' fuel hK.1 (closed_set hc hk') hok2 (by omega) hK.2⟩
        · exact h1.elim
  | three i j k p q s ihp ihq ihs =>
    intro pr listed K fuel hf hc hok hd h
    simp only [plOK, Bool.and_eq_true, beq_iff_eq] at hok
    obtain ⟨⟨⟨hr, hok1⟩, hok2⟩, hok3⟩ := hok
    simp only [DrawP] at h
    cases fuel with
    | zero => simp [Pl.depth] at hd
    | succ fuel =>
      simp only [Pl.depth] at hd
      refine ⟨fun h => (by rw [hr] at h; cases h), fun l hk => ?_⟩
      have hk' := hk
      rw [hr, List.mem_cons, List.mem_cons, List.mem_singleton] at hk
      rcases hk with rfl | rfl | rfl
      · have h1 := h.1
        split at h1
        · rename_i o ho
          exact ⟨o, ho, ((StepE.q h1).fr hf).imp (fun _ h => h) fun K' hK => ihp pr _ K' fuel hK.1 (closed_set hc hk') hok1 (by omega) hK.2⟩
        · exact h1.elim
      · have h1 := h.2.1
        split at h1
        · rename_i o ho
          exact ⟨o, ho, ((StepE.q h1).fr hf).imp (fun _ h => h) fun K' hK => ihq pr _ K' fuel hK.1 (closed_set hc hk') hok2 (by omega) hK.2⟩
        · exact h1.elim
      · have h1 := h.2.2
        split at h1
        · rename_i o ho
          exact ⟨o, ho, ((StepE.q h1).fr hf).imp (fun _ h => h) fun K' hK => ihs pr _ K' fuel hK.1 (closed_set hc hk') hok3 (by omega) hK.2⟩
        · exact h1.elim

/-- **A region that draws its order: a plan serves for all orders.** -/
theorem DWp.drawP {id : Nat} {ops : Array Oper} {Q : XE → Know → Prop} {K : Know} (im : Bool) (pl : Pl) (hm : P.follows .mixedOrders = true)
    (hok : (decide (pl.depth ≤ ops.size) && plOK im ops pl (Array.replicate ops.size false)) = true) (h : DrawP P im ops Q [] pl K) : DWp P r (.region id ops true) Q K := fun x a w hmod => by
  rw [Bool.and_eq_true, decide_eq_true_eq] at hok
  refine wpIn_region_any hm ?_
  refine AnyV.sound _ _ K (DrawP.any pl [] _ K _ hmod.fresh ?_ hok.2 hok.1 h).v x x a _ (Ctx.ext_refl _) (hmod.grow ?_)
  · intro k o hk hl
    rcases Nat.lt_or_ge k ops.size with h' | h'
    · simp [h'] at hl
    · rw [Array.getElem?_eq_none h'] at hk; cases hk
  · exact (Below.refl _ w).drew

theorem DWp.drawPR {id : Nat} {ops : Array Oper} {d : Code} {Q : XE → Know → Prop} {K : Know} (im : Bool) (pl : Pl) (hm : P.follows .mixedOrders = true)
    (hok : (decide (pl.depth ≤ ops.size) && plOK im ops pl (Array.replicate ops.size false)) = true) (h : ∀ k : Know → Prop, (∀ K', DWp P r d Q K' → k K') → DrawP P im ops (thenX k Q) [] pl K) :
    DWp P r (.seq (.region id ops true) d) Q K :=
  DWp.seqK fun k hk => DWp.drawP im pl hm hok (h k hk)

attribute [simp] DrawP StepE StepP touchF mask
end Go.Bf
