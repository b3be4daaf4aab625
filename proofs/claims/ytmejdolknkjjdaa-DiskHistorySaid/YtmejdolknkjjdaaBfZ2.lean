/-
  Regions that draw their order. Part 2: one order serves. Nothing is claimed here.
-/
import Derived.Test.YtmejdolknkjjdaaBfZ
namespace Go.Bf
open Go Go.RowKit
variable {P : Program} {r : Option Nat}

theorem rdL_congr {rd rd' : Operand → Option SV} : ∀ {us : List Operand}, (∀ u ∈ us, rd u = rd' u) → rdL rd us = rdL rd' us
  | [], _ => rfl
  | u :: us, h => by
    simp only [rdL]
    rw [h u (by simp), rdL_congr fun v hv => h v (by simp [hv])]

theorem callF_congr {rd rd' : Operand → Option SV} {op : Op} (h : ∀ u ∈ op.operands, rd u = rd' u) : callF rd op = callF rd' op := by
  cases op with
  | call c =>
    obtain ⟨callee, args, ts⟩ := c
    cases callee with
    | value g =>
      simp only [callF]
      rw [h g (by simp [Op.operands, Call.operands]), rdL_congr fun u hu => h u (by simp [Op.operands, Call.operands]; right; simpa using hu)]
    | _ => rfl
  | _ => rfl

/-- What an operation that turns no memory yields: a quiet one, or a call of data to data. -/
def Val (P : Program) (im : Bool) (ops : Array Oper) (K : Know) (o : Oper) (s : SV) : Prop :=
  ∃ G, guardG K ops o = some G ∧ dstOk K o.dst ∧ ∃ s0, s = mkc o.guard G s0 ∧
    match opClass im o.op with
    | .quiet => ∃ vc, quietF P im K G o.op = some (vc, s0) ∧ (G = true → vc)
    | .call => ∃ f ss ds d, callF (rdS K G) o.op = some (f, ss) ∧ (G = true → conds K G o.op.operands.toList) ∧ Enters P f ∧ toDs ss = some ds ∧ (G = true → FnWp P f ds (· = .ret d)) ∧ s0 = .d d
    | .mem => False

def free (im : Bool) (op : Op) : Bool := memFree op || (match opClass im op with | .call => true | _ => false)

theorem looks_op {ops : Array Oper} {o : Oper} {t : Nat} (h : .tmp t ∈ o.op.operands) : t ∈ o.looksAt ops := by
  unfold Oper.looksAt
  exact List.mem_append_left _ (List.mem_filterMap.2 ⟨.tmp t, by simpa using h, rfl⟩)
theorem looks_guard {ops : Array Oper} {o : Oper} {j : Nat} {w : Bool} {t : Nat} (hg : o.guard = some (j, w)) (h : (ops[j]?).bind (·.dst) = some t) : t ∈ o.looksAt ops := by
  unfold Oper.looksAt
  rw [hg]
  simp [h]

theorem guardG_congr {K K' : Know} {ops : Array Oper} {o : Oper} (h : ∀ t ∈ o.looksAt ops, K'.slots t = K.slots t) : guardG K' ops o = guardG K ops o := by
  unfold guardG
  split
  · rfl
  · rename_i j w hg
    split
    · rfl
    · rename_i t ht
      rw [h t (looks_guard hg ht)]

theorem dstOk_n {K K' : Know} (hn : K'.n = K.n) (hf : K'.fro = K.fro) {d : Option Nat} (h : dstOk K d) : dstOk K' d := by
  cases d with
  | none => trivial
  | some d => simp only [dstOk] at h ⊢; rw [hn, hf]; exact h

theorem Val.stable {im : Bool} {ops : Array Oper} {K K' : Know} {o : Oper} {s : SV} (hv : Val P im ops K o s) (hn : K'.n = K.n) (hfr : K'.fro = K.fro) (hs : ∀ t ∈ o.looksAt ops, K'.slots t = K.slots t) (hm : free im o.op = true ∨ MemLe K.mem K'.mem) :
    Val P im ops K' o s := by
  obtain ⟨G, h1, h2, s0, h3, h4⟩ := hv
  have hrd : ∀ G u, u ∈ o.op.operands → rdK K' G u = rdK K G u := fun G u hu => rdK_congr fun t e => hs t (looks_op (e ▸ hu))
  refine ⟨G, (guardG_congr hs).trans h1, ?_, s0, h3, ?_⟩
  · exact dstOk_n hn hfr h2
  · split at h4
    · rename_i hc
      obtain ⟨vc, g1, g2⟩ := h4
      refine ⟨vc, quietF_congr (fun t ht => hs t (looks_op ht)) ?_ g1, g2⟩
      rcases hm with hm | hm
      · unfold free at hm; rw [hc] at hm; simp only [Bool.or_false] at hm; exact .inl hm
      · exact .inr hm
    · obtain ⟨f, ss, ds, d, g1, g2, g3, g4, g5, g6⟩ := h4
      refine ⟨f, ss, ds, d, ?_, fun hG => ?_, g3, g4, g5, g6⟩
      · rw [callF_congr (rd' := rdS K G) fun u hu => by simp only [rdS, hrd G u hu]]; exact g1
      · rw [conds_congr (K' := K) fun u hu => hrd G u (by simpa using hu)]; exact g2 hG
    · exact h4

/-! ### Operations on memory -/
theorem opX_congr {K : Know} {rd rd' : Operand → Option SV} {op : Op} {k : SV → Know → Prop} (h : ∀ u ∈ op.operands, rd u = rd' u) : opX P K rd op k = opX P K rd' op k := by
  cases op with
  | alloc t => rfl
  | box t u => simp only [opX, opM]; rw [h u (by simp [Op.operands])]
  | store t u v => simp only [opX, opM]; rw [h u (by simp [Op.operands]), h v (by simp [Op.operands])]
  | makeSlice t l c => simp only [opX, opM]; rw [h l (by simp [Op.operands]), h c (by simp [Op.operands])]
  | buildSlice t n parts => simp only [opX, opM]; rw [rdParts_congr fun p hp => h p.2 (by simp [Op.operands]; exact ⟨_, hp⟩)]
  | call c =>
    obtain ⟨callee, args, ts⟩ := c
    cases callee with
    | builtin bi =>
      cases bi with
      | append =>
        simp only [opX, opA]
        split
        · rename_i u v t t' e1 e2
          have hu : u ∈ args := by rw [← Array.mem_toList_iff, e1]; simp
          have hv : v ∈ args := by rw [← Array.mem_toList_iff, e1]; simp
          rw [h u (by simp [Op.operands, Call.operands, hu]), h v (by simp [Op.operands, Call.operands, hv])]
        · rfl
      | copy =>
        simp only [opX, opC]
        split
        · rename_i u v t t' e1 e2
          have hu : u ∈ args := by rw [← Array.mem_toList_iff, e1]; simp
          have hv : v ∈ args := by rw [← Array.mem_toList_iff, e1]; simp
          rw [h u (by simp [Op.operands, Call.operands, hu]), h v (by simp [Op.operands, Call.operands, hv])]
        · rfl
      | _ => rfl
    | _ => rfl
  | _ => rfl

/-- What turns memory looks not at the slots but through its operands. -/
theorem opX_put {K : Know} {rd : Operand → Option SV} {op : Op} {k : SV → Know → Prop} (d : Option Nat) (s0 : SV) : opX P (K.put d s0) rd op k = opX P K rd op fun s K' => k s (K'.put d s0) := by
  cases d <;> rfl

/-- One operation, any of those that are told apart here. -/
def StepG (P : Program) (im : Bool) (ops : Array Oper) (o : Oper) (k : Know → Prop) (K : Know) : Prop :=
  (∃ s, Val P im ops K o s ∧ k (K.put o.dst s)) ∨
  (opClass im o.op = .mem ∧ o.guard = none ∧ dstOk K o.dst ∧ conds K true o.op.operands.toList ∧ opX P K (rdS K true) o.op fun s K' => k (K'.put o.dst s))

theorem StepG.vc {im : Bool} {ops : Array Oper} {o : Oper} {k : Know → Prop} {Q : XE → Know → Prop} {K : Know} (h : StepG P im ops o k K) : VCops P r im ops (thenX k Q) [o] K := by
  rcases h with ⟨s, ⟨G, h1, h2, s0, rfl, h4⟩, hk⟩ | ⟨h0, h1, h2, h3, h4⟩
  · simp only [VCops, h1]
    cases hc : opClass im o.op with
    | quiet =>
      rw [hc] at h4
      obtain ⟨vc, g1, g2⟩ := h4
      simp only [g1]
      exact ⟨h2, g2, hk⟩
    | mem => rw [hc] at h4; exact h4.elim
    | call =>
      rw [hc] at h4
      obtain ⟨f, ss, ds, d, g1, g2, g3, g4, g5, rfl⟩ := h4
      simp only [g1]
      refine ⟨h2, g2, ?_⟩
      split
      · rename_i hg
        have hGt : G = true := by unfold guardG at h1; rw [hg] at h1; cases h1; rfl
        refine CallAt.det im g3 g4 (g5 hGt) ?_
        rw [hg] at hk
        exact hk
      · rename_i gg hg
        refine CallAtG.det im g3 g4 g5 ?_
        rw [hg] at hk
        exact hk
  · have hg : guardG K ops o = some true := by unfold guardG; rw [h1]
    simp only [VCops, hg, h0]
    exact ⟨h1, h2, h3, h4⟩

theorem StepG.mono {im : Bool} {ops : Array Oper} {o : Oper} {k k' : Know → Prop} {K : Know} (h : StepG P im ops o k K) (hk : ∀ K, k K → k' K) (hX : ∀ {K rd op} {k k' : SV → Know → Prop}, (∀ s K, k s K → k' s K) → opX P K rd op k → opX P K rd op k') : StepG P im ops o k' K := by
  rcases h with ⟨s, hv, h⟩ | ⟨h0, h1, h2, h3, h4⟩
  · exact .inl ⟨s, hv, hk _ h⟩
  · exact .inr ⟨h0, h1, h2, h3, hX (fun s K' h => hk _ h) h4⟩

end Go.Bf
