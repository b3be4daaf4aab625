/-
  Regions that draw their order: what may be taken first. Part 1: what an operation looks at. Nothing is claimed here.
-/
import Derived.Test.YtmejdolknkjjdaaBfY
namespace Go.Bf
open Go Go.RowKit
variable {P : Program} {r : Option Nat}

theorem mapM_congr' {α β : Type} {f g : α → Option β} : ∀ {l : List α}, (∀ x ∈ l, f x = g x) → l.mapM f = l.mapM g
  | [], _ => rfl
  | x :: l, h => by
    rw [List.mapM_cons, List.mapM_cons, h x (by simp), mapM_congr' (l := l) fun y hy => h y (by simp [hy])]

theorem rdParts_congr {rd rd' : Operand → Option SV} {parts : Array (Nat × Operand)} (h : ∀ p ∈ parts, rd p.2 = rd' p.2) : rdParts rd parts = rdParts rd' parts :=
  mapM_congr' fun p hp => by rw [h p (by simpa using hp)]

theorem rdO_congr {rd rd' : Operand → Option SV} {u : Option Operand} (h : ∀ x, u = some x → rd x = rd' x) : rdO rd u = rdO rd' u := by
  cases u with
  | none => rfl
  | some x => simp [rdO, h x rfl]

theorem opP_congr {mem : Mem} {rd rd' : Operand → Option SV} {op : Op} (h : ∀ u ∈ op.operands, rd u = rd' u) : opP P mem rd op = opP P mem rd' op := by
  cases op with
  | move x => simp [opP, h x (by simp [Op.operands])]
  | assign x => simp [opP, h x (by simp [Op.operands])]
  | load t x => simp [opP, h x (by simp [Op.operands])]
  | fieldAddr t x f => simp [opP, h x (by simp [Op.operands])]
  | field t x f => simp [opP, h x (by simp [Op.operands])]
  | indexAddr t x i => simp [opP, h x (by simp [Op.operands]), h i (by simp [Op.operands])]
  | index t x i => simp [opP, h x (by simp [Op.operands]), h i (by simp [Op.operands])]
  | slice t x lo hi mx =>
    simp only [opP]
    rw [h x (by simp [Op.operands]), rdO_congr (u := lo) fun u e => h u (by simp [Op.operands, e]), rdO_congr (u := hi) fun u e => h u (by simp [Op.operands, e]), rdO_congr (u := mx) fun u e => h u (by simp [Op.operands, e])]
  | binOp op t x y _ => simp [opP, h x (by simp [Op.operands]), h y (by simp [Op.operands])]
  | unOp op t x => simp [opP, h x (by simp [Op.operands])]
  | convert s d x => simp [opP, h x (by simp [Op.operands])]
  | extract x i => simp [opP, h x (by simp [Op.operands])]
  | makeInterface t x => simp [opP, h x (by simp [Op.operands])]
  | makeFunc f first captured =>
    cases f <;> simp only [opP]
    rw [mapM_congr' fun x hx => h x (by simp [Op.operands]; right; simpa using hx)]
  | call c =>
    obtain ⟨callee, args, ts⟩ := c
    cases callee with
    | builtin bi =>
      cases bi with
      | len =>
        simp only [opP]
        split
        · rename_i x t e1 e2
          have hx : x ∈ args := by rw [← Array.mem_toList_iff, e1]; simp
          rw [h x (by simp [Op.operands, Call.operands, hx])]
        · rfl
      | _ => rfl
    | _ => rfl
  | _ => simp [opP]

theorem opQ_congr {im : Bool} {mem : Mem} {rd rd' : Operand → Option SV} {op : Op} (h : ∀ u ∈ op.operands, rd u = rd' u) : opQ P im mem rd op = opQ P im mem rd' op := by
  cases op with
  | build t parts =>
    simp only [opQ]
    rw [rdParts_congr fun p hp => h p.2 (by simp [Op.operands]; exact ⟨_, hp⟩)]
  | makeSlice t l c => simp [opQ, h l (by simp [Op.operands]), h c (by simp [Op.operands])]
  | buildSlice t n parts =>
    simp only [opQ]
    rw [rdParts_congr fun p hp => h p.2 (by simp [Op.operands]; exact ⟨_, hp⟩)]
  | convert s d x =>
    simp only [opQ]
    rw [h x (by simp [Op.operands]), opP_congr h]
  | _ => simp only [opQ]; exact opP_congr h

theorem conds_congr {K K' : Know} {G : Bool} : ∀ {us : List Operand}, (∀ u ∈ us, rdK K G u = rdK K' G u) → conds K G us = conds K' G us
  | [], _ => rfl
  | u :: us, h => by
    simp only [conds, rdC]
    rw [h u (by simp), conds_congr fun v hv => h v (by simp [hv])]

theorem rdK_congr {K K' : Know} {G : Bool} {u : Operand} (h : ∀ t, u = .tmp t → K.slots t = K'.slots t) : rdK K G u = rdK K' G u := by
  cases u with
  | tmp t => simp [rdK, h t rfl]
  | _ => rfl

/-! ### More memory -/
theorem loadF_mono {m m' : Mem} (hm : MemLe m m') {t : TypeId} {s : SV} {q : Prop × SV} (h : loadF P m t s = some q) : loadF P m' t s = some q := by
  unfold loadF at h ⊢
  split at h
  · rename_i b off
    cases hb : m b with
    | live t cs => rw [hb] at h; rw [hm b _ _ hb]; exact h
    | _ => rw [hb] at h; cases h
  · exact h
  · cases h
theorem fieldAddrF_mono {m m' : Mem} (hm : MemLe m m') {t : TypeId} {f : Nat} {s : SV} {q : Prop × SV} (h : fieldAddrF P m t f s = some q) : fieldAddrF P m' t f s = some q := by
  unfold fieldAddrF at h ⊢
  split at h
  · split at h
    · cases h
    · rename_i o l hl
      cases s with
      | loc b off =>
        cases hb : m b with
        | live t cs => simp only [hb] at h; simp only [hm b _ _ hb]; exact h
        | _ => simp only [hb] at h; cases h
      | d x => cases x <;> exact h
      | _ => exact h
    · cases h
  · cases h
theorem indexAddrF_mono {m m' : Mem} (hm : MemLe m m') {t : TypeId} {s i : SV} {q : Prop × SV} (h : indexAddrF P m t s i = some q) : indexAddrF P m' t s i = some q := by
  unfold indexAddrF at h ⊢
  split at h
  · split at h
    · cases s with
      | own b wd off len c =>
        cases hb : m b with
        | live t cs => simp only [hb] at h; simp only [hm b _ _ hb]; exact h
        | _ => simp only [hb] at h; cases h
      | d x => cases x <;> exact h
      | _ => exact h
    · cases s with
      | loc b off =>
        cases hb : m b with
        | live t cs => simp only [hb] at h; simp only [hm b _ _ hb]; exact h
        | _ => simp only [hb] at h; cases h
      | d x => cases x <;> exact h
      | _ => exact h
    · cases h
  · cases h
theorem lenF_mono {m m' : Mem} (hm : MemLe m m') {s : SV} {q : Nat} (h : lenF m s = some q) : lenF m' s = some q := by
  cases s with
  | own b wd off len c =>
    simp only [lenF] at h ⊢
    cases hb : m b with
    | live t cs => simp only [hb] at h; simp only [hm b _ _ hb]; exact h
    | _ => simp only [hb] at h; cases h
  | d x => cases x <;> exact h
  | _ => exact h
theorem sliceF_mono {m m' : Mem} (hm : MemLe m m') {t : TypeId} {s : SV} {lo hi mx : Option SV} {q : Prop × SV} (h : sliceF P m t s lo hi mx = some q) : sliceF P m' t s lo hi mx = some q := by
  cases s with
  | own b wd off len c =>
    simp only [sliceF] at h ⊢
    cases hb : m b with
    | live t cs => simp only [hb] at h; simp only [hm b _ _ hb]; exact h
    | _ => simp only [hb] at h; split at h <;> simp_all
  | loc b off =>
    simp only [sliceF] at h ⊢
    cases hb : m b with
    | live t cs => simp only [hb] at h; simp only [hm b _ _ hb]; exact h
    | _ => simp only [hb] at h; split at h <;> simp_all
  | d x => cases x <;> exact h
  | _ => exact h
theorem convF_mono {m m' : Mem} (hm : MemLe m m') {t d : TypeId} {s : SV} {q : Prop × SV} (h : convF P m t d s = some q) : convF P m' t d s = some q := by
  unfold convF at h ⊢
  cases s with
  | own b wd off len c =>
    have ho : ∀ q, ownCells m b wd off len = some q → ownCells m' b wd off len = some q := fun q hq => by
      unfold ownCells at hq ⊢
      cases hb : m b with
      | live t cs => simp only [hb] at hq; simp only [hm b _ _ hb]; exact hq
      | _ => simp only [hb] at hq; cases hq
    cases hd : tk P d with
    | str =>
      simp only [hd] at h ⊢
      split at h
      · split at h
        · rename_i hu
          rw [if_pos hu]
          cases hc : ownCells m b wd off len with
          | none => simp only [hc] at h; cases h
          | some cells => simp only [hc] at h; simp only [ho _ hc]; exact h
        · cases h
      · cases h
    | _ => simp only [hd] at h; cases h
  | d x => cases hd : tk P d <;> cases x <;> simp only [hd] at h ⊢ <;> first | exact h | cases h
  | _ => cases hd : tk P d <;> simp only [hd] at h ⊢ <;> first | exact h | cases h
theorem solid_mono {m m' : Mem} (hm : MemLe m m') {s : SV} (h : solid m s = true) : solid m' s = true := by
  cases s with
  | own b wd off len c =>
    simp only [solid] at h ⊢
    cases hb : m b with
    | live t cs => simp only [hm b _ _ hb]
    | _ => simp only [hb] at h; cases h
  | loc b off =>
    simp only [solid] at h ⊢
    cases hb : m b with
    | live t cs => simp only [hm b _ _ hb]
    | _ => simp only [hb] at h; cases h
  | _ => exact h
theorem all_solid_mono {m m' : Mem} (hm : MemLe m m') {l : List SV} (h : l.all (solid m) = true) : l.all (solid m') = true := by
  rw [List.all_eq_true] at h ⊢
  exact fun x hx => solid_mono hm (h x hx)
theorem parts_solid_mono {m m' : Mem} (hm : MemLe m m') {l : List (Nat × SV)} (h : (l.all fun p => solid m p.2) = true) : (l.all fun p => solid m' p.2) = true := by
  rw [List.all_eq_true] at h ⊢
  exact fun x hx => solid_mono hm (h x hx)
theorem buildF_mono {m m' : Mem} (hm : MemLe m m') {t : TypeId} {ps : List (Nat × SV)} {q : Prop × SV} (h : buildF P m t ps = some q) : buildF P m' t ps = some q := by
  unfold buildF at h ⊢
  split at h
  · split at h
    · rename_i hc
      rw [Bool.and_eq_true] at hc
      rw [if_pos (by rw [Bool.and_eq_true]; exact ⟨hc.1, parts_solid_mono hm hc.2⟩)]
      exact h
    · cases h
  · cases h
theorem litCells_mono {m m' : Mem} (hm : MemLe m m') {t : TypeId} {n : Nat} {ps : List (Nat × SV)} {q : EK × List SV} (h : litCells P m t n ps = some q) : litCells P m' t n ps = some q := by
  unfold litCells at h ⊢
  split at h
  · split at h
    · split at h
      · rename_i hc
        rw [Bool.and_eq_true] at hc
        rw [if_pos (by rw [Bool.and_eq_true]; exact ⟨parts_solid_mono hm hc.1, hc.2⟩)]
        split at h
        · split at h
          · rename_i hc
            rw [Bool.and_eq_true] at hc
            rw [if_pos (by rw [Bool.and_eq_true]; exact ⟨hc.1, all_solid_mono hm hc.2⟩)]
            exact h
          · cases h
        · cases h
      · cases h
    · cases h
  · cases h
theorem litF_mono {m m' : Mem} (hm : MemLe m m') {t : TypeId} {n : Nat} {ps : List (Nat × SV)} {q : Prop × SV} (h : litF P m t n ps = some q) : litF P m' t n ps = some q := by
  unfold litF at h ⊢
  split at h
  · rename_i hl
    rw [litCells_mono hm hl]; exact h
  · cases h

theorem opP_mono {m m' : Mem} (hm : MemLe m m') {rd : Operand → Option SV} {op : Op} {q : Prop × SV} (h : opP P m rd op = some q) : opP P m' rd op = some q := by
  cases op with
  | load t x => simp only [opP, Option.bind_eq_some_iff] at h ⊢; obtain ⟨s, h1, h2⟩ := h; exact ⟨s, h1, loadF_mono hm h2⟩
  | fieldAddr t x f => simp only [opP, Option.bind_eq_some_iff] at h ⊢; obtain ⟨s, h1, h2⟩ := h; exact ⟨s, h1, fieldAddrF_mono hm h2⟩
  | indexAddr t x i => simp only [opP, Option.bind_eq_some_iff] at h ⊢; obtain ⟨s, h1, j, h2, h3⟩ := h; exact ⟨s, h1, j, h2, indexAddrF_mono hm h3⟩
  | slice t x lo hi mx => simp only [opP, Option.bind_eq_some_iff] at h ⊢; obtain ⟨s, h1, a, h2, b, h3, c, h4, h5⟩ := h; exact ⟨s, h1, a, h2, b, h3, c, h4, sliceF_mono hm h5⟩
  | convert s d x => simp only [opP, Option.bind_eq_some_iff] at h ⊢; obtain ⟨s, h1, h2⟩ := h; exact ⟨s, h1, convF_mono hm h2⟩
  | call c =>
    obtain ⟨callee, args, ts⟩ := c
    cases callee with
    | builtin bi =>
      cases bi with
      | len =>
        simp only [opP] at h ⊢
        split at h
        · split at h
          · exact h
          · simp only [Option.map_eq_some_iff, Option.bind_eq_some_iff] at h ⊢
            obtain ⟨n, ⟨s, h1, h2⟩, h3⟩ := h
            exact ⟨n, ⟨s, h1, lenF_mono hm h2⟩, h3⟩
          · exact h
          · cases h
        · cases h
      | _ => exact h
    | _ => exact h
  | makeFunc f first cap => cases f <;> exact h
  | _ => exact h

theorem opQ_mono {im : Bool} {m m' : Mem} (hm : MemLe m m') {rd : Operand → Option SV} {op : Op} {q : Prop × SV} (h : opQ P im m rd op = some q) : opQ P im m' rd op = some q := by
  cases op with
  | build t parts => simp only [opQ, Option.bind_eq_some_iff] at h ⊢; obtain ⟨s, h1, h2⟩ := h; exact ⟨s, h1, buildF_mono hm h2⟩
  | makeSlice t l c => exact h
  | buildSlice t n parts =>
    simp only [opQ] at h ⊢
    split at h
    · rename_i e
      rw [if_pos e]
      simp only [Option.bind_eq_some_iff] at h ⊢; obtain ⟨s, h1, h2⟩ := h; exact ⟨s, h1, litF_mono hm h2⟩
    · cases h
  | convert s d x =>
    simp only [opQ] at h ⊢
    split at h
    · exact h
    · exact opP_mono hm h
  | _ => simp only [opQ] at h ⊢; exact opP_mono hm h

/-- Memory is not looked at. -/
def memFree : Op → Bool
  | .move _ | .assign _ | .field _ _ _ | .index _ _ _ | .binOp _ _ _ _ _ | .unOp _ _ _ | .extract _ _ | .makeInterface _ _ | .makeFunc _ _ _ | .makeSlice _ _ _ | .pick _ _ _ => true
  | _ => false

theorem opQ_free {im : Bool} {m m' : Mem} {rd : Operand → Option SV} {op : Op} (h : memFree op = true) : opQ P im m rd op = opQ P im m' rd op := by
  cases op with
  | makeFunc f a b => cases f <;> rfl
  | _ => first | (cases h; done) | rfl

theorem quietF_congr {im : Bool} {K K' : Know} {G : Bool} {op : Op} {q : Prop × SV} (hs : ∀ t, .tmp t ∈ op.operands → K'.slots t = K.slots t) (hm : memFree op = true ∨ MemLe K.mem K'.mem)
    (h : quietF P im K G op = some q) : quietF P im K' G op = some q := by
  have hrd : ∀ (G : Bool) (u), u ∈ op.operands → rdK K G u = rdK K' G u := fun G u hu => rdK_congr fun t e => (hs t (e ▸ hu)).symm
  have base : ∀ (vc : Prop) s, opQ P im K.mem (rdS K G) op = some (vc, s) → opQ P im K'.mem (rdS K' G) op = some (vc, s) := fun vc s h => by
    rw [opQ_congr (rd := rdS K' G) (rd' := rdS K G) fun u hu => by simp only [rdS, hrd G u hu]]
    rcases hm with hf | hm
    · rw [← h]; exact opQ_free hf
    · exact opQ_mono hm h
  have hc : conds K G op.operands.toList = conds K' G op.operands.toList := conds_congr fun u hu => hrd G u (by simpa using hu)
  unfold quietF at h ⊢
  split at h
  · rename_i c a b
    simp only [Op.operands] at hrd
    unfold pickF at h ⊢
    rw [← hrd G c (by simp)]
    split at h
    · rename_i pc cb hcb
      rw [← hrd _ a (by simp), ← hrd _ b (by simp)]
      exact h
    · cases h
  · split at h
    · rename_i vc s hq
      rw [base vc s hq]
      simp only [Option.some.injEq] at h ⊢
      rw [← h, hc]
    · cases h

end Go.Bf
