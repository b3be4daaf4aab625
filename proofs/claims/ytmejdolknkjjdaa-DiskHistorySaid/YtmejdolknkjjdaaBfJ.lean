/-
  The quiet operations: they leave what is known of memory as it is. Nothing is claimed here.
-/
import Derived.Test.YtmejdolknkjjdaaBfI
namespace Go.Bf
open Go Go.RowKit
variable {P : Program}

def DV.one : DV → Bool
  | .agg _ => false
  | .tup _ => false
  | _ => true
def SV.one : SV → Bool
  | .d x => x.one
  | .agg _ => false
  | .cnd _ _ => false
  | _ => true

theorem Rep.one {J : Imm} {v : Value} {x : DV} (h : Rep J v x) (h1 : x.one = true) : v.oneCell' = true := by
  cases h <;> first | rfl | simp [DV.one] at h1

theorem Models.oneCell {x : Ctx} {K : Know} {a : Act} {w : World} (hm : Models x K a w) {v : Value} {s : SV} (hs : SRep x.J x.β v s) (hsol : solid K.mem s = true) (h1 : s.one = true) : v.oneCell' = true := by
  have nd : ∀ b, (match K.mem b with | .live _ _ => true | _ => false) = true → x.β b ≠ .dead := fun b hb => by
    split at hb
    · rename_i t cells e
      obtain ⟨B, sz, t', h1, _⟩ := hm.cell e
      rw [h1]; simp
    · cases hb
  cases hs with
  | d h => exact h.one h1
  | loc _ => rfl
  | locDead h => exact absurd h (nd _ hsol)
  | own _ _ _ _ _ => rfl
  | ownDead h => exact absurd h (nd _ hsol)
  | clip _ => rfl
  | agg _ _ => simp [SV.one] at h1
  | clo _ _ => rfl
  | cndT _ _ => simp [SV.one] at h1
  | cndF _ => simp [SV.one] at h1

def makeF (P : Program) (t : TypeId) (l c : SV) : R :=
  match tk P t, intOf' l, intOf' c with
  | .slice k, some (_, l), some (_, c) => match k.zero with
    | some zs => some (0 ≤ l ∧ l ≤ c ∧ (k.bytes : Int) * c ≤ 281474976710656 ∧ c ≤ maxLen, .d (.list (repl l.toNat zs)))
    | none => none
  | _, _, _ => none

/-- The cells of a slice literal. -/
def litCells (P : Program) (mem : Mem) (t : TypeId) (len : Nat) (parts : List (Nat × SV)) : Option (EK × List SV) :=
  match tk P t with
  | .slice k => match k.zero with
    | some zs => if parts.all (fun p => solid mem p.2) && decide (len * k.sz ≤ 16777216) then
        match fillS (fun i => some (i * k.sz, k.sz)) ((List.replicate len zs).flatten.map .d) parts with
        | some cells => if cells.all SV.one && cells.all (solid mem) then some (k, cells) else none
        | none => none
      else none
    | none => none
  | _ => none

def litF (P : Program) (mem : Mem) (t : TypeId) (len : Nat) (parts : List (Nat × SV)) : R :=
  match litCells P mem t len parts with
  | some (k, cells) => match allD cells with
    | some ds => some (True, .d (.list (chunk k.sz len ds)))
    | none => none
  | none => none

def rdParts (rd : Operand → Option SV) (parts : Array (Nat × Operand)) : Option (List (Nat × SV)) :=
  parts.toList.mapM fun p => (rd p.2).map fun s => (p.1, s)

/-- The quiet operations that are no calls. im: a slice that is made here is never written again. -/
def opQ (P : Program) (im : Bool) (mem : Mem) (rd : Operand → Option SV) (op : Op) : R :=
  match op with
  | .build t parts => (rdParts rd parts).bind fun ps => buildF P mem t ps
  | .makeSlice t l c => if im then (rd l).bind fun l => (rd c).bind fun c => makeF P t l c else none
  | .buildSlice t n parts => if im then (rdParts rd parts).bind fun ps => litF P mem t n ps else none
  | .convert s d x =>
    match tk P d, rd x with
    | .slice k, some (.d (.str l)) => if k.u8 && (tk P s).ok then some (True, .d (encB l)) else none
    | _, _ => opP P mem rd (.convert s d x)
  | op => opP P mem rd op

theorem rdParts_sound {x : Ctx} {a : Act} {rd : Operand → Option SV} {parts : Array (Nat × Operand)} {ps : List (Nat × SV)} (hrd : ∀ u ∈ (parts.toList.map (·.2)).toArray, ∀ s, rd u = some s → SRep x.J x.β (a.eval u) s) (h : rdParts rd parts = some ps) :
    (parts.map fun (i, x) => (i, a.eval x)).toList.length = ps.length ∧ ∀ (i : Nat) p q, ps[i]? = some p → (parts.map fun (i, x) => (i, a.eval x)).toList[i]? = some q → p.1 = q.1 ∧ SRep x.J x.β q.2 p.2 := by
  obtain ⟨g1, g2⟩ := mapM_get h
  refine ⟨by simp [g1], fun i p q hp hq => ?_⟩
  simp only [Array.toList_map, List.getElem?_map, Option.map_eq_some_iff] at hq
  obtain ⟨⟨j, u⟩, hu, rfl⟩ := hq
  have := g2 i _ p hu hp
  simp only [Option.map_eq_some_iff] at this
  obtain ⟨s, hs, rfl⟩ := this
  exact ⟨rfl, hrd u (by simp; exact ⟨j, by simpa using List.mem_of_getElem? hu⟩) s hs⟩

theorem buildF_sound {x : Ctx} {K : Know} {a : Act} {w : World} (hm : Models x K a w) {t : TypeId} {ps : List (Nat × SV)} {vs : Array (Nat × Value)} {s : SV} {vc : Prop}
    (hl : vs.toList.length = ps.length) (hp : ∀ (i : Nat) p q, ps[i]? = some p → vs.toList[i]? = some q → p.1 = q.1 ∧ SRep x.J x.β q.2 p.2) (h : buildF P K.mem t ps = some (vc, s)) :
    ∃ v, (Instr.build t vs).run P w = .ok v w ∧ SRep x.J x.β v s := by
  unfold buildF at h
  split at h
  · rename_i fs n zs hk hz
    split at h
    · rename_i hcond
      simp only [Bool.and_eq_true, List.all_eq_true, decide_eq_true_eq] at hcond
      obtain ⟨hfs, hsol⟩ := hcond
      simp only [Option.map_eq_some_iff, Prod.mk.injEq] at h
      obtain ⟨r, hr, rfl, rfl⟩ := h
      obtain ⟨fields, i, hu, hi, hsz, hn, rfl⟩ := tk_struct hk
      obtain ⟨z, i', z1, z2, z3, z4, z5, z6, z7, z8⟩ := tzero_sound hz w x.J
      have hzero : ArrR x.J x.β z.cells (zs.map z2s) := ⟨by simp [z5], fun j u s hu hs => by
        rw [List.getElem?_map, Option.map_eq_some_iff] at hs
        obtain ⟨d, hd, rfl⟩ := hs
        exact zeroDV_z2s (z6 j u d hu hd).2⟩
      -- the fields' places
      have hplaces : ∃ pl : Array (Nat × Nat), (fields.mapM fun f => do pure (f.offset, ← sizeOf f.type) : Sem (Array (Nat × Nat))).run P w = .ok pl w ∧
          ∀ i : Nat, pl[i]? = (fun i => match (fields.toList.map fun f => (f.offset, lkOf P f.type))[i]? with | some (o, .one) => some (o, 1) | some (o, .agg n) => some (o, n) | _ => none) i := by
        have key : ∀ (l : List Field), (∀ f ∈ l, lkOf P f.type ≠ .bad) → ∃ pl : List (Nat × Nat), (l.mapM fun f => do pure (f.offset, ← sizeOf f.type) : Sem (List (Nat × Nat))).run P w = .ok pl w ∧
            ∀ i : Nat, pl[i]? = (fun i => match (l.map fun f => (f.offset, lkOf P f.type))[i]? with | some (o, .one) => some (o, 1) | some (o, .agg n) => some (o, n) | _ => none) i := by
          intro l
          induction l with
          | nil => intro _; exact ⟨[], rfl, fun i => by simp⟩
          | cons f l ih =>
            intro hb
            obtain ⟨pl, e, hpl⟩ := ih fun g hg => hb g (by simp [hg])
            have hf := hb f (by simp)
            obtain ⟨m, hm', hmm⟩ : ∃ m, (sizeOf f.type).run P w = .ok m w ∧ (lkOf P f.type = .one ∧ m = 1 ∨ lkOf P f.type = .agg m) := by
              cases hlk : lkOf P f.type with
              | one => exact ⟨1, (lk_one hlk w).2, .inl ⟨rfl, rfl⟩⟩
              | agg n => exact ⟨n, (lk_agg hlk w).2.1, .inr rfl⟩
              | bad => exact absurd hlk hf
            refine ⟨(f.offset, m) :: pl, ?_, fun i => ?_⟩
            · simp only [List.mapM_cons, Sem.run_bind, hm', Result.andThen_ok, Sem.run_pure, e]
            · cases i with
              | zero =>
                simp only [List.getElem?_cons_zero, List.map_cons]
                rcases hmm with ⟨h1, h2⟩ | h1 <;> simp [h1, *]
              | succ i => simpa using hpl i
        obtain ⟨pl, e, hpl⟩ := key fields.toList fun f hf => hfs _ (List.mem_map.2 ⟨f, hf, rfl⟩)
        refine ⟨pl.toArray, ?_, fun i => by simpa using hpl i⟩
        rw [Array.mapM_eq_mapM_toList, Sem.run_map, e]
        rfl
      obtain ⟨pl, e1, e2⟩ := hplaces
      obtain ⟨rs, f1, f2⟩ := fillS_sound hm ps vs.toList (zs.map z2s) z.cells r hl (fun i p q h1 h2 => ⟨(hp i p q h1 h2).1, (hp i p q h1 h2).2, hsol p (List.mem_of_getElem? h1)⟩) hzero (place := fun i => pl[i]?) (by rw [← hr]; congr 1; funext i; exact e2 i)
      refine ⟨.agg rs, ?_, SRep.of_mkAgg f2.1 f2.2⟩
      unfold Instr.build
      simp only [Sem.run_bind, z1, Result.andThen_ok, run_underlying' hu, e1, f1, Sem.run_pure]
    · cases h
  · cases h

/-- Zero cells, over and over. -/
theorem madeCells_get (z : Array Value) (n : Nat) (i : Nat) (hi : i < n) (hz : z.size ≠ 0) : (madeCells z n)[i]? = z[i % z.size]? := by
  have hlt : i % z.size < z.size := Nat.mod_lt _ (by omega)
  simp [madeCells, hi, hlt]

theorem rep_rows {J : Imm} {B wd cap : Nat} {vals : Array Value} {xs : List (List DV)} (hJ : ∀ (o : Nat) v, vals[o]? = some v → J B o = some v) (hw : ∀ r ∈ xs, r.length = wd) (hcap : xs.length ≤ cap) (hmax : cap ≤ maxLen)
    (h : ∀ (i j : Nat) r d, xs[i]? = some r → r[j]? = some d → ∃ v, vals[i * wd + j]? = some v ∧ Rep J v d) : Rep J (.slice (some ⟨B, 0, none⟩) xs.length cap) (.list xs) := by
  refine .slice (fun i j => (vals[i * wd + j]?).getD undef) hcap hmax hw (fun i j hi hj => ?_) (fun i j r d hr hd => ?_)
  · have hr : xs[i]? = some (xs[i]'hi) := List.getElem?_eq_getElem hi
    have hj' : j < (xs[i]'hi).length := by rw [hw _ (List.mem_of_getElem? hr)]; exact hj
    obtain ⟨v, e, _⟩ := h i j _ _ hr (List.getElem?_eq_getElem hj')
    rw [Nat.zero_add, hJ _ v e, e]; rfl
  · obtain ⟨v, e, r'⟩ := h i j r d hr hd
    rw [e]; exact r'

theorem makeF_sound {x : Ctx} {K : Know} {a : Act} {w : World} (hm : Models x K a w) {t : TypeId} {u v : Value} {l c s' : SV} {vc : Prop} (hl : SRep x.J x.β u l) (hc : SRep x.J x.β v c)
    (h : makeF P t l c = some (vc, s')) (hvc : vc) : ∃ x' w' z, (Instr.makeSlice t u v).run P w = .ok z w' ∧ x.le x' ∧ x'.β = x.β ∧ Models x' K a w' ∧ SRep x'.J x'.β z s' := by
  unfold makeF at h
  split at h
  · rename_i k kl l' kc c' hk h1 h2
    obtain ⟨rfl, _⟩ := intOf'_inv hl h1
    obtain ⟨rfl, _⟩ := intOf'_inv hc h2
    obtain ⟨e, hu, he⟩ := tk_slice hk
    split at h
    · rename_i zs hz
      simp only [Option.some.injEq, Prod.mk.injEq] at h
      obtain ⟨rfl, rfl⟩ := h
      obtain ⟨g0, g1, g2, g3⟩ := hvc
      have htz : tzero P e = some zs := by simp [tzero, he, hz]
      obtain ⟨z, i, z1, z2, z3, z4, z5, z6, z7, z8⟩ := tzero_sound htz w x.J
      replace z6 := fun j u d h1 h2 => (z6 j u d h1 h2).1
      obtain ⟨i', k1, k2, k3, k4, k5, k6, k7⟩ := ek_info he
      rw [z2] at k1; cases k1
      have hrun := run_make (P := P) w t e i z hu z2 z3 kl kc l' c' g0 g1 (by rw [k3]; exact g2) (by simp only [maxLen] at g3; omega)
      have hone : ∀ v ∈ madeCells z.cells (c'.toNat * i.size), v.oneCell' = true := fun v hv => by
        obtain ⟨j, hj, rfl⟩ := Array.mem_iff_getElem.1 hv
        have hj' : j < c'.toNat * i.size := by simpa [madeCells] using hj
        have e1 := madeCells_get z.cells _ j hj' (by omega)
        rw [Array.getElem?_eq_getElem hj] at e1
        exact z7 _ (Array.mem_of_getElem? e1.symm)
      obtain ⟨x', hle, hβ, hm', hJ⟩ := hm.newImm (below_alloc w _) (Nat.le_refl _) (heap_alloc_new' w (.cells (madeCells z.cells (c'.toNat * i.size)) e)) hone
      refine ⟨x', _, _, hrun, hle, hβ, hm', .d ?_⟩
      have hlen : (List.replicate l'.toNat zs).length = l'.toNat := by simp
      have := rep_rows (J := x'.J) (B := w.heap.size) (wd := i.size) (cap := c'.toNat) (xs := List.replicate l'.toNat zs) hJ (fun r hr => by rw [List.eq_of_mem_replicate hr]; omega) (by rw [hlen]; omega) (by omega)
        (fun j q r d hr hd => by
          have hj : j < l'.toNat := by
            have := (List.getElem?_eq_some_iff.1 hr).1
            rwa [hlen] at this
          rw [List.getElem?_replicate] at hr
          split at hr
          · cases hr
            have hq : q < i.size := by rw [z4]; exact (List.getElem?_eq_some_iff.1 hd).1
            have hmod : (j * i.size + q) % z.cells.size = q := by
              rw [z5, ← z4, Nat.add_comm, Nat.add_mul_mod_self_right]
              exact Nat.mod_eq_of_lt hq
            have hlt : j * i.size + q < c'.toNat * i.size := by
              have : (j + 1) * i.size ≤ c'.toNat * i.size := Nat.mul_le_mul_right _ (by omega)
              rw [Nat.add_mul, Nat.one_mul] at this
              omega
            have hq' : q < z.cells.size := by omega
            refine ⟨z.cells[q], ?_, (z6 q _ d (Array.getElem?_eq_getElem hq') hd).mono hle.J⟩
            rw [madeCells_get _ _ _ hlt (by omega), hmod]
            exact Array.getElem?_eq_getElem hq'
          · exact absurd hj ‹_›)
      rw [hlen] at this
      exact this
    · cases h
  · cases h

theorem allD_get {cs : List SV} {ds : List DV} (h : allD cs = some ds) : ds.length = cs.length ∧ ∀ (i : Nat) d, ds[i]? = some d → cs[i]? = some (.d d) := by
  have := allD_eq h
  subst this
  exact ⟨by simp, fun i d hd => by rw [List.getElem?_map, hd]; rfl⟩

theorem chunk_spec {wd : Nat} : ∀ (n : Nat) (ds : List DV), ds.length = n * wd → (chunk wd n ds).length = n ∧ (∀ r ∈ chunk wd n ds, r.length = wd) ∧ ∀ (i j : Nat) r d, (chunk wd n ds)[i]? = some r → r[j]? = some d → ds[i * wd + j]? = some d := by
  intro n
  induction n with
  | zero => intro ds h; exact ⟨rfl, fun r hr => by simp [chunk] at hr, fun i j r d hr => by simp [chunk] at hr⟩
  | succ n ih =>
    intro ds h
    rw [Nat.add_mul, Nat.one_mul] at h
    obtain ⟨h1, h2, h3⟩ := ih (ds.drop wd) (by simp; omega)
    refine ⟨by simp [chunk, h1], fun r hr => ?_, fun i j r d hr hd => ?_⟩
    · simp only [chunk, List.mem_cons] at hr
      rcases hr with rfl | hr
      · simp; omega
      · exact h2 r hr
    · cases i with
      | zero =>
        simp only [chunk, List.getElem?_cons_zero, Option.some.injEq] at hr
        subst hr
        rw [List.getElem?_take] at hd
        split at hd
        · simpa using hd
        · cases hd
      | succ i =>
        have := h3 i j r d (by simpa [chunk] using hr) hd
        rw [List.getElem?_drop] at this
        rw [← this]; congr 1; rw [Nat.add_mul, Nat.one_mul]; omega

/-- The cells of a slice literal, as the machine lays them. -/
theorem litCells_sound {x : Ctx} {K : Know} {a : Act} {w : World} (hm : Models x K a w) {t : TypeId} {len : Nat} {ps : List (Nat × SV)} {vs : Array (Nat × Value)} {k : EK} {cells : List SV}
    (hl : vs.toList.length = ps.length) (hp : ∀ (i : Nat) p q, ps[i]? = some p → vs.toList[i]? = some q → p.1 = q.1 ∧ SRep x.J x.β q.2 p.2) (h : litCells P K.mem t len ps = some (k, cells)) :
    ∃ e rs, tk P t = .slice k ∧ P.underlying t = some (.slice e) ∧ ekOf P e = some k ∧ (Instr.buildSlice t len vs).run P w = .ok (.slice (some ⟨w.heap.size, 0, none⟩) len len) (w.alloc (.cells rs e)) ∧ ArrR x.J x.β rs cells ∧
      cells.length = len * k.sz ∧ (∀ v ∈ rs, v.oneCell' = true) ∧ len ≤ maxLen := by
  unfold litCells at h
  split at h
  · rename_i k' hk
    obtain ⟨e, hu, he⟩ := tk_slice hk
    split at h
    · rename_i zs hz
      split at h
      · rename_i hcond
        simp only [Bool.and_eq_true, List.all_eq_true, decide_eq_true_eq] at hcond
        obtain ⟨hsol, hfit⟩ := hcond
        split at h
        · rename_i cells' hfill
          split at h
          · rename_i hone
            simp only [Option.some.injEq, Prod.mk.injEq] at h
            obtain ⟨rfl, rfl⟩ := h
            have htz : tzero P e = some zs := by simp [tzero, he, hz]
            obtain ⟨z, i, z1, z2, z3, z4, z5, z6, z7, z8⟩ := tzero_sound htz w x.J
            replace z6 := fun j u d h1 h2 => (z6 j u d h1 h2).1
            obtain ⟨i', k1, k2, k3, k4, k5, k6, k7⟩ := ek_info he
            rw [z2] at k1; cases k1
            have hflat : ((List.replicate len zs).flatten.map SV.d).length = len * k'.sz := by
              simp [List.length_flatten, List.map_replicate, List.sum_replicate_nat, ← k2, z4]
            have hzero : ArrR x.J x.β ((Array.range (len * k'.sz)).map (z.cells[· % z.cells.size]!)) ((List.replicate len zs).flatten.map .d) := by
              refine ⟨by rw [hflat]; simp, fun j u s hu hs => ?_⟩
              have hj : j < len * k'.sz := by rw [← hflat]; exact (List.getElem?_eq_some_iff.1 hs).1
              have e1 := madeCells_get z.cells (len * k'.sz) j hj (by omega)
              rw [show (madeCells z.cells (len * k'.sz))[j]? = some u from hu] at e1
              rw [List.getElem?_map, Option.map_eq_some_iff] at hs
              obtain ⟨d, hd, rfl⟩ := hs
              refine .d (z6 (j % z.cells.size) u d e1.symm ?_)
              have hjm : j % z.cells.size < zs.length := by rw [z5]; exact Nat.mod_lt _ (by omega)
              have key : ∀ (n j : Nat), ((List.replicate n zs).flatten)[j]? = some d → zs[j % zs.length]? = some d := by
                intro n
                induction n with
                | zero => intro j hj; simp at hj
                | succ n ih =>
                  intro j hj
                  rw [List.replicate_succ, List.flatten_cons, List.getElem?_append] at hj
                  split at hj
                  · rename_i hlt; rw [Nat.mod_eq_of_lt hlt]; exact hj
                  · rename_i hge
                    have := ih _ hj
                    rw [← this, ← Nat.mod_eq_sub_mod (by omega)]
              rw [z5]; exact key len j hd
            obtain ⟨rs, f1, f2⟩ := fillS_sound hm ps vs.toList _ _ cells' hl (fun i p q h1 h2 => ⟨(hp i p q h1 h2).1, (hp i p q h1 h2).2, hsol p (List.mem_of_getElem? h1)⟩) hzero hfill
            have hlenC : cells'.length = len * k'.sz := by
              have : ∀ (parts : List (Nat × SV)) (cells r : List SV), fillS (fun i => some (i * k'.sz, k'.sz)) cells parts = some r → r.length = cells.length := by
                intro parts
                induction parts with
                | nil => intro cells r h; simp only [fillS, Option.some.injEq] at h; rw [h]
                | cons p parts ih =>
                  intro cells r h
                  simp only [fillS] at h
                  split at h
                  · rename_i hc
                    rw [ih _ _ h, spl_length _ _ _ (by omega)]
                  · cases h
              rw [this _ _ _ hfill, hflat]
            simp only [Bool.and_eq_true, List.all_eq_true] at hone
            refine ⟨e, rs, hk, hu, he, ?_, f2, hlenC, fun v hv => ?_, ?_⟩
            · unfold Instr.buildSlice
              have hsz := ek_size he w
              have n1 : ¬ (len * k'.sz > 2 ^ 24) := by omega
              by_cases hz0 : len * k'.sz = 0
              · have e1 : ∀ z : Array Value, Array.map (fun x => z[x % z.size]!) (Array.range (len * k'.sz)) = #[] := fun z => by
                  apply Array.eq_empty_of_size_eq_zero; simp [hz0]
                rw [e1] at f1
                have e3 : Array.map (fun (_ : Nat) => (default : Value)) (Array.range 0) = #[] := by
                  apply Array.eq_empty_of_size_eq_zero; simp
                simp only [Sem.run_bind, run_underlying' hu, Result.andThen_ok, hsz, hz0, if_true]
                simp [e3, f1, newRow, Result.andThen]
              · simp only [Sem.run_bind, run_underlying' hu, Result.andThen_ok, hsz, n1, if_false, hz0, z1, Sem.run_pure, f1]
                simp [newRow, Result.andThen]
            · obtain ⟨j, hj, rfl⟩ := Array.mem_iff_getElem.1 hv
              have hj' : j < cells'.length := by rw [← f2.1]; exact hj
              have hmem := List.getElem_mem hj'
              exact hm.oneCell (f2.2 j _ _ (Array.getElem?_eq_getElem hj) (List.getElem?_eq_getElem hj')) (hone.2 _ hmem) (hone.1 _ hmem)
            · have : len ≤ len * k'.sz := Nat.le_mul_of_pos_right _ (by omega)
              simp only [maxLen]; omega
          · cases h
        · cases h
      · cases h
    · cases h
  · cases h

end Go.Bf
