/-
  The operations that write local memory: new variables, stores, new rows. Nothing is claimed here.
-/
import Derived.Test.YtmejdolknkjjdaaBfL
namespace Go.Bf
open Go Go.RowKit
variable {P : Program}

def undefS : SV := .cnd false (.d .nilp)

def lkLen : LK → Nat → Bool
  | .one, n => n == 1
  | .agg m, n => n == m
  | .bad, _ => false

/-- What an operation on local memory leads to. k: what is yielded, and what is known then. -/
def opM (P : Program) (K : Know) (rd : Operand → Option SV) (op : Op) (k : SV → Know → Prop) : Prop :=
  match op with
  | .alloc t => match tzero P t with
    | some zs => k (.loc K.nx 0) (K.newB t (zs.map z2s))
    | none => False
  | .box t u => match rd u with
    | some s => if solid K.mem s && s.cells.all SV.one && s.cells.all (solid K.mem) then k (.loc K.nx 0) (K.newB t s.cells) else False
    | none => False
  | .store t u v => match rd u, rd v with
    | some (.loc b off), some s => match K.mem b with
      | .live bt cells =>
        if solid K.mem s && s.cells.all SV.one && s.cells.all (solid K.mem) && lkLen (lkOf P t) s.cells.length then
          off + s.cells.length ≤ cells.length ∧ k undefS (K.setB b (.live bt (spl cells off s.cells)))
        else False
      | _ => False
    | _, _ => False
  | .makeSlice t l c => match rd l, rd c with
    | some l, some c => match tk P t, intOf' l, intOf' c with
      | .slice ek, some (_, l), some (_, c) => match ek.zero with
        | some zs => (0 ≤ l ∧ l ≤ c ∧ (ek.bytes : Int) * c ≤ 281474976710656 ∧ c ≤ maxLen) ∧
            k (.own K.nx ek.sz 0 l.toNat (some c.toNat)) (K.newB t (match zs with | [z] => repl c.toNat (.d z) | zs => (List.replicate c.toNat zs).flatten.map .d))
        | none => False
      | _, _, _ => False
    | _, _ => False
  | .buildSlice t n parts => match rdParts rd parts with
    | some ps => match litCells P K.mem t n ps with
      | some (ek, cells) => k (.own K.nx ek.sz 0 n (some n)) (K.newB t cells)
      | none => False
    | none => False
  | _ => False

/-- What an operation on local memory comes to, as the machine carries it out. -/
def MemRun (P : Program) (x : Ctx) (a : Act) (o : Oper) (w : World) (k : SV → Know → Prop) : Prop :=
  ∃ x' w' K' s, ((∃ v, (execOp a.eval o).run P w = .ok (.value v) w' ∧ SRep x'.J x'.β v s) ∨ ((execOp a.eval o).run P w = .ok .skip w' ∧ SRep x'.J x'.β undef s)) ∧ x.le x' ∧ Models x' K' a w' ∧ k s K'

theorem one_all {x : Ctx} {K : Know} {a : Act} {w : World} (hm : Models x K a w) {vs : Array Value} {ss : List SV} (h : ArrR x.J x.β vs ss) (h1 : ∀ s ∈ ss, s.one = true) (h2 : ∀ s ∈ ss, solid K.mem s = true) : ∀ v ∈ vs, v.oneCell' = true := fun v hv => by
  obtain ⟨j, hj, rfl⟩ := Array.mem_iff_getElem.1 hv
  have hj' : j < ss.length := by rw [← h.1]; exact hj
  have hmem := List.getElem_mem hj'
  exact hm.oneCell (h.2 j _ _ (Array.getElem?_eq_getElem hj) (List.getElem?_eq_getElem hj')) (h2 _ hmem) (h1 _ hmem)

/-- A store of some cells in a row, into a local block. -/
theorem Models.storeRow {x : Ctx} {K : Know} {a : Act} {w : World} (hm : Models x K a w) {b B sz off : Nat} {t bt : TypeId} {cells : List SV} (hmem : K.mem b = .live bt cells) (hβ : x.β b = .live B sz t) {vs : List Value} {ss : List SV}
    (hr : ArrR x.J x.β vs.toArray ss) (hone : ∀ v ∈ vs, v.oneCell' = true) (hfit : off + ss.length ≤ cells.length) :
    ∃ w', (storeCells ⟨B, off, none⟩ vs).run P w = .ok () w' ∧ Models x (K.setB b (.live bt (spl cells off ss))) a w' := by
  obtain ⟨B2, vals, fr, g1, ⟨T, g2⟩, g3, g4, g5, g6, g7, g8⟩ := (hm.live b bt cells hmem).out
  rw [hβ] at g1
  cases g1
  subst g3
  have hl : vs.length = ss.length := by simpa using hr.1
  have hrun := run_storeCells_at (P := P) B off T vs 0 vals w g2 (by omega) hone
  refine ⟨_, hrun, hm.setLive hmem hβ ?_ rfl ?_ ⟨?_, ?_⟩⟩
  · simp; omega
  · intro v hv
    simp only [List.mem_toArray, List.mem_append] at hv
    rcases hv with (hv | hv) | hv
    · exact g8 v (by simpa using List.mem_of_mem_take hv)
    · exact hone v hv
    · exact g8 v (by simpa using List.mem_of_mem_drop hv)
  · rw [spl_length _ _ _ hfit]; simp; omega
  · intro o s hs
    rw [spl_get _ _ _ hfit] at hs
    simp only [Nat.add_zero, List.getElem?_toArray]
    have hspl := spl_get vals.toList off vs (by simp; omega) o
    have hsp : spl vals.toList off vs = vals.toList.take off ++ vs ++ vals.toList.drop (off + vs.length) ∨ True := .inr trivial
    have key : (List.take off vals.toList ++ vs ++ List.drop (off + vs.length) vals.toList)[o]? = if off ≤ o ∧ o < off + vs.length then vs[o - off]? else vals.toList[o]? := by
      rw [List.append_assoc, List.getElem?_append]
      simp only [List.length_take, Array.length_toList]
      by_cases h1 : o < off
      · rw [if_pos (by omega), if_neg (by omega), List.getElem?_take, if_pos h1]
      · rw [if_neg (by omega), List.getElem?_append]
        have : o - min off vals.size = o - off := by omega
        rw [this]
        by_cases h2 : o < off + vs.length
        · rw [if_pos (by omega), if_pos (by omega)]
        · rw [if_neg (by omega), if_neg (by omega), List.getElem?_drop]
          congr 1; omega
    rw [key]
    by_cases hc : off ≤ o ∧ o < off + ss.length
    · rw [if_pos hc] at hs
      rw [if_pos (by omega)]
      have hlt : o - off < vs.length := by omega
      exact ⟨vs[o - off], List.getElem?_eq_getElem hlt, hr.2 _ _ s (by simp [hlt]) hs⟩
    · rw [if_neg hc] at hs
      rw [if_neg (by omega)]
      obtain ⟨v, e, r⟩ := g5 o s hs
      exact ⟨v, by simpa using e, r⟩

theorem opM_sound {x : Ctx} {K : Know} {a : Act} {w : World} (hm : Models x K a w) {o : Oper} {rd : Operand → Option SV} (hrd : ∀ u ∈ o.op.operands, ∀ s, rd u = some s → SRep x.J x.β (a.eval u) s)
    {k : SV → Know → Prop} (h : opM P K rd o.op k) : MemRun P x a o w k := by
  obtain ⟨dst, op, type, pos, after, guard⟩ := o
  have lift : ∀ (m : Sem Value) z w', m.run P w = .ok z w' → (do pure (Next.value (← m)) : Sem Next).run P w = .ok (.value z) w' := fun m z w' hz => by simp [hz, Result.andThen]
  have liftU : ∀ (m : Sem Unit) w', m.run P w = .ok () w' → (do m; pure Next.skip : Sem Next).run P w = .ok .skip w' := fun m w' hz => by simp [hz, Result.andThen]
  simp only at h hrd
  cases op with
  | alloc t =>
    simp only [opM] at h
    split at h
    · rename_i zs hz
      unfold tzero at hz
      rw [Option.bind_eq_some_iff] at hz
      obtain ⟨ek, hk, hzz⟩ := hz
      obtain ⟨i, h1, h2, h3, h4, h5, h6, h7⟩ := ek_info hk
      obtain ⟨v, h8, h9, h10⟩ := h7 zs hzz
      obtain ⟨g1, g2⟩ := mapM_get h10
      have hsz : v.cells.size = zs.length := by rw [g1]; simp
      have hzv : (zeroValue t).run P w = .ok v w := by simp [zeroValue, typeInfo, h1, h8]
      have hget : ∀ (j : Nat) d, zs[j]? = some d → ∃ u, v.cells[j]? = some u ∧ zeroDV u = some d := fun j d hd => by
        have hlt : j < v.cells.size := by rw [hsz]; exact (List.getElem?_eq_some_iff.1 hd).1
        exact ⟨v.cells[j], Array.getElem?_eq_getElem hlt, g2 j _ d (by simp [hlt]) hd⟩
      obtain ⟨x', hle, hJ, hβ, hm'⟩ := hm.newLive (t := t) (cells := zs.map z2s) (below_alloc w (.cells v.cells t)) (Nat.le_refl _) (heap_alloc_new' w (.cells v.cells t))
        (fun u hu => by
          obtain ⟨j, hj, rfl⟩ := Array.mem_iff_getElem.1 hu
          have hlt : j < zs.length := by omega
          exact (zeroDV_rep (J := x.J) (g2 j _ (zs[j]) (by simp [hj]) (List.getElem?_eq_getElem hlt))).2)
        ⟨by simp [hsz], fun j s hs => by
          rw [List.getElem?_map, Option.map_eq_some_iff] at hs
          obtain ⟨d, hd, rfl⟩ := hs
          obtain ⟨u, e, hu⟩ := hget j d hd
          exact ⟨u, e, zeroDV_z2s hu⟩⟩
      refine ⟨x', _, _, _, .inl ⟨.pointer (some ⟨w.heap.size, 0, none⟩), ?_, .loc hβ⟩, hle, hm', h⟩
      exact lift _ _ _ (by simp [Instr.alloc, hzv, newVar, newRow, Result.andThen])
    · exact h.elim
  | box t u =>
    simp only [opM] at h
    split at h
    · rename_i s hs
      split at h
      · rename_i hcond
        simp only [Bool.and_eq_true, List.all_eq_true] at hcond
        obtain ⟨⟨c1, c2⟩, c3⟩ := hcond
        have hr := hm.cells (hrd u (by simp [Op.operands]) s hs) c1
        obtain ⟨x', hle, hJ, hβ, hm'⟩ := hm.newLive (t := t) (below_alloc w (.cells (a.eval u).cells t)) (Nat.le_refl _) (heap_alloc_new' w (.cells (a.eval u).cells t)) (one_all hm hr c2 c3) hr.front
        refine ⟨x', _, _, _, .inl ⟨.pointer (some ⟨w.heap.size, 0, none⟩), ?_, .loc hβ⟩, hle, hm', h⟩
        exact lift _ _ _ (by simp [Instr.box, newVar, newRow, Result.andThen])
      · exact h.elim
    · exact h.elim
  | store t u v =>
    simp only [opM] at h
    split at h
    · rename_i b off s hu hv
      split at h
      · rename_i bt cells hmem
        split at h
        · rename_i hcond
          simp only [Bool.and_eq_true, List.all_eq_true] at hcond
          obtain ⟨⟨⟨c1, c2⟩, c3⟩, c4⟩ := hcond
          obtain ⟨hfit, hk⟩ := h
          obtain ⟨B, sz, t', h1, h2, h3⟩ := hm.cell hmem
          have hr := hm.cells (hrd v (by simp [Op.operands]) s hv) c1
          have he := loc_inv (hrd u (by simp [Op.operands]) _ hu) h1
          have hr' : ArrR x.J x.β (a.eval v).cells.toList.toArray s.cells := by simpa using hr
          have hone : ∀ q ∈ (a.eval v).cells.toList, q.oneCell' = true := fun q hq => one_all hm hr c2 c3 q (by simpa using hq)
          obtain ⟨w', hrun, hm'⟩ := hm.storeRow (P := P) (off := off) hmem h1 hr' hone hfit
          have hsize : (sizeOf t).run P w = .ok (a.eval v).cells.size w := by
            rw [hr.1]
            cases hlk : lkOf P t with
            | one => rw [hlk] at c4; simp only [lkLen, beq_iff_eq] at c4; rw [c4]; exact (lk_one hlk w).2
            | agg n => rw [hlk] at c4; simp only [lkLen, beq_iff_eq] at c4; rw [c4]; exact (lk_agg hlk w).2.1
            | bad => rw [hlk] at c4; cases c4
          refine ⟨x, w', _, _, .inr ⟨?_, .cndF rfl⟩, Ctx.le_refl _, hm', hk⟩
          refine liftU _ _ ?_
          simp only [Instr.storeAt, he, Instr.sureAddr, Sem.run_bind, Sem.run_pure, Result.andThen_ok, storeVar, hsize, ne_eq, not_true_eq_false, if_false]
          simpa using hrun
        · exact h.elim
      · exact h.elim
    · exact h.elim
  | makeSlice t l c =>
    simp only [opM] at h
    split at h
    · rename_i sl sc hl hc
      split at h
      · rename_i ek kl l' kc c' hk h1 h2
        split at h
        · rename_i zs hz
          obtain ⟨⟨g0, g1, g2, g3⟩, hk'⟩ := h
          obtain ⟨hel, _⟩ := intOf'_inv (hrd l (by simp [Op.operands]) _ hl) h1
          obtain ⟨hec, _⟩ := intOf'_inv (hrd c (by simp [Op.operands]) _ hc) h2
          obtain ⟨e, hu, he⟩ := tk_slice hk
          have htz : tzero P e = some zs := by simp [tzero, he, hz]
          obtain ⟨z, i, z1, z2, z3, z4, z5, z6, z7, z8⟩ := tzero_sound htz w x.J
          replace z6 := fun j u d h1 h2 => (z6 j u d h1 h2).1
          obtain ⟨i', k1, k2, k3, k4, k5, k6, k7⟩ := ek_info he
          rw [z2] at k1; cases k1
          have hrun := run_make (P := P) w t e i z hu z2 z3 kl kc l' c' g0 g1 (by rw [k3]; exact g2) (by simp only [maxLen] at g3; omega)
          have hone : ∀ v ∈ madeCells z.cells (c'.toNat * i.size), v.oneCell' = true := fun v hv => by
            obtain ⟨j, hj, rfl⟩ := Array.mem_iff_getElem.1 hv
            have hj' : j < c'.toNat * i.size := by simpa [madeCells] using hj
            have e1 := madeCells_get z.cells _ j hj' (by omega)
            rw [Array.getElem?_eq_getElem hj] at e1
            exact z7 _ (Array.mem_of_getElem? e1.symm)
          have hcells : (match zs with | [z] => repl c'.toNat (SV.d z) | zs => (List.replicate c'.toNat zs).flatten.map .d) = (List.replicate c'.toNat zs).flatten.map .d := by
            split
            · simp [repl_eq]
            · rfl
          rw [hcells] at hk'
          have hflat : ((List.replicate c'.toNat zs).flatten.map SV.d).length = c'.toNat * i.size := by
            simp [List.length_flatten, List.map_replicate, List.sum_replicate_nat, z4]
          have hfront : Front x.J x.β (madeCells z.cells (c'.toNat * i.size)) ((List.replicate c'.toNat zs).flatten.map .d) := by
            refine ⟨by rw [hflat]; simp [madeCells], fun j s hs => ?_⟩
            have hj : j < c'.toNat * i.size := by rw [← hflat]; exact (List.getElem?_eq_some_iff.1 hs).1
            have hjm : j % z.cells.size < z.cells.size := Nat.mod_lt _ (by omega)
            rw [List.getElem?_map, Option.map_eq_some_iff] at hs
            obtain ⟨d, hd, rfl⟩ := hs
            have key : ∀ (n j : Nat), ((List.replicate n zs).flatten)[j]? = some d → zs[j % zs.length]? = some d := by
              intro n
              induction n with
              | zero => intro j hj; simp at hj
              | succ n ih =>
                intro j hj
                rw [List.replicate_succ, List.flatten_cons, List.getElem?_append] at hj
                split at hj
                · rename_i hlt; rw [Nat.mod_eq_of_lt hlt]; exact hj
                · have := ih _ hj
                  rw [← this, ← Nat.mod_eq_sub_mod (by omega)]
            refine ⟨z.cells[j % z.cells.size], ?_, .d (z6 (j % z.cells.size) _ d (Array.getElem?_eq_getElem hjm) ?_)⟩
            · rw [madeCells_get _ _ _ hj (by omega)]; exact Array.getElem?_eq_getElem hjm
            · rw [z5]; exact key _ j hd
          obtain ⟨x', hle, hJ, hβ, hm'⟩ := hm.newLive (t := t) (below_alloc w (.cells (madeCells z.cells (c'.toNat * i.size)) e)) (Nat.le_refl _) (heap_alloc_new' w _) hone hfront
          refine ⟨x', _, _, _, .inl ⟨.slice (some ⟨w.heap.size, 0, none⟩) l'.toNat c'.toNat, lift _ _ _ ?_, ?_⟩, hle, hm', hk'⟩
          · show (Instr.makeSlice t (a.eval l) (a.eval c)).run P w = _
            rw [hel, hec]; exact hrun
          · refine .own hβ ?_ (by omega) (by omega) (fun q hq => by cases hq; rfl)
            simp [madeCells, k2]
        · exact h.elim
      · exact h.elim
    · exact h.elim
  | buildSlice t n parts =>
    simp only [opM] at h
    split at h
    · rename_i ps hps
      split at h
      · rename_i ek cells hc
        obtain ⟨g1, g2⟩ := rdParts_sound (fun u hu => hrd u (by simpa [Op.operands] using hu)) hps
        obtain ⟨e, rs, hk, hu, he, hrun, harr, hlen, hone, hmax⟩ := litCells_sound hm g1 g2 hc
        obtain ⟨x', hle, hJ, hβ, hm'⟩ := hm.newLive (t := t) (below_alloc w (.cells rs e)) (Nat.le_refl _) (heap_alloc_new' w _) hone harr.front
        refine ⟨x', _, _, _, .inl ⟨_, lift _ _ _ hrun, ?_⟩, hle, hm', h⟩
        exact .own hβ (by rw [harr.1, hlen]; omega) (Nat.le_refl _) hmax (fun q hq => by cases hq; rfl)
      · exact h.elim
    · exact h.elim
  | _ => exact h.elim

end Go.Bf
