/-
  The quiet operations, all together. Nothing is claimed here.
-/
import Derived.Test.YtmejdolknkjjdaaBfJ
namespace Go.Bf
open Go Go.RowKit
variable {P : Program}

theorem litF_sound {x : Ctx} {K : Know} {a : Act} {w : World} (hm : Models x K a w) {t : TypeId} {len : Nat} {ps : List (Nat × SV)} {vs : Array (Nat × Value)} {s : SV} {vc : Prop}
    (hl : vs.toList.length = ps.length) (hp : ∀ (i : Nat) p q, ps[i]? = some p → vs.toList[i]? = some q → p.1 = q.1 ∧ SRep x.J x.β q.2 p.2) (h : litF P K.mem t len ps = some (vc, s)) :
    ∃ x' w' z, (Instr.buildSlice t len vs).run P w = .ok z w' ∧ x.le x' ∧ x'.β = x.β ∧ Models x' K a w' ∧ SRep x'.J x'.β z s ∧ Below w.heap.size w w' := by
  unfold litF at h
  split at h
  · rename_i k cells hc
    split at h
    · rename_i ds hds
      simp only [Option.some.injEq, Prod.mk.injEq] at h
      obtain ⟨rfl, rfl⟩ := h
      obtain ⟨e, rs, hk, hu, he, hrun, harr, hlen, hone, hmax⟩ := litCells_sound hm hl hp hc
      obtain ⟨x', hle, hβ, hm', hJ⟩ := hm.newImm (below_alloc w _) (Nat.le_refl _) (heap_alloc_new' w (.cells rs e)) hone
      refine ⟨x', _, _, hrun, hle, hβ, hm', .d ?_, below_alloc w _⟩
      obtain ⟨g1, g2⟩ := allD_get hds
      obtain ⟨c1, c2, c3⟩ := chunk_spec (wd := k.sz) len ds (by omega)
      have := rep_rows (J := x'.J) (B := w.heap.size) (wd := k.sz) (cap := len) (xs := chunk k.sz len ds) hJ c2 (by omega) hmax (fun i j r d hr hd => by
        have h1 := c3 i j r d hr hd
        have h2 := g2 _ d h1
        have hlt : i * k.sz + j < rs.size := by rw [harr.1]; exact (List.getElem?_eq_some_iff.1 h2).1
        exact ⟨rs[i * k.sz + j], Array.getElem?_eq_getElem hlt, (d_inv (harr.2 _ _ _ (Array.getElem?_eq_getElem hlt) h2)).mono hle.J⟩)
      rw [c1] at this
      exact this
    · cases h
  · cases h

theorem makeF_below {w w' : World} {t : TypeId} {u v z : Value} {x : Ctx} {l c s' : SV} {vc : Prop} (hl : SRep x.J x.β u l) (hc : SRep x.J x.β v c)
    (h : makeF P t l c = some (vc, s')) (hvc : vc) (hr : (Instr.makeSlice t u v).run P w = .ok z w') : Below w.heap.size w w' := by
  unfold makeF at h
  split at h
  · rename_i k kl l' kc c' hk h1 h2
    obtain ⟨rfl, _⟩ := intOf'_inv hl h1
    obtain ⟨rfl, _⟩ := intOf'_inv hc h2
    obtain ⟨e, hu, he⟩ := tk_slice hk
    split at h
    · rename_i zs hz
      simp only [Option.some.injEq, Prod.mk.injEq] at h
      obtain ⟨rfl, rfl⟩ := h
      obtain ⟨g0, g1, g2, g3⟩ := hvc
      have htz : tzero P e = some zs := by simp [tzero, he, hz]
      obtain ⟨z, i, z1, z2, z3, z4, z5, z6, z7, z8⟩ := tzero_sound htz w x.J
      replace z6 := fun j u d h1 h2 => (z6 j u d h1 h2).1
      obtain ⟨i', k1, k2, k3, k4, k5, k6, k7⟩ := ek_info he
      rw [z2] at k1; cases k1
      have hrun := run_make (P := P) w t e i z hu z2 z3 kl kc l' c' g0 g1 (by rw [k3]; exact g2) (by simp only [maxLen] at g3; omega)
      rw [hrun] at hr
      cases hr
      exact below_alloc w _
    · cases h
  · cases h

theorem below_bytesWorld (w : World) (e : TypeId) (s : ByteArray) : Below w.heap.size w (Lib.bytesWorld w e s) :=
  ⟨rfl, rfl, rfl, by rw [Lib.bytesWorld_size]; omega, fun k hk => Lib.bytesWorld_at_old w e s k hk⟩

/-- **A quiet operation yields what is reckoned, and what is known of memory stays.** -/
theorem opQ_sound {x : Ctx} {K : Know} {a : Act} {w : World} (hm : Models x K a w) {im : Bool} {o : Oper} {rd : Operand → Option SV} (hrd : ∀ u ∈ o.op.operands, ∀ s, rd u = some s → SRep x.J x.β (a.eval u) s)
    {vc : Prop} {s : SV} (h : opQ P im K.mem rd o.op = some (vc, s)) (hvc : vc) :
    ∃ x' w' v, (execOp a.eval o).run P w = .ok (.value v) w' ∧ x.le x' ∧ x'.β = x.β ∧ Models x' K a w' ∧ SRep x'.J x'.β v s ∧ Below w.heap.size w w' := by
  have plain : opP P K.mem rd o.op = some (vc, s) → ∃ x' w' v, (execOp a.eval o).run P w = .ok (.value v) w' ∧ x.le x' ∧ x'.β = x.β ∧ Models x' K a w' ∧ SRep x'.J x'.β v s ∧ Below w.heap.size w w' := fun h => by
    obtain ⟨v, e, r⟩ := opP_sound hm hrd h hvc
    exact ⟨x, w, v, e, Ctx.le_refl _, rfl, hm, r, Below.refl _ _⟩
  obtain ⟨dst, op, type, pos, after, guard⟩ := o
  simp only at h plain
  have lift : ∀ (m : Sem Value) z w', m.run P w = .ok z w' → (do pure (Next.value (← m)) : Sem Next).run P w = .ok (.value z) w' := fun m z w' hz => by simp [hz, Result.andThen]
  cases op with
  | build t parts =>
    simp only [opQ, Option.bind_eq_some_iff] at h
    obtain ⟨ps, h1, h2⟩ := h
    obtain ⟨g1, g2⟩ := rdParts_sound (fun u hu => hrd u (by simpa [Op.operands] using hu)) h1
    obtain ⟨v, e, r⟩ := buildF_sound hm g1 g2 h2
    exact ⟨x, w, v, lift _ _ _ e, Ctx.le_refl _, rfl, hm, r, Below.refl _ _⟩
  | makeSlice t l c =>
    simp only [opQ] at h
    split at h
    · simp only [Option.bind_eq_some_iff] at h
      obtain ⟨sl, h1, sc, h2, h3⟩ := h
      obtain ⟨x', w', z, e, hle, hβ, hm', r⟩ := makeF_sound hm (hrd l (by simp [Op.operands]) _ h1) (hrd c (by simp [Op.operands]) _ h2) h3 hvc
      exact ⟨x', w', z, lift _ _ _ e, hle, hβ, hm', r, makeF_below (hrd l (by simp [Op.operands]) _ h1) (hrd c (by simp [Op.operands]) _ h2) h3 hvc e⟩
    · cases h
  | buildSlice t n parts =>
    simp only [opQ] at h
    split at h
    · simp only [Option.bind_eq_some_iff] at h
      obtain ⟨ps, h1, h2⟩ := h
      obtain ⟨g1, g2⟩ := rdParts_sound (fun u hu => hrd u (by simpa [Op.operands] using hu)) h1
      obtain ⟨x', w', z, e, hle, hβ, hm', r, hb⟩ := litF_sound hm g1 g2 h2
      exact ⟨x', w', z, lift _ _ _ e, hle, hβ, hm', r, hb⟩
    · cases h
  | convert t t' u =>
    simp only [opQ] at h
    split at h
    · rename_i k l hk hl
      split at h
      · rename_i hcond
        simp only [Bool.and_eq_true] at hcond
        obtain ⟨h8, hok⟩ := hcond
        simp only [Option.some.injEq, Prod.mk.injEq] at h
        obtain ⟨rfl, rfl⟩ := h
        obtain ⟨e, hu, he⟩ := tk_slice hk
        obtain ⟨d, hd⟩ := tk_ok hok
        obtain ⟨i, k1, k2, k3, k4, k5, k6, k7⟩ := ek_info he
        have hv := d_inv (hrd u (by simp [Op.operands]) _ hl)
        generalize hev : a.eval u = v at hv
        cases hv with
        | str hlen =>
          have hrun := Lib.run_convert_string_bytes (P := P) w t t' e ⟨l.toArray⟩ hd hu (isU8_eq (k5.trans h8))
          have hone : ∀ v ∈ Lib.bytesCells w e ⟨l.toArray⟩, v.oneCell' = true := fun v hv => by
            simp only [Lib.bytesCells, Array.mem_append, Array.mem_map, Array.mem_replicate] at hv
            rcases hv with ⟨b, _, rfl⟩ | ⟨_, rfl⟩ <;> rfl
          obtain ⟨x', hle, hβ, hm', hJ⟩ := hm.newImm (below_bytesWorld w e ⟨l.toArray⟩) (Nat.le_refl _) (Lib.bytesWorld_at_new w e _) hone
          rw [← hev] at hrun
          refine ⟨x', _, _, lift _ _ _ hrun, hle, hβ, hm', .d ?_, below_bytesWorld _ _ _⟩
          have hsz : (⟨l.toArray⟩ : ByteArray).size = (l.map rowB).length := by simp [ByteArray.size]
          have hcapm : grownCap w (⟨l.toArray⟩ : ByteArray).size 0 e ≤ maxLen := grownCap_le_maxLen w _ _ e (by rw [hsz]; simpa using hlen)
          have hcap : (⟨l.toArray⟩ : ByteArray).size ≤ grownCap w (⟨l.toArray⟩ : ByteArray).size 0 e := grownCap_ge w _ _ e
          have := rep_rows (J := x'.J) (B := w.heap.size) (wd := 1) (cap := grownCap w (⟨l.toArray⟩ : ByteArray).size 0 e) (xs := l.map rowB) hJ (fun r hr => by obtain ⟨c, _, rfl⟩ := List.mem_map.1 hr; rfl) (by rw [← hsz]; exact hcap) hcapm
            (fun i j r d hr hd => by
              rw [List.getElem?_map, Option.map_eq_some_iff] at hr
              obtain ⟨c, hc, rfl⟩ := hr
              have hj : j = 0 := by
                have := (List.getElem?_eq_some_iff.1 hd).1
                simp [rowB] at this; exact this
              subst hj
              simp only [rowB, List.getElem?_cons_zero, Option.some.injEq] at hd
              subst hd
              have hi := (List.getElem?_eq_some_iff.1 hc).1
              refine ⟨.int .u8 c.toNat, ?_, .int ?_⟩
              · simp only [Lib.bytesCells, Nat.mul_one, Nat.add_zero]
                rw [Array.getElem?_append_left (by simpa using hi)]
                simp [hc]
              · have := c.toNat_lt
                simp only [InK, IntKind.min, IntKind.max, IntKind.signed, IntKind.bits, Bool.false_eq_true, if_false]
                omega)
          rw [← hsz] at this
          exact this
      · cases h
    · exact plain h
  | _ => exact plain h

end Go.Bf
