/-
  append and copy on what is known: soundness. Nothing is claimed here.
-/
import Derived.Test.YtmejdolknkjjdaaBfO
namespace Go.Bf
open Go Go.RowKit
variable {P : Program}

theorem conc'_inv {t : TypeId} (h : (tk P t).conc' = true) : ∃ d, P.underlying t = some d ∧ ∀ k, d ≠ .int k := by
  cases hk : tk P t with
  | slice k => obtain ⟨e, hu, _⟩ := tk_slice hk; exact ⟨_, hu, by simp⟩
  | str => exact ⟨_, tk_str hk, by simp⟩
  | _ => simp [hk, TK.conc'] at h

theorem front_append {J : Imm} {β : Nat → Nam} {vals : Array Value} {ns rest : List Value} {cells news : List SV} (h1 : Front J β vals cells) (h2 : ArrR J β ns.toArray news) :
    Front J β ((vals.toList.take cells.length ++ ns ++ rest).toArray) (cells ++ news) := by
  have hn : ns.length = news.length := by simpa using h2.1
  have hle := h1.le
  refine ⟨by simp; omega, fun o s hs => ?_⟩
  simp only [List.getElem?_toArray]
  rw [List.getElem?_append] at hs
  rw [List.append_assoc, List.getElem?_append]
  have hlt : (vals.toList.take cells.length).length = cells.length := by simp; omega
  rw [hlt]
  split at hs
  · rename_i ho
    rw [if_pos ho, List.getElem?_take, if_pos ho]
    obtain ⟨v, e, r⟩ := h1.get o s hs
    exact ⟨v, by simpa using e, r⟩
  · rename_i ho
    rw [if_neg ho]
    have hlo : o - cells.length < ns.length := by rw [hn]; exact (List.getElem?_eq_some_iff.1 hs).1
    rw [List.getElem?_append_left hlo]
    exact ⟨ns[o - cells.length], List.getElem?_eq_getElem hlo, h2.2 _ _ s (by simp [hlo]) hs⟩

theorem Front.mono {J J' : Imm} {β β' : Nat → Nam} {vs : Array Value} {ss : List SV} (h : Front J β vs ss) (hJ : ∀ b o v, J b o = some v → J' b o = some v) (hβ : ∀ b, (β b).le (β' b)) : Front J' β' vs ss :=
  ⟨h.le, fun o s hs => let ⟨v, e, r⟩ := h.get o s hs; ⟨v, e, r.mono hJ hβ⟩⟩
theorem ArrR.mono {J J' : Imm} {β β' : Nat → Nam} {vs : Array Value} {ss : List SV} (h : ArrR J β vs ss) (hJ : ∀ b o v, J b o = some v → J' b o = some v) (hβ : ∀ b, (β b).le (β' b)) : ArrR J' β' vs ss :=
  ⟨h.1, fun i v s hv hs => (h.2 i v s hv hs).mono hJ hβ⟩

/-- A local block takes a new name. -/
theorem Models.rename {x : Ctx} {K : Know} {a : Act} {w : World} (hm : Models x K a w) {b B sz : Nat} {t0 bt : TypeId} {cells : List SV} (hmem : K.mem b = .live bt cells) (hβb : x.β b = .live B sz t0) :
    ∃ x', x.le x' ∧ x'.J = x.J ∧ x'.β K.nx = .live B sz bt ∧ Models x' ((K.setB b .dead).newB bt cells) a w := by
  obtain ⟨B2, vals, fr, g1, g2, g3, g4, g5, g6, g7, g8⟩ := (hm.live b bt cells hmem).out
  rw [hβb] at g1
  cases g1
  have hun : x.β K.nx = .unborn := hm.unborn _ (hm.fresh _ (Nat.le_refl _))
  have hnb : K.nx ≠ b := fun e => by rw [e, hβb] at hun; cases hun
  let β' : Nat → Nam := fun c => if c = K.nx then .live B vals.size t0 else if c = b then .dead else x.β c
  have hβ : ∀ c, (x.β c).le (β' c) := fun c => by
    simp only [β']
    split
    · rename_i e; rw [e, hun]; trivial
    · split
      · rename_i e; rw [e, hβb]; exact .inr rfl
      · exact Nam.le_refl _
  have hβn : β' K.nx = .live B vals.size t0 := by simp [β']
  have hβo : ∀ c, c ≠ K.nx → c ≠ b → β' c = x.β c := fun c h1 h2 => by simp [β', h1, h2]
  have mem0 : ((K.setB b .dead).newB t0 cells).mem K.nx = .live t0 cells := by simp [Know.newB, Know.setB, Bf.put]
  have memb : ((K.setB b .dead).newB t0 cells).mem b = .dead := by simp [Know.newB, Know.setB, Bf.put, Ne.symm hnb]
  have memo : ∀ c, c ≠ K.nx → c ≠ b → ((K.setB b .dead).newB t0 cells).mem c = K.mem c := fun c h1 h2 => by simp [Know.newB, Know.setB, Bf.put, h1, h2]
  refine ⟨{ x with β := β' }, ⟨fun _ _ _ h => h, hβ, rfl, rfl, rfl⟩, rfl, hβn, hm.fro, hm.size, hm.defers, hm.below, hm.holds, hm.old, ?_, ?_, ?_, ?_, ?_, hm.one, ?_⟩
  · intro i s hs
    obtain ⟨v, e, r⟩ := hm.slots i s hs
    exact ⟨v, e, r.mono (fun _ _ _ h => h) hβ⟩
  · intro c hc
    by_cases e1 : c = K.nx
    · subst e1; rw [mem0] at hc; cases hc
    · by_cases e2 : c = b
      · subst e2; rw [memb] at hc; cases hc
      · rw [memo c e1 e2] at hc; exact (hβo c e1 e2).trans (hm.unborn c hc)
  · intro c hc
    by_cases e1 : c = K.nx
    · subst e1; rw [mem0] at hc; cases hc
    · by_cases e2 : c = b
      · subst e2; show β' c = _; simp [β', e1]
      · rw [memo c e1 e2] at hc; exact (hβo c e1 e2).trans (hm.dead c hc)
  · intro c t2 cells2 hc
    by_cases e1 : c = K.nx
    · subst e1; rw [mem0] at hc; cases hc
      exact ⟨B, vals, fr, hβn, g2, g3, g4, fun o s hs => let ⟨v, e, r⟩ := g5 o s hs; ⟨v, e, r.mono (fun _ _ _ h => h) hβ⟩, g6, g7, g8⟩
    · by_cases e2 : c = b
      · subst e2; rw [memb] at hc; cases hc
      · rw [memo c e1 e2] at hc
        obtain ⟨B3, vals3, fr3, k1, k2, k3, k4, k5, k6, k7, k8⟩ := (hm.live c t2 cells2 hc).out
        exact ⟨B3, vals3, fr3, (hβo c e1 e2).trans k1, k2, k3, k4, fun o s hs => let ⟨v, e, r⟩ := k5 o s hs; ⟨v, e, r.mono (fun _ _ _ h => h) hβ⟩, k6, k7, k8⟩
  · have back : ∀ c B3 s3 t3, β' c = .live B3 s3 t3 → ∃ c0 t0', x.β c0 = .live B3 s3 t0' ∧ (c = K.nx ∧ c0 = b ∨ c ≠ K.nx ∧ c = c0 ∧ c ≠ b) := fun c B3 s3 t3 h => by
      by_cases e1 : c = K.nx
      · subst e1; rw [hβn] at h; cases h; exact ⟨b, _, hβb, .inl ⟨rfl, rfl⟩⟩
      · by_cases e2 : c = b
        · subst e2; simp [β', e1] at h
        · rw [hβo c e1 e2] at h; exact ⟨c, _, h, .inr ⟨e1, rfl, e2⟩⟩
    intro c c' B3 s3 t3 s3' t3' h h'
    obtain ⟨c0, t0', k1, k2⟩ := back c _ _ _ h
    obtain ⟨c0', t0'', k1', k2'⟩ := back c' _ _ _ h'
    have := hm.inj c0 c0' B3 s3 t0' s3' t0'' k1 k1'
    rcases k2 with ⟨rfl, rfl⟩ | ⟨k3, rfl, k4⟩ <;> rcases k2' with ⟨rfl, rfl⟩ | ⟨k3', rfl, k4'⟩
    · rfl
    · exact absurd this.symm k4'
    · exact absurd this k4
    · exact this
  · intro c hc
    have h1 : K.nx + 1 ≤ c := hc
    have h2 : c ≠ K.nx := by omega
    have h3 : c ≠ b := fun e => by
      subst e; rw [hm.fresh c (by omega)] at hmem; cases hmem
    rw [memo c h2 h3]
    exact hm.fresh c (by omega)

/-- The new row of an append that grows. -/
theorem grown_front {J : Imm} {β : Nat → Nam} {olds ns : List Value} {z : Array Value} {cells news : List SV} (h1 : ArrR J β olds.toArray cells) (h2 : ArrR J β ns.toArray news) :
    Front J β (olds.toArray ++ ns.toArray ++ z) (cells ++ news) := by
  have e1 : olds.length = cells.length := by simpa using h1.1
  have e2 : ns.length = news.length := by simpa using h2.1
  refine ⟨by simp; omega, fun o s hs => ?_⟩
  have hlt : o < olds.length + ns.length := by
    have := (List.getElem?_eq_some_iff.1 hs).1
    simp at this; omega
  rw [Array.getElem?_append_left (by simpa using hlt)]
  rw [List.getElem?_append] at hs
  split at hs
  · rename_i ho
    rw [Array.getElem?_append_left (by simp; omega)]
    have : o < olds.length := by omega
    exact ⟨olds[o], by simp [this], h1.2 _ _ s (by simp [this]) hs⟩
  · rename_i ho
    rw [Array.getElem?_append_right (by simp; omega)]
    have : o - cells.length < ns.length := by omega
    refine ⟨ns[o - cells.length], ?_, h2.2 _ _ s (by simp [this]) hs⟩
    simp [e1, this]

theorem grown_one {olds ns : List Value} {z : Value} {n : Nat} (h1 : ∀ u ∈ olds, u.oneCell' = true) (h2 : ∀ u ∈ ns, u.oneCell' = true) (h3 : ∀ u ∈ z.cells, u.oneCell' = true) (hz : z.cells.size ≠ 0) :
    ∀ u ∈ olds.toArray ++ ns.toArray ++ Builtin.zeroCells z.cells n, u.oneCell' = true := by
  intro u hu
  simp only [Array.mem_append, List.mem_toArray] at hu
  rcases hu with (hu | hu) | hu
  · exact h1 u hu
  · exact h2 u hu
  · obtain ⟨j, hj, rfl⟩ := Array.mem_iff_getElem.1 hu
    have hj' : j < n * z.cells.size := by simpa [Builtin.zeroCells] using hj
    have e1 := madeCells_get z.cells _ j hj' hz
    have e2 : (Builtin.zeroCells z.cells n)[j]? = z.cells[j % z.cells.size]? := e1
    rw [Array.getElem?_eq_getElem hj] at e2
    exact h3 _ (Array.mem_of_getElem? e2.symm)

theorem below_drew_alloc (w : World) (o : Obj) : Below w.heap.size w (w.drew.alloc o) := (Below.refl _ w).drew.alloc (Nat.le_refl _) o

theorem opA_sound {x : Ctx} {K : Know} {a : Act} {w : World} (hm : Models x K a w) {o : Oper} {rd : Operand → Option SV} (hrd : ∀ u ∈ o.op.operands, ∀ s, rd u = some s → SRep x.J x.β (a.eval u) s)
    {k : SV → Know → Prop} (h : opA P K rd o.op k) : MemRun P x a o w k := by
  obtain ⟨dst, op, type, pos, after, guard⟩ := o
  simp only at h hrd
  unfold opA at h
  split at h
  · rename_i args ts
    split at h
    · rename_i u v t t' hu hv
      obtain rfl : args = #[u, v] := by cases args; simp_all
      obtain rfl : ts = #[t, t'] := by cases ts; simp_all
      have run : ∀ z w', (Builtin.append_ #[t, t'] type #[a.eval u, a.eval v]).run P w = .ok z w' →
          (execOp a.eval { dst, op := .call { callee := .builtin .append, args := #[u, v], argTypes := #[t, t'] }, type, pos, after, guard }).run P w = .ok (.value z) w' := fun z w' hz => by
        simp [execOp, resolve, invoke, builtin, hz, Result.andThen]
      split at h
      · rename_i ek s r hk hs hr
        obtain ⟨e, hut, he⟩ := tk_slice hk
        obtain ⟨i, k1, k2, k3, k4, k5, k6, k7⟩ := ek_info he
        have hsv := hrd u (by simp [Op.operands, Call.operands]) s hs
        have hrv := hrd v (by simp [Op.operands, Call.operands]) r hr
        split at h
        · rename_i vc n news hsrc hc'
          rw [Bool.and_eq_true] at hc'
          obtain ⟨d, hd, hni⟩ := conc'_inv hc'.1
          cases hzz : ek.zero with
          | none => rw [hzz] at hc'; simp at hc'
          | some zs =>
          have htz : tzero P e = some zs := by simp [tzero, he, hzz]
          obtain ⟨z, i', z1, z2, z3, z4, z5, z6, z7, z8⟩ := tzero_sound htz w x.J
          replace z6 := fun j u d h1 h2 => (z6 j u d h1 h2).1
          rw [k1] at z2; cases z2
          split at h
          · rename_i b wd len c
            split at h
            · rename_i bt cells hmem
              obtain ⟨⟨hvc, rfl, hlen, hmax, hbytes⟩, hk'⟩ := h
              obtain ⟨ns, hx, harr, hone⟩ := srcF_sound (P := P) hm k4 hrv hsrc hvc
              obtain ⟨B, vals, fr, g1, ⟨T, g2⟩, g3, g4, g5, g6, g7, g8⟩ := (hm.live b bt cells hmem).out
              subst g3
              obtain ⟨cap, hev, f1, f2, f3, _⟩ := own_inv hsv g1
              have hfront : Front x.J x.β vals cells := ⟨g4, g5⟩
              have hns : ns.length = n * ek.sz := hx.length
              by_cases hroom : len + n ≤ cap
              · -- there is room: the cells are written behind those that are known
                have hmul := Nat.mul_le_mul_right ek.sz hroom
                rw [Nat.add_mul] at hmul
                have hfit : 0 + len * ek.sz + ns.length ≤ vals.size := by omega
                have hrun := run_append_room2 (P := P) (w := w) (t := t) (t' := t') (ty := type) hut (ek_size he w) hd hni hx g2 hone hroom hfit
                rw [← hev] at hrun
                have hm1 := hm.setLive (w1 := w.setRow B _) hmem g1 (vals' := (vals.toList.take (0 + len * ek.sz) ++ ns ++ vals.toList.drop (0 + len * ek.sz + ns.length)).toArray) (cells' := cells ++ news) (by simp; omega) rfl
                  (fun q hq => by
                    simp only [List.mem_toArray, List.mem_append] at hq
                    rcases hq with (hq | hq) | hq
                    · exact g8 q (by simpa using List.mem_of_mem_take hq)
                    · exact hone q hq
                    · exact g8 q (by simpa using List.mem_of_mem_drop hq))
                  (by
                    have := front_append (rest := vals.toList.drop (0 + len * ek.sz + ns.length)) hfront harr
                    rw [Nat.zero_add, ← hlen]; rw [Nat.zero_add, ← hlen] at this; exact this)
                -- the block takes a new name
                obtain ⟨x', hle, hJ, hβ, hm2⟩ := hm1.rename (b := b) (bt := bt) (cells := cells ++ news) (by simp [Know.setB, Bf.put]) g1
                refine ⟨x', _, _, _, .inl ⟨_, run _ _ hrun, ?_⟩, hle, ?_, hk'⟩
                · exact .own hβ (by omega) hroom f3 (fun q hq => by cases hq)
                · have e : ((K.setB b (.live bt (cells ++ news))).setB b .dead).newB bt (cells ++ news) = (K.setB b .dead).newB bt (cells ++ news) := by
                    simp only [Know.setB, Know.newB, Know.mk.injEq, true_and, and_true]
                    funext q; simp only [Bf.put]; by_cases h1 : q = K.nx <;> by_cases h2 : q = b <;> simp [h1, h2]
                  rw [← e]; exact hm2
              · -- it grows
                have holen : (vals.toList.take (len * ek.sz)).length = len * ek.sz := by simp; omega
                have hrun := run_append_grow2 (P := P) (w := w) (t := t) (t' := t') (ty := type) (i := i) (z := z) hut k1 z3 hd hni (by rw [k2]; exact hx) (base := some ⟨B, 0, none⟩) (sLen := len) (sCap := cap) (olds := vals.toList.take (len * ek.sz))
                  (fun w' hw' => by
                    simp only [Builtin.firstCells, k2]
                    exact run_loadCells_of holen fun j q hq => by
                      rw [List.getElem?_take] at hq
                      split at hq
                      · rw [heap_cell hw', Nat.zero_add]
                        simp only [World.cell?, g2, Option.isSome_none, Bool.false_eq_true, if_false]
                        simpa using hq
                      · cases hq) (by omega) hmax (by rw [k3]; exact hbytes)
                rw [← hev] at hrun
                obtain ⟨xk, hlek, hJk, hβk, hmk⟩ := hm.kill hmem
                have holds : ArrR x.J x.β (vals.toList.take (len * ek.sz)).toArray cells := ⟨by simp; omega, fun j q s hq hs => by
                  obtain ⟨q', e', r'⟩ := g5 j s hs
                  simp only [List.getElem?_toArray] at hq
                  rw [List.getElem?_take] at hq
                  split at hq
                  · have : vals[j]? = some q := by simpa using hq
                    rw [this] at e'; cases e'; exact r'
                  · cases hq⟩
                obtain ⟨x', hle, hJ, hβ, hm2⟩ := hmk.newLive (t := bt) (cells := cells ++ news) (below_drew_alloc w _) (Nat.le_refl _) (by have := World.alloc_heap_new w.drew (.cells ((vals.toList.take (len * ek.sz)).toArray ++ ns.toArray ++ Builtin.zeroCells z.cells (grownCap w (len + n) cap e - (len + n))) e); exact this)
                  (grown_one (fun q hq => g8 q (by simpa using List.mem_of_mem_take hq)) hone z7 (by omega))
                  (grown_front (holds.mono hlek.J hlek.β) (harr.mono hlek.J hlek.β))
                refine ⟨x', _, _, _, .inl ⟨_, run _ _ hrun, ?_⟩, Ctx.le_trans hlek hle, hm2, hk'⟩
                have hcg := grownCap_ge w (len + n) cap e
                refine .own hβ ?_ hcg (grownCap_le_maxLen w _ _ e hmax) (fun q hq => by cases hq)
                simp only [Array.size_append, List.size_toArray, holen, hns, size_zeroCells, z5, ← z4, k2]
                rw [← Nat.add_mul, ← Nat.add_mul]
                exact Nat.le_of_eq (by rw [Nat.zero_add]; congr 1; omega)
            · exact h.elim
          · rename_i xs
            obtain ⟨hvc, hw, hmax, hbytes, h0, h1⟩ := h
            obtain ⟨ns, hx, harr, hone⟩ := srcF_sound (P := P) hm k4 hrv hsrc hvc
            obtain ⟨ad, hev, hv⟩ := clip_inv hsv
            obtain ⟨olds, hxo, harro, honeo⟩ := source_list (P := P) hm hv k4 hw
            by_cases hn : n = 0
            · -- nothing is appended: the slice itself
              subst hn
              have hns : ns = [] := List.eq_nil_of_length_eq_zero (by rw [hx.length]; simp)
              subst hns
              refine ⟨x, w, _, _, .inl ⟨a.eval u, run _ _ ?_, hsv⟩, Ctx.le_refl _, hm, h0 rfl⟩
              rw [hev]
              have hz : (underlying t').run P w = .ok d w := run_underlying' hd w
              have hb' := noInt d hni
              have hsz := ek_size he w
              unfold Builtin.append_
              simp only [List.getElem?_toArray, List.getElem?_cons_zero, List.getElem?_cons_succ, Sem.run_bind, run_underlying' hut, Result.andThen_ok, hsz, hz, Sem.run_pure]
              have hc := hx.cells w rfl
              simp only [hb', Bool.false_eq_true, if_false, hx.len w rfl, Result.andThen_ok, Bool.not_false, if_true, Nat.add_zero, Nat.le_refl, hc, Sem.run_bind]
              cases ad <;> simp [storeCells]
            · have hpos : 0 < n := by omega
              rw [hev] at hxo
              have hrun := run_append_grow2 (P := P) (w := w) (t := t) (t' := t') (ty := type) (i := i) (z := z) hut k1 z3 hd hni (by rw [k2]; exact hx) (base := ad) (sLen := xs.length) (sCap := xs.length) (olds := olds)
                (fun w' hw' => by rw [k2]; exact hxo.cells w' hw') (by omega) hmax (by rw [k3]; exact hbytes)
              rw [← hev] at hrun
              obtain ⟨x', hle, hJ, hβ, hm2⟩ := hm.newLive (t := t) (cells := rowsCells ek.sz xs ++ news) (below_drew_alloc w _) (Nat.le_refl _) (by have := World.alloc_heap_new w.drew (.cells (olds.toArray ++ ns.toArray ++ Builtin.zeroCells z.cells (grownCap w (xs.length + n) xs.length e - (xs.length + n))) e); exact this)
                (grown_one honeo hone z7 (by omega)) (grown_front harro harr)
              refine ⟨x', _, _, _, .inl ⟨_, run _ _ hrun, ?_⟩, hle, hm2, h1 hpos⟩
              have hcg := grownCap_ge w (xs.length + n) xs.length e
              refine .own hβ ?_ hcg (grownCap_le_maxLen w _ _ e hmax) (fun q hq => by cases hq)
              simp only [Array.size_append, List.size_toArray, hxo.length, hx.length, size_zeroCells, z5, ← z4, k2]
              rw [← Nat.add_mul, ← Nat.add_mul]
              exact Nat.le_of_eq (by rw [Nat.zero_add]; congr 1; omega)
          · exact h.elim
        · exact h.elim
      · exact h.elim
    · exact h.elim
  · exact h.elim

end Go.Bf
