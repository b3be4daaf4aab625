/-
  The operations that only read: soundness. Nothing is claimed here.
-/
import Derived.Test.YtmejdolknkjjdaaBfC
namespace Go.Bf
open Go Go.RowKit
variable {P : Program}

theorem inK_len {n : Nat} (h : n ≤ maxLen) : InK .i64 (n : Int) := by
  simp only [InK, IntKind.min, IntKind.max, IntKind.signed, IntKind.bits, maxLen] at *
  constructor <;> simp <;> omega

theorem addr_add (b off n : Nat) : (⟨b, off, none⟩ : Addr).add n = ⟨b, off + n, none⟩ := by
  unfold Addr.add; split
  · rename_i h; subst h; rfl
  · rfl

theorem Models.cell {x : Ctx} {K : Know} {a : Act} {w : World} (hm : Models x K a w) {b : Nat} {t : TypeId} {cells : List SV} (h : K.mem b = .live t cells) :
    ∃ B sz t', x.β b = .live B sz t' ∧ cells.length ≤ sz ∧ ∀ (o : Nat) s, cells[o]? = some s → ∃ v, w.cell? ⟨B, o, none⟩ = some v ∧ SRep x.J x.β v s := by
  obtain ⟨B, vals, fr, h1, ⟨T, h2⟩, h3, h4, h5, h6, h7, h8⟩ := (hm.live b t cells h).out
  exact ⟨B, _, t, h1, h4, fun o s hs => let ⟨v, e, r⟩ := h5 o s hs; ⟨v, by simp [World.cell?, h2, e], r⟩⟩

/-- Some cells in a row, each of them known. -/
theorem loadCells_some {w : World} {J : Imm} {β : Nat → Nam} {b off n : Nat} {cs : List SV} (hn : cs.length = n)
    (h : ∀ (j : Nat) s, cs[j]? = some s → ∃ v, w.cell? ⟨b, off + j, none⟩ = some v ∧ SRep J β v s) :
    ∃ vs : Array Value, (loadCells ⟨b, off, none⟩ n).run P w = .ok vs w ∧ vs.size = cs.length ∧ ∀ (i : Nat) v s, vs[i]? = some v → cs[i]? = some s → SRep J β v s := by
  let f : Nat → Value := fun j => (w.cell? ⟨b, off + j, none⟩).getD undef
  have hf : ∀ j, j < n → w.cell? ((⟨b, off, none⟩ : Addr).add j) = some (f j) := fun j hj => by
    obtain ⟨v, e, _⟩ := h j (cs[j]'(by omega)) (List.getElem?_eq_getElem (by omega))
    rw [addr_add]
    simp [f, e]
  refine ⟨_, run_loadCells (P := P) w ⟨b, off, none⟩ n f hf, by simp [hn], fun i v s hv hs => ?_⟩
  obtain ⟨v', e, r⟩ := h i s hs
  have hi : i < n := by rw [← hn]; exact (List.getElem?_eq_some_iff.1 hs).1
  simp [hi, f, e] at hv
  subst hv
  exact r

theorem loc_inv {J : Imm} {β : Nat → Nam} {v : Value} {b off B sz : Nat} {t : TypeId} (h : SRep J β v (.loc b off)) (hb : β b = .live B sz t) : v = .pointer (some ⟨B, off, none⟩) := by
  cases h with
  | loc h => rw [hb] at h; cases h; rfl
  | locDead h => rw [hb] at h; cases h
theorem own_inv {J : Imm} {β : Nat → Nam} {v : Value} {b wd off len : Nat} {c : Option Nat} {B sz : Nat} {t : TypeId} (h : SRep J β v (.own b wd off len c)) (hb : β b = .live B sz t) :
    ∃ cap, v = .slice (some ⟨B, off, none⟩) len cap ∧ off + cap * wd ≤ sz ∧ len ≤ cap ∧ cap ≤ maxLen ∧ (∀ x, c = some x → cap = x) := by
  cases h with
  | own h h1 h2 h3 h4 => rw [hb] at h; cases h; exact ⟨_, rfl, h1, h2, h3, h4⟩
  | ownDead h => rw [hb] at h; cases h
theorem d_inv {J : Imm} {β : Nat → Nam} {v : Value} {x : DV} (h : SRep J β v (.d x)) : Rep J v x := by cases h; assumption

/-- A row taken out of an aggregate. -/
theorem agg_part {J : Imm} {cs : Array Value} {ds : List DV} (hl : cs.size = ds.length) (h : ∀ (i : Nat) v d, cs[i]? = some v → ds[i]? = some d → Rep J v d) (o n : Nat) :
    Rep J (.agg (cs.extract o (o + n))) (.agg ((ds.drop o).take n)) := by
  refine .agg (by simp [hl]; omega) fun i v d hv hd => ?_
  rw [List.getElem?_take] at hd
  split at hd
  · rename_i hi
    rw [List.getElem?_drop] at hd
    rw [Array.getElem?_extract] at hv
    split at hv
    · exact h (o + i) v d hv hd
    · cases hv
  · cases hd

theorem loadF_sound {x : Ctx} {K : Know} {a : Act} {w : World} (hm : Models x K a w) {t : TypeId} {v : Value} {s s' : SV} {vc : Prop}
    (hs : SRep x.J x.β v s) (h : loadF P K.mem t s = some (vc, s')) (hvc : vc) : ∃ u, (Instr.loadAt t v).run P w = .ok u w ∧ SRep x.J x.β u s' := by
  unfold loadF at h
  split at h
  · rename_i b off
    split at h
    · rename_i t' cells hb
      obtain ⟨B, sz, t'', h1, h2, h3⟩ := hm.cell hb
      obtain rfl := loc_inv hs h1
      split at h
      · rename_i n hk
        obtain ⟨k1, k2, k3⟩ := lk_agg hk w
        simp only [Option.some.injEq, Prod.mk.injEq] at h
        obtain ⟨rfl, rfl⟩ := h
        obtain ⟨vs, e1, e2, e3⟩ := loadCells_some (P := P) (w := w) (J := x.J) (β := x.β) (b := B) (off := off) (n := n) (cs := (cells.drop off).take n) (by simp; omega)
          (fun j s hj => h3 (off + j) s (by
            rw [List.getElem?_take] at hj
            split at hj
            · simpa using hj
            · cases hj))
        refine ⟨.agg vs, ?_, SRep.of_mkAgg e2 e3⟩
        simp [Instr.loadAt, Instr.sureAddr, loadVar, k1, k2, e1, Result.andThen]
      · rename_i hk
        obtain ⟨k1, k2⟩ := lk_one hk w
        cases hc : cells[off]? with
        | some c =>
          rw [hc] at h
          simp only [loadCell, Option.some.injEq, Prod.mk.injEq] at h
          obtain ⟨rfl, rfl⟩ := h
          obtain ⟨u, e, r⟩ := h3 off c hc
          refine ⟨u, ?_, r⟩
          simp [Instr.loadAt, Instr.sureAddr, loadVar, k1, Result.andThen, e]
        | none =>
          rw [hc] at h
          simp only [loadCell, Option.some.injEq, Prod.mk.injEq] at h
          exact (h.1 ▸ hvc).elim
      · cases h
    · cases h
  · rename_i ds
    have hp := d_inv hs
    cases hp with
    | @ptr b off _ vs hc hr =>
      split at h
      · rename_i n hk
        obtain ⟨k1, k2, k3⟩ := lk_agg hk w
        simp only [Option.some.injEq, Prod.mk.injEq] at h
        obtain ⟨rfl, rfl⟩ := h
        obtain ⟨us, e1, e2, e3⟩ := loadCells_some (P := P) (w := w) (J := x.J) (β := x.β) (b := b) (off := off) (n := n) (cs := (ds.take n).map .d) (by simp; omega)
          (fun j s hj => by
            simp only [List.getElem?_map, List.getElem?_take, Option.map_eq_some_iff] at hj
            obtain ⟨d, hd, rfl⟩ := hj
            split at hd
            · exact ⟨_, hm.holds _ _ _ (hc j (List.getElem?_eq_some_iff.1 hd).1), .d (hr j d hd)⟩
            · cases hd)
        refine ⟨.agg us, ?_, ?_⟩
        · simp [Instr.loadAt, Instr.sureAddr, loadVar, k1, k2, e1, Result.andThen]
        · refine .d (.agg (by simpa using e2) fun i v d hv hd => ?_)
          exact d_inv (e3 i v (.d d) hv (by rw [List.getElem?_map, hd]; rfl))
      · rename_i hk
        obtain ⟨k1, k2⟩ := lk_one hk w
        cases ds with
        | nil =>
          simp only [loadRow, Option.some.injEq, Prod.mk.injEq] at h
          exact (h.1 ▸ hvc).elim
        | cons d ds =>
          simp only [loadRow, Option.some.injEq, Prod.mk.injEq] at h
          obtain ⟨rfl, rfl⟩ := h
          have e := hm.holds _ _ _ (hc 0 (by simp))
          refine ⟨vs 0, ?_, .d (hr 0 d (by simp))⟩
          simp only [Nat.add_zero] at e
          simp [Instr.loadAt, Instr.sureAddr, loadVar, k1, Result.andThen, e]
      · cases h
  · cases h

theorem lk_size {t : TypeId} (h : lkOf P t ≠ .bad) (w : World) : ∃ n, (sizeOf t).run P w = .ok n w ∧ n ≠ 0 := by
  cases hk : lkOf P t with
  | one => exact ⟨1, (lk_one hk w).2, by simp⟩
  | agg n => exact ⟨n, (lk_agg hk w).2.1, (lk_agg hk w).2.2⟩
  | bad => exact absurd hk h

theorem ptr_drop {J : Imm} {b off : Nat} {ds : List DV} (h : Rep J (.pointer (some ⟨b, off, none⟩)) (.ptr ds)) (o : Nat) (ho : o ≤ ds.length) : Rep J (.pointer (some ⟨b, off + o, none⟩)) (.ptr (ds.drop o)) := by
  cases h with
  | ptr vs hc hr =>
    refine .ptr (fun j => vs (o + j)) (fun j hj => ?_) (fun j d hd => hr (o + j) d (by simpa using hd))
    rw [Nat.add_assoc]; exact hc (o + j) (by simp at hj; omega)

theorem fieldAddrF_sound {x : Ctx} {K : Know} {a : Act} {w : World} (hm : Models x K a w) {t : TypeId} {f : Nat} {v : Value} {s s' : SV} {vc : Prop}
    (hs : SRep x.J x.β v s) (h : fieldAddrF P K.mem t f s = some (vc, s')) (hvc : vc) : ∃ u, (Instr.fieldAt t v f).run P w = .ok u w ∧ SRep x.J x.β u s' := by
  unfold fieldAddrF at h
  split at h
  · rename_i fs n hk
    obtain ⟨fields, i, hu, hi, hsz, hn, hfs⟩ := tk_struct hk
    split at h
    · cases h
    · rename_i o lk hbad hf
      have hfield : ∃ fd, fields[f]? = some fd ∧ fd.offset = o ∧ lkOf P fd.type = lk := by
        rw [hfs, List.getElem?_map, Option.map_eq_some_iff] at hf
        obtain ⟨fd, h1, h2⟩ := hf
        simp only [Prod.mk.injEq] at h2
        exact ⟨fd, by simpa using h1, h2.1, h2.2⟩
      obtain ⟨fd, hfd, rfl, rfl⟩ := hfield
      obtain ⟨sz, hsz', hne⟩ := lk_size (P := P) (t := fd.type) hbad w
      have run : ∀ b off, (Instr.fieldAt t (.pointer (some ⟨b, off, none⟩)) f).run P w = .ok (.pointer (some ⟨b, off + fd.offset, none⟩)) w := fun b off => by
        simp [Instr.fieldAt, underlying, hu, hfd, Instr.sureAddr, fieldPlace, hsz', hne, addr_add, Result.andThen]
      cases s with
      | loc b off =>
        simp only at h
        split at h
        · rename_i t' cells hb
          obtain ⟨B, sz, t'', h1, h2, h3⟩ := hm.cell hb
          obtain rfl := loc_inv hs h1
          simp only [Option.some.injEq, Prod.mk.injEq] at h
          obtain ⟨rfl, rfl⟩ := h
          exact ⟨_, run _ _, .loc h1⟩
        · cases h
      | d y =>
        cases y with
        | ptr ds =>
          simp only [Option.some.injEq, Prod.mk.injEq] at h
          obtain ⟨rfl, rfl⟩ := h
          have hp := d_inv hs
          cases hp with
          | @ptr b off _ vs hc hr => exact ⟨_, run _ _, .d (ptr_drop (.ptr vs hc hr) _ hvc)⟩
        | _ => cases h
      | _ => cases h
    · cases h
  · cases h

theorem fieldF_sound {x : Ctx} {w : World} {t : TypeId} {f : Nat} {v : Value} {s s' : SV} {vc : Prop}
    (hs : SRep x.J x.β v s) (h : fieldF P t f s = some (vc, s')) (hvc : vc) : ∃ u, (Instr.field t v f).run P w = .ok u w ∧ SRep x.J x.β u s' := by
  unfold fieldF at h
  split at h
  · rename_i fs n hk
    obtain ⟨fields, i, hu, hi, hsz, hn, hfs⟩ := tk_struct hk
    have hfield : ∀ o lk, fs[f]? = some (o, lk) → ∃ fd, fields[f]? = some fd ∧ fd.offset = o ∧ lkOf P fd.type = lk := fun o lk hf => by
      rw [hfs, List.getElem?_map, Option.map_eq_some_iff] at hf
      obtain ⟨fd, h1, h2⟩ := hf
      simp only [Prod.mk.injEq] at h2
      exact ⟨fd, by simpa using h1, h2.1, h2.2⟩
    split at h
    · rename_i o n' hf
      obtain ⟨fd, hfd, rfl, hlk⟩ := hfield _ _ hf
      obtain ⟨k1, k2, k3⟩ := lk_agg hlk w
      have run : ∀ cs, (Instr.field t (.agg cs) f).run P w = .ok (.agg (cs.extract fd.offset (fd.offset + n'))) w := fun cs => by
        simp [Instr.field, underlying, hu, hfd, asAgg, part, k1, k2, Result.andThen]
      cases s with
      | d y =>
        cases y with
        | agg ds =>
          simp only [Option.some.injEq, Prod.mk.injEq] at h
          obtain ⟨rfl, rfl⟩ := h
          have hp := d_inv hs
          cases hp with
          | agg hl hh => exact ⟨_, run _, .d (agg_part hl hh _ _)⟩
        | _ => cases h
      | agg ds =>
        simp only [Option.some.injEq, Prod.mk.injEq] at h
        obtain ⟨rfl, rfl⟩ := h
        cases hs with
        | agg hl hh =>
          refine ⟨_, run _, SRep.of_mkAgg (by simp [hl]; omega) fun i v d hv hd => ?_⟩
          rw [List.getElem?_take] at hd
          split at hd
          · rw [List.getElem?_drop] at hd
            rw [Array.getElem?_extract] at hv
            split at hv
            · exact hh _ v d hv hd
            · cases hv
          · cases hd
      | _ => cases h
    · rename_i o hf
      obtain ⟨fd, hfd, rfl, hlk⟩ := hfield _ _ hf
      obtain ⟨k1, k2⟩ := lk_one hlk w
      have run : ∀ (cs : Array Value) u, cs[fd.offset]? = some u → (Instr.field t (.agg cs) f).run P w = .ok u w := fun cs u hu' => by
        simp [Instr.field, underlying, hu, hfd, asAgg, part, k1, hu', Result.andThen]
      cases s with
      | d y =>
        cases y with
        | agg ds =>
          have hp := d_inv hs
          cases hp with
          | @agg cs ds hl hh =>
            simp only at h
            split at h
            · rename_i d hd
              simp only [Option.some.injEq, Prod.mk.injEq] at h
              obtain ⟨rfl, rfl⟩ := h
              have hlt : fd.offset < cs.size := by rw [hl]; exact (List.getElem?_eq_some_iff.1 hd).1
              exact ⟨_, run _ _ (Array.getElem?_eq_getElem hlt), .d (hh _ _ _ (Array.getElem?_eq_getElem hlt) hd)⟩
            · cases h
        | _ => cases h
      | agg ds =>
        cases hs with
        | @agg cs ds hl hh =>
          simp only at h
          split at h
          · rename_i d hd
            simp only [Option.some.injEq, Prod.mk.injEq] at h
            obtain ⟨rfl, rfl⟩ := h
            have hlt : fd.offset < cs.size := by rw [hl]; exact (List.getElem?_eq_some_iff.1 hd).1
            exact ⟨_, run _ _ (Array.getElem?_eq_getElem hlt), hh _ _ _ (Array.getElem?_eq_getElem hlt) hd⟩
          · cases h
      | _ => cases h
    · cases h
  · cases h

theorem intOf'_inv {J : Imm} {β : Nat → Nam} {v : Value} {s : SV} {k : IntKind} {n : Int} (hs : SRep J β v s) (h : intOf' s = some (k, n)) : v = .int k n ∧ InK k n := by
  unfold intOf' at h
  split at h
  · simp only [Option.some.injEq, Prod.mk.injEq] at h
    obtain ⟨rfl, rfl⟩ := h
    have := d_inv hs
    cases this with | int h => exact ⟨rfl, h⟩
  · cases h

/-- One row of a slice. -/
theorem slice_row {J : Imm} {b off cap len : Nat} {xs : List (List DV)} (h : Rep J (.slice (some ⟨b, off, none⟩) len cap) (.list xs)) {wd i : Nat} (hi : i < xs.length) (hw : (xs.getD i []).length = wd) :
    Rep J (.pointer (some ⟨b, off + i * wd, none⟩)) (.ptr (xs.getD i [])) := by
  cases h with
  | empty => simp at hi
  | @slice _ _ _ wd' _ vs hcap hmax hwd hc hr =>
    have hget : xs[i]? = some (xs.getD i []) := by simp [List.getD, List.getElem?_eq_getElem hi]
    have : wd' = wd := by rw [← hw]; exact (hwd _ (List.mem_of_getElem? hget)).symm
    subst this
    exact .ptr (vs i) (fun j hj => hc i j hi (by omega)) (fun j d hd => hr i j _ d hget hd)

end Go.Bf
