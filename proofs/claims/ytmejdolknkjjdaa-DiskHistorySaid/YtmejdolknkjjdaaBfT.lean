/-
  The rules for code, and a function's contract out of its body. Nothing is claimed here.
-/
import Derived.Test.YtmejdolknkjjdaaBfS
namespace Go.Bf
open Go Go.RowKit
variable {P : Program} {r : Option Nat}

def DWp (P : Program) (r : Option Nat) (c : Code) (Q : XE → Know → Prop) (K : Know) : Prop := ∀ x a w, Models x K a w → c.wpIn (FW r) 0 P (Post x Q) a w

def thenX (k : Know → Prop) (Q : XE → Know → Prop) : XE → Know → Prop
  | .normal, K => k K
  | e, K => Q e K
def blockX (id : Nat) (Q : XE → Know → Prop) : XE → Know → Prop
  | .exit i, K => if i = id then Q .normal K else Q (.exit i) K
  | e, K => Q e K

theorem DWp.mono {c : Code} {Q Q' : XE → Know → Prop} {K : Know} (h : DWp P r c Q K) (hq : ∀ e K, Q e K → Q' e K) : DWp P r c Q' K :=
  fun x a w hm => wpIn_mono (h x a w hm) fun _ _ _ => Post.mono hq

theorem DWp.region {id : Nat} {ops : Array Oper} {Q : XE → Know → Prop} {K : Know} (h : OpsWp P r ops Q ops.toList K) : DWp P r (.region id ops false) Q K := fun x a w hm => by
  refine wpIn_region ?_
  have := opsL_sound (P := P) (r := r) (ops := ops) ops.toList 0 a w (fun j => by simp) (h x a w hm)
  simpa using this

theorem DWp.seq {c d : Code} {Q : XE → Know → Prop} {K : Know} (h : DWp P r c (thenX (DWp P r d Q) Q) K) : DWp P r (.seq c d) Q K := fun x a w hm => by
  refine wpIn_seq (wpIn_mono (h x a w hm) ?_)
  rintro e a' w' ⟨y, K', xe, h1, h2, h3, h4⟩
  cases e with
  | normal =>
    cases xe <;> first | exact h2.elim | skip
    exact wpIn_mono (h4 y a' w' h3) fun _ _ _ => Post.ext h1
  | exit id => cases xe <;> first | exact h2.elim | exact ⟨y, K', _, h1, h2, h3, h4⟩
  | goto l => cases xe <;> exact h2.elim
  | ret => cases xe <;> first | exact h2.elim | exact ⟨y, K', _, h1, h2, h3, h4⟩
  | panic ch => cases xe <;> first | exact h2.elim | exact ⟨y, K', _, h1, h2, h3, h4⟩
  | outgrown => cases xe <;> exact h2.elim

theorem DWp.block {id : Nat} {c : Code} {Q : XE → Know → Prop} {K : Know} (h : DWp P r c (blockX id Q) K) : DWp P r (.block id c) Q K := fun x a w hm => by
  refine wpIn_block (wpIn_mono (h x a w hm) ?_)
  rintro e a' w' ⟨y, K', xe, h1, h2, h3, h4⟩
  cases e with
  | normal => cases xe <;> first | exact h2.elim | exact ⟨y, K', _, h1, h2, h3, h4⟩
  | exit i =>
    cases xe <;> first | exact h2.elim | skip
    rename_i i'
    have hi : i = i' := h2
    subst hi
    simp only [Exit.inBlock]
    simp only [blockX] at h4
    split
    · rename_i e; rw [if_pos e] at h4; exact ⟨y, K', .normal, h1, trivial, h3, h4⟩
    · rename_i e; rw [if_neg e] at h4; exact ⟨y, K', .exit i, h1, rfl, h3, h4⟩
  | goto l => cases xe <;> exact h2.elim
  | ret => cases xe <;> first | exact h2.elim | exact ⟨y, K', _, h1, h2, h3, h4⟩
  | panic ch => cases xe <;> first | exact h2.elim | exact ⟨y, K', _, h1, h2, h3, h4⟩
  | outgrown => cases xe <;> exact h2.elim

theorem DWp.skip {Q : XE → Know → Prop} {K : Know} (h : Q .normal K) : DWp P r .skip Q K := fun x _ _ hm => wpIn_skip ⟨x, K, .normal, Ctx.ext_refl _, trivial, hm, h⟩
theorem DWp.ret {Q : XE → Know → Prop} {K : Know} (h : Q .ret K) : DWp P r .ret Q K := fun x _ _ hm => wpIn_ret ⟨x, K, .ret, Ctx.ext_refl _, trivial, hm, h⟩
theorem DWp.exit {id : Nat} {Q : XE → Know → Prop} {K : Know} (h : Q (.exit id) K) : DWp P r (.exit id) Q K := fun x _ _ hm => wpIn_exit ⟨x, K, .exit id, Ctx.ext_refl _, rfl, hm, h⟩

/-- A test: both ways. -/
def CondVC (P : Program) (r : Option Nat) (c : Operand) (t e : Code) (Q : XE → Know → Prop) (K : Know) : Prop :=
  match rdK K true c with
  | some (p, .d (.bool b)) => p ∧ (b = true → DWp P r t Q K) ∧ (b = false → DWp P r e Q K)
  | _ => False

theorem DWp.cond {c : Operand} {t e : Code} {Q : XE → Know → Prop} {K : Know} (h : CondVC P r c t e Q K) : DWp P r (.cond c t e) Q K := fun x a w hm => by
  unfold CondVC at h
  split at h
  · rename_i p b hc
    obtain ⟨hp, ht, he⟩ := h
    have := d_inv (rdK_rep hm hc hp rfl)
    generalize hev : a.eval c = z at this
    cases this
    exact wpIn_cond_split hev (fun hb => ht hb x a w hm) (fun hb => he hb x a w hm)
  · exact h.elim

/-! ### What a function hands back -/
def snapD (mem : Mem) : Nat → SV → Option DV
  | _, .d x => some x
  | _, .clip xs => some (.list xs)
  | 0, _ => none
  | n + 1, .agg cs => match allD cs with
    | some ds => some (.agg ds)
    | none => (cs.mapM (snapD mem n)).map .agg
  | n + 1, .own b wd off len _ => match mem b with
    | .live _ cells =>
      match allD ((cells.drop off).take (len * wd)) with
      | some ds => if ds.length = len * wd then some (.list (if wd = 1 then ds.map fun d => [d] else chunk wd len ds)) else none
      | none => match ((cells.drop off).take (len * wd)).mapM (snapD mem n) with
        | some ds => if ds.length = len * wd then some (.list (if wd = 1 then ds.map fun d => [d] else chunk wd len ds)) else none
        | none => none
    | _ => none
  | n + 1, .loc b off => match mem b with
    | .live _ cells => match allD (cells.drop off) with
      | some ds => some (.ptr ds)
      | none => ((cells.drop off).mapM (snapD mem n)).map .ptr
    | _ => none
  | n + 1, .clo f cs => match allD cs with
    | some ds => some (.fn f ds)
    | none => (cs.mapM (snapD mem n)).map (.fn f)
  | _, .cnd _ _ => none

/-- All cells of the local blocks are held immutable. -/
structure SnapJ (x : Ctx) (K : Know) (w : World) (J : Imm) : Prop where
  le : ∀ b o v, x.J b o = some v → J b o = some v
  loc : ∀ (b : Nat) t cells, K.mem b = .live t cells → ∀ B sz t', x.β b = .live B sz t' → ∀ o v, w.cell? ⟨B, o, none⟩ = some v → J B o = some v

theorem snapD_rep {x : Ctx} {K : Know} {a : Act} {w : World} (hm : Models x K a w) {J : Imm} (hJ : SnapJ x K w J) : ∀ (n : Nat) (s : SV) (v : Value) (d : DV), SRep x.J x.β v s → snapD K.mem n s = some d → Rep J v d := by
  intro n
  induction n with
  | zero =>
    intro s v d hs h
    cases s with
    | d y => simp only [snapD, Option.some.injEq] at h; subst h; exact (d_inv hs).mono hJ.le
    | clip xs => simp only [snapD, Option.some.injEq] at h; subst h; obtain ⟨_, _, hv⟩ := clip_inv hs; exact hv.mono hJ.le
    | _ => simp [snapD] at h
  | succ n ih =>
    intro s v d hs h
    have all : ∀ {cs : List SV} {ds : List DV}, (allD cs = some ds ∨ cs.mapM (snapD K.mem n) = some ds) → ds.length = cs.length ∧ ∀ (i : Nat) (u : Value) (q : SV) (e : DV), cs[i]? = some q → ds[i]? = some e → SRep x.J x.β u q → Rep J u e := fun {cs ds} hc => by
      rcases hc with hc | hc
      · obtain ⟨g1, g2⟩ := allD_get hc
        refine ⟨g1, fun i u q e hq he hr => ?_⟩
        rw [g2 i e he] at hq
        cases hq
        exact (d_inv hr).mono hJ.le
      · obtain ⟨g1, g2⟩ := mapM_get hc
        exact ⟨g1, fun i u q e hq he hr => ih q u e hr (g2 i q e hq he)⟩
    cases s with
    | d y => simp only [snapD, Option.some.injEq] at h; subst h; exact (d_inv hs).mono hJ.le
    | clip xs => simp only [snapD, Option.some.injEq] at h; subst h; obtain ⟨_, _, hv⟩ := clip_inv hs; exact hv.mono hJ.le
    | agg cs =>
      have fin : ∀ ds, (allD cs = some ds ∨ cs.mapM (snapD K.mem n) = some ds) → Rep J v (.agg ds) := fun ds hc => by
        obtain ⟨g1, g2⟩ := all hc
        cases hs with
        | agg hl hh =>
          refine .agg (by omega) fun i u e hu he => ?_
          have hlt : i < cs.length := by rw [← g1]; exact (List.getElem?_eq_some_iff.1 he).1
          exact g2 i u _ e (List.getElem?_eq_getElem hlt) he (hh i u _ hu (List.getElem?_eq_getElem hlt))
      simp only [snapD] at h
      split at h
      · rename_i ds hds; cases h; exact fin ds (.inl hds)
      · rw [Option.map_eq_some_iff] at h; obtain ⟨ds, hds, rfl⟩ := h; exact fin ds (.inr hds)
    | clo f cs =>
      have fin : ∀ ds, (allD cs = some ds ∨ cs.mapM (snapD K.mem n) = some ds) → Rep J v (.fn f ds) := fun ds hc => by
        obtain ⟨g1, g2⟩ := all hc
        cases hs with
        | clo hl hh =>
          refine .fn (by omega) fun i u e hu he => ?_
          have hlt : i < cs.length := by rw [← g1]; exact (List.getElem?_eq_some_iff.1 he).1
          exact g2 i u _ e (List.getElem?_eq_getElem hlt) he (hh i u _ hu (List.getElem?_eq_getElem hlt))
      simp only [snapD] at h
      split at h
      · rename_i ds hds; cases h; exact fin ds (.inl hds)
      · rw [Option.map_eq_some_iff] at h; obtain ⟨ds, hds, rfl⟩ := h; exact fin ds (.inr hds)
    | loc b off =>
      simp only [snapD] at h
      split at h
      · rename_i t cells hb
        obtain ⟨B, sz, t', h1, h2, h3⟩ := hm.cell hb
        obtain rfl := loc_inv hs h1
        have fin : ∀ ds, (allD (cells.drop off) = some ds ∨ (cells.drop off).mapM (snapD K.mem n) = some ds) → Rep J (.pointer (some ⟨B, off, none⟩)) (.ptr ds) := fun ds hc => by
          obtain ⟨g1, g2⟩ := all hc
          have key : ∀ j, j < ds.length → ∃ u q, w.cell? ⟨B, off + j, none⟩ = some u ∧ (cells.drop off)[j]? = some q ∧ SRep x.J x.β u q := fun j hj => by
            have hlt : j < (cells.drop off).length := by omega
            have hq : (cells.drop off)[j]? = some (cells.drop off)[j] := List.getElem?_eq_getElem hlt
            obtain ⟨u, e, rr⟩ := h3 (off + j) (cells.drop off)[j] (by rw [← hq, List.getElem?_drop])
            exact ⟨u, _, e, hq, rr⟩
          refine .ptr (fun j => (w.cell? ⟨B, off + j, none⟩).getD undef) (fun j hj => ?_) (fun j e he => ?_)
          · obtain ⟨u, q, e1, _, _⟩ := key j hj
            rw [e1]; exact hJ.loc b t cells hb B sz t' h1 _ _ e1
          · obtain ⟨u, q, e1, e2, e3⟩ := key j (List.getElem?_eq_some_iff.1 he).1
            rw [e1]; exact g2 j u q e e2 he e3
        split at h
        · rename_i ds hds; cases h; exact fin ds (.inl hds)
        · rw [Option.map_eq_some_iff] at h; obtain ⟨ds, hds, rfl⟩ := h; exact fin ds (.inr hds)
      · cases h
    | own b wd off len c =>
      simp only [snapD] at h
      split at h
      · rename_i t cells hb
        obtain ⟨B, sz, t', h1, h2, h3⟩ := hm.cell hb
        obtain ⟨cap, rfl, f1, f2, f3, _⟩ := own_inv hs h1
        have fin : ∀ ds, (allD ((cells.drop off).take (len * wd)) = some ds ∨ ((cells.drop off).take (len * wd)).mapM (snapD K.mem n) = some ds) → ds.length = len * wd →
            Rep J (.slice (some ⟨B, off, none⟩) len cap) (.list (if wd = 1 then ds.map fun d => [d] else chunk wd len ds)) := fun ds hc hlen => by
          obtain ⟨g1, g2⟩ := all hc
          have key : ∀ j e, ds[j]? = some e → ∃ u, w.cell? ⟨B, off + j, none⟩ = some u ∧ J B (off + j) = some u ∧ Rep J u e := fun j e he => by
            have hlt : j < ((cells.drop off).take (len * wd)).length := by rw [← g1]; exact (List.getElem?_eq_some_iff.1 he).1
            have hq : ((cells.drop off).take (len * wd))[j]? = some ((cells.drop off).take (len * wd))[j] := List.getElem?_eq_getElem hlt
            have hq' := hq
            rw [List.getElem?_take] at hq'
            split at hq'
            · rw [List.getElem?_drop] at hq'
              obtain ⟨u, e1, rr⟩ := h3 (off + j) _ hq'
              exact ⟨u, e1, hJ.loc b t cells hb B sz t' h1 _ _ e1, g2 j u _ e hq he rr⟩
            · cases hq'
          have hch : (if wd = 1 then ds.map fun d => [d] else chunk wd len ds) = chunk wd len ds := by
            split
            · rename_i hw; subst hw; rw [chunk_one len ds (by omega)]
            · rfl
          rw [hch]
          obtain ⟨c1, c2, c3⟩ := chunk_spec len ds hlen
          have := Rep.slice (J := J) (b := B) (off := off) (cap := cap) (wd := wd) (xs := chunk wd len ds) (fun i j => (w.cell? ⟨B, off + i * wd + j, none⟩).getD undef) (by omega) f3 c2
            (fun i j hi hj => by
              have hi' : (chunk wd len ds)[i]? = some (chunk wd len ds)[i] := List.getElem?_eq_getElem hi
              have hj' : j < ((chunk wd len ds)[i]).length := by rw [c2 _ (List.getElem_mem hi)]; exact hj
              obtain ⟨u, e1, e2, e3⟩ := key (i * wd + j) _ (c3 i j _ _ hi' (List.getElem?_eq_getElem hj'))
              rw [← Nat.add_assoc] at e1 e2
              rw [e1]; exact e2)
            (fun i j q e hq he => by
              obtain ⟨u, e1, e2, e3⟩ := key (i * wd + j) e (c3 i j q e hq he)
              rw [← Nat.add_assoc] at e1
              rw [e1]; exact e3)
          rw [c1] at this
          exact this
        split at h
        · rename_i ds hds
          split at h
          · rename_i hl; cases h; exact fin ds (.inl hds) hl
          · cases h
        · split at h
          · rename_i ds hds
            split at h
            · rename_i hl; cases h; exact fin ds (.inr hds) hl
            · cases h
          · cases h
      · cases h
    | cnd g s => simp [snapD] at h

end Go.Bf
