/-
  The operations that only read: soundness, third part: slice expressions, arithmetic, conversions. Nothing is claimed here.
-/
import Derived.Test.YtmejdolknkjjdaaBfE
namespace Go.Bf
open Go Go.RowKit
variable {P : Program}

/-- An optional operand. -/
def OptR (x : Ctx) : Option Value → Option SV → Prop
  | none, none => True
  | some v, some s => SRep x.J x.β v s
  | _, _ => False

theorem run_sliceBound {w : World} {k : IntKind} {i : Int} {y : Nat} (code : BoundsCode) (h0 : 0 ≤ i) (h1 : i ≤ (y : Int)) : (Instr.sliceBound (.int k i) y code).run P w = .ok i.toNat w := by
  simp [Instr.sliceBound, asIntOf, h0, h1]

theorem boundF_inv {x : Ctx} {v : Option Value} {s : Option SV} {dflt a : Int} (hr : OptR x v s) (h : boundF s dflt = some a) : (v = none ∧ a = dflt) ∨ ∃ k, v = some (.int k a) := by
  cases s with
  | none =>
    cases v with
    | none => simp [boundF] at h; exact .inl ⟨rfl, h.symm⟩
    | some v => exact hr.elim
  | some s =>
    cases v with
    | none => exact hr.elim
    | some v =>
      simp only [boundF, Option.map_eq_some_iff] at h
      obtain ⟨⟨k, n⟩, h1, rfl⟩ := h
      obtain ⟨rfl, _⟩ := intOf'_inv hr h1
      exact .inr ⟨k, rfl⟩

theorem run_bounds {x : Ctx} {w : World} {vl vh : Option Value} {sl sh : Option SV} (hl : OptR x vl sl) (hh : OptR x vh sh) {len cap : Nat} {a b : Int} (ha : boundF sl 0 = some a) (hb : boundF sh len = some b)
    (h0 : 0 ≤ a) (h1 : a ≤ b) (h2 : b ≤ (len : Int)) (h3 : len ≤ cap) (isS : Bool) : (Instr.sliceBounds isS len cap vl vh none).run P w = .ok (a.toNat, b.toNat, cap) w := by
  have hbc : b ≤ (cap : Int) := by omega
  have hb0 : 0 ≤ b := by omega
  have hab : a ≤ (b.toNat : Int) := by omega
  unfold Instr.sliceBounds
  rcases boundF_inv hl ha with ⟨rfl, rfl⟩ | ⟨k, rfl⟩ <;> rcases boundF_inv hh hb with ⟨rfl, rfl⟩ | ⟨k', rfl⟩
  · simp [Result.andThen]
  · simp [Result.andThen, run_sliceBound _ hb0 hbc]
  · simp only [Int.toNat_natCast] at hab ⊢
    simp [Result.andThen, run_sliceBound _ h0 hab]
  · simp [Result.andThen, run_sliceBound _ hb0 hbc, run_sliceBound _ h0 hab]

theorem run_bounds3 {x : Ctx} {w : World} {vl : Option Value} {sl : Option SV} (hl : OptR x vl sl) {len cap : Nat} {a b m : Int} (ha : boundF sl 0 = some a) {k k' : IntKind}
    (h0 : 0 ≤ a) (h1 : a ≤ b) (h2 : b ≤ m) (h3 : m ≤ (cap : Int)) : (Instr.sliceBounds true len cap vl (some (.int k b)) (some (.int k' m))).run P w = .ok (a.toNat, b.toNat, m.toNat) w := by
  have hm0 : 0 ≤ m := by omega
  have hb0 : 0 ≤ b := by omega
  have hab : a ≤ (b.toNat : Int) := by omega
  have hbm : b ≤ (m.toNat : Int) := by omega
  unfold Instr.sliceBounds
  rcases boundF_inv hl ha with ⟨rfl, rfl⟩ | ⟨k, rfl⟩
  · simp [Result.andThen, run_sliceBound _ hm0 h3, run_sliceBound _ hb0 hbm]
  · simp [Result.andThen, run_sliceBound _ hm0 h3, run_sliceBound _ hb0 hbm, run_sliceBound _ h0 hab]

theorem rep_sub {J : Imm} {a : Option Addr} {len cap : Nat} {xs : List (List DV)} (h : Rep J (.slice a len cap) (.list xs)) {l r m wd : Nat} (h1 : l ≤ r) (h2 : r ≤ xs.length) (hm : r ≤ m) (hmc : m ≤ cap)
    (hwd : ∀ q ∈ xs, q.length = wd) : Rep J (.slice (if m = l then a else a.map (·.add (l * wd))) (r - l) (m - l)) (.list ((xs.take r).drop l)) := by
  have hmax : cap ≤ maxLen := (rep_list_some h).2.2.1
  have hlen : ((xs.take r).drop l).length = r - l := by simp; omega
  by_cases hz : r = l
  · subst hz
    have : (xs.take r).drop r = [] := List.eq_nil_of_length_eq_zero (by simp)
    rw [this, Nat.sub_self]
    exact .empty (by omega)
  · have hml : m ≠ l := by omega
    cases h with
    | empty => simp at h2; omega
    | @slice b off _ wd' _ vs hcap hmx hw hc hr =>
      have hwe : wd' = wd := by
        have h0 : xs[0]? = some (xs[0]'(by omega)) := List.getElem?_eq_getElem (by omega)
        rw [← hw _ (List.mem_of_getElem? h0), hwd _ (List.mem_of_getElem? h0)]
      subst hwe
      rw [if_neg hml, ← hlen]
      simp only [Option.map_some, addr_add]
      refine .slice (fun i j => vs (l + i) j) (by rw [hlen]; omega) (by omega) (fun q hq => hw q (List.mem_of_mem_take (List.mem_of_mem_drop hq))) (fun i j hi hj => ?_) (fun i j q d hq hd => ?_)
      · rw [Nat.add_assoc off, ← Nat.add_mul]
        exact hc (l + i) j (by rw [hlen] at hi; omega) hj
      · refine hr (l + i) j q d ?_ hd
        rw [List.getElem?_drop, List.getElem?_take] at hq
        split at hq
        · exact hq
        · cases hq

theorem run_slice_slice {w : World} {t e : TypeId} {k : EK} (hu : P.underlying t = some (.slice e)) (he : ekOf P e = some k) {a : Option Addr} {len cap l h m : Nat} {lo hi mx : Option Value}
    (hb : (Instr.sliceBounds true len cap lo hi mx).run P w = .ok (l, h, m) w) :
    (Instr.sliceAt t (.slice a len cap) lo hi mx).run P w = .ok (.slice (if m = l then a else a.map (·.add (l * k.sz))) (h - l) (m - l)) w := by
  have hs := ek_size he w
  simp [Instr.sliceAt, Instr.slice, underlying, hu, hb, hs, Result.andThen]

theorem list_slice {x : Ctx} {w : World} {t e : TypeId} {k : EK} (hu : P.underlying t = some (.slice e)) (he : ekOf P e = some k) {v : Value} {xs : List (List DV)} (hv : Rep x.J v (.list xs))
    {vl vh vm : Option Value} {sl sh sm : Option SV} (hl : OptR x vl sl) (hh : OptR x vh sh) (hm' : OptR x vm sm) {a b : Int} (ha : boundF sl 0 = some a) (hb : boundF sh xs.length = some b)
    (h0 : 0 ≤ a) (h1 : a ≤ b) (hw : Wide k.sz xs) :
    (sm = none → b ≤ xs.length → ∃ q, (Instr.sliceAt t v vl vh vm).run P w = .ok q w ∧ SRep x.J x.β q (.d (.list ((xs.take b.toNat).drop a.toNat)))) ∧
    (∀ s kd m, sm = some s → intOf' s = some (kd, m) → sh ≠ none → b = m → m ≤ xs.length → ∃ q, (Instr.sliceAt t v vl vh vm).run P w = .ok q w ∧ SRep x.J x.β q (.clip ((xs.take b.toNat).drop a.toNat))) := by
  obtain ⟨ad, cap, rfl⟩ := rep_list_inv hv
  have hle := (rep_list_some hv).2.1
  constructor
  · intro hsm h2
    subst hsm
    have : vm = none := by cases vm with | none => rfl | some _ => exact hm'.elim
    subst this
    refine ⟨_, run_slice_slice hu he (run_bounds hl hh ha hb h0 h1 h2 hle true), .d (rep_sub hv (by omega) (by omega) (by omega) (Nat.le_refl _) hw)⟩
  · intro s kd m hsm hi hne hbm h2
    subst hsm hbm
    cases vm with
    | none => exact hm'.elim
    | some vm =>
      obtain ⟨rfl, _⟩ := intOf'_inv hm' hi
      rcases boundF_inv hh hb with ⟨rfl, _⟩ | ⟨k', rfl⟩
      · cases sh with
        | none => exact absurd rfl hne
        | some _ => exact hh.elim
      · refine ⟨_, run_slice_slice hu he (run_bounds3 hl ha h0 h1 (Int.le_refl _) (by omega)), .clip ?_⟩
        exact rep_sub hv (by omega) (by omega) (Nat.le_refl _) (by omega) hw

theorem sliceListF_sound {x : Ctx} {w : World} {t : TypeId} {v : Value} {vl vh vm : Option Value} {xs : List (List DV)} {s' : SV} {sl sh sm : Option SV} {vc : Prop}
    (hv : Rep x.J v (.list xs)) (hl : OptR x vl sl) (hh : OptR x vh sh) (hmx : OptR x vm sm) (h : sliceListF P t xs sl sh sm = some (vc, s')) (hvc : vc) :
    ∃ q, (Instr.sliceAt t v vl vh vm).run P w = .ok q w ∧ SRep x.J x.β q s' := by
  unfold sliceListF at h
  split at h
  · rename_i k l b hk ha hb
    obtain ⟨e, hu, he⟩ := tk_slice hk
    cases sm with
    | none =>
      simp only [Option.some.injEq, Prod.mk.injEq] at h
      obtain ⟨rfl, rfl⟩ := h
      exact (list_slice hu he hv hl hh hmx ha hb hvc.1 hvc.2.1 hvc.2.2.2).1 rfl hvc.2.2.1
    | some m =>
      cases hi : intOf' m with
      | none => simp [hi] at h
      | some p =>
        obtain ⟨kd, mm⟩ := p
        cases sh with
        | none => simp [hi] at h
        | some q =>
          simp only [hi, Option.some.injEq, Prod.mk.injEq] at h
          obtain ⟨rfl, rfl⟩ := h
          exact (list_slice hu he hv hl hh hmx ha hb hvc.1 hvc.2.1 hvc.2.2.2.2).2 _ _ _ rfl hi (by simp) hvc.2.2.1 hvc.2.2.2.1
  · cases h

theorem sliceF_sound {x : Ctx} {K : Know} {a : Act} {w : World} (hm : Models x K a w) {t : TypeId} {v : Value} {vl vh vm : Option Value} {s s' : SV} {sl sh sm : Option SV} {vc : Prop}
    (hs : SRep x.J x.β v s) (hl : OptR x vl sl) (hh : OptR x vh sh) (hmx : OptR x vm sm) (h : sliceF P K.mem t s sl sh sm = some (vc, s')) (hvc : vc) :
    ∃ q, (Instr.sliceAt t v vl vh vm).run P w = .ok q w ∧ SRep x.J x.β q s' := by
  unfold sliceF at h
  cases s with
  | d y =>
    cases y with
    | list xs => exact sliceListF_sound (d_inv hs) hl hh hmx h hvc
    | str l =>
      simp only at h
      split at h
      · rename_i a b hk ha hb
        have hu := tk_str hk
        simp only [Option.some.injEq, Prod.mk.injEq] at h
        obtain ⟨rfl, rfl⟩ := h
        have hp := d_inv hs
        cases hp with
        | str hlen =>
          have hvm : vm = none := by cases vm with | none => rfl | some _ => exact hmx.elim
          subst hvm
          have hsz : (⟨l.toArray⟩ : ByteArray).size = l.length := by simp [ByteArray.size]
          have hb' := run_bounds (P := P) (w := w) hl hh (len := l.length) (cap := l.length) ha hb hvc.1 hvc.2.1 hvc.2.2 (Nat.le_refl _) false
          refine ⟨.string ((⟨l.toArray⟩ : ByteArray).extract a.toNat b.toNat), ?_, ?_⟩
          · simp [Instr.sliceAt, Instr.slice, underlying, hu, hsz, hb', Result.andThen]
          · have : ((⟨l.toArray⟩ : ByteArray).extract a.toNat b.toNat) = ⟨((l.take b.toNat).drop a.toNat).toArray⟩ := by
              apply ByteArray.ext
              simp [ByteArray.data_extract]
              rw [List.drop_take]
            rw [this]
            exact .d (.str (by simp; omega))
      · cases h
    | _ => cases h
  | clip xs =>
    obtain ⟨_, _, hv⟩ := clip_inv hs
    exact sliceListF_sound hv hl hh hmx h hvc
  | own b wd off len c =>
    simp only at h
    split at h
    · rename_i k t' cells l r hk hb ha hbb
      obtain ⟨e, hu, he⟩ := tk_slice hk
      simp only [Option.some.injEq, Prod.mk.injEq] at h
      obtain ⟨rfl, rfl⟩ := h
      obtain ⟨B, sz, t'', h1, h2, h3⟩ := hm.cell hb
      obtain ⟨cap, rfl, g1, g2, g3, g4⟩ := own_inv hs h1
      have hvm : vm = none := by cases vm with | none => rfl | some _ => exact hmx.elim
      subst hvm
      obtain ⟨c0, c1, c2, c3, rfl⟩ := hvc
      refine ⟨_, run_slice_slice hu he (run_bounds hl hh ha hbb c0 c1 c2 g2 true), ?_⟩
      have e1 : (if cap = l.toNat then (some ⟨B, off, none⟩ : Option Addr) else Option.map (fun (x : Addr) => x.add (l.toNat * k.sz)) (some (⟨B, off, none⟩ : Addr))) = some ⟨B, off + l.toNat * k.sz, none⟩ := by
        split
        · rename_i hc
          rcases c3 with c3 | c3
          · subst c3; simp
          · omega
        · simp [addr_add]
      rw [e1]
      refine .own h1 ?_ (by omega) (by omega) (fun x hx => by cases hx)
      have : l.toNat ≤ cap := by omega
      have hmul : l.toNat * k.sz + (cap - l.toNat) * k.sz = cap * k.sz := by rw [← Nat.add_mul]; congr 1; omega
      omega
    · cases h
  | loc b off =>
    simp only at h
    split at h
    · rename_i n k sz t' cells l hk hb ha
      obtain ⟨e, i, hu, he, hi, hi1, hi2⟩ := tk_arr hk
      split at h
      · rename_i r hbb
        simp only [Option.some.injEq, Prod.mk.injEq] at h
        obtain ⟨rfl, rfl⟩ := h
        obtain ⟨B, sz', t'', h1, h2, h3⟩ := hm.cell hb
        obtain rfl := loc_inv hs h1
        have hvm : vm = none := by cases vm with | none => rfl | some _ => exact hmx.elim
        subst hvm
        obtain ⟨c0, c1, c2, c3, c4, c5⟩ := hvc
        have hb' := run_bounds (P := P) (w := w) hl hh (len := n) (cap := n) ha hbb c0 c1 c2 (Nat.le_refl _) false
        have hs' := ek_size he w
        have e1 : (if n = l.toNat then (⟨B, off, none⟩ : Addr) else (⟨B, off, none⟩ : Addr).add (l.toNat * k.sz)) = ⟨B, off + l.toNat * k.sz, none⟩ := by
          split
          · rename_i hc
            rcases c3 with c3 | c3
            · subst c3; simp
            · omega
          · simp [addr_add]
        refine ⟨.slice (some ⟨B, off + l.toNat * k.sz, none⟩) (r.toNat - l.toNat) (n - l.toNat), ?_, ?_⟩
        · simp [Instr.sliceAt, underlying, hu, Instr.sureAddr, hb', hs', Result.andThen, e1]
        · refine .own h1 ?_ (by omega) (by omega) (fun x hx => by cases hx)
          have hmul : l.toNat * k.sz + (n - l.toNat) * k.sz = n * k.sz := by rw [← Nat.add_mul]; congr 1; omega
          omega
      · cases h
    · cases h
  | _ => cases h

end Go.Bf
