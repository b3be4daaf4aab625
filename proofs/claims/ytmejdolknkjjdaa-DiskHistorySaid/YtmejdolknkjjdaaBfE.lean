/-
  The operations that only read: soundness, second part. Nothing is claimed here.
-/
import Derived.Test.YtmejdolknkjjdaaBfD
namespace Go.Bf
open Go Go.RowKit
variable {P : Program}

theorem ek_size {t : TypeId} {k : EK} (h : ekOf P t = some k) (w : World) : (sizeOf t).run P w = .ok k.sz w := by
  obtain ⟨i, hi, h1, _⟩ := ek_info h
  rw [run_sizeOf' hi, h1]

theorem run_indexAt_slice {w : World} {t e : TypeId} {k : EK} (hu : P.underlying t = some (.slice e)) (he : ekOf P e = some k) {kd : IntKind} {i : Int} {b off len cap : Nat} (h0 : 0 ≤ i) (h1 : i < (len : Int)) :
    (Instr.indexAt t (.slice (some ⟨b, off, none⟩) len cap) (.int kd i)).run P w = .ok (.pointer (some ⟨b, off + i.toNat * k.sz, none⟩)) w := by
  have := ek_size he w
  simp [Instr.indexAt, underlying, hu, asIntOf, h0, h1, this, addr_add, Result.andThen]

theorem run_indexAt_arr {w : World} {t e : TypeId} {k : EK} {n : Nat} (hu : P.underlying t = some (.array n e)) (he : ekOf P e = some k) {kd : IntKind} {i : Int} {b off : Nat} (h0 : 0 ≤ i) (h1 : i < (n : Int)) :
    (Instr.indexAt t (.pointer (some ⟨b, off, none⟩)) (.int kd i)).run P w = .ok (.pointer (some ⟨b, off + i.toNat * k.sz, none⟩)) w := by
  have := ek_size he w
  simp [Instr.indexAt, underlying, hu, asIntOf, h0, h1, this, addr_add, Result.andThen, Instr.sureAddr]

theorem rep_list_some {J : Imm} {a : Option Addr} {len cap : Nat} {xs : List (List DV)} (h : Rep J (.slice a len cap) (.list xs)) : len = xs.length ∧ len ≤ cap ∧ cap ≤ maxLen ∧ (0 < xs.length → ∃ b off, a = some ⟨b, off, none⟩) := by
  cases h with
  | empty h => exact ⟨rfl, Nat.zero_le _, h, fun h => by simp at h⟩
  | slice vs h1 h2 _ _ _ => exact ⟨rfl, h1, h2, fun _ => ⟨_, _, rfl⟩⟩

theorem rep_list_inv {J : Imm} {v : Value} {xs : List (List DV)} (h : Rep J v (.list xs)) : ∃ a cap, v = .slice a xs.length cap := by
  cases h with
  | empty h => exact ⟨_, _, rfl⟩
  | slice vs h1 h2 _ _ _ => exact ⟨_, _, rfl⟩

theorem indexAddr_list {x : Ctx} {w : World} {t e : TypeId} {k : EK} (hu : P.underlying t = some (.slice e)) (he : ekOf P e = some k) {v : Value} {kd : IntKind} {i : Int} {xs : List (List DV)} (hv : Rep x.J v (.list xs))
    (h0 : 0 ≤ i) (h1 : i < xs.length) (hw : (xs.getD i.toNat []).length = k.sz) :
    ∃ u, (Instr.indexAt t v (.int kd i)).run P w = .ok u w ∧ SRep x.J x.β u (.d (.ptr (xs.getD i.toNat []))) := by
  obtain ⟨a, cap, rfl⟩ := rep_list_inv hv
  obtain ⟨b, off, rfl⟩ := (rep_list_some hv).2.2.2 (by omega)
  exact ⟨_, run_indexAt_slice hu he h0 h1, .d (slice_row hv (by omega) hw)⟩

theorem clip_inv {J : Imm} {β : Nat → Nam} {v : Value} {xs : List (List DV)} (h : SRep J β v (.clip xs)) : ∃ a, v = .slice a xs.length xs.length ∧ Rep J v (.list xs) := by
  cases h with
  | clip h => have := (rep_list_some h).1; subst this; exact ⟨_, rfl, h⟩

theorem indexAddrF_sound {x : Ctx} {K : Know} {a : Act} {w : World} (hm : Models x K a w) {t : TypeId} {v u : Value} {s r s' : SV} {vc : Prop}
    (hs : SRep x.J x.β v s) (hr : SRep x.J x.β u r) (h : indexAddrF P K.mem t s r = some (vc, s')) (hvc : vc) : ∃ q, (Instr.indexAt t v u).run P w = .ok q w ∧ SRep x.J x.β q s' := by
  unfold indexAddrF at h
  split at h
  · rename_i kd i hi
    obtain ⟨rfl, _⟩ := intOf'_inv hr hi
    split at h
    · rename_i k hk
      obtain ⟨e, hu, he⟩ := tk_slice hk
      cases s with
      | d y =>
        cases y with
        | list xs =>
          simp only [Option.some.injEq, Prod.mk.injEq] at h
          obtain ⟨rfl, rfl⟩ := h
          exact indexAddr_list hu he (d_inv hs) hvc.1 hvc.2.1 hvc.2.2
        | _ => cases h
      | clip xs =>
        simp only [Option.some.injEq, Prod.mk.injEq] at h
        obtain ⟨rfl, rfl⟩ := h
        obtain ⟨_, _, hv⟩ := clip_inv hs
        exact indexAddr_list hu he hv hvc.1 hvc.2.1 hvc.2.2
      | own b wd off len c =>
        simp only at h
        split at h
        · rename_i t' cells hb
          simp only [Option.some.injEq, Prod.mk.injEq] at h
          obtain ⟨rfl, rfl⟩ := h
          obtain ⟨B, sz, t'', h1, h2, h3⟩ := hm.cell hb
          obtain ⟨cap, rfl, _⟩ := own_inv hs h1
          obtain ⟨g0, g1, rfl⟩ := hvc
          exact ⟨_, run_indexAt_slice hu he g0 g1, .loc h1⟩
        · cases h
      | _ => cases h
    · rename_i n k sz hk
      obtain ⟨e, _, hu, he, _⟩ := tk_arr hk
      cases s with
      | d y =>
        cases y with
        | ptr ds =>
          simp only [Option.some.injEq, Prod.mk.injEq] at h
          obtain ⟨rfl, rfl⟩ := h
          have hp := d_inv hs
          cases hp with
          | @ptr b off _ vs hc hr' => exact ⟨_, run_indexAt_arr hu he hvc.1 hvc.2.1, .d (ptr_drop (.ptr vs hc hr') _ hvc.2.2)⟩
        | _ => cases h
      | loc b off =>
        simp only at h
        split at h
        · rename_i t' cells hb
          simp only [Option.some.injEq, Prod.mk.injEq] at h
          obtain ⟨rfl, rfl⟩ := h
          obtain ⟨B, sz, t'', h1, h2, h3⟩ := hm.cell hb
          obtain rfl := loc_inv hs h1
          exact ⟨_, run_indexAt_arr hu he hvc.1 hvc.2, .loc h1⟩
        · cases h
      | _ => cases h
    · cases h
  · cases h

theorem indexF_sound {x : Ctx} {w : World} {t : TypeId} {v u : Value} {s r s' : SV} {vc : Prop}
    (hs : SRep x.J x.β v s) (hr : SRep x.J x.β u r) (h : indexF P t s r = some (vc, s')) (hvc : vc) : ∃ q, (Instr.index t v u).run P w = .ok q w ∧ SRep x.J x.β q s' := by
  unfold indexF at h
  split at h
  · rename_i kd i hi
    obtain ⟨rfl, _⟩ := intOf'_inv hr hi
    split at h
    · rename_i l hk
      have hu := tk_str hk
      simp only [Option.some.injEq, Prod.mk.injEq] at h
      obtain ⟨rfl, rfl⟩ := h
      have hp := d_inv hs
      cases hp with
      | str hl =>
        have hlt : i.toNat < l.length := by omega
        have hsz : i.toNat < (⟨l.toArray⟩ : ByteArray).size := by simpa [ByteArray.size] using hlt
        have hb : (⟨l.toArray⟩ : ByteArray)[i.toNat]? = some (l.getD i.toNat 0) := by
          rw [getElem?_pos (⟨l.toArray⟩ : ByteArray) i.toNat hsz]
          simp only [List.getD, List.getElem?_eq_getElem hlt, Option.getD_some]
          rfl
        refine ⟨.int .u8 (l.getD i.toNat 0).toNat, ?_, .d (.int ?_)⟩
        · simp only [Instr.index, underlying, Sem.run_bind, asIntOf, Sem.run_pure, Result.andThen_ok, hu, run_program, hvc.1, if_true, hb]
        · simp only [InK, IntKind.min, IntKind.max, IntKind.signed, IntKind.bits]
          have := (l.getD i.toNat 0).toNat_lt
          constructor
          · simp
          · simp only [Bool.false_eq_true, if_false]; omega
    · rename_i n k sz ds hk
      obtain ⟨e, _, hu, he, _⟩ := tk_arr hk
      split at h
      · rename_i hlk
        simp only [Option.some.injEq, Prod.mk.injEq] at h
        obtain ⟨rfl, rfl⟩ := h
        have hp := d_inv hs
        obtain ⟨inf, h1, h2, h3, h4, h5, h6, h7⟩ := ek_info he
        obtain ⟨k1, k2⟩ := lk_one (h6.trans hlk) w
        rw [run_sizeOf' h1, h2] at k2
        simp only [Result.ok.injEq, and_true] at k2
        cases hp with
        | @agg cs _ hl hh =>
          have hlt : i.toNat < ds.length := by omega
          have hlt' : i.toNat < cs.size := by omega
          refine ⟨cs[i.toNat], ?_, .d (hh i.toNat _ _ (Array.getElem?_eq_getElem hlt') (by simp [List.getD, List.getElem?_eq_getElem hlt]))⟩
          have hs' := ek_size he w
          simp [Instr.index, underlying, hu, asIntOf, hvc.1, hvc.2.1, Result.andThen, part, k1, hs', k2, hlt']
      · cases h
    · cases h
  · cases h

end Go.Bf
