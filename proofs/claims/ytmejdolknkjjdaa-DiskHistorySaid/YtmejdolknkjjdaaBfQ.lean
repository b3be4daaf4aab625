/-
  copy; and an operation under its guard: what is known then. Nothing is claimed here.
-/
import Derived.Test.YtmejdolknkjjdaaBfP
namespace Go.Bf
open Go Go.RowKit
variable {P : Program}

theorem opC_sound {x : Ctx} {K : Know} {a : Act} {w : World} (hm : Models x K a w) {o : Oper} {rd : Operand → Option SV} (hrd : ∀ u ∈ o.op.operands, ∀ s, rd u = some s → SRep x.J x.β (a.eval u) s)
    {k : SV → Know → Prop} (h : opC P K rd o.op k) : MemRun P x a o w k := by
  obtain ⟨dst, op, type, pos, after, guard⟩ := o
  simp only at h hrd
  unfold opC at h
  split at h
  · rename_i args ts
    split at h
    · rename_i u v t t' hu hv
      obtain rfl : args = #[u, v] := by cases args; simp_all
      obtain rfl : ts = #[t, t'] := by cases ts; simp_all
      have run : ∀ z w', (Builtin.copy_ #[t, t'] type #[a.eval u, a.eval v]).run P w = .ok z w' →
          (execOp a.eval { dst, op := .call { callee := .builtin .copy, args := #[u, v], argTypes := #[t, t'] }, type, pos, after, guard }).run P w = .ok (.value z) w' := fun z w' hz => by
        simp [execOp, resolve, invoke, builtin, hz, Result.andThen]
      split at h
      · rename_i ek b wd off len c r hk hs hr
        obtain ⟨e, hut, he⟩ := tk_slice hk
        obtain ⟨i, k1, k2, k3, k4, k5, k6, k7⟩ := ek_info he
        have hsv := hrd u (by simp [Op.operands, Call.operands]) _ hs
        have hrv := hrd v (by simp [Op.operands, Call.operands]) r hr
        split at h
        · rename_i vc n news bt cells hsrc hmem hc'
          obtain ⟨⟨hvc, rfl, hfit⟩, hk'⟩ := h
          obtain ⟨ns, hx, harr, hone⟩ := srcF_sound (P := P) hm k4 hrv hsrc hvc
          obtain ⟨B, sz, t'', h1, h2, h3⟩ := hm.cell hmem
          obtain ⟨cap, hev, f1, f2, f3, _⟩ := own_inv hsv h1
          have hns : ns.length = n * ek.sz := hx.length
          have hnews : news.length = n * ek.sz := by rw [← hns]; simpa using harr.1.symm
          have hmul := Nat.mul_le_mul_right ek.sz (Nat.min_le_left n len)
          have harr' : ArrR x.J x.β (ns.take (min n len * ek.sz)).toArray (news.take (min n len * ek.sz)) := ⟨by simp; omega, fun j q s hq hs => by
            simp only [List.getElem?_toArray] at hq
            rw [List.getElem?_take] at hq hs
            split at hq
            · rename_i hlt
              rw [if_pos hlt] at hs
              exact harr.2 j q s (by simpa using hq) hs
            · cases hq⟩
          have hlen' : (news.take (min n len * ek.sz)).length = min n len * ek.sz := by rw [List.length_take]; omega
          obtain ⟨w', hst, hm'⟩ := hm.storeRow (P := P) (off := off) hmem h1 harr' (fun q hq => hone q (List.mem_of_mem_take hq)) (by rw [hlen']; exact hfit)
          refine ⟨x, w', _, _, .inl ⟨.int .i64 (min n len : Nat), run _ _ ?_, .d (.int (inK_len (by omega)))⟩, Ctx.le_refl _, hm', hk'⟩
          rw [hev]
          have hsz := ek_size he w
          have hmin : Nat.min n len = min n len := rfl
          unfold Builtin.copy_
          simp only [List.getElem?_toArray, List.getElem?_cons_zero, List.getElem?_cons_succ, Sem.run_bind, run_underlying' hut, Result.andThen_ok, hsz, hx.len w rfl, hmin, hx.upto w rfl _ (Nat.min_le_left n len)]
          simp only [hst, Result.andThen_ok]
          rfl
        · exact h.elim
      · exact h.elim
    · exact h.elim
  · exact h.elim

/-! ### Guards -/
def guardG (K : Know) (ops : Array Oper) (o : Oper) : Option Bool :=
  match o.guard with
  | none => some true
  | some (j, want) =>
    match (ops[j]?).bind (·.dst) with
    | none => none
    | some t => match K.slots t with
      | some (.d (.bool b)) => some (b == want)
      | some (.cnd g (.d (.bool b))) => some (g && (b == want))
      | _ => none

theorem guardG_sound {x : Ctx} {K : Know} {a : Act} {w : World} (hm : Models x K a w) {ops : Array Oper} {o : Oper} {G : Bool} (h : guardG K ops o = some G) : Region.wanted o (yielded ops a.tmps) = G := by
  unfold guardG at h
  unfold Region.wanted
  split at h
  · rename_i hg; rw [hg]; cases h; rfl
  · rename_i j want hg
    rw [hg]
    split at h
    · cases h
    · rename_i t ht
      simp only [yielded, ht, Option.bind_some]
      split at h
      · rename_i b hs
        cases h
        obtain ⟨v, e, r⟩ := hm.slots t _ hs
        have := d_inv r
        cases this
        rw [e]
        cases b <;> cases want <;> rfl
      · rename_i g b hs
        cases h
        obtain ⟨v, e, r⟩ := hm.slots t _ hs
        rw [e]
        cases r with
        | cndT hg' r =>
          have := d_inv r
          cases this
          rw [hg']
          cases b <;> cases want <;> rfl
        | cndF hg' =>
          rw [hg']
          cases want <;> rfl
      · cases h

end Go.Bf
