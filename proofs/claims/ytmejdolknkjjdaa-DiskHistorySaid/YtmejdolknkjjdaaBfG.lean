/-
  The operations that only read: soundness, fourth part: arithmetic, conversions; all of them together. Nothing is claimed here.
-/
import Derived.Test.YtmejdolknkjjdaaBfF
import Derived.Laws.Closers25b
namespace Go.Bf
open Go Go.RowKit
variable {P : Program}

theorem min_le_max (k : IntKind) : k.min ≤ k.max ∧ k.min ≤ 0 ∧ 0 ≤ k.max := by cases k <;> decide

theorem inK_wrap (k : IntKind) (n : Int) : InK k (k.wrap n) := wrap_within k n

theorem inK_fdiv {k : IntKind} {a : Int} (h : InK k a) (n : Nat) : InK k (a.fdiv (2 ^ n)) := by
  have hp : (0 : Int) < 2 ^ n := Int.pow_pos (by decide)
  have h1 : a.fdiv (2 ^ n) = a / 2 ^ n := Int.fdiv_eq_ediv_of_nonneg a (Int.le_of_lt hp)
  rw [h1]
  have hm := min_le_max k
  constructor
  · rcases Int.le_total 0 a with h0 | h0
    · exact Int.le_trans hm.2.1 (Int.ediv_nonneg h0 (Int.le_of_lt hp))
    · have : a ≤ a / 2 ^ n := by
        rw [Int.le_ediv_iff_mul_le hp]
        have h2 : (-a) * 1 ≤ (-a) * 2 ^ n := Int.mul_le_mul_of_nonneg_left (by omega) (by omega)
        rw [Int.neg_mul, Int.neg_mul, Int.mul_one] at h2
        omega
      exact Int.le_trans h.1 this
  · rcases Int.le_total 0 a with h0 | h0
    · exact Int.le_trans (Int.ediv_le_self _ h0) h.2
    · have : a / 2 ^ n ≤ 0 := by
        have := Int.ediv_le_ediv hp h0
        simpa using this
      exact Int.le_trans this hm.2.2

theorem tmod_le_self {a b : Int} (h : 0 ≤ a) : a.tmod b ≤ a := by
  have h1 := Int.tmod_nonneg b h
  have h2 : (a.tmod b).natAbs ≤ a.natAbs := by rw [Int.natAbs_tmod]; exact Nat.mod_le _ _
  omega

theorem inK_tmod {k : IntKind} {a : Int} (b : Int) (ha : InK k a) : InK k (a.tmod b) := by
  have hm := min_le_max k
  rcases Int.le_total 0 a with h0 | h0
  · exact ⟨Int.le_trans hm.2.1 (Int.tmod_nonneg b h0), Int.le_trans (tmod_le_self h0) ha.2⟩
  · have h1 : (-a).tmod b ≤ -a := tmod_le_self (by omega)
    have h2 := Int.tmod_nonneg b (show 0 ≤ -a by omega)
    rw [Int.neg_tmod] at h1 h2
    exact ⟨by have := ha.1; omega, by omega⟩

theorem eqGuard_plain (w : World) (op : BinOp) (t : TypeId) (x y : Operand) (u v : Value) (hu : ∀ cs, u ≠ .agg cs) (hu' : u ≠ .nilIface) : (eqGuard op t x y u v).run P w = .ok () w := by
  cases op <;> first
    | rfl
    | (unfold eqGuard
       simp only [Bool.not_true, Bool.false_eq_true, if_false]
       split
       · exact absurd rfl hu'
       · exact absurd rfl (hu _)
       · rfl)

theorem binInt_sound {x : Ctx} {w : World} {op : BinOp} {t : TypeId} {k k' : IntKind} {a b : Int} {s' : SV} {vc : Prop} (ha : InK k a) (hk : (isShift op || decide (k = k')) = true)
    (h : binInt op k a b = some (vc, s')) (hvc : vc) : ∃ z, (binOp op t (.int k a) (.int k' b)).run P w = .ok z w ∧ SRep x.J x.β z s' := by
  cases op <;> simp only [binInt, Option.some.injEq, Prod.mk.injEq] at h <;> obtain ⟨rfl, rfl⟩ := h <;> simp only [isShift, Bool.false_or, decide_eq_true_eq, Bool.true_or] at hk <;> (try subst hk)
  case shl =>
    have : ¬ b < 0 := by omega
    refine ⟨_, ?_, .d (.int (inK_wrap _ _))⟩
    simp [binOp, Op.shift, this]
  case shr =>
    have : ¬ b < 0 := by omega
    refine ⟨_, ?_, .d (.int (inK_fdiv ha _))⟩
    simp [binOp, Op.shift, this]
  case quo =>
    refine ⟨_, ?_, .d (.int (inK_wrap _ _))⟩
    simp [binOp, Op.intDiv, hvc]
  case rem =>
    refine ⟨_, ?_, .d (.int (inK_tmod _ ha))⟩
    simp [binOp, Op.intDiv, hvc]
  all_goals first
    | (refine ⟨_, ?_, .d .bool⟩; simp [binOp, Op.intCmp]; done)
    | (refine ⟨_, ?_, .d .bool⟩; simp [binOp, Op.intCmp]; rfl)
    | (refine ⟨_, ?_, .d (.int (inK_wrap _ _))⟩; simp [binOp, Op.intArith]; done)
    | (refine ⟨_, ?_, .d (.int (inK_wrap _ _))⟩; simp [binOp, Op.intBits, bitF]; done)

theorem run_equalIn_bool {w : World} {t : TypeId} (hu : P.underlying t = some .bool) (a b : Bool) (d : Nat) : (Op.equalIn (d + 1) t (.bool a) (.bool b)).run P w = .ok (a == b) w := by
  simp only [Op.equalIn, Sem.run_bind, run_underlying' hu, Result.andThen_ok]
  rfl
theorem run_equal_bool {w : World} {t : TypeId} (hu : P.underlying t = some .bool) (a b : Bool) : (Op.equal t (.bool a) (.bool b)).run P w = .ok (a == b) w :=
  run_equalIn_bool hu a b 9999

theorem binF_sound {x : Ctx} {w : World} {op : BinOp} {t : TypeId} {p q : Operand} {u v : Value} {s r s' : SV} {vc : Prop} (hs : SRep x.J x.β u s) (hr : SRep x.J x.β v r)
    (h : binF P op t s r = some (vc, s')) (hvc : vc) : ∃ z, (do eqGuard op t p q u v; binOp op t u v : Sem Value).run P w = .ok z w ∧ SRep x.J x.β z s' := by
  unfold binF at h
  split at h
  · rename_i k a k' b
    split at h
    · rename_i hk
      have h1 := d_inv hs
      have h2 := d_inv hr
      cases h1 with
      | int ha =>
        cases h2 with
        | int hb =>
          have hg := eqGuard_plain (P := P) w op t p q (.int k a) (.int k' b) (by simp) (by simp)
          simp only [Sem.run_bind, hg, Result.andThen_ok]
          exact binInt_sound ha hk h hvc
    · cases h
  · rename_i a b
    have h1 := d_inv hs
    have h2 := d_inv hr
    cases h1; cases h2
    have hg := eqGuard_plain (P := P) w op t p q (.bool a) (.bool b) (by simp) (by simp)
    simp only [Sem.run_bind, hg, Result.andThen_ok]
    split at h
    · rename_i hk
      have hu := tk_bool hk
      simp only [Option.some.injEq, Prod.mk.injEq] at h
      obtain ⟨rfl, rfl⟩ := h
      refine ⟨_, ?_, .d .bool⟩
      simp only [binOp, Sem.run_bind, run_equal_bool hu, Result.andThen_ok, Sem.run_pure]
    · rename_i hk
      have hu := tk_bool hk
      simp only [Option.some.injEq, Prod.mk.injEq] at h
      obtain ⟨rfl, rfl⟩ := h
      refine ⟨_, ?_, .d .bool⟩
      simp only [binOp, Sem.run_bind, run_equal_bool hu, Result.andThen_ok, Sem.run_pure]
    · cases h
  · rename_i a b
    have h1 := d_inv hs
    have h2 := d_inv hr
    cases h1 with
    | str hl =>
      cases h2 with
      | str hl' =>
        have hg := eqGuard_plain (P := P) w op t p q (.string ⟨a.toArray⟩) (.string ⟨b.toArray⟩) (by simp) (by simp)
        simp only [Sem.run_bind, hg, Result.andThen_ok]
        have ea : (⟨a.toArray⟩ : ByteArray).toList = a := by rw [ByteArray.toList_eq]
        have eb : (⟨b.toArray⟩ : ByteArray).toList = b := by rw [ByteArray.toList_eq]
        cases op <;> simp only [Option.some.injEq, Prod.mk.injEq, reduceCtorEq] at h <;> obtain ⟨rfl, rfl⟩ := h
        case add =>
          have hlen : ¬ (((⟨a.toArray⟩ : ByteArray).size + (⟨b.toArray⟩ : ByteArray).size : Nat) : Int) > IntKind.i64.max := by
            simp only [ByteArray.size, List.size_toArray, IntKind.max, IntKind.signed, IntKind.bits]
            simp only [maxLen] at hvc
            simp; omega
          refine ⟨.string ⟨(a ++ b).toArray⟩, ?_, .d (.str (by simpa using hvc))⟩
          simp only [binOp, Op.stringOp, hlen, if_false]
          simp only [Sem.run_pure, Result.ok.injEq, Value.string.injEq, and_true]
          apply ByteArray.ext
          simp
        all_goals
          refine ⟨_, ?_, .d .bool⟩
          simp only [binOp, Op.stringOp, ea, eb, Sem.run_pure, Result.ok.injEq, and_true, Value.bool.injEq]
        all_goals (rw [Bool.eq_iff_iff]; simp)
  · cases h

theorem unF_sound {x : Ctx} {w : World} {op : UnOp} {u : Value} {s s' : SV} {vc : Prop} (hs : SRep x.J x.β u s)
    (h : unF op s = some (vc, s')) : ∃ z, (Op.unary op u).run P w = .ok z w ∧ SRep x.J x.β z s' := by
  unfold unF at h
  split at h
  · have h1 := d_inv hs
    cases h1
    simp only [Option.some.injEq, Prod.mk.injEq] at h
    obtain ⟨rfl, rfl⟩ := h
    exact ⟨_, by simp [Op.unary], .d .bool⟩
  · have h1 := d_inv hs
    cases h1
    simp only [Option.some.injEq, Prod.mk.injEq] at h
    obtain ⟨rfl, rfl⟩ := h
    refine ⟨_, ?_, .d (.int (inK_wrap _ _))⟩
    simp [Op.unary, Op.intArith]
  · have h1 := d_inv hs
    cases h1
    simp only [Option.some.injEq, Prod.mk.injEq] at h
    obtain ⟨rfl, rfl⟩ := h
    refine ⟨_, ?_, .d (.int (inK_wrap _ _))⟩
    simp [Op.unary, Op.intBits, bitF]
  · cases h

end Go.Bf
