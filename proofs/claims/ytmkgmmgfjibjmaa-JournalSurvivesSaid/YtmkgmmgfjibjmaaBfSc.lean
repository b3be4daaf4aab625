/-
  Scopes through which the run goes without a jump, and labels. Nothing is claimed here.
-/
import Derived.Test.YtmkgmmgfjibjmaaFwC
namespace Go.Bf
open Go Go.RowKit Go.IntWalk
/-- No way out is a jump. -/
def NoGo (Q : Exit → Act → World → Prop) : Exit → Act → World → Prop
  | .goto _, _, _ => False
  | e, a, w => Q e a w
section
variable {P : Program} {b : Frame} {a : Act} {k : List Item} {cs : List Frame} {w : World}
theorem stepR_scope' {c : Code} : step P (lone (b.atR a (.code (.scope c) :: k)) cs w) = .next (lone (b.atR a (.code c :: .inScope c :: k)) cs w) :=
  step_lone_go (by simp [stepG, stepG.exec, Frame.atR])
theorem stepR_inScope' {c : Code} : step P (lone (b.atR a (.inScope c :: k)) cs w) = .next (lone (b.atR a k) cs w) :=
  step_lone_go (by simp [stepG, stepG.exec, Frame.atR])
theorem wpIn_scope {F : Fence} {n : Nat} {Q : Exit → Act → World → Prop} {c : Code} (h : c.wpIn F n P (NoGo Q) a w) : (Code.scope c).wpIn F n P Q a w := by
  intro b k cs hro hb hr
  have h0 : (lone (b.atR a (.code (.scope c) :: k)) cs w).fenced P F := fenced_calm hb hr rfl
  obtain ⟨e, a₁, w₁, hq, harr⟩ := h b (.inScope c :: k) cs hro hb hr
  cases e with
  | normal => exact ⟨.normal, a₁, w₁, hq, .head h0 stepR_scope' (StepsIn.trans harr (.one (fenced_calm hb hr rfl) stepR_inScope'))⟩
  | exit id =>
    have hx : exitTo id (.inScope c :: k) = exitTo id k := by simp [exitTo]
    exact ⟨.exit id, a₁, w₁, hq, fun k' hk => .head h0 stepR_scope' (harr.1 k' (by rw [hx]; exact hk)),
      fun hr' hk => let ⟨k₁, h1, h2⟩ := harr.2 hr' (by rw [hx]; exact hk); ⟨k₁, h1, .head h0 stepR_scope' h2⟩⟩
  | goto l => exact hq.elim
  | ret => exact ⟨_, a₁, w₁, hq, .of_steps (.one h0 stepR_scope') harr⟩
  | panic ch => exact ⟨_, a₁, w₁, hq, .of_steps (.one h0 stepR_scope') harr⟩
  | outgrown => exact ⟨_, a₁, w₁, hq, .of_steps (.one h0 stepR_scope') harr⟩
end
variable {P : Program} {r : Option Nat}
theorem DWp.scope {c : Code} {Q : XE → Know → Prop} {K : Know} (h : DWp P r c Q K) : DWp P r (.scope c) Q K := fun x a w hm => by
  refine wpIn_scope (wpIn_mono (h x a w hm) ?_)
  rintro e a' w' ⟨y, K', xe, h1, h2, h3, h4⟩
  cases e with
  | goto l => cases xe <;> exact h2.elim
  | normal => exact ⟨y, K', xe, h1, h2, h3, h4⟩
  | exit i => exact ⟨y, K', xe, h1, h2, h3, h4⟩
  | ret => exact ⟨y, K', xe, h1, h2, h3, h4⟩
  | panic ch => exact ⟨y, K', xe, h1, h2, h3, h4⟩
  | outgrown => exact ⟨y, K', xe, h1, h2, h3, h4⟩
theorem DWp.label {l : Nat} {Q : XE → Know → Prop} {K : Know} (h : Q .normal K) : DWp P r (.label l) Q K := fun x _ _ hm => wpIn_label ⟨x, K, .normal, Ctx.ext_refl _, trivial, hm, h⟩
theorem DWp.labelK {l : Nat} {d : Code} {Q : XE → Know → Prop} {K : Know} (h : DWp P r d Q K) : DWp P r (.seq (.label l) d) Q K := DWp.seqK fun _ hk => DWp.label (hk _ h)
end Go.Bf
