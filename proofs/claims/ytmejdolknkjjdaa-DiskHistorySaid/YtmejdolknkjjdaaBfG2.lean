/-
  Further rules for walks. Nothing is claimed here.
-/
import Derived.Test.YtmejdolknkjjdaaBfIt2
import Derived.Test.YtmejdolknkjjdaaBfTy
namespace Go.Bf
open Go Go.RowKit
variable {P : Program} {r : Option Nat}
/-- A test has come out so. -/
def Tt (b : Bool) : Prop := b = true
def Ff (b : Bool) : Prop := b = false
@[simp] theorem Tt_true : Tt true = True := by simp [Tt]
@[simp] theorem Tt_false : Tt false = False := by simp [Tt]
@[simp] theorem Ff_true : Ff true = False := by simp [Ff]
@[simp] theorem Ff_false : Ff false = True := by simp [Ff]
def CondB (P : Program) (r : Option Nat) (c : Operand) (t e : Code) (Q : XE → Know → Prop) (K : Know) : Prop :=
  match rdK K true c with
  | some (p, .d (.bool b)) => p ∧ (Tt b → DWp P r t Q K) ∧ (Ff b → DWp P r e Q K)
  | _ => False
theorem DWp.condB {c : Operand} {t e : Code} {Q : XE → Know → Prop} {K : Know} (h : CondB P r c t e Q K) : DWp P r (.cond c t e) Q K := DWp.cond h
attribute [simp] CondB
/-! ### Rows that may not be there -/
@[simp] theorem loadRow_B {l : List UInt8} {i : Nat} : loadRow (.int .u8) ((Option.map rowB l[i]?).getD []) = some (i < l.length, .d (cB (l.getD i 0))) := by
  by_cases h : i < l.length
  · simp [h, rowB, cB, List.getD_eq_getElem?_getD]
  · simp [h, dflt, cB]
@[simp] theorem loadCell_B {l : List UInt8} {i : Nat} : loadCell (.int .u8) (Option.map (SV.d ∘ cB) l[i]?) = some (i < l.length, .d (cB (l.getD i 0))) := by
  by_cases h : i < l.length
  · simp [h, cB, List.getD_eq_getElem?_getD]
  · simp [h, dflt, cB]
@[simp] theorem renL_mapc {α : Type} (ρ : Nat → Nat) (f : α → DV) (l : List α) : renL ρ (l.map (SV.d ∘ f)) = l.map (SV.d ∘ f) := renL_mapd ρ f l
@[simp] theorem frzL_mapc {α : Type} (b : Nat) (ds : List DV) (f : α → DV) (l : List α) : frzL b ds (l.map (SV.d ∘ f)) = l.map (SV.d ∘ f) := frzL_mapd b ds f l
@[simp] theorem allD_mapc {α : Type} (f : α → DV) (l : List α) : allD (l.map (SV.d ∘ f)) = some (l.map f) := allD_map f l
@[simp] theorem rowB_len1 {l : List UInt8} {i : Nat} : ((Option.map rowB l[i]?).getD []).length = 1 ↔ i < l.length := by
  by_cases h : i < l.length
  · simp [h, rowB]
  · simp [h]
end Go.Bf
