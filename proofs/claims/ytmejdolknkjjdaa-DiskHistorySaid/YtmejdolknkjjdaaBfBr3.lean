/-
  Rows of a type, as data. Nothing is claimed here.
-/
import Derived.Test.YtmejdolknkjjdaaBfBr2
import Derived.Test.YtmejdolknkjjdaaBfTy
namespace Go.Bf
open Go Go.RowKit
variable {P : Program}
theorem ty_int {m : Nat} {t : TypeId} {k : IntKind} {r : List DV} (hu : P.underlying t = some (.int k)) (h : Ty P m t r) : ∃ n, InK k n ∧ r = [.int k n] := by
  cases m with
  | zero => exact h.elim
  | succ m => unfold Ty at h; rw [hu] at h; exact h
theorem ty_bool {m : Nat} {t : TypeId} {r : List DV} (hu : P.underlying t = some .bool) (h : Ty P m t r) : ∃ b, r = [.bool b] := by
  cases m with
  | zero => exact h.elim
  | succ m => unfold Ty at h; rw [hu] at h; exact h
theorem ty_str {m : Nat} {t : TypeId} {r : List DV} (hu : P.underlying t = some .string) (h : Ty P m t r) : ∃ s : List UInt8, s.length ≤ reachBytes ∧ r = [.str s] := by
  cases m with
  | zero => exact h.elim
  | succ m => unfold Ty at h; rw [hu] at h; exact h
theorem ty_u8 {m : Nat} {t : TypeId} {r : List DV} (hu : P.underlying t = some (.int .u8)) (h : Ty P m t r) : ∃ c : UInt8, r = rowB c := by
  obtain ⟨n, hn, rfl⟩ := ty_int hu h
  rw [inK_u8] at hn
  refine ⟨UInt8.ofNat n.toNat, ?_⟩
  have : (UInt8.ofNat n.toNat).toNat = n.toNat := by simp; omega
  simp only [rowB, cB, this]
  rw [Int.toNat_of_nonneg hn.1]
theorem exists_map {α : Type} {T : List DV → Prop} {B : α → Prop} {E : α → List DV} (hE : ∀ x, T x → ∃ a, B a ∧ x = E a) : ∀ (xs : List (List DV)), (∀ x ∈ xs, T x) → ∃ l : List α, (∀ a ∈ l, B a) ∧ xs = l.map E
  | [], _ => ⟨[], by simp, rfl⟩
  | x :: xs, h => by
    obtain ⟨a, ha, rfl⟩ := hE x (h x (by simp))
    obtain ⟨l, hl, rfl⟩ := exists_map hE xs (fun y hy => h y (by simp [hy]))
    exact ⟨a :: l, by simpa using ⟨ha, hl⟩, rfl⟩
theorem ty_list {α : Type} {B : α → Prop} {E : α → List DV} {t e : TypeId} {m : Nat} {r : List DV} (hu : P.underlying t = some (.slice e)) (h : Ty P m t r) (hE : ∀ m x, Ty P m e x → ∃ a, B a ∧ x = E a) :
    ∃ l : List α, l.length * P.bytesOf e ≤ reachBytes ∧ (∀ a ∈ l, B a) ∧ r = [.list (l.map E)] := by
  cases m with
  | zero => exact h.elim
  | succ m =>
    unfold Ty at h; rw [hu] at h
    obtain ⟨xs, h1, h2, rfl⟩ := h
    obtain ⟨l, h3, rfl⟩ := exists_map (hE m) xs h2
    exact ⟨l, by simpa using h1, h3, rfl⟩
theorem ty_struct {t : TypeId} {m : Nat} {r : List DV} {fs : Array Field} (hu : P.underlying t = some (.struct fs)) (h : Ty P m t r) : ∃ m', TyF (Ty P m') fs.toList r := by
  cases m with
  | zero => exact h.elim
  | succ m => unfold Ty at h; rw [hu] at h; exact ⟨m, h⟩
theorem ty_array {t e : TypeId} {m n : Nat} {r : List DV} (hu : P.underlying t = some (.array n e)) (h : Ty P m t r) : ∃ m', TyA (Ty P m' e) n r := by
  cases m with
  | zero => exact h.elim
  | succ m => unfold Ty at h; rw [hu] at h; exact ⟨m, h⟩
theorem tyL_cons {m : Nat} {t : TypeId} {ts : List TypeId} {rs : List (List DV)} (h : TyL P m (t :: ts) rs) : ∃ r rs', rs = r :: rs' ∧ Ty P m t r ∧ TyL P m ts rs' := by
  cases rs with
  | nil => exact h.elim
  | cons r rs => exact ⟨r, rs, rfl, h.1, h.2⟩
theorem tyL_nil {m : Nat} {rs : List (List DV)} (h : TyL P m [] rs) : rs = [] := by
  cases rs with
  | nil => rfl
  | cons r rs => exact h.elim
theorem reach_le : reachBytes ≤ 140737488355328 := by decide
end Go.Bf
