/-
  The types that the laws on views take, as data. Printed by program (t51.py). Nothing is claimed here.
-/
import Derived.Test.YtlnjeijklnoogaaBfV8a
namespace Go.Bf
open Go Go.RowKit Go.Proofs
theorem by3 : Try.prog.bytesOf 3 = 8 := by kernel_rfl
theorem by24 : Try.prog.bytesOf 24 = 24 := by kernel_rfl
theorem by45 : Try.prog.bytesOf 45 = 48 := by kernel_rfl
theorem by40 : Try.prog.bytesOf 40 = 168 := by kernel_rfl
theorem reachN : reachBytes = 140737488351232 := by decide
theorem tyIL {m : Nat} {r : List DV} (h : Ty Try.prog m 24 r) : ∃ l : List Int, l.length * 8 ≤ 140737488355328 ∧ r = [encI l] := by
  obtain ⟨l, h1, _, rfl⟩ := ty_list (B := fun _ => True) (E := rowI) Try.underlying24 h (fun m x hx => by obtain ⟨n, _, rfl⟩ := ty_int Try.underlying3 hx; exact ⟨n, trivial, rfl⟩)
  rw [by3] at h1
  exact ⟨l, by have := reachN; omega, rfl⟩
theorem tyII {m : Nat} {r : List DV} (h : Ty Try.prog m 43 r) : ∃ l : List (List Int), (l.length ≤ 140737488355328 ∧ ∀ x ∈ l, x.length * 8 ≤ 140737488355328) ∧ r = [encII l] := by
  obtain ⟨l, h1, h2, rfl⟩ := ty_list (B := fun x : List Int => x.length * 8 ≤ 140737488355328) (E := rowII) Try.underlying43 h (fun m x hx => by obtain ⟨l, hl, rfl⟩ := tyIL hx; exact ⟨l, hl, rfl⟩)
  rw [by24] at h1
  exact ⟨l, ⟨by have := reachN; omega, h2⟩, rfl⟩
theorem tyRL {m : Nat} {r : List DV} (h : Ty Try.prog m 45 r) : ∃ l : Rl, fitRs l ∧ r = rowRel l := by
  obtain ⟨m, a, r1, h1, ⟨b, r2, h2, rfl, rfl⟩, rfl⟩ := ty_struct Try.underlying45 h
  obtain ⟨l, g1, rfl⟩ := tyIL h1
  obtain ⟨k, g2, rfl⟩ := tyII h2
  exact ⟨(l, k), ⟨by simp only; omega, by simp only; omega, fun x hx => by have := g2.2 x hx; omega⟩, rfl⟩
theorem tyRS {m : Nat} {r : List DV} (h : Ty Try.prog m 23 r) : ∃ l : List Rl, (l.length ≤ 4611686018427387903 ∧ ∀ x ∈ l, fitRs x) ∧ r = [encRels l] := by
  obtain ⟨l, h1, h2, rfl⟩ := ty_list (B := fitRs) (E := rowRel) Try.underlying23 h (fun m x hx => tyRL hx)
  rw [by45] at h1
  exact ⟨l, ⟨by have := reachN; omega, h2⟩, rfl⟩
theorem tyBs {T : List DV → Prop} (hT : ∀ r, T r → ∃ c : UInt8, r = [cB c]) : ∀ (n : Nat) {r : List DV}, TyA T n r → ∃ s : List UInt8, s.length = n ∧ r = s.map cB
  | 0, r, h => ⟨[], rfl, h⟩
  | n + 1, r, h => by
    obtain ⟨a, b, h1, h2, rfl⟩ := h
    obtain ⟨c, rfl⟩ := hT _ h1
    obtain ⟨s, hs, rfl⟩ := tyBs hT n h2
    exact ⟨c :: s, by simp [hs], rfl⟩
theorem tyMG {m : Nat} {r : List DV} (h : Ty Try.prog m 40 r) : ∃ x : Msg, fitM x ∧ r = rowMsg x := by
  obtain ⟨m, a1, r1, h1, ⟨a2, r2, h2, ⟨a3, r3, h3, ⟨a4, r4, h4, ⟨a5, r5, h5, ⟨a6, r6, h6, ⟨a7, r7, h7, ⟨a8, r8, h8, ⟨a9, r9, h9, ⟨a10, r10, h10, ⟨a11, r11, h11, ⟨a12, r12, h12, rfl, rfl⟩, rfl⟩, rfl⟩, rfl⟩, rfl⟩, rfl⟩, rfl⟩, rfl⟩, rfl⟩, rfl⟩, rfl⟩, rfl⟩ := ty_struct Try.underlying40 h
  obtain ⟨n1, _, rfl⟩ := ty_int Try.underlying3 h1
  obtain ⟨n2, _, rfl⟩ := ty_int Try.underlying3 h2
  obtain ⟨n3, _, rfl⟩ := ty_int Try.underlying3 h3
  obtain ⟨n4, _, rfl⟩ := ty_int Try.underlying3 h4
  obtain ⟨n5, _, rfl⟩ := ty_int Try.underlying3 h5
  obtain ⟨n6, _, rfl⟩ := ty_int Try.underlying3 h6
  obtain ⟨n7, _, rfl⟩ := ty_int Try.underlying3 h7
  obtain ⟨n8, _, rfl⟩ := ty_int Try.underlying3 h8
  obtain ⟨l9, g9, rfl⟩ := tyIL h9
  obtain ⟨l10, g10, rfl⟩ := tyIL h10
  obtain ⟨l11, g11, rfl⟩ := tyRS h11
  obtain ⟨m', h12⟩ := ty_array Try.underlying38 h12
  obtain ⟨s, hs, rfl⟩ := tyBs (fun r hr => by obtain ⟨c, rfl⟩ := ty_u8 Try.underlying5 hr; exact ⟨c, rfl⟩) 32 h12
  exact ⟨⟨n1, n2, n3, n4, n5, n6, n7, n8, l9, l10, l11, ⟨s, hs⟩⟩, ⟨by simp only; omega, by simp only; omega, g11⟩, by simp [rowMsg]⟩
theorem tyMS {m : Nat} {r : List DV} (h : Ty Try.prog m 22 r) : ∃ l : List Msg, (l.length ≤ 4611686018427387903 ∧ ∀ x ∈ l, fitM x) ∧ r = [encMsgs l] := by
  obtain ⟨l, h1, h2, rfl⟩ := ty_list (B := fitM) (E := rowMsg) Try.underlying22 h (fun m x hx => tyMG hx)
  rw [by40] at h1
  exact ⟨l, ⟨by have := reachN; omega, h2⟩, rfl⟩
theorem tyU {m : Nat} {r : List DV} (h : Ty Try.prog m 36 r) : ∃ n : Int, (0 ≤ n ∧ n ≤ 18446744073709551615) ∧ r = [.int .u64 n] := by
  obtain ⟨n, hn, rfl⟩ := ty_int Try.underlying36 h
  exact ⟨n, hn, rfl⟩
theorem argI (n : Int) : argOf Try.prog 3 [.int .i64 n] = .int .i64 n := by unfold argOf; rw [Try.underlying3]
theorem argU (n : Int) : argOf Try.prog 36 [.int .u64 n] = .int .u64 n := by unfold argOf; rw [Try.underlying36]
theorem argU8 (c : UInt8) : argOf Try.prog 5 (rowB c) = cB c := by unfold argOf; rw [Try.underlying5]; rfl
theorem argIL (l : List Int) : argOf Try.prog 24 [encI l] = encI l := by unfold argOf; rw [Try.underlying24]
theorem argRS (l : List Rl) : argOf Try.prog 23 [encRels l] = encRels l := by unfold argOf; rw [Try.underlying23]
theorem argMS (l : List Msg) : argOf Try.prog 22 [encMsgs l] = encMsgs l := by unfold argOf; rw [Try.underlying22]
theorem argMG (x : Msg) : argOf Try.prog 40 (rowMsg x) = encMsg x := by unfold argOf; rw [Try.underlying40]; rfl
end Go.Bf
