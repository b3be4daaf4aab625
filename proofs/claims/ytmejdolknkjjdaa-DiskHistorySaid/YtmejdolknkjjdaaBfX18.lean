/-
  The disk's types, as data. Printed by program (x18.py). Nothing is claimed here.
-/
import Derived.Test.YtmejdolknkjjdaaBfBr3
import Derived.Test.YtmejdolknkjjdaaBfX17
namespace Go.Bf
open Go Go.RowKit Go.Proofs
theorem by5 : Try.prog.bytesOf 5 = 1 := by kernel_rfl
theorem by35 : Try.prog.bytesOf 35 = 24 := by kernel_rfl
theorem by54 : Try.prog.bytesOf 54 = 32 := by kernel_rfl
theorem tyB {m : Nat} {r : List DV} (h : Ty Try.prog m 35 r) : ∃ b : List UInt8, b.length ≤ 140737488355328 ∧ r = rowL b := by
  obtain ⟨l, h1, _, rfl⟩ := ty_list (B := fun _ => True) (E := rowB) Try.underlying35 h (fun m x hx => by obtain ⟨c, rfl⟩ := ty_u8 Try.underlying5 hx; exact ⟨c, trivial, rfl⟩)
  rw [by5] at h1
  exact ⟨l, by have := reach_le; omega, rfl⟩
theorem tyD {m : Nat} {r : List DV} (h : Ty Try.prog m 25 r) : ∃ d : Dk, d.fits ∧ r = [encSs d.ss, encPs d.ps, .int .i64 d.left, .bool d.st] := by
  obtain ⟨m, a, r1, h1, ⟨b, r2, h2, ⟨c, r3, h3, ⟨e, r4, h4, rfl, rfl⟩, rfl⟩, rfl⟩, rfl⟩ := ty_struct Try.underlying25 h
  obtain ⟨ss, g1, _, rfl⟩ := ty_list (B := fun _ => True) (E := rowL) Try.underlying22 h1 (fun m x hx => by obtain ⟨c, _, rfl⟩ := tyB hx; exact ⟨c, trivial, rfl⟩)
  obtain ⟨ps, g2, _, rfl⟩ := ty_list (B := fun _ => True) (E := rowW) Try.underlying23 h2 (fun m x hx => by
    obtain ⟨m, a, r1, h1, ⟨b, r2, h2, rfl, rfl⟩, rfl⟩ := ty_struct Try.underlying54 hx
    obtain ⟨n, _, rfl⟩ := ty_int Try.underlying3 h1
    obtain ⟨l, _, rfl⟩ := tyB h2
    exact ⟨(n, l), trivial, rfl⟩)
  obtain ⟨left, _, rfl⟩ := ty_int Try.underlying3 h3
  obtain ⟨st, rfl⟩ := ty_bool Try.underlying4 h4
  rw [by35] at g1
  rw [by54] at g2
  have := reach_le
  exact ⟨⟨ss, ps, left, st⟩, ⟨by simp only; omega, by simp only; omega⟩, rfl⟩
theorem argB (r : List UInt8) : argOf Try.prog 35 (rowL r) = encB r := by unfold argOf; rw [Try.underlying35]; rfl
theorem argD (d : Dk) : argOf Try.prog 25 [encSs d.ss, encPs d.ps, .int .i64 d.left, .bool d.st] = encD d := by unfold argOf; rw [Try.underlying25]; rfl
theorem argI (n : Int) : argOf Try.prog 3 [.int .i64 n] = .int .i64 n := by unfold argOf; rw [Try.underlying3]
end Go.Bf
