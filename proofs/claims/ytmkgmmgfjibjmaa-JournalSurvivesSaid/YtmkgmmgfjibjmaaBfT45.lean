/-
  The types that the journal's laws take, as data. Printed by program (t45.py). Nothing is claimed here.
-/
import Derived.Test.YtmkgmmgfjibjmaaBfJ9
namespace Go.Bf
open Go Go.RowKit Go.Proofs
theorem by5 : Try.prog.bytesOf 5 = 1 := by kernel_rfl
theorem by35 : Try.prog.bytesOf 35 = 24 := by kernel_rfl
theorem by76 : Try.prog.bytesOf 76 = 32 := by kernel_rfl
theorem reachN : reachBytes = 140737488351232 := by decide
theorem tyB {m : Nat} {r : List DV} (h : Ty Try.prog m 35 r) : ∃ b : List UInt8, b.length ≤ 140737488355328 ∧ r = rowL b := by
  obtain ⟨l, h1, _, rfl⟩ := ty_list (B := fun _ => True) (E := rowB) Try.underlying35 h (fun m x hx => by obtain ⟨c, rfl⟩ := ty_u8 Try.underlying5 hx; exact ⟨c, trivial, rfl⟩)
  rw [by5] at h1
  exact ⟨l, by have := reachN; omega, rfl⟩
theorem tySS {m : Nat} {r : List DV} (h : Ty Try.prog m 22 r) : ∃ l : List (List UInt8), FitL l ∧ r = [encSs l] := by
  obtain ⟨l, h1, h2, rfl⟩ := ty_list (B := fun b => b.length ≤ 140737488355328) (E := rowL) Try.underlying22 h (fun m x hx => by obtain ⟨b, hb, rfl⟩ := tyB hx; exact ⟨b, hb, rfl⟩)
  rw [by35] at h1
  exact ⟨l, ⟨by have := reachN; omega, h2⟩, rfl⟩
theorem tyJ {m : Nat} {r : List DV} (h : Ty Try.prog m 29 r) : ∃ j : Jn, FitL j.recs ∧ r = [.int .i64 j.many, .int .i64 j.synced, encSs j.recs] := by
  obtain ⟨m, a, r1, h1, ⟨b, r2, h2, ⟨c, r3, h3, rfl, rfl⟩, rfl⟩, rfl⟩ := ty_struct Try.underlying29 h
  obtain ⟨n, _, rfl⟩ := ty_int Try.underlying3 h1
  obtain ⟨k, _, rfl⟩ := ty_int Try.underlying3 h2
  obtain ⟨l, hl, rfl⟩ := tySS h3
  exact ⟨⟨n, k, l⟩, hl, rfl⟩
theorem tyD {m : Nat} {r : List DV} (h : Ty Try.prog m 25 r) : ∃ d : Dk, d.fits ∧ r = [encSs d.ss, encPs d.ps, .int .i64 d.left, .bool d.st] := by
  obtain ⟨m, a, r1, h1, ⟨b, r2, h2, ⟨c, r3, h3, ⟨e, r4, h4, rfl, rfl⟩, rfl⟩, rfl⟩, rfl⟩ := ty_struct Try.underlying25 h
  obtain ⟨ss, g1, rfl⟩ := tySS h1
  obtain ⟨ps, g2, _, rfl⟩ := ty_list (B := fun _ => True) (E := rowW) Try.underlying23 h2 (fun m x hx => by
    obtain ⟨m, a, r1, h1, ⟨b, r2, h2, rfl, rfl⟩, rfl⟩ := ty_struct Try.underlying76 hx
    obtain ⟨n, _, rfl⟩ := ty_int Try.underlying3 h1
    obtain ⟨l, _, rfl⟩ := tyB h2
    exact ⟨(n, l), trivial, rfl⟩)
  obtain ⟨left, _, rfl⟩ := ty_int Try.underlying3 h3
  obtain ⟨st, rfl⟩ := ty_bool Try.underlying4 h4
  rw [by76] at g2
  have := reachN
  exact ⟨⟨ss, ps, left, st⟩, ⟨by have := g1.1; simp only; omega, by simp only; omega⟩, rfl⟩
theorem argB (r : List UInt8) : argOf Try.prog 35 (rowL r) = encB r := by unfold argOf; rw [Try.underlying35]; rfl
theorem argSS (r : List (List UInt8)) : argOf Try.prog 22 [encSs r] = encSs r := by unfold argOf; rw [Try.underlying22]
theorem argJ (j : Jn) : argOf Try.prog 29 [.int .i64 j.many, .int .i64 j.synced, encSs j.recs] = encJ j := by unfold argOf; rw [Try.underlying29]; rfl
theorem argD (d : Dk) : argOf Try.prog 25 [encSs d.ss, encPs d.ps, .int .i64 d.left, .bool d.st] = encD d := by unfold argOf; rw [Try.underlying25]; rfl
theorem argI (n : Int) : argOf Try.prog 3 [.int .i64 n] = .int .i64 n := by unfold argOf; rw [Try.underlying3]
theorem argU (c : UInt8) : argOf Try.prog 5 (rowB c) = cB c := by unfold argOf; rw [Try.underlying5]; rfl
end Go.Bf
