/-
  The law DiskTogether returns true for every input, and each argument reads as it did: syncing after each write and syncing after the last one lead to the same disk. Conditions: none beyond the given statement's.
-/
import Derived.Test.YtmejdolknkjjdaaRows
import Derived.Test.YtmejdolknkjjdaaBfX22
import Derived.Test.YtmejdolknkjjdaaBfX18
namespace Go.Proofs.Ytmejdolknkjjdaa
open Go.ChangeShapes Go.WideShapes Go.ChangeAt Go.RowKit Go.Bf

theorem Try.own : ownKnob Try.prog.godebug = none := by kernel_rfl
theorem Try.laidOut : laidOutB Try.prog = true := by kernel_rfl
theorem tyA {m : Nat} {r : List DV} (h : Ty Try.prog m 43 r) : ∃ s : List Ac, s.length ≤ 140737488355328 ∧ r = [encAs s] := by
  obtain ⟨l, h1, _, rfl⟩ := ty_list (B := fun _ => True) (E := rowA) Try.underlying43 h (fun m x hx => by
    obtain ⟨m, a, r1, h1, ⟨b, r2, h2, ⟨c, r3, h3, rfl, rfl⟩, rfl⟩, rfl⟩ := ty_struct Try.underlying46 hx
    obtain ⟨b, rfl⟩ := ty_bool Try.underlying4 h1
    obtain ⟨c, rfl⟩ := ty_u8 Try.underlying5 h2
    obtain ⟨d, rfl⟩ := ty_u8 Try.underlying5 h3
    exact ⟨(b, c, d), trivial, rfl⟩)
  have hb : Try.prog.bytesOf 46 = 3 := by kernel_rfl
  rw [hb] at h1
  exact ⟨l, by have := reach_le; omega, rfl⟩
theorem argA (s : List Ac) : argOf Try.prog 43 [encAs s] = encAs s := by unfold argOf; rw [Try.underlying43]
theorem argU (c : UInt8) : argOf Try.prog 5 (rowB c) = cB c := by unfold argOf; rw [Try.underlying5]; rfl
theorem diskTogether_data (rs : List (List DV)) (h : TyL Try.prog 8 Try.f8.params.toList rs) : FnWp Try.prog 8 (argsOf Try.prog Try.f8.params.toList rs) (· = .ret (.bool true)) := by
  rw [Try.params8] at h ⊢
  obtain ⟨r0, rs, rfl, h0, h⟩ := tyL_cons h
  obtain ⟨r1, rs, rfl, h1, h⟩ := tyL_cons h
  obtain rfl := tyL_nil h
  obtain ⟨d, hd, rfl⟩ := tyD h0
  obtain ⟨s, hs, rfl⟩ := tyA h1
  simp only [argsOf, argA, argD]
  exact law_DiskTogether d hd s hs

set_option maxRecDepth 100000 in
theorem diskTogether_lifted (os : Os) (started : os.Started) (H : Type) (enc : TypeId × Value → H) :
    ReturnsInHanded {} Try.checked os 8 .any (Rows.diskTogetherSpec.pre6 enc Try.prog Try.f8 Rows.diskTogetherRow.domain false) (Rows.diskTogetherSpec.post enc Try.prog Try.f8 false true false false) := by
  refine returnsInHanded_of_change_sized (C := Try.checked) Try.own started (by kernel_rfl) Try.func8
    (ChangeSpec.witness6 (enc := enc) (C := Try.checked) false ⟨#[], #[.agg #[.slice none 0 0, .slice none 0 0, .int .i64 0, .bool false], .slice none 0 0], []⟩ 8 (by kernel_rfl) (by kernel_rfl) (by kernel_rfl) (by kernel_rfl)) ?_
  intro W base args ds gs before hval hW _ hsz _
  refine law_post (P := Try.prog) (fn := Try.f8) (s := Rows.diskTogetherSpec) (m := 8) (tb := 4) Try.laidOut (fun t ht => ?_) (fun t ht => ?_) rfl rfl Try.underlying4 (fun ds hds => ?_) diskTogether_data hval hW hsz
  · rw [Try.params8] at ht
    have hall : ([25, 43] : List TypeId).all (fun t => Try.prog.readableRec t && decide (t < Try.prog.types.size)) = true := by kernel_rfl
    simpa using List.all_eq_true.1 hall t ht
  · rw [Try.params8] at ht
    have hall : ([25, 43] : List TypeId).all (supp Try.prog 8) = true := by kernel_rfl
    exact List.all_eq_true.1 hall t ht
  · rw [Try.params8] at hds
    match ds, hds with
    | [d0, d1], _ => rfl

theorem diskTogether_holds : Rows.DiskTogetherSaid :=
  OpenClaim.holds_of_wide 8 Try.f8 rfl rfl rfl rfl rfl rfl rfl ⟨rfl, rfl, rfl, rfl, rfl⟩ rfl rfl rfl rfl rfl (by kernel_rfl) Try.func8 (by kernel_rfl)
    (of_decide_eq_true (by kernel_rfl)) (by unfold Func.isWrapper; rw [if_neg (by decide +kernel)]; exact ⟨rfl, rfl⟩)
    (fun os started H enc _ => diskTogether_lifted os started H enc)

end Go.Proofs.Ytmejdolknkjjdaa
