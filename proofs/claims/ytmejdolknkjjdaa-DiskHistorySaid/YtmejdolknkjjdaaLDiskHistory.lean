/-
  The law DiskHistory returns true for every input, and each argument reads as it did: what is read after any writes, syncs and a crash in the middle of a sector. Conditions: none beyond the given statement's.
-/
import Derived.Test.YtmejdolknkjjdaaRows
import Derived.Test.YtmejdolknkjjdaaBfX23
import Derived.Test.YtmejdolknkjjdaaBfX18
namespace Go.Proofs.Ytmejdolknkjjdaa
open Go.ChangeShapes Go.WideShapes Go.ChangeAt Go.RowKit Go.Bf

theorem Try.own : ownKnob Try.prog.godebug = none := by kernel_rfl
theorem Try.laidOut : laidOutB Try.prog = true := by kernel_rfl
theorem tyA {m : Nat} {r : List DV} (h : Ty Try.prog m 43 r) : ∃ s : List Ac, s.length ≤ 140737488355328 ∧ r = [encAs s] := by
  obtain ⟨l, h1, _, rfl⟩ := ty_list (B := fun _ => True) (E := rowA) Try.underlying43 h (fun m x hx => by
    obtain ⟨m, a, r1, h1, ⟨b, r2, h2, ⟨c, r3, h3, rfl, rfl⟩, rfl⟩, rfl⟩ := ty_struct Try.underlying46 hx
    obtain ⟨b, rfl⟩ := ty_bool Try.underlying4 h1
    obtain ⟨c, rfl⟩ := ty_u8 Try.underlying5 h2
    obtain ⟨d, rfl⟩ := ty_u8 Try.underlying5 h3
    exact ⟨(b, c, d), trivial, rfl⟩)
  have hb : Try.prog.bytesOf 46 = 3 := by kernel_rfl
  rw [hb] at h1
  exact ⟨l, by have := reach_le; omega, rfl⟩
theorem argA (s : List Ac) : argOf Try.prog 43 [encAs s] = encAs s := by unfold argOf; rw [Try.underlying43]
theorem argU (c : UInt8) : argOf Try.prog 5 (rowB c) = cB c := by unfold argOf; rw [Try.underlying5]; rfl
theorem diskHistory_data (rs : List (List DV)) (h : TyL Try.prog 8 Try.f6.params.toList rs) : FnWp Try.prog 6 (argsOf Try.prog Try.f6.params.toList rs) (· = .ret (.bool true)) := by
  rw [Try.params6] at h ⊢
  obtain ⟨r0, rs, rfl, h0, h⟩ := tyL_cons h
  obtain ⟨r1, rs, rfl, h1, h⟩ := tyL_cons h
  obtain rfl := tyL_nil h
  obtain ⟨s, hs, rfl⟩ := tyA h0
  obtain ⟨c, rfl⟩ := ty_u8 Try.underlying5 h1
  simp only [argsOf, argA, argU]
  exact law_DiskHistory s hs c

set_option maxRecDepth 100000 in
theorem diskHistory_lifted (os : Os) (started : os.Started) (H : Type) (enc : TypeId × Value → H) :
    ReturnsInHanded {} Try.checked os 6 .any (Rows.diskHistorySpec.pre6 enc Try.prog Try.f6 Rows.diskHistoryRow.domain false) (Rows.diskHistorySpec.post enc Try.prog Try.f6 false true false false) := by
  refine returnsInHanded_of_change_sized (C := Try.checked) Try.own started (by kernel_rfl) Try.func6
    (ChangeSpec.witness6 (enc := enc) (C := Try.checked) false ⟨#[], #[.slice none 0 0, .int .u8 0], []⟩ 8 (by kernel_rfl) (by kernel_rfl) (by kernel_rfl) (by kernel_rfl)) ?_
  intro W base args ds gs before hval hW _ hsz _
  refine law_post (P := Try.prog) (fn := Try.f6) (s := Rows.diskHistorySpec) (m := 8) (tb := 4) Try.laidOut (fun t ht => ?_) (fun t ht => ?_) rfl rfl Try.underlying4 (fun ds hds => ?_) diskHistory_data hval hW hsz
  · rw [Try.params6] at ht
    have hall : ([43, 5] : List TypeId).all (fun t => Try.prog.readableRec t && decide (t < Try.prog.types.size)) = true := by kernel_rfl
    simpa using List.all_eq_true.1 hall t ht
  · rw [Try.params6] at ht
    have hall : ([43, 5] : List TypeId).all (supp Try.prog 8) = true := by kernel_rfl
    exact List.all_eq_true.1 hall t ht
  · rw [Try.params6] at hds
    match ds, hds with
    | [d0, d1], _ => rfl

theorem diskHistory_holds : Rows.DiskHistorySaid :=
  OpenClaim.holds_of_wide 6 Try.f6 rfl rfl rfl rfl rfl rfl rfl ⟨rfl, rfl, rfl, rfl, rfl⟩ rfl rfl rfl rfl rfl (by kernel_rfl) Try.func6 (by kernel_rfl)
    (of_decide_eq_true (by kernel_rfl)) (by unfold Func.isWrapper; rw [if_neg (by decide +kernel)]; exact ⟨rfl, rfl⟩)
    (fun os started H enc _ => diskHistory_lifted os started H enc)

end Go.Proofs.Ytmejdolknkjjdaa
