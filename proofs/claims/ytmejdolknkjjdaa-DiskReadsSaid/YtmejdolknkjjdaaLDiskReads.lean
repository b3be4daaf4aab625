/-
  The law DiskReads returns true for every input, and each argument reads as it did: each sector is read as it was written last, others as before, and so after a sync that does not stop. Conditions: none beyond the given statement's.
-/
import Derived.Test.YtmejdolknkjjdaaRows
import Derived.Test.YtmejdolknkjjdaaBfX21
import Derived.Test.YtmejdolknkjjdaaBfX18
namespace Go.Proofs.Ytmejdolknkjjdaa
open Go.ChangeShapes Go.WideShapes Go.ChangeAt Go.RowKit Go.Bf

theorem Try.own : ownKnob Try.prog.godebug = none := by kernel_rfl
theorem Try.laidOut : laidOutB Try.prog = true := by kernel_rfl
theorem diskReads_data (rs : List (List DV)) (h : TyL Try.prog 8 Try.f7.params.toList rs) : FnWp Try.prog 7 (argsOf Try.prog Try.f7.params.toList rs) (· = .ret (.bool true)) := by
  rw [Try.params7] at h ⊢
  obtain ⟨r0, rs, rfl, h0, h⟩ := tyL_cons h
  obtain ⟨r1, rs, rfl, h1, h⟩ := tyL_cons h
  obtain ⟨r2, rs, rfl, h2, h⟩ := tyL_cons h
  obtain ⟨r3, rs, rfl, h3, h⟩ := tyL_cons h
  obtain ⟨r4, rs, rfl, h4, h⟩ := tyL_cons h
  obtain rfl := tyL_nil h
  obtain ⟨d, hd, rfl⟩ := tyD h0
  obtain ⟨a, _, rfl⟩ := ty_int Try.underlying3 h1
  obtain ⟨o, _, rfl⟩ := ty_int Try.underlying3 h2
  obtain ⟨b, hb, rfl⟩ := tyB h3
  obtain ⟨c, hc, rfl⟩ := tyB h4
  simp only [argsOf, argB, argD, argI]
  exact law_DiskReads d hd a o b c

set_option maxRecDepth 100000 in
theorem diskReads_lifted (os : Os) (started : os.Started) (H : Type) (enc : TypeId × Value → H) :
    ReturnsInHanded {} Try.checked os 7 .any (Rows.diskReadsSpec.pre6 enc Try.prog Try.f7 Rows.diskReadsRow.domain false) (Rows.diskReadsSpec.post enc Try.prog Try.f7 false true false false) := by
  refine returnsInHanded_of_change_sized (C := Try.checked) Try.own started (by kernel_rfl) Try.func7
    (ChangeSpec.witness6 (enc := enc) (C := Try.checked) false ⟨#[], #[.agg #[.slice none 0 0, .slice none 0 0, .int .i64 0, .bool false], .int .i64 0, .int .i64 0, .slice none 0 0, .slice none 0 0], []⟩ 8 (by kernel_rfl) (by kernel_rfl) (by kernel_rfl) (by kernel_rfl)) ?_
  intro W base args ds gs before hval hW _ hsz _
  refine law_post (P := Try.prog) (fn := Try.f7) (s := Rows.diskReadsSpec) (m := 8) (tb := 4) Try.laidOut (fun t ht => ?_) (fun t ht => ?_) rfl rfl Try.underlying4 (fun ds hds => ?_) diskReads_data hval hW hsz
  · rw [Try.params7] at ht
    have hall : ([25, 3, 3, 35, 35] : List TypeId).all (fun t => Try.prog.readableRec t && decide (t < Try.prog.types.size)) = true := by kernel_rfl
    simpa using List.all_eq_true.1 hall t ht
  · rw [Try.params7] at ht
    have hall : ([25, 3, 3, 35, 35] : List TypeId).all (supp Try.prog 8) = true := by kernel_rfl
    exact List.all_eq_true.1 hall t ht
  · rw [Try.params7] at hds
    match ds, hds with
    | [d0, d1, d2, d3, d4], _ => rfl

theorem diskReads_holds : Rows.DiskReadsSaid :=
  OpenClaim.holds_of_wide 7 Try.f7 rfl rfl rfl rfl rfl rfl rfl ⟨rfl, rfl, rfl, rfl, rfl⟩ rfl rfl rfl rfl rfl (by kernel_rfl) Try.func7 (by kernel_rfl)
    (of_decide_eq_true (by kernel_rfl)) (by unfold Func.isWrapper; rw [if_neg (by decide +kernel)]; exact ⟨rfl, rfl⟩)
    (fun os started H enc _ => diskReads_lifted os started H enc)

end Go.Proofs.Ytmejdolknkjjdaa
