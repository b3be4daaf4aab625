/-
  The law JournalOpenSpec returns true for every input, and each argument reads as it did: Open agrees with the reference, for every disk. Conditions: none beyond the given statement's.
-/
import Derived.Test.YtmkgmmgfjibjmaaRows
import Derived.Test.YtmkgmmgfjibjmaaBfJ19
import Derived.Test.YtmkgmmgfjibjmaaBfT45
namespace Go.Proofs.Ytmkgmmgfjibjmaa
open Go.ChangeShapes Go.WideShapes Go.ChangeAt Go.RowKit Go.Bf

theorem Try.own : ownKnob Try.prog.godebug = none := by kernel_rfl
theorem Try.laidOut : laidOutB Try.prog = true := by kernel_rfl
theorem journalOpenSpec_data (rs : List (List DV)) (h : TyL Try.prog 8 Try.f3.params.toList rs) : FnWp Try.prog 3 (argsOf Try.prog Try.f3.params.toList rs) (· = .ret (.bool true)) := by
  rw [Try.params3] at h ⊢
  obtain ⟨r0, rs, rfl, h0, h⟩ := tyL_cons h
  obtain rfl := tyL_nil h
  obtain ⟨d, hd, rfl⟩ := tyD h0
  simp only [argsOf, argD]
  exact law_JournalOpenSpec d hd

set_option maxRecDepth 100000 in
theorem journalOpenSpec_lifted (os : Os) (started : os.Started) (H : Type) (enc : TypeId × Value → H) :
    ReturnsInHanded {} Try.checked os 3 .any (Rows.journalOpenSpecSpec.pre6 enc Try.prog Try.f3 Rows.journalOpenSpecRow.domain false) (Rows.journalOpenSpecSpec.post enc Try.prog Try.f3 false true false false) := by
  refine returnsInHanded_of_change_sized (C := Try.checked) Try.own started (by kernel_rfl) Try.func3
    (ChangeSpec.witness6 (enc := enc) (C := Try.checked) false ⟨#[], #[.agg #[.slice none 0 0, .slice none 0 0, .int .i64 0, .bool false]], []⟩ 8 (by kernel_rfl) (by kernel_rfl) (by kernel_rfl) (by kernel_rfl)) ?_
  intro W base args ds gs before hval hW _ hsz _
  refine law_post (P := Try.prog) (fn := Try.f3) (s := Rows.journalOpenSpecSpec) (m := 8) (tb := 4) Try.laidOut (fun t ht => ?_) (fun t ht => ?_) rfl rfl Try.underlying4 (fun ds hds => ?_) journalOpenSpec_data hval hW hsz
  · rw [Try.params3] at ht
    have hall : ([25] : List TypeId).all (fun t => Try.prog.readableRec t && decide (t < Try.prog.types.size)) = true := by kernel_rfl
    simpa using List.all_eq_true.1 hall t ht
  · rw [Try.params3] at ht
    have hall : ([25] : List TypeId).all (supp Try.prog 8) = true := by kernel_rfl
    exact List.all_eq_true.1 hall t ht
  · rw [Try.params3] at hds
    match ds, hds with
    | [d0], _ => rfl

theorem journalOpenSpec_holds : Rows.JournalOpenSpecSaid :=
  OpenClaim.holds_of_wide 3 Try.f3 rfl rfl rfl rfl rfl rfl rfl ⟨rfl, rfl, rfl, rfl, rfl⟩ rfl rfl rfl rfl rfl (by kernel_rfl) Try.func3 (by kernel_rfl)
    (of_decide_eq_true (by kernel_rfl)) (by unfold Func.isWrapper; rw [if_neg (by decide +kernel)]; exact ⟨rfl, rfl⟩)
    (fun os started H enc _ => journalOpenSpec_lifted os started H enc)

end Go.Proofs.Ytmkgmmgfjibjmaa
