/-
  The law JournalDamage returns true for every input, and each argument reads as it did: exactly the records in the sectors before a damaged one remain. Conditions: none beyond the given statement's.
-/
import Derived.Test.YtmkgmmgfjibjmaaRows
import Derived.Test.YtmkgmmgfjibjmaaBfJ22
import Derived.Test.YtmkgmmgfjibjmaaBfT45
namespace Go.Proofs.Ytmkgmmgfjibjmaa
open Go.ChangeShapes Go.WideShapes Go.ChangeAt Go.RowKit Go.Bf

theorem Try.own : ownKnob Try.prog.godebug = none := by kernel_rfl
theorem Try.laidOut : laidOutB Try.prog = true := by kernel_rfl
theorem journalDamage_data (rs : List (List DV)) (h : TyL Try.prog 8 Try.f6.params.toList rs) : FnWp Try.prog 6 (argsOf Try.prog Try.f6.params.toList rs) (· = .ret (.bool true)) := by
  rw [Try.params6] at h ⊢
  obtain ⟨r0, rs, rfl, h0, h⟩ := tyL_cons h
  obtain ⟨r1, rs, rfl, h1, h⟩ := tyL_cons h
  obtain ⟨r2, rs, rfl, h2, h⟩ := tyL_cons h
  obtain ⟨r3, rs, rfl, h3, h⟩ := tyL_cons h
  obtain rfl := tyL_nil h
  obtain ⟨l, hl, rfl⟩ := tySS h0
  obtain ⟨sector, hksector, rfl⟩ := ty_int Try.underlying3 h1
  obtain ⟨at', hkat', rfl⟩ := ty_int Try.underlying3 h2
  obtain ⟨c, rfl⟩ := ty_u8 Try.underlying5 h3
  simp only [argsOf, argI, argSS, argU]
  exact law_JournalDamage l hl sector at' c

set_option maxRecDepth 100000 in
theorem journalDamage_lifted (os : Os) (started : os.Started) (H : Type) (enc : TypeId × Value → H) :
    ReturnsInHanded {} Try.checked os 6 .any (Rows.journalDamageSpec.pre6 enc Try.prog Try.f6 Rows.journalDamageRow.domain false) (Rows.journalDamageSpec.post enc Try.prog Try.f6 false true false false) := by
  refine returnsInHanded_of_change_sized (C := Try.checked) Try.own started (by kernel_rfl) Try.func6
    (ChangeSpec.witness6 (enc := enc) (C := Try.checked) false ⟨#[], #[.slice none 0 0, .int .i64 0, .int .i64 0, .int .u8 0], []⟩ 8 (by kernel_rfl) (by kernel_rfl) (by kernel_rfl) (by kernel_rfl)) ?_
  intro W base args ds gs before hval hW _ hsz _
  refine law_post (P := Try.prog) (fn := Try.f6) (s := Rows.journalDamageSpec) (m := 8) (tb := 4) Try.laidOut (fun t ht => ?_) (fun t ht => ?_) rfl rfl Try.underlying4 (fun ds hds => ?_) journalDamage_data hval hW hsz
  · rw [Try.params6] at ht
    have hall : ([22, 3, 3, 5] : List TypeId).all (fun t => Try.prog.readableRec t && decide (t < Try.prog.types.size)) = true := by kernel_rfl
    simpa using List.all_eq_true.1 hall t ht
  · rw [Try.params6] at ht
    have hall : ([22, 3, 3, 5] : List TypeId).all (supp Try.prog 8) = true := by kernel_rfl
    exact List.all_eq_true.1 hall t ht
  · rw [Try.params6] at hds
    match ds, hds with
    | [d0, d1, d2, d3], _ => rfl

theorem journalDamage_holds : Rows.JournalDamageSaid :=
  OpenClaim.holds_of_wide 6 Try.f6 rfl rfl rfl rfl rfl rfl rfl ⟨rfl, rfl, rfl, rfl, rfl⟩ rfl rfl rfl rfl rfl (by kernel_rfl) Try.func6 (by kernel_rfl)
    (of_decide_eq_true (by kernel_rfl)) (by unfold Func.isWrapper; rw [if_neg (by decide +kernel)]; exact ⟨rfl, rfl⟩)
    (fun os started H enc _ => journalDamage_lifted os started H enc)

end Go.Proofs.Ytmkgmmgfjibjmaa
