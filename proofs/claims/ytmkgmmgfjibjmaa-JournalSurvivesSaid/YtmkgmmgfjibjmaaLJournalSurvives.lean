/-
  The law JournalSurvives returns true for every input, and each argument reads as it did: the journal that is opened after each stop consists of all records that were synced before and a beginning of those that were to be written. Conditions: none beyond the given statement's.
-/
import Derived.Test.YtmkgmmgfjibjmaaRows
import Derived.Test.YtmkgmmgfjibjmaaBfJ24
import Derived.Test.YtmkgmmgfjibjmaaBfT45
namespace Go.Proofs.Ytmkgmmgfjibjmaa
open Go.ChangeShapes Go.WideShapes Go.ChangeAt Go.RowKit Go.Bf

theorem Try.own : ownKnob Try.prog.godebug = none := by kernel_rfl
theorem Try.laidOut : laidOutB Try.prog = true := by kernel_rfl
theorem tyCs {m : Nat} {r : List DV} (h : Ty Try.prog m 52 r) : ∃ s : List Cr, (s.length ≤ 140737488355328 ∧ ∀ c ∈ s, FitL c.recs) ∧ r = [encCs s] := by
  obtain ⟨l, h1, h2, rfl⟩ := ty_list (B := fun c : Cr => FitL c.recs) (E := rowC) Try.underlying52 h (fun m x hx => by
    obtain ⟨m, a, r1, h1, ⟨b, r2, h2, ⟨c, r3, h3, rfl, rfl⟩, rfl⟩, rfl⟩ := ty_struct Try.underlying54 hx
    obtain ⟨l, hl, rfl⟩ := tySS h1
    obtain ⟨b, rfl⟩ := ty_bool Try.underlying4 h2
    obtain ⟨c, rfl⟩ := ty_u8 Try.underlying5 h3
    exact ⟨⟨l, b, c⟩, hl, rfl⟩)
  have hb : Try.prog.bytesOf 54 = 32 := by kernel_rfl
  rw [hb] at h1
  exact ⟨l, ⟨by have := reachN; omega, h2⟩, rfl⟩
theorem argCs (s : List Cr) : argOf Try.prog 52 [encCs s] = encCs s := by unfold argOf; rw [Try.underlying52]
theorem journalSurvives_data (rs : List (List DV)) (h : TyL Try.prog 8 Try.f8.params.toList rs) : FnWp Try.prog 8 (argsOf Try.prog Try.f8.params.toList rs) (· = .ret (.bool true)) := by
  rw [Try.params8] at h ⊢
  obtain ⟨r0, rs, rfl, h0, h⟩ := tyL_cons h
  obtain ⟨r1, rs, rfl, h1, h⟩ := tyL_cons h
  obtain rfl := tyL_nil h
  obtain ⟨n, rfl⟩ := ty_u8 Try.underlying5 h0
  obtain ⟨s, hs, rfl⟩ := tyCs h1
  simp only [argsOf, argCs, argU]
  exact law_JournalSurvives n s hs.1 hs.2

set_option maxRecDepth 100000 in
theorem journalSurvives_lifted (os : Os) (started : os.Started) (H : Type) (enc : TypeId × Value → H) :
    ReturnsInHanded {} Try.checked os 8 .any (Rows.journalSurvivesSpec.pre6 enc Try.prog Try.f8 Rows.journalSurvivesRow.domain false) (Rows.journalSurvivesSpec.post enc Try.prog Try.f8 false true false false) := by
  refine returnsInHanded_of_change_sized (C := Try.checked) Try.own started (by kernel_rfl) Try.func8
    (ChangeSpec.witness6 (enc := enc) (C := Try.checked) false ⟨#[], #[.int .u8 0, .slice none 0 0], []⟩ 8 (by kernel_rfl) (by kernel_rfl) (by kernel_rfl) (by kernel_rfl)) ?_
  intro W base args ds gs before hval hW _ hsz _
  refine law_post (P := Try.prog) (fn := Try.f8) (s := Rows.journalSurvivesSpec) (m := 8) (tb := 4) Try.laidOut (fun t ht => ?_) (fun t ht => ?_) rfl rfl Try.underlying4 (fun ds hds => ?_) journalSurvives_data hval hW hsz
  · rw [Try.params8] at ht
    have hall : ([5, 52] : List TypeId).all (fun t => Try.prog.readableRec t && decide (t < Try.prog.types.size)) = true := by kernel_rfl
    simpa using List.all_eq_true.1 hall t ht
  · rw [Try.params8] at ht
    have hall : ([5, 52] : List TypeId).all (supp Try.prog 8) = true := by kernel_rfl
    exact List.all_eq_true.1 hall t ht
  · rw [Try.params8] at hds
    match ds, hds with
    | [d0, d1], _ => rfl

theorem journalSurvives_holds : Rows.JournalSurvivesSaid :=
  OpenClaim.holds_of_wide 8 Try.f8 rfl rfl rfl rfl rfl rfl rfl ⟨rfl, rfl, rfl, rfl, rfl⟩ rfl rfl rfl rfl rfl (by kernel_rfl) Try.func8 (by kernel_rfl)
    (of_decide_eq_true (by kernel_rfl)) (by unfold Func.isWrapper; rw [if_neg (by decide +kernel)]; exact ⟨rfl, rfl⟩)
    (fun os started H enc _ => journalSurvives_lifted os started H enc)

end Go.Proofs.Ytmkgmmgfjibjmaa
