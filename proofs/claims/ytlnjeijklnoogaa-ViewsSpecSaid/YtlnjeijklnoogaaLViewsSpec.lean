/-
  The law ViewsSpec returns true for every input, and each argument reads as it did: all functions of the views agree with the reference. Conditions: none beyond the given statement's.
-/
import Derived.Test.YtlnjeijklnoogaaRows
import Derived.Test.YtlnjeijklnoogaaBfV17
import Derived.Test.YtlnjeijklnoogaaBfT51
namespace Go.Proofs.Ytlnjeijklnoogaa
open Go.ChangeShapes Go.WideShapes Go.ChangeAt Go.RowKit Go.Bf

theorem Try.own : ownKnob Try.prog.godebug = none := by kernel_rfl
theorem Try.laidOut : laidOutB Try.prog = true := by kernel_rfl
set_option maxRecDepth 100000 in
theorem viewsSpec_data (rs : List (List DV)) (h : TyL Try.prog 8 Try.f3.params.toList rs) : FnWp Try.prog 3 (argsOf Try.prog Try.f3.params.toList rs) (· = .ret (.bool true)) := by
  rw [Try.params3] at h ⊢
  obtain ⟨r0, rs, rfl, h0, h⟩ := tyL_cons h
  obtain ⟨r1, rs, rfl, h1, h⟩ := tyL_cons h
  obtain ⟨r2, rs, rfl, h2, h⟩ := tyL_cons h
  obtain ⟨r3, rs, rfl, h3, h⟩ := tyL_cons h
  obtain ⟨r4, rs, rfl, h4, h⟩ := tyL_cons h
  obtain rfl := tyL_nil h
  obtain ⟨a, ha, rfl⟩ := tyMS h0
  obtain ⟨b, hb, rfl⟩ := tyMS h1
  obtain ⟨id, hkid, rfl⟩ := ty_int Try.underlying3 h2
  obtain ⟨l, hl, rfl⟩ := tyRS h3
  obtain ⟨ls, hls, rfl⟩ := tyIL h4
  simp only [argsOf, argI, argIL, argMS, argRS]
  exact law_ViewsSpec a b id l ls ha.1 ha.2 hb.1 hb.2 hl.1 hl.2 (by omega)

set_option maxRecDepth 100000 in
theorem viewsSpec_lifted (os : Os) (started : os.Started) (H : Type) (enc : TypeId × Value → H) :
    ReturnsInHanded {} Try.checked os 3 .any (Rows.viewsSpecSpec.pre6 enc Try.prog Try.f3 Rows.viewsSpecRow.domain false) (Rows.viewsSpecSpec.post enc Try.prog Try.f3 false true false false) := by
  refine returnsInHanded_of_change_sized (C := Try.checked) Try.own started (by kernel_rfl) Try.func3
    (ChangeSpec.witness6 (enc := enc) (C := Try.checked) false ⟨#[], #[.slice none 0 0, .slice none 0 0, .int .i64 0, .slice none 0 0, .slice none 0 0], []⟩ 8 (by kernel_rfl) (by kernel_rfl) (by kernel_rfl) (by kernel_rfl)) ?_
  intro W base args ds gs before hval hW _ hsz _
  refine law_post (P := Try.prog) (fn := Try.f3) (s := Rows.viewsSpecSpec) (m := 8) (tb := 4) Try.laidOut (fun t ht => ?_) (fun t ht => ?_) rfl rfl Try.underlying4 (fun ds hds => ?_) viewsSpec_data hval hW hsz
  · rw [Try.params3] at ht
    have hall : ([22, 22, 3, 23, 24] : List TypeId).all (fun t => Try.prog.readableRec t && decide (t < Try.prog.types.size)) = true := by kernel_rfl
    simpa using List.all_eq_true.1 hall t ht
  · rw [Try.params3] at ht
    have hall : ([22, 22, 3, 23, 24] : List TypeId).all (supp Try.prog 8) = true := by kernel_rfl
    exact List.all_eq_true.1 hall t ht
  · rw [Try.params3] at hds
    match ds, hds with
    | [d0, d1, d2, d3, d4], _ => rfl

theorem viewsSpec_holds : Rows.ViewsSpecSaid :=
  OpenClaim.holds_of_wide 3 Try.f3 rfl rfl rfl rfl rfl rfl rfl ⟨rfl, rfl, rfl, rfl, rfl⟩ rfl rfl rfl rfl rfl (by kernel_rfl) Try.func3 (by kernel_rfl)
    (of_decide_eq_true (by kernel_rfl)) (by unfold Func.isWrapper; rw [if_neg (by decide +kernel)]; exact ⟨rfl, rfl⟩)
    (fun os started H enc _ => viewsSpec_lifted os started H enc)

end Go.Proofs.Ytlnjeijklnoogaa
