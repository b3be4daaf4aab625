/-
  The law ViewsOthers returns true for every input, and each argument reads as it did: what is sent to others does not change what a firm sees, and Same sees every difference. Conditions: none beyond the given statement's.
-/
import Derived.Test.YtlnjeijklnoogaaRows
import Derived.Test.YtlnjeijklnoogaaBfV12
import Derived.Test.YtlnjeijklnoogaaBfT51
namespace Go.Proofs.Ytlnjeijklnoogaa
open Go.ChangeShapes Go.WideShapes Go.ChangeAt Go.RowKit Go.Bf

theorem Try.own : ownKnob Try.prog.godebug = none := by kernel_rfl
theorem Try.laidOut : laidOutB Try.prog = true := by kernel_rfl
set_option maxRecDepth 100000 in
theorem viewsOthers_data (rs : List (List DV)) (h : TyL Try.prog 8 Try.f4.params.toList rs) : FnWp Try.prog 4 (argsOf Try.prog Try.f4.params.toList rs) (· = .ret (.bool true)) := by
  rw [Try.params4] at h ⊢
  obtain ⟨r0, rs, rfl, h0, h⟩ := tyL_cons h
  obtain ⟨r1, rs, rfl, h1, h⟩ := tyL_cons h
  obtain ⟨r2, rs, rfl, h2, h⟩ := tyL_cons h
  obtain ⟨r3, rs, rfl, h3, h⟩ := tyL_cons h
  obtain rfl := tyL_nil h
  obtain ⟨l, hl, rfl⟩ := tyMS h0
  obtain ⟨id, hkid, rfl⟩ := ty_int Try.underlying3 h1
  obtain ⟨at', hat', rfl⟩ := tyU h2
  obtain ⟨m, hm, rfl⟩ := tyMG h3
  simp only [argsOf, argI, argMG, argMS, argU]
  exact law_ViewsOthers l id at' m hl.1 hl.2 hat' hm

set_option maxRecDepth 100000 in
theorem viewsOthers_lifted (os : Os) (started : os.Started) (H : Type) (enc : TypeId × Value → H) :
    ReturnsInHanded {} Try.checked os 4 .any (Rows.viewsOthersSpec.pre6 enc Try.prog Try.f4 Rows.viewsOthersRow.domain false) (Rows.viewsOthersSpec.post enc Try.prog Try.f4 false true false false) := by
  refine returnsInHanded_of_change_sized (C := Try.checked) Try.own started (by kernel_rfl) Try.func4
    (ChangeSpec.witness6 (enc := enc) (C := Try.checked) false ⟨#[], #[.slice none 0 0, .int .i64 0, .int .u64 0, .agg #[.int .i64 0, .int .i64 0, .int .i64 0, .int .i64 0, .int .i64 0, .int .i64 0, .int .i64 0, .int .i64 0, .slice none 0 0, .slice none 0 0, .slice none 0 0, .int .u8 0, .int .u8 0, .int .u8 0, .int .u8 0, .int .u8 0, .int .u8 0, .int .u8 0, .int .u8 0, .int .u8 0, .int .u8 0, .int .u8 0, .int .u8 0, .int .u8 0, .int .u8 0, .int .u8 0, .int .u8 0, .int .u8 0, .int .u8 0, .int .u8 0, .int .u8 0, .int .u8 0, .int .u8 0, .int .u8 0, .int .u8 0, .int .u8 0, .int .u8 0, .int .u8 0, .int .u8 0, .int .u8 0, .int .u8 0, .int .u8 0, .int .u8 0]], []⟩ 8 (by kernel_rfl) (by kernel_rfl) (by kernel_rfl) (by kernel_rfl)) ?_
  intro W base args ds gs before hval hW _ hsz _
  refine law_post (P := Try.prog) (fn := Try.f4) (s := Rows.viewsOthersSpec) (m := 8) (tb := 4) Try.laidOut (fun t ht => ?_) (fun t ht => ?_) rfl rfl Try.underlying4 (fun ds hds => ?_) viewsOthers_data hval hW hsz
  · rw [Try.params4] at ht
    have hall : ([22, 3, 36, 40] : List TypeId).all (fun t => Try.prog.readableRec t && decide (t < Try.prog.types.size)) = true := by kernel_rfl
    simpa using List.all_eq_true.1 hall t ht
  · rw [Try.params4] at ht
    have hall : ([22, 3, 36, 40] : List TypeId).all (supp Try.prog 8) = true := by kernel_rfl
    exact List.all_eq_true.1 hall t ht
  · rw [Try.params4] at hds
    match ds, hds with
    | [d0, d1, d2, d3], _ => rfl

theorem viewsOthers_holds : Rows.ViewsOthersSaid :=
  OpenClaim.holds_of_wide 4 Try.f4 rfl rfl rfl rfl rfl rfl rfl ⟨rfl, rfl, rfl, rfl, rfl⟩ rfl rfl rfl rfl rfl (by kernel_rfl) Try.func4 (by kernel_rfl)
    (of_decide_eq_true (by kernel_rfl)) (by unfold Func.isWrapper; rw [if_neg (by decide +kernel)]; exact ⟨rfl, rfl⟩)
    (fun os started H enc _ => viewsOthers_lifted os started H enc)

end Go.Proofs.Ytlnjeijklnoogaa
