/-
  The law JournalRoom returns true for every input of the given bulk, and each argument reads as it did: Append accepts a record exactly if it fits into the room, and it appends the record. Conditions: the given statement's bound on the bulk of what comes in.
-/
import Derived.Test.YtmkgmmgfjibjmaaRows
import Derived.Test.YtmkgmmgfjibjmaaBfJ20
import Derived.Test.YtmkgmmgfjibjmaaBfT45
import Derived.Test.YtmkgmmgfjibjmaaBfUp
namespace Go.Proofs.Ytmkgmmgfjibjmaa
open Go.ChangeShapes Go.WideShapes Go.ChangeAt Go.RowKit Go.Bf

theorem Try.own : ownKnob Try.prog.godebug = none := by kernel_rfl
theorem Try.laidOut : laidOutB Try.prog = true := by kernel_rfl
mutual
theorem szD_le {H : Type} : ∀ d : DataW H, szD d ≤ Rows.uptoBulk d
  | .lit l => by cases l <;> simp [szD, Rows.uptoBulk]
  | .nil => by simp [szD, Rows.uptoBulk]
  | .ptr d => by simp [szD, Rows.uptoBulk]
  | .slice es sp => by
    have h1 := szL_le es
    have h2 := szL_le sp
    simp only [szD, Rows.uptoBulk]
    omega
  | .agg ps => by
    have h1 := szL_le ps
    simp only [szD, Rows.uptoBulk]
    omega
  | .iface t d => by simp [szD, Rows.uptoBulk]
  | .map es => by simp [szD, Rows.uptoBulk]
  | .held h => by simp [szD, Rows.uptoBulk]
theorem szL_le {H : Type} : ∀ ds : List (DataW H), szL ds ≤ Rows.uptoBulkAll ds
  | [] => by simp [szL]
  | d :: ds => by
    have h1 := szD_le d
    have h2 := szL_le ds
    simp only [szL, Rows.uptoBulkAll]
    omega
end
theorem bulk_le {H : Type} : ∀ (ds gs : List (DataW H)), Rows.uptoBulkAll ds ≤ Rows.uptoBulkAll (ds ++ gs)
  | [], gs => by simp [Rows.uptoBulkAll]
  | d :: ds, gs => by
    have := bulk_le ds gs
    simp only [List.cons_append, Rows.uptoBulkAll]
    omega
theorem wt_rowL (b : List UInt8) : wtL (rowL b) = b.length + 1 := by
  have key : ∀ l : List UInt8, wtLL (l.map rowB) = l.length := by
    intro l
    induction l with
    | nil => rfl
    | cons c l ih => rw [List.map_cons, wtLL, ih]; simp [rowB, cB, wtL, wt]; omega
  simp [rowL, encB, wtL, wt, key]
theorem wt_SS (l : List (List UInt8)) : wt (encSs l) = (l.map fun b => b.length + 1).sum + 1 := by
  have key : ∀ l : List (List UInt8), wtLL (l.map rowL) = (l.map fun b => b.length + 1).sum := by
    intro l
    induction l with
    | nil => rfl
    | cons c l ih => rw [List.map_cons, wtLL, ih, wt_rowL]; simp
  simp [encSs, wt, key]
theorem len_sum (l : List (List UInt8)) : l.length ≤ (l.map fun b => b.length + 1).sum := by
  induction l with
  | nil => simp
  | cons c l ih => simp; omega
theorem used_sum (l : List (List UInt8)) : usedN l ≤ (l.map fun b => b.length + 1).sum := by
  induction l with
  | nil => simp [usedN]
  | cons c l ih => rw [usedN_cons]; have : secD c.length ≤ c.length + 1 := (by unfold secD; omega); simp; omega
theorem journalRoom_data (rs : List (List DV)) (h : TyL Try.prog 8 Try.f5.params.toList rs) (hw : wtLL rs ≤ 1048576) : FnWp Try.prog 5 (argsOf Try.prog Try.f5.params.toList rs) (· = .ret (.bool true)) := by
  rw [Try.params5] at h ⊢
  obtain ⟨r0, rs, rfl, h0, h⟩ := tyL_cons h
  obtain ⟨r1, rs, rfl, h1, h⟩ := tyL_cons h
  obtain rfl := tyL_nil h
  obtain ⟨j, hj, rfl⟩ := tyJ h0
  obtain ⟨b, hb, rfl⟩ := tyB h1
  simp only [argsOf, argB, argJ]
  exact law_JournalRoom j hj b hb (by simp only [wtLL, wtL, wt_SS] at hw; have := used_sum j.recs; omega)

set_option maxRecDepth 100000 in
theorem journalRoom_lifted (os : Os) (started : os.Started) (H : Type) (enc : TypeId × Value → H) (F : Stop.Interp) :
    ReturnsInHanded {} Try.checked os 5 .any ((Rows.OpenSpec.upto Rows.journalRoomSpec).pre6 enc Try.prog Try.f5 Rows.journalRoomUptoRow.domain false) (((Rows.OpenSpec.upto Rows.journalRoomSpec).at F).post enc Try.prog Try.f5 false true false false) := by
  refine returnsInHanded_of_cond_sized (C := Try.checked) (s := Rows.OpenSpec.upto Rows.journalRoomSpec) (k := Rows.uptoSmall) rfl Try.own started (by kernel_rfl) Try.func5
    (OpenSpec.witness (enc := enc) (C := Try.checked) (s := Rows.OpenSpec.upto Rows.journalRoomSpec) (k := Rows.uptoSmall) rfl false ⟨#[], #[.agg #[.int .i64 0, .int .i64 0, .slice none 0 0], .slice none 0 0], []⟩ 8 (by kernel_rfl) (by kernel_rfl) (by kernel_rfl)
      (x := ([.agg [.lit (.int .i64 0), .lit (.int .i64 0), .nil], .nil], [], [])) (by kernel_rfl) rfl (by kernel_rfl)) ?_
  intro W base args ds gs before hval hW _ hk hsz _
  have hk' : Rows.uptoBulkAll (ds ++ gs) ≤ 1048576 := of_decide_eq_true hk
  refine law_postW (P := Try.prog) (fn := Try.f5) (s := Rows.journalRoomSpec) (m := 8) (tb := 4) (ds := ds) Try.laidOut (fun t ht => ?_) (fun t ht => ?_) rfl rfl Try.underlying4 (fun ds hds => ?_) (fun rs h hw => journalRoom_data rs h (Nat.le_trans hw (Nat.le_trans (szL_le ds) (Nat.le_trans (bulk_le ds gs) hk')))) hval hW hsz
  · rw [Try.params5] at ht
    have hall : ([29, 35] : List TypeId).all (fun t => Try.prog.readableRec t && decide (t < Try.prog.types.size)) = true := by kernel_rfl
    simpa using List.all_eq_true.1 hall t ht
  · rw [Try.params5] at ht
    have hall : ([29, 35] : List TypeId).all (supp Try.prog 8) = true := by kernel_rfl
    exact List.all_eq_true.1 hall t ht
  · rw [Try.params5] at hds
    match ds, hds with
    | [d0, d1], _ => rfl

theorem journalRoom_holds : Rows.JournalRoomUptoSaid :=
  OpenClaim.holds_of_cond 5 Try.f5 rfl rfl rfl rfl rfl rfl rfl ⟨rfl, rfl, rfl, rfl, rfl⟩ rfl rfl rfl rfl rfl (by kernel_rfl) Try.func5 (by kernel_rfl)
    (of_decide_eq_true (by kernel_rfl)) (by unfold Func.isWrapper; rw [if_neg (by decide +kernel)]; exact ⟨rfl, rfl⟩)
    (fun os started H enc _ F => journalRoom_lifted os started H enc F)

end Go.Proofs.Ytmkgmmgfjibjmaa
