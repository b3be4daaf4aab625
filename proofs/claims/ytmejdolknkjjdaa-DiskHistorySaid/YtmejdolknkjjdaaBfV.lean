/-
  What the walk reckons by itself. Nothing is claimed here.
-/
import Derived.Test.YtmejdolknkjjdaaBfU
namespace Go.Bf
open Go Go.RowKit

attribute [simp] dflt List.mapM_cons VCops guardG opClass quietF pickF pickV opX dstOk mkc rdS rdC conds rdK cval callF rdL
  opQ opP loadF fieldAddrF fieldF indexAddrF indexF intOf' boundF sliceF sliceListF binF binInt isShift unF convF TK.conc TK.ok TK.conc' extractF lenF lenS rdO
  buildF rdParts fillS solid SV.cells allD mkAgg litCells litF makeF z2s opM undefS lkLen opA opC srcF hd1 rowsCells DV.one SV.one
  conds Op.operands Call.operands Know.put Know.newB Know.setB Bf.put toD toDs thenX blockX CondVC resS resL retOf snapD FnPost RetPost Know.start chunk allD_map allD_mapd ownCells

@[simp] theorem spl_one {α : Type} (cells : List α) (off : Nat) (c : α) : spl cells off [c] = cells.set off c := rfl
@[simp] theorem spl_two {α : Type} (cells : List α) (off : Nat) (a b : α) (l : List α) : spl cells off (a :: b :: l) = cells.take off ++ (a :: b :: l) ++ cells.drop (off + (l.length + 2)) := rfl

@[simp] theorem inK_i64 (n : Int) : InK .i64 n ↔ -9223372036854775808 ≤ n ∧ n ≤ 9223372036854775807 := by
  simp [InK, IntKind.min, IntKind.max, IntKind.signed, IntKind.bits]
@[simp] theorem inK_i32 (n : Int) : InK .i32 n ↔ -2147483648 ≤ n ∧ n ≤ 2147483647 := by
  simp [InK, IntKind.min, IntKind.max, IntKind.signed, IntKind.bits]
@[simp] theorem inK_u8 (n : Int) : InK .u8 n ↔ 0 ≤ n ∧ n ≤ 255 := by
  simp [InK, IntKind.min, IntKind.max, IntKind.signed, IntKind.bits]
@[simp] theorem inK_u16 (n : Int) : InK .u16 n ↔ 0 ≤ n ∧ n ≤ 65535 := by
  simp [InK, IntKind.min, IntKind.max, IntKind.signed, IntKind.bits]
@[simp] theorem inK_u32 (n : Int) : InK .u32 n ↔ 0 ≤ n ∧ n ≤ 4294967295 := by
  simp [InK, IntKind.min, IntKind.max, IntKind.signed, IntKind.bits]
@[simp] theorem inK_u64 (n : Int) : InK .u64 n ↔ 0 ≤ n ∧ n ≤ 18446744073709551615 := by
  simp [InK, IntKind.min, IntKind.max, IntKind.signed, IntKind.bits]

theorem DWp.regionV {P : Program} {r : Option Nat} {id : Nat} {ops : Array Oper} {Q : XE → Know → Prop} {K : Know} (im : Bool) (h : VCops P r im ops Q ops.toList K) : DWp P r (.region id ops false) Q K :=
  DWp.region (VCops_sound _ _ h)

end Go.Bf
