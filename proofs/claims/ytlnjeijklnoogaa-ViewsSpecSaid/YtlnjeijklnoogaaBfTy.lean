/-
  The types of the program, as they are reckoned with. Printed by program (mkty.py). Nothing is claimed here.
-/
import Derived.Test.YtlnjeijklnoogaaProg
import Derived.Test.YtlnjeijklnoogaaFwC
namespace Go.Bf
open Go Go.Proofs
@[simp] theorem lkOf_0 : lkOf Try.prog 0 = LK.one := by kernel_rfl
@[simp] theorem tk_0 : tk Try.prog 0 = TK.one := by kernel_rfl
@[simp] theorem lkOf_1 : lkOf Try.prog 1 = LK.one := by kernel_rfl
@[simp] theorem tk_1 : tk Try.prog 1 = TK.one := by kernel_rfl
@[simp] theorem tzero_1 : tzero Try.prog 1 = some [DV.nilf] := by kernel_rfl
@[simp] theorem lkOf_2 : lkOf Try.prog 2 = LK.one := by kernel_rfl
@[simp] theorem tk_2 : tk Try.prog 2 = TK.int IntKind.i64 := by kernel_rfl
@[simp] theorem tzero_2 : tzero Try.prog 2 = some [DV.int IntKind.i64 0] := by kernel_rfl
@[simp] theorem lkOf_3 : lkOf Try.prog 3 = LK.one := by kernel_rfl
@[simp] theorem tk_3 : tk Try.prog 3 = TK.int IntKind.i64 := by kernel_rfl
@[simp] theorem tzero_3 : tzero Try.prog 3 = some [DV.int IntKind.i64 0] := by kernel_rfl
@[simp] theorem lkOf_4 : lkOf Try.prog 4 = LK.one := by kernel_rfl
@[simp] theorem tk_4 : tk Try.prog 4 = TK.bool := by kernel_rfl
@[simp] theorem tzero_4 : tzero Try.prog 4 = some [DV.bool false] := by kernel_rfl
@[simp] theorem lkOf_5 : lkOf Try.prog 5 = LK.one := by kernel_rfl
@[simp] theorem tk_5 : tk Try.prog 5 = TK.int IntKind.u8 := by kernel_rfl
@[simp] theorem tzero_5 : tzero Try.prog 5 = some [DV.int IntKind.u8 0] := by kernel_rfl
@[simp] theorem lkOf_6 : lkOf Try.prog 6 = LK.one := by kernel_rfl
@[simp] theorem tk_6 : tk Try.prog 6 = TK.int IntKind.u8 := by kernel_rfl
@[simp] theorem tzero_6 : tzero Try.prog 6 = some [DV.int IntKind.u8 0] := by kernel_rfl
@[simp] theorem lkOf_7 : lkOf Try.prog 7 = LK.agg 4 := by kernel_rfl
@[simp] theorem tk_7 : tk Try.prog 7 = TK.struct [(0, LK.one), (1, LK.one), (2, LK.one), (3, LK.one)] 4 := by kernel_rfl
@[simp] theorem tzero_7 : tzero Try.prog 7 = some [DV.int IntKind.i64 0, DV.int IntKind.i64 0, DV.bool false, DV.int IntKind.u8 0] := by kernel_rfl
@[simp] theorem lkOf_8 : lkOf Try.prog 8 = LK.agg 4 := by kernel_rfl
@[simp] theorem tk_8 : tk Try.prog 8 = TK.struct [(0, LK.one), (1, LK.one), (2, LK.one), (3, LK.one)] 4 := by kernel_rfl
@[simp] theorem tzero_8 : tzero Try.prog 8 = some [DV.int IntKind.i64 0, DV.int IntKind.i64 0, DV.bool false, DV.int IntKind.u8 0] := by kernel_rfl
@[simp] theorem lkOf_9 : lkOf Try.prog 9 = LK.one := by kernel_rfl
@[simp] theorem tk_9 : tk Try.prog 9 = TK.str := by kernel_rfl
@[simp] theorem tzero_9 : tzero Try.prog 9 = some [DV.str []] := by kernel_rfl
@[simp] theorem lkOf_10 : lkOf Try.prog 10 = LK.one := by kernel_rfl
@[simp] theorem tk_10 : tk Try.prog 10 = TK.str := by kernel_rfl
@[simp] theorem tzero_10 : tzero Try.prog 10 = some [DV.str []] := by kernel_rfl
@[simp] theorem lkOf_11 : lkOf Try.prog 11 = LK.one := by kernel_rfl
@[simp] theorem tk_11 : tk Try.prog 11 = TK.str := by kernel_rfl
@[simp] theorem tzero_11 : tzero Try.prog 11 = some [DV.str []] := by kernel_rfl
@[simp] theorem lkOf_12 : lkOf Try.prog 12 = LK.one := by kernel_rfl
@[simp] theorem tk_12 : tk Try.prog 12 = TK.int IntKind.u64 := by kernel_rfl
@[simp] theorem tzero_12 : tzero Try.prog 12 = some [DV.int IntKind.u64 0] := by kernel_rfl
@[simp] theorem lkOf_13 : lkOf Try.prog 13 = LK.agg 2 := by kernel_rfl
@[simp] theorem tk_13 : tk Try.prog 13 = TK.struct [(0, LK.one), (1, LK.one)] 2 := by kernel_rfl
@[simp] theorem tzero_13 : tzero Try.prog 13 = some [DV.str [], DV.int IntKind.u64 0] := by kernel_rfl
@[simp] theorem lkOf_14 : lkOf Try.prog 14 = LK.agg 2 := by kernel_rfl
@[simp] theorem tk_14 : tk Try.prog 14 = TK.struct [(0, LK.one), (1, LK.one)] 2 := by kernel_rfl
@[simp] theorem tzero_14 : tzero Try.prog 14 = some [DV.str [], DV.int IntKind.u64 0] := by kernel_rfl
@[simp] theorem lkOf_15 : lkOf Try.prog 15 = LK.one := by kernel_rfl
@[simp] theorem tk_15 : tk Try.prog 15 = TK.one := by kernel_rfl
@[simp] theorem tzero_15 : tzero Try.prog 15 = some [DV.nilp] := by kernel_rfl
@[simp] theorem lkOf_16 : lkOf Try.prog 16 = LK.one := by kernel_rfl
@[simp] theorem tk_16 : tk Try.prog 16 = TK.one := by kernel_rfl
@[simp] theorem tzero_16 : tzero Try.prog 16 = some [DV.nilp] := by kernel_rfl
@[simp] theorem lkOf_17 : lkOf Try.prog 17 = LK.one := by kernel_rfl
@[simp] theorem tk_17 : tk Try.prog 17 = TK.one := by kernel_rfl
@[simp] theorem tzero_17 : tzero Try.prog 17 = some [DV.nilp] := by kernel_rfl
@[simp] theorem lkOf_18 : lkOf Try.prog 18 = LK.agg 1 := by kernel_rfl
@[simp] theorem tk_18 : tk Try.prog 18 = TK.struct [(0, LK.one)] 1 := by kernel_rfl
@[simp] theorem tzero_18 : tzero Try.prog 18 = some [DV.nilp] := by kernel_rfl
@[simp] theorem lkOf_19 : lkOf Try.prog 19 = LK.agg 1 := by kernel_rfl
@[simp] theorem tk_19 : tk Try.prog 19 = TK.struct [(0, LK.one)] 1 := by kernel_rfl
@[simp] theorem tzero_19 : tzero Try.prog 19 = some [DV.nilp] := by kernel_rfl
@[simp] theorem lkOf_20 : lkOf Try.prog 20 = LK.one := by kernel_rfl
@[simp] theorem tk_20 : tk Try.prog 20 = TK.one := by kernel_rfl
@[simp] theorem tzero_20 : tzero Try.prog 20 = some [DV.nili] := by kernel_rfl
@[simp] theorem lkOf_21 : lkOf Try.prog 21 = LK.one := by kernel_rfl
@[simp] theorem tk_21 : tk Try.prog 21 = TK.int IntKind.i32 := by kernel_rfl
@[simp] theorem tzero_21 : tzero Try.prog 21 = some [DV.int IntKind.i32 0] := by kernel_rfl
@[simp] theorem lkOf_22 : lkOf Try.prog 22 = LK.one := by kernel_rfl
@[simp] theorem tk_22 : tk Try.prog 22 = TK.slice (EK.mk 43 168 false (some [DV.int IntKind.i64 0, DV.int IntKind.i64 0, DV.int IntKind.i64 0, DV.int IntKind.i64 0, DV.int IntKind.i64 0, DV.int IntKind.i64 0, DV.int IntKind.i64 0, DV.int IntKind.i64 0, DV.list [], DV.list [], DV.list [], DV.int IntKind.u8 0, DV.int IntKind.u8 0, DV.int IntKind.u8 0, DV.int IntKind.u8 0, DV.int IntKind.u8 0, DV.int IntKind.u8 0, DV.int IntKind.u8 0, DV.int IntKind.u8 0, DV.int IntKind.u8 0, DV.int IntKind.u8 0, DV.int IntKind.u8 0, DV.int IntKind.u8 0, DV.int IntKind.u8 0, DV.int IntKind.u8 0, DV.int IntKind.u8 0, DV.int IntKind.u8 0, DV.int IntKind.u8 0, DV.int IntKind.u8 0, DV.int IntKind.u8 0, DV.int IntKind.u8 0, DV.int IntKind.u8 0, DV.int IntKind.u8 0, DV.int IntKind.u8 0, DV.int IntKind.u8 0, DV.int IntKind.u8 0, DV.int IntKind.u8 0, DV.int IntKind.u8 0, DV.int IntKind.u8 0, DV.int IntKind.u8 0, DV.int IntKind.u8 0, DV.int IntKind.u8 0, DV.int IntKind.u8 0]) (LK.agg 43)) := by kernel_rfl
@[simp] theorem tzero_22 : tzero Try.prog 22 = some [DV.list []] := by kernel_rfl
@[simp] theorem lkOf_23 : lkOf Try.prog 23 = LK.one := by kernel_rfl
@[simp] theorem tk_23 : tk Try.prog 23 = TK.slice (EK.mk 2 48 false (some [DV.list [], DV.list []]) (LK.agg 2)) := by kernel_rfl
@[simp] theorem tzero_23 : tzero Try.prog 23 = some [DV.list []] := by kernel_rfl
@[simp] theorem lkOf_24 : lkOf Try.prog 24 = LK.one := by kernel_rfl
@[simp] theorem tk_24 : tk Try.prog 24 = TK.slice (EK.mk 1 8 false (some [DV.int IntKind.i64 0]) LK.one) := by kernel_rfl
@[simp] theorem tzero_24 : tzero Try.prog 24 = some [DV.list []] := by kernel_rfl
@[simp] theorem lkOf_25 : lkOf Try.prog 25 = LK.one := by kernel_rfl
@[simp] theorem tk_25 : tk Try.prog 25 = TK.one := by kernel_rfl
@[simp] theorem tzero_25 : tzero Try.prog 25 = some [DV.nilf] := by kernel_rfl
@[simp] theorem lkOf_26 : lkOf Try.prog 26 = LK.one := by kernel_rfl
@[simp] theorem tk_26 : tk Try.prog 26 = TK.one := by kernel_rfl
@[simp] theorem tzero_26 : tzero Try.prog 26 = some [DV.nilf] := by kernel_rfl
@[simp] theorem lkOf_27 : lkOf Try.prog 27 = LK.one := by kernel_rfl
@[simp] theorem tk_27 : tk Try.prog 27 = TK.one := by kernel_rfl
@[simp] theorem tzero_27 : tzero Try.prog 27 = some [DV.nilf] := by kernel_rfl
@[simp] theorem lkOf_28 : lkOf Try.prog 28 = LK.one := by kernel_rfl
@[simp] theorem tk_28 : tk Try.prog 28 = TK.int IntKind.i64 := by kernel_rfl
@[simp] theorem tzero_28 : tzero Try.prog 28 = some [DV.int IntKind.i64 0] := by kernel_rfl
@[simp] theorem lkOf_29 : lkOf Try.prog 29 = LK.one := by kernel_rfl
@[simp] theorem tk_29 : tk Try.prog 29 = TK.one := by kernel_rfl
@[simp] theorem lkOf_30 : lkOf Try.prog 30 = LK.one := by kernel_rfl
@[simp] theorem tk_30 : tk Try.prog 30 = TK.one := by kernel_rfl
@[simp] theorem tzero_30 : tzero Try.prog 30 = some [DV.nilf] := by kernel_rfl
@[simp] theorem lkOf_31 : lkOf Try.prog 31 = LK.one := by kernel_rfl
@[simp] theorem tk_31 : tk Try.prog 31 = TK.one := by kernel_rfl
@[simp] theorem tzero_31 : tzero Try.prog 31 = some [DV.nilf] := by kernel_rfl
@[simp] theorem lkOf_32 : lkOf Try.prog 32 = LK.one := by kernel_rfl
@[simp] theorem tk_32 : tk Try.prog 32 = TK.one := by kernel_rfl
@[simp] theorem tzero_32 : tzero Try.prog 32 = some [DV.nilf] := by kernel_rfl
@[simp] theorem lkOf_33 : lkOf Try.prog 33 = LK.one := by kernel_rfl
@[simp] theorem tk_33 : tk Try.prog 33 = TK.one := by kernel_rfl
@[simp] theorem tzero_33 : tzero Try.prog 33 = some [DV.nilf] := by kernel_rfl
@[simp] theorem lkOf_34 : lkOf Try.prog 34 = LK.one := by kernel_rfl
@[simp] theorem tk_34 : tk Try.prog 34 = TK.one := by kernel_rfl
@[simp] theorem tzero_34 : tzero Try.prog 34 = some [DV.nilf] := by kernel_rfl
@[simp] theorem lkOf_35 : lkOf Try.prog 35 = LK.one := by kernel_rfl
@[simp] theorem tk_35 : tk Try.prog 35 = TK.one := by kernel_rfl
@[simp] theorem tzero_35 : tzero Try.prog 35 = some [DV.nilf] := by kernel_rfl
@[simp] theorem lkOf_36 : lkOf Try.prog 36 = LK.one := by kernel_rfl
@[simp] theorem tk_36 : tk Try.prog 36 = TK.int IntKind.u64 := by kernel_rfl
@[simp] theorem tzero_36 : tzero Try.prog 36 = some [DV.int IntKind.u64 0] := by kernel_rfl
@[simp] theorem lkOf_37 : lkOf Try.prog 37 = LK.agg 32 := by kernel_rfl
@[simp] theorem tk_37 : tk Try.prog 37 = TK.arr 32 (EK.mk 1 1 true (some [DV.int IntKind.u8 0]) LK.one) 32 := by kernel_rfl
@[simp] theorem tzero_37 : tzero Try.prog 37 = some [DV.int IntKind.u8 0, DV.int IntKind.u8 0, DV.int IntKind.u8 0, DV.int IntKind.u8 0, DV.int IntKind.u8 0, DV.int IntKind.u8 0, DV.int IntKind.u8 0, DV.int IntKind.u8 0, DV.int IntKind.u8 0, DV.int IntKind.u8 0, DV.int IntKind.u8 0, DV.int IntKind.u8 0, DV.int IntKind.u8 0, DV.int IntKind.u8 0, DV.int IntKind.u8 0, DV.int IntKind.u8 0, DV.int IntKind.u8 0, DV.int IntKind.u8 0, DV.int IntKind.u8 0, DV.int IntKind.u8 0, DV.int IntKind.u8 0, DV.int IntKind.u8 0, DV.int IntKind.u8 0, DV.int IntKind.u8 0, DV.int IntKind.u8 0, DV.int IntKind.u8 0, DV.int IntKind.u8 0, DV.int IntKind.u8 0, DV.int IntKind.u8 0, DV.int IntKind.u8 0, DV.int IntKind.u8 0, DV.int IntKind.u8 0] := by kernel_rfl
@[simp] theorem lkOf_38 : lkOf Try.prog 38 = LK.agg 32 := by kernel_rfl
@[simp] theorem tk_38 : tk Try.prog 38 = TK.arr 32 (EK.mk 1 1 true (some [DV.int IntKind.u8 0]) LK.one) 32 := by kernel_rfl
@[simp] theorem tzero_38 : tzero Try.prog 38 = some [DV.int IntKind.u8 0, DV.int IntKind.u8 0, DV.int IntKind.u8 0, DV.int IntKind.u8 0, DV.int IntKind.u8 0, DV.int IntKind.u8 0, DV.int IntKind.u8 0, DV.int IntKind.u8 0, DV.int IntKind.u8 0, DV.int IntKind.u8 0, DV.int IntKind.u8 0, DV.int IntKind.u8 0, DV.int IntKind.u8 0, DV.int IntKind.u8 0, DV.int IntKind.u8 0, DV.int IntKind.u8 0, DV.int IntKind.u8 0, DV.int IntKind.u8 0, DV.int IntKind.u8 0, DV.int IntKind.u8 0, DV.int IntKind.u8 0, DV.int IntKind.u8 0, DV.int IntKind.u8 0, DV.int IntKind.u8 0, DV.int IntKind.u8 0, DV.int IntKind.u8 0, DV.int IntKind.u8 0, DV.int IntKind.u8 0, DV.int IntKind.u8 0, DV.int IntKind.u8 0, DV.int IntKind.u8 0, DV.int IntKind.u8 0] := by kernel_rfl
@[simp] theorem lkOf_39 : lkOf Try.prog 39 = LK.agg 43 := by kernel_rfl
@[simp] theorem tk_39 : tk Try.prog 39 = TK.struct [(0, LK.one), (1, LK.one), (2, LK.one), (3, LK.one), (4, LK.one), (5, LK.one), (6, LK.one), (7, LK.one), (8, LK.one), (9, LK.one), (10, LK.one), (11, LK.agg 32)] 43 := by kernel_rfl
@[simp] theorem tzero_39 : tzero Try.prog 39 = some [DV.int IntKind.i64 0, DV.int IntKind.i64 0, DV.int IntKind.i64 0, DV.int IntKind.i64 0, DV.int IntKind.i64 0, DV.int IntKind.i64 0, DV.int IntKind.i64 0, DV.int IntKind.i64 0, DV.list [], DV.list [], DV.list [], DV.int IntKind.u8 0, DV.int IntKind.u8 0, DV.int IntKind.u8 0, DV.int IntKind.u8 0, DV.int IntKind.u8 0, DV.int IntKind.u8 0, DV.int IntKind.u8 0, DV.int IntKind.u8 0, DV.int IntKind.u8 0, DV.int IntKind.u8 0, DV.int IntKind.u8 0, DV.int IntKind.u8 0, DV.int IntKind.u8 0, DV.int IntKind.u8 0, DV.int IntKind.u8 0, DV.int IntKind.u8 0, DV.int IntKind.u8 0, DV.int IntKind.u8 0, DV.int IntKind.u8 0, DV.int IntKind.u8 0, DV.int IntKind.u8 0, DV.int IntKind.u8 0, DV.int IntKind.u8 0, DV.int IntKind.u8 0, DV.int IntKind.u8 0, DV.int IntKind.u8 0, DV.int IntKind.u8 0, DV.int IntKind.u8 0, DV.int IntKind.u8 0, DV.int IntKind.u8 0, DV.int IntKind.u8 0, DV.int IntKind.u8 0] := by kernel_rfl
@[simp] theorem lkOf_40 : lkOf Try.prog 40 = LK.agg 43 := by kernel_rfl
@[simp] theorem tk_40 : tk Try.prog 40 = TK.struct [(0, LK.one), (1, LK.one), (2, LK.one), (3, LK.one), (4, LK.one), (5, LK.one), (6, LK.one), (7, LK.one), (8, LK.one), (9, LK.one), (10, LK.one), (11, LK.agg 32)] 43 := by kernel_rfl
@[simp] theorem tzero_40 : tzero Try.prog 40 = some [DV.int IntKind.i64 0, DV.int IntKind.i64 0, DV.int IntKind.i64 0, DV.int IntKind.i64 0, DV.int IntKind.i64 0, DV.int IntKind.i64 0, DV.int IntKind.i64 0, DV.int IntKind.i64 0, DV.list [], DV.list [], DV.list [], DV.int IntKind.u8 0, DV.int IntKind.u8 0, DV.int IntKind.u8 0, DV.int IntKind.u8 0, DV.int IntKind.u8 0, DV.int IntKind.u8 0, DV.int IntKind.u8 0, DV.int IntKind.u8 0, DV.int IntKind.u8 0, DV.int IntKind.u8 0, DV.int IntKind.u8 0, DV.int IntKind.u8 0, DV.int IntKind.u8 0, DV.int IntKind.u8 0, DV.int IntKind.u8 0, DV.int IntKind.u8 0, DV.int IntKind.u8 0, DV.int IntKind.u8 0, DV.int IntKind.u8 0, DV.int IntKind.u8 0, DV.int IntKind.u8 0, DV.int IntKind.u8 0, DV.int IntKind.u8 0, DV.int IntKind.u8 0, DV.int IntKind.u8 0, DV.int IntKind.u8 0, DV.int IntKind.u8 0, DV.int IntKind.u8 0, DV.int IntKind.u8 0, DV.int IntKind.u8 0, DV.int IntKind.u8 0, DV.int IntKind.u8 0] := by kernel_rfl
@[simp] theorem lkOf_41 : lkOf Try.prog 41 = LK.one := by kernel_rfl
@[simp] theorem tk_41 : tk Try.prog 41 = TK.one := by kernel_rfl
@[simp] theorem tzero_41 : tzero Try.prog 41 = some [DV.nilf] := by kernel_rfl
@[simp] theorem lkOf_42 : lkOf Try.prog 42 = LK.one := by kernel_rfl
@[simp] theorem tk_42 : tk Try.prog 42 = TK.one := by kernel_rfl
@[simp] theorem tzero_42 : tzero Try.prog 42 = some [DV.nilf] := by kernel_rfl
@[simp] theorem lkOf_43 : lkOf Try.prog 43 = LK.one := by kernel_rfl
@[simp] theorem tk_43 : tk Try.prog 43 = TK.slice (EK.mk 1 24 false (some [DV.list []]) LK.one) := by kernel_rfl
@[simp] theorem tzero_43 : tzero Try.prog 43 = some [DV.list []] := by kernel_rfl
@[simp] theorem lkOf_44 : lkOf Try.prog 44 = LK.agg 2 := by kernel_rfl
@[simp] theorem tk_44 : tk Try.prog 44 = TK.struct [(0, LK.one), (1, LK.one)] 2 := by kernel_rfl
@[simp] theorem tzero_44 : tzero Try.prog 44 = some [DV.list [], DV.list []] := by kernel_rfl
@[simp] theorem lkOf_45 : lkOf Try.prog 45 = LK.agg 2 := by kernel_rfl
@[simp] theorem tk_45 : tk Try.prog 45 = TK.struct [(0, LK.one), (1, LK.one)] 2 := by kernel_rfl
@[simp] theorem tzero_45 : tzero Try.prog 45 = some [DV.list [], DV.list []] := by kernel_rfl
@[simp] theorem lkOf_46 : lkOf Try.prog 46 = LK.one := by kernel_rfl
@[simp] theorem tk_46 : tk Try.prog 46 = TK.slice (EK.mk 1 24 false (some [DV.list []]) LK.one) := by kernel_rfl
@[simp] theorem tzero_46 : tzero Try.prog 46 = some [DV.list []] := by kernel_rfl
@[simp] theorem lkOf_47 : lkOf Try.prog 47 = LK.one := by kernel_rfl
@[simp] theorem tk_47 : tk Try.prog 47 = TK.slice (EK.mk 1 1 false (some [DV.bool false]) LK.one) := by kernel_rfl
@[simp] theorem tzero_47 : tzero Try.prog 47 = some [DV.list []] := by kernel_rfl
@[simp] theorem lkOf_48 : lkOf Try.prog 48 = LK.agg 5 := by kernel_rfl
@[simp] theorem tk_48 : tk Try.prog 48 = TK.struct [(0, LK.one), (1, LK.one), (2, LK.one), (3, LK.one), (4, LK.one)] 5 := by kernel_rfl
@[simp] theorem tzero_48 : tzero Try.prog 48 = some [DV.int IntKind.i64 0, DV.list [], DV.list [], DV.list [], DV.list []] := by kernel_rfl
@[simp] theorem lkOf_49 : lkOf Try.prog 49 = LK.agg 5 := by kernel_rfl
@[simp] theorem tk_49 : tk Try.prog 49 = TK.struct [(0, LK.one), (1, LK.one), (2, LK.one), (3, LK.one), (4, LK.one)] 5 := by kernel_rfl
@[simp] theorem tzero_49 : tzero Try.prog 49 = some [DV.int IntKind.i64 0, DV.list [], DV.list [], DV.list [], DV.list []] := by kernel_rfl
@[simp] theorem lkOf_50 : lkOf Try.prog 50 = LK.one := by kernel_rfl
@[simp] theorem tk_50 : tk Try.prog 50 = TK.one := by kernel_rfl
@[simp] theorem lkOf_51 : lkOf Try.prog 51 = LK.one := by kernel_rfl
@[simp] theorem tk_51 : tk Try.prog 51 = TK.one := by kernel_rfl
@[simp] theorem tzero_51 : tzero Try.prog 51 = some [DV.nilf] := by kernel_rfl
@[simp] theorem lkOf_52 : lkOf Try.prog 52 = LK.one := by kernel_rfl
@[simp] theorem tk_52 : tk Try.prog 52 = TK.one := by kernel_rfl
@[simp] theorem tzero_52 : tzero Try.prog 52 = some [DV.nilf] := by kernel_rfl
@[simp] theorem lkOf_53 : lkOf Try.prog 53 = LK.one := by kernel_rfl
@[simp] theorem tk_53 : tk Try.prog 53 = TK.one := by kernel_rfl
@[simp] theorem tzero_53 : tzero Try.prog 53 = some [DV.nilf] := by kernel_rfl
@[simp] theorem lkOf_54 : lkOf Try.prog 54 = LK.one := by kernel_rfl
@[simp] theorem tk_54 : tk Try.prog 54 = TK.one := by kernel_rfl
@[simp] theorem tzero_54 : tzero Try.prog 54 = some [DV.nilf] := by kernel_rfl
@[simp] theorem lkOf_55 : lkOf Try.prog 55 = LK.one := by kernel_rfl
@[simp] theorem mapT_55 : mapT Try.prog 55 = some (TK.int IntKind.i64, DV.nilm) := by kernel_rfl
@[simp] theorem tk_55 : tk Try.prog 55 = TK.one := by kernel_rfl
@[simp] theorem tzero_55 : tzero Try.prog 55 = some [DV.nilm] := by kernel_rfl
@[simp] theorem lkOf_56 : lkOf Try.prog 56 = LK.one := by kernel_rfl
@[simp] theorem tk_56 : tk Try.prog 56 = TK.one := by kernel_rfl
@[simp] theorem tzero_56 : tzero Try.prog 56 = some [DV.nilf] := by kernel_rfl
@[simp] theorem lkOf_57 : lkOf Try.prog 57 = LK.one := by kernel_rfl
@[simp] theorem tk_57 : tk Try.prog 57 = TK.one := by kernel_rfl
@[simp] theorem tzero_57 : tzero Try.prog 57 = some [DV.nilf] := by kernel_rfl
@[simp] theorem lkOf_58 : lkOf Try.prog 58 = LK.one := by kernel_rfl
@[simp] theorem tk_58 : tk Try.prog 58 = TK.one := by kernel_rfl
@[simp] theorem tzero_58 : tzero Try.prog 58 = some [DV.nilf] := by kernel_rfl
@[simp] theorem lkOf_59 : lkOf Try.prog 59 = LK.one := by kernel_rfl
@[simp] theorem tk_59 : tk Try.prog 59 = TK.one := by kernel_rfl
@[simp] theorem tzero_59 : tzero Try.prog 59 = some [DV.nilf] := by kernel_rfl
@[simp] theorem lkOf_60 : lkOf Try.prog 60 = LK.one := by kernel_rfl
@[simp] theorem tk_60 : tk Try.prog 60 = TK.one := by kernel_rfl
@[simp] theorem tzero_60 : tzero Try.prog 60 = some [DV.nilf] := by kernel_rfl
@[simp] theorem lkOf_61 : lkOf Try.prog 61 = LK.one := by kernel_rfl
@[simp] theorem tk_61 : tk Try.prog 61 = TK.one := by kernel_rfl
@[simp] theorem tzero_61 : tzero Try.prog 61 = some [DV.nilf] := by kernel_rfl
@[simp] theorem lkOf_62 : lkOf Try.prog 62 = LK.one := by kernel_rfl
@[simp] theorem tk_62 : tk Try.prog 62 = TK.one := by kernel_rfl
@[simp] theorem tzero_62 : tzero Try.prog 62 = some [DV.nilf] := by kernel_rfl
@[simp] theorem lkOf_63 : lkOf Try.prog 63 = LK.one := by kernel_rfl
@[simp] theorem tk_63 : tk Try.prog 63 = TK.one := by kernel_rfl
@[simp] theorem tzero_63 : tzero Try.prog 63 = some [DV.nilf] := by kernel_rfl
@[simp] theorem lkOf_64 : lkOf Try.prog 64 = LK.one := by kernel_rfl
@[simp] theorem tk_64 : tk Try.prog 64 = TK.one := by kernel_rfl
@[simp] theorem tzero_64 : tzero Try.prog 64 = some [DV.nilf] := by kernel_rfl
@[simp] theorem lkOf_65 : lkOf Try.prog 65 = LK.one := by kernel_rfl
@[simp] theorem tk_65 : tk Try.prog 65 = TK.one := by kernel_rfl
@[simp] theorem tzero_65 : tzero Try.prog 65 = some [DV.nilf] := by kernel_rfl
@[simp] theorem lkOf_66 : lkOf Try.prog 66 = LK.one := by kernel_rfl
@[simp] theorem tk_66 : tk Try.prog 66 = TK.one := by kernel_rfl
@[simp] theorem tzero_66 : tzero Try.prog 66 = some [DV.nilf] := by kernel_rfl
@[simp] theorem lkOf_67 : lkOf Try.prog 67 = LK.one := by kernel_rfl
@[simp] theorem mapT_67 : mapT Try.prog 67 = some (TK.int IntKind.i64, DV.bool false) := by kernel_rfl
@[simp] theorem tk_67 : tk Try.prog 67 = TK.one := by kernel_rfl
@[simp] theorem tzero_67 : tzero Try.prog 67 = some [DV.nilm] := by kernel_rfl
@[simp] theorem lkOf_68 : lkOf Try.prog 68 = LK.one := by kernel_rfl
@[simp] theorem tk_68 : tk Try.prog 68 = TK.one := by kernel_rfl
@[simp] theorem tzero_68 : tzero Try.prog 68 = some [DV.nilf] := by kernel_rfl
@[simp] theorem lkOf_69 : lkOf Try.prog 69 = LK.one := by kernel_rfl
@[simp] theorem tk_69 : tk Try.prog 69 = TK.one := by kernel_rfl
@[simp] theorem tzero_69 : tzero Try.prog 69 = some [DV.nilf] := by kernel_rfl
@[simp] theorem lkOf_70 : lkOf Try.prog 70 = LK.one := by kernel_rfl
@[simp] theorem tk_70 : tk Try.prog 70 = TK.one := by kernel_rfl
@[simp] theorem tzero_70 : tzero Try.prog 70 = some [DV.nilf] := by kernel_rfl
@[simp] theorem lkOf_71 : lkOf Try.prog 71 = LK.one := by kernel_rfl
@[simp] theorem tk_71 : tk Try.prog 71 = TK.one := by kernel_rfl
@[simp] theorem tzero_71 : tzero Try.prog 71 = some [DV.nilf] := by kernel_rfl
@[simp] theorem lkOf_72 : lkOf Try.prog 72 = LK.one := by kernel_rfl
@[simp] theorem tk_72 : tk Try.prog 72 = TK.one := by kernel_rfl
@[simp] theorem tzero_72 : tzero Try.prog 72 = some [DV.nilf] := by kernel_rfl
@[simp] theorem lkOf_73 : lkOf Try.prog 73 = LK.one := by kernel_rfl
@[simp] theorem tk_73 : tk Try.prog 73 = TK.one := by kernel_rfl
@[simp] theorem tzero_73 : tzero Try.prog 73 = some [DV.nilf] := by kernel_rfl
@[simp] theorem lkOf_74 : lkOf Try.prog 74 = LK.one := by kernel_rfl
@[simp] theorem tk_74 : tk Try.prog 74 = TK.one := by kernel_rfl
@[simp] theorem tzero_74 : tzero Try.prog 74 = some [DV.nilf] := by kernel_rfl
@[simp] theorem lkOf_75 : lkOf Try.prog 75 = LK.one := by kernel_rfl
@[simp] theorem tk_75 : tk Try.prog 75 = TK.slice (EK.mk 2 48 false (some [DV.list [], DV.list []]) (LK.agg 2)) := by kernel_rfl
@[simp] theorem tzero_75 : tzero Try.prog 75 = some [DV.list []] := by kernel_rfl
@[simp] theorem lkOf_76 : lkOf Try.prog 76 = LK.one := by kernel_rfl
@[simp] theorem tk_76 : tk Try.prog 76 = TK.one := by kernel_rfl
@[simp] theorem tzero_76 : tzero Try.prog 76 = some [DV.nilf] := by kernel_rfl
@[simp] theorem lkOf_77 : lkOf Try.prog 77 = LK.agg 2 := by kernel_rfl
@[simp] theorem tk_77 : tk Try.prog 77 = TK.struct [(0, LK.one), (1, LK.one)] 2 := by kernel_rfl
@[simp] theorem tzero_77 : tzero Try.prog 77 = some [DV.list [], DV.list []] := by kernel_rfl
@[simp] theorem lkOf_78 : lkOf Try.prog 78 = LK.one := by kernel_rfl
@[simp] theorem tk_78 : tk Try.prog 78 = TK.one := by kernel_rfl
@[simp] theorem tzero_78 : tzero Try.prog 78 = some [DV.nilf] := by kernel_rfl
@[simp] theorem lkOf_79 : lkOf Try.prog 79 = LK.one := by kernel_rfl
@[simp] theorem tk_79 : tk Try.prog 79 = TK.one := by kernel_rfl
@[simp] theorem tzero_79 : tzero Try.prog 79 = some [DV.nilf] := by kernel_rfl
@[simp] theorem lkOf_80 : lkOf Try.prog 80 = LK.one := by kernel_rfl
@[simp] theorem tk_80 : tk Try.prog 80 = TK.one := by kernel_rfl
@[simp] theorem tzero_80 : tzero Try.prog 80 = some [DV.nilf] := by kernel_rfl
@[simp] theorem lkOf_81 : lkOf Try.prog 81 = LK.one := by kernel_rfl
@[simp] theorem tk_81 : tk Try.prog 81 = TK.one := by kernel_rfl
@[simp] theorem tzero_81 : tzero Try.prog 81 = some [DV.nilf] := by kernel_rfl
@[simp] theorem lkOf_82 : lkOf Try.prog 82 = LK.one := by kernel_rfl
@[simp] theorem tk_82 : tk Try.prog 82 = TK.one := by kernel_rfl
@[simp] theorem tzero_82 : tzero Try.prog 82 = some [DV.nilf] := by kernel_rfl
@[simp] theorem lkOf_83 : lkOf Try.prog 83 = LK.one := by kernel_rfl
@[simp] theorem tk_83 : tk Try.prog 83 = TK.one := by kernel_rfl
@[simp] theorem tzero_83 : tzero Try.prog 83 = some [DV.nilf] := by kernel_rfl
@[simp] theorem lkOf_84 : lkOf Try.prog 84 = LK.one := by kernel_rfl
@[simp] theorem tk_84 : tk Try.prog 84 = TK.one := by kernel_rfl
@[simp] theorem tzero_84 : tzero Try.prog 84 = some [DV.nilf] := by kernel_rfl
@[simp] theorem lkOf_85 : lkOf Try.prog 85 = LK.one := by kernel_rfl
@[simp] theorem tk_85 : tk Try.prog 85 = TK.one := by kernel_rfl
@[simp] theorem tzero_85 : tzero Try.prog 85 = some [DV.nilf] := by kernel_rfl
@[simp] theorem lkOf_86 : lkOf Try.prog 86 = LK.one := by kernel_rfl
@[simp] theorem tk_86 : tk Try.prog 86 = TK.one := by kernel_rfl
@[simp] theorem tzero_86 : tzero Try.prog 86 = some [DV.nilf] := by kernel_rfl
@[simp] theorem lkOf_87 : lkOf Try.prog 87 = LK.one := by kernel_rfl
@[simp] theorem tk_87 : tk Try.prog 87 = TK.one := by kernel_rfl
@[simp] theorem tzero_87 : tzero Try.prog 87 = some [DV.nilf] := by kernel_rfl
@[simp] theorem lkOf_88 : lkOf Try.prog 88 = LK.one := by kernel_rfl
@[simp] theorem tk_88 : tk Try.prog 88 = TK.one := by kernel_rfl
@[simp] theorem tzero_88 : tzero Try.prog 88 = some [DV.nilf] := by kernel_rfl
@[simp] theorem lkOf_89 : lkOf Try.prog 89 = LK.one := by kernel_rfl
@[simp] theorem tk_89 : tk Try.prog 89 = TK.one := by kernel_rfl
@[simp] theorem tzero_89 : tzero Try.prog 89 = some [DV.nilf] := by kernel_rfl
@[simp] theorem lkOf_90 : lkOf Try.prog 90 = LK.one := by kernel_rfl
@[simp] theorem tk_90 : tk Try.prog 90 = TK.one := by kernel_rfl
@[simp] theorem tzero_90 : tzero Try.prog 90 = some [DV.nilf] := by kernel_rfl
@[simp] theorem lkOf_91 : lkOf Try.prog 91 = LK.one := by kernel_rfl
@[simp] theorem tk_91 : tk Try.prog 91 = TK.one := by kernel_rfl
@[simp] theorem tzero_91 : tzero Try.prog 91 = some [DV.nilf] := by kernel_rfl
@[simp] theorem lkOf_92 : lkOf Try.prog 92 = LK.one := by kernel_rfl
@[simp] theorem tk_92 : tk Try.prog 92 = TK.one := by kernel_rfl
@[simp] theorem tzero_92 : tzero Try.prog 92 = some [DV.nilf] := by kernel_rfl
@[simp] theorem lkOf_93 : lkOf Try.prog 93 = LK.one := by kernel_rfl
@[simp] theorem tk_93 : tk Try.prog 93 = TK.one := by kernel_rfl
@[simp] theorem tzero_93 : tzero Try.prog 93 = some [DV.nilf] := by kernel_rfl
@[simp] theorem lkOf_94 : lkOf Try.prog 94 = LK.one := by kernel_rfl
@[simp] theorem tk_94 : tk Try.prog 94 = TK.one := by kernel_rfl
@[simp] theorem tzero_94 : tzero Try.prog 94 = some [DV.nilf] := by kernel_rfl
@[simp] theorem lkOf_95 : lkOf Try.prog 95 = LK.one := by kernel_rfl
@[simp] theorem tk_95 : tk Try.prog 95 = TK.one := by kernel_rfl
@[simp] theorem tzero_95 : tzero Try.prog 95 = some [DV.nilf] := by kernel_rfl
@[simp] theorem lkOf_96 : lkOf Try.prog 96 = LK.one := by kernel_rfl
@[simp] theorem tk_96 : tk Try.prog 96 = TK.one := by kernel_rfl
@[simp] theorem tzero_96 : tzero Try.prog 96 = some [DV.nilf] := by kernel_rfl
@[simp] theorem lkOf_97 : lkOf Try.prog 97 = LK.one := by kernel_rfl
@[simp] theorem tk_97 : tk Try.prog 97 = TK.one := by kernel_rfl
@[simp] theorem tzero_97 : tzero Try.prog 97 = some [DV.nilf] := by kernel_rfl
@[simp] theorem lkOf_98 : lkOf Try.prog 98 = LK.one := by kernel_rfl
@[simp] theorem tk_98 : tk Try.prog 98 = TK.one := by kernel_rfl
@[simp] theorem tzero_98 : tzero Try.prog 98 = some [DV.nilf] := by kernel_rfl
@[simp] theorem lkOf_99 : lkOf Try.prog 99 = LK.one := by kernel_rfl
@[simp] theorem tk_99 : tk Try.prog 99 = TK.one := by kernel_rfl
@[simp] theorem tzero_99 : tzero Try.prog 99 = some [DV.nilf] := by kernel_rfl
@[simp] theorem lkOf_100 : lkOf Try.prog 100 = LK.one := by kernel_rfl
@[simp] theorem tk_100 : tk Try.prog 100 = TK.one := by kernel_rfl
@[simp] theorem tzero_100 : tzero Try.prog 100 = some [DV.nilf] := by kernel_rfl
@[simp] theorem lkOf_101 : lkOf Try.prog 101 = LK.one := by kernel_rfl
@[simp] theorem tk_101 : tk Try.prog 101 = TK.one := by kernel_rfl
@[simp] theorem tzero_101 : tzero Try.prog 101 = some [DV.nilf] := by kernel_rfl
@[simp] theorem lkOf_102 : lkOf Try.prog 102 = LK.one := by kernel_rfl
@[simp] theorem tk_102 : tk Try.prog 102 = TK.int IntKind.i64 := by kernel_rfl
@[simp] theorem tzero_102 : tzero Try.prog 102 = some [DV.int IntKind.i64 0] := by kernel_rfl
@[simp] theorem lkOf_103 : lkOf Try.prog 103 = LK.one := by kernel_rfl
@[simp] theorem tk_103 : tk Try.prog 103 = TK.one := by kernel_rfl
@[simp] theorem lkOf_104 : lkOf Try.prog 104 = LK.one := by kernel_rfl
@[simp] theorem tk_104 : tk Try.prog 104 = TK.one := by kernel_rfl
@[simp] theorem tzero_104 : tzero Try.prog 104 = some [DV.nilf] := by kernel_rfl
@[simp] theorem lkOf_105 : lkOf Try.prog 105 = LK.one := by kernel_rfl
@[simp] theorem tk_105 : tk Try.prog 105 = TK.one := by kernel_rfl
@[simp] theorem tzero_105 : tzero Try.prog 105 = some [DV.nilf] := by kernel_rfl
@[simp] theorem lkOf_106 : lkOf Try.prog 106 = LK.one := by kernel_rfl
@[simp] theorem tk_106 : tk Try.prog 106 = TK.one := by kernel_rfl
@[simp] theorem tzero_106 : tzero Try.prog 106 = some [DV.nilf] := by kernel_rfl
@[simp] theorem lkOf_107 : lkOf Try.prog 107 = LK.one := by kernel_rfl
@[simp] theorem tk_107 : tk Try.prog 107 = TK.one := by kernel_rfl
@[simp] theorem lkOf_108 : lkOf Try.prog 108 = LK.one := by kernel_rfl
@[simp] theorem tk_108 : tk Try.prog 108 = TK.one := by kernel_rfl
@[simp] theorem tzero_108 : tzero Try.prog 108 = some [DV.nilf] := by kernel_rfl
@[simp] theorem lkOf_109 : lkOf Try.prog 109 = LK.one := by kernel_rfl
@[simp] theorem tk_109 : tk Try.prog 109 = TK.one := by kernel_rfl
@[simp] theorem tzero_109 : tzero Try.prog 109 = some [DV.nilf] := by kernel_rfl
@[simp] theorem lkOf_110 : lkOf Try.prog 110 = LK.one := by kernel_rfl
@[simp] theorem tk_110 : tk Try.prog 110 = TK.int IntKind.u32 := by kernel_rfl
@[simp] theorem tzero_110 : tzero Try.prog 110 = some [DV.int IntKind.u32 0] := by kernel_rfl
@[simp] theorem lkOf_111 : lkOf Try.prog 111 = LK.one := by kernel_rfl
@[simp] theorem tk_111 : tk Try.prog 111 = TK.one := by kernel_rfl
@[simp] theorem tzero_111 : tzero Try.prog 111 = some [DV.nilf] := by kernel_rfl
@[simp] theorem lkOf_112 : lkOf Try.prog 112 = LK.one := by kernel_rfl
@[simp] theorem tk_112 : tk Try.prog 112 = TK.int IntKind.u64 := by kernel_rfl
@[simp] theorem tzero_112 : tzero Try.prog 112 = some [DV.int IntKind.u64 0] := by kernel_rfl
@[simp] theorem lkOf_113 : lkOf Try.prog 113 = LK.one := by kernel_rfl
@[simp] theorem tk_113 : tk Try.prog 113 = TK.one := by kernel_rfl
@[simp] theorem tzero_113 : tzero Try.prog 113 = some [DV.nilf] := by kernel_rfl
@[simp] theorem lkOf_114 : lkOf Try.prog 114 = LK.one := by kernel_rfl
@[simp] theorem tk_114 : tk Try.prog 114 = TK.one := by kernel_rfl
@[simp] theorem tzero_114 : tzero Try.prog 114 = some [DV.nilf] := by kernel_rfl
@[simp] theorem lkOf_115 : lkOf Try.prog 115 = LK.one := by kernel_rfl
@[simp] theorem tk_115 : tk Try.prog 115 = TK.one := by kernel_rfl
@[simp] theorem tzero_115 : tzero Try.prog 115 = some [DV.nilf] := by kernel_rfl
@[simp] theorem lkOf_116 : lkOf Try.prog 116 = LK.one := by kernel_rfl
@[simp] theorem tk_116 : tk Try.prog 116 = TK.one := by kernel_rfl
@[simp] theorem tzero_116 : tzero Try.prog 116 = some [DV.nilf] := by kernel_rfl
@[simp] theorem lkOf_117 : lkOf Try.prog 117 = LK.one := by kernel_rfl
@[simp] theorem tk_117 : tk Try.prog 117 = TK.one := by kernel_rfl
@[simp] theorem tzero_117 : tzero Try.prog 117 = some [DV.nilf] := by kernel_rfl
@[simp] theorem lkOf_118 : lkOf Try.prog 118 = LK.one := by kernel_rfl
@[simp] theorem tk_118 : tk Try.prog 118 = TK.one := by kernel_rfl
@[simp] theorem tzero_118 : tzero Try.prog 118 = some [DV.nilf] := by kernel_rfl
@[simp] theorem lkOf_119 : lkOf Try.prog 119 = LK.one := by kernel_rfl
@[simp] theorem tk_119 : tk Try.prog 119 = TK.int IntKind.u64 := by kernel_rfl
@[simp] theorem tzero_119 : tzero Try.prog 119 = some [DV.int IntKind.u64 0] := by kernel_rfl
@[simp] theorem lkOf_120 : lkOf Try.prog 120 = LK.one := by kernel_rfl
@[simp] theorem tk_120 : tk Try.prog 120 = TK.one := by kernel_rfl
@[simp] theorem tzero_120 : tzero Try.prog 120 = some [DV.nilf] := by kernel_rfl
@[simp] theorem lkOf_121 : lkOf Try.prog 121 = LK.one := by kernel_rfl
@[simp] theorem tk_121 : tk Try.prog 121 = TK.one := by kernel_rfl
@[simp] theorem tzero_121 : tzero Try.prog 121 = some [DV.nilf] := by kernel_rfl
@[simp] theorem lkOf_122 : lkOf Try.prog 122 = LK.one := by kernel_rfl
@[simp] theorem tk_122 : tk Try.prog 122 = TK.one := by kernel_rfl
@[simp] theorem tzero_122 : tzero Try.prog 122 = some [DV.nilf] := by kernel_rfl
@[simp] theorem lkOf_123 : lkOf Try.prog 123 = LK.one := by kernel_rfl
@[simp] theorem tk_123 : tk Try.prog 123 = TK.one := by kernel_rfl
@[simp] theorem tzero_123 : tzero Try.prog 123 = some [DV.nilp] := by kernel_rfl
@[simp] theorem lkOf_124 : lkOf Try.prog 124 = LK.one := by kernel_rfl
@[simp] theorem tk_124 : tk Try.prog 124 = TK.one := by kernel_rfl
@[simp] theorem tzero_124 : tzero Try.prog 124 = some [DV.nilf] := by kernel_rfl
@[simp] theorem lkOf_125 : lkOf Try.prog 125 = LK.one := by kernel_rfl
@[simp] theorem tk_125 : tk Try.prog 125 = TK.one := by kernel_rfl
@[simp] theorem tzero_125 : tzero Try.prog 125 = some [DV.nilf] := by kernel_rfl
@[simp] theorem lkOf_126 : lkOf Try.prog 126 = LK.one := by kernel_rfl
@[simp] theorem tk_126 : tk Try.prog 126 = TK.one := by kernel_rfl
@[simp] theorem tzero_126 : tzero Try.prog 126 = some [DV.nilf] := by kernel_rfl
@[simp] theorem lkOf_127 : lkOf Try.prog 127 = LK.one := by kernel_rfl
@[simp] theorem tk_127 : tk Try.prog 127 = TK.one := by kernel_rfl
@[simp] theorem tzero_127 : tzero Try.prog 127 = some [DV.nilp] := by kernel_rfl
@[simp] theorem lkOf_128 : lkOf Try.prog 128 = LK.one := by kernel_rfl
@[simp] theorem tk_128 : tk Try.prog 128 = TK.one := by kernel_rfl
@[simp] theorem lkOf_129 : lkOf Try.prog 129 = LK.one := by kernel_rfl
@[simp] theorem tk_129 : tk Try.prog 129 = TK.one := by kernel_rfl
@[simp] theorem tzero_129 : tzero Try.prog 129 = some [DV.nilf] := by kernel_rfl
@[simp] theorem lkOf_130 : lkOf Try.prog 130 = LK.one := by kernel_rfl
@[simp] theorem tk_130 : tk Try.prog 130 = TK.one := by kernel_rfl
@[simp] theorem tzero_130 : tzero Try.prog 130 = some [DV.nilf] := by kernel_rfl
@[simp] theorem lkOf_131 : lkOf Try.prog 131 = LK.one := by kernel_rfl
@[simp] theorem tk_131 : tk Try.prog 131 = TK.one := by kernel_rfl
@[simp] theorem tzero_131 : tzero Try.prog 131 = some [DV.nilf] := by kernel_rfl
@[simp] theorem lkOf_132 : lkOf Try.prog 132 = LK.agg 4 := by kernel_rfl
@[simp] theorem tk_132 : tk Try.prog 132 = TK.struct [(0, LK.one), (1, LK.one), (2, LK.one), (3, LK.one)] 4 := by kernel_rfl
@[simp] theorem tzero_132 : tzero Try.prog 132 = some [DV.nilp, DV.nilp, DV.nilp, DV.str []] := by kernel_rfl
@[simp] theorem lkOf_133 : lkOf Try.prog 133 = LK.agg 4 := by kernel_rfl
@[simp] theorem tk_133 : tk Try.prog 133 = TK.struct [(0, LK.one), (1, LK.one), (2, LK.one), (3, LK.one)] 4 := by kernel_rfl
@[simp] theorem tzero_133 : tzero Try.prog 133 = some [DV.nilp, DV.nilp, DV.nilp, DV.str []] := by kernel_rfl
@[simp] theorem lkOf_137 : lkOf Try.prog 137 = LK.one := by kernel_rfl
@[simp] theorem tk_137 : tk Try.prog 137 = TK.one := by kernel_rfl
@[simp] theorem tzero_137 : tzero Try.prog 137 = some [DV.nilf] := by kernel_rfl
@[simp] theorem lkOf_138 : lkOf Try.prog 138 = LK.one := by kernel_rfl
@[simp] theorem tk_138 : tk Try.prog 138 = TK.int IntKind.u8 := by kernel_rfl
@[simp] theorem tzero_138 : tzero Try.prog 138 = some [DV.int IntKind.u8 0] := by kernel_rfl
@[simp] theorem lkOf_139 : lkOf Try.prog 139 = LK.one := by kernel_rfl
@[simp] theorem tk_139 : tk Try.prog 139 = TK.int IntKind.u8 := by kernel_rfl
@[simp] theorem tzero_139 : tzero Try.prog 139 = some [DV.int IntKind.u8 0] := by kernel_rfl
@[simp] theorem lkOf_140 : lkOf Try.prog 140 = LK.one := by kernel_rfl
@[simp] theorem tk_140 : tk Try.prog 140 = TK.one := by kernel_rfl
@[simp] theorem tzero_140 : tzero Try.prog 140 = some [DV.nilf] := by kernel_rfl
@[simp] theorem lkOf_141 : lkOf Try.prog 141 = LK.one := by kernel_rfl
@[simp] theorem tk_141 : tk Try.prog 141 = TK.one := by kernel_rfl
@[simp] theorem tzero_141 : tzero Try.prog 141 = some [DV.nilp] := by kernel_rfl
@[simp] theorem lkOf_142 : lkOf Try.prog 142 = LK.one := by kernel_rfl
@[simp] theorem tk_142 : tk Try.prog 142 = TK.int IntKind.i32 := by kernel_rfl
@[simp] theorem tzero_142 : tzero Try.prog 142 = some [DV.int IntKind.i32 0] := by kernel_rfl
@[simp] theorem lkOf_143 : lkOf Try.prog 143 = LK.one := by kernel_rfl
@[simp] theorem tk_143 : tk Try.prog 143 = TK.int IntKind.i32 := by kernel_rfl
@[simp] theorem tzero_143 : tzero Try.prog 143 = some [DV.int IntKind.i32 0] := by kernel_rfl
@[simp] theorem lkOf_144 : lkOf Try.prog 144 = LK.agg 11 := by kernel_rfl
@[simp] theorem tk_144 : tk Try.prog 144 = TK.struct [(0, LK.one), (1, LK.one), (2, LK.one), (3, LK.one), (4, LK.one), (5, LK.one), (6, LK.one), (7, LK.one), (8, LK.one), (9, LK.one), (10, LK.one)] 11 := by kernel_rfl
@[simp] theorem tzero_144 : tzero Try.prog 144 = some [DV.int IntKind.u64 0, DV.int IntKind.u64 0, DV.int IntKind.u32 0, DV.int IntKind.u8 0, DV.int IntKind.u8 0, DV.int IntKind.u8 0, DV.int IntKind.u8 0, DV.nilf, DV.nilp, DV.int IntKind.i32 0, DV.int IntKind.i32 0] := by kernel_rfl
@[simp] theorem lkOf_145 : lkOf Try.prog 145 = LK.agg 11 := by kernel_rfl
@[simp] theorem tk_145 : tk Try.prog 145 = TK.struct [(0, LK.one), (1, LK.one), (2, LK.one), (3, LK.one), (4, LK.one), (5, LK.one), (6, LK.one), (7, LK.one), (8, LK.one), (9, LK.one), (10, LK.one)] 11 := by kernel_rfl
@[simp] theorem tzero_145 : tzero Try.prog 145 = some [DV.int IntKind.u64 0, DV.int IntKind.u64 0, DV.int IntKind.u32 0, DV.int IntKind.u8 0, DV.int IntKind.u8 0, DV.int IntKind.u8 0, DV.int IntKind.u8 0, DV.nilf, DV.nilp, DV.int IntKind.i32 0, DV.int IntKind.i32 0] := by kernel_rfl
@[simp] theorem lkOf_146 : lkOf Try.prog 146 = LK.one := by kernel_rfl
@[simp] theorem tk_146 : tk Try.prog 146 = TK.one := by kernel_rfl
@[simp] theorem tzero_146 : tzero Try.prog 146 = some [DV.nilp] := by kernel_rfl
@[simp] theorem eqg_37 : Try.prog.eqGuardType Try.prog.depth 37 = false := by kernel_rfl
@[simp] theorem eqg_38 : Try.prog.eqGuardType Try.prog.depth 38 = false := by kernel_rfl
theorem mixed : Try.prog.follows .mixedOrders = true := by kernel_rfl
end Go.Bf
