/- Facts of this seat's types and functions, each by the kernel's reckoning; written by program. No conditions. -/
import Derived.Test.YtbdogoccjcifnaaDoorAwx
import Derived.Test.YtbdogoccjcifnaaDoorRows
set_option linter.unusedSimpArgs false
set_option linter.unusedVariables false
namespace Go.Proofs.YtbdogoccjcifnaaDoor

theorem cells_1 : Tryd.prog.cellsOf 1 = 1 := by kernel_rfl
theorem ti_1 : TI Tryd.prog 1 = some (false, 1) := by kernel_rfl
theorem zv_1 : ZV Tryd.prog 1 = some (.any) := by kernel_rfl
theorem zok_1 : ZOk Tryd.prog 1 1 = true := by kernel_rfl
theorem by_1 : byOf Tryd.prog 1 = 8 := by kernel_rfl
theorem cells_2 : Tryd.prog.cellsOf 2 = 1 := by kernel_rfl
theorem ti_2 : TI Tryd.prog 2 = some (false, 1) := by kernel_rfl
theorem intK_2 : intK Tryd.prog 2 = some .i64 := by kernel_rfl
theorem un_2 : Tryd.prog.underlying 2 = some (.int .i64) := by kernel_rfl
theorem zv_2 : ZV Tryd.prog 2 = some (.int .i64 0) := by kernel_rfl
theorem zok_2 : ZOk Tryd.prog 2 1 = true := by kernel_rfl
theorem by_2 : byOf Tryd.prog 2 = 8 := by kernel_rfl
theorem cells_3 : Tryd.prog.cellsOf 3 = 1 := by kernel_rfl
theorem ti_3 : TI Tryd.prog 3 = some (false, 1) := by kernel_rfl
theorem intK_3 : intK Tryd.prog 3 = some .i64 := by kernel_rfl
theorem un_3 : Tryd.prog.underlying 3 = some (.int .i64) := by kernel_rfl
theorem zv_3 : ZV Tryd.prog 3 = some (.int .i64 0) := by kernel_rfl
theorem zok_3 : ZOk Tryd.prog 3 1 = true := by kernel_rfl
theorem by_3 : byOf Tryd.prog 3 = 8 := by kernel_rfl
theorem cells_4 : Tryd.prog.cellsOf 4 = 1 := by kernel_rfl
theorem ti_4 : TI Tryd.prog 4 = some (false, 1) := by kernel_rfl
theorem isBoo_4 : isBoo Tryd.prog 4 = true := by kernel_rfl
theorem zv_4 : ZV Tryd.prog 4 = some (.bool false) := by kernel_rfl
theorem zok_4 : ZOk Tryd.prog 4 1 = true := by kernel_rfl
theorem by_4 : byOf Tryd.prog 4 = 1 := by kernel_rfl
theorem cells_5 : Tryd.prog.cellsOf 5 = 1 := by kernel_rfl
theorem ti_5 : TI Tryd.prog 5 = some (false, 1) := by kernel_rfl
theorem intK_5 : intK Tryd.prog 5 = some .u8 := by kernel_rfl
theorem un_5 : Tryd.prog.underlying 5 = some (.int .u8) := by kernel_rfl
theorem zv_5 : ZV Tryd.prog 5 = some (.int .u8 0) := by kernel_rfl
theorem zok_5 : ZOk Tryd.prog 5 1 = true := by kernel_rfl
theorem by_5 : byOf Tryd.prog 5 = 1 := by kernel_rfl
theorem cells_9 : Tryd.prog.cellsOf 9 = 1 := by kernel_rfl
theorem ti_9 : TI Tryd.prog 9 = some (false, 1) := by kernel_rfl
theorem isStr_9 : isStr Tryd.prog 9 = true := by kernel_rfl
theorem notInt_9 : notInt Tryd.prog 9 = true := by kernel_rfl
theorem zv_9 : ZV Tryd.prog 9 = some (.str []) := by kernel_rfl
theorem zok_9 : ZOk Tryd.prog 9 1 = true := by kernel_rfl
theorem by_9 : byOf Tryd.prog 9 = 16 := by kernel_rfl
theorem cells_12 : Tryd.prog.cellsOf 12 = 1 := by kernel_rfl
theorem ti_12 : TI Tryd.prog 12 = some (false, 1) := by kernel_rfl
theorem intK_12 : intK Tryd.prog 12 = some .u64 := by kernel_rfl
theorem un_12 : Tryd.prog.underlying 12 = some (.int .u64) := by kernel_rfl
theorem zv_12 : ZV Tryd.prog 12 = some (.int .u64 0) := by kernel_rfl
theorem zok_12 : ZOk Tryd.prog 12 1 = true := by kernel_rfl
theorem by_12 : byOf Tryd.prog 12 = 8 := by kernel_rfl
theorem cells_13 : Tryd.prog.cellsOf 13 = 2 := by kernel_rfl
theorem ti_13 : TI Tryd.prog 13 = some (true, 2) := by kernel_rfl
theorem fi_13_0 : FI Tryd.prog 13 0 = some (0, (false, 1)) := by kernel_rfl
theorem fi_13_1 : FI Tryd.prog 13 1 = some (1, (false, 1)) := by kernel_rfl
theorem si_13 : SI Tryd.prog 13 = some [(0, 1), (1, 1)] := by kernel_rfl
theorem zv_13 : ZV Tryd.prog 13 = some (.agg [.str [], .int .u64 0]) := by kernel_rfl
theorem zok_13 : ZOk Tryd.prog 13 2 = true := by kernel_rfl
theorem by_13 : byOf Tryd.prog 13 = 24 := by kernel_rfl
theorem cells_21 : Tryd.prog.cellsOf 21 = 1 := by kernel_rfl
theorem ti_21 : TI Tryd.prog 21 = some (false, 1) := by kernel_rfl
theorem intK_21 : intK Tryd.prog 21 = some .i32 := by kernel_rfl
theorem un_21 : Tryd.prog.underlying 21 = some (.int .i32) := by kernel_rfl
theorem zv_21 : ZV Tryd.prog 21 = some (.int .i32 0) := by kernel_rfl
theorem zok_21 : ZOk Tryd.prog 21 1 = true := by kernel_rfl
theorem by_21 : byOf Tryd.prog 21 = 4 := by kernel_rfl
theorem cells_22 : Tryd.prog.cellsOf 22 = 1 := by kernel_rfl
theorem ti_22 : TI Tryd.prog 22 = some (false, 1) := by kernel_rfl
theorem ei_22 : EI Tryd.prog 22 = some (39, 5) := by kernel_rfl
theorem isSli_22 : isSli Tryd.prog 22 = true := by kernel_rfl
theorem notInt_22 : notInt Tryd.prog 22 = true := by kernel_rfl
theorem zv_22 : ZV Tryd.prog 22 = some (.nils) := by kernel_rfl
theorem zok_22 : ZOk Tryd.prog 22 1 = true := by kernel_rfl
theorem by_22 : byOf Tryd.prog 22 = 24 := by kernel_rfl
theorem cells_23 : Tryd.prog.cellsOf 23 = 1 := by kernel_rfl
theorem ti_23 : TI Tryd.prog 23 = some (false, 1) := by kernel_rfl
theorem ei_23 : EI Tryd.prog 23 = some (47, 4) := by kernel_rfl
theorem isSli_23 : isSli Tryd.prog 23 = true := by kernel_rfl
theorem notInt_23 : notInt Tryd.prog 23 = true := by kernel_rfl
theorem zv_23 : ZV Tryd.prog 23 = some (.nils) := by kernel_rfl
theorem zok_23 : ZOk Tryd.prog 23 1 = true := by kernel_rfl
theorem by_23 : byOf Tryd.prog 23 = 24 := by kernel_rfl
theorem cells_24 : Tryd.prog.cellsOf 24 = 1 := by kernel_rfl
theorem ti_24 : TI Tryd.prog 24 = some (false, 1) := by kernel_rfl
theorem intK_24 : intK Tryd.prog 24 = some .i64 := by kernel_rfl
theorem un_24 : Tryd.prog.underlying 24 = some (.int .i64) := by kernel_rfl
theorem zv_24 : ZV Tryd.prog 24 = some (.int .i64 0) := by kernel_rfl
theorem zok_24 : ZOk Tryd.prog 24 1 = true := by kernel_rfl
theorem by_24 : byOf Tryd.prog 24 = 8 := by kernel_rfl
theorem cells_26 : Tryd.prog.cellsOf 26 = 1 := by kernel_rfl
theorem ti_26 : TI Tryd.prog 26 = some (false, 1) := by kernel_rfl
theorem zv_26 : ZV Tryd.prog 26 = some (.any) := by kernel_rfl
theorem zok_26 : ZOk Tryd.prog 26 1 = true := by kernel_rfl
theorem by_26 : byOf Tryd.prog 26 = 8 := by kernel_rfl
theorem cells_27 : Tryd.prog.cellsOf 27 = 1 := by kernel_rfl
theorem ti_27 : TI Tryd.prog 27 = some (false, 1) := by kernel_rfl
theorem zv_27 : ZV Tryd.prog 27 = some (.any) := by kernel_rfl
theorem zok_27 : ZOk Tryd.prog 27 1 = true := by kernel_rfl
theorem by_27 : byOf Tryd.prog 27 = 8 := by kernel_rfl
theorem cells_28 : Tryd.prog.cellsOf 28 = 1 := by kernel_rfl
theorem ti_28 : TI Tryd.prog 28 = some (false, 1) := by kernel_rfl
theorem zv_28 : ZV Tryd.prog 28 = some (.any) := by kernel_rfl
theorem zok_28 : ZOk Tryd.prog 28 1 = true := by kernel_rfl
theorem by_28 : byOf Tryd.prog 28 = 8 := by kernel_rfl
theorem cells_29 : Tryd.prog.cellsOf 29 = 1 := by kernel_rfl
theorem ti_29 : TI Tryd.prog 29 = some (false, 1) := by kernel_rfl
theorem isPtr_29 : isPtr Tryd.prog 29 = true := by kernel_rfl
theorem zv_29 : ZV Tryd.prog 29 = some (.nilp) := by kernel_rfl
theorem zok_29 : ZOk Tryd.prog 29 1 = true := by kernel_rfl
theorem by_29 : byOf Tryd.prog 29 = 8 := by kernel_rfl
theorem cells_30 : Tryd.prog.cellsOf 30 = 1 := by kernel_rfl
theorem ti_30 : TI Tryd.prog 30 = some (false, 1) := by kernel_rfl
theorem isPtr_30 : isPtr Tryd.prog 30 = true := by kernel_rfl
theorem zv_30 : ZV Tryd.prog 30 = some (.nilp) := by kernel_rfl
theorem zok_30 : ZOk Tryd.prog 30 1 = true := by kernel_rfl
theorem by_30 : byOf Tryd.prog 30 = 8 := by kernel_rfl
theorem cells_31 : Tryd.prog.cellsOf 31 = 1 := by kernel_rfl
theorem ti_31 : TI Tryd.prog 31 = some (false, 1) := by kernel_rfl
theorem isPtr_31 : isPtr Tryd.prog 31 = true := by kernel_rfl
theorem zv_31 : ZV Tryd.prog 31 = some (.nilp) := by kernel_rfl
theorem zok_31 : ZOk Tryd.prog 31 1 = true := by kernel_rfl
theorem by_31 : byOf Tryd.prog 31 = 8 := by kernel_rfl
theorem cells_32 : Tryd.prog.cellsOf 32 = 1 := by kernel_rfl
theorem ti_32 : TI Tryd.prog 32 = some (false, 1) := by kernel_rfl
theorem ei_32 : EI Tryd.prog 32 = some (30, 1) := by kernel_rfl
theorem isSli_32 : isSli Tryd.prog 32 = true := by kernel_rfl
theorem notInt_32 : notInt Tryd.prog 32 = true := by kernel_rfl
theorem zv_32 : ZV Tryd.prog 32 = some (.nils) := by kernel_rfl
theorem zok_32 : ZOk Tryd.prog 32 1 = true := by kernel_rfl
theorem by_32 : byOf Tryd.prog 32 = 24 := by kernel_rfl
theorem cells_33 : Tryd.prog.cellsOf 33 = 4 := by kernel_rfl
theorem ti_33 : TI Tryd.prog 33 = some (true, 4) := by kernel_rfl
theorem fi_33_0 : FI Tryd.prog 33 0 = some (0, (false, 1)) := by kernel_rfl
theorem fi_33_1 : FI Tryd.prog 33 1 = some (1, (false, 1)) := by kernel_rfl
theorem fi_33_2 : FI Tryd.prog 33 2 = some (2, (false, 1)) := by kernel_rfl
theorem fi_33_3 : FI Tryd.prog 33 3 = some (3, (false, 1)) := by kernel_rfl
theorem si_33 : SI Tryd.prog 33 = some [(0, 1), (1, 1), (2, 1), (3, 1)] := by kernel_rfl
theorem zv_33 : ZV Tryd.prog 33 = some (.agg [.nilp, .nils, .str [], .bool false]) := by kernel_rfl
theorem zok_33 : ZOk Tryd.prog 33 4 = true := by kernel_rfl
theorem by_33 : byOf Tryd.prog 33 = 56 := by kernel_rfl
theorem cells_34 : Tryd.prog.cellsOf 34 = 4 := by kernel_rfl
theorem ti_34 : TI Tryd.prog 34 = some (true, 4) := by kernel_rfl
theorem fi_34_0 : FI Tryd.prog 34 0 = some (0, (false, 1)) := by kernel_rfl
theorem fi_34_1 : FI Tryd.prog 34 1 = some (1, (false, 1)) := by kernel_rfl
theorem fi_34_2 : FI Tryd.prog 34 2 = some (2, (false, 1)) := by kernel_rfl
theorem fi_34_3 : FI Tryd.prog 34 3 = some (3, (false, 1)) := by kernel_rfl
theorem si_34 : SI Tryd.prog 34 = some [(0, 1), (1, 1), (2, 1), (3, 1)] := by kernel_rfl
theorem zv_34 : ZV Tryd.prog 34 = some (.agg [.nilp, .nils, .str [], .bool false]) := by kernel_rfl
theorem zok_34 : ZOk Tryd.prog 34 4 = true := by kernel_rfl
theorem by_34 : byOf Tryd.prog 34 = 56 := by kernel_rfl
theorem cells_35 : Tryd.prog.cellsOf 35 = 4 := by kernel_rfl
theorem ti_35 : TI Tryd.prog 35 = some (true, 4) := by kernel_rfl
theorem fi_35_0 : FI Tryd.prog 35 0 = some (0, (false, 1)) := by kernel_rfl
theorem fi_35_1 : FI Tryd.prog 35 1 = some (1, (false, 1)) := by kernel_rfl
theorem fi_35_2 : FI Tryd.prog 35 2 = some (2, (false, 1)) := by kernel_rfl
theorem fi_35_3 : FI Tryd.prog 35 3 = some (3, (false, 1)) := by kernel_rfl
theorem si_35 : SI Tryd.prog 35 = some [(0, 1), (1, 1), (2, 1), (3, 1)] := by kernel_rfl
theorem zv_35 : ZV Tryd.prog 35 = some (.agg [.nilp, .nils, .int .i64 0, .str []]) := by kernel_rfl
theorem zok_35 : ZOk Tryd.prog 35 4 = true := by kernel_rfl
theorem by_35 : byOf Tryd.prog 35 = 56 := by kernel_rfl
theorem cells_36 : Tryd.prog.cellsOf 36 = 4 := by kernel_rfl
theorem ti_36 : TI Tryd.prog 36 = some (true, 4) := by kernel_rfl
theorem fi_36_0 : FI Tryd.prog 36 0 = some (0, (false, 1)) := by kernel_rfl
theorem fi_36_1 : FI Tryd.prog 36 1 = some (1, (false, 1)) := by kernel_rfl
theorem fi_36_2 : FI Tryd.prog 36 2 = some (2, (false, 1)) := by kernel_rfl
theorem fi_36_3 : FI Tryd.prog 36 3 = some (3, (false, 1)) := by kernel_rfl
theorem si_36 : SI Tryd.prog 36 = some [(0, 1), (1, 1), (2, 1), (3, 1)] := by kernel_rfl
theorem zv_36 : ZV Tryd.prog 36 = some (.agg [.nilp, .nils, .int .i64 0, .str []]) := by kernel_rfl
theorem zok_36 : ZOk Tryd.prog 36 4 = true := by kernel_rfl
theorem by_36 : byOf Tryd.prog 36 = 56 := by kernel_rfl
theorem cells_37 : Tryd.prog.cellsOf 37 = 1 := by kernel_rfl
theorem ti_37 : TI Tryd.prog 37 = some (false, 1) := by kernel_rfl
theorem ei_37 : EI Tryd.prog 37 = some (59, 2) := by kernel_rfl
theorem isSli_37 : isSli Tryd.prog 37 = true := by kernel_rfl
theorem notInt_37 : notInt Tryd.prog 37 = true := by kernel_rfl
theorem zv_37 : ZV Tryd.prog 37 = some (.nils) := by kernel_rfl
theorem zok_37 : ZOk Tryd.prog 37 1 = true := by kernel_rfl
theorem by_37 : byOf Tryd.prog 37 = 24 := by kernel_rfl
theorem cells_38 : Tryd.prog.cellsOf 38 = 5 := by kernel_rfl
theorem ti_38 : TI Tryd.prog 38 = some (true, 5) := by kernel_rfl
theorem fi_38_0 : FI Tryd.prog 38 0 = some (0, (false, 1)) := by kernel_rfl
theorem fi_38_1 : FI Tryd.prog 38 1 = some (1, (false, 1)) := by kernel_rfl
theorem fi_38_2 : FI Tryd.prog 38 2 = some (2, (false, 1)) := by kernel_rfl
theorem fi_38_3 : FI Tryd.prog 38 3 = some (3, (false, 1)) := by kernel_rfl
theorem fi_38_4 : FI Tryd.prog 38 4 = some (4, (false, 1)) := by kernel_rfl
theorem si_38 : SI Tryd.prog 38 = some [(0, 1), (1, 1), (2, 1), (3, 1), (4, 1)] := by kernel_rfl
theorem zv_38 : ZV Tryd.prog 38 = some (.agg [.int .i64 0, .str [], .nils, .bool false, .str []]) := by kernel_rfl
theorem zok_38 : ZOk Tryd.prog 38 5 = true := by kernel_rfl
theorem by_38 : byOf Tryd.prog 38 = 72 := by kernel_rfl
theorem cells_39 : Tryd.prog.cellsOf 39 = 5 := by kernel_rfl
theorem ti_39 : TI Tryd.prog 39 = some (true, 5) := by kernel_rfl
theorem fi_39_0 : FI Tryd.prog 39 0 = some (0, (false, 1)) := by kernel_rfl
theorem fi_39_1 : FI Tryd.prog 39 1 = some (1, (false, 1)) := by kernel_rfl
theorem fi_39_2 : FI Tryd.prog 39 2 = some (2, (false, 1)) := by kernel_rfl
theorem fi_39_3 : FI Tryd.prog 39 3 = some (3, (false, 1)) := by kernel_rfl
theorem fi_39_4 : FI Tryd.prog 39 4 = some (4, (false, 1)) := by kernel_rfl
theorem si_39 : SI Tryd.prog 39 = some [(0, 1), (1, 1), (2, 1), (3, 1), (4, 1)] := by kernel_rfl
theorem zv_39 : ZV Tryd.prog 39 = some (.agg [.int .i64 0, .str [], .nils, .bool false, .str []]) := by kernel_rfl
theorem zok_39 : ZOk Tryd.prog 39 5 = true := by kernel_rfl
theorem by_39 : byOf Tryd.prog 39 = 72 := by kernel_rfl
theorem cells_40 : Tryd.prog.cellsOf 40 = 1 := by kernel_rfl
theorem ti_40 : TI Tryd.prog 40 = some (false, 1) := by kernel_rfl
theorem zv_40 : ZV Tryd.prog 40 = some (.any) := by kernel_rfl
theorem zok_40 : ZOk Tryd.prog 40 1 = true := by kernel_rfl
theorem by_40 : byOf Tryd.prog 40 = 8 := by kernel_rfl
theorem cells_41 : Tryd.prog.cellsOf 41 = 1 := by kernel_rfl
theorem ti_41 : TI Tryd.prog 41 = some (false, 1) := by kernel_rfl
theorem zv_41 : ZV Tryd.prog 41 = some (.any) := by kernel_rfl
theorem zok_41 : ZOk Tryd.prog 41 1 = true := by kernel_rfl
theorem by_41 : byOf Tryd.prog 41 = 8 := by kernel_rfl
theorem cells_42 : Tryd.prog.cellsOf 42 = 1 := by kernel_rfl
theorem ti_42 : TI Tryd.prog 42 = some (false, 1) := by kernel_rfl
theorem zv_42 : ZV Tryd.prog 42 = some (.any) := by kernel_rfl
theorem zok_42 : ZOk Tryd.prog 42 1 = true := by kernel_rfl
theorem by_42 : byOf Tryd.prog 42 = 8 := by kernel_rfl
theorem cells_43 : Tryd.prog.cellsOf 43 = 1 := by kernel_rfl
theorem ti_43 : TI Tryd.prog 43 = some (false, 1) := by kernel_rfl
theorem zv_43 : ZV Tryd.prog 43 = some (.any) := by kernel_rfl
theorem zok_43 : ZOk Tryd.prog 43 1 = true := by kernel_rfl
theorem by_43 : byOf Tryd.prog 43 = 8 := by kernel_rfl
theorem cells_44 : Tryd.prog.cellsOf 44 = 1 := by kernel_rfl
theorem ti_44 : TI Tryd.prog 44 = some (false, 1) := by kernel_rfl
theorem zv_44 : ZV Tryd.prog 44 = some (.any) := by kernel_rfl
theorem zok_44 : ZOk Tryd.prog 44 1 = true := by kernel_rfl
theorem by_44 : byOf Tryd.prog 44 = 8 := by kernel_rfl
theorem cells_45 : Tryd.prog.cellsOf 45 = 1 := by kernel_rfl
theorem ti_45 : TI Tryd.prog 45 = some (false, 1) := by kernel_rfl
theorem ei_45 : EI Tryd.prog 45 = some (49, 7) := by kernel_rfl
theorem isSli_45 : isSli Tryd.prog 45 = true := by kernel_rfl
theorem notInt_45 : notInt Tryd.prog 45 = true := by kernel_rfl
theorem zv_45 : ZV Tryd.prog 45 = some (.nils) := by kernel_rfl
theorem zok_45 : ZOk Tryd.prog 45 1 = true := by kernel_rfl
theorem by_45 : byOf Tryd.prog 45 = 24 := by kernel_rfl
theorem cells_46 : Tryd.prog.cellsOf 46 = 4 := by kernel_rfl
theorem ti_46 : TI Tryd.prog 46 = some (true, 4) := by kernel_rfl
theorem fi_46_0 : FI Tryd.prog 46 0 = some (0, (false, 1)) := by kernel_rfl
theorem fi_46_1 : FI Tryd.prog 46 1 = some (1, (false, 1)) := by kernel_rfl
theorem fi_46_2 : FI Tryd.prog 46 2 = some (2, (false, 1)) := by kernel_rfl
theorem fi_46_3 : FI Tryd.prog 46 3 = some (3, (false, 1)) := by kernel_rfl
theorem si_46 : SI Tryd.prog 46 = some [(0, 1), (1, 1), (2, 1), (3, 1)] := by kernel_rfl
theorem zv_46 : ZV Tryd.prog 46 = some (.agg [.str [], .nils, .str [], .nils]) := by kernel_rfl
theorem zok_46 : ZOk Tryd.prog 46 4 = true := by kernel_rfl
theorem by_46 : byOf Tryd.prog 46 = 80 := by kernel_rfl
theorem cells_47 : Tryd.prog.cellsOf 47 = 4 := by kernel_rfl
theorem ti_47 : TI Tryd.prog 47 = some (true, 4) := by kernel_rfl
theorem fi_47_0 : FI Tryd.prog 47 0 = some (0, (false, 1)) := by kernel_rfl
theorem fi_47_1 : FI Tryd.prog 47 1 = some (1, (false, 1)) := by kernel_rfl
theorem fi_47_2 : FI Tryd.prog 47 2 = some (2, (false, 1)) := by kernel_rfl
theorem fi_47_3 : FI Tryd.prog 47 3 = some (3, (false, 1)) := by kernel_rfl
theorem si_47 : SI Tryd.prog 47 = some [(0, 1), (1, 1), (2, 1), (3, 1)] := by kernel_rfl
theorem zv_47 : ZV Tryd.prog 47 = some (.agg [.str [], .nils, .str [], .nils]) := by kernel_rfl
theorem zok_47 : ZOk Tryd.prog 47 4 = true := by kernel_rfl
theorem by_47 : byOf Tryd.prog 47 = 80 := by kernel_rfl
theorem cells_48 : Tryd.prog.cellsOf 48 = 7 := by kernel_rfl
theorem ti_48 : TI Tryd.prog 48 = some (true, 7) := by kernel_rfl
theorem fi_48_0 : FI Tryd.prog 48 0 = some (0, (false, 1)) := by kernel_rfl
theorem fi_48_1 : FI Tryd.prog 48 1 = some (1, (true, 4)) := by kernel_rfl
theorem fi_48_2 : FI Tryd.prog 48 2 = some (5, (false, 1)) := by kernel_rfl
theorem fi_48_3 : FI Tryd.prog 48 3 = some (6, (false, 1)) := by kernel_rfl
theorem si_48 : SI Tryd.prog 48 = some [(0, 1), (1, 4), (5, 1), (6, 1)] := by kernel_rfl
theorem zv_48 : ZV Tryd.prog 48 = some (.agg [.int .i64 0, .str [], .nils, .str [], .nils, .bool false, .bool false]) := by kernel_rfl
theorem zok_48 : ZOk Tryd.prog 48 7 = true := by kernel_rfl
theorem by_48 : byOf Tryd.prog 48 = 96 := by kernel_rfl
theorem cells_49 : Tryd.prog.cellsOf 49 = 7 := by kernel_rfl
theorem ti_49 : TI Tryd.prog 49 = some (true, 7) := by kernel_rfl
theorem fi_49_0 : FI Tryd.prog 49 0 = some (0, (false, 1)) := by kernel_rfl
theorem fi_49_1 : FI Tryd.prog 49 1 = some (1, (true, 4)) := by kernel_rfl
theorem fi_49_2 : FI Tryd.prog 49 2 = some (5, (false, 1)) := by kernel_rfl
theorem fi_49_3 : FI Tryd.prog 49 3 = some (6, (false, 1)) := by kernel_rfl
theorem si_49 : SI Tryd.prog 49 = some [(0, 1), (1, 4), (5, 1), (6, 1)] := by kernel_rfl
theorem zv_49 : ZV Tryd.prog 49 = some (.agg [.int .i64 0, .str [], .nils, .str [], .nils, .bool false, .bool false]) := by kernel_rfl
theorem zok_49 : ZOk Tryd.prog 49 7 = true := by kernel_rfl
theorem by_49 : byOf Tryd.prog 49 = 96 := by kernel_rfl
theorem cells_50 : Tryd.prog.cellsOf 50 = 1 := by kernel_rfl
theorem ti_50 : TI Tryd.prog 50 = some (false, 1) := by kernel_rfl
theorem zv_50 : ZV Tryd.prog 50 = some (.any) := by kernel_rfl
theorem zok_50 : ZOk Tryd.prog 50 1 = true := by kernel_rfl
theorem by_50 : byOf Tryd.prog 50 = 8 := by kernel_rfl
theorem cells_51 : Tryd.prog.cellsOf 51 = 1 := by kernel_rfl
theorem ti_51 : TI Tryd.prog 51 = some (false, 1) := by kernel_rfl
theorem zv_51 : ZV Tryd.prog 51 = some (.any) := by kernel_rfl
theorem zok_51 : ZOk Tryd.prog 51 1 = true := by kernel_rfl
theorem by_51 : byOf Tryd.prog 51 = 8 := by kernel_rfl
theorem cells_52 : Tryd.prog.cellsOf 52 = 1 := by kernel_rfl
theorem ti_52 : TI Tryd.prog 52 = some (false, 1) := by kernel_rfl
theorem zv_52 : ZV Tryd.prog 52 = some (.any) := by kernel_rfl
theorem zok_52 : ZOk Tryd.prog 52 1 = true := by kernel_rfl
theorem by_52 : byOf Tryd.prog 52 = 8 := by kernel_rfl
theorem cells_53 : Tryd.prog.cellsOf 53 = 1 := by kernel_rfl
theorem ti_53 : TI Tryd.prog 53 = some (false, 1) := by kernel_rfl
theorem zv_53 : ZV Tryd.prog 53 = some (.any) := by kernel_rfl
theorem zok_53 : ZOk Tryd.prog 53 1 = true := by kernel_rfl
theorem by_53 : byOf Tryd.prog 53 = 8 := by kernel_rfl
theorem cells_54 : Tryd.prog.cellsOf 54 = 1 := by kernel_rfl
theorem ti_54 : TI Tryd.prog 54 = some (false, 1) := by kernel_rfl
theorem zv_54 : ZV Tryd.prog 54 = some (.any) := by kernel_rfl
theorem zok_54 : ZOk Tryd.prog 54 1 = true := by kernel_rfl
theorem by_54 : byOf Tryd.prog 54 = 8 := by kernel_rfl
theorem cells_55 : Tryd.prog.cellsOf 55 = 1 := by kernel_rfl
theorem ti_55 : TI Tryd.prog 55 = some (false, 1) := by kernel_rfl
theorem ei_55 : EI Tryd.prog 55 = some (9, 1) := by kernel_rfl
theorem isSli_55 : isSli Tryd.prog 55 = true := by kernel_rfl
theorem notInt_55 : notInt Tryd.prog 55 = true := by kernel_rfl
theorem zv_55 : ZV Tryd.prog 55 = some (.nils) := by kernel_rfl
theorem zok_55 : ZOk Tryd.prog 55 1 = true := by kernel_rfl
theorem by_55 : byOf Tryd.prog 55 = 24 := by kernel_rfl
theorem cells_56 : Tryd.prog.cellsOf 56 = 9 := by kernel_rfl
theorem ti_56 : TI Tryd.prog 56 = some (true, 9) := by kernel_rfl
theorem ai_56 : AI Tryd.prog 56 = some (9, (false, 1)) := by kernel_rfl
theorem zv_56 : ZV Tryd.prog 56 = some (.agg [.str [], .str [], .str [], .str [], .str [], .str [], .str [], .str [], .str []]) := by kernel_rfl
theorem zok_56 : ZOk Tryd.prog 56 9 = true := by kernel_rfl
theorem by_56 : byOf Tryd.prog 56 = 144 := by kernel_rfl
theorem cells_57 : Tryd.prog.cellsOf 57 = 1 := by kernel_rfl
theorem ti_57 : TI Tryd.prog 57 = some (false, 1) := by kernel_rfl
theorem zv_57 : ZV Tryd.prog 57 = some (.any) := by kernel_rfl
theorem zok_57 : ZOk Tryd.prog 57 1 = true := by kernel_rfl
theorem by_57 : byOf Tryd.prog 57 = 8 := by kernel_rfl
theorem cells_58 : Tryd.prog.cellsOf 58 = 2 := by kernel_rfl
theorem ti_58 : TI Tryd.prog 58 = some (true, 2) := by kernel_rfl
theorem fi_58_0 : FI Tryd.prog 58 0 = some (0, (false, 1)) := by kernel_rfl
theorem fi_58_1 : FI Tryd.prog 58 1 = some (1, (false, 1)) := by kernel_rfl
theorem si_58 : SI Tryd.prog 58 = some [(0, 1), (1, 1)] := by kernel_rfl
theorem zv_58 : ZV Tryd.prog 58 = some (.agg [.str [], .str []]) := by kernel_rfl
theorem zok_58 : ZOk Tryd.prog 58 2 = true := by kernel_rfl
theorem by_58 : byOf Tryd.prog 58 = 32 := by kernel_rfl
theorem cells_59 : Tryd.prog.cellsOf 59 = 2 := by kernel_rfl
theorem ti_59 : TI Tryd.prog 59 = some (true, 2) := by kernel_rfl
theorem fi_59_0 : FI Tryd.prog 59 0 = some (0, (false, 1)) := by kernel_rfl
theorem fi_59_1 : FI Tryd.prog 59 1 = some (1, (false, 1)) := by kernel_rfl
theorem si_59 : SI Tryd.prog 59 = some [(0, 1), (1, 1)] := by kernel_rfl
theorem zv_59 : ZV Tryd.prog 59 = some (.agg [.str [], .str []]) := by kernel_rfl
theorem zok_59 : ZOk Tryd.prog 59 2 = true := by kernel_rfl
theorem by_59 : byOf Tryd.prog 59 = 32 := by kernel_rfl
theorem cells_60 : Tryd.prog.cellsOf 60 = 1 := by kernel_rfl
theorem ti_60 : TI Tryd.prog 60 = some (false, 1) := by kernel_rfl
theorem zv_60 : ZV Tryd.prog 60 = some (.any) := by kernel_rfl
theorem zok_60 : ZOk Tryd.prog 60 1 = true := by kernel_rfl
theorem by_60 : byOf Tryd.prog 60 = 8 := by kernel_rfl
theorem cells_61 : Tryd.prog.cellsOf 61 = 4 := by kernel_rfl
theorem ti_61 : TI Tryd.prog 61 = some (true, 4) := by kernel_rfl
theorem ai_61 : AI Tryd.prog 61 = some (4, (false, 1)) := by kernel_rfl
theorem zv_61 : ZV Tryd.prog 61 = some (.agg [.str [], .str [], .str [], .str []]) := by kernel_rfl
theorem zok_61 : ZOk Tryd.prog 61 4 = true := by kernel_rfl
theorem by_61 : byOf Tryd.prog 61 = 64 := by kernel_rfl
theorem cells_62 : Tryd.prog.cellsOf 62 = 1 := by kernel_rfl
theorem ti_62 : TI Tryd.prog 62 = some (false, 1) := by kernel_rfl
theorem zv_62 : ZV Tryd.prog 62 = some (.any) := by kernel_rfl
theorem zok_62 : ZOk Tryd.prog 62 1 = true := by kernel_rfl
theorem by_62 : byOf Tryd.prog 62 = 8 := by kernel_rfl
theorem cells_63 : Tryd.prog.cellsOf 63 = 1 := by kernel_rfl
theorem ti_63 : TI Tryd.prog 63 = some (false, 1) := by kernel_rfl
theorem zv_63 : ZV Tryd.prog 63 = some (.any) := by kernel_rfl
theorem zok_63 : ZOk Tryd.prog 63 1 = true := by kernel_rfl
theorem by_63 : byOf Tryd.prog 63 = 8 := by kernel_rfl
theorem cells_69 : Tryd.prog.cellsOf 69 = 1 := by kernel_rfl
theorem ti_69 : TI Tryd.prog 69 = some (false, 1) := by kernel_rfl
theorem intK_69 : intK Tryd.prog 69 = some .u32 := by kernel_rfl
theorem un_69 : Tryd.prog.underlying 69 = some (.int .u32) := by kernel_rfl
theorem zv_69 : ZV Tryd.prog 69 = some (.int .u32 0) := by kernel_rfl
theorem zok_69 : ZOk Tryd.prog 69 1 = true := by kernel_rfl
theorem by_69 : byOf Tryd.prog 69 = 4 := by kernel_rfl
theorem cells_73 : Tryd.prog.cellsOf 73 = 1 := by kernel_rfl
theorem ti_73 : TI Tryd.prog 73 = some (false, 1) := by kernel_rfl
theorem isPtr_73 : isPtr Tryd.prog 73 = true := by kernel_rfl
theorem zv_73 : ZV Tryd.prog 73 = some (.nilp) := by kernel_rfl
theorem zok_73 : ZOk Tryd.prog 73 1 = true := by kernel_rfl
theorem by_73 : byOf Tryd.prog 73 = 8 := by kernel_rfl
theorem uns_1 : (Tryd.prog.underlying 1).isSome = true := by kernel_rfl
theorem tok_1 : TOk Tryd.prog 1 { ti := some (false, 1), zv := some (.any), zok := some 1, by' := some 8, un := true } := ⟨ti_1, trivial, trivial, trivial, trivial, zv_1, zok_1, by_1, trivial, trivial, trivial, trivial, trivial, trivial, uns_1, trivial⟩
theorem uns_2 : (Tryd.prog.underlying 2).isSome = true := by kernel_rfl
theorem tok_2 : TOk Tryd.prog 2 { ti := some (false, 1), zv := some (.int .i64 0), zok := some 1, by' := some 8, ik := some .i64, un := true } := ⟨ti_2, trivial, trivial, trivial, trivial, zv_2, zok_2, by_2, intK_2, trivial, trivial, trivial, trivial, trivial, uns_2, trivial⟩
theorem uns_3 : (Tryd.prog.underlying 3).isSome = true := by kernel_rfl
theorem tok_3 : TOk Tryd.prog 3 { ti := some (false, 1), zv := some (.int .i64 0), zok := some 1, by' := some 8, ik := some .i64, un := true } := ⟨ti_3, trivial, trivial, trivial, trivial, zv_3, zok_3, by_3, intK_3, trivial, trivial, trivial, trivial, trivial, uns_3, trivial⟩
theorem uns_4 : (Tryd.prog.underlying 4).isSome = true := by kernel_rfl
theorem tok_4 : TOk Tryd.prog 4 { ti := some (false, 1), zv := some (.bool false), zok := some 1, by' := some 1, boo := true, un := true } := ⟨ti_4, trivial, trivial, trivial, trivial, zv_4, zok_4, by_4, trivial, trivial, trivial, isBoo_4, trivial, trivial, uns_4, trivial⟩
theorem uns_5 : (Tryd.prog.underlying 5).isSome = true := by kernel_rfl
theorem tok_5 : TOk Tryd.prog 5 { ti := some (false, 1), zv := some (.int .u8 0), zok := some 1, by' := some 1, ik := some .u8, un := true } := ⟨ti_5, trivial, trivial, trivial, trivial, zv_5, zok_5, by_5, intK_5, trivial, trivial, trivial, trivial, trivial, uns_5, trivial⟩
theorem uns_9 : (Tryd.prog.underlying 9).isSome = true := by kernel_rfl
theorem tok_9 : TOk Tryd.prog 9 { ti := some (false, 1), zv := some (.str []), zok := some 1, by' := some 16, str := true, ni := true, un := true } := ⟨ti_9, trivial, trivial, trivial, trivial, zv_9, zok_9, by_9, trivial, isStr_9, trivial, trivial, trivial, notInt_9, uns_9, trivial⟩
theorem uns_12 : (Tryd.prog.underlying 12).isSome = true := by kernel_rfl
theorem tok_12 : TOk Tryd.prog 12 { ti := some (false, 1), zv := some (.int .u64 0), zok := some 1, by' := some 8, ik := some .u64, un := true } := ⟨ti_12, trivial, trivial, trivial, trivial, zv_12, zok_12, by_12, intK_12, trivial, trivial, trivial, trivial, trivial, uns_12, trivial⟩
theorem uns_13 : (Tryd.prog.underlying 13).isSome = true := by kernel_rfl
theorem tok_13 : TOk Tryd.prog 13 { ti := some (true, 2), fi := [some (0, (false, 1)), some (1, (false, 1))], si := some [(0, 1), (1, 1)], zv := some (.agg [.str [], .int .u64 0]), zok := some 2, by' := some 24, un := true } := ⟨ti_13, trivial, trivial, ⟨fi_13_0, fi_13_1, trivial⟩, si_13, zv_13, zok_13, by_13, trivial, trivial, trivial, trivial, trivial, trivial, uns_13, trivial⟩
theorem uns_21 : (Tryd.prog.underlying 21).isSome = true := by kernel_rfl
theorem tok_21 : TOk Tryd.prog 21 { ti := some (false, 1), zv := some (.int .i32 0), zok := some 1, by' := some 4, ik := some .i32, un := true } := ⟨ti_21, trivial, trivial, trivial, trivial, zv_21, zok_21, by_21, intK_21, trivial, trivial, trivial, trivial, trivial, uns_21, trivial⟩
theorem uns_22 : (Tryd.prog.underlying 22).isSome = true := by kernel_rfl
theorem tok_22 : TOk Tryd.prog 22 { ti := some (false, 1), ei := some (39, 5), zv := some (.nils), zok := some 1, by' := some 24, sli := true, ni := true, un := true } := ⟨ti_22, ei_22, trivial, trivial, trivial, zv_22, zok_22, by_22, trivial, trivial, isSli_22, trivial, trivial, notInt_22, uns_22, trivial⟩
theorem uns_23 : (Tryd.prog.underlying 23).isSome = true := by kernel_rfl
theorem tok_23 : TOk Tryd.prog 23 { ti := some (false, 1), ei := some (47, 4), zv := some (.nils), zok := some 1, by' := some 24, sli := true, ni := true, un := true } := ⟨ti_23, ei_23, trivial, trivial, trivial, zv_23, zok_23, by_23, trivial, trivial, isSli_23, trivial, trivial, notInt_23, uns_23, trivial⟩
theorem uns_24 : (Tryd.prog.underlying 24).isSome = true := by kernel_rfl
theorem tok_24 : TOk Tryd.prog 24 { ti := some (false, 1), zv := some (.int .i64 0), zok := some 1, by' := some 8, ik := some .i64, un := true } := ⟨ti_24, trivial, trivial, trivial, trivial, zv_24, zok_24, by_24, intK_24, trivial, trivial, trivial, trivial, trivial, uns_24, trivial⟩
theorem uns_26 : (Tryd.prog.underlying 26).isSome = true := by kernel_rfl
theorem tok_26 : TOk Tryd.prog 26 { ti := some (false, 1), zv := some (.any), zok := some 1, by' := some 8, un := true } := ⟨ti_26, trivial, trivial, trivial, trivial, zv_26, zok_26, by_26, trivial, trivial, trivial, trivial, trivial, trivial, uns_26, trivial⟩
theorem uns_27 : (Tryd.prog.underlying 27).isSome = true := by kernel_rfl
theorem tok_27 : TOk Tryd.prog 27 { ti := some (false, 1), zv := some (.any), zok := some 1, by' := some 8, un := true } := ⟨ti_27, trivial, trivial, trivial, trivial, zv_27, zok_27, by_27, trivial, trivial, trivial, trivial, trivial, trivial, uns_27, trivial⟩
theorem uns_28 : (Tryd.prog.underlying 28).isSome = true := by kernel_rfl
theorem tok_28 : TOk Tryd.prog 28 { ti := some (false, 1), zv := some (.any), zok := some 1, by' := some 8, un := true } := ⟨ti_28, trivial, trivial, trivial, trivial, zv_28, zok_28, by_28, trivial, trivial, trivial, trivial, trivial, trivial, uns_28, trivial⟩
theorem uns_29 : (Tryd.prog.underlying 29).isSome = true := by kernel_rfl
theorem tok_29 : TOk Tryd.prog 29 { ti := some (false, 1), zv := some (.nilp), zok := some 1, by' := some 8, ptr := true, un := true } := ⟨ti_29, trivial, trivial, trivial, trivial, zv_29, zok_29, by_29, trivial, trivial, trivial, trivial, isPtr_29, trivial, uns_29, trivial⟩
theorem uns_30 : (Tryd.prog.underlying 30).isSome = true := by kernel_rfl
theorem tok_30 : TOk Tryd.prog 30 { ti := some (false, 1), zv := some (.nilp), zok := some 1, by' := some 8, ptr := true, un := true } := ⟨ti_30, trivial, trivial, trivial, trivial, zv_30, zok_30, by_30, trivial, trivial, trivial, trivial, isPtr_30, trivial, uns_30, trivial⟩
theorem uns_31 : (Tryd.prog.underlying 31).isSome = true := by kernel_rfl
theorem tok_31 : TOk Tryd.prog 31 { ti := some (false, 1), zv := some (.nilp), zok := some 1, by' := some 8, ptr := true, un := true } := ⟨ti_31, trivial, trivial, trivial, trivial, zv_31, zok_31, by_31, trivial, trivial, trivial, trivial, isPtr_31, trivial, uns_31, trivial⟩
theorem uns_32 : (Tryd.prog.underlying 32).isSome = true := by kernel_rfl
theorem tok_32 : TOk Tryd.prog 32 { ti := some (false, 1), ei := some (30, 1), zv := some (.nils), zok := some 1, by' := some 24, sli := true, ni := true, un := true } := ⟨ti_32, ei_32, trivial, trivial, trivial, zv_32, zok_32, by_32, trivial, trivial, isSli_32, trivial, trivial, notInt_32, uns_32, trivial⟩
theorem uns_33 : (Tryd.prog.underlying 33).isSome = true := by kernel_rfl
theorem tok_33 : TOk Tryd.prog 33 { ti := some (true, 4), fi := [some (0, (false, 1)), some (1, (false, 1)), some (2, (false, 1)), some (3, (false, 1))], si := some [(0, 1), (1, 1), (2, 1), (3, 1)], zv := some (.agg [.nilp, .nils, .str [], .bool false]), zok := some 4, by' := some 56, un := true } := ⟨ti_33, trivial, trivial, ⟨fi_33_0, fi_33_1, fi_33_2, fi_33_3, trivial⟩, si_33, zv_33, zok_33, by_33, trivial, trivial, trivial, trivial, trivial, trivial, uns_33, trivial⟩
theorem uns_34 : (Tryd.prog.underlying 34).isSome = true := by kernel_rfl
theorem tok_34 : TOk Tryd.prog 34 { ti := some (true, 4), fi := [some (0, (false, 1)), some (1, (false, 1)), some (2, (false, 1)), some (3, (false, 1))], si := some [(0, 1), (1, 1), (2, 1), (3, 1)], zv := some (.agg [.nilp, .nils, .str [], .bool false]), zok := some 4, by' := some 56, un := true } := ⟨ti_34, trivial, trivial, ⟨fi_34_0, fi_34_1, fi_34_2, fi_34_3, trivial⟩, si_34, zv_34, zok_34, by_34, trivial, trivial, trivial, trivial, trivial, trivial, uns_34, trivial⟩
theorem uns_35 : (Tryd.prog.underlying 35).isSome = true := by kernel_rfl
theorem tok_35 : TOk Tryd.prog 35 { ti := some (true, 4), fi := [some (0, (false, 1)), some (1, (false, 1)), some (2, (false, 1)), some (3, (false, 1))], si := some [(0, 1), (1, 1), (2, 1), (3, 1)], zv := some (.agg [.nilp, .nils, .int .i64 0, .str []]), zok := some 4, by' := some 56, un := true } := ⟨ti_35, trivial, trivial, ⟨fi_35_0, fi_35_1, fi_35_2, fi_35_3, trivial⟩, si_35, zv_35, zok_35, by_35, trivial, trivial, trivial, trivial, trivial, trivial, uns_35, trivial⟩
theorem uns_36 : (Tryd.prog.underlying 36).isSome = true := by kernel_rfl
theorem tok_36 : TOk Tryd.prog 36 { ti := some (true, 4), fi := [some (0, (false, 1)), some (1, (false, 1)), some (2, (false, 1)), some (3, (false, 1))], si := some [(0, 1), (1, 1), (2, 1), (3, 1)], zv := some (.agg [.nilp, .nils, .int .i64 0, .str []]), zok := some 4, by' := some 56, un := true } := ⟨ti_36, trivial, trivial, ⟨fi_36_0, fi_36_1, fi_36_2, fi_36_3, trivial⟩, si_36, zv_36, zok_36, by_36, trivial, trivial, trivial, trivial, trivial, trivial, uns_36, trivial⟩
theorem uns_37 : (Tryd.prog.underlying 37).isSome = true := by kernel_rfl
theorem tok_37 : TOk Tryd.prog 37 { ti := some (false, 1), ei := some (59, 2), zv := some (.nils), zok := some 1, by' := some 24, sli := true, ni := true, un := true } := ⟨ti_37, ei_37, trivial, trivial, trivial, zv_37, zok_37, by_37, trivial, trivial, isSli_37, trivial, trivial, notInt_37, uns_37, trivial⟩
theorem uns_38 : (Tryd.prog.underlying 38).isSome = true := by kernel_rfl
theorem tok_38 : TOk Tryd.prog 38 { ti := some (true, 5), fi := [some (0, (false, 1)), some (1, (false, 1)), some (2, (false, 1)), some (3, (false, 1)), some (4, (false, 1))], si := some [(0, 1), (1, 1), (2, 1), (3, 1), (4, 1)], zv := some (.agg [.int .i64 0, .str [], .nils, .bool false, .str []]), zok := some 5, by' := some 72, un := true } := ⟨ti_38, trivial, trivial, ⟨fi_38_0, fi_38_1, fi_38_2, fi_38_3, fi_38_4, trivial⟩, si_38, zv_38, zok_38, by_38, trivial, trivial, trivial, trivial, trivial, trivial, uns_38, trivial⟩
theorem uns_39 : (Tryd.prog.underlying 39).isSome = true := by kernel_rfl
theorem tok_39 : TOk Tryd.prog 39 { ti := some (true, 5), fi := [some (0, (false, 1)), some (1, (false, 1)), some (2, (false, 1)), some (3, (false, 1)), some (4, (false, 1))], si := some [(0, 1), (1, 1), (2, 1), (3, 1), (4, 1)], zv := some (.agg [.int .i64 0, .str [], .nils, .bool false, .str []]), zok := some 5, by' := some 72, un := true } := ⟨ti_39, trivial, trivial, ⟨fi_39_0, fi_39_1, fi_39_2, fi_39_3, fi_39_4, trivial⟩, si_39, zv_39, zok_39, by_39, trivial, trivial, trivial, trivial, trivial, trivial, uns_39, trivial⟩
theorem uns_40 : (Tryd.prog.underlying 40).isSome = true := by kernel_rfl
theorem tok_40 : TOk Tryd.prog 40 { ti := some (false, 1), zv := some (.any), zok := some 1, by' := some 8, un := true } := ⟨ti_40, trivial, trivial, trivial, trivial, zv_40, zok_40, by_40, trivial, trivial, trivial, trivial, trivial, trivial, uns_40, trivial⟩
theorem uns_41 : (Tryd.prog.underlying 41).isSome = true := by kernel_rfl
theorem tok_41 : TOk Tryd.prog 41 { ti := some (false, 1), zv := some (.any), zok := some 1, by' := some 8, un := true } := ⟨ti_41, trivial, trivial, trivial, trivial, zv_41, zok_41, by_41, trivial, trivial, trivial, trivial, trivial, trivial, uns_41, trivial⟩
theorem uns_42 : (Tryd.prog.underlying 42).isSome = true := by kernel_rfl
theorem tok_42 : TOk Tryd.prog 42 { ti := some (false, 1), zv := some (.any), zok := some 1, by' := some 8, un := true } := ⟨ti_42, trivial, trivial, trivial, trivial, zv_42, zok_42, by_42, trivial, trivial, trivial, trivial, trivial, trivial, uns_42, trivial⟩
theorem uns_43 : (Tryd.prog.underlying 43).isSome = true := by kernel_rfl
theorem tok_43 : TOk Tryd.prog 43 { ti := some (false, 1), zv := some (.any), zok := some 1, by' := some 8, un := true } := ⟨ti_43, trivial, trivial, trivial, trivial, zv_43, zok_43, by_43, trivial, trivial, trivial, trivial, trivial, trivial, uns_43, trivial⟩
theorem uns_44 : (Tryd.prog.underlying 44).isSome = true := by kernel_rfl
theorem tok_44 : TOk Tryd.prog 44 { ti := some (false, 1), zv := some (.any), zok := some 1, by' := some 8, un := true } := ⟨ti_44, trivial, trivial, trivial, trivial, zv_44, zok_44, by_44, trivial, trivial, trivial, trivial, trivial, trivial, uns_44, trivial⟩
theorem uns_45 : (Tryd.prog.underlying 45).isSome = true := by kernel_rfl
theorem tok_45 : TOk Tryd.prog 45 { ti := some (false, 1), ei := some (49, 7), zv := some (.nils), zok := some 1, by' := some 24, sli := true, ni := true, un := true } := ⟨ti_45, ei_45, trivial, trivial, trivial, zv_45, zok_45, by_45, trivial, trivial, isSli_45, trivial, trivial, notInt_45, uns_45, trivial⟩
theorem uns_46 : (Tryd.prog.underlying 46).isSome = true := by kernel_rfl
theorem tok_46 : TOk Tryd.prog 46 { ti := some (true, 4), fi := [some (0, (false, 1)), some (1, (false, 1)), some (2, (false, 1)), some (3, (false, 1))], si := some [(0, 1), (1, 1), (2, 1), (3, 1)], zv := some (.agg [.str [], .nils, .str [], .nils]), zok := some 4, by' := some 80, un := true } := ⟨ti_46, trivial, trivial, ⟨fi_46_0, fi_46_1, fi_46_2, fi_46_3, trivial⟩, si_46, zv_46, zok_46, by_46, trivial, trivial, trivial, trivial, trivial, trivial, uns_46, trivial⟩
theorem uns_47 : (Tryd.prog.underlying 47).isSome = true := by kernel_rfl
theorem tok_47 : TOk Tryd.prog 47 { ti := some (true, 4), fi := [some (0, (false, 1)), some (1, (false, 1)), some (2, (false, 1)), some (3, (false, 1))], si := some [(0, 1), (1, 1), (2, 1), (3, 1)], zv := some (.agg [.str [], .nils, .str [], .nils]), zok := some 4, by' := some 80, un := true } := ⟨ti_47, trivial, trivial, ⟨fi_47_0, fi_47_1, fi_47_2, fi_47_3, trivial⟩, si_47, zv_47, zok_47, by_47, trivial, trivial, trivial, trivial, trivial, trivial, uns_47, trivial⟩
theorem uns_48 : (Tryd.prog.underlying 48).isSome = true := by kernel_rfl
theorem tok_48 : TOk Tryd.prog 48 { ti := some (true, 7), fi := [some (0, (false, 1)), some (1, (true, 4)), some (5, (false, 1)), some (6, (false, 1))], si := some [(0, 1), (1, 4), (5, 1), (6, 1)], zv := some (.agg [.int .i64 0, .str [], .nils, .str [], .nils, .bool false, .bool false]), zok := some 7, by' := some 96, un := true } := ⟨ti_48, trivial, trivial, ⟨fi_48_0, fi_48_1, fi_48_2, fi_48_3, trivial⟩, si_48, zv_48, zok_48, by_48, trivial, trivial, trivial, trivial, trivial, trivial, uns_48, trivial⟩
theorem uns_49 : (Tryd.prog.underlying 49).isSome = true := by kernel_rfl
theorem tok_49 : TOk Tryd.prog 49 { ti := some (true, 7), fi := [some (0, (false, 1)), some (1, (true, 4)), some (5, (false, 1)), some (6, (false, 1))], si := some [(0, 1), (1, 4), (5, 1), (6, 1)], zv := some (.agg [.int .i64 0, .str [], .nils, .str [], .nils, .bool false, .bool false]), zok := some 7, by' := some 96, un := true } := ⟨ti_49, trivial, trivial, ⟨fi_49_0, fi_49_1, fi_49_2, fi_49_3, trivial⟩, si_49, zv_49, zok_49, by_49, trivial, trivial, trivial, trivial, trivial, trivial, uns_49, trivial⟩
theorem uns_50 : (Tryd.prog.underlying 50).isSome = true := by kernel_rfl
theorem tok_50 : TOk Tryd.prog 50 { ti := some (false, 1), zv := some (.any), zok := some 1, by' := some 8, un := true } := ⟨ti_50, trivial, trivial, trivial, trivial, zv_50, zok_50, by_50, trivial, trivial, trivial, trivial, trivial, trivial, uns_50, trivial⟩
theorem uns_51 : (Tryd.prog.underlying 51).isSome = true := by kernel_rfl
theorem tok_51 : TOk Tryd.prog 51 { ti := some (false, 1), zv := some (.any), zok := some 1, by' := some 8, un := true } := ⟨ti_51, trivial, trivial, trivial, trivial, zv_51, zok_51, by_51, trivial, trivial, trivial, trivial, trivial, trivial, uns_51, trivial⟩
theorem uns_52 : (Tryd.prog.underlying 52).isSome = true := by kernel_rfl
theorem tok_52 : TOk Tryd.prog 52 { ti := some (false, 1), zv := some (.any), zok := some 1, by' := some 8, un := true } := ⟨ti_52, trivial, trivial, trivial, trivial, zv_52, zok_52, by_52, trivial, trivial, trivial, trivial, trivial, trivial, uns_52, trivial⟩
theorem uns_53 : (Tryd.prog.underlying 53).isSome = true := by kernel_rfl
theorem tok_53 : TOk Tryd.prog 53 { ti := some (false, 1), zv := some (.any), zok := some 1, by' := some 8, un := true } := ⟨ti_53, trivial, trivial, trivial, trivial, zv_53, zok_53, by_53, trivial, trivial, trivial, trivial, trivial, trivial, uns_53, trivial⟩
theorem uns_54 : (Tryd.prog.underlying 54).isSome = true := by kernel_rfl
theorem tok_54 : TOk Tryd.prog 54 { ti := some (false, 1), zv := some (.any), zok := some 1, by' := some 8, un := true } := ⟨ti_54, trivial, trivial, trivial, trivial, zv_54, zok_54, by_54, trivial, trivial, trivial, trivial, trivial, trivial, uns_54, trivial⟩
theorem uns_55 : (Tryd.prog.underlying 55).isSome = true := by kernel_rfl
theorem tok_55 : TOk Tryd.prog 55 { ti := some (false, 1), ei := some (9, 1), zv := some (.nils), zok := some 1, by' := some 24, sli := true, ni := true, un := true } := ⟨ti_55, ei_55, trivial, trivial, trivial, zv_55, zok_55, by_55, trivial, trivial, isSli_55, trivial, trivial, notInt_55, uns_55, trivial⟩
theorem uns_56 : (Tryd.prog.underlying 56).isSome = true := by kernel_rfl
theorem tok_56 : TOk Tryd.prog 56 { ti := some (true, 9), ai := some (9, (false, 1)), zv := some (.agg [.str [], .str [], .str [], .str [], .str [], .str [], .str [], .str [], .str []]), zok := some 9, by' := some 144, un := true } := ⟨ti_56, trivial, ai_56, trivial, trivial, zv_56, zok_56, by_56, trivial, trivial, trivial, trivial, trivial, trivial, uns_56, trivial⟩
theorem uns_57 : (Tryd.prog.underlying 57).isSome = true := by kernel_rfl
theorem tok_57 : TOk Tryd.prog 57 { ti := some (false, 1), zv := some (.any), zok := some 1, by' := some 8, un := true } := ⟨ti_57, trivial, trivial, trivial, trivial, zv_57, zok_57, by_57, trivial, trivial, trivial, trivial, trivial, trivial, uns_57, trivial⟩
theorem uns_58 : (Tryd.prog.underlying 58).isSome = true := by kernel_rfl
theorem tok_58 : TOk Tryd.prog 58 { ti := some (true, 2), fi := [some (0, (false, 1)), some (1, (false, 1))], si := some [(0, 1), (1, 1)], zv := some (.agg [.str [], .str []]), zok := some 2, by' := some 32, un := true } := ⟨ti_58, trivial, trivial, ⟨fi_58_0, fi_58_1, trivial⟩, si_58, zv_58, zok_58, by_58, trivial, trivial, trivial, trivial, trivial, trivial, uns_58, trivial⟩
theorem sq_59 : SQ Tryd.prog 59 = some [.s, .s] := by kernel_rfl
theorem uns_59 : (Tryd.prog.underlying 59).isSome = true := by kernel_rfl
theorem tok_59 : TOk Tryd.prog 59 { ti := some (true, 2), fi := [some (0, (false, 1)), some (1, (false, 1))], si := some [(0, 1), (1, 1)], zv := some (.agg [.str [], .str []]), zok := some 2, by' := some 32, un := true, sq := some [.s, .s] } := ⟨ti_59, trivial, trivial, ⟨fi_59_0, fi_59_1, trivial⟩, si_59, zv_59, zok_59, by_59, trivial, trivial, trivial, trivial, trivial, trivial, uns_59, sq_59⟩
theorem uns_60 : (Tryd.prog.underlying 60).isSome = true := by kernel_rfl
theorem tok_60 : TOk Tryd.prog 60 { ti := some (false, 1), zv := some (.any), zok := some 1, by' := some 8, un := true } := ⟨ti_60, trivial, trivial, trivial, trivial, zv_60, zok_60, by_60, trivial, trivial, trivial, trivial, trivial, trivial, uns_60, trivial⟩
theorem uns_61 : (Tryd.prog.underlying 61).isSome = true := by kernel_rfl
theorem tok_61 : TOk Tryd.prog 61 { ti := some (true, 4), ai := some (4, (false, 1)), zv := some (.agg [.str [], .str [], .str [], .str []]), zok := some 4, by' := some 64, un := true } := ⟨ti_61, trivial, ai_61, trivial, trivial, zv_61, zok_61, by_61, trivial, trivial, trivial, trivial, trivial, trivial, uns_61, trivial⟩
theorem uns_62 : (Tryd.prog.underlying 62).isSome = true := by kernel_rfl
theorem tok_62 : TOk Tryd.prog 62 { ti := some (false, 1), zv := some (.any), zok := some 1, by' := some 8, un := true } := ⟨ti_62, trivial, trivial, trivial, trivial, zv_62, zok_62, by_62, trivial, trivial, trivial, trivial, trivial, trivial, uns_62, trivial⟩
theorem uns_63 : (Tryd.prog.underlying 63).isSome = true := by kernel_rfl
theorem tok_63 : TOk Tryd.prog 63 { ti := some (false, 1), zv := some (.any), zok := some 1, by' := some 8, un := true } := ⟨ti_63, trivial, trivial, trivial, trivial, zv_63, zok_63, by_63, trivial, trivial, trivial, trivial, trivial, trivial, uns_63, trivial⟩
theorem uns_69 : (Tryd.prog.underlying 69).isSome = true := by kernel_rfl
theorem tok_69 : TOk Tryd.prog 69 { ti := some (false, 1), zv := some (.int .u32 0), zok := some 1, by' := some 4, ik := some .u32, un := true } := ⟨ti_69, trivial, trivial, trivial, trivial, zv_69, zok_69, by_69, intK_69, trivial, trivial, trivial, trivial, trivial, uns_69, trivial⟩
theorem uns_73 : (Tryd.prog.underlying 73).isSome = true := by kernel_rfl
theorem tok_73 : TOk Tryd.prog 73 { ti := some (false, 1), zv := some (.nilp), zok := some 1, by' := some 8, ptr := true, un := true } := ⟨ti_73, trivial, trivial, trivial, trivial, zv_73, zok_73, by_73, trivial, trivial, trivial, trivial, isPtr_73, trivial, uns_73, trivial⟩
def Tryd.tt : TT := (.node (.node (.node (.node (.node (.node .leaf 1 { ti := some (false, 1), zv := some (.any), zok := some 1, by' := some 8, un := true } .leaf) 2 { ti := some (false, 1), zv := some (.int .i64 0), zok := some 1, by' := some 8, ik := some .i64, un := true } (.node .leaf 3 { ti := some (false, 1), zv := some (.int .i64 0), zok := some 1, by' := some 8, ik := some .i64, un := true } .leaf)) 4 { ti := some (false, 1), zv := some (.bool false), zok := some 1, by' := some 1, boo := true, un := true } (.node (.node .leaf 5 { ti := some (false, 1), zv := some (.int .u8 0), zok := some 1, by' := some 1, ik := some .u8, un := true } .leaf) 9 { ti := some (false, 1), zv := some (.str []), zok := some 1, by' := some 16, str := true, ni := true, un := true } .leaf)) 12 { ti := some (false, 1), zv := some (.int .u64 0), zok := some 1, by' := some 8, ik := some .u64, un := true } (.node (.node (.node .leaf 13 { ti := some (true, 2), fi := [some (0, (false, 1)), some (1, (false, 1))], si := some [(0, 1), (1, 1)], zv := some (.agg [.str [], .int .u64 0]), zok := some 2, by' := some 24, un := true } .leaf) 21 { ti := some (false, 1), zv := some (.int .i32 0), zok := some 1, by' := some 4, ik := some .i32, un := true } (.node .leaf 22 { ti := some (false, 1), ei := some (39, 5), zv := some (.nils), zok := some 1, by' := some 24, sli := true, ni := true, un := true } .leaf)) 23 { ti := some (false, 1), ei := some (47, 4), zv := some (.nils), zok := some 1, by' := some 24, sli := true, ni := true, un := true } (.node (.node .leaf 24 { ti := some (false, 1), zv := some (.int .i64 0), zok := some 1, by' := some 8, ik := some .i64, un := true } .leaf) 26 { ti := some (false, 1), zv := some (.any), zok := some 1, by' := some 8, un := true } .leaf))) 27 { ti := some (false, 1), zv := some (.any), zok := some 1, by' := some 8, un := true } (.node (.node (.node (.node .leaf 28 { ti := some (false, 1), zv := some (.any), zok := some 1, by' := some 8, un := true } .leaf) 29 { ti := some (false, 1), zv := some (.nilp), zok := some 1, by' := some 8, ptr := true, un := true } (.node .leaf 30 { ti := some (false, 1), zv := some (.nilp), zok := some 1, by' := some 8, ptr := true, un := true } .leaf)) 31 { ti := some (false, 1), zv := some (.nilp), zok := some 1, by' := some 8, ptr := true, un := true } (.node (.node .leaf 32 { ti := some (false, 1), ei := some (30, 1), zv := some (.nils), zok := some 1, by' := some 24, sli := true, ni := true, un := true } .leaf) 33 { ti := some (true, 4), fi := [some (0, (false, 1)), some (1, (false, 1)), some (2, (false, 1)), some (3, (false, 1))], si := some [(0, 1), (1, 1), (2, 1), (3, 1)], zv := some (.agg [.nilp, .nils, .str [], .bool false]), zok := some 4, by' := some 56, un := true } .leaf)) 34 { ti := some (true, 4), fi := [some (0, (false, 1)), some (1, (false, 1)), some (2, (false, 1)), some (3, (false, 1))], si := some [(0, 1), (1, 1), (2, 1), (3, 1)], zv := some (.agg [.nilp, .nils, .str [], .bool false]), zok := some 4, by' := some 56, un := true } (.node (.node (.node .leaf 35 { ti := some (true, 4), fi := [some (0, (false, 1)), some (1, (false, 1)), some (2, (false, 1)), some (3, (false, 1))], si := some [(0, 1), (1, 1), (2, 1), (3, 1)], zv := some (.agg [.nilp, .nils, .int .i64 0, .str []]), zok := some 4, by' := some 56, un := true } .leaf) 36 { ti := some (true, 4), fi := [some (0, (false, 1)), some (1, (false, 1)), some (2, (false, 1)), some (3, (false, 1))], si := some [(0, 1), (1, 1), (2, 1), (3, 1)], zv := some (.agg [.nilp, .nils, .int .i64 0, .str []]), zok := some 4, by' := some 56, un := true } .leaf) 37 { ti := some (false, 1), ei := some (59, 2), zv := some (.nils), zok := some 1, by' := some 24, sli := true, ni := true, un := true } (.node (.node .leaf 38 { ti := some (true, 5), fi := [some (0, (false, 1)), some (1, (false, 1)), some (2, (false, 1)), some (3, (false, 1)), some (4, (false, 1))], si := some [(0, 1), (1, 1), (2, 1), (3, 1), (4, 1)], zv := some (.agg [.int .i64 0, .str [], .nils, .bool false, .str []]), zok := some 5, by' := some 72, un := true } .leaf) 39 { ti := some (true, 5), fi := [some (0, (false, 1)), some (1, (false, 1)), some (2, (false, 1)), some (3, (false, 1)), some (4, (false, 1))], si := some [(0, 1), (1, 1), (2, 1), (3, 1), (4, 1)], zv := some (.agg [.int .i64 0, .str [], .nils, .bool false, .str []]), zok := some 5, by' := some 72, un := true } .leaf)))) 40 { ti := some (false, 1), zv := some (.any), zok := some 1, by' := some 8, un := true } (.node (.node (.node (.node (.node .leaf 41 { ti := some (false, 1), zv := some (.any), zok := some 1, by' := some 8, un := true } .leaf) 42 { ti := some (false, 1), zv := some (.any), zok := some 1, by' := some 8, un := true } (.node .leaf 43 { ti := some (false, 1), zv := some (.any), zok := some 1, by' := some 8, un := true } .leaf)) 44 { ti := some (false, 1), zv := some (.any), zok := some 1, by' := some 8, un := true } (.node (.node .leaf 45 { ti := some (false, 1), ei := some (49, 7), zv := some (.nils), zok := some 1, by' := some 24, sli := true, ni := true, un := true } .leaf) 46 { ti := some (true, 4), fi := [some (0, (false, 1)), some (1, (false, 1)), some (2, (false, 1)), some (3, (false, 1))], si := some [(0, 1), (1, 1), (2, 1), (3, 1)], zv := some (.agg [.str [], .nils, .str [], .nils]), zok := some 4, by' := some 80, un := true } .leaf)) 47 { ti := some (true, 4), fi := [some (0, (false, 1)), some (1, (false, 1)), some (2, (false, 1)), some (3, (false, 1))], si := some [(0, 1), (1, 1), (2, 1), (3, 1)], zv := some (.agg [.str [], .nils, .str [], .nils]), zok := some 4, by' := some 80, un := true } (.node (.node (.node .leaf 48 { ti := some (true, 7), fi := [some (0, (false, 1)), some (1, (true, 4)), some (5, (false, 1)), some (6, (false, 1))], si := some [(0, 1), (1, 4), (5, 1), (6, 1)], zv := some (.agg [.int .i64 0, .str [], .nils, .str [], .nils, .bool false, .bool false]), zok := some 7, by' := some 96, un := true } .leaf) 49 { ti := some (true, 7), fi := [some (0, (false, 1)), some (1, (true, 4)), some (5, (false, 1)), some (6, (false, 1))], si := some [(0, 1), (1, 4), (5, 1), (6, 1)], zv := some (.agg [.int .i64 0, .str [], .nils, .str [], .nils, .bool false, .bool false]), zok := some 7, by' := some 96, un := true } .leaf) 50 { ti := some (false, 1), zv := some (.any), zok := some 1, by' := some 8, un := true } (.node (.node .leaf 51 { ti := some (false, 1), zv := some (.any), zok := some 1, by' := some 8, un := true } .leaf) 52 { ti := some (false, 1), zv := some (.any), zok := some 1, by' := some 8, un := true } .leaf))) 53 { ti := some (false, 1), zv := some (.any), zok := some 1, by' := some 8, un := true } (.node (.node (.node (.node .leaf 54 { ti := some (false, 1), zv := some (.any), zok := some 1, by' := some 8, un := true } .leaf) 55 { ti := some (false, 1), ei := some (9, 1), zv := some (.nils), zok := some 1, by' := some 24, sli := true, ni := true, un := true } (.node .leaf 56 { ti := some (true, 9), ai := some (9, (false, 1)), zv := some (.agg [.str [], .str [], .str [], .str [], .str [], .str [], .str [], .str [], .str []]), zok := some 9, by' := some 144, un := true } .leaf)) 57 { ti := some (false, 1), zv := some (.any), zok := some 1, by' := some 8, un := true } (.node (.node .leaf 58 { ti := some (true, 2), fi := [some (0, (false, 1)), some (1, (false, 1))], si := some [(0, 1), (1, 1)], zv := some (.agg [.str [], .str []]), zok := some 2, by' := some 32, un := true } .leaf) 59 { ti := some (true, 2), fi := [some (0, (false, 1)), some (1, (false, 1))], si := some [(0, 1), (1, 1)], zv := some (.agg [.str [], .str []]), zok := some 2, by' := some 32, un := true, sq := some [.s, .s] } .leaf)) 60 { ti := some (false, 1), zv := some (.any), zok := some 1, by' := some 8, un := true } (.node (.node (.node .leaf 61 { ti := some (true, 4), ai := some (4, (false, 1)), zv := some (.agg [.str [], .str [], .str [], .str []]), zok := some 4, by' := some 64, un := true } .leaf) 62 { ti := some (false, 1), zv := some (.any), zok := some 1, by' := some 8, un := true } .leaf) 63 { ti := some (false, 1), zv := some (.any), zok := some 1, by' := some 8, un := true } (.node (.node .leaf 69 { ti := some (false, 1), zv := some (.int .u32 0), zok := some 1, by' := some 4, ik := some .u32, un := true } .leaf) 73 { ti := some (false, 1), zv := some (.nilp), zok := some 1, by' := some 8, ptr := true, un := true } .leaf)))))
theorem tt_all : TT.All Tryd.prog Tryd.tt := ⟨⟨⟨⟨⟨⟨trivial, tok_1, trivial⟩, tok_2, ⟨trivial, tok_3, trivial⟩⟩, tok_4, ⟨⟨trivial, tok_5, trivial⟩, tok_9, trivial⟩⟩, tok_12, ⟨⟨⟨trivial, tok_13, trivial⟩, tok_21, ⟨trivial, tok_22, trivial⟩⟩, tok_23, ⟨⟨trivial, tok_24, trivial⟩, tok_26, trivial⟩⟩⟩, tok_27, ⟨⟨⟨⟨trivial, tok_28, trivial⟩, tok_29, ⟨trivial, tok_30, trivial⟩⟩, tok_31, ⟨⟨trivial, tok_32, trivial⟩, tok_33, trivial⟩⟩, tok_34, ⟨⟨⟨trivial, tok_35, trivial⟩, tok_36, trivial⟩, tok_37, ⟨⟨trivial, tok_38, trivial⟩, tok_39, trivial⟩⟩⟩⟩, tok_40, ⟨⟨⟨⟨⟨trivial, tok_41, trivial⟩, tok_42, ⟨trivial, tok_43, trivial⟩⟩, tok_44, ⟨⟨trivial, tok_45, trivial⟩, tok_46, trivial⟩⟩, tok_47, ⟨⟨⟨trivial, tok_48, trivial⟩, tok_49, trivial⟩, tok_50, ⟨⟨trivial, tok_51, trivial⟩, tok_52, trivial⟩⟩⟩, tok_53, ⟨⟨⟨⟨trivial, tok_54, trivial⟩, tok_55, ⟨trivial, tok_56, trivial⟩⟩, tok_57, ⟨⟨trivial, tok_58, trivial⟩, tok_59, trivial⟩⟩, tok_60, ⟨⟨⟨trivial, tok_61, trivial⟩, tok_62, trivial⟩, tok_63, ⟨⟨trivial, tok_69, trivial⟩, tok_73, trivial⟩⟩⟩⟩⟩
theorem hasBody_3 : hasBody Tryd.prog 3 = true := by kernel_rfl
theorem hasBody_4 : hasBody Tryd.prog 4 = true := by kernel_rfl
theorem hasBody_5 : hasBody Tryd.prog 5 = true := by kernel_rfl
theorem hasBody_6 : hasBody Tryd.prog 6 = true := by kernel_rfl
theorem hasBody_7 : hasBody Tryd.prog 7 = true := by kernel_rfl
theorem hasBody_8 : hasBody Tryd.prog 8 = true := by kernel_rfl
theorem hasBody_9 : hasBody Tryd.prog 9 = true := by kernel_rfl
theorem hasBody_10 : hasBody Tryd.prog 10 = true := by kernel_rfl
theorem hasBody_11 : hasBody Tryd.prog 11 = true := by kernel_rfl
theorem hasBody_12 : hasBody Tryd.prog 12 = true := by kernel_rfl
theorem hasBody_13 : hasBody Tryd.prog 13 = true := by kernel_rfl
theorem hasBody_14 : hasBody Tryd.prog 14 = true := by kernel_rfl
theorem hasBody_15 : hasBody Tryd.prog 15 = true := by kernel_rfl
theorem hasBody_16 : hasBody Tryd.prog 16 = true := by kernel_rfl
theorem hasBody_17 : hasBody Tryd.prog 17 = true := by kernel_rfl
theorem hasBody_18 : hasBody Tryd.prog 18 = true := by kernel_rfl
theorem hasBody_19 : hasBody Tryd.prog 19 = true := by kernel_rfl
theorem hasBody_20 : hasBody Tryd.prog 20 = true := by kernel_rfl
theorem hasBody_21 : hasBody Tryd.prog 21 = true := by kernel_rfl
theorem follows_all : Tryd.prog.follows .mixedOrders = true := by kernel_rfl
end Go.Proofs.YtbdogoccjcifnaaDoor
