/- Facts of this seat's types and functions, each by the kernel's reckoning; written by program. No conditions. -/
import Derived.Test.YtaapdbcbefnhgaaDoorAwx
import Derived.Test.YtaapdbcbefnhgaaDoorRows
set_option linter.unusedSimpArgs false
set_option linter.unusedVariables false
namespace Go.Proofs.YtaapdbcbefnhgaaDoor

theorem cells_1 : Tryd.prog.cellsOf 1 = 1 := by kernel_rfl
theorem ti_1 : TI Tryd.prog 1 = some (false, 1) := by kernel_rfl
theorem zv_1 : ZV Tryd.prog 1 = some (.any) := by kernel_rfl
theorem zok_1 : ZOk Tryd.prog 1 1 = true := by kernel_rfl
theorem by_1 : byOf Tryd.prog 1 = 8 := by kernel_rfl
theorem cells_2 : Tryd.prog.cellsOf 2 = 1 := by kernel_rfl
theorem ti_2 : TI Tryd.prog 2 = some (false, 1) := by kernel_rfl
theorem intK_2 : intK Tryd.prog 2 = some .i64 := by kernel_rfl
theorem un_2 : Tryd.prog.underlying 2 = some (.int .i64) := by kernel_rfl
theorem zv_2 : ZV Tryd.prog 2 = some (.int .i64 0) := by kernel_rfl
theorem zok_2 : ZOk Tryd.prog 2 1 = true := by kernel_rfl
theorem by_2 : byOf Tryd.prog 2 = 8 := by kernel_rfl
theorem cells_3 : Tryd.prog.cellsOf 3 = 1 := by kernel_rfl
theorem ti_3 : TI Tryd.prog 3 = some (false, 1) := by kernel_rfl
theorem intK_3 : intK Tryd.prog 3 = some .i64 := by kernel_rfl
theorem un_3 : Tryd.prog.underlying 3 = some (.int .i64) := by kernel_rfl
theorem zv_3 : ZV Tryd.prog 3 = some (.int .i64 0) := by kernel_rfl
theorem zok_3 : ZOk Tryd.prog 3 1 = true := by kernel_rfl
theorem by_3 : byOf Tryd.prog 3 = 8 := by kernel_rfl
theorem cells_4 : Tryd.prog.cellsOf 4 = 1 := by kernel_rfl
theorem ti_4 : TI Tryd.prog 4 = some (false, 1) := by kernel_rfl
theorem isBoo_4 : isBoo Tryd.prog 4 = true := by kernel_rfl
theorem zv_4 : ZV Tryd.prog 4 = some (.bool false) := by kernel_rfl
theorem zok_4 : ZOk Tryd.prog 4 1 = true := by kernel_rfl
theorem by_4 : byOf Tryd.prog 4 = 1 := by kernel_rfl
theorem cells_5 : Tryd.prog.cellsOf 5 = 1 := by kernel_rfl
theorem ti_5 : TI Tryd.prog 5 = some (false, 1) := by kernel_rfl
theorem intK_5 : intK Tryd.prog 5 = some .u8 := by kernel_rfl
theorem un_5 : Tryd.prog.underlying 5 = some (.int .u8) := by kernel_rfl
theorem zv_5 : ZV Tryd.prog 5 = some (.int .u8 0) := by kernel_rfl
theorem zok_5 : ZOk Tryd.prog 5 1 = true := by kernel_rfl
theorem by_5 : byOf Tryd.prog 5 = 1 := by kernel_rfl
theorem cells_9 : Tryd.prog.cellsOf 9 = 1 := by kernel_rfl
theorem ti_9 : TI Tryd.prog 9 = some (false, 1) := by kernel_rfl
theorem isStr_9 : isStr Tryd.prog 9 = true := by kernel_rfl
theorem notInt_9 : notInt Tryd.prog 9 = true := by kernel_rfl
theorem zv_9 : ZV Tryd.prog 9 = some (.str []) := by kernel_rfl
theorem zok_9 : ZOk Tryd.prog 9 1 = true := by kernel_rfl
theorem by_9 : byOf Tryd.prog 9 = 16 := by kernel_rfl
theorem cells_12 : Tryd.prog.cellsOf 12 = 1 := by kernel_rfl
theorem ti_12 : TI Tryd.prog 12 = some (false, 1) := by kernel_rfl
theorem intK_12 : intK Tryd.prog 12 = some .u64 := by kernel_rfl
theorem un_12 : Tryd.prog.underlying 12 = some (.int .u64) := by kernel_rfl
theorem zv_12 : ZV Tryd.prog 12 = some (.int .u64 0) := by kernel_rfl
theorem zok_12 : ZOk Tryd.prog 12 1 = true := by kernel_rfl
theorem by_12 : byOf Tryd.prog 12 = 8 := by kernel_rfl
theorem cells_13 : Tryd.prog.cellsOf 13 = 2 := by kernel_rfl
theorem ti_13 : TI Tryd.prog 13 = some (true, 2) := by kernel_rfl
theorem fi_13_0 : FI Tryd.prog 13 0 = some (0, (false, 1)) := by kernel_rfl
theorem fi_13_1 : FI Tryd.prog 13 1 = some (1, (false, 1)) := by kernel_rfl
theorem si_13 : SI Tryd.prog 13 = some [(0, 1), (1, 1)] := by kernel_rfl
theorem zv_13 : ZV Tryd.prog 13 = some (.agg [.str [], .int .u64 0]) := by kernel_rfl
theorem zok_13 : ZOk Tryd.prog 13 2 = true := by kernel_rfl
theorem by_13 : byOf Tryd.prog 13 = 24 := by kernel_rfl
theorem cells_21 : Tryd.prog.cellsOf 21 = 1 := by kernel_rfl
theorem ti_21 : TI Tryd.prog 21 = some (false, 1) := by kernel_rfl
theorem intK_21 : intK Tryd.prog 21 = some .i32 := by kernel_rfl
theorem un_21 : Tryd.prog.underlying 21 = some (.int .i32) := by kernel_rfl
theorem zv_21 : ZV Tryd.prog 21 = some (.int .i32 0) := by kernel_rfl
theorem zok_21 : ZOk Tryd.prog 21 1 = true := by kernel_rfl
theorem by_21 : byOf Tryd.prog 21 = 4 := by kernel_rfl
theorem cells_22 : Tryd.prog.cellsOf 22 = 1 := by kernel_rfl
theorem ti_22 : TI Tryd.prog 22 = some (false, 1) := by kernel_rfl
theorem ei_22 : EI Tryd.prog 22 = some (50, 5) := by kernel_rfl
theorem isSli_22 : isSli Tryd.prog 22 = true := by kernel_rfl
theorem notInt_22 : notInt Tryd.prog 22 = true := by kernel_rfl
theorem zv_22 : ZV Tryd.prog 22 = some (.nils) := by kernel_rfl
theorem zok_22 : ZOk Tryd.prog 22 1 = true := by kernel_rfl
theorem by_22 : byOf Tryd.prog 22 = 24 := by kernel_rfl
theorem cells_23 : Tryd.prog.cellsOf 23 = 1 := by kernel_rfl
theorem ti_23 : TI Tryd.prog 23 = some (false, 1) := by kernel_rfl
theorem ei_23 : EI Tryd.prog 23 = some (58, 4) := by kernel_rfl
theorem isSli_23 : isSli Tryd.prog 23 = true := by kernel_rfl
theorem notInt_23 : notInt Tryd.prog 23 = true := by kernel_rfl
theorem zv_23 : ZV Tryd.prog 23 = some (.nils) := by kernel_rfl
theorem zok_23 : ZOk Tryd.prog 23 1 = true := by kernel_rfl
theorem by_23 : byOf Tryd.prog 23 = 24 := by kernel_rfl
theorem cells_24 : Tryd.prog.cellsOf 24 = 1 := by kernel_rfl
theorem ti_24 : TI Tryd.prog 24 = some (false, 1) := by kernel_rfl
theorem intK_24 : intK Tryd.prog 24 = some .i64 := by kernel_rfl
theorem un_24 : Tryd.prog.underlying 24 = some (.int .i64) := by kernel_rfl
theorem zv_24 : ZV Tryd.prog 24 = some (.int .i64 0) := by kernel_rfl
theorem zok_24 : ZOk Tryd.prog 24 1 = true := by kernel_rfl
theorem by_24 : byOf Tryd.prog 24 = 8 := by kernel_rfl
theorem cells_26 : Tryd.prog.cellsOf 26 = 1 := by kernel_rfl
theorem ti_26 : TI Tryd.prog 26 = some (false, 1) := by kernel_rfl
theorem zv_26 : ZV Tryd.prog 26 = some (.any) := by kernel_rfl
theorem zok_26 : ZOk Tryd.prog 26 1 = true := by kernel_rfl
theorem by_26 : byOf Tryd.prog 26 = 8 := by kernel_rfl
theorem cells_27 : Tryd.prog.cellsOf 27 = 1 := by kernel_rfl
theorem ti_27 : TI Tryd.prog 27 = some (false, 1) := by kernel_rfl
theorem zv_27 : ZV Tryd.prog 27 = some (.any) := by kernel_rfl
theorem zok_27 : ZOk Tryd.prog 27 1 = true := by kernel_rfl
theorem by_27 : byOf Tryd.prog 27 = 8 := by kernel_rfl
theorem cells_28 : Tryd.prog.cellsOf 28 = 1 := by kernel_rfl
theorem ti_28 : TI Tryd.prog 28 = some (false, 1) := by kernel_rfl
theorem zv_28 : ZV Tryd.prog 28 = some (.any) := by kernel_rfl
theorem zok_28 : ZOk Tryd.prog 28 1 = true := by kernel_rfl
theorem by_28 : byOf Tryd.prog 28 = 8 := by kernel_rfl
theorem cells_29 : Tryd.prog.cellsOf 29 = 1 := by kernel_rfl
theorem ti_29 : TI Tryd.prog 29 = some (false, 1) := by kernel_rfl
theorem ei_29 : EI Tryd.prog 29 = some (9, 1) := by kernel_rfl
theorem isSli_29 : isSli Tryd.prog 29 = true := by kernel_rfl
theorem notInt_29 : notInt Tryd.prog 29 = true := by kernel_rfl
theorem zv_29 : ZV Tryd.prog 29 = some (.nils) := by kernel_rfl
theorem zok_29 : ZOk Tryd.prog 29 1 = true := by kernel_rfl
theorem by_29 : byOf Tryd.prog 29 = 24 := by kernel_rfl
theorem cells_30 : Tryd.prog.cellsOf 30 = 1 := by kernel_rfl
theorem ti_30 : TI Tryd.prog 30 = some (false, 1) := by kernel_rfl
theorem zv_30 : ZV Tryd.prog 30 = some (.any) := by kernel_rfl
theorem zok_30 : ZOk Tryd.prog 30 1 = true := by kernel_rfl
theorem by_30 : byOf Tryd.prog 30 = 8 := by kernel_rfl
theorem cells_31 : Tryd.prog.cellsOf 31 = 1 := by kernel_rfl
theorem ti_31 : TI Tryd.prog 31 = some (false, 1) := by kernel_rfl
theorem zv_31 : ZV Tryd.prog 31 = some (.any) := by kernel_rfl
theorem zok_31 : ZOk Tryd.prog 31 1 = true := by kernel_rfl
theorem by_31 : byOf Tryd.prog 31 = 8 := by kernel_rfl
theorem cells_32 : Tryd.prog.cellsOf 32 = 1 := by kernel_rfl
theorem ti_32 : TI Tryd.prog 32 = some (false, 1) := by kernel_rfl
theorem ei_32 : EI Tryd.prog 32 = some (72, 2) := by kernel_rfl
theorem isSli_32 : isSli Tryd.prog 32 = true := by kernel_rfl
theorem notInt_32 : notInt Tryd.prog 32 = true := by kernel_rfl
theorem zv_32 : ZV Tryd.prog 32 = some (.nils) := by kernel_rfl
theorem zok_32 : ZOk Tryd.prog 32 1 = true := by kernel_rfl
theorem by_32 : byOf Tryd.prog 32 = 24 := by kernel_rfl
theorem cells_34 : Tryd.prog.cellsOf 34 = 1 := by kernel_rfl
theorem ti_34 : TI Tryd.prog 34 = some (false, 1) := by kernel_rfl
theorem zv_34 : ZV Tryd.prog 34 = some (.any) := by kernel_rfl
theorem zok_34 : ZOk Tryd.prog 34 1 = true := by kernel_rfl
theorem by_34 : byOf Tryd.prog 34 = 8 := by kernel_rfl
theorem cells_35 : Tryd.prog.cellsOf 35 = 1 := by kernel_rfl
theorem ti_35 : TI Tryd.prog 35 = some (false, 1) := by kernel_rfl
theorem zv_35 : ZV Tryd.prog 35 = some (.any) := by kernel_rfl
theorem zok_35 : ZOk Tryd.prog 35 1 = true := by kernel_rfl
theorem by_35 : byOf Tryd.prog 35 = 8 := by kernel_rfl
theorem cells_36 : Tryd.prog.cellsOf 36 = 1 := by kernel_rfl
theorem ti_36 : TI Tryd.prog 36 = some (false, 1) := by kernel_rfl
theorem zv_36 : ZV Tryd.prog 36 = some (.any) := by kernel_rfl
theorem zok_36 : ZOk Tryd.prog 36 1 = true := by kernel_rfl
theorem by_36 : byOf Tryd.prog 36 = 8 := by kernel_rfl
theorem cells_37 : Tryd.prog.cellsOf 37 = 1 := by kernel_rfl
theorem ti_37 : TI Tryd.prog 37 = some (false, 1) := by kernel_rfl
theorem zv_37 : ZV Tryd.prog 37 = some (.any) := by kernel_rfl
theorem zok_37 : ZOk Tryd.prog 37 1 = true := by kernel_rfl
theorem by_37 : byOf Tryd.prog 37 = 8 := by kernel_rfl
theorem cells_38 : Tryd.prog.cellsOf 38 = 1 := by kernel_rfl
theorem ti_38 : TI Tryd.prog 38 = some (false, 1) := by kernel_rfl
theorem zv_38 : ZV Tryd.prog 38 = some (.any) := by kernel_rfl
theorem zok_38 : ZOk Tryd.prog 38 1 = true := by kernel_rfl
theorem by_38 : byOf Tryd.prog 38 = 8 := by kernel_rfl
theorem cells_39 : Tryd.prog.cellsOf 39 = 1 := by kernel_rfl
theorem ti_39 : TI Tryd.prog 39 = some (false, 1) := by kernel_rfl
theorem zv_39 : ZV Tryd.prog 39 = some (.any) := by kernel_rfl
theorem zok_39 : ZOk Tryd.prog 39 1 = true := by kernel_rfl
theorem by_39 : byOf Tryd.prog 39 = 8 := by kernel_rfl
theorem cells_40 : Tryd.prog.cellsOf 40 = 1 := by kernel_rfl
theorem ti_40 : TI Tryd.prog 40 = some (false, 1) := by kernel_rfl
theorem isPtr_40 : isPtr Tryd.prog 40 = true := by kernel_rfl
theorem zv_40 : ZV Tryd.prog 40 = some (.nilp) := by kernel_rfl
theorem zok_40 : ZOk Tryd.prog 40 1 = true := by kernel_rfl
theorem by_40 : byOf Tryd.prog 40 = 8 := by kernel_rfl
theorem cells_41 : Tryd.prog.cellsOf 41 = 1 := by kernel_rfl
theorem ti_41 : TI Tryd.prog 41 = some (false, 1) := by kernel_rfl
theorem isPtr_41 : isPtr Tryd.prog 41 = true := by kernel_rfl
theorem zv_41 : ZV Tryd.prog 41 = some (.nilp) := by kernel_rfl
theorem zok_41 : ZOk Tryd.prog 41 1 = true := by kernel_rfl
theorem by_41 : byOf Tryd.prog 41 = 8 := by kernel_rfl
theorem cells_42 : Tryd.prog.cellsOf 42 = 1 := by kernel_rfl
theorem ti_42 : TI Tryd.prog 42 = some (false, 1) := by kernel_rfl
theorem isPtr_42 : isPtr Tryd.prog 42 = true := by kernel_rfl
theorem zv_42 : ZV Tryd.prog 42 = some (.nilp) := by kernel_rfl
theorem zok_42 : ZOk Tryd.prog 42 1 = true := by kernel_rfl
theorem by_42 : byOf Tryd.prog 42 = 8 := by kernel_rfl
theorem cells_43 : Tryd.prog.cellsOf 43 = 1 := by kernel_rfl
theorem ti_43 : TI Tryd.prog 43 = some (false, 1) := by kernel_rfl
theorem ei_43 : EI Tryd.prog 43 = some (41, 1) := by kernel_rfl
theorem isSli_43 : isSli Tryd.prog 43 = true := by kernel_rfl
theorem notInt_43 : notInt Tryd.prog 43 = true := by kernel_rfl
theorem zv_43 : ZV Tryd.prog 43 = some (.nils) := by kernel_rfl
theorem zok_43 : ZOk Tryd.prog 43 1 = true := by kernel_rfl
theorem by_43 : byOf Tryd.prog 43 = 24 := by kernel_rfl
theorem cells_44 : Tryd.prog.cellsOf 44 = 4 := by kernel_rfl
theorem ti_44 : TI Tryd.prog 44 = some (true, 4) := by kernel_rfl
theorem fi_44_0 : FI Tryd.prog 44 0 = some (0, (false, 1)) := by kernel_rfl
theorem fi_44_1 : FI Tryd.prog 44 1 = some (1, (false, 1)) := by kernel_rfl
theorem fi_44_2 : FI Tryd.prog 44 2 = some (2, (false, 1)) := by kernel_rfl
theorem fi_44_3 : FI Tryd.prog 44 3 = some (3, (false, 1)) := by kernel_rfl
theorem si_44 : SI Tryd.prog 44 = some [(0, 1), (1, 1), (2, 1), (3, 1)] := by kernel_rfl
theorem zv_44 : ZV Tryd.prog 44 = some (.agg [.nilp, .nils, .str [], .bool false]) := by kernel_rfl
theorem zok_44 : ZOk Tryd.prog 44 4 = true := by kernel_rfl
theorem by_44 : byOf Tryd.prog 44 = 56 := by kernel_rfl
theorem cells_45 : Tryd.prog.cellsOf 45 = 4 := by kernel_rfl
theorem ti_45 : TI Tryd.prog 45 = some (true, 4) := by kernel_rfl
theorem fi_45_0 : FI Tryd.prog 45 0 = some (0, (false, 1)) := by kernel_rfl
theorem fi_45_1 : FI Tryd.prog 45 1 = some (1, (false, 1)) := by kernel_rfl
theorem fi_45_2 : FI Tryd.prog 45 2 = some (2, (false, 1)) := by kernel_rfl
theorem fi_45_3 : FI Tryd.prog 45 3 = some (3, (false, 1)) := by kernel_rfl
theorem si_45 : SI Tryd.prog 45 = some [(0, 1), (1, 1), (2, 1), (3, 1)] := by kernel_rfl
theorem zv_45 : ZV Tryd.prog 45 = some (.agg [.nilp, .nils, .str [], .bool false]) := by kernel_rfl
theorem zok_45 : ZOk Tryd.prog 45 4 = true := by kernel_rfl
theorem by_45 : byOf Tryd.prog 45 = 56 := by kernel_rfl
theorem cells_46 : Tryd.prog.cellsOf 46 = 4 := by kernel_rfl
theorem ti_46 : TI Tryd.prog 46 = some (true, 4) := by kernel_rfl
theorem fi_46_0 : FI Tryd.prog 46 0 = some (0, (false, 1)) := by kernel_rfl
theorem fi_46_1 : FI Tryd.prog 46 1 = some (1, (false, 1)) := by kernel_rfl
theorem fi_46_2 : FI Tryd.prog 46 2 = some (2, (false, 1)) := by kernel_rfl
theorem fi_46_3 : FI Tryd.prog 46 3 = some (3, (false, 1)) := by kernel_rfl
theorem si_46 : SI Tryd.prog 46 = some [(0, 1), (1, 1), (2, 1), (3, 1)] := by kernel_rfl
theorem zv_46 : ZV Tryd.prog 46 = some (.agg [.nilp, .nils, .int .i64 0, .str []]) := by kernel_rfl
theorem zok_46 : ZOk Tryd.prog 46 4 = true := by kernel_rfl
theorem by_46 : byOf Tryd.prog 46 = 56 := by kernel_rfl
theorem cells_47 : Tryd.prog.cellsOf 47 = 4 := by kernel_rfl
theorem ti_47 : TI Tryd.prog 47 = some (true, 4) := by kernel_rfl
theorem fi_47_0 : FI Tryd.prog 47 0 = some (0, (false, 1)) := by kernel_rfl
theorem fi_47_1 : FI Tryd.prog 47 1 = some (1, (false, 1)) := by kernel_rfl
theorem fi_47_2 : FI Tryd.prog 47 2 = some (2, (false, 1)) := by kernel_rfl
theorem fi_47_3 : FI Tryd.prog 47 3 = some (3, (false, 1)) := by kernel_rfl
theorem si_47 : SI Tryd.prog 47 = some [(0, 1), (1, 1), (2, 1), (3, 1)] := by kernel_rfl
theorem zv_47 : ZV Tryd.prog 47 = some (.agg [.nilp, .nils, .int .i64 0, .str []]) := by kernel_rfl
theorem zok_47 : ZOk Tryd.prog 47 4 = true := by kernel_rfl
theorem by_47 : byOf Tryd.prog 47 = 56 := by kernel_rfl
theorem cells_48 : Tryd.prog.cellsOf 48 = 1 := by kernel_rfl
theorem ti_48 : TI Tryd.prog 48 = some (false, 1) := by kernel_rfl
theorem ei_48 : EI Tryd.prog 48 = some (80, 2) := by kernel_rfl
theorem isSli_48 : isSli Tryd.prog 48 = true := by kernel_rfl
theorem notInt_48 : notInt Tryd.prog 48 = true := by kernel_rfl
theorem zv_48 : ZV Tryd.prog 48 = some (.nils) := by kernel_rfl
theorem zok_48 : ZOk Tryd.prog 48 1 = true := by kernel_rfl
theorem by_48 : byOf Tryd.prog 48 = 24 := by kernel_rfl
theorem cells_49 : Tryd.prog.cellsOf 49 = 5 := by kernel_rfl
theorem ti_49 : TI Tryd.prog 49 = some (true, 5) := by kernel_rfl
theorem fi_49_0 : FI Tryd.prog 49 0 = some (0, (false, 1)) := by kernel_rfl
theorem fi_49_1 : FI Tryd.prog 49 1 = some (1, (false, 1)) := by kernel_rfl
theorem fi_49_2 : FI Tryd.prog 49 2 = some (2, (false, 1)) := by kernel_rfl
theorem fi_49_3 : FI Tryd.prog 49 3 = some (3, (false, 1)) := by kernel_rfl
theorem fi_49_4 : FI Tryd.prog 49 4 = some (4, (false, 1)) := by kernel_rfl
theorem si_49 : SI Tryd.prog 49 = some [(0, 1), (1, 1), (2, 1), (3, 1), (4, 1)] := by kernel_rfl
theorem zv_49 : ZV Tryd.prog 49 = some (.agg [.int .i64 0, .str [], .nils, .bool false, .str []]) := by kernel_rfl
theorem zok_49 : ZOk Tryd.prog 49 5 = true := by kernel_rfl
theorem by_49 : byOf Tryd.prog 49 = 72 := by kernel_rfl
theorem cells_50 : Tryd.prog.cellsOf 50 = 5 := by kernel_rfl
theorem ti_50 : TI Tryd.prog 50 = some (true, 5) := by kernel_rfl
theorem fi_50_0 : FI Tryd.prog 50 0 = some (0, (false, 1)) := by kernel_rfl
theorem fi_50_1 : FI Tryd.prog 50 1 = some (1, (false, 1)) := by kernel_rfl
theorem fi_50_2 : FI Tryd.prog 50 2 = some (2, (false, 1)) := by kernel_rfl
theorem fi_50_3 : FI Tryd.prog 50 3 = some (3, (false, 1)) := by kernel_rfl
theorem fi_50_4 : FI Tryd.prog 50 4 = some (4, (false, 1)) := by kernel_rfl
theorem si_50 : SI Tryd.prog 50 = some [(0, 1), (1, 1), (2, 1), (3, 1), (4, 1)] := by kernel_rfl
theorem zv_50 : ZV Tryd.prog 50 = some (.agg [.int .i64 0, .str [], .nils, .bool false, .str []]) := by kernel_rfl
theorem zok_50 : ZOk Tryd.prog 50 5 = true := by kernel_rfl
theorem by_50 : byOf Tryd.prog 50 = 72 := by kernel_rfl
theorem cells_51 : Tryd.prog.cellsOf 51 = 1 := by kernel_rfl
theorem ti_51 : TI Tryd.prog 51 = some (false, 1) := by kernel_rfl
theorem zv_51 : ZV Tryd.prog 51 = some (.any) := by kernel_rfl
theorem zok_51 : ZOk Tryd.prog 51 1 = true := by kernel_rfl
theorem by_51 : byOf Tryd.prog 51 = 8 := by kernel_rfl
theorem cells_52 : Tryd.prog.cellsOf 52 = 1 := by kernel_rfl
theorem ti_52 : TI Tryd.prog 52 = some (false, 1) := by kernel_rfl
theorem zv_52 : ZV Tryd.prog 52 = some (.any) := by kernel_rfl
theorem zok_52 : ZOk Tryd.prog 52 1 = true := by kernel_rfl
theorem by_52 : byOf Tryd.prog 52 = 8 := by kernel_rfl
theorem cells_53 : Tryd.prog.cellsOf 53 = 1 := by kernel_rfl
theorem ti_53 : TI Tryd.prog 53 = some (false, 1) := by kernel_rfl
theorem zv_53 : ZV Tryd.prog 53 = some (.any) := by kernel_rfl
theorem zok_53 : ZOk Tryd.prog 53 1 = true := by kernel_rfl
theorem by_53 : byOf Tryd.prog 53 = 8 := by kernel_rfl
theorem cells_54 : Tryd.prog.cellsOf 54 = 1 := by kernel_rfl
theorem ti_54 : TI Tryd.prog 54 = some (false, 1) := by kernel_rfl
theorem zv_54 : ZV Tryd.prog 54 = some (.any) := by kernel_rfl
theorem zok_54 : ZOk Tryd.prog 54 1 = true := by kernel_rfl
theorem by_54 : byOf Tryd.prog 54 = 8 := by kernel_rfl
theorem cells_55 : Tryd.prog.cellsOf 55 = 1 := by kernel_rfl
theorem ti_55 : TI Tryd.prog 55 = some (false, 1) := by kernel_rfl
theorem zv_55 : ZV Tryd.prog 55 = some (.any) := by kernel_rfl
theorem zok_55 : ZOk Tryd.prog 55 1 = true := by kernel_rfl
theorem by_55 : byOf Tryd.prog 55 = 8 := by kernel_rfl
theorem cells_56 : Tryd.prog.cellsOf 56 = 1 := by kernel_rfl
theorem ti_56 : TI Tryd.prog 56 = some (false, 1) := by kernel_rfl
theorem ei_56 : EI Tryd.prog 56 = some (60, 7) := by kernel_rfl
theorem isSli_56 : isSli Tryd.prog 56 = true := by kernel_rfl
theorem notInt_56 : notInt Tryd.prog 56 = true := by kernel_rfl
theorem zv_56 : ZV Tryd.prog 56 = some (.nils) := by kernel_rfl
theorem zok_56 : ZOk Tryd.prog 56 1 = true := by kernel_rfl
theorem by_56 : byOf Tryd.prog 56 = 24 := by kernel_rfl
theorem cells_57 : Tryd.prog.cellsOf 57 = 4 := by kernel_rfl
theorem ti_57 : TI Tryd.prog 57 = some (true, 4) := by kernel_rfl
theorem fi_57_0 : FI Tryd.prog 57 0 = some (0, (false, 1)) := by kernel_rfl
theorem fi_57_1 : FI Tryd.prog 57 1 = some (1, (false, 1)) := by kernel_rfl
theorem fi_57_2 : FI Tryd.prog 57 2 = some (2, (false, 1)) := by kernel_rfl
theorem fi_57_3 : FI Tryd.prog 57 3 = some (3, (false, 1)) := by kernel_rfl
theorem si_57 : SI Tryd.prog 57 = some [(0, 1), (1, 1), (2, 1), (3, 1)] := by kernel_rfl
theorem zv_57 : ZV Tryd.prog 57 = some (.agg [.str [], .nils, .str [], .nils]) := by kernel_rfl
theorem zok_57 : ZOk Tryd.prog 57 4 = true := by kernel_rfl
theorem by_57 : byOf Tryd.prog 57 = 80 := by kernel_rfl
theorem cells_58 : Tryd.prog.cellsOf 58 = 4 := by kernel_rfl
theorem ti_58 : TI Tryd.prog 58 = some (true, 4) := by kernel_rfl
theorem fi_58_0 : FI Tryd.prog 58 0 = some (0, (false, 1)) := by kernel_rfl
theorem fi_58_1 : FI Tryd.prog 58 1 = some (1, (false, 1)) := by kernel_rfl
theorem fi_58_2 : FI Tryd.prog 58 2 = some (2, (false, 1)) := by kernel_rfl
theorem fi_58_3 : FI Tryd.prog 58 3 = some (3, (false, 1)) := by kernel_rfl
theorem si_58 : SI Tryd.prog 58 = some [(0, 1), (1, 1), (2, 1), (3, 1)] := by kernel_rfl
theorem zv_58 : ZV Tryd.prog 58 = some (.agg [.str [], .nils, .str [], .nils]) := by kernel_rfl
theorem zok_58 : ZOk Tryd.prog 58 4 = true := by kernel_rfl
theorem by_58 : byOf Tryd.prog 58 = 80 := by kernel_rfl
theorem cells_59 : Tryd.prog.cellsOf 59 = 7 := by kernel_rfl
theorem ti_59 : TI Tryd.prog 59 = some (true, 7) := by kernel_rfl
theorem fi_59_0 : FI Tryd.prog 59 0 = some (0, (false, 1)) := by kernel_rfl
theorem fi_59_1 : FI Tryd.prog 59 1 = some (1, (true, 4)) := by kernel_rfl
theorem fi_59_2 : FI Tryd.prog 59 2 = some (5, (false, 1)) := by kernel_rfl
theorem fi_59_3 : FI Tryd.prog 59 3 = some (6, (false, 1)) := by kernel_rfl
theorem si_59 : SI Tryd.prog 59 = some [(0, 1), (1, 4), (5, 1), (6, 1)] := by kernel_rfl
theorem zv_59 : ZV Tryd.prog 59 = some (.agg [.int .i64 0, .str [], .nils, .str [], .nils, .bool false, .bool false]) := by kernel_rfl
theorem zok_59 : ZOk Tryd.prog 59 7 = true := by kernel_rfl
theorem by_59 : byOf Tryd.prog 59 = 96 := by kernel_rfl
theorem cells_60 : Tryd.prog.cellsOf 60 = 7 := by kernel_rfl
theorem ti_60 : TI Tryd.prog 60 = some (true, 7) := by kernel_rfl
theorem fi_60_0 : FI Tryd.prog 60 0 = some (0, (false, 1)) := by kernel_rfl
theorem fi_60_1 : FI Tryd.prog 60 1 = some (1, (true, 4)) := by kernel_rfl
theorem fi_60_2 : FI Tryd.prog 60 2 = some (5, (false, 1)) := by kernel_rfl
theorem fi_60_3 : FI Tryd.prog 60 3 = some (6, (false, 1)) := by kernel_rfl
theorem si_60 : SI Tryd.prog 60 = some [(0, 1), (1, 4), (5, 1), (6, 1)] := by kernel_rfl
theorem zv_60 : ZV Tryd.prog 60 = some (.agg [.int .i64 0, .str [], .nils, .str [], .nils, .bool false, .bool false]) := by kernel_rfl
theorem zok_60 : ZOk Tryd.prog 60 7 = true := by kernel_rfl
theorem by_60 : byOf Tryd.prog 60 = 96 := by kernel_rfl
theorem cells_61 : Tryd.prog.cellsOf 61 = 1 := by kernel_rfl
theorem ti_61 : TI Tryd.prog 61 = some (false, 1) := by kernel_rfl
theorem zv_61 : ZV Tryd.prog 61 = some (.any) := by kernel_rfl
theorem zok_61 : ZOk Tryd.prog 61 1 = true := by kernel_rfl
theorem by_61 : byOf Tryd.prog 61 = 8 := by kernel_rfl
theorem cells_62 : Tryd.prog.cellsOf 62 = 1 := by kernel_rfl
theorem ti_62 : TI Tryd.prog 62 = some (false, 1) := by kernel_rfl
theorem zv_62 : ZV Tryd.prog 62 = some (.any) := by kernel_rfl
theorem zok_62 : ZOk Tryd.prog 62 1 = true := by kernel_rfl
theorem by_62 : byOf Tryd.prog 62 = 8 := by kernel_rfl
theorem cells_63 : Tryd.prog.cellsOf 63 = 1 := by kernel_rfl
theorem ti_63 : TI Tryd.prog 63 = some (false, 1) := by kernel_rfl
theorem zv_63 : ZV Tryd.prog 63 = some (.any) := by kernel_rfl
theorem zok_63 : ZOk Tryd.prog 63 1 = true := by kernel_rfl
theorem by_63 : byOf Tryd.prog 63 = 8 := by kernel_rfl
theorem cells_64 : Tryd.prog.cellsOf 64 = 1 := by kernel_rfl
theorem ti_64 : TI Tryd.prog 64 = some (false, 1) := by kernel_rfl
theorem zv_64 : ZV Tryd.prog 64 = some (.any) := by kernel_rfl
theorem zok_64 : ZOk Tryd.prog 64 1 = true := by kernel_rfl
theorem by_64 : byOf Tryd.prog 64 = 8 := by kernel_rfl
theorem cells_65 : Tryd.prog.cellsOf 65 = 1 := by kernel_rfl
theorem ti_65 : TI Tryd.prog 65 = some (false, 1) := by kernel_rfl
theorem zv_65 : ZV Tryd.prog 65 = some (.any) := by kernel_rfl
theorem zok_65 : ZOk Tryd.prog 65 1 = true := by kernel_rfl
theorem by_65 : byOf Tryd.prog 65 = 8 := by kernel_rfl
theorem cells_66 : Tryd.prog.cellsOf 66 = 1 := by kernel_rfl
theorem ti_66 : TI Tryd.prog 66 = some (false, 1) := by kernel_rfl
theorem zv_66 : ZV Tryd.prog 66 = some (.any) := by kernel_rfl
theorem zok_66 : ZOk Tryd.prog 66 1 = true := by kernel_rfl
theorem by_66 : byOf Tryd.prog 66 = 8 := by kernel_rfl
theorem cells_67 : Tryd.prog.cellsOf 67 = 1 := by kernel_rfl
theorem ti_67 : TI Tryd.prog 67 = some (false, 1) := by kernel_rfl
theorem zv_67 : ZV Tryd.prog 67 = some (.any) := by kernel_rfl
theorem zok_67 : ZOk Tryd.prog 67 1 = true := by kernel_rfl
theorem by_67 : byOf Tryd.prog 67 = 8 := by kernel_rfl
theorem cells_68 : Tryd.prog.cellsOf 68 = 1 := by kernel_rfl
theorem ti_68 : TI Tryd.prog 68 = some (false, 1) := by kernel_rfl
theorem zv_68 : ZV Tryd.prog 68 = some (.any) := by kernel_rfl
theorem zok_68 : ZOk Tryd.prog 68 1 = true := by kernel_rfl
theorem by_68 : byOf Tryd.prog 68 = 8 := by kernel_rfl
theorem cells_69 : Tryd.prog.cellsOf 69 = 1 := by kernel_rfl
theorem ti_69 : TI Tryd.prog 69 = some (false, 1) := by kernel_rfl
theorem zv_69 : ZV Tryd.prog 69 = some (.any) := by kernel_rfl
theorem zok_69 : ZOk Tryd.prog 69 1 = true := by kernel_rfl
theorem by_69 : byOf Tryd.prog 69 = 8 := by kernel_rfl
theorem cells_70 : Tryd.prog.cellsOf 70 = 1 := by kernel_rfl
theorem ti_70 : TI Tryd.prog 70 = some (false, 1) := by kernel_rfl
theorem ei_70 : EI Tryd.prog 70 = some (3, 1) := by kernel_rfl
theorem isSli_70 : isSli Tryd.prog 70 = true := by kernel_rfl
theorem notInt_70 : notInt Tryd.prog 70 = true := by kernel_rfl
theorem zv_70 : ZV Tryd.prog 70 = some (.nils) := by kernel_rfl
theorem zok_70 : ZOk Tryd.prog 70 1 = true := by kernel_rfl
theorem by_70 : byOf Tryd.prog 70 = 24 := by kernel_rfl
theorem cells_71 : Tryd.prog.cellsOf 71 = 2 := by kernel_rfl
theorem ti_71 : TI Tryd.prog 71 = some (true, 2) := by kernel_rfl
theorem fi_71_0 : FI Tryd.prog 71 0 = some (0, (false, 1)) := by kernel_rfl
theorem fi_71_1 : FI Tryd.prog 71 1 = some (1, (false, 1)) := by kernel_rfl
theorem si_71 : SI Tryd.prog 71 = some [(0, 1), (1, 1)] := by kernel_rfl
theorem zv_71 : ZV Tryd.prog 71 = some (.agg [.str [], .nils]) := by kernel_rfl
theorem zok_71 : ZOk Tryd.prog 71 2 = true := by kernel_rfl
theorem by_71 : byOf Tryd.prog 71 = 40 := by kernel_rfl
theorem cells_72 : Tryd.prog.cellsOf 72 = 2 := by kernel_rfl
theorem ti_72 : TI Tryd.prog 72 = some (true, 2) := by kernel_rfl
theorem fi_72_0 : FI Tryd.prog 72 0 = some (0, (false, 1)) := by kernel_rfl
theorem fi_72_1 : FI Tryd.prog 72 1 = some (1, (false, 1)) := by kernel_rfl
theorem si_72 : SI Tryd.prog 72 = some [(0, 1), (1, 1)] := by kernel_rfl
theorem zv_72 : ZV Tryd.prog 72 = some (.agg [.str [], .nils]) := by kernel_rfl
theorem zok_72 : ZOk Tryd.prog 72 2 = true := by kernel_rfl
theorem by_72 : byOf Tryd.prog 72 = 40 := by kernel_rfl
theorem cells_73 : Tryd.prog.cellsOf 73 = 1 := by kernel_rfl
theorem ti_73 : TI Tryd.prog 73 = some (false, 1) := by kernel_rfl
theorem zv_73 : ZV Tryd.prog 73 = some (.any) := by kernel_rfl
theorem zok_73 : ZOk Tryd.prog 73 1 = true := by kernel_rfl
theorem by_73 : byOf Tryd.prog 73 = 8 := by kernel_rfl
theorem cells_74 : Tryd.prog.cellsOf 74 = 1 := by kernel_rfl
theorem ti_74 : TI Tryd.prog 74 = some (false, 1) := by kernel_rfl
theorem zv_74 : ZV Tryd.prog 74 = some (.any) := by kernel_rfl
theorem zok_74 : ZOk Tryd.prog 74 1 = true := by kernel_rfl
theorem by_74 : byOf Tryd.prog 74 = 8 := by kernel_rfl
theorem cells_75 : Tryd.prog.cellsOf 75 = 1 := by kernel_rfl
theorem ti_75 : TI Tryd.prog 75 = some (false, 1) := by kernel_rfl
theorem zv_75 : ZV Tryd.prog 75 = some (.any) := by kernel_rfl
theorem zok_75 : ZOk Tryd.prog 75 1 = true := by kernel_rfl
theorem by_75 : byOf Tryd.prog 75 = 8 := by kernel_rfl
theorem cells_76 : Tryd.prog.cellsOf 76 = 1 := by kernel_rfl
theorem ti_76 : TI Tryd.prog 76 = some (false, 1) := by kernel_rfl
theorem zv_76 : ZV Tryd.prog 76 = some (.any) := by kernel_rfl
theorem zok_76 : ZOk Tryd.prog 76 1 = true := by kernel_rfl
theorem by_76 : byOf Tryd.prog 76 = 8 := by kernel_rfl
theorem cells_77 : Tryd.prog.cellsOf 77 = 9 := by kernel_rfl
theorem ti_77 : TI Tryd.prog 77 = some (true, 9) := by kernel_rfl
theorem ai_77 : AI Tryd.prog 77 = some (9, (false, 1)) := by kernel_rfl
theorem zv_77 : ZV Tryd.prog 77 = some (.agg [.str [], .str [], .str [], .str [], .str [], .str [], .str [], .str [], .str []]) := by kernel_rfl
theorem zok_77 : ZOk Tryd.prog 77 9 = true := by kernel_rfl
theorem by_77 : byOf Tryd.prog 77 = 144 := by kernel_rfl
theorem cells_78 : Tryd.prog.cellsOf 78 = 1 := by kernel_rfl
theorem ti_78 : TI Tryd.prog 78 = some (false, 1) := by kernel_rfl
theorem zv_78 : ZV Tryd.prog 78 = some (.any) := by kernel_rfl
theorem zok_78 : ZOk Tryd.prog 78 1 = true := by kernel_rfl
theorem by_78 : byOf Tryd.prog 78 = 8 := by kernel_rfl
theorem cells_79 : Tryd.prog.cellsOf 79 = 2 := by kernel_rfl
theorem ti_79 : TI Tryd.prog 79 = some (true, 2) := by kernel_rfl
theorem fi_79_0 : FI Tryd.prog 79 0 = some (0, (false, 1)) := by kernel_rfl
theorem fi_79_1 : FI Tryd.prog 79 1 = some (1, (false, 1)) := by kernel_rfl
theorem si_79 : SI Tryd.prog 79 = some [(0, 1), (1, 1)] := by kernel_rfl
theorem zv_79 : ZV Tryd.prog 79 = some (.agg [.str [], .str []]) := by kernel_rfl
theorem zok_79 : ZOk Tryd.prog 79 2 = true := by kernel_rfl
theorem by_79 : byOf Tryd.prog 79 = 32 := by kernel_rfl
theorem cells_80 : Tryd.prog.cellsOf 80 = 2 := by kernel_rfl
theorem ti_80 : TI Tryd.prog 80 = some (true, 2) := by kernel_rfl
theorem fi_80_0 : FI Tryd.prog 80 0 = some (0, (false, 1)) := by kernel_rfl
theorem fi_80_1 : FI Tryd.prog 80 1 = some (1, (false, 1)) := by kernel_rfl
theorem si_80 : SI Tryd.prog 80 = some [(0, 1), (1, 1)] := by kernel_rfl
theorem zv_80 : ZV Tryd.prog 80 = some (.agg [.str [], .str []]) := by kernel_rfl
theorem zok_80 : ZOk Tryd.prog 80 2 = true := by kernel_rfl
theorem by_80 : byOf Tryd.prog 80 = 32 := by kernel_rfl
theorem cells_81 : Tryd.prog.cellsOf 81 = 1 := by kernel_rfl
theorem ti_81 : TI Tryd.prog 81 = some (false, 1) := by kernel_rfl
theorem zv_81 : ZV Tryd.prog 81 = some (.any) := by kernel_rfl
theorem zok_81 : ZOk Tryd.prog 81 1 = true := by kernel_rfl
theorem by_81 : byOf Tryd.prog 81 = 8 := by kernel_rfl
theorem cells_82 : Tryd.prog.cellsOf 82 = 4 := by kernel_rfl
theorem ti_82 : TI Tryd.prog 82 = some (true, 4) := by kernel_rfl
theorem ai_82 : AI Tryd.prog 82 = some (4, (false, 1)) := by kernel_rfl
theorem zv_82 : ZV Tryd.prog 82 = some (.agg [.str [], .str [], .str [], .str []]) := by kernel_rfl
theorem zok_82 : ZOk Tryd.prog 82 4 = true := by kernel_rfl
theorem by_82 : byOf Tryd.prog 82 = 64 := by kernel_rfl
theorem cells_83 : Tryd.prog.cellsOf 83 = 256 := by kernel_rfl
theorem ti_83 : TI Tryd.prog 83 = some (true, 256) := by kernel_rfl
theorem ai_83 : AI Tryd.prog 83 = some (256, (false, 1)) := by kernel_rfl
theorem zv_83 : ZV Tryd.prog 83 = some (.agg [.int .u8 0, .int .u8 0, .int .u8 0, .int .u8 0, .int .u8 0, .int .u8 0, .int .u8 0, .int .u8 0, .int .u8 0, .int .u8 0, .int .u8 0, .int .u8 0, .int .u8 0, .int .u8 0, .int .u8 0, .int .u8 0, .int .u8 0, .int .u8 0, .int .u8 0, .int .u8 0, .int .u8 0, .int .u8 0, .int .u8 0, .int .u8 0, .int .u8 0, .int .u8 0, .int .u8 0, .int .u8 0, .int .u8 0, .int .u8 0, .int .u8 0, .int .u8 0, .int .u8 0, .int .u8 0, .int .u8 0, .int .u8 0, .int .u8 0, .int .u8 0, .int .u8 0, .int .u8 0, .int .u8 0, .int .u8 0, .int .u8 0, .int .u8 0, .int .u8 0, .int .u8 0, .int .u8 0, .int .u8 0, .int .u8 0, .int .u8 0, .int .u8 0, .int .u8 0, .int .u8 0, .int .u8 0, .int .u8 0, .int .u8 0, .int .u8 0, .int .u8 0, .int .u8 0, .int .u8 0, .int .u8 0, .int .u8 0, .int .u8 0, .int .u8 0, .int .u8 0, .int .u8 0, .int .u8 0, .int .u8 0, .int .u8 0, .int .u8 0, .int .u8 0, .int .u8 0, .int .u8 0, .int .u8 0, .int .u8 0, .int .u8 0, .int .u8 0, .int .u8 0, .int .u8 0, .int .u8 0, .int .u8 0, .int .u8 0, .int .u8 0, .int .u8 0, .int .u8 0, .int .u8 0, .int .u8 0, .int .u8 0, .int .u8 0, .int .u8 0, .int .u8 0, .int .u8 0, .int .u8 0, .int .u8 0, .int .u8 0, .int .u8 0, .int .u8 0, .int .u8 0, .int .u8 0, .int .u8 0, .int .u8 0, .int .u8 0, .int .u8 0, .int .u8 0, .int .u8 0, .int .u8 0, .int .u8 0, .int .u8 0, .int .u8 0, .int .u8 0, .int .u8 0, .int .u8 0, .int .u8 0, .int .u8 0, .int .u8 0, .int .u8 0, .int .u8 0, .int .u8 0, .int .u8 0, .int .u8 0, .int .u8 0, .int .u8 0, .int .u8 0, .int .u8 0, .int .u8 0, .int .u8 0, .int .u8 0, .int .u8 0, .int .u8 0, .int .u8 0, .int .u8 0, .int .u8 0, .int .u8 0, .int .u8 0, .int .u8 0, .int .u8 0, .int .u8 0, .int .u8 0, .int .u8 0, .int .u8 0, .int .u8 0, .int .u8 0, .int .u8 0, .int .u8 0, .int .u8 0, .int .u8 0, .int .u8 0, .int .u8 0, .int .u8 0, .int .u8 0, .int .u8 0, .int .u8 0, .int .u8 0, .int .u8 0, .int .u8 0, .int .u8 0, .int .u8 0, .int .u8 0, .int .u8 0, .int .u8 0, .int .u8 0, .int .u8 0, .int .u8 0, .int .u8 0, .int .u8 0, .int .u8 0, .int .u8 0, .int .u8 0, .int .u8 0, .int .u8 0, .int .u8 0, .int .u8 0, .int .u8 0, .int .u8 0, .int .u8 0, .int .u8 0, .int .u8 0, .int .u8 0, .int .u8 0, .int .u8 0, .int .u8 0, .int .u8 0, .int .u8 0, .int .u8 0, .int .u8 0, .int .u8 0, .int .u8 0, .int .u8 0, .int .u8 0, .int .u8 0, .int .u8 0, .int .u8 0, .int .u8 0, .int .u8 0, .int .u8 0, .int .u8 0, .int .u8 0, .int .u8 0, .int .u8 0, .int .u8 0, .int .u8 0, .int .u8 0, .int .u8 0, .int .u8 0, .int .u8 0, .int .u8 0, .int .u8 0, .int .u8 0, .int .u8 0, .int .u8 0, .int .u8 0, .int .u8 0, .int .u8 0, .int .u8 0, .int .u8 0, .int .u8 0, .int .u8 0, .int .u8 0, .int .u8 0, .int .u8 0, .int .u8 0, .int .u8 0, .int .u8 0, .int .u8 0, .int .u8 0, .int .u8 0, .int .u8 0, .int .u8 0, .int .u8 0, .int .u8 0, .int .u8 0, .int .u8 0, .int .u8 0, .int .u8 0, .int .u8 0, .int .u8 0, .int .u8 0, .int .u8 0, .int .u8 0, .int .u8 0, .int .u8 0, .int .u8 0, .int .u8 0, .int .u8 0, .int .u8 0, .int .u8 0, .int .u8 0, .int .u8 0, .int .u8 0, .int .u8 0, .int .u8 0, .int .u8 0, .int .u8 0, .int .u8 0, .int .u8 0, .int .u8 0]) := by kernel_rfl
theorem zok_83 : ZOk Tryd.prog 83 256 = true := by kernel_rfl
theorem by_83 : byOf Tryd.prog 83 = 256 := by kernel_rfl
theorem cells_84 : Tryd.prog.cellsOf 84 = 1 := by kernel_rfl
theorem ti_84 : TI Tryd.prog 84 = some (false, 1) := by kernel_rfl
theorem zv_84 : ZV Tryd.prog 84 = some (.any) := by kernel_rfl
theorem zok_84 : ZOk Tryd.prog 84 1 = true := by kernel_rfl
theorem by_84 : byOf Tryd.prog 84 = 8 := by kernel_rfl
theorem cells_85 : Tryd.prog.cellsOf 85 = 1 := by kernel_rfl
theorem ti_85 : TI Tryd.prog 85 = some (false, 1) := by kernel_rfl
theorem zv_85 : ZV Tryd.prog 85 = some (.any) := by kernel_rfl
theorem zok_85 : ZOk Tryd.prog 85 1 = true := by kernel_rfl
theorem by_85 : byOf Tryd.prog 85 = 8 := by kernel_rfl
theorem cells_86 : Tryd.prog.cellsOf 86 = 1 := by kernel_rfl
theorem ti_86 : TI Tryd.prog 86 = some (false, 1) := by kernel_rfl
theorem zv_86 : ZV Tryd.prog 86 = some (.any) := by kernel_rfl
theorem zok_86 : ZOk Tryd.prog 86 1 = true := by kernel_rfl
theorem by_86 : byOf Tryd.prog 86 = 8 := by kernel_rfl
theorem cells_87 : Tryd.prog.cellsOf 87 = 1 := by kernel_rfl
theorem ti_87 : TI Tryd.prog 87 = some (false, 1) := by kernel_rfl
theorem zv_87 : ZV Tryd.prog 87 = some (.any) := by kernel_rfl
theorem zok_87 : ZOk Tryd.prog 87 1 = true := by kernel_rfl
theorem by_87 : byOf Tryd.prog 87 = 8 := by kernel_rfl
theorem cells_88 : Tryd.prog.cellsOf 88 = 1 := by kernel_rfl
theorem ti_88 : TI Tryd.prog 88 = some (false, 1) := by kernel_rfl
theorem zv_88 : ZV Tryd.prog 88 = some (.any) := by kernel_rfl
theorem zok_88 : ZOk Tryd.prog 88 1 = true := by kernel_rfl
theorem by_88 : byOf Tryd.prog 88 = 8 := by kernel_rfl
theorem cells_89 : Tryd.prog.cellsOf 89 = 1 := by kernel_rfl
theorem ti_89 : TI Tryd.prog 89 = some (false, 1) := by kernel_rfl
theorem zv_89 : ZV Tryd.prog 89 = some (.any) := by kernel_rfl
theorem zok_89 : ZOk Tryd.prog 89 1 = true := by kernel_rfl
theorem by_89 : byOf Tryd.prog 89 = 8 := by kernel_rfl
theorem cells_90 : Tryd.prog.cellsOf 90 = 1 := by kernel_rfl
theorem ti_90 : TI Tryd.prog 90 = some (false, 1) := by kernel_rfl
theorem zv_90 : ZV Tryd.prog 90 = some (.any) := by kernel_rfl
theorem zok_90 : ZOk Tryd.prog 90 1 = true := by kernel_rfl
theorem by_90 : byOf Tryd.prog 90 = 8 := by kernel_rfl
theorem cells_91 : Tryd.prog.cellsOf 91 = 1 := by kernel_rfl
theorem ti_91 : TI Tryd.prog 91 = some (false, 1) := by kernel_rfl
theorem zv_91 : ZV Tryd.prog 91 = some (.any) := by kernel_rfl
theorem zok_91 : ZOk Tryd.prog 91 1 = true := by kernel_rfl
theorem by_91 : byOf Tryd.prog 91 = 8 := by kernel_rfl
theorem cells_92 : Tryd.prog.cellsOf 92 = 1 := by kernel_rfl
theorem ti_92 : TI Tryd.prog 92 = some (false, 1) := by kernel_rfl
theorem ei_92 : EI Tryd.prog 92 = some (94, 2) := by kernel_rfl
theorem isSli_92 : isSli Tryd.prog 92 = true := by kernel_rfl
theorem notInt_92 : notInt Tryd.prog 92 = true := by kernel_rfl
theorem zv_92 : ZV Tryd.prog 92 = some (.nils) := by kernel_rfl
theorem zok_92 : ZOk Tryd.prog 92 1 = true := by kernel_rfl
theorem by_92 : byOf Tryd.prog 92 = 24 := by kernel_rfl
theorem cells_93 : Tryd.prog.cellsOf 93 = 2 := by kernel_rfl
theorem ti_93 : TI Tryd.prog 93 = some (true, 2) := by kernel_rfl
theorem fi_93_0 : FI Tryd.prog 93 0 = some (0, (false, 1)) := by kernel_rfl
theorem fi_93_1 : FI Tryd.prog 93 1 = some (1, (false, 1)) := by kernel_rfl
theorem si_93 : SI Tryd.prog 93 = some [(0, 1), (1, 1)] := by kernel_rfl
theorem zv_93 : ZV Tryd.prog 93 = some (.agg [.int .i64 0, .int .i64 0]) := by kernel_rfl
theorem zok_93 : ZOk Tryd.prog 93 2 = true := by kernel_rfl
theorem by_93 : byOf Tryd.prog 93 = 16 := by kernel_rfl
theorem cells_94 : Tryd.prog.cellsOf 94 = 2 := by kernel_rfl
theorem ti_94 : TI Tryd.prog 94 = some (true, 2) := by kernel_rfl
theorem fi_94_0 : FI Tryd.prog 94 0 = some (0, (false, 1)) := by kernel_rfl
theorem fi_94_1 : FI Tryd.prog 94 1 = some (1, (false, 1)) := by kernel_rfl
theorem si_94 : SI Tryd.prog 94 = some [(0, 1), (1, 1)] := by kernel_rfl
theorem zv_94 : ZV Tryd.prog 94 = some (.agg [.int .i64 0, .int .i64 0]) := by kernel_rfl
theorem zok_94 : ZOk Tryd.prog 94 2 = true := by kernel_rfl
theorem by_94 : byOf Tryd.prog 94 = 16 := by kernel_rfl
theorem cells_95 : Tryd.prog.cellsOf 95 = 1 := by kernel_rfl
theorem ti_95 : TI Tryd.prog 95 = some (false, 1) := by kernel_rfl
theorem intK_95 : intK Tryd.prog 95 = some .u32 := by kernel_rfl
theorem un_95 : Tryd.prog.underlying 95 = some (.int .u32) := by kernel_rfl
theorem zv_95 : ZV Tryd.prog 95 = some (.int .u32 0) := by kernel_rfl
theorem zok_95 : ZOk Tryd.prog 95 1 = true := by kernel_rfl
theorem by_95 : byOf Tryd.prog 95 = 4 := by kernel_rfl
theorem cells_96 : Tryd.prog.cellsOf 96 = 1 := by kernel_rfl
theorem ti_96 : TI Tryd.prog 96 = some (false, 1) := by kernel_rfl
theorem zv_96 : ZV Tryd.prog 96 = some (.any) := by kernel_rfl
theorem zok_96 : ZOk Tryd.prog 96 1 = true := by kernel_rfl
theorem by_96 : byOf Tryd.prog 96 = 8 := by kernel_rfl
theorem cells_97 : Tryd.prog.cellsOf 97 = 1 := by kernel_rfl
theorem ti_97 : TI Tryd.prog 97 = some (false, 1) := by kernel_rfl
theorem isPtr_97 : isPtr Tryd.prog 97 = true := by kernel_rfl
theorem zv_97 : ZV Tryd.prog 97 = some (.nilp) := by kernel_rfl
theorem zok_97 : ZOk Tryd.prog 97 1 = true := by kernel_rfl
theorem by_97 : byOf Tryd.prog 97 = 8 := by kernel_rfl
theorem cells_98 : Tryd.prog.cellsOf 98 = 1 := by kernel_rfl
theorem ti_98 : TI Tryd.prog 98 = some (false, 1) := by kernel_rfl
theorem zv_98 : ZV Tryd.prog 98 = some (.any) := by kernel_rfl
theorem zok_98 : ZOk Tryd.prog 98 1 = true := by kernel_rfl
theorem by_98 : byOf Tryd.prog 98 = 8 := by kernel_rfl
theorem cells_99 : Tryd.prog.cellsOf 99 = 1 := by kernel_rfl
theorem ti_99 : TI Tryd.prog 99 = some (false, 1) := by kernel_rfl
theorem ei_99 : EI Tryd.prog 99 = some (105, 3) := by kernel_rfl
theorem isSli_99 : isSli Tryd.prog 99 = true := by kernel_rfl
theorem notInt_99 : notInt Tryd.prog 99 = true := by kernel_rfl
theorem zv_99 : ZV Tryd.prog 99 = some (.nils) := by kernel_rfl
theorem zok_99 : ZOk Tryd.prog 99 1 = true := by kernel_rfl
theorem by_99 : byOf Tryd.prog 99 = 24 := by kernel_rfl
theorem cells_100 : Tryd.prog.cellsOf 100 = 1 := by kernel_rfl
theorem ti_100 : TI Tryd.prog 100 = some (false, 1) := by kernel_rfl
theorem ei_100 : EI Tryd.prog 100 = some (108, 3) := by kernel_rfl
theorem isSli_100 : isSli Tryd.prog 100 = true := by kernel_rfl
theorem notInt_100 : notInt Tryd.prog 100 = true := by kernel_rfl
theorem zv_100 : ZV Tryd.prog 100 = some (.nils) := by kernel_rfl
theorem zok_100 : ZOk Tryd.prog 100 1 = true := by kernel_rfl
theorem by_100 : byOf Tryd.prog 100 = 24 := by kernel_rfl
theorem cells_101 : Tryd.prog.cellsOf 101 = 3 := by kernel_rfl
theorem ti_101 : TI Tryd.prog 101 = some (true, 3) := by kernel_rfl
theorem fi_101_0 : FI Tryd.prog 101 0 = some (0, (false, 1)) := by kernel_rfl
theorem fi_101_1 : FI Tryd.prog 101 1 = some (1, (false, 1)) := by kernel_rfl
theorem fi_101_2 : FI Tryd.prog 101 2 = some (2, (false, 1)) := by kernel_rfl
theorem si_101 : SI Tryd.prog 101 = some [(0, 1), (1, 1), (2, 1)] := by kernel_rfl
theorem zv_101 : ZV Tryd.prog 101 = some (.agg [.nils, .nils, .int .i64 0]) := by kernel_rfl
theorem zok_101 : ZOk Tryd.prog 101 3 = true := by kernel_rfl
theorem by_101 : byOf Tryd.prog 101 = 56 := by kernel_rfl
theorem cells_102 : Tryd.prog.cellsOf 102 = 3 := by kernel_rfl
theorem ti_102 : TI Tryd.prog 102 = some (true, 3) := by kernel_rfl
theorem fi_102_0 : FI Tryd.prog 102 0 = some (0, (false, 1)) := by kernel_rfl
theorem fi_102_1 : FI Tryd.prog 102 1 = some (1, (false, 1)) := by kernel_rfl
theorem fi_102_2 : FI Tryd.prog 102 2 = some (2, (false, 1)) := by kernel_rfl
theorem si_102 : SI Tryd.prog 102 = some [(0, 1), (1, 1), (2, 1)] := by kernel_rfl
theorem zv_102 : ZV Tryd.prog 102 = some (.agg [.nils, .nils, .int .i64 0]) := by kernel_rfl
theorem zok_102 : ZOk Tryd.prog 102 3 = true := by kernel_rfl
theorem by_102 : byOf Tryd.prog 102 = 56 := by kernel_rfl
theorem cells_103 : Tryd.prog.cellsOf 103 = 1 := by kernel_rfl
theorem ti_103 : TI Tryd.prog 103 = some (false, 1) := by kernel_rfl
theorem intK_103 : intK Tryd.prog 103 = some .u16 := by kernel_rfl
theorem un_103 : Tryd.prog.underlying 103 = some (.int .u16) := by kernel_rfl
theorem zv_103 : ZV Tryd.prog 103 = some (.int .u16 0) := by kernel_rfl
theorem zok_103 : ZOk Tryd.prog 103 1 = true := by kernel_rfl
theorem by_103 : byOf Tryd.prog 103 = 2 := by kernel_rfl
theorem cells_104 : Tryd.prog.cellsOf 104 = 3 := by kernel_rfl
theorem ti_104 : TI Tryd.prog 104 = some (true, 3) := by kernel_rfl
theorem fi_104_0 : FI Tryd.prog 104 0 = some (0, (false, 1)) := by kernel_rfl
theorem fi_104_1 : FI Tryd.prog 104 1 = some (1, (false, 1)) := by kernel_rfl
theorem fi_104_2 : FI Tryd.prog 104 2 = some (2, (false, 1)) := by kernel_rfl
theorem si_104 : SI Tryd.prog 104 = some [(0, 1), (1, 1), (2, 1)] := by kernel_rfl
theorem zv_104 : ZV Tryd.prog 104 = some (.agg [.int .u16 0, .int .u16 0, .int .u16 0]) := by kernel_rfl
theorem zok_104 : ZOk Tryd.prog 104 3 = true := by kernel_rfl
theorem by_104 : byOf Tryd.prog 104 = 6 := by kernel_rfl
theorem cells_105 : Tryd.prog.cellsOf 105 = 3 := by kernel_rfl
theorem ti_105 : TI Tryd.prog 105 = some (true, 3) := by kernel_rfl
theorem fi_105_0 : FI Tryd.prog 105 0 = some (0, (false, 1)) := by kernel_rfl
theorem fi_105_1 : FI Tryd.prog 105 1 = some (1, (false, 1)) := by kernel_rfl
theorem fi_105_2 : FI Tryd.prog 105 2 = some (2, (false, 1)) := by kernel_rfl
theorem si_105 : SI Tryd.prog 105 = some [(0, 1), (1, 1), (2, 1)] := by kernel_rfl
theorem zv_105 : ZV Tryd.prog 105 = some (.agg [.int .u16 0, .int .u16 0, .int .u16 0]) := by kernel_rfl
theorem zok_105 : ZOk Tryd.prog 105 3 = true := by kernel_rfl
theorem by_105 : byOf Tryd.prog 105 = 6 := by kernel_rfl
theorem cells_106 : Tryd.prog.cellsOf 106 = 1 := by kernel_rfl
theorem ti_106 : TI Tryd.prog 106 = some (false, 1) := by kernel_rfl
theorem zv_106 : ZV Tryd.prog 106 = some (.any) := by kernel_rfl
theorem zok_106 : ZOk Tryd.prog 106 1 = true := by kernel_rfl
theorem by_106 : byOf Tryd.prog 106 = 8 := by kernel_rfl
theorem cells_107 : Tryd.prog.cellsOf 107 = 3 := by kernel_rfl
theorem ti_107 : TI Tryd.prog 107 = some (true, 3) := by kernel_rfl
theorem fi_107_0 : FI Tryd.prog 107 0 = some (0, (false, 1)) := by kernel_rfl
theorem fi_107_1 : FI Tryd.prog 107 1 = some (1, (false, 1)) := by kernel_rfl
theorem fi_107_2 : FI Tryd.prog 107 2 = some (2, (false, 1)) := by kernel_rfl
theorem si_107 : SI Tryd.prog 107 = some [(0, 1), (1, 1), (2, 1)] := by kernel_rfl
theorem zv_107 : ZV Tryd.prog 107 = some (.agg [.int .u32 0, .int .u32 0, .int .u32 0]) := by kernel_rfl
theorem zok_107 : ZOk Tryd.prog 107 3 = true := by kernel_rfl
theorem by_107 : byOf Tryd.prog 107 = 12 := by kernel_rfl
theorem cells_108 : Tryd.prog.cellsOf 108 = 3 := by kernel_rfl
theorem ti_108 : TI Tryd.prog 108 = some (true, 3) := by kernel_rfl
theorem fi_108_0 : FI Tryd.prog 108 0 = some (0, (false, 1)) := by kernel_rfl
theorem fi_108_1 : FI Tryd.prog 108 1 = some (1, (false, 1)) := by kernel_rfl
theorem fi_108_2 : FI Tryd.prog 108 2 = some (2, (false, 1)) := by kernel_rfl
theorem si_108 : SI Tryd.prog 108 = some [(0, 1), (1, 1), (2, 1)] := by kernel_rfl
theorem zv_108 : ZV Tryd.prog 108 = some (.agg [.int .u32 0, .int .u32 0, .int .u32 0]) := by kernel_rfl
theorem zok_108 : ZOk Tryd.prog 108 3 = true := by kernel_rfl
theorem by_108 : byOf Tryd.prog 108 = 12 := by kernel_rfl
theorem cells_109 : Tryd.prog.cellsOf 109 = 1 := by kernel_rfl
theorem ti_109 : TI Tryd.prog 109 = some (false, 1) := by kernel_rfl
theorem zv_109 : ZV Tryd.prog 109 = some (.any) := by kernel_rfl
theorem zok_109 : ZOk Tryd.prog 109 1 = true := by kernel_rfl
theorem by_109 : byOf Tryd.prog 109 = 8 := by kernel_rfl
theorem cells_110 : Tryd.prog.cellsOf 110 = 1 := by kernel_rfl
theorem ti_110 : TI Tryd.prog 110 = some (false, 1) := by kernel_rfl
theorem zv_110 : ZV Tryd.prog 110 = some (.any) := by kernel_rfl
theorem zok_110 : ZOk Tryd.prog 110 1 = true := by kernel_rfl
theorem by_110 : byOf Tryd.prog 110 = 8 := by kernel_rfl
theorem cells_111 : Tryd.prog.cellsOf 111 = 1 := by kernel_rfl
theorem ti_111 : TI Tryd.prog 111 = some (false, 1) := by kernel_rfl
theorem isPtr_111 : isPtr Tryd.prog 111 = true := by kernel_rfl
theorem zv_111 : ZV Tryd.prog 111 = some (.nilp) := by kernel_rfl
theorem zok_111 : ZOk Tryd.prog 111 1 = true := by kernel_rfl
theorem by_111 : byOf Tryd.prog 111 = 8 := by kernel_rfl
theorem cells_112 : Tryd.prog.cellsOf 112 = 1 := by kernel_rfl
theorem ti_112 : TI Tryd.prog 112 = some (false, 1) := by kernel_rfl
theorem intK_112 : intK Tryd.prog 112 = some .u64 := by kernel_rfl
theorem un_112 : Tryd.prog.underlying 112 = some (.int .u64) := by kernel_rfl
theorem zv_112 : ZV Tryd.prog 112 = some (.int .u64 0) := by kernel_rfl
theorem zok_112 : ZOk Tryd.prog 112 1 = true := by kernel_rfl
theorem by_112 : byOf Tryd.prog 112 = 8 := by kernel_rfl
theorem cells_113 : Tryd.prog.cellsOf 113 = 1 := by kernel_rfl
theorem ti_113 : TI Tryd.prog 113 = some (false, 1) := by kernel_rfl
theorem isPtr_113 : isPtr Tryd.prog 113 = true := by kernel_rfl
theorem zv_113 : ZV Tryd.prog 113 = some (.nilp) := by kernel_rfl
theorem zok_113 : ZOk Tryd.prog 113 1 = true := by kernel_rfl
theorem by_113 : byOf Tryd.prog 113 = 8 := by kernel_rfl
theorem cells_114 : Tryd.prog.cellsOf 114 = 1 := by kernel_rfl
theorem ti_114 : TI Tryd.prog 114 = some (false, 1) := by kernel_rfl
theorem zv_114 : ZV Tryd.prog 114 = some (.any) := by kernel_rfl
theorem zok_114 : ZOk Tryd.prog 114 1 = true := by kernel_rfl
theorem by_114 : byOf Tryd.prog 114 = 8 := by kernel_rfl
theorem cells_123 : Tryd.prog.cellsOf 123 = 1 := by kernel_rfl
theorem ti_123 : TI Tryd.prog 123 = some (false, 1) := by kernel_rfl
theorem isPtr_123 : isPtr Tryd.prog 123 = true := by kernel_rfl
theorem zv_123 : ZV Tryd.prog 123 = some (.nilp) := by kernel_rfl
theorem zok_123 : ZOk Tryd.prog 123 1 = true := by kernel_rfl
theorem by_123 : byOf Tryd.prog 123 = 8 := by kernel_rfl
theorem uns_1 : (Tryd.prog.underlying 1).isSome = true := by kernel_rfl
theorem tok_1 : TOk Tryd.prog 1 { ti := some (false, 1), zv := some (.any), zok := some 1, by' := some 8, un := true } := ⟨ti_1, trivial, trivial, trivial, trivial, zv_1, zok_1, by_1, trivial, trivial, trivial, trivial, trivial, trivial, uns_1, trivial⟩
theorem uns_2 : (Tryd.prog.underlying 2).isSome = true := by kernel_rfl
theorem tok_2 : TOk Tryd.prog 2 { ti := some (false, 1), zv := some (.int .i64 0), zok := some 1, by' := some 8, ik := some .i64, un := true } := ⟨ti_2, trivial, trivial, trivial, trivial, zv_2, zok_2, by_2, intK_2, trivial, trivial, trivial, trivial, trivial, uns_2, trivial⟩
theorem uns_3 : (Tryd.prog.underlying 3).isSome = true := by kernel_rfl
theorem tok_3 : TOk Tryd.prog 3 { ti := some (false, 1), zv := some (.int .i64 0), zok := some 1, by' := some 8, ik := some .i64, un := true } := ⟨ti_3, trivial, trivial, trivial, trivial, zv_3, zok_3, by_3, intK_3, trivial, trivial, trivial, trivial, trivial, uns_3, trivial⟩
theorem uns_4 : (Tryd.prog.underlying 4).isSome = true := by kernel_rfl
theorem tok_4 : TOk Tryd.prog 4 { ti := some (false, 1), zv := some (.bool false), zok := some 1, by' := some 1, boo := true, un := true } := ⟨ti_4, trivial, trivial, trivial, trivial, zv_4, zok_4, by_4, trivial, trivial, trivial, isBoo_4, trivial, trivial, uns_4, trivial⟩
theorem uns_5 : (Tryd.prog.underlying 5).isSome = true := by kernel_rfl
theorem tok_5 : TOk Tryd.prog 5 { ti := some (false, 1), zv := some (.int .u8 0), zok := some 1, by' := some 1, ik := some .u8, un := true } := ⟨ti_5, trivial, trivial, trivial, trivial, zv_5, zok_5, by_5, intK_5, trivial, trivial, trivial, trivial, trivial, uns_5, trivial⟩
theorem uns_9 : (Tryd.prog.underlying 9).isSome = true := by kernel_rfl
theorem tok_9 : TOk Tryd.prog 9 { ti := some (false, 1), zv := some (.str []), zok := some 1, by' := some 16, str := true, ni := true, un := true } := ⟨ti_9, trivial, trivial, trivial, trivial, zv_9, zok_9, by_9, trivial, isStr_9, trivial, trivial, trivial, notInt_9, uns_9, trivial⟩
theorem uns_12 : (Tryd.prog.underlying 12).isSome = true := by kernel_rfl
theorem tok_12 : TOk Tryd.prog 12 { ti := some (false, 1), zv := some (.int .u64 0), zok := some 1, by' := some 8, ik := some .u64, un := true } := ⟨ti_12, trivial, trivial, trivial, trivial, zv_12, zok_12, by_12, intK_12, trivial, trivial, trivial, trivial, trivial, uns_12, trivial⟩
theorem uns_13 : (Tryd.prog.underlying 13).isSome = true := by kernel_rfl
theorem tok_13 : TOk Tryd.prog 13 { ti := some (true, 2), fi := [some (0, (false, 1)), some (1, (false, 1))], si := some [(0, 1), (1, 1)], zv := some (.agg [.str [], .int .u64 0]), zok := some 2, by' := some 24, un := true } := ⟨ti_13, trivial, trivial, ⟨fi_13_0, fi_13_1, trivial⟩, si_13, zv_13, zok_13, by_13, trivial, trivial, trivial, trivial, trivial, trivial, uns_13, trivial⟩
theorem uns_21 : (Tryd.prog.underlying 21).isSome = true := by kernel_rfl
theorem tok_21 : TOk Tryd.prog 21 { ti := some (false, 1), zv := some (.int .i32 0), zok := some 1, by' := some 4, ik := some .i32, un := true } := ⟨ti_21, trivial, trivial, trivial, trivial, zv_21, zok_21, by_21, intK_21, trivial, trivial, trivial, trivial, trivial, uns_21, trivial⟩
theorem uns_22 : (Tryd.prog.underlying 22).isSome = true := by kernel_rfl
theorem tok_22 : TOk Tryd.prog 22 { ti := some (false, 1), ei := some (50, 5), zv := some (.nils), zok := some 1, by' := some 24, sli := true, ni := true, un := true } := ⟨ti_22, ei_22, trivial, trivial, trivial, zv_22, zok_22, by_22, trivial, trivial, isSli_22, trivial, trivial, notInt_22, uns_22, trivial⟩
theorem uns_23 : (Tryd.prog.underlying 23).isSome = true := by kernel_rfl
theorem tok_23 : TOk Tryd.prog 23 { ti := some (false, 1), ei := some (58, 4), zv := some (.nils), zok := some 1, by' := some 24, sli := true, ni := true, un := true } := ⟨ti_23, ei_23, trivial, trivial, trivial, zv_23, zok_23, by_23, trivial, trivial, isSli_23, trivial, trivial, notInt_23, uns_23, trivial⟩
theorem uns_24 : (Tryd.prog.underlying 24).isSome = true := by kernel_rfl
theorem tok_24 : TOk Tryd.prog 24 { ti := some (false, 1), zv := some (.int .i64 0), zok := some 1, by' := some 8, ik := some .i64, un := true } := ⟨ti_24, trivial, trivial, trivial, trivial, zv_24, zok_24, by_24, intK_24, trivial, trivial, trivial, trivial, trivial, uns_24, trivial⟩
theorem uns_26 : (Tryd.prog.underlying 26).isSome = true := by kernel_rfl
theorem tok_26 : TOk Tryd.prog 26 { ti := some (false, 1), zv := some (.any), zok := some 1, by' := some 8, un := true } := ⟨ti_26, trivial, trivial, trivial, trivial, zv_26, zok_26, by_26, trivial, trivial, trivial, trivial, trivial, trivial, uns_26, trivial⟩
theorem uns_27 : (Tryd.prog.underlying 27).isSome = true := by kernel_rfl
theorem tok_27 : TOk Tryd.prog 27 { ti := some (false, 1), zv := some (.any), zok := some 1, by' := some 8, un := true } := ⟨ti_27, trivial, trivial, trivial, trivial, zv_27, zok_27, by_27, trivial, trivial, trivial, trivial, trivial, trivial, uns_27, trivial⟩
theorem uns_28 : (Tryd.prog.underlying 28).isSome = true := by kernel_rfl
theorem tok_28 : TOk Tryd.prog 28 { ti := some (false, 1), zv := some (.any), zok := some 1, by' := some 8, un := true } := ⟨ti_28, trivial, trivial, trivial, trivial, zv_28, zok_28, by_28, trivial, trivial, trivial, trivial, trivial, trivial, uns_28, trivial⟩
theorem uns_29 : (Tryd.prog.underlying 29).isSome = true := by kernel_rfl
theorem tok_29 : TOk Tryd.prog 29 { ti := some (false, 1), ei := some (9, 1), zv := some (.nils), zok := some 1, by' := some 24, sli := true, ni := true, un := true } := ⟨ti_29, ei_29, trivial, trivial, trivial, zv_29, zok_29, by_29, trivial, trivial, isSli_29, trivial, trivial, notInt_29, uns_29, trivial⟩
theorem uns_30 : (Tryd.prog.underlying 30).isSome = true := by kernel_rfl
theorem tok_30 : TOk Tryd.prog 30 { ti := some (false, 1), zv := some (.any), zok := some 1, by' := some 8, un := true } := ⟨ti_30, trivial, trivial, trivial, trivial, zv_30, zok_30, by_30, trivial, trivial, trivial, trivial, trivial, trivial, uns_30, trivial⟩
theorem uns_31 : (Tryd.prog.underlying 31).isSome = true := by kernel_rfl
theorem tok_31 : TOk Tryd.prog 31 { ti := some (false, 1), zv := some (.any), zok := some 1, by' := some 8, un := true } := ⟨ti_31, trivial, trivial, trivial, trivial, zv_31, zok_31, by_31, trivial, trivial, trivial, trivial, trivial, trivial, uns_31, trivial⟩
theorem uns_32 : (Tryd.prog.underlying 32).isSome = true := by kernel_rfl
theorem tok_32 : TOk Tryd.prog 32 { ti := some (false, 1), ei := some (72, 2), zv := some (.nils), zok := some 1, by' := some 24, sli := true, ni := true, un := true } := ⟨ti_32, ei_32, trivial, trivial, trivial, zv_32, zok_32, by_32, trivial, trivial, isSli_32, trivial, trivial, notInt_32, uns_32, trivial⟩
theorem uns_34 : (Tryd.prog.underlying 34).isSome = true := by kernel_rfl
theorem tok_34 : TOk Tryd.prog 34 { ti := some (false, 1), zv := some (.any), zok := some 1, by' := some 8, un := true } := ⟨ti_34, trivial, trivial, trivial, trivial, zv_34, zok_34, by_34, trivial, trivial, trivial, trivial, trivial, trivial, uns_34, trivial⟩
theorem uns_35 : (Tryd.prog.underlying 35).isSome = true := by kernel_rfl
theorem tok_35 : TOk Tryd.prog 35 { ti := some (false, 1), zv := some (.any), zok := some 1, by' := some 8, un := true } := ⟨ti_35, trivial, trivial, trivial, trivial, zv_35, zok_35, by_35, trivial, trivial, trivial, trivial, trivial, trivial, uns_35, trivial⟩
theorem uns_36 : (Tryd.prog.underlying 36).isSome = true := by kernel_rfl
theorem tok_36 : TOk Tryd.prog 36 { ti := some (false, 1), zv := some (.any), zok := some 1, by' := some 8, un := true } := ⟨ti_36, trivial, trivial, trivial, trivial, zv_36, zok_36, by_36, trivial, trivial, trivial, trivial, trivial, trivial, uns_36, trivial⟩
theorem uns_37 : (Tryd.prog.underlying 37).isSome = true := by kernel_rfl
theorem tok_37 : TOk Tryd.prog 37 { ti := some (false, 1), zv := some (.any), zok := some 1, by' := some 8, un := true } := ⟨ti_37, trivial, trivial, trivial, trivial, zv_37, zok_37, by_37, trivial, trivial, trivial, trivial, trivial, trivial, uns_37, trivial⟩
theorem uns_38 : (Tryd.prog.underlying 38).isSome = true := by kernel_rfl
theorem tok_38 : TOk Tryd.prog 38 { ti := some (false, 1), zv := some (.any), zok := some 1, by' := some 8, un := true } := ⟨ti_38, trivial, trivial, trivial, trivial, zv_38, zok_38, by_38, trivial, trivial, trivial, trivial, trivial, trivial, uns_38, trivial⟩
theorem uns_39 : (Tryd.prog.underlying 39).isSome = true := by kernel_rfl
theorem tok_39 : TOk Tryd.prog 39 { ti := some (false, 1), zv := some (.any), zok := some 1, by' := some 8, un := true } := ⟨ti_39, trivial, trivial, trivial, trivial, zv_39, zok_39, by_39, trivial, trivial, trivial, trivial, trivial, trivial, uns_39, trivial⟩
theorem uns_40 : (Tryd.prog.underlying 40).isSome = true := by kernel_rfl
theorem tok_40 : TOk Tryd.prog 40 { ti := some (false, 1), zv := some (.nilp), zok := some 1, by' := some 8, ptr := true, un := true } := ⟨ti_40, trivial, trivial, trivial, trivial, zv_40, zok_40, by_40, trivial, trivial, trivial, trivial, isPtr_40, trivial, uns_40, trivial⟩
theorem uns_41 : (Tryd.prog.underlying 41).isSome = true := by kernel_rfl
theorem tok_41 : TOk Tryd.prog 41 { ti := some (false, 1), zv := some (.nilp), zok := some 1, by' := some 8, ptr := true, un := true } := ⟨ti_41, trivial, trivial, trivial, trivial, zv_41, zok_41, by_41, trivial, trivial, trivial, trivial, isPtr_41, trivial, uns_41, trivial⟩
theorem uns_42 : (Tryd.prog.underlying 42).isSome = true := by kernel_rfl
theorem tok_42 : TOk Tryd.prog 42 { ti := some (false, 1), zv := some (.nilp), zok := some 1, by' := some 8, ptr := true, un := true } := ⟨ti_42, trivial, trivial, trivial, trivial, zv_42, zok_42, by_42, trivial, trivial, trivial, trivial, isPtr_42, trivial, uns_42, trivial⟩
theorem uns_43 : (Tryd.prog.underlying 43).isSome = true := by kernel_rfl
theorem tok_43 : TOk Tryd.prog 43 { ti := some (false, 1), ei := some (41, 1), zv := some (.nils), zok := some 1, by' := some 24, sli := true, ni := true, un := true } := ⟨ti_43, ei_43, trivial, trivial, trivial, zv_43, zok_43, by_43, trivial, trivial, isSli_43, trivial, trivial, notInt_43, uns_43, trivial⟩
theorem uns_44 : (Tryd.prog.underlying 44).isSome = true := by kernel_rfl
theorem tok_44 : TOk Tryd.prog 44 { ti := some (true, 4), fi := [some (0, (false, 1)), some (1, (false, 1)), some (2, (false, 1)), some (3, (false, 1))], si := some [(0, 1), (1, 1), (2, 1), (3, 1)], zv := some (.agg [.nilp, .nils, .str [], .bool false]), zok := some 4, by' := some 56, un := true } := ⟨ti_44, trivial, trivial, ⟨fi_44_0, fi_44_1, fi_44_2, fi_44_3, trivial⟩, si_44, zv_44, zok_44, by_44, trivial, trivial, trivial, trivial, trivial, trivial, uns_44, trivial⟩
theorem uns_45 : (Tryd.prog.underlying 45).isSome = true := by kernel_rfl
theorem tok_45 : TOk Tryd.prog 45 { ti := some (true, 4), fi := [some (0, (false, 1)), some (1, (false, 1)), some (2, (false, 1)), some (3, (false, 1))], si := some [(0, 1), (1, 1), (2, 1), (3, 1)], zv := some (.agg [.nilp, .nils, .str [], .bool false]), zok := some 4, by' := some 56, un := true } := ⟨ti_45, trivial, trivial, ⟨fi_45_0, fi_45_1, fi_45_2, fi_45_3, trivial⟩, si_45, zv_45, zok_45, by_45, trivial, trivial, trivial, trivial, trivial, trivial, uns_45, trivial⟩
theorem uns_46 : (Tryd.prog.underlying 46).isSome = true := by kernel_rfl
theorem tok_46 : TOk Tryd.prog 46 { ti := some (true, 4), fi := [some (0, (false, 1)), some (1, (false, 1)), some (2, (false, 1)), some (3, (false, 1))], si := some [(0, 1), (1, 1), (2, 1), (3, 1)], zv := some (.agg [.nilp, .nils, .int .i64 0, .str []]), zok := some 4, by' := some 56, un := true } := ⟨ti_46, trivial, trivial, ⟨fi_46_0, fi_46_1, fi_46_2, fi_46_3, trivial⟩, si_46, zv_46, zok_46, by_46, trivial, trivial, trivial, trivial, trivial, trivial, uns_46, trivial⟩
theorem uns_47 : (Tryd.prog.underlying 47).isSome = true := by kernel_rfl
theorem tok_47 : TOk Tryd.prog 47 { ti := some (true, 4), fi := [some (0, (false, 1)), some (1, (false, 1)), some (2, (false, 1)), some (3, (false, 1))], si := some [(0, 1), (1, 1), (2, 1), (3, 1)], zv := some (.agg [.nilp, .nils, .int .i64 0, .str []]), zok := some 4, by' := some 56, un := true } := ⟨ti_47, trivial, trivial, ⟨fi_47_0, fi_47_1, fi_47_2, fi_47_3, trivial⟩, si_47, zv_47, zok_47, by_47, trivial, trivial, trivial, trivial, trivial, trivial, uns_47, trivial⟩
theorem uns_48 : (Tryd.prog.underlying 48).isSome = true := by kernel_rfl
theorem tok_48 : TOk Tryd.prog 48 { ti := some (false, 1), ei := some (80, 2), zv := some (.nils), zok := some 1, by' := some 24, sli := true, ni := true, un := true } := ⟨ti_48, ei_48, trivial, trivial, trivial, zv_48, zok_48, by_48, trivial, trivial, isSli_48, trivial, trivial, notInt_48, uns_48, trivial⟩
theorem uns_49 : (Tryd.prog.underlying 49).isSome = true := by kernel_rfl
theorem tok_49 : TOk Tryd.prog 49 { ti := some (true, 5), fi := [some (0, (false, 1)), some (1, (false, 1)), some (2, (false, 1)), some (3, (false, 1)), some (4, (false, 1))], si := some [(0, 1), (1, 1), (2, 1), (3, 1), (4, 1)], zv := some (.agg [.int .i64 0, .str [], .nils, .bool false, .str []]), zok := some 5, by' := some 72, un := true } := ⟨ti_49, trivial, trivial, ⟨fi_49_0, fi_49_1, fi_49_2, fi_49_3, fi_49_4, trivial⟩, si_49, zv_49, zok_49, by_49, trivial, trivial, trivial, trivial, trivial, trivial, uns_49, trivial⟩
theorem uns_50 : (Tryd.prog.underlying 50).isSome = true := by kernel_rfl
theorem tok_50 : TOk Tryd.prog 50 { ti := some (true, 5), fi := [some (0, (false, 1)), some (1, (false, 1)), some (2, (false, 1)), some (3, (false, 1)), some (4, (false, 1))], si := some [(0, 1), (1, 1), (2, 1), (3, 1), (4, 1)], zv := some (.agg [.int .i64 0, .str [], .nils, .bool false, .str []]), zok := some 5, by' := some 72, un := true } := ⟨ti_50, trivial, trivial, ⟨fi_50_0, fi_50_1, fi_50_2, fi_50_3, fi_50_4, trivial⟩, si_50, zv_50, zok_50, by_50, trivial, trivial, trivial, trivial, trivial, trivial, uns_50, trivial⟩
theorem uns_51 : (Tryd.prog.underlying 51).isSome = true := by kernel_rfl
theorem tok_51 : TOk Tryd.prog 51 { ti := some (false, 1), zv := some (.any), zok := some 1, by' := some 8, un := true } := ⟨ti_51, trivial, trivial, trivial, trivial, zv_51, zok_51, by_51, trivial, trivial, trivial, trivial, trivial, trivial, uns_51, trivial⟩
theorem uns_52 : (Tryd.prog.underlying 52).isSome = true := by kernel_rfl
theorem tok_52 : TOk Tryd.prog 52 { ti := some (false, 1), zv := some (.any), zok := some 1, by' := some 8, un := true } := ⟨ti_52, trivial, trivial, trivial, trivial, zv_52, zok_52, by_52, trivial, trivial, trivial, trivial, trivial, trivial, uns_52, trivial⟩
theorem uns_53 : (Tryd.prog.underlying 53).isSome = true := by kernel_rfl
theorem tok_53 : TOk Tryd.prog 53 { ti := some (false, 1), zv := some (.any), zok := some 1, by' := some 8, un := true } := ⟨ti_53, trivial, trivial, trivial, trivial, zv_53, zok_53, by_53, trivial, trivial, trivial, trivial, trivial, trivial, uns_53, trivial⟩
theorem uns_54 : (Tryd.prog.underlying 54).isSome = true := by kernel_rfl
theorem tok_54 : TOk Tryd.prog 54 { ti := some (false, 1), zv := some (.any), zok := some 1, by' := some 8, un := true } := ⟨ti_54, trivial, trivial, trivial, trivial, zv_54, zok_54, by_54, trivial, trivial, trivial, trivial, trivial, trivial, uns_54, trivial⟩
theorem uns_55 : (Tryd.prog.underlying 55).isSome = true := by kernel_rfl
theorem tok_55 : TOk Tryd.prog 55 { ti := some (false, 1), zv := some (.any), zok := some 1, by' := some 8, un := true } := ⟨ti_55, trivial, trivial, trivial, trivial, zv_55, zok_55, by_55, trivial, trivial, trivial, trivial, trivial, trivial, uns_55, trivial⟩
theorem uns_56 : (Tryd.prog.underlying 56).isSome = true := by kernel_rfl
theorem tok_56 : TOk Tryd.prog 56 { ti := some (false, 1), ei := some (60, 7), zv := some (.nils), zok := some 1, by' := some 24, sli := true, ni := true, un := true } := ⟨ti_56, ei_56, trivial, trivial, trivial, zv_56, zok_56, by_56, trivial, trivial, isSli_56, trivial, trivial, notInt_56, uns_56, trivial⟩
theorem uns_57 : (Tryd.prog.underlying 57).isSome = true := by kernel_rfl
theorem tok_57 : TOk Tryd.prog 57 { ti := some (true, 4), fi := [some (0, (false, 1)), some (1, (false, 1)), some (2, (false, 1)), some (3, (false, 1))], si := some [(0, 1), (1, 1), (2, 1), (3, 1)], zv := some (.agg [.str [], .nils, .str [], .nils]), zok := some 4, by' := some 80, un := true } := ⟨ti_57, trivial, trivial, ⟨fi_57_0, fi_57_1, fi_57_2, fi_57_3, trivial⟩, si_57, zv_57, zok_57, by_57, trivial, trivial, trivial, trivial, trivial, trivial, uns_57, trivial⟩
theorem uns_58 : (Tryd.prog.underlying 58).isSome = true := by kernel_rfl
theorem tok_58 : TOk Tryd.prog 58 { ti := some (true, 4), fi := [some (0, (false, 1)), some (1, (false, 1)), some (2, (false, 1)), some (3, (false, 1))], si := some [(0, 1), (1, 1), (2, 1), (3, 1)], zv := some (.agg [.str [], .nils, .str [], .nils]), zok := some 4, by' := some 80, un := true } := ⟨ti_58, trivial, trivial, ⟨fi_58_0, fi_58_1, fi_58_2, fi_58_3, trivial⟩, si_58, zv_58, zok_58, by_58, trivial, trivial, trivial, trivial, trivial, trivial, uns_58, trivial⟩
theorem uns_59 : (Tryd.prog.underlying 59).isSome = true := by kernel_rfl
theorem tok_59 : TOk Tryd.prog 59 { ti := some (true, 7), fi := [some (0, (false, 1)), some (1, (true, 4)), some (5, (false, 1)), some (6, (false, 1))], si := some [(0, 1), (1, 4), (5, 1), (6, 1)], zv := some (.agg [.int .i64 0, .str [], .nils, .str [], .nils, .bool false, .bool false]), zok := some 7, by' := some 96, un := true } := ⟨ti_59, trivial, trivial, ⟨fi_59_0, fi_59_1, fi_59_2, fi_59_3, trivial⟩, si_59, zv_59, zok_59, by_59, trivial, trivial, trivial, trivial, trivial, trivial, uns_59, trivial⟩
theorem uns_60 : (Tryd.prog.underlying 60).isSome = true := by kernel_rfl
theorem tok_60 : TOk Tryd.prog 60 { ti := some (true, 7), fi := [some (0, (false, 1)), some (1, (true, 4)), some (5, (false, 1)), some (6, (false, 1))], si := some [(0, 1), (1, 4), (5, 1), (6, 1)], zv := some (.agg [.int .i64 0, .str [], .nils, .str [], .nils, .bool false, .bool false]), zok := some 7, by' := some 96, un := true } := ⟨ti_60, trivial, trivial, ⟨fi_60_0, fi_60_1, fi_60_2, fi_60_3, trivial⟩, si_60, zv_60, zok_60, by_60, trivial, trivial, trivial, trivial, trivial, trivial, uns_60, trivial⟩
theorem uns_61 : (Tryd.prog.underlying 61).isSome = true := by kernel_rfl
theorem tok_61 : TOk Tryd.prog 61 { ti := some (false, 1), zv := some (.any), zok := some 1, by' := some 8, un := true } := ⟨ti_61, trivial, trivial, trivial, trivial, zv_61, zok_61, by_61, trivial, trivial, trivial, trivial, trivial, trivial, uns_61, trivial⟩
theorem uns_62 : (Tryd.prog.underlying 62).isSome = true := by kernel_rfl
theorem tok_62 : TOk Tryd.prog 62 { ti := some (false, 1), zv := some (.any), zok := some 1, by' := some 8, un := true } := ⟨ti_62, trivial, trivial, trivial, trivial, zv_62, zok_62, by_62, trivial, trivial, trivial, trivial, trivial, trivial, uns_62, trivial⟩
theorem uns_63 : (Tryd.prog.underlying 63).isSome = true := by kernel_rfl
theorem tok_63 : TOk Tryd.prog 63 { ti := some (false, 1), zv := some (.any), zok := some 1, by' := some 8, un := true } := ⟨ti_63, trivial, trivial, trivial, trivial, zv_63, zok_63, by_63, trivial, trivial, trivial, trivial, trivial, trivial, uns_63, trivial⟩
theorem uns_64 : (Tryd.prog.underlying 64).isSome = true := by kernel_rfl
theorem tok_64 : TOk Tryd.prog 64 { ti := some (false, 1), zv := some (.any), zok := some 1, by' := some 8, un := true } := ⟨ti_64, trivial, trivial, trivial, trivial, zv_64, zok_64, by_64, trivial, trivial, trivial, trivial, trivial, trivial, uns_64, trivial⟩
theorem uns_65 : (Tryd.prog.underlying 65).isSome = true := by kernel_rfl
theorem tok_65 : TOk Tryd.prog 65 { ti := some (false, 1), zv := some (.any), zok := some 1, by' := some 8, un := true } := ⟨ti_65, trivial, trivial, trivial, trivial, zv_65, zok_65, by_65, trivial, trivial, trivial, trivial, trivial, trivial, uns_65, trivial⟩
theorem uns_66 : (Tryd.prog.underlying 66).isSome = true := by kernel_rfl
theorem tok_66 : TOk Tryd.prog 66 { ti := some (false, 1), zv := some (.any), zok := some 1, by' := some 8, un := true } := ⟨ti_66, trivial, trivial, trivial, trivial, zv_66, zok_66, by_66, trivial, trivial, trivial, trivial, trivial, trivial, uns_66, trivial⟩
theorem uns_67 : (Tryd.prog.underlying 67).isSome = true := by kernel_rfl
theorem tok_67 : TOk Tryd.prog 67 { ti := some (false, 1), zv := some (.any), zok := some 1, by' := some 8, un := true } := ⟨ti_67, trivial, trivial, trivial, trivial, zv_67, zok_67, by_67, trivial, trivial, trivial, trivial, trivial, trivial, uns_67, trivial⟩
theorem uns_68 : (Tryd.prog.underlying 68).isSome = true := by kernel_rfl
theorem tok_68 : TOk Tryd.prog 68 { ti := some (false, 1), zv := some (.any), zok := some 1, by' := some 8, un := true } := ⟨ti_68, trivial, trivial, trivial, trivial, zv_68, zok_68, by_68, trivial, trivial, trivial, trivial, trivial, trivial, uns_68, trivial⟩
theorem uns_69 : (Tryd.prog.underlying 69).isSome = true := by kernel_rfl
theorem tok_69 : TOk Tryd.prog 69 { ti := some (false, 1), zv := some (.any), zok := some 1, by' := some 8, un := true } := ⟨ti_69, trivial, trivial, trivial, trivial, zv_69, zok_69, by_69, trivial, trivial, trivial, trivial, trivial, trivial, uns_69, trivial⟩
theorem uns_70 : (Tryd.prog.underlying 70).isSome = true := by kernel_rfl
theorem tok_70 : TOk Tryd.prog 70 { ti := some (false, 1), ei := some (3, 1), zv := some (.nils), zok := some 1, by' := some 24, sli := true, ni := true, un := true } := ⟨ti_70, ei_70, trivial, trivial, trivial, zv_70, zok_70, by_70, trivial, trivial, isSli_70, trivial, trivial, notInt_70, uns_70, trivial⟩
theorem uns_71 : (Tryd.prog.underlying 71).isSome = true := by kernel_rfl
theorem tok_71 : TOk Tryd.prog 71 { ti := some (true, 2), fi := [some (0, (false, 1)), some (1, (false, 1))], si := some [(0, 1), (1, 1)], zv := some (.agg [.str [], .nils]), zok := some 2, by' := some 40, un := true } := ⟨ti_71, trivial, trivial, ⟨fi_71_0, fi_71_1, trivial⟩, si_71, zv_71, zok_71, by_71, trivial, trivial, trivial, trivial, trivial, trivial, uns_71, trivial⟩
theorem uns_72 : (Tryd.prog.underlying 72).isSome = true := by kernel_rfl
theorem tok_72 : TOk Tryd.prog 72 { ti := some (true, 2), fi := [some (0, (false, 1)), some (1, (false, 1))], si := some [(0, 1), (1, 1)], zv := some (.agg [.str [], .nils]), zok := some 2, by' := some 40, un := true } := ⟨ti_72, trivial, trivial, ⟨fi_72_0, fi_72_1, trivial⟩, si_72, zv_72, zok_72, by_72, trivial, trivial, trivial, trivial, trivial, trivial, uns_72, trivial⟩
theorem uns_73 : (Tryd.prog.underlying 73).isSome = true := by kernel_rfl
theorem tok_73 : TOk Tryd.prog 73 { ti := some (false, 1), zv := some (.any), zok := some 1, by' := some 8, un := true } := ⟨ti_73, trivial, trivial, trivial, trivial, zv_73, zok_73, by_73, trivial, trivial, trivial, trivial, trivial, trivial, uns_73, trivial⟩
theorem uns_74 : (Tryd.prog.underlying 74).isSome = true := by kernel_rfl
theorem tok_74 : TOk Tryd.prog 74 { ti := some (false, 1), zv := some (.any), zok := some 1, by' := some 8, un := true } := ⟨ti_74, trivial, trivial, trivial, trivial, zv_74, zok_74, by_74, trivial, trivial, trivial, trivial, trivial, trivial, uns_74, trivial⟩
theorem uns_75 : (Tryd.prog.underlying 75).isSome = true := by kernel_rfl
theorem tok_75 : TOk Tryd.prog 75 { ti := some (false, 1), zv := some (.any), zok := some 1, by' := some 8, un := true } := ⟨ti_75, trivial, trivial, trivial, trivial, zv_75, zok_75, by_75, trivial, trivial, trivial, trivial, trivial, trivial, uns_75, trivial⟩
theorem uns_76 : (Tryd.prog.underlying 76).isSome = true := by kernel_rfl
theorem tok_76 : TOk Tryd.prog 76 { ti := some (false, 1), zv := some (.any), zok := some 1, by' := some 8, un := true } := ⟨ti_76, trivial, trivial, trivial, trivial, zv_76, zok_76, by_76, trivial, trivial, trivial, trivial, trivial, trivial, uns_76, trivial⟩
theorem uns_77 : (Tryd.prog.underlying 77).isSome = true := by kernel_rfl
theorem tok_77 : TOk Tryd.prog 77 { ti := some (true, 9), ai := some (9, (false, 1)), zv := some (.agg [.str [], .str [], .str [], .str [], .str [], .str [], .str [], .str [], .str []]), zok := some 9, by' := some 144, un := true } := ⟨ti_77, trivial, ai_77, trivial, trivial, zv_77, zok_77, by_77, trivial, trivial, trivial, trivial, trivial, trivial, uns_77, trivial⟩
theorem uns_78 : (Tryd.prog.underlying 78).isSome = true := by kernel_rfl
theorem tok_78 : TOk Tryd.prog 78 { ti := some (false, 1), zv := some (.any), zok := some 1, by' := some 8, un := true } := ⟨ti_78, trivial, trivial, trivial, trivial, zv_78, zok_78, by_78, trivial, trivial, trivial, trivial, trivial, trivial, uns_78, trivial⟩
theorem uns_79 : (Tryd.prog.underlying 79).isSome = true := by kernel_rfl
theorem tok_79 : TOk Tryd.prog 79 { ti := some (true, 2), fi := [some (0, (false, 1)), some (1, (false, 1))], si := some [(0, 1), (1, 1)], zv := some (.agg [.str [], .str []]), zok := some 2, by' := some 32, un := true } := ⟨ti_79, trivial, trivial, ⟨fi_79_0, fi_79_1, trivial⟩, si_79, zv_79, zok_79, by_79, trivial, trivial, trivial, trivial, trivial, trivial, uns_79, trivial⟩
theorem sq_80 : SQ Tryd.prog 80 = some [.s, .s] := by kernel_rfl
theorem uns_80 : (Tryd.prog.underlying 80).isSome = true := by kernel_rfl
theorem tok_80 : TOk Tryd.prog 80 { ti := some (true, 2), fi := [some (0, (false, 1)), some (1, (false, 1))], si := some [(0, 1), (1, 1)], zv := some (.agg [.str [], .str []]), zok := some 2, by' := some 32, un := true, sq := some [.s, .s] } := ⟨ti_80, trivial, trivial, ⟨fi_80_0, fi_80_1, trivial⟩, si_80, zv_80, zok_80, by_80, trivial, trivial, trivial, trivial, trivial, trivial, uns_80, sq_80⟩
theorem uns_81 : (Tryd.prog.underlying 81).isSome = true := by kernel_rfl
theorem tok_81 : TOk Tryd.prog 81 { ti := some (false, 1), zv := some (.any), zok := some 1, by' := some 8, un := true } := ⟨ti_81, trivial, trivial, trivial, trivial, zv_81, zok_81, by_81, trivial, trivial, trivial, trivial, trivial, trivial, uns_81, trivial⟩
theorem uns_82 : (Tryd.prog.underlying 82).isSome = true := by kernel_rfl
theorem tok_82 : TOk Tryd.prog 82 { ti := some (true, 4), ai := some (4, (false, 1)), zv := some (.agg [.str [], .str [], .str [], .str []]), zok := some 4, by' := some 64, un := true } := ⟨ti_82, trivial, ai_82, trivial, trivial, zv_82, zok_82, by_82, trivial, trivial, trivial, trivial, trivial, trivial, uns_82, trivial⟩
theorem uns_83 : (Tryd.prog.underlying 83).isSome = true := by kernel_rfl
theorem tok_83 : TOk Tryd.prog 83 { ti := some (true, 256), ai := some (256, (false, 1)), zv := some (.agg [.int .u8 0, .int .u8 0, .int .u8 0, .int .u8 0, .int .u8 0, .int .u8 0, .int .u8 0, .int .u8 0, .int .u8 0, .int .u8 0, .int .u8 0, .int .u8 0, .int .u8 0, .int .u8 0, .int .u8 0, .int .u8 0, .int .u8 0, .int .u8 0, .int .u8 0, .int .u8 0, .int .u8 0, .int .u8 0, .int .u8 0, .int .u8 0, .int .u8 0, .int .u8 0, .int .u8 0, .int .u8 0, .int .u8 0, .int .u8 0, .int .u8 0, .int .u8 0, .int .u8 0, .int .u8 0, .int .u8 0, .int .u8 0, .int .u8 0, .int .u8 0, .int .u8 0, .int .u8 0, .int .u8 0, .int .u8 0, .int .u8 0, .int .u8 0, .int .u8 0, .int .u8 0, .int .u8 0, .int .u8 0, .int .u8 0, .int .u8 0, .int .u8 0, .int .u8 0, .int .u8 0, .int .u8 0, .int .u8 0, .int .u8 0, .int .u8 0, .int .u8 0, .int .u8 0, .int .u8 0, .int .u8 0, .int .u8 0, .int .u8 0, .int .u8 0, .int .u8 0, .int .u8 0, .int .u8 0, .int .u8 0, .int .u8 0, .int .u8 0, .int .u8 0, .int .u8 0, .int .u8 0, .int .u8 0, .int .u8 0, .int .u8 0, .int .u8 0, .int .u8 0, .int .u8 0, .int .u8 0, .int .u8 0, .int .u8 0, .int .u8 0, .int .u8 0, .int .u8 0, .int .u8 0, .int .u8 0, .int .u8 0, .int .u8 0, .int .u8 0, .int .u8 0, .int .u8 0, .int .u8 0, .int .u8 0, .int .u8 0, .int .u8 0, .int .u8 0, .int .u8 0, .int .u8 0, .int .u8 0, .int .u8 0, .int .u8 0, .int .u8 0, .int .u8 0, .int .u8 0, .int .u8 0, .int .u8 0, .int .u8 0, .int .u8 0, .int .u8 0, .int .u8 0, .int .u8 0, .int .u8 0, .int .u8 0, .int .u8 0, .int .u8 0, .int .u8 0, .int .u8 0, .int .u8 0, .int .u8 0, .int .u8 0, .int .u8 0, .int .u8 0, .int .u8 0, .int .u8 0, .int .u8 0, .int .u8 0, .int .u8 0, .int .u8 0, .int .u8 0, .int .u8 0, .int .u8 0, .int .u8 0, .int .u8 0, .int .u8 0, .int .u8 0, .int .u8 0, .int .u8 0, .int .u8 0, .int .u8 0, .int .u8 0, .int .u8 0, .int .u8 0, .int .u8 0, .int .u8 0, .int .u8 0, .int .u8 0, .int .u8 0, .int .u8 0, .int .u8 0, .int .u8 0, .int .u8 0, .int .u8 0, .int .u8 0, .int .u8 0, .int .u8 0, .int .u8 0, .int .u8 0, .int .u8 0, .int .u8 0, .int .u8 0, .int .u8 0, .int .u8 0, .int .u8 0, .int .u8 0, .int .u8 0, .int .u8 0, .int .u8 0, .int .u8 0, .int .u8 0, .int .u8 0, .int .u8 0, .int .u8 0, .int .u8 0, .int .u8 0, .int .u8 0, .int .u8 0, .int .u8 0, .int .u8 0, .int .u8 0, .int .u8 0, .int .u8 0, .int .u8 0, .int .u8 0, .int .u8 0, .int .u8 0, .int .u8 0, .int .u8 0, .int .u8 0, .int .u8 0, .int .u8 0, .int .u8 0, .int .u8 0, .int .u8 0, .int .u8 0, .int .u8 0, .int .u8 0, .int .u8 0, .int .u8 0, .int .u8 0, .int .u8 0, .int .u8 0, .int .u8 0, .int .u8 0, .int .u8 0, .int .u8 0, .int .u8 0, .int .u8 0, .int .u8 0, .int .u8 0, .int .u8 0, .int .u8 0, .int .u8 0, .int .u8 0, .int .u8 0, .int .u8 0, .int .u8 0, .int .u8 0, .int .u8 0, .int .u8 0, .int .u8 0, .int .u8 0, .int .u8 0, .int .u8 0, .int .u8 0, .int .u8 0, .int .u8 0, .int .u8 0, .int .u8 0, .int .u8 0, .int .u8 0, .int .u8 0, .int .u8 0, .int .u8 0, .int .u8 0, .int .u8 0, .int .u8 0, .int .u8 0, .int .u8 0, .int .u8 0, .int .u8 0, .int .u8 0, .int .u8 0, .int .u8 0, .int .u8 0, .int .u8 0, .int .u8 0, .int .u8 0, .int .u8 0, .int .u8 0, .int .u8 0, .int .u8 0, .int .u8 0, .int .u8 0, .int .u8 0, .int .u8 0]), zok := some 256, by' := some 256, un := true } := ⟨ti_83, trivial, ai_83, trivial, trivial, zv_83, zok_83, by_83, trivial, trivial, trivial, trivial, trivial, trivial, uns_83, trivial⟩
theorem uns_84 : (Tryd.prog.underlying 84).isSome = true := by kernel_rfl
theorem tok_84 : TOk Tryd.prog 84 { ti := some (false, 1), zv := some (.any), zok := some 1, by' := some 8, un := true } := ⟨ti_84, trivial, trivial, trivial, trivial, zv_84, zok_84, by_84, trivial, trivial, trivial, trivial, trivial, trivial, uns_84, trivial⟩
theorem uns_85 : (Tryd.prog.underlying 85).isSome = true := by kernel_rfl
theorem tok_85 : TOk Tryd.prog 85 { ti := some (false, 1), zv := some (.any), zok := some 1, by' := some 8, un := true } := ⟨ti_85, trivial, trivial, trivial, trivial, zv_85, zok_85, by_85, trivial, trivial, trivial, trivial, trivial, trivial, uns_85, trivial⟩
theorem uns_86 : (Tryd.prog.underlying 86).isSome = true := by kernel_rfl
theorem tok_86 : TOk Tryd.prog 86 { ti := some (false, 1), zv := some (.any), zok := some 1, by' := some 8, un := true } := ⟨ti_86, trivial, trivial, trivial, trivial, zv_86, zok_86, by_86, trivial, trivial, trivial, trivial, trivial, trivial, uns_86, trivial⟩
theorem uns_87 : (Tryd.prog.underlying 87).isSome = true := by kernel_rfl
theorem tok_87 : TOk Tryd.prog 87 { ti := some (false, 1), zv := some (.any), zok := some 1, by' := some 8, un := true } := ⟨ti_87, trivial, trivial, trivial, trivial, zv_87, zok_87, by_87, trivial, trivial, trivial, trivial, trivial, trivial, uns_87, trivial⟩
theorem uns_88 : (Tryd.prog.underlying 88).isSome = true := by kernel_rfl
theorem tok_88 : TOk Tryd.prog 88 { ti := some (false, 1), zv := some (.any), zok := some 1, by' := some 8, un := true } := ⟨ti_88, trivial, trivial, trivial, trivial, zv_88, zok_88, by_88, trivial, trivial, trivial, trivial, trivial, trivial, uns_88, trivial⟩
theorem uns_89 : (Tryd.prog.underlying 89).isSome = true := by kernel_rfl
theorem tok_89 : TOk Tryd.prog 89 { ti := some (false, 1), zv := some (.any), zok := some 1, by' := some 8, un := true } := ⟨ti_89, trivial, trivial, trivial, trivial, zv_89, zok_89, by_89, trivial, trivial, trivial, trivial, trivial, trivial, uns_89, trivial⟩
theorem uns_90 : (Tryd.prog.underlying 90).isSome = true := by kernel_rfl
theorem tok_90 : TOk Tryd.prog 90 { ti := some (false, 1), zv := some (.any), zok := some 1, by' := some 8, un := true } := ⟨ti_90, trivial, trivial, trivial, trivial, zv_90, zok_90, by_90, trivial, trivial, trivial, trivial, trivial, trivial, uns_90, trivial⟩
theorem uns_91 : (Tryd.prog.underlying 91).isSome = true := by kernel_rfl
theorem tok_91 : TOk Tryd.prog 91 { ti := some (false, 1), zv := some (.any), zok := some 1, by' := some 8, un := true } := ⟨ti_91, trivial, trivial, trivial, trivial, zv_91, zok_91, by_91, trivial, trivial, trivial, trivial, trivial, trivial, uns_91, trivial⟩
theorem uns_92 : (Tryd.prog.underlying 92).isSome = true := by kernel_rfl
theorem tok_92 : TOk Tryd.prog 92 { ti := some (false, 1), ei := some (94, 2), zv := some (.nils), zok := some 1, by' := some 24, sli := true, ni := true, un := true } := ⟨ti_92, ei_92, trivial, trivial, trivial, zv_92, zok_92, by_92, trivial, trivial, isSli_92, trivial, trivial, notInt_92, uns_92, trivial⟩
theorem uns_93 : (Tryd.prog.underlying 93).isSome = true := by kernel_rfl
theorem tok_93 : TOk Tryd.prog 93 { ti := some (true, 2), fi := [some (0, (false, 1)), some (1, (false, 1))], si := some [(0, 1), (1, 1)], zv := some (.agg [.int .i64 0, .int .i64 0]), zok := some 2, by' := some 16, un := true } := ⟨ti_93, trivial, trivial, ⟨fi_93_0, fi_93_1, trivial⟩, si_93, zv_93, zok_93, by_93, trivial, trivial, trivial, trivial, trivial, trivial, uns_93, trivial⟩
theorem uns_94 : (Tryd.prog.underlying 94).isSome = true := by kernel_rfl
theorem tok_94 : TOk Tryd.prog 94 { ti := some (true, 2), fi := [some (0, (false, 1)), some (1, (false, 1))], si := some [(0, 1), (1, 1)], zv := some (.agg [.int .i64 0, .int .i64 0]), zok := some 2, by' := some 16, un := true } := ⟨ti_94, trivial, trivial, ⟨fi_94_0, fi_94_1, trivial⟩, si_94, zv_94, zok_94, by_94, trivial, trivial, trivial, trivial, trivial, trivial, uns_94, trivial⟩
theorem uns_95 : (Tryd.prog.underlying 95).isSome = true := by kernel_rfl
theorem tok_95 : TOk Tryd.prog 95 { ti := some (false, 1), zv := some (.int .u32 0), zok := some 1, by' := some 4, ik := some .u32, un := true } := ⟨ti_95, trivial, trivial, trivial, trivial, zv_95, zok_95, by_95, intK_95, trivial, trivial, trivial, trivial, trivial, uns_95, trivial⟩
theorem uns_96 : (Tryd.prog.underlying 96).isSome = true := by kernel_rfl
theorem tok_96 : TOk Tryd.prog 96 { ti := some (false, 1), zv := some (.any), zok := some 1, by' := some 8, un := true } := ⟨ti_96, trivial, trivial, trivial, trivial, zv_96, zok_96, by_96, trivial, trivial, trivial, trivial, trivial, trivial, uns_96, trivial⟩
theorem uns_97 : (Tryd.prog.underlying 97).isSome = true := by kernel_rfl
theorem tok_97 : TOk Tryd.prog 97 { ti := some (false, 1), zv := some (.nilp), zok := some 1, by' := some 8, ptr := true, un := true } := ⟨ti_97, trivial, trivial, trivial, trivial, zv_97, zok_97, by_97, trivial, trivial, trivial, trivial, isPtr_97, trivial, uns_97, trivial⟩
theorem uns_98 : (Tryd.prog.underlying 98).isSome = true := by kernel_rfl
theorem tok_98 : TOk Tryd.prog 98 { ti := some (false, 1), zv := some (.any), zok := some 1, by' := some 8, un := true } := ⟨ti_98, trivial, trivial, trivial, trivial, zv_98, zok_98, by_98, trivial, trivial, trivial, trivial, trivial, trivial, uns_98, trivial⟩
theorem uns_99 : (Tryd.prog.underlying 99).isSome = true := by kernel_rfl
theorem tok_99 : TOk Tryd.prog 99 { ti := some (false, 1), ei := some (105, 3), zv := some (.nils), zok := some 1, by' := some 24, sli := true, ni := true, un := true } := ⟨ti_99, ei_99, trivial, trivial, trivial, zv_99, zok_99, by_99, trivial, trivial, isSli_99, trivial, trivial, notInt_99, uns_99, trivial⟩
theorem uns_100 : (Tryd.prog.underlying 100).isSome = true := by kernel_rfl
theorem tok_100 : TOk Tryd.prog 100 { ti := some (false, 1), ei := some (108, 3), zv := some (.nils), zok := some 1, by' := some 24, sli := true, ni := true, un := true } := ⟨ti_100, ei_100, trivial, trivial, trivial, zv_100, zok_100, by_100, trivial, trivial, isSli_100, trivial, trivial, notInt_100, uns_100, trivial⟩
theorem uns_101 : (Tryd.prog.underlying 101).isSome = true := by kernel_rfl
theorem tok_101 : TOk Tryd.prog 101 { ti := some (true, 3), fi := [some (0, (false, 1)), some (1, (false, 1)), some (2, (false, 1))], si := some [(0, 1), (1, 1), (2, 1)], zv := some (.agg [.nils, .nils, .int .i64 0]), zok := some 3, by' := some 56, un := true } := ⟨ti_101, trivial, trivial, ⟨fi_101_0, fi_101_1, fi_101_2, trivial⟩, si_101, zv_101, zok_101, by_101, trivial, trivial, trivial, trivial, trivial, trivial, uns_101, trivial⟩
theorem uns_102 : (Tryd.prog.underlying 102).isSome = true := by kernel_rfl
theorem tok_102 : TOk Tryd.prog 102 { ti := some (true, 3), fi := [some (0, (false, 1)), some (1, (false, 1)), some (2, (false, 1))], si := some [(0, 1), (1, 1), (2, 1)], zv := some (.agg [.nils, .nils, .int .i64 0]), zok := some 3, by' := some 56, un := true } := ⟨ti_102, trivial, trivial, ⟨fi_102_0, fi_102_1, fi_102_2, trivial⟩, si_102, zv_102, zok_102, by_102, trivial, trivial, trivial, trivial, trivial, trivial, uns_102, trivial⟩
theorem uns_103 : (Tryd.prog.underlying 103).isSome = true := by kernel_rfl
theorem tok_103 : TOk Tryd.prog 103 { ti := some (false, 1), zv := some (.int .u16 0), zok := some 1, by' := some 2, ik := some .u16, un := true } := ⟨ti_103, trivial, trivial, trivial, trivial, zv_103, zok_103, by_103, intK_103, trivial, trivial, trivial, trivial, trivial, uns_103, trivial⟩
theorem uns_104 : (Tryd.prog.underlying 104).isSome = true := by kernel_rfl
theorem tok_104 : TOk Tryd.prog 104 { ti := some (true, 3), fi := [some (0, (false, 1)), some (1, (false, 1)), some (2, (false, 1))], si := some [(0, 1), (1, 1), (2, 1)], zv := some (.agg [.int .u16 0, .int .u16 0, .int .u16 0]), zok := some 3, by' := some 6, un := true } := ⟨ti_104, trivial, trivial, ⟨fi_104_0, fi_104_1, fi_104_2, trivial⟩, si_104, zv_104, zok_104, by_104, trivial, trivial, trivial, trivial, trivial, trivial, uns_104, trivial⟩
theorem uns_105 : (Tryd.prog.underlying 105).isSome = true := by kernel_rfl
theorem tok_105 : TOk Tryd.prog 105 { ti := some (true, 3), fi := [some (0, (false, 1)), some (1, (false, 1)), some (2, (false, 1))], si := some [(0, 1), (1, 1), (2, 1)], zv := some (.agg [.int .u16 0, .int .u16 0, .int .u16 0]), zok := some 3, by' := some 6, un := true } := ⟨ti_105, trivial, trivial, ⟨fi_105_0, fi_105_1, fi_105_2, trivial⟩, si_105, zv_105, zok_105, by_105, trivial, trivial, trivial, trivial, trivial, trivial, uns_105, trivial⟩
theorem uns_106 : (Tryd.prog.underlying 106).isSome = true := by kernel_rfl
theorem tok_106 : TOk Tryd.prog 106 { ti := some (false, 1), zv := some (.any), zok := some 1, by' := some 8, un := true } := ⟨ti_106, trivial, trivial, trivial, trivial, zv_106, zok_106, by_106, trivial, trivial, trivial, trivial, trivial, trivial, uns_106, trivial⟩
theorem uns_107 : (Tryd.prog.underlying 107).isSome = true := by kernel_rfl
theorem tok_107 : TOk Tryd.prog 107 { ti := some (true, 3), fi := [some (0, (false, 1)), some (1, (false, 1)), some (2, (false, 1))], si := some [(0, 1), (1, 1), (2, 1)], zv := some (.agg [.int .u32 0, .int .u32 0, .int .u32 0]), zok := some 3, by' := some 12, un := true } := ⟨ti_107, trivial, trivial, ⟨fi_107_0, fi_107_1, fi_107_2, trivial⟩, si_107, zv_107, zok_107, by_107, trivial, trivial, trivial, trivial, trivial, trivial, uns_107, trivial⟩
theorem uns_108 : (Tryd.prog.underlying 108).isSome = true := by kernel_rfl
theorem tok_108 : TOk Tryd.prog 108 { ti := some (true, 3), fi := [some (0, (false, 1)), some (1, (false, 1)), some (2, (false, 1))], si := some [(0, 1), (1, 1), (2, 1)], zv := some (.agg [.int .u32 0, .int .u32 0, .int .u32 0]), zok := some 3, by' := some 12, un := true } := ⟨ti_108, trivial, trivial, ⟨fi_108_0, fi_108_1, fi_108_2, trivial⟩, si_108, zv_108, zok_108, by_108, trivial, trivial, trivial, trivial, trivial, trivial, uns_108, trivial⟩
theorem uns_109 : (Tryd.prog.underlying 109).isSome = true := by kernel_rfl
theorem tok_109 : TOk Tryd.prog 109 { ti := some (false, 1), zv := some (.any), zok := some 1, by' := some 8, un := true } := ⟨ti_109, trivial, trivial, trivial, trivial, zv_109, zok_109, by_109, trivial, trivial, trivial, trivial, trivial, trivial, uns_109, trivial⟩
theorem uns_110 : (Tryd.prog.underlying 110).isSome = true := by kernel_rfl
theorem tok_110 : TOk Tryd.prog 110 { ti := some (false, 1), zv := some (.any), zok := some 1, by' := some 8, un := true } := ⟨ti_110, trivial, trivial, trivial, trivial, zv_110, zok_110, by_110, trivial, trivial, trivial, trivial, trivial, trivial, uns_110, trivial⟩
theorem uns_111 : (Tryd.prog.underlying 111).isSome = true := by kernel_rfl
theorem tok_111 : TOk Tryd.prog 111 { ti := some (false, 1), zv := some (.nilp), zok := some 1, by' := some 8, ptr := true, un := true } := ⟨ti_111, trivial, trivial, trivial, trivial, zv_111, zok_111, by_111, trivial, trivial, trivial, trivial, isPtr_111, trivial, uns_111, trivial⟩
theorem uns_112 : (Tryd.prog.underlying 112).isSome = true := by kernel_rfl
theorem tok_112 : TOk Tryd.prog 112 { ti := some (false, 1), zv := some (.int .u64 0), zok := some 1, by' := some 8, ik := some .u64, un := true } := ⟨ti_112, trivial, trivial, trivial, trivial, zv_112, zok_112, by_112, intK_112, trivial, trivial, trivial, trivial, trivial, uns_112, trivial⟩
theorem uns_113 : (Tryd.prog.underlying 113).isSome = true := by kernel_rfl
theorem tok_113 : TOk Tryd.prog 113 { ti := some (false, 1), zv := some (.nilp), zok := some 1, by' := some 8, ptr := true, un := true } := ⟨ti_113, trivial, trivial, trivial, trivial, zv_113, zok_113, by_113, trivial, trivial, trivial, trivial, isPtr_113, trivial, uns_113, trivial⟩
theorem uns_114 : (Tryd.prog.underlying 114).isSome = true := by kernel_rfl
theorem tok_114 : TOk Tryd.prog 114 { ti := some (false, 1), zv := some (.any), zok := some 1, by' := some 8, un := true } := ⟨ti_114, trivial, trivial, trivial, trivial, zv_114, zok_114, by_114, trivial, trivial, trivial, trivial, trivial, trivial, uns_114, trivial⟩
theorem uns_123 : (Tryd.prog.underlying 123).isSome = true := by kernel_rfl
theorem tok_123 : TOk Tryd.prog 123 { ti := some (false, 1), zv := some (.nilp), zok := some 1, by' := some 8, ptr := true, un := true } := ⟨ti_123, trivial, trivial, trivial, trivial, zv_123, zok_123, by_123, trivial, trivial, trivial, trivial, isPtr_123, trivial, uns_123, trivial⟩
def Tryd.tt : TT := (.node (.node (.node (.node (.node (.node (.node .leaf 1 { ti := some (false, 1), zv := some (.any), zok := some 1, by' := some 8, un := true } .leaf) 2 { ti := some (false, 1), zv := some (.int .i64 0), zok := some 1, by' := some 8, ik := some .i64, un := true } (.node .leaf 3 { ti := some (false, 1), zv := some (.int .i64 0), zok := some 1, by' := some 8, ik := some .i64, un := true } .leaf)) 4 { ti := some (false, 1), zv := some (.bool false), zok := some 1, by' := some 1, boo := true, un := true } (.node (.node .leaf 5 { ti := some (false, 1), zv := some (.int .u8 0), zok := some 1, by' := some 1, ik := some .u8, un := true } .leaf) 9 { ti := some (false, 1), zv := some (.str []), zok := some 1, by' := some 16, str := true, ni := true, un := true } .leaf)) 12 { ti := some (false, 1), zv := some (.int .u64 0), zok := some 1, by' := some 8, ik := some .u64, un := true } (.node (.node (.node .leaf 13 { ti := some (true, 2), fi := [some (0, (false, 1)), some (1, (false, 1))], si := some [(0, 1), (1, 1)], zv := some (.agg [.str [], .int .u64 0]), zok := some 2, by' := some 24, un := true } .leaf) 21 { ti := some (false, 1), zv := some (.int .i32 0), zok := some 1, by' := some 4, ik := some .i32, un := true } .leaf) 22 { ti := some (false, 1), ei := some (50, 5), zv := some (.nils), zok := some 1, by' := some 24, sli := true, ni := true, un := true } (.node (.node .leaf 23 { ti := some (false, 1), ei := some (58, 4), zv := some (.nils), zok := some 1, by' := some 24, sli := true, ni := true, un := true } .leaf) 24 { ti := some (false, 1), zv := some (.int .i64 0), zok := some 1, by' := some 8, ik := some .i64, un := true } .leaf))) 26 { ti := some (false, 1), zv := some (.any), zok := some 1, by' := some 8, un := true } (.node (.node (.node (.node .leaf 27 { ti := some (false, 1), zv := some (.any), zok := some 1, by' := some 8, un := true } .leaf) 28 { ti := some (false, 1), zv := some (.any), zok := some 1, by' := some 8, un := true } (.node .leaf 29 { ti := some (false, 1), ei := some (9, 1), zv := some (.nils), zok := some 1, by' := some 24, sli := true, ni := true, un := true } .leaf)) 30 { ti := some (false, 1), zv := some (.any), zok := some 1, by' := some 8, un := true } (.node (.node .leaf 31 { ti := some (false, 1), zv := some (.any), zok := some 1, by' := some 8, un := true } .leaf) 32 { ti := some (false, 1), ei := some (72, 2), zv := some (.nils), zok := some 1, by' := some 24, sli := true, ni := true, un := true } .leaf)) 34 { ti := some (false, 1), zv := some (.any), zok := some 1, by' := some 8, un := true } (.node (.node (.node .leaf 35 { ti := some (false, 1), zv := some (.any), zok := some 1, by' := some 8, un := true } .leaf) 36 { ti := some (false, 1), zv := some (.any), zok := some 1, by' := some 8, un := true } .leaf) 37 { ti := some (false, 1), zv := some (.any), zok := some 1, by' := some 8, un := true } (.node (.node .leaf 38 { ti := some (false, 1), zv := some (.any), zok := some 1, by' := some 8, un := true } .leaf) 39 { ti := some (false, 1), zv := some (.any), zok := some 1, by' := some 8, un := true } .leaf)))) 40 { ti := some (false, 1), zv := some (.nilp), zok := some 1, by' := some 8, ptr := true, un := true } (.node (.node (.node (.node (.node .leaf 41 { ti := some (false, 1), zv := some (.nilp), zok := some 1, by' := some 8, ptr := true, un := true } .leaf) 42 { ti := some (false, 1), zv := some (.nilp), zok := some 1, by' := some 8, ptr := true, un := true } (.node .leaf 43 { ti := some (false, 1), ei := some (41, 1), zv := some (.nils), zok := some 1, by' := some 24, sli := true, ni := true, un := true } .leaf)) 44 { ti := some (true, 4), fi := [some (0, (false, 1)), some (1, (false, 1)), some (2, (false, 1)), some (3, (false, 1))], si := some [(0, 1), (1, 1), (2, 1), (3, 1)], zv := some (.agg [.nilp, .nils, .str [], .bool false]), zok := some 4, by' := some 56, un := true } (.node (.node .leaf 45 { ti := some (true, 4), fi := [some (0, (false, 1)), some (1, (false, 1)), some (2, (false, 1)), some (3, (false, 1))], si := some [(0, 1), (1, 1), (2, 1), (3, 1)], zv := some (.agg [.nilp, .nils, .str [], .bool false]), zok := some 4, by' := some 56, un := true } .leaf) 46 { ti := some (true, 4), fi := [some (0, (false, 1)), some (1, (false, 1)), some (2, (false, 1)), some (3, (false, 1))], si := some [(0, 1), (1, 1), (2, 1), (3, 1)], zv := some (.agg [.nilp, .nils, .int .i64 0, .str []]), zok := some 4, by' := some 56, un := true } .leaf)) 47 { ti := some (true, 4), fi := [some (0, (false, 1)), some (1, (false, 1)), some (2, (false, 1)), some (3, (false, 1))], si := some [(0, 1), (1, 1), (2, 1), (3, 1)], zv := some (.agg [.nilp, .nils, .int .i64 0, .str []]), zok := some 4, by' := some 56, un := true } (.node (.node (.node .leaf 48 { ti := some (false, 1), ei := some (80, 2), zv := some (.nils), zok := some 1, by' := some 24, sli := true, ni := true, un := true } .leaf) 49 { ti := some (true, 5), fi := [some (0, (false, 1)), some (1, (false, 1)), some (2, (false, 1)), some (3, (false, 1)), some (4, (false, 1))], si := some [(0, 1), (1, 1), (2, 1), (3, 1), (4, 1)], zv := some (.agg [.int .i64 0, .str [], .nils, .bool false, .str []]), zok := some 5, by' := some 72, un := true } .leaf) 50 { ti := some (true, 5), fi := [some (0, (false, 1)), some (1, (false, 1)), some (2, (false, 1)), some (3, (false, 1)), some (4, (false, 1))], si := some [(0, 1), (1, 1), (2, 1), (3, 1), (4, 1)], zv := some (.agg [.int .i64 0, .str [], .nils, .bool false, .str []]), zok := some 5, by' := some 72, un := true } (.node (.node .leaf 51 { ti := some (false, 1), zv := some (.any), zok := some 1, by' := some 8, un := true } .leaf) 52 { ti := some (false, 1), zv := some (.any), zok := some 1, by' := some 8, un := true } .leaf))) 53 { ti := some (false, 1), zv := some (.any), zok := some 1, by' := some 8, un := true } (.node (.node (.node (.node .leaf 54 { ti := some (false, 1), zv := some (.any), zok := some 1, by' := some 8, un := true } .leaf) 55 { ti := some (false, 1), zv := some (.any), zok := some 1, by' := some 8, un := true } .leaf) 56 { ti := some (false, 1), ei := some (60, 7), zv := some (.nils), zok := some 1, by' := some 24, sli := true, ni := true, un := true } (.node (.node .leaf 57 { ti := some (true, 4), fi := [some (0, (false, 1)), some (1, (false, 1)), some (2, (false, 1)), some (3, (false, 1))], si := some [(0, 1), (1, 1), (2, 1), (3, 1)], zv := some (.agg [.str [], .nils, .str [], .nils]), zok := some 4, by' := some 80, un := true } .leaf) 58 { ti := some (true, 4), fi := [some (0, (false, 1)), some (1, (false, 1)), some (2, (false, 1)), some (3, (false, 1))], si := some [(0, 1), (1, 1), (2, 1), (3, 1)], zv := some (.agg [.str [], .nils, .str [], .nils]), zok := some 4, by' := some 80, un := true } .leaf)) 59 { ti := some (true, 7), fi := [some (0, (false, 1)), some (1, (true, 4)), some (5, (false, 1)), some (6, (false, 1))], si := some [(0, 1), (1, 4), (5, 1), (6, 1)], zv := some (.agg [.int .i64 0, .str [], .nils, .str [], .nils, .bool false, .bool false]), zok := some 7, by' := some 96, un := true } (.node (.node (.node .leaf 60 { ti := some (true, 7), fi := [some (0, (false, 1)), some (1, (true, 4)), some (5, (false, 1)), some (6, (false, 1))], si := some [(0, 1), (1, 4), (5, 1), (6, 1)], zv := some (.agg [.int .i64 0, .str [], .nils, .str [], .nils, .bool false, .bool false]), zok := some 7, by' := some 96, un := true } .leaf) 61 { ti := some (false, 1), zv := some (.any), zok := some 1, by' := some 8, un := true } .leaf) 62 { ti := some (false, 1), zv := some (.any), zok := some 1, by' := some 8, un := true } (.node (.node .leaf 63 { ti := some (false, 1), zv := some (.any), zok := some 1, by' := some 8, un := true } .leaf) 64 { ti := some (false, 1), zv := some (.any), zok := some 1, by' := some 8, un := true } .leaf))))) 65 { ti := some (false, 1), zv := some (.any), zok := some 1, by' := some 8, un := true } (.node (.node (.node (.node (.node (.node .leaf 66 { ti := some (false, 1), zv := some (.any), zok := some 1, by' := some 8, un := true } .leaf) 67 { ti := some (false, 1), zv := some (.any), zok := some 1, by' := some 8, un := true } (.node .leaf 68 { ti := some (false, 1), zv := some (.any), zok := some 1, by' := some 8, un := true } .leaf)) 69 { ti := some (false, 1), zv := some (.any), zok := some 1, by' := some 8, un := true } (.node (.node .leaf 70 { ti := some (false, 1), ei := some (3, 1), zv := some (.nils), zok := some 1, by' := some 24, sli := true, ni := true, un := true } .leaf) 71 { ti := some (true, 2), fi := [some (0, (false, 1)), some (1, (false, 1))], si := some [(0, 1), (1, 1)], zv := some (.agg [.str [], .nils]), zok := some 2, by' := some 40, un := true } .leaf)) 72 { ti := some (true, 2), fi := [some (0, (false, 1)), some (1, (false, 1))], si := some [(0, 1), (1, 1)], zv := some (.agg [.str [], .nils]), zok := some 2, by' := some 40, un := true } (.node (.node (.node .leaf 73 { ti := some (false, 1), zv := some (.any), zok := some 1, by' := some 8, un := true } .leaf) 74 { ti := some (false, 1), zv := some (.any), zok := some 1, by' := some 8, un := true } .leaf) 75 { ti := some (false, 1), zv := some (.any), zok := some 1, by' := some 8, un := true } (.node (.node .leaf 76 { ti := some (false, 1), zv := some (.any), zok := some 1, by' := some 8, un := true } .leaf) 77 { ti := some (true, 9), ai := some (9, (false, 1)), zv := some (.agg [.str [], .str [], .str [], .str [], .str [], .str [], .str [], .str [], .str []]), zok := some 9, by' := some 144, un := true } .leaf))) 78 { ti := some (false, 1), zv := some (.any), zok := some 1, by' := some 8, un := true } (.node (.node (.node (.node .leaf 79 { ti := some (true, 2), fi := [some (0, (false, 1)), some (1, (false, 1))], si := some [(0, 1), (1, 1)], zv := some (.agg [.str [], .str []]), zok := some 2, by' := some 32, un := true } .leaf) 80 { ti := some (true, 2), fi := [some (0, (false, 1)), some (1, (false, 1))], si := some [(0, 1), (1, 1)], zv := some (.agg [.str [], .str []]), zok := some 2, by' := some 32, un := true, sq := some [.s, .s] } (.node .leaf 81 { ti := some (false, 1), zv := some (.any), zok := some 1, by' := some 8, un := true } .leaf)) 82 { ti := some (true, 4), ai := some (4, (false, 1)), zv := some (.agg [.str [], .str [], .str [], .str []]), zok := some 4, by' := some 64, un := true } (.node (.node .leaf 83 { ti := some (true, 256), ai := some (256, (false, 1)), zv := some (.agg [.int .u8 0, .int .u8 0, .int .u8 0, .int .u8 0, .int .u8 0, .int .u8 0, .int .u8 0, .int .u8 0, .int .u8 0, .int .u8 0, .int .u8 0, .int .u8 0, .int .u8 0, .int .u8 0, .int .u8 0, .int .u8 0, .int .u8 0, .int .u8 0, .int .u8 0, .int .u8 0, .int .u8 0, .int .u8 0, .int .u8 0, .int .u8 0, .int .u8 0, .int .u8 0, .int .u8 0, .int .u8 0, .int .u8 0, .int .u8 0, .int .u8 0, .int .u8 0, .int .u8 0, .int .u8 0, .int .u8 0, .int .u8 0, .int .u8 0, .int .u8 0, .int .u8 0, .int .u8 0, .int .u8 0, .int .u8 0, .int .u8 0, .int .u8 0, .int .u8 0, .int .u8 0, .int .u8 0, .int .u8 0, .int .u8 0, .int .u8 0, .int .u8 0, .int .u8 0, .int .u8 0, .int .u8 0, .int .u8 0, .int .u8 0, .int .u8 0, .int .u8 0, .int .u8 0, .int .u8 0, .int .u8 0, .int .u8 0, .int .u8 0, .int .u8 0, .int .u8 0, .int .u8 0, .int .u8 0, .int .u8 0, .int .u8 0, .int .u8 0, .int .u8 0, .int .u8 0, .int .u8 0, .int .u8 0, .int .u8 0, .int .u8 0, .int .u8 0, .int .u8 0, .int .u8 0, .int .u8 0, .int .u8 0, .int .u8 0, .int .u8 0, .int .u8 0, .int .u8 0, .int .u8 0, .int .u8 0, .int .u8 0, .int .u8 0, .int .u8 0, .int .u8 0, .int .u8 0, .int .u8 0, .int .u8 0, .int .u8 0, .int .u8 0, .int .u8 0, .int .u8 0, .int .u8 0, .int .u8 0, .int .u8 0, .int .u8 0, .int .u8 0, .int .u8 0, .int .u8 0, .int .u8 0, .int .u8 0, .int .u8 0, .int .u8 0, .int .u8 0, .int .u8 0, .int .u8 0, .int .u8 0, .int .u8 0, .int .u8 0, .int .u8 0, .int .u8 0, .int .u8 0, .int .u8 0, .int .u8 0, .int .u8 0, .int .u8 0, .int .u8 0, .int .u8 0, .int .u8 0, .int .u8 0, .int .u8 0, .int .u8 0, .int .u8 0, .int .u8 0, .int .u8 0, .int .u8 0, .int .u8 0, .int .u8 0, .int .u8 0, .int .u8 0, .int .u8 0, .int .u8 0, .int .u8 0, .int .u8 0, .int .u8 0, .int .u8 0, .int .u8 0, .int .u8 0, .int .u8 0, .int .u8 0, .int .u8 0, .int .u8 0, .int .u8 0, .int .u8 0, .int .u8 0, .int .u8 0, .int .u8 0, .int .u8 0, .int .u8 0, .int .u8 0, .int .u8 0, .int .u8 0, .int .u8 0, .int .u8 0, .int .u8 0, .int .u8 0, .int .u8 0, .int .u8 0, .int .u8 0, .int .u8 0, .int .u8 0, .int .u8 0, .int .u8 0, .int .u8 0, .int .u8 0, .int .u8 0, .int .u8 0, .int .u8 0, .int .u8 0, .int .u8 0, .int .u8 0, .int .u8 0, .int .u8 0, .int .u8 0, .int .u8 0, .int .u8 0, .int .u8 0, .int .u8 0, .int .u8 0, .int .u8 0, .int .u8 0, .int .u8 0, .int .u8 0, .int .u8 0, .int .u8 0, .int .u8 0, .int .u8 0, .int .u8 0, .int .u8 0, .int .u8 0, .int .u8 0, .int .u8 0, .int .u8 0, .int .u8 0, .int .u8 0, .int .u8 0, .int .u8 0, .int .u8 0, .int .u8 0, .int .u8 0, .int .u8 0, .int .u8 0, .int .u8 0, .int .u8 0, .int .u8 0, .int .u8 0, .int .u8 0, .int .u8 0, .int .u8 0, .int .u8 0, .int .u8 0, .int .u8 0, .int .u8 0, .int .u8 0, .int .u8 0, .int .u8 0, .int .u8 0, .int .u8 0, .int .u8 0, .int .u8 0, .int .u8 0, .int .u8 0, .int .u8 0, .int .u8 0, .int .u8 0, .int .u8 0, .int .u8 0, .int .u8 0, .int .u8 0, .int .u8 0, .int .u8 0, .int .u8 0, .int .u8 0, .int .u8 0, .int .u8 0, .int .u8 0, .int .u8 0, .int .u8 0, .int .u8 0, .int .u8 0, .int .u8 0, .int .u8 0, .int .u8 0, .int .u8 0, .int .u8 0, .int .u8 0, .int .u8 0, .int .u8 0, .int .u8 0, .int .u8 0]), zok := some 256, by' := some 256, un := true } .leaf) 84 { ti := some (false, 1), zv := some (.any), zok := some 1, by' := some 8, un := true } .leaf)) 85 { ti := some (false, 1), zv := some (.any), zok := some 1, by' := some 8, un := true } (.node (.node (.node .leaf 86 { ti := some (false, 1), zv := some (.any), zok := some 1, by' := some 8, un := true } .leaf) 87 { ti := some (false, 1), zv := some (.any), zok := some 1, by' := some 8, un := true } .leaf) 88 { ti := some (false, 1), zv := some (.any), zok := some 1, by' := some 8, un := true } (.node (.node .leaf 89 { ti := some (false, 1), zv := some (.any), zok := some 1, by' := some 8, un := true } .leaf) 90 { ti := some (false, 1), zv := some (.any), zok := some 1, by' := some 8, un := true } .leaf)))) 91 { ti := some (false, 1), zv := some (.any), zok := some 1, by' := some 8, un := true } (.node (.node (.node (.node (.node .leaf 92 { ti := some (false, 1), ei := some (94, 2), zv := some (.nils), zok := some 1, by' := some 24, sli := true, ni := true, un := true } .leaf) 93 { ti := some (true, 2), fi := [some (0, (false, 1)), some (1, (false, 1))], si := some [(0, 1), (1, 1)], zv := some (.agg [.int .i64 0, .int .i64 0]), zok := some 2, by' := some 16, un := true } (.node .leaf 94 { ti := some (true, 2), fi := [some (0, (false, 1)), some (1, (false, 1))], si := some [(0, 1), (1, 1)], zv := some (.agg [.int .i64 0, .int .i64 0]), zok := some 2, by' := some 16, un := true } .leaf)) 95 { ti := some (false, 1), zv := some (.int .u32 0), zok := some 1, by' := some 4, ik := some .u32, un := true } (.node (.node .leaf 96 { ti := some (false, 1), zv := some (.any), zok := some 1, by' := some 8, un := true } .leaf) 97 { ti := some (false, 1), zv := some (.nilp), zok := some 1, by' := some 8, ptr := true, un := true } .leaf)) 98 { ti := some (false, 1), zv := some (.any), zok := some 1, by' := some 8, un := true } (.node (.node (.node .leaf 99 { ti := some (false, 1), ei := some (105, 3), zv := some (.nils), zok := some 1, by' := some 24, sli := true, ni := true, un := true } .leaf) 100 { ti := some (false, 1), ei := some (108, 3), zv := some (.nils), zok := some 1, by' := some 24, sli := true, ni := true, un := true } .leaf) 101 { ti := some (true, 3), fi := [some (0, (false, 1)), some (1, (false, 1)), some (2, (false, 1))], si := some [(0, 1), (1, 1), (2, 1)], zv := some (.agg [.nils, .nils, .int .i64 0]), zok := some 3, by' := some 56, un := true } (.node (.node .leaf 102 { ti := some (true, 3), fi := [some (0, (false, 1)), some (1, (false, 1)), some (2, (false, 1))], si := some [(0, 1), (1, 1), (2, 1)], zv := some (.agg [.nils, .nils, .int .i64 0]), zok := some 3, by' := some 56, un := true } .leaf) 103 { ti := some (false, 1), zv := some (.int .u16 0), zok := some 1, by' := some 2, ik := some .u16, un := true } .leaf))) 104 { ti := some (true, 3), fi := [some (0, (false, 1)), some (1, (false, 1)), some (2, (false, 1))], si := some [(0, 1), (1, 1), (2, 1)], zv := some (.agg [.int .u16 0, .int .u16 0, .int .u16 0]), zok := some 3, by' := some 6, un := true } (.node (.node (.node (.node .leaf 105 { ti := some (true, 3), fi := [some (0, (false, 1)), some (1, (false, 1)), some (2, (false, 1))], si := some [(0, 1), (1, 1), (2, 1)], zv := some (.agg [.int .u16 0, .int .u16 0, .int .u16 0]), zok := some 3, by' := some 6, un := true } .leaf) 106 { ti := some (false, 1), zv := some (.any), zok := some 1, by' := some 8, un := true } .leaf) 107 { ti := some (true, 3), fi := [some (0, (false, 1)), some (1, (false, 1)), some (2, (false, 1))], si := some [(0, 1), (1, 1), (2, 1)], zv := some (.agg [.int .u32 0, .int .u32 0, .int .u32 0]), zok := some 3, by' := some 12, un := true } (.node (.node .leaf 108 { ti := some (true, 3), fi := [some (0, (false, 1)), some (1, (false, 1)), some (2, (false, 1))], si := some [(0, 1), (1, 1), (2, 1)], zv := some (.agg [.int .u32 0, .int .u32 0, .int .u32 0]), zok := some 3, by' := some 12, un := true } .leaf) 109 { ti := some (false, 1), zv := some (.any), zok := some 1, by' := some 8, un := true } .leaf)) 110 { ti := some (false, 1), zv := some (.any), zok := some 1, by' := some 8, un := true } (.node (.node (.node .leaf 111 { ti := some (false, 1), zv := some (.nilp), zok := some 1, by' := some 8, ptr := true, un := true } .leaf) 112 { ti := some (false, 1), zv := some (.int .u64 0), zok := some 1, by' := some 8, ik := some .u64, un := true } .leaf) 113 { ti := some (false, 1), zv := some (.nilp), zok := some 1, by' := some 8, ptr := true, un := true } (.node (.node .leaf 114 { ti := some (false, 1), zv := some (.any), zok := some 1, by' := some 8, un := true } .leaf) 123 { ti := some (false, 1), zv := some (.nilp), zok := some 1, by' := some 8, ptr := true, un := true } .leaf))))))
theorem tt_all : TT.All Tryd.prog Tryd.tt := ⟨⟨⟨⟨⟨⟨⟨trivial, tok_1, trivial⟩, tok_2, ⟨trivial, tok_3, trivial⟩⟩, tok_4, ⟨⟨trivial, tok_5, trivial⟩, tok_9, trivial⟩⟩, tok_12, ⟨⟨⟨trivial, tok_13, trivial⟩, tok_21, trivial⟩, tok_22, ⟨⟨trivial, tok_23, trivial⟩, tok_24, trivial⟩⟩⟩, tok_26, ⟨⟨⟨⟨trivial, tok_27, trivial⟩, tok_28, ⟨trivial, tok_29, trivial⟩⟩, tok_30, ⟨⟨trivial, tok_31, trivial⟩, tok_32, trivial⟩⟩, tok_34, ⟨⟨⟨trivial, tok_35, trivial⟩, tok_36, trivial⟩, tok_37, ⟨⟨trivial, tok_38, trivial⟩, tok_39, trivial⟩⟩⟩⟩, tok_40, ⟨⟨⟨⟨⟨trivial, tok_41, trivial⟩, tok_42, ⟨trivial, tok_43, trivial⟩⟩, tok_44, ⟨⟨trivial, tok_45, trivial⟩, tok_46, trivial⟩⟩, tok_47, ⟨⟨⟨trivial, tok_48, trivial⟩, tok_49, trivial⟩, tok_50, ⟨⟨trivial, tok_51, trivial⟩, tok_52, trivial⟩⟩⟩, tok_53, ⟨⟨⟨⟨trivial, tok_54, trivial⟩, tok_55, trivial⟩, tok_56, ⟨⟨trivial, tok_57, trivial⟩, tok_58, trivial⟩⟩, tok_59, ⟨⟨⟨trivial, tok_60, trivial⟩, tok_61, trivial⟩, tok_62, ⟨⟨trivial, tok_63, trivial⟩, tok_64, trivial⟩⟩⟩⟩⟩, tok_65, ⟨⟨⟨⟨⟨⟨trivial, tok_66, trivial⟩, tok_67, ⟨trivial, tok_68, trivial⟩⟩, tok_69, ⟨⟨trivial, tok_70, trivial⟩, tok_71, trivial⟩⟩, tok_72, ⟨⟨⟨trivial, tok_73, trivial⟩, tok_74, trivial⟩, tok_75, ⟨⟨trivial, tok_76, trivial⟩, tok_77, trivial⟩⟩⟩, tok_78, ⟨⟨⟨⟨trivial, tok_79, trivial⟩, tok_80, ⟨trivial, tok_81, trivial⟩⟩, tok_82, ⟨⟨trivial, tok_83, trivial⟩, tok_84, trivial⟩⟩, tok_85, ⟨⟨⟨trivial, tok_86, trivial⟩, tok_87, trivial⟩, tok_88, ⟨⟨trivial, tok_89, trivial⟩, tok_90, trivial⟩⟩⟩⟩, tok_91, ⟨⟨⟨⟨⟨trivial, tok_92, trivial⟩, tok_93, ⟨trivial, tok_94, trivial⟩⟩, tok_95, ⟨⟨trivial, tok_96, trivial⟩, tok_97, trivial⟩⟩, tok_98, ⟨⟨⟨trivial, tok_99, trivial⟩, tok_100, trivial⟩, tok_101, ⟨⟨trivial, tok_102, trivial⟩, tok_103, trivial⟩⟩⟩, tok_104, ⟨⟨⟨⟨trivial, tok_105, trivial⟩, tok_106, trivial⟩, tok_107, ⟨⟨trivial, tok_108, trivial⟩, tok_109, trivial⟩⟩, tok_110, ⟨⟨⟨trivial, tok_111, trivial⟩, tok_112, trivial⟩, tok_113, ⟨⟨trivial, tok_114, trivial⟩, tok_123, trivial⟩⟩⟩⟩⟩⟩
theorem hasBody_3 : hasBody Tryd.prog 3 = true := by kernel_rfl
theorem hasBody_4 : hasBody Tryd.prog 4 = true := by kernel_rfl
theorem hasBody_5 : hasBody Tryd.prog 5 = true := by kernel_rfl
theorem hasBody_6 : hasBody Tryd.prog 6 = true := by kernel_rfl
theorem hasBody_7 : hasBody Tryd.prog 7 = true := by kernel_rfl
theorem hasBody_8 : hasBody Tryd.prog 8 = true := by kernel_rfl
theorem hasBody_9 : hasBody Tryd.prog 9 = true := by kernel_rfl
theorem hasBody_10 : hasBody Tryd.prog 10 = true := by kernel_rfl
theorem hasBody_11 : hasBody Tryd.prog 11 = true := by kernel_rfl
theorem hasBody_12 : hasBody Tryd.prog 12 = true := by kernel_rfl
theorem hasBody_13 : hasBody Tryd.prog 13 = true := by kernel_rfl
theorem hasBody_14 : hasBody Tryd.prog 14 = true := by kernel_rfl
theorem hasBody_15 : hasBody Tryd.prog 15 = true := by kernel_rfl
theorem hasBody_16 : hasBody Tryd.prog 16 = true := by kernel_rfl
theorem hasBody_17 : hasBody Tryd.prog 17 = true := by kernel_rfl
theorem hasBody_18 : hasBody Tryd.prog 18 = true := by kernel_rfl
theorem hasBody_19 : hasBody Tryd.prog 19 = true := by kernel_rfl
theorem hasBody_20 : hasBody Tryd.prog 20 = true := by kernel_rfl
theorem hasBody_21 : hasBody Tryd.prog 21 = true := by kernel_rfl
theorem hasBody_22 : hasBody Tryd.prog 22 = true := by kernel_rfl
theorem hasBody_23 : hasBody Tryd.prog 23 = true := by kernel_rfl
theorem hasBody_24 : hasBody Tryd.prog 24 = true := by kernel_rfl
theorem hasBody_25 : hasBody Tryd.prog 25 = true := by kernel_rfl
theorem hasBody_26 : hasBody Tryd.prog 26 = true := by kernel_rfl
theorem hasBody_27 : hasBody Tryd.prog 27 = true := by kernel_rfl
theorem hasBody_28 : hasBody Tryd.prog 28 = true := by kernel_rfl
theorem hasBody_29 : hasBody Tryd.prog 29 = true := by kernel_rfl
theorem hasBody_30 : hasBody Tryd.prog 30 = true := by kernel_rfl
theorem hasBody_31 : hasBody Tryd.prog 31 = true := by kernel_rfl
theorem hasBody_32 : hasBody Tryd.prog 32 = true := by kernel_rfl
theorem hasBody_33 : hasBody Tryd.prog 33 = true := by kernel_rfl
theorem hasBody_34 : hasBody Tryd.prog 34 = true := by kernel_rfl
theorem hasBody_35 : hasBody Tryd.prog 35 = true := by kernel_rfl
theorem hasBody_36 : hasBody Tryd.prog 36 = true := by kernel_rfl
theorem hasBody_37 : hasBody Tryd.prog 37 = true := by kernel_rfl
theorem hasBody_38 : hasBody Tryd.prog 38 = true := by kernel_rfl
theorem hasBody_39 : hasBody Tryd.prog 39 = true := by kernel_rfl
theorem hasBody_40 : hasBody Tryd.prog 40 = true := by kernel_rfl
theorem hasBody_41 : hasBody Tryd.prog 41 = true := by kernel_rfl
theorem hasBody_42 : hasBody Tryd.prog 42 = true := by kernel_rfl
theorem hasBody_43 : hasBody Tryd.prog 43 = true := by kernel_rfl
theorem hasBody_44 : hasBody Tryd.prog 44 = true := by kernel_rfl
theorem hasBody_45 : hasBody Tryd.prog 45 = true := by kernel_rfl
theorem hasBody_46 : hasBody Tryd.prog 46 = true := by kernel_rfl
theorem hasBody_47 : hasBody Tryd.prog 47 = true := by kernel_rfl
theorem hasBody_48 : hasBody Tryd.prog 48 = true := by kernel_rfl
theorem hasBody_49 : hasBody Tryd.prog 49 = true := by kernel_rfl
theorem hasBody_50 : hasBody Tryd.prog 50 = true := by kernel_rfl
theorem hasBody_51 : hasBody Tryd.prog 51 = true := by kernel_rfl
theorem hasBody_52 : hasBody Tryd.prog 52 = true := by kernel_rfl
theorem hasBody_53 : hasBody Tryd.prog 53 = true := by kernel_rfl
theorem hasBody_54 : hasBody Tryd.prog 54 = true := by kernel_rfl
theorem hasBody_55 : hasBody Tryd.prog 55 = true := by kernel_rfl
theorem hasBody_56 : hasBody Tryd.prog 56 = true := by kernel_rfl
theorem hasBody_57 : hasBody Tryd.prog 57 = true := by kernel_rfl
theorem hasBody_58 : hasBody Tryd.prog 58 = true := by kernel_rfl
theorem hasBody_59 : hasBody Tryd.prog 59 = true := by kernel_rfl
theorem hasBody_60 : hasBody Tryd.prog 60 = true := by kernel_rfl
theorem hasBody_61 : hasBody Tryd.prog 61 = true := by kernel_rfl
theorem hasBody_62 : hasBody Tryd.prog 62 = true := by kernel_rfl
theorem follows_all : Tryd.prog.follows .mixedOrders = true := by kernel_rfl
end Go.Proofs.YtaapdbcbefnhgaaDoor
