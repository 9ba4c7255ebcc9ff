/- Facts of this seat's types and functions, each by the kernel's reckoning; written by program. No conditions. -/
import Derived.Test.YtmjglpdfkkmcoaaDoorAwx
import Derived.Test.YtmjglpdfkkmcoaaDoorRows
set_option linter.unusedSimpArgs false
set_option linter.unusedVariables false
namespace Go.Proofs.YtmjglpdfkkmcoaaDoor

theorem cells_1 : Tryd.prog.cellsOf 1 = 1 := by kernel_rfl
theorem ti_1 : TI Tryd.prog 1 = some (false, 1) := by kernel_rfl
theorem zv_1 : ZV Tryd.prog 1 = some (.any) := by kernel_rfl
theorem zok_1 : ZOk Tryd.prog 1 1 = true := by kernel_rfl
theorem by_1 : byOf Tryd.prog 1 = 8 := by kernel_rfl
theorem cells_2 : Tryd.prog.cellsOf 2 = 1 := by kernel_rfl
theorem ti_2 : TI Tryd.prog 2 = some (false, 1) := by kernel_rfl
theorem intK_2 : intK Tryd.prog 2 = some .i64 := by kernel_rfl
theorem un_2 : Tryd.prog.underlying 2 = some (.int .i64) := by kernel_rfl
theorem zv_2 : ZV Tryd.prog 2 = some (.int .i64 0) := by kernel_rfl
theorem zok_2 : ZOk Tryd.prog 2 1 = true := by kernel_rfl
theorem by_2 : byOf Tryd.prog 2 = 8 := by kernel_rfl
theorem cells_3 : Tryd.prog.cellsOf 3 = 1 := by kernel_rfl
theorem ti_3 : TI Tryd.prog 3 = some (false, 1) := by kernel_rfl
theorem intK_3 : intK Tryd.prog 3 = some .i64 := by kernel_rfl
theorem un_3 : Tryd.prog.underlying 3 = some (.int .i64) := by kernel_rfl
theorem zv_3 : ZV Tryd.prog 3 = some (.int .i64 0) := by kernel_rfl
theorem zok_3 : ZOk Tryd.prog 3 1 = true := by kernel_rfl
theorem by_3 : byOf Tryd.prog 3 = 8 := by kernel_rfl
theorem cells_4 : Tryd.prog.cellsOf 4 = 1 := by kernel_rfl
theorem ti_4 : TI Tryd.prog 4 = some (false, 1) := by kernel_rfl
theorem isBoo_4 : isBoo Tryd.prog 4 = true := by kernel_rfl
theorem zv_4 : ZV Tryd.prog 4 = some (.bool false) := by kernel_rfl
theorem zok_4 : ZOk Tryd.prog 4 1 = true := by kernel_rfl
theorem by_4 : byOf Tryd.prog 4 = 1 := by kernel_rfl
theorem cells_5 : Tryd.prog.cellsOf 5 = 1 := by kernel_rfl
theorem ti_5 : TI Tryd.prog 5 = some (false, 1) := by kernel_rfl
theorem intK_5 : intK Tryd.prog 5 = some .u8 := by kernel_rfl
theorem un_5 : Tryd.prog.underlying 5 = some (.int .u8) := by kernel_rfl
theorem zv_5 : ZV Tryd.prog 5 = some (.int .u8 0) := by kernel_rfl
theorem zok_5 : ZOk Tryd.prog 5 1 = true := by kernel_rfl
theorem by_5 : byOf Tryd.prog 5 = 1 := by kernel_rfl
theorem cells_9 : Tryd.prog.cellsOf 9 = 1 := by kernel_rfl
theorem ti_9 : TI Tryd.prog 9 = some (false, 1) := by kernel_rfl
theorem isStr_9 : isStr Tryd.prog 9 = true := by kernel_rfl
theorem notInt_9 : notInt Tryd.prog 9 = true := by kernel_rfl
theorem zv_9 : ZV Tryd.prog 9 = some (.str []) := by kernel_rfl
theorem zok_9 : ZOk Tryd.prog 9 1 = true := by kernel_rfl
theorem by_9 : byOf Tryd.prog 9 = 16 := by kernel_rfl
theorem cells_12 : Tryd.prog.cellsOf 12 = 1 := by kernel_rfl
theorem ti_12 : TI Tryd.prog 12 = some (false, 1) := by kernel_rfl
theorem intK_12 : intK Tryd.prog 12 = some .u64 := by kernel_rfl
theorem un_12 : Tryd.prog.underlying 12 = some (.int .u64) := by kernel_rfl
theorem zv_12 : ZV Tryd.prog 12 = some (.int .u64 0) := by kernel_rfl
theorem zok_12 : ZOk Tryd.prog 12 1 = true := by kernel_rfl
theorem by_12 : byOf Tryd.prog 12 = 8 := by kernel_rfl
theorem cells_13 : Tryd.prog.cellsOf 13 = 2 := by kernel_rfl
theorem ti_13 : TI Tryd.prog 13 = some (true, 2) := by kernel_rfl
theorem fi_13_0 : FI Tryd.prog 13 0 = some (0, (false, 1)) := by kernel_rfl
theorem fi_13_1 : FI Tryd.prog 13 1 = some (1, (false, 1)) := by kernel_rfl
theorem si_13 : SI Tryd.prog 13 = some [(0, 1), (1, 1)] := by kernel_rfl
theorem zv_13 : ZV Tryd.prog 13 = some (.agg [.str [], .int .u64 0]) := by kernel_rfl
theorem zok_13 : ZOk Tryd.prog 13 2 = true := by kernel_rfl
theorem by_13 : byOf Tryd.prog 13 = 24 := by kernel_rfl
theorem cells_21 : Tryd.prog.cellsOf 21 = 1 := by kernel_rfl
theorem ti_21 : TI Tryd.prog 21 = some (false, 1) := by kernel_rfl
theorem intK_21 : intK Tryd.prog 21 = some .i32 := by kernel_rfl
theorem un_21 : Tryd.prog.underlying 21 = some (.int .i32) := by kernel_rfl
theorem zv_21 : ZV Tryd.prog 21 = some (.int .i32 0) := by kernel_rfl
theorem zok_21 : ZOk Tryd.prog 21 1 = true := by kernel_rfl
theorem by_21 : byOf Tryd.prog 21 = 4 := by kernel_rfl
theorem cells_22 : Tryd.prog.cellsOf 22 = 1 := by kernel_rfl
theorem ti_22 : TI Tryd.prog 22 = some (false, 1) := by kernel_rfl
theorem ei_22 : EI Tryd.prog 22 = some (46, 5) := by kernel_rfl
theorem isSli_22 : isSli Tryd.prog 22 = true := by kernel_rfl
theorem notInt_22 : notInt Tryd.prog 22 = true := by kernel_rfl
theorem zv_22 : ZV Tryd.prog 22 = some (.nils) := by kernel_rfl
theorem zok_22 : ZOk Tryd.prog 22 1 = true := by kernel_rfl
theorem by_22 : byOf Tryd.prog 22 = 24 := by kernel_rfl
theorem cells_23 : Tryd.prog.cellsOf 23 = 1 := by kernel_rfl
theorem ti_23 : TI Tryd.prog 23 = some (false, 1) := by kernel_rfl
theorem ei_23 : EI Tryd.prog 23 = some (54, 4) := by kernel_rfl
theorem isSli_23 : isSli Tryd.prog 23 = true := by kernel_rfl
theorem notInt_23 : notInt Tryd.prog 23 = true := by kernel_rfl
theorem zv_23 : ZV Tryd.prog 23 = some (.nils) := by kernel_rfl
theorem zok_23 : ZOk Tryd.prog 23 1 = true := by kernel_rfl
theorem by_23 : byOf Tryd.prog 23 = 24 := by kernel_rfl
theorem cells_24 : Tryd.prog.cellsOf 24 = 1 := by kernel_rfl
theorem ti_24 : TI Tryd.prog 24 = some (false, 1) := by kernel_rfl
theorem intK_24 : intK Tryd.prog 24 = some .i64 := by kernel_rfl
theorem un_24 : Tryd.prog.underlying 24 = some (.int .i64) := by kernel_rfl
theorem zv_24 : ZV Tryd.prog 24 = some (.int .i64 0) := by kernel_rfl
theorem zok_24 : ZOk Tryd.prog 24 1 = true := by kernel_rfl
theorem by_24 : byOf Tryd.prog 24 = 8 := by kernel_rfl
theorem cells_26 : Tryd.prog.cellsOf 26 = 1 := by kernel_rfl
theorem ti_26 : TI Tryd.prog 26 = some (false, 1) := by kernel_rfl
theorem zv_26 : ZV Tryd.prog 26 = some (.any) := by kernel_rfl
theorem zok_26 : ZOk Tryd.prog 26 1 = true := by kernel_rfl
theorem by_26 : byOf Tryd.prog 26 = 8 := by kernel_rfl
theorem cells_27 : Tryd.prog.cellsOf 27 = 1 := by kernel_rfl
theorem ti_27 : TI Tryd.prog 27 = some (false, 1) := by kernel_rfl
theorem zv_27 : ZV Tryd.prog 27 = some (.any) := by kernel_rfl
theorem zok_27 : ZOk Tryd.prog 27 1 = true := by kernel_rfl
theorem by_27 : byOf Tryd.prog 27 = 8 := by kernel_rfl
theorem cells_28 : Tryd.prog.cellsOf 28 = 1 := by kernel_rfl
theorem ti_28 : TI Tryd.prog 28 = some (false, 1) := by kernel_rfl
theorem zv_28 : ZV Tryd.prog 28 = some (.any) := by kernel_rfl
theorem zok_28 : ZOk Tryd.prog 28 1 = true := by kernel_rfl
theorem by_28 : byOf Tryd.prog 28 = 8 := by kernel_rfl
theorem cells_29 : Tryd.prog.cellsOf 29 = 1 := by kernel_rfl
theorem ti_29 : TI Tryd.prog 29 = some (false, 1) := by kernel_rfl
theorem ei_29 : EI Tryd.prog 29 = some (76, 1) := by kernel_rfl
theorem isSli_29 : isSli Tryd.prog 29 = true := by kernel_rfl
theorem notInt_29 : notInt Tryd.prog 29 = true := by kernel_rfl
theorem zv_29 : ZV Tryd.prog 29 = some (.nils) := by kernel_rfl
theorem zok_29 : ZOk Tryd.prog 29 1 = true := by kernel_rfl
theorem by_29 : byOf Tryd.prog 29 = 24 := by kernel_rfl
theorem cells_30 : Tryd.prog.cellsOf 30 = 1 := by kernel_rfl
theorem ti_30 : TI Tryd.prog 30 = some (false, 1) := by kernel_rfl
theorem ei_30 : EI Tryd.prog 30 = some (4, 1) := by kernel_rfl
theorem isSli_30 : isSli Tryd.prog 30 = true := by kernel_rfl
theorem notInt_30 : notInt Tryd.prog 30 = true := by kernel_rfl
theorem zv_30 : ZV Tryd.prog 30 = some (.nils) := by kernel_rfl
theorem zok_30 : ZOk Tryd.prog 30 1 = true := by kernel_rfl
theorem by_30 : byOf Tryd.prog 30 = 24 := by kernel_rfl
theorem cells_31 : Tryd.prog.cellsOf 31 = 2 := by kernel_rfl
theorem ti_31 : TI Tryd.prog 31 = some (true, 2) := by kernel_rfl
theorem fi_31_0 : FI Tryd.prog 31 0 = some (0, (false, 1)) := by kernel_rfl
theorem fi_31_1 : FI Tryd.prog 31 1 = some (1, (false, 1)) := by kernel_rfl
theorem si_31 : SI Tryd.prog 31 = some [(0, 1), (1, 1)] := by kernel_rfl
theorem zv_31 : ZV Tryd.prog 31 = some (.agg [.nils, .nils]) := by kernel_rfl
theorem zok_31 : ZOk Tryd.prog 31 2 = true := by kernel_rfl
theorem by_31 : byOf Tryd.prog 31 = 48 := by kernel_rfl
theorem cells_32 : Tryd.prog.cellsOf 32 = 2 := by kernel_rfl
theorem ti_32 : TI Tryd.prog 32 = some (true, 2) := by kernel_rfl
theorem fi_32_0 : FI Tryd.prog 32 0 = some (0, (false, 1)) := by kernel_rfl
theorem fi_32_1 : FI Tryd.prog 32 1 = some (1, (false, 1)) := by kernel_rfl
theorem si_32 : SI Tryd.prog 32 = some [(0, 1), (1, 1)] := by kernel_rfl
theorem zv_32 : ZV Tryd.prog 32 = some (.agg [.nils, .nils]) := by kernel_rfl
theorem zok_32 : ZOk Tryd.prog 32 2 = true := by kernel_rfl
theorem by_32 : byOf Tryd.prog 32 = 48 := by kernel_rfl
theorem cells_34 : Tryd.prog.cellsOf 34 = 1 := by kernel_rfl
theorem ti_34 : TI Tryd.prog 34 = some (false, 1) := by kernel_rfl
theorem zv_34 : ZV Tryd.prog 34 = some (.any) := by kernel_rfl
theorem zok_34 : ZOk Tryd.prog 34 1 = true := by kernel_rfl
theorem by_34 : byOf Tryd.prog 34 = 8 := by kernel_rfl
theorem cells_35 : Tryd.prog.cellsOf 35 = 1 := by kernel_rfl
theorem ti_35 : TI Tryd.prog 35 = some (false, 1) := by kernel_rfl
theorem zv_35 : ZV Tryd.prog 35 = some (.any) := by kernel_rfl
theorem zok_35 : ZOk Tryd.prog 35 1 = true := by kernel_rfl
theorem by_35 : byOf Tryd.prog 35 = 8 := by kernel_rfl
theorem cells_36 : Tryd.prog.cellsOf 36 = 1 := by kernel_rfl
theorem ti_36 : TI Tryd.prog 36 = some (false, 1) := by kernel_rfl
theorem isPtr_36 : isPtr Tryd.prog 36 = true := by kernel_rfl
theorem zv_36 : ZV Tryd.prog 36 = some (.nilp) := by kernel_rfl
theorem zok_36 : ZOk Tryd.prog 36 1 = true := by kernel_rfl
theorem by_36 : byOf Tryd.prog 36 = 8 := by kernel_rfl
theorem cells_37 : Tryd.prog.cellsOf 37 = 1 := by kernel_rfl
theorem ti_37 : TI Tryd.prog 37 = some (false, 1) := by kernel_rfl
theorem isPtr_37 : isPtr Tryd.prog 37 = true := by kernel_rfl
theorem zv_37 : ZV Tryd.prog 37 = some (.nilp) := by kernel_rfl
theorem zok_37 : ZOk Tryd.prog 37 1 = true := by kernel_rfl
theorem by_37 : byOf Tryd.prog 37 = 8 := by kernel_rfl
theorem cells_38 : Tryd.prog.cellsOf 38 = 1 := by kernel_rfl
theorem ti_38 : TI Tryd.prog 38 = some (false, 1) := by kernel_rfl
theorem isPtr_38 : isPtr Tryd.prog 38 = true := by kernel_rfl
theorem zv_38 : ZV Tryd.prog 38 = some (.nilp) := by kernel_rfl
theorem zok_38 : ZOk Tryd.prog 38 1 = true := by kernel_rfl
theorem by_38 : byOf Tryd.prog 38 = 8 := by kernel_rfl
theorem cells_39 : Tryd.prog.cellsOf 39 = 1 := by kernel_rfl
theorem ti_39 : TI Tryd.prog 39 = some (false, 1) := by kernel_rfl
theorem ei_39 : EI Tryd.prog 39 = some (37, 1) := by kernel_rfl
theorem isSli_39 : isSli Tryd.prog 39 = true := by kernel_rfl
theorem notInt_39 : notInt Tryd.prog 39 = true := by kernel_rfl
theorem zv_39 : ZV Tryd.prog 39 = some (.nils) := by kernel_rfl
theorem zok_39 : ZOk Tryd.prog 39 1 = true := by kernel_rfl
theorem by_39 : byOf Tryd.prog 39 = 24 := by kernel_rfl
theorem cells_40 : Tryd.prog.cellsOf 40 = 4 := by kernel_rfl
theorem ti_40 : TI Tryd.prog 40 = some (true, 4) := by kernel_rfl
theorem fi_40_0 : FI Tryd.prog 40 0 = some (0, (false, 1)) := by kernel_rfl
theorem fi_40_1 : FI Tryd.prog 40 1 = some (1, (false, 1)) := by kernel_rfl
theorem fi_40_2 : FI Tryd.prog 40 2 = some (2, (false, 1)) := by kernel_rfl
theorem fi_40_3 : FI Tryd.prog 40 3 = some (3, (false, 1)) := by kernel_rfl
theorem si_40 : SI Tryd.prog 40 = some [(0, 1), (1, 1), (2, 1), (3, 1)] := by kernel_rfl
theorem zv_40 : ZV Tryd.prog 40 = some (.agg [.nilp, .nils, .str [], .bool false]) := by kernel_rfl
theorem zok_40 : ZOk Tryd.prog 40 4 = true := by kernel_rfl
theorem by_40 : byOf Tryd.prog 40 = 56 := by kernel_rfl
theorem cells_41 : Tryd.prog.cellsOf 41 = 4 := by kernel_rfl
theorem ti_41 : TI Tryd.prog 41 = some (true, 4) := by kernel_rfl
theorem fi_41_0 : FI Tryd.prog 41 0 = some (0, (false, 1)) := by kernel_rfl
theorem fi_41_1 : FI Tryd.prog 41 1 = some (1, (false, 1)) := by kernel_rfl
theorem fi_41_2 : FI Tryd.prog 41 2 = some (2, (false, 1)) := by kernel_rfl
theorem fi_41_3 : FI Tryd.prog 41 3 = some (3, (false, 1)) := by kernel_rfl
theorem si_41 : SI Tryd.prog 41 = some [(0, 1), (1, 1), (2, 1), (3, 1)] := by kernel_rfl
theorem zv_41 : ZV Tryd.prog 41 = some (.agg [.nilp, .nils, .str [], .bool false]) := by kernel_rfl
theorem zok_41 : ZOk Tryd.prog 41 4 = true := by kernel_rfl
theorem by_41 : byOf Tryd.prog 41 = 56 := by kernel_rfl
theorem cells_42 : Tryd.prog.cellsOf 42 = 4 := by kernel_rfl
theorem ti_42 : TI Tryd.prog 42 = some (true, 4) := by kernel_rfl
theorem fi_42_0 : FI Tryd.prog 42 0 = some (0, (false, 1)) := by kernel_rfl
theorem fi_42_1 : FI Tryd.prog 42 1 = some (1, (false, 1)) := by kernel_rfl
theorem fi_42_2 : FI Tryd.prog 42 2 = some (2, (false, 1)) := by kernel_rfl
theorem fi_42_3 : FI Tryd.prog 42 3 = some (3, (false, 1)) := by kernel_rfl
theorem si_42 : SI Tryd.prog 42 = some [(0, 1), (1, 1), (2, 1), (3, 1)] := by kernel_rfl
theorem zv_42 : ZV Tryd.prog 42 = some (.agg [.nilp, .nils, .int .i64 0, .str []]) := by kernel_rfl
theorem zok_42 : ZOk Tryd.prog 42 4 = true := by kernel_rfl
theorem by_42 : byOf Tryd.prog 42 = 56 := by kernel_rfl
theorem cells_43 : Tryd.prog.cellsOf 43 = 4 := by kernel_rfl
theorem ti_43 : TI Tryd.prog 43 = some (true, 4) := by kernel_rfl
theorem fi_43_0 : FI Tryd.prog 43 0 = some (0, (false, 1)) := by kernel_rfl
theorem fi_43_1 : FI Tryd.prog 43 1 = some (1, (false, 1)) := by kernel_rfl
theorem fi_43_2 : FI Tryd.prog 43 2 = some (2, (false, 1)) := by kernel_rfl
theorem fi_43_3 : FI Tryd.prog 43 3 = some (3, (false, 1)) := by kernel_rfl
theorem si_43 : SI Tryd.prog 43 = some [(0, 1), (1, 1), (2, 1), (3, 1)] := by kernel_rfl
theorem zv_43 : ZV Tryd.prog 43 = some (.agg [.nilp, .nils, .int .i64 0, .str []]) := by kernel_rfl
theorem zok_43 : ZOk Tryd.prog 43 4 = true := by kernel_rfl
theorem by_43 : byOf Tryd.prog 43 = 56 := by kernel_rfl
theorem cells_44 : Tryd.prog.cellsOf 44 = 1 := by kernel_rfl
theorem ti_44 : TI Tryd.prog 44 = some (false, 1) := by kernel_rfl
theorem ei_44 : EI Tryd.prog 44 = some (82, 2) := by kernel_rfl
theorem isSli_44 : isSli Tryd.prog 44 = true := by kernel_rfl
theorem notInt_44 : notInt Tryd.prog 44 = true := by kernel_rfl
theorem zv_44 : ZV Tryd.prog 44 = some (.nils) := by kernel_rfl
theorem zok_44 : ZOk Tryd.prog 44 1 = true := by kernel_rfl
theorem by_44 : byOf Tryd.prog 44 = 24 := by kernel_rfl
theorem cells_45 : Tryd.prog.cellsOf 45 = 5 := by kernel_rfl
theorem ti_45 : TI Tryd.prog 45 = some (true, 5) := by kernel_rfl
theorem fi_45_0 : FI Tryd.prog 45 0 = some (0, (false, 1)) := by kernel_rfl
theorem fi_45_1 : FI Tryd.prog 45 1 = some (1, (false, 1)) := by kernel_rfl
theorem fi_45_2 : FI Tryd.prog 45 2 = some (2, (false, 1)) := by kernel_rfl
theorem fi_45_3 : FI Tryd.prog 45 3 = some (3, (false, 1)) := by kernel_rfl
theorem fi_45_4 : FI Tryd.prog 45 4 = some (4, (false, 1)) := by kernel_rfl
theorem si_45 : SI Tryd.prog 45 = some [(0, 1), (1, 1), (2, 1), (3, 1), (4, 1)] := by kernel_rfl
theorem zv_45 : ZV Tryd.prog 45 = some (.agg [.int .i64 0, .str [], .nils, .bool false, .str []]) := by kernel_rfl
theorem zok_45 : ZOk Tryd.prog 45 5 = true := by kernel_rfl
theorem by_45 : byOf Tryd.prog 45 = 72 := by kernel_rfl
theorem cells_46 : Tryd.prog.cellsOf 46 = 5 := by kernel_rfl
theorem ti_46 : TI Tryd.prog 46 = some (true, 5) := by kernel_rfl
theorem fi_46_0 : FI Tryd.prog 46 0 = some (0, (false, 1)) := by kernel_rfl
theorem fi_46_1 : FI Tryd.prog 46 1 = some (1, (false, 1)) := by kernel_rfl
theorem fi_46_2 : FI Tryd.prog 46 2 = some (2, (false, 1)) := by kernel_rfl
theorem fi_46_3 : FI Tryd.prog 46 3 = some (3, (false, 1)) := by kernel_rfl
theorem fi_46_4 : FI Tryd.prog 46 4 = some (4, (false, 1)) := by kernel_rfl
theorem si_46 : SI Tryd.prog 46 = some [(0, 1), (1, 1), (2, 1), (3, 1), (4, 1)] := by kernel_rfl
theorem zv_46 : ZV Tryd.prog 46 = some (.agg [.int .i64 0, .str [], .nils, .bool false, .str []]) := by kernel_rfl
theorem zok_46 : ZOk Tryd.prog 46 5 = true := by kernel_rfl
theorem by_46 : byOf Tryd.prog 46 = 72 := by kernel_rfl
theorem cells_47 : Tryd.prog.cellsOf 47 = 1 := by kernel_rfl
theorem ti_47 : TI Tryd.prog 47 = some (false, 1) := by kernel_rfl
theorem zv_47 : ZV Tryd.prog 47 = some (.any) := by kernel_rfl
theorem zok_47 : ZOk Tryd.prog 47 1 = true := by kernel_rfl
theorem by_47 : byOf Tryd.prog 47 = 8 := by kernel_rfl
theorem cells_48 : Tryd.prog.cellsOf 48 = 1 := by kernel_rfl
theorem ti_48 : TI Tryd.prog 48 = some (false, 1) := by kernel_rfl
theorem zv_48 : ZV Tryd.prog 48 = some (.any) := by kernel_rfl
theorem zok_48 : ZOk Tryd.prog 48 1 = true := by kernel_rfl
theorem by_48 : byOf Tryd.prog 48 = 8 := by kernel_rfl
theorem cells_49 : Tryd.prog.cellsOf 49 = 1 := by kernel_rfl
theorem ti_49 : TI Tryd.prog 49 = some (false, 1) := by kernel_rfl
theorem zv_49 : ZV Tryd.prog 49 = some (.any) := by kernel_rfl
theorem zok_49 : ZOk Tryd.prog 49 1 = true := by kernel_rfl
theorem by_49 : byOf Tryd.prog 49 = 8 := by kernel_rfl
theorem cells_50 : Tryd.prog.cellsOf 50 = 1 := by kernel_rfl
theorem ti_50 : TI Tryd.prog 50 = some (false, 1) := by kernel_rfl
theorem zv_50 : ZV Tryd.prog 50 = some (.any) := by kernel_rfl
theorem zok_50 : ZOk Tryd.prog 50 1 = true := by kernel_rfl
theorem by_50 : byOf Tryd.prog 50 = 8 := by kernel_rfl
theorem cells_51 : Tryd.prog.cellsOf 51 = 1 := by kernel_rfl
theorem ti_51 : TI Tryd.prog 51 = some (false, 1) := by kernel_rfl
theorem zv_51 : ZV Tryd.prog 51 = some (.any) := by kernel_rfl
theorem zok_51 : ZOk Tryd.prog 51 1 = true := by kernel_rfl
theorem by_51 : byOf Tryd.prog 51 = 8 := by kernel_rfl
theorem cells_52 : Tryd.prog.cellsOf 52 = 1 := by kernel_rfl
theorem ti_52 : TI Tryd.prog 52 = some (false, 1) := by kernel_rfl
theorem ei_52 : EI Tryd.prog 52 = some (56, 7) := by kernel_rfl
theorem isSli_52 : isSli Tryd.prog 52 = true := by kernel_rfl
theorem notInt_52 : notInt Tryd.prog 52 = true := by kernel_rfl
theorem zv_52 : ZV Tryd.prog 52 = some (.nils) := by kernel_rfl
theorem zok_52 : ZOk Tryd.prog 52 1 = true := by kernel_rfl
theorem by_52 : byOf Tryd.prog 52 = 24 := by kernel_rfl
theorem cells_53 : Tryd.prog.cellsOf 53 = 4 := by kernel_rfl
theorem ti_53 : TI Tryd.prog 53 = some (true, 4) := by kernel_rfl
theorem fi_53_0 : FI Tryd.prog 53 0 = some (0, (false, 1)) := by kernel_rfl
theorem fi_53_1 : FI Tryd.prog 53 1 = some (1, (false, 1)) := by kernel_rfl
theorem fi_53_2 : FI Tryd.prog 53 2 = some (2, (false, 1)) := by kernel_rfl
theorem fi_53_3 : FI Tryd.prog 53 3 = some (3, (false, 1)) := by kernel_rfl
theorem si_53 : SI Tryd.prog 53 = some [(0, 1), (1, 1), (2, 1), (3, 1)] := by kernel_rfl
theorem zv_53 : ZV Tryd.prog 53 = some (.agg [.str [], .nils, .str [], .nils]) := by kernel_rfl
theorem zok_53 : ZOk Tryd.prog 53 4 = true := by kernel_rfl
theorem by_53 : byOf Tryd.prog 53 = 80 := by kernel_rfl
theorem cells_54 : Tryd.prog.cellsOf 54 = 4 := by kernel_rfl
theorem ti_54 : TI Tryd.prog 54 = some (true, 4) := by kernel_rfl
theorem fi_54_0 : FI Tryd.prog 54 0 = some (0, (false, 1)) := by kernel_rfl
theorem fi_54_1 : FI Tryd.prog 54 1 = some (1, (false, 1)) := by kernel_rfl
theorem fi_54_2 : FI Tryd.prog 54 2 = some (2, (false, 1)) := by kernel_rfl
theorem fi_54_3 : FI Tryd.prog 54 3 = some (3, (false, 1)) := by kernel_rfl
theorem si_54 : SI Tryd.prog 54 = some [(0, 1), (1, 1), (2, 1), (3, 1)] := by kernel_rfl
theorem zv_54 : ZV Tryd.prog 54 = some (.agg [.str [], .nils, .str [], .nils]) := by kernel_rfl
theorem zok_54 : ZOk Tryd.prog 54 4 = true := by kernel_rfl
theorem by_54 : byOf Tryd.prog 54 = 80 := by kernel_rfl
theorem cells_55 : Tryd.prog.cellsOf 55 = 7 := by kernel_rfl
theorem ti_55 : TI Tryd.prog 55 = some (true, 7) := by kernel_rfl
theorem fi_55_0 : FI Tryd.prog 55 0 = some (0, (false, 1)) := by kernel_rfl
theorem fi_55_1 : FI Tryd.prog 55 1 = some (1, (true, 4)) := by kernel_rfl
theorem fi_55_2 : FI Tryd.prog 55 2 = some (5, (false, 1)) := by kernel_rfl
theorem fi_55_3 : FI Tryd.prog 55 3 = some (6, (false, 1)) := by kernel_rfl
theorem si_55 : SI Tryd.prog 55 = some [(0, 1), (1, 4), (5, 1), (6, 1)] := by kernel_rfl
theorem zv_55 : ZV Tryd.prog 55 = some (.agg [.int .i64 0, .str [], .nils, .str [], .nils, .bool false, .bool false]) := by kernel_rfl
theorem zok_55 : ZOk Tryd.prog 55 7 = true := by kernel_rfl
theorem by_55 : byOf Tryd.prog 55 = 96 := by kernel_rfl
theorem cells_56 : Tryd.prog.cellsOf 56 = 7 := by kernel_rfl
theorem ti_56 : TI Tryd.prog 56 = some (true, 7) := by kernel_rfl
theorem fi_56_0 : FI Tryd.prog 56 0 = some (0, (false, 1)) := by kernel_rfl
theorem fi_56_1 : FI Tryd.prog 56 1 = some (1, (true, 4)) := by kernel_rfl
theorem fi_56_2 : FI Tryd.prog 56 2 = some (5, (false, 1)) := by kernel_rfl
theorem fi_56_3 : FI Tryd.prog 56 3 = some (6, (false, 1)) := by kernel_rfl
theorem si_56 : SI Tryd.prog 56 = some [(0, 1), (1, 4), (5, 1), (6, 1)] := by kernel_rfl
theorem zv_56 : ZV Tryd.prog 56 = some (.agg [.int .i64 0, .str [], .nils, .str [], .nils, .bool false, .bool false]) := by kernel_rfl
theorem zok_56 : ZOk Tryd.prog 56 7 = true := by kernel_rfl
theorem by_56 : byOf Tryd.prog 56 = 96 := by kernel_rfl
theorem cells_57 : Tryd.prog.cellsOf 57 = 1 := by kernel_rfl
theorem ti_57 : TI Tryd.prog 57 = some (false, 1) := by kernel_rfl
theorem zv_57 : ZV Tryd.prog 57 = some (.any) := by kernel_rfl
theorem zok_57 : ZOk Tryd.prog 57 1 = true := by kernel_rfl
theorem by_57 : byOf Tryd.prog 57 = 8 := by kernel_rfl
theorem cells_58 : Tryd.prog.cellsOf 58 = 1 := by kernel_rfl
theorem ti_58 : TI Tryd.prog 58 = some (false, 1) := by kernel_rfl
theorem zv_58 : ZV Tryd.prog 58 = some (.any) := by kernel_rfl
theorem zok_58 : ZOk Tryd.prog 58 1 = true := by kernel_rfl
theorem by_58 : byOf Tryd.prog 58 = 8 := by kernel_rfl
theorem cells_59 : Tryd.prog.cellsOf 59 = 1 := by kernel_rfl
theorem ti_59 : TI Tryd.prog 59 = some (false, 1) := by kernel_rfl
theorem zv_59 : ZV Tryd.prog 59 = some (.any) := by kernel_rfl
theorem zok_59 : ZOk Tryd.prog 59 1 = true := by kernel_rfl
theorem by_59 : byOf Tryd.prog 59 = 8 := by kernel_rfl
theorem cells_60 : Tryd.prog.cellsOf 60 = 1 := by kernel_rfl
theorem ti_60 : TI Tryd.prog 60 = some (false, 1) := by kernel_rfl
theorem zv_60 : ZV Tryd.prog 60 = some (.any) := by kernel_rfl
theorem zok_60 : ZOk Tryd.prog 60 1 = true := by kernel_rfl
theorem by_60 : byOf Tryd.prog 60 = 8 := by kernel_rfl
theorem cells_61 : Tryd.prog.cellsOf 61 = 1 := by kernel_rfl
theorem ti_61 : TI Tryd.prog 61 = some (false, 1) := by kernel_rfl
theorem zv_61 : ZV Tryd.prog 61 = some (.any) := by kernel_rfl
theorem zok_61 : ZOk Tryd.prog 61 1 = true := by kernel_rfl
theorem by_61 : byOf Tryd.prog 61 = 8 := by kernel_rfl
theorem cells_62 : Tryd.prog.cellsOf 62 = 1 := by kernel_rfl
theorem ti_62 : TI Tryd.prog 62 = some (false, 1) := by kernel_rfl
theorem ei_62 : EI Tryd.prog 62 = some (69, 2) := by kernel_rfl
theorem isSli_62 : isSli Tryd.prog 62 = true := by kernel_rfl
theorem notInt_62 : notInt Tryd.prog 62 = true := by kernel_rfl
theorem zv_62 : ZV Tryd.prog 62 = some (.nils) := by kernel_rfl
theorem zok_62 : ZOk Tryd.prog 62 1 = true := by kernel_rfl
theorem by_62 : byOf Tryd.prog 62 = 24 := by kernel_rfl
theorem cells_63 : Tryd.prog.cellsOf 63 = 1 := by kernel_rfl
theorem ti_63 : TI Tryd.prog 63 = some (false, 1) := by kernel_rfl
theorem ei_63 : EI Tryd.prog 63 = some (90, 8) := by kernel_rfl
theorem isSli_63 : isSli Tryd.prog 63 = true := by kernel_rfl
theorem notInt_63 : notInt Tryd.prog 63 = true := by kernel_rfl
theorem zv_63 : ZV Tryd.prog 63 = some (.nils) := by kernel_rfl
theorem zok_63 : ZOk Tryd.prog 63 1 = true := by kernel_rfl
theorem by_63 : byOf Tryd.prog 63 = 24 := by kernel_rfl
theorem cells_65 : Tryd.prog.cellsOf 65 = 1 := by kernel_rfl
theorem ti_65 : TI Tryd.prog 65 = some (false, 1) := by kernel_rfl
theorem zv_65 : ZV Tryd.prog 65 = some (.any) := by kernel_rfl
theorem zok_65 : ZOk Tryd.prog 65 1 = true := by kernel_rfl
theorem by_65 : byOf Tryd.prog 65 = 8 := by kernel_rfl
theorem cells_66 : Tryd.prog.cellsOf 66 = 2 := by kernel_rfl
theorem ti_66 : TI Tryd.prog 66 = some (true, 2) := by kernel_rfl
theorem fi_66_0 : FI Tryd.prog 66 0 = some (0, (false, 1)) := by kernel_rfl
theorem fi_66_1 : FI Tryd.prog 66 1 = some (1, (false, 1)) := by kernel_rfl
theorem si_66 : SI Tryd.prog 66 = some [(0, 1), (1, 1)] := by kernel_rfl
theorem zv_66 : ZV Tryd.prog 66 = some (.agg [.nils, .nils]) := by kernel_rfl
theorem zok_66 : ZOk Tryd.prog 66 2 = true := by kernel_rfl
theorem by_66 : byOf Tryd.prog 66 = 48 := by kernel_rfl
theorem cells_67 : Tryd.prog.cellsOf 67 = 2 := by kernel_rfl
theorem ti_67 : TI Tryd.prog 67 = some (true, 2) := by kernel_rfl
theorem fi_67_0 : FI Tryd.prog 67 0 = some (0, (false, 1)) := by kernel_rfl
theorem fi_67_1 : FI Tryd.prog 67 1 = some (1, (false, 1)) := by kernel_rfl
theorem si_67 : SI Tryd.prog 67 = some [(0, 1), (1, 1)] := by kernel_rfl
theorem zv_67 : ZV Tryd.prog 67 = some (.agg [.nils, .nils]) := by kernel_rfl
theorem zok_67 : ZOk Tryd.prog 67 2 = true := by kernel_rfl
theorem by_67 : byOf Tryd.prog 67 = 48 := by kernel_rfl
theorem cells_68 : Tryd.prog.cellsOf 68 = 2 := by kernel_rfl
theorem ti_68 : TI Tryd.prog 68 = some (true, 2) := by kernel_rfl
theorem fi_68_0 : FI Tryd.prog 68 0 = some (0, (false, 1)) := by kernel_rfl
theorem fi_68_1 : FI Tryd.prog 68 1 = some (1, (false, 1)) := by kernel_rfl
theorem si_68 : SI Tryd.prog 68 = some [(0, 1), (1, 1)] := by kernel_rfl
theorem zv_68 : ZV Tryd.prog 68 = some (.agg [.int .i64 0, .int .i64 0]) := by kernel_rfl
theorem zok_68 : ZOk Tryd.prog 68 2 = true := by kernel_rfl
theorem by_68 : byOf Tryd.prog 68 = 16 := by kernel_rfl
theorem cells_69 : Tryd.prog.cellsOf 69 = 2 := by kernel_rfl
theorem ti_69 : TI Tryd.prog 69 = some (true, 2) := by kernel_rfl
theorem fi_69_0 : FI Tryd.prog 69 0 = some (0, (false, 1)) := by kernel_rfl
theorem fi_69_1 : FI Tryd.prog 69 1 = some (1, (false, 1)) := by kernel_rfl
theorem si_69 : SI Tryd.prog 69 = some [(0, 1), (1, 1)] := by kernel_rfl
theorem zv_69 : ZV Tryd.prog 69 = some (.agg [.int .i64 0, .int .i64 0]) := by kernel_rfl
theorem zok_69 : ZOk Tryd.prog 69 2 = true := by kernel_rfl
theorem by_69 : byOf Tryd.prog 69 = 16 := by kernel_rfl
theorem cells_70 : Tryd.prog.cellsOf 70 = 1 := by kernel_rfl
theorem ti_70 : TI Tryd.prog 70 = some (false, 1) := by kernel_rfl
theorem zv_70 : ZV Tryd.prog 70 = some (.any) := by kernel_rfl
theorem zok_70 : ZOk Tryd.prog 70 1 = true := by kernel_rfl
theorem by_70 : byOf Tryd.prog 70 = 8 := by kernel_rfl
theorem cells_71 : Tryd.prog.cellsOf 71 = 1 := by kernel_rfl
theorem ti_71 : TI Tryd.prog 71 = some (false, 1) := by kernel_rfl
theorem zv_71 : ZV Tryd.prog 71 = some (.any) := by kernel_rfl
theorem zok_71 : ZOk Tryd.prog 71 1 = true := by kernel_rfl
theorem by_71 : byOf Tryd.prog 71 = 8 := by kernel_rfl
theorem cells_72 : Tryd.prog.cellsOf 72 = 2 := by kernel_rfl
theorem ti_72 : TI Tryd.prog 72 = some (true, 2) := by kernel_rfl
theorem fi_72_0 : FI Tryd.prog 72 0 = some (0, (false, 1)) := by kernel_rfl
theorem fi_72_1 : FI Tryd.prog 72 1 = some (1, (false, 1)) := by kernel_rfl
theorem si_72 : SI Tryd.prog 72 = some [(0, 1), (1, 1)] := by kernel_rfl
theorem zv_72 : ZV Tryd.prog 72 = some (.agg [.nils, .nils]) := by kernel_rfl
theorem zok_72 : ZOk Tryd.prog 72 2 = true := by kernel_rfl
theorem by_72 : byOf Tryd.prog 72 = 48 := by kernel_rfl
theorem cells_73 : Tryd.prog.cellsOf 73 = 2 := by kernel_rfl
theorem ti_73 : TI Tryd.prog 73 = some (true, 2) := by kernel_rfl
theorem fi_73_0 : FI Tryd.prog 73 0 = some (0, (false, 1)) := by kernel_rfl
theorem fi_73_1 : FI Tryd.prog 73 1 = some (1, (false, 1)) := by kernel_rfl
theorem si_73 : SI Tryd.prog 73 = some [(0, 1), (1, 1)] := by kernel_rfl
theorem zv_73 : ZV Tryd.prog 73 = some (.agg [.nils, .nils]) := by kernel_rfl
theorem zok_73 : ZOk Tryd.prog 73 2 = true := by kernel_rfl
theorem by_73 : byOf Tryd.prog 73 = 48 := by kernel_rfl
theorem cells_74 : Tryd.prog.cellsOf 74 = 1 := by kernel_rfl
theorem ti_74 : TI Tryd.prog 74 = some (false, 1) := by kernel_rfl
theorem zv_74 : ZV Tryd.prog 74 = some (.any) := by kernel_rfl
theorem zok_74 : ZOk Tryd.prog 74 1 = true := by kernel_rfl
theorem by_74 : byOf Tryd.prog 74 = 8 := by kernel_rfl
theorem cells_75 : Tryd.prog.cellsOf 75 = 1 := by kernel_rfl
theorem ti_75 : TI Tryd.prog 75 = some (false, 1) := by kernel_rfl
theorem zv_75 : ZV Tryd.prog 75 = some (.any) := by kernel_rfl
theorem zok_75 : ZOk Tryd.prog 75 1 = true := by kernel_rfl
theorem by_75 : byOf Tryd.prog 75 = 8 := by kernel_rfl
theorem cells_76 : Tryd.prog.cellsOf 76 = 1 := by kernel_rfl
theorem ti_76 : TI Tryd.prog 76 = some (false, 1) := by kernel_rfl
theorem ei_76 : EI Tryd.prog 76 = some (3, 1) := by kernel_rfl
theorem isSli_76 : isSli Tryd.prog 76 = true := by kernel_rfl
theorem notInt_76 : notInt Tryd.prog 76 = true := by kernel_rfl
theorem zv_76 : ZV Tryd.prog 76 = some (.nils) := by kernel_rfl
theorem zok_76 : ZOk Tryd.prog 76 1 = true := by kernel_rfl
theorem by_76 : byOf Tryd.prog 76 = 24 := by kernel_rfl
theorem cells_77 : Tryd.prog.cellsOf 77 = 1 := by kernel_rfl
theorem ti_77 : TI Tryd.prog 77 = some (false, 1) := by kernel_rfl
theorem zv_77 : ZV Tryd.prog 77 = some (.any) := by kernel_rfl
theorem zok_77 : ZOk Tryd.prog 77 1 = true := by kernel_rfl
theorem by_77 : byOf Tryd.prog 77 = 8 := by kernel_rfl
theorem cells_78 : Tryd.prog.cellsOf 78 = 1 := by kernel_rfl
theorem ti_78 : TI Tryd.prog 78 = some (false, 1) := by kernel_rfl
theorem ei_78 : EI Tryd.prog 78 = some (9, 1) := by kernel_rfl
theorem isSli_78 : isSli Tryd.prog 78 = true := by kernel_rfl
theorem notInt_78 : notInt Tryd.prog 78 = true := by kernel_rfl
theorem zv_78 : ZV Tryd.prog 78 = some (.nils) := by kernel_rfl
theorem zok_78 : ZOk Tryd.prog 78 1 = true := by kernel_rfl
theorem by_78 : byOf Tryd.prog 78 = 24 := by kernel_rfl
theorem cells_79 : Tryd.prog.cellsOf 79 = 9 := by kernel_rfl
theorem ti_79 : TI Tryd.prog 79 = some (true, 9) := by kernel_rfl
theorem ai_79 : AI Tryd.prog 79 = some (9, (false, 1)) := by kernel_rfl
theorem zv_79 : ZV Tryd.prog 79 = some (.agg [.str [], .str [], .str [], .str [], .str [], .str [], .str [], .str [], .str []]) := by kernel_rfl
theorem zok_79 : ZOk Tryd.prog 79 9 = true := by kernel_rfl
theorem by_79 : byOf Tryd.prog 79 = 144 := by kernel_rfl
theorem cells_80 : Tryd.prog.cellsOf 80 = 1 := by kernel_rfl
theorem ti_80 : TI Tryd.prog 80 = some (false, 1) := by kernel_rfl
theorem zv_80 : ZV Tryd.prog 80 = some (.any) := by kernel_rfl
theorem zok_80 : ZOk Tryd.prog 80 1 = true := by kernel_rfl
theorem by_80 : byOf Tryd.prog 80 = 8 := by kernel_rfl
theorem cells_81 : Tryd.prog.cellsOf 81 = 2 := by kernel_rfl
theorem ti_81 : TI Tryd.prog 81 = some (true, 2) := by kernel_rfl
theorem fi_81_0 : FI Tryd.prog 81 0 = some (0, (false, 1)) := by kernel_rfl
theorem fi_81_1 : FI Tryd.prog 81 1 = some (1, (false, 1)) := by kernel_rfl
theorem si_81 : SI Tryd.prog 81 = some [(0, 1), (1, 1)] := by kernel_rfl
theorem zv_81 : ZV Tryd.prog 81 = some (.agg [.str [], .str []]) := by kernel_rfl
theorem zok_81 : ZOk Tryd.prog 81 2 = true := by kernel_rfl
theorem by_81 : byOf Tryd.prog 81 = 32 := by kernel_rfl
theorem cells_82 : Tryd.prog.cellsOf 82 = 2 := by kernel_rfl
theorem ti_82 : TI Tryd.prog 82 = some (true, 2) := by kernel_rfl
theorem fi_82_0 : FI Tryd.prog 82 0 = some (0, (false, 1)) := by kernel_rfl
theorem fi_82_1 : FI Tryd.prog 82 1 = some (1, (false, 1)) := by kernel_rfl
theorem si_82 : SI Tryd.prog 82 = some [(0, 1), (1, 1)] := by kernel_rfl
theorem zv_82 : ZV Tryd.prog 82 = some (.agg [.str [], .str []]) := by kernel_rfl
theorem zok_82 : ZOk Tryd.prog 82 2 = true := by kernel_rfl
theorem by_82 : byOf Tryd.prog 82 = 32 := by kernel_rfl
theorem cells_83 : Tryd.prog.cellsOf 83 = 1 := by kernel_rfl
theorem ti_83 : TI Tryd.prog 83 = some (false, 1) := by kernel_rfl
theorem zv_83 : ZV Tryd.prog 83 = some (.any) := by kernel_rfl
theorem zok_83 : ZOk Tryd.prog 83 1 = true := by kernel_rfl
theorem by_83 : byOf Tryd.prog 83 = 8 := by kernel_rfl
theorem cells_84 : Tryd.prog.cellsOf 84 = 4 := by kernel_rfl
theorem ti_84 : TI Tryd.prog 84 = some (true, 4) := by kernel_rfl
theorem ai_84 : AI Tryd.prog 84 = some (4, (false, 1)) := by kernel_rfl
theorem zv_84 : ZV Tryd.prog 84 = some (.agg [.str [], .str [], .str [], .str []]) := by kernel_rfl
theorem zok_84 : ZOk Tryd.prog 84 4 = true := by kernel_rfl
theorem by_84 : byOf Tryd.prog 84 = 64 := by kernel_rfl
theorem cells_85 : Tryd.prog.cellsOf 85 = 1 := by kernel_rfl
theorem ti_85 : TI Tryd.prog 85 = some (false, 1) := by kernel_rfl
theorem zv_85 : ZV Tryd.prog 85 = some (.any) := by kernel_rfl
theorem zok_85 : ZOk Tryd.prog 85 1 = true := by kernel_rfl
theorem by_85 : byOf Tryd.prog 85 = 8 := by kernel_rfl
theorem cells_86 : Tryd.prog.cellsOf 86 = 1 := by kernel_rfl
theorem ti_86 : TI Tryd.prog 86 = some (false, 1) := by kernel_rfl
theorem zv_86 : ZV Tryd.prog 86 = some (.any) := by kernel_rfl
theorem zok_86 : ZOk Tryd.prog 86 1 = true := by kernel_rfl
theorem by_86 : byOf Tryd.prog 86 = 8 := by kernel_rfl
theorem cells_87 : Tryd.prog.cellsOf 87 = 1 := by kernel_rfl
theorem ti_87 : TI Tryd.prog 87 = some (false, 1) := by kernel_rfl
theorem zv_87 : ZV Tryd.prog 87 = some (.any) := by kernel_rfl
theorem zok_87 : ZOk Tryd.prog 87 1 = true := by kernel_rfl
theorem by_87 : byOf Tryd.prog 87 = 8 := by kernel_rfl
theorem cells_88 : Tryd.prog.cellsOf 88 = 1 := by kernel_rfl
theorem ti_88 : TI Tryd.prog 88 = some (false, 1) := by kernel_rfl
theorem zv_88 : ZV Tryd.prog 88 = some (.any) := by kernel_rfl
theorem zok_88 : ZOk Tryd.prog 88 1 = true := by kernel_rfl
theorem by_88 : byOf Tryd.prog 88 = 8 := by kernel_rfl
theorem cells_89 : Tryd.prog.cellsOf 89 = 1 := by kernel_rfl
theorem ti_89 : TI Tryd.prog 89 = some (false, 1) := by kernel_rfl
theorem zv_89 : ZV Tryd.prog 89 = some (.any) := by kernel_rfl
theorem zok_89 : ZOk Tryd.prog 89 1 = true := by kernel_rfl
theorem by_89 : byOf Tryd.prog 89 = 8 := by kernel_rfl
theorem cells_90 : Tryd.prog.cellsOf 90 = 8 := by kernel_rfl
theorem ti_90 : TI Tryd.prog 90 = some (true, 8) := by kernel_rfl
theorem ai_90 : AI Tryd.prog 90 = some (8, (false, 1)) := by kernel_rfl
theorem zv_90 : ZV Tryd.prog 90 = some (.agg [.int .i64 0, .int .i64 0, .int .i64 0, .int .i64 0, .int .i64 0, .int .i64 0, .int .i64 0, .int .i64 0]) := by kernel_rfl
theorem zok_90 : ZOk Tryd.prog 90 8 = true := by kernel_rfl
theorem by_90 : byOf Tryd.prog 90 = 64 := by kernel_rfl
theorem cells_91 : Tryd.prog.cellsOf 91 = 1 := by kernel_rfl
theorem ti_91 : TI Tryd.prog 91 = some (false, 1) := by kernel_rfl
theorem zv_91 : ZV Tryd.prog 91 = some (.any) := by kernel_rfl
theorem zok_91 : ZOk Tryd.prog 91 1 = true := by kernel_rfl
theorem by_91 : byOf Tryd.prog 91 = 8 := by kernel_rfl
theorem cells_93 : Tryd.prog.cellsOf 93 = 1 := by kernel_rfl
theorem ti_93 : TI Tryd.prog 93 = some (false, 1) := by kernel_rfl
theorem zv_93 : ZV Tryd.prog 93 = some (.any) := by kernel_rfl
theorem zok_93 : ZOk Tryd.prog 93 1 = true := by kernel_rfl
theorem by_93 : byOf Tryd.prog 93 = 8 := by kernel_rfl
theorem cells_94 : Tryd.prog.cellsOf 94 = 1 := by kernel_rfl
theorem ti_94 : TI Tryd.prog 94 = some (false, 1) := by kernel_rfl
theorem zv_94 : ZV Tryd.prog 94 = some (.any) := by kernel_rfl
theorem zok_94 : ZOk Tryd.prog 94 1 = true := by kernel_rfl
theorem by_94 : byOf Tryd.prog 94 = 8 := by kernel_rfl
theorem cells_95 : Tryd.prog.cellsOf 95 = 1 := by kernel_rfl
theorem ti_95 : TI Tryd.prog 95 = some (false, 1) := by kernel_rfl
theorem zv_95 : ZV Tryd.prog 95 = some (.any) := by kernel_rfl
theorem zok_95 : ZOk Tryd.prog 95 1 = true := by kernel_rfl
theorem by_95 : byOf Tryd.prog 95 = 8 := by kernel_rfl
theorem cells_96 : Tryd.prog.cellsOf 96 = 1 := by kernel_rfl
theorem ti_96 : TI Tryd.prog 96 = some (false, 1) := by kernel_rfl
theorem zv_96 : ZV Tryd.prog 96 = some (.any) := by kernel_rfl
theorem zok_96 : ZOk Tryd.prog 96 1 = true := by kernel_rfl
theorem by_96 : byOf Tryd.prog 96 = 8 := by kernel_rfl
theorem cells_97 : Tryd.prog.cellsOf 97 = 1 := by kernel_rfl
theorem ti_97 : TI Tryd.prog 97 = some (false, 1) := by kernel_rfl
theorem ei_97 : EI Tryd.prog 97 = some (30, 1) := by kernel_rfl
theorem isSli_97 : isSli Tryd.prog 97 = true := by kernel_rfl
theorem notInt_97 : notInt Tryd.prog 97 = true := by kernel_rfl
theorem zv_97 : ZV Tryd.prog 97 = some (.nils) := by kernel_rfl
theorem zok_97 : ZOk Tryd.prog 97 1 = true := by kernel_rfl
theorem by_97 : byOf Tryd.prog 97 = 24 := by kernel_rfl
theorem cells_98 : Tryd.prog.cellsOf 98 = 1 := by kernel_rfl
theorem ti_98 : TI Tryd.prog 98 = some (false, 1) := by kernel_rfl
theorem zv_98 : ZV Tryd.prog 98 = some (.any) := by kernel_rfl
theorem zok_98 : ZOk Tryd.prog 98 1 = true := by kernel_rfl
theorem by_98 : byOf Tryd.prog 98 = 8 := by kernel_rfl
theorem cells_99 : Tryd.prog.cellsOf 99 = 1 := by kernel_rfl
theorem ti_99 : TI Tryd.prog 99 = some (false, 1) := by kernel_rfl
theorem zv_99 : ZV Tryd.prog 99 = some (.any) := by kernel_rfl
theorem zok_99 : ZOk Tryd.prog 99 1 = true := by kernel_rfl
theorem by_99 : byOf Tryd.prog 99 = 8 := by kernel_rfl
theorem cells_100 : Tryd.prog.cellsOf 100 = 1 := by kernel_rfl
theorem ti_100 : TI Tryd.prog 100 = some (false, 1) := by kernel_rfl
theorem zv_100 : ZV Tryd.prog 100 = some (.any) := by kernel_rfl
theorem zok_100 : ZOk Tryd.prog 100 1 = true := by kernel_rfl
theorem by_100 : byOf Tryd.prog 100 = 8 := by kernel_rfl
theorem cells_101 : Tryd.prog.cellsOf 101 = 1 := by kernel_rfl
theorem ti_101 : TI Tryd.prog 101 = some (false, 1) := by kernel_rfl
theorem zv_101 : ZV Tryd.prog 101 = some (.any) := by kernel_rfl
theorem zok_101 : ZOk Tryd.prog 101 1 = true := by kernel_rfl
theorem by_101 : byOf Tryd.prog 101 = 8 := by kernel_rfl
theorem cells_102 : Tryd.prog.cellsOf 102 = 1 := by kernel_rfl
theorem ti_102 : TI Tryd.prog 102 = some (false, 1) := by kernel_rfl
theorem zv_102 : ZV Tryd.prog 102 = some (.any) := by kernel_rfl
theorem zok_102 : ZOk Tryd.prog 102 1 = true := by kernel_rfl
theorem by_102 : byOf Tryd.prog 102 = 8 := by kernel_rfl
theorem cells_103 : Tryd.prog.cellsOf 103 = 1 := by kernel_rfl
theorem ti_103 : TI Tryd.prog 103 = some (false, 1) := by kernel_rfl
theorem zv_103 : ZV Tryd.prog 103 = some (.any) := by kernel_rfl
theorem zok_103 : ZOk Tryd.prog 103 1 = true := by kernel_rfl
theorem by_103 : byOf Tryd.prog 103 = 8 := by kernel_rfl
theorem cells_104 : Tryd.prog.cellsOf 104 = 1 := by kernel_rfl
theorem ti_104 : TI Tryd.prog 104 = some (false, 1) := by kernel_rfl
theorem zv_104 : ZV Tryd.prog 104 = some (.any) := by kernel_rfl
theorem zok_104 : ZOk Tryd.prog 104 1 = true := by kernel_rfl
theorem by_104 : byOf Tryd.prog 104 = 8 := by kernel_rfl
theorem cells_105 : Tryd.prog.cellsOf 105 = 1 := by kernel_rfl
theorem ti_105 : TI Tryd.prog 105 = some (false, 1) := by kernel_rfl
theorem zv_105 : ZV Tryd.prog 105 = some (.any) := by kernel_rfl
theorem zok_105 : ZOk Tryd.prog 105 1 = true := by kernel_rfl
theorem by_105 : byOf Tryd.prog 105 = 8 := by kernel_rfl
theorem cells_106 : Tryd.prog.cellsOf 106 = 1 := by kernel_rfl
theorem ti_106 : TI Tryd.prog 106 = some (false, 1) := by kernel_rfl
theorem intK_106 : intK Tryd.prog 106 = some .u64 := by kernel_rfl
theorem un_106 : Tryd.prog.underlying 106 = some (.int .u64) := by kernel_rfl
theorem zv_106 : ZV Tryd.prog 106 = some (.int .u64 0) := by kernel_rfl
theorem zok_106 : ZOk Tryd.prog 106 1 = true := by kernel_rfl
theorem by_106 : byOf Tryd.prog 106 = 8 := by kernel_rfl
theorem cells_108 : Tryd.prog.cellsOf 108 = 1 := by kernel_rfl
theorem ti_108 : TI Tryd.prog 108 = some (false, 1) := by kernel_rfl
theorem zv_108 : ZV Tryd.prog 108 = some (.any) := by kernel_rfl
theorem zok_108 : ZOk Tryd.prog 108 1 = true := by kernel_rfl
theorem by_108 : byOf Tryd.prog 108 = 8 := by kernel_rfl
theorem cells_109 : Tryd.prog.cellsOf 109 = 1 := by kernel_rfl
theorem ti_109 : TI Tryd.prog 109 = some (false, 1) := by kernel_rfl
theorem zv_109 : ZV Tryd.prog 109 = some (.any) := by kernel_rfl
theorem zok_109 : ZOk Tryd.prog 109 1 = true := by kernel_rfl
theorem by_109 : byOf Tryd.prog 109 = 8 := by kernel_rfl
theorem cells_110 : Tryd.prog.cellsOf 110 = 1 := by kernel_rfl
theorem ti_110 : TI Tryd.prog 110 = some (false, 1) := by kernel_rfl
theorem isPtr_110 : isPtr Tryd.prog 110 = true := by kernel_rfl
theorem zv_110 : ZV Tryd.prog 110 = some (.nilp) := by kernel_rfl
theorem zok_110 : ZOk Tryd.prog 110 1 = true := by kernel_rfl
theorem by_110 : byOf Tryd.prog 110 = 8 := by kernel_rfl
theorem cells_111 : Tryd.prog.cellsOf 111 = 1 := by kernel_rfl
theorem ti_111 : TI Tryd.prog 111 = some (false, 1) := by kernel_rfl
theorem ei_111 : EI Tryd.prog 111 = some (5, 1) := by kernel_rfl
theorem isSli_111 : isSli Tryd.prog 111 = true := by kernel_rfl
theorem notInt_111 : notInt Tryd.prog 111 = true := by kernel_rfl
theorem zv_111 : ZV Tryd.prog 111 = some (.nils) := by kernel_rfl
theorem zok_111 : ZOk Tryd.prog 111 1 = true := by kernel_rfl
theorem by_111 : byOf Tryd.prog 111 = 24 := by kernel_rfl
theorem cells_112 : Tryd.prog.cellsOf 112 = 2 := by kernel_rfl
theorem ti_112 : TI Tryd.prog 112 = some (true, 2) := by kernel_rfl
theorem fi_112_0 : FI Tryd.prog 112 0 = some (0, (false, 1)) := by kernel_rfl
theorem fi_112_1 : FI Tryd.prog 112 1 = some (1, (false, 1)) := by kernel_rfl
theorem si_112 : SI Tryd.prog 112 = some [(0, 1), (1, 1)] := by kernel_rfl
theorem zv_112 : ZV Tryd.prog 112 = some (.agg [.nilp, .nils]) := by kernel_rfl
theorem zok_112 : ZOk Tryd.prog 112 2 = true := by kernel_rfl
theorem by_112 : byOf Tryd.prog 112 = 32 := by kernel_rfl
theorem cells_113 : Tryd.prog.cellsOf 113 = 2 := by kernel_rfl
theorem ti_113 : TI Tryd.prog 113 = some (true, 2) := by kernel_rfl
theorem fi_113_0 : FI Tryd.prog 113 0 = some (0, (false, 1)) := by kernel_rfl
theorem fi_113_1 : FI Tryd.prog 113 1 = some (1, (false, 1)) := by kernel_rfl
theorem si_113 : SI Tryd.prog 113 = some [(0, 1), (1, 1)] := by kernel_rfl
theorem zv_113 : ZV Tryd.prog 113 = some (.agg [.nilp, .nils]) := by kernel_rfl
theorem zok_113 : ZOk Tryd.prog 113 2 = true := by kernel_rfl
theorem by_113 : byOf Tryd.prog 113 = 32 := by kernel_rfl
theorem cells_117 : Tryd.prog.cellsOf 117 = 1 := by kernel_rfl
theorem ti_117 : TI Tryd.prog 117 = some (false, 1) := by kernel_rfl
theorem zv_117 : ZV Tryd.prog 117 = some (.any) := by kernel_rfl
theorem zok_117 : ZOk Tryd.prog 117 1 = true := by kernel_rfl
theorem by_117 : byOf Tryd.prog 117 = 8 := by kernel_rfl
theorem cells_118 : Tryd.prog.cellsOf 118 = 1 := by kernel_rfl
theorem ti_118 : TI Tryd.prog 118 = some (false, 1) := by kernel_rfl
theorem zv_118 : ZV Tryd.prog 118 = some (.any) := by kernel_rfl
theorem zok_118 : ZOk Tryd.prog 118 1 = true := by kernel_rfl
theorem by_118 : byOf Tryd.prog 118 = 8 := by kernel_rfl
theorem cells_119 : Tryd.prog.cellsOf 119 = 1 := by kernel_rfl
theorem ti_119 : TI Tryd.prog 119 = some (false, 1) := by kernel_rfl
theorem zv_119 : ZV Tryd.prog 119 = some (.any) := by kernel_rfl
theorem zok_119 : ZOk Tryd.prog 119 1 = true := by kernel_rfl
theorem by_119 : byOf Tryd.prog 119 = 8 := by kernel_rfl
theorem cells_120 : Tryd.prog.cellsOf 120 = 1 := by kernel_rfl
theorem ti_120 : TI Tryd.prog 120 = some (false, 1) := by kernel_rfl
theorem intK_120 : intK Tryd.prog 120 = some .u32 := by kernel_rfl
theorem un_120 : Tryd.prog.underlying 120 = some (.int .u32) := by kernel_rfl
theorem zv_120 : ZV Tryd.prog 120 = some (.int .u32 0) := by kernel_rfl
theorem zok_120 : ZOk Tryd.prog 120 1 = true := by kernel_rfl
theorem by_120 : byOf Tryd.prog 120 = 4 := by kernel_rfl
theorem cells_122 : Tryd.prog.cellsOf 122 = 1 := by kernel_rfl
theorem ti_122 : TI Tryd.prog 122 = some (false, 1) := by kernel_rfl
theorem zv_122 : ZV Tryd.prog 122 = some (.any) := by kernel_rfl
theorem zok_122 : ZOk Tryd.prog 122 1 = true := by kernel_rfl
theorem by_122 : byOf Tryd.prog 122 = 8 := by kernel_rfl
theorem cells_123 : Tryd.prog.cellsOf 123 = 1 := by kernel_rfl
theorem ti_123 : TI Tryd.prog 123 = some (false, 1) := by kernel_rfl
theorem intK_123 : intK Tryd.prog 123 = some .u64 := by kernel_rfl
theorem un_123 : Tryd.prog.underlying 123 = some (.int .u64) := by kernel_rfl
theorem zv_123 : ZV Tryd.prog 123 = some (.int .u64 0) := by kernel_rfl
theorem zok_123 : ZOk Tryd.prog 123 1 = true := by kernel_rfl
theorem by_123 : byOf Tryd.prog 123 = 8 := by kernel_rfl
theorem cells_125 : Tryd.prog.cellsOf 125 = 1 := by kernel_rfl
theorem ti_125 : TI Tryd.prog 125 = some (false, 1) := by kernel_rfl
theorem zv_125 : ZV Tryd.prog 125 = some (.any) := by kernel_rfl
theorem zok_125 : ZOk Tryd.prog 125 1 = true := by kernel_rfl
theorem by_125 : byOf Tryd.prog 125 = 8 := by kernel_rfl
theorem cells_126 : Tryd.prog.cellsOf 126 = 1 := by kernel_rfl
theorem ti_126 : TI Tryd.prog 126 = some (false, 1) := by kernel_rfl
theorem isPtr_126 : isPtr Tryd.prog 126 = true := by kernel_rfl
theorem zv_126 : ZV Tryd.prog 126 = some (.nilp) := by kernel_rfl
theorem zok_126 : ZOk Tryd.prog 126 1 = true := by kernel_rfl
theorem by_126 : byOf Tryd.prog 126 = 8 := by kernel_rfl
theorem cells_129 : Tryd.prog.cellsOf 129 = 1 := by kernel_rfl
theorem ti_129 : TI Tryd.prog 129 = some (false, 1) := by kernel_rfl
theorem zv_129 : ZV Tryd.prog 129 = some (.any) := by kernel_rfl
theorem zok_129 : ZOk Tryd.prog 129 1 = true := by kernel_rfl
theorem by_129 : byOf Tryd.prog 129 = 8 := by kernel_rfl
theorem cells_130 : Tryd.prog.cellsOf 130 = 24 := by kernel_rfl
theorem ti_130 : TI Tryd.prog 130 = some (true, 24) := by kernel_rfl
theorem ai_130 : AI Tryd.prog 130 = some (24, (false, 1)) := by kernel_rfl
theorem zv_130 : ZV Tryd.prog 130 = some (.agg [.int .u8 0, .int .u8 0, .int .u8 0, .int .u8 0, .int .u8 0, .int .u8 0, .int .u8 0, .int .u8 0, .int .u8 0, .int .u8 0, .int .u8 0, .int .u8 0, .int .u8 0, .int .u8 0, .int .u8 0, .int .u8 0, .int .u8 0, .int .u8 0, .int .u8 0, .int .u8 0, .int .u8 0, .int .u8 0, .int .u8 0, .int .u8 0]) := by kernel_rfl
theorem zok_130 : ZOk Tryd.prog 130 24 = true := by kernel_rfl
theorem by_130 : byOf Tryd.prog 130 = 24 := by kernel_rfl
theorem cells_131 : Tryd.prog.cellsOf 131 = 1 := by kernel_rfl
theorem ti_131 : TI Tryd.prog 131 = some (false, 1) := by kernel_rfl
theorem zv_131 : ZV Tryd.prog 131 = some (.any) := by kernel_rfl
theorem zok_131 : ZOk Tryd.prog 131 1 = true := by kernel_rfl
theorem by_131 : byOf Tryd.prog 131 = 8 := by kernel_rfl
theorem cells_132 : Tryd.prog.cellsOf 132 = 1 := by kernel_rfl
theorem ti_132 : TI Tryd.prog 132 = some (false, 1) := by kernel_rfl
theorem zv_132 : ZV Tryd.prog 132 = some (.any) := by kernel_rfl
theorem zok_132 : ZOk Tryd.prog 132 1 = true := by kernel_rfl
theorem by_132 : byOf Tryd.prog 132 = 8 := by kernel_rfl
theorem cells_134 : Tryd.prog.cellsOf 134 = 1 := by kernel_rfl
theorem ti_134 : TI Tryd.prog 134 = some (false, 1) := by kernel_rfl
theorem zv_134 : ZV Tryd.prog 134 = some (.any) := by kernel_rfl
theorem zok_134 : ZOk Tryd.prog 134 1 = true := by kernel_rfl
theorem by_134 : byOf Tryd.prog 134 = 8 := by kernel_rfl
theorem cells_135 : Tryd.prog.cellsOf 135 = 1 := by kernel_rfl
theorem ti_135 : TI Tryd.prog 135 = some (false, 1) := by kernel_rfl
theorem zv_135 : ZV Tryd.prog 135 = some (.any) := by kernel_rfl
theorem zok_135 : ZOk Tryd.prog 135 1 = true := by kernel_rfl
theorem by_135 : byOf Tryd.prog 135 = 8 := by kernel_rfl
theorem cells_136 : Tryd.prog.cellsOf 136 = 20 := by kernel_rfl
theorem ti_136 : TI Tryd.prog 136 = some (true, 20) := by kernel_rfl
theorem ai_136 : AI Tryd.prog 136 = some (20, (false, 1)) := by kernel_rfl
theorem zv_136 : ZV Tryd.prog 136 = some (.agg [.int .u64 0, .int .u64 0, .int .u64 0, .int .u64 0, .int .u64 0, .int .u64 0, .int .u64 0, .int .u64 0, .int .u64 0, .int .u64 0, .int .u64 0, .int .u64 0, .int .u64 0, .int .u64 0, .int .u64 0, .int .u64 0, .int .u64 0, .int .u64 0, .int .u64 0, .int .u64 0]) := by kernel_rfl
theorem zok_136 : ZOk Tryd.prog 136 20 = true := by kernel_rfl
theorem by_136 : byOf Tryd.prog 136 = 160 := by kernel_rfl
theorem cells_137 : Tryd.prog.cellsOf 137 = 65 := by kernel_rfl
theorem ti_137 : TI Tryd.prog 137 = some (true, 65) := by kernel_rfl
theorem ai_137 : AI Tryd.prog 137 = some (65, (false, 1)) := by kernel_rfl
theorem zv_137 : ZV Tryd.prog 137 = some (.agg [.int .u8 0, .int .u8 0, .int .u8 0, .int .u8 0, .int .u8 0, .int .u8 0, .int .u8 0, .int .u8 0, .int .u8 0, .int .u8 0, .int .u8 0, .int .u8 0, .int .u8 0, .int .u8 0, .int .u8 0, .int .u8 0, .int .u8 0, .int .u8 0, .int .u8 0, .int .u8 0, .int .u8 0, .int .u8 0, .int .u8 0, .int .u8 0, .int .u8 0, .int .u8 0, .int .u8 0, .int .u8 0, .int .u8 0, .int .u8 0, .int .u8 0, .int .u8 0, .int .u8 0, .int .u8 0, .int .u8 0, .int .u8 0, .int .u8 0, .int .u8 0, .int .u8 0, .int .u8 0, .int .u8 0, .int .u8 0, .int .u8 0, .int .u8 0, .int .u8 0, .int .u8 0, .int .u8 0, .int .u8 0, .int .u8 0, .int .u8 0, .int .u8 0, .int .u8 0, .int .u8 0, .int .u8 0, .int .u8 0, .int .u8 0, .int .u8 0, .int .u8 0, .int .u8 0, .int .u8 0, .int .u8 0, .int .u8 0, .int .u8 0, .int .u8 0, .int .u8 0]) := by kernel_rfl
theorem zok_137 : ZOk Tryd.prog 137 65 = true := by kernel_rfl
theorem by_137 : byOf Tryd.prog 137 = 65 := by kernel_rfl
theorem cells_138 : Tryd.prog.cellsOf 138 = 1 := by kernel_rfl
theorem ti_138 : TI Tryd.prog 138 = some (false, 1) := by kernel_rfl
theorem zv_138 : ZV Tryd.prog 138 = some (.any) := by kernel_rfl
theorem zok_138 : ZOk Tryd.prog 138 1 = true := by kernel_rfl
theorem by_138 : byOf Tryd.prog 138 = 8 := by kernel_rfl
theorem cells_139 : Tryd.prog.cellsOf 139 = 1 := by kernel_rfl
theorem ti_139 : TI Tryd.prog 139 = some (false, 1) := by kernel_rfl
theorem zv_139 : ZV Tryd.prog 139 = some (.any) := by kernel_rfl
theorem zok_139 : ZOk Tryd.prog 139 1 = true := by kernel_rfl
theorem by_139 : byOf Tryd.prog 139 = 8 := by kernel_rfl
theorem cells_140 : Tryd.prog.cellsOf 140 = 32 := by kernel_rfl
theorem ti_140 : TI Tryd.prog 140 = some (true, 32) := by kernel_rfl
theorem ai_140 : AI Tryd.prog 140 = some (32, (false, 1)) := by kernel_rfl
theorem zv_140 : ZV Tryd.prog 140 = some (.agg [.int .u8 0, .int .u8 0, .int .u8 0, .int .u8 0, .int .u8 0, .int .u8 0, .int .u8 0, .int .u8 0, .int .u8 0, .int .u8 0, .int .u8 0, .int .u8 0, .int .u8 0, .int .u8 0, .int .u8 0, .int .u8 0, .int .u8 0, .int .u8 0, .int .u8 0, .int .u8 0, .int .u8 0, .int .u8 0, .int .u8 0, .int .u8 0, .int .u8 0, .int .u8 0, .int .u8 0, .int .u8 0, .int .u8 0, .int .u8 0, .int .u8 0, .int .u8 0]) := by kernel_rfl
theorem zok_140 : ZOk Tryd.prog 140 32 = true := by kernel_rfl
theorem by_140 : byOf Tryd.prog 140 = 32 := by kernel_rfl
theorem cells_141 : Tryd.prog.cellsOf 141 = 64 := by kernel_rfl
theorem ti_141 : TI Tryd.prog 141 = some (true, 64) := by kernel_rfl
theorem ai_141 : AI Tryd.prog 141 = some (64, (false, 1)) := by kernel_rfl
theorem zv_141 : ZV Tryd.prog 141 = some (.agg [.int .u8 0, .int .u8 0, .int .u8 0, .int .u8 0, .int .u8 0, .int .u8 0, .int .u8 0, .int .u8 0, .int .u8 0, .int .u8 0, .int .u8 0, .int .u8 0, .int .u8 0, .int .u8 0, .int .u8 0, .int .u8 0, .int .u8 0, .int .u8 0, .int .u8 0, .int .u8 0, .int .u8 0, .int .u8 0, .int .u8 0, .int .u8 0, .int .u8 0, .int .u8 0, .int .u8 0, .int .u8 0, .int .u8 0, .int .u8 0, .int .u8 0, .int .u8 0, .int .u8 0, .int .u8 0, .int .u8 0, .int .u8 0, .int .u8 0, .int .u8 0, .int .u8 0, .int .u8 0, .int .u8 0, .int .u8 0, .int .u8 0, .int .u8 0, .int .u8 0, .int .u8 0, .int .u8 0, .int .u8 0, .int .u8 0, .int .u8 0, .int .u8 0, .int .u8 0, .int .u8 0, .int .u8 0, .int .u8 0, .int .u8 0, .int .u8 0, .int .u8 0, .int .u8 0, .int .u8 0, .int .u8 0, .int .u8 0, .int .u8 0, .int .u8 0]) := by kernel_rfl
theorem zok_141 : ZOk Tryd.prog 141 64 = true := by kernel_rfl
theorem by_141 : byOf Tryd.prog 141 = 64 := by kernel_rfl
theorem uns_1 : (Tryd.prog.underlying 1).isSome = true := by kernel_rfl
theorem tok_1 : TOk Tryd.prog 1 { ti := some (false, 1), zv := some (.any), zok := some 1, by' := some 8, un := true } := ⟨ti_1, trivial, trivial, trivial, trivial, zv_1, zok_1, by_1, trivial, trivial, trivial, trivial, trivial, trivial, uns_1, trivial⟩
theorem uns_2 : (Tryd.prog.underlying 2).isSome = true := by kernel_rfl
theorem tok_2 : TOk Tryd.prog 2 { ti := some (false, 1), zv := some (.int .i64 0), zok := some 1, by' := some 8, ik := some .i64, un := true } := ⟨ti_2, trivial, trivial, trivial, trivial, zv_2, zok_2, by_2, intK_2, trivial, trivial, trivial, trivial, trivial, uns_2, trivial⟩
theorem uns_3 : (Tryd.prog.underlying 3).isSome = true := by kernel_rfl
theorem tok_3 : TOk Tryd.prog 3 { ti := some (false, 1), zv := some (.int .i64 0), zok := some 1, by' := some 8, ik := some .i64, un := true } := ⟨ti_3, trivial, trivial, trivial, trivial, zv_3, zok_3, by_3, intK_3, trivial, trivial, trivial, trivial, trivial, uns_3, trivial⟩
theorem uns_4 : (Tryd.prog.underlying 4).isSome = true := by kernel_rfl
theorem tok_4 : TOk Tryd.prog 4 { ti := some (false, 1), zv := some (.bool false), zok := some 1, by' := some 1, boo := true, un := true } := ⟨ti_4, trivial, trivial, trivial, trivial, zv_4, zok_4, by_4, trivial, trivial, trivial, isBoo_4, trivial, trivial, uns_4, trivial⟩
theorem uns_5 : (Tryd.prog.underlying 5).isSome = true := by kernel_rfl
theorem tok_5 : TOk Tryd.prog 5 { ti := some (false, 1), zv := some (.int .u8 0), zok := some 1, by' := some 1, ik := some .u8, un := true } := ⟨ti_5, trivial, trivial, trivial, trivial, zv_5, zok_5, by_5, intK_5, trivial, trivial, trivial, trivial, trivial, uns_5, trivial⟩
theorem uns_9 : (Tryd.prog.underlying 9).isSome = true := by kernel_rfl
theorem tok_9 : TOk Tryd.prog 9 { ti := some (false, 1), zv := some (.str []), zok := some 1, by' := some 16, str := true, ni := true, un := true } := ⟨ti_9, trivial, trivial, trivial, trivial, zv_9, zok_9, by_9, trivial, isStr_9, trivial, trivial, trivial, notInt_9, uns_9, trivial⟩
theorem uns_12 : (Tryd.prog.underlying 12).isSome = true := by kernel_rfl
theorem tok_12 : TOk Tryd.prog 12 { ti := some (false, 1), zv := some (.int .u64 0), zok := some 1, by' := some 8, ik := some .u64, un := true } := ⟨ti_12, trivial, trivial, trivial, trivial, zv_12, zok_12, by_12, intK_12, trivial, trivial, trivial, trivial, trivial, uns_12, trivial⟩
theorem uns_13 : (Tryd.prog.underlying 13).isSome = true := by kernel_rfl
theorem tok_13 : TOk Tryd.prog 13 { ti := some (true, 2), fi := [some (0, (false, 1)), some (1, (false, 1))], si := some [(0, 1), (1, 1)], zv := some (.agg [.str [], .int .u64 0]), zok := some 2, by' := some 24, un := true } := ⟨ti_13, trivial, trivial, ⟨fi_13_0, fi_13_1, trivial⟩, si_13, zv_13, zok_13, by_13, trivial, trivial, trivial, trivial, trivial, trivial, uns_13, trivial⟩
theorem uns_21 : (Tryd.prog.underlying 21).isSome = true := by kernel_rfl
theorem tok_21 : TOk Tryd.prog 21 { ti := some (false, 1), zv := some (.int .i32 0), zok := some 1, by' := some 4, ik := some .i32, un := true } := ⟨ti_21, trivial, trivial, trivial, trivial, zv_21, zok_21, by_21, intK_21, trivial, trivial, trivial, trivial, trivial, uns_21, trivial⟩
theorem uns_22 : (Tryd.prog.underlying 22).isSome = true := by kernel_rfl
theorem tok_22 : TOk Tryd.prog 22 { ti := some (false, 1), ei := some (46, 5), zv := some (.nils), zok := some 1, by' := some 24, sli := true, ni := true, un := true } := ⟨ti_22, ei_22, trivial, trivial, trivial, zv_22, zok_22, by_22, trivial, trivial, isSli_22, trivial, trivial, notInt_22, uns_22, trivial⟩
theorem uns_23 : (Tryd.prog.underlying 23).isSome = true := by kernel_rfl
theorem tok_23 : TOk Tryd.prog 23 { ti := some (false, 1), ei := some (54, 4), zv := some (.nils), zok := some 1, by' := some 24, sli := true, ni := true, un := true } := ⟨ti_23, ei_23, trivial, trivial, trivial, zv_23, zok_23, by_23, trivial, trivial, isSli_23, trivial, trivial, notInt_23, uns_23, trivial⟩
theorem uns_24 : (Tryd.prog.underlying 24).isSome = true := by kernel_rfl
theorem tok_24 : TOk Tryd.prog 24 { ti := some (false, 1), zv := some (.int .i64 0), zok := some 1, by' := some 8, ik := some .i64, un := true } := ⟨ti_24, trivial, trivial, trivial, trivial, zv_24, zok_24, by_24, intK_24, trivial, trivial, trivial, trivial, trivial, uns_24, trivial⟩
theorem uns_26 : (Tryd.prog.underlying 26).isSome = true := by kernel_rfl
theorem tok_26 : TOk Tryd.prog 26 { ti := some (false, 1), zv := some (.any), zok := some 1, by' := some 8, un := true } := ⟨ti_26, trivial, trivial, trivial, trivial, zv_26, zok_26, by_26, trivial, trivial, trivial, trivial, trivial, trivial, uns_26, trivial⟩
theorem uns_27 : (Tryd.prog.underlying 27).isSome = true := by kernel_rfl
theorem tok_27 : TOk Tryd.prog 27 { ti := some (false, 1), zv := some (.any), zok := some 1, by' := some 8, un := true } := ⟨ti_27, trivial, trivial, trivial, trivial, zv_27, zok_27, by_27, trivial, trivial, trivial, trivial, trivial, trivial, uns_27, trivial⟩
theorem uns_28 : (Tryd.prog.underlying 28).isSome = true := by kernel_rfl
theorem tok_28 : TOk Tryd.prog 28 { ti := some (false, 1), zv := some (.any), zok := some 1, by' := some 8, un := true } := ⟨ti_28, trivial, trivial, trivial, trivial, zv_28, zok_28, by_28, trivial, trivial, trivial, trivial, trivial, trivial, uns_28, trivial⟩
theorem uns_29 : (Tryd.prog.underlying 29).isSome = true := by kernel_rfl
theorem tok_29 : TOk Tryd.prog 29 { ti := some (false, 1), ei := some (76, 1), zv := some (.nils), zok := some 1, by' := some 24, sli := true, ni := true, un := true } := ⟨ti_29, ei_29, trivial, trivial, trivial, zv_29, zok_29, by_29, trivial, trivial, isSli_29, trivial, trivial, notInt_29, uns_29, trivial⟩
theorem uns_30 : (Tryd.prog.underlying 30).isSome = true := by kernel_rfl
theorem tok_30 : TOk Tryd.prog 30 { ti := some (false, 1), ei := some (4, 1), zv := some (.nils), zok := some 1, by' := some 24, sli := true, ni := true, un := true } := ⟨ti_30, ei_30, trivial, trivial, trivial, zv_30, zok_30, by_30, trivial, trivial, isSli_30, trivial, trivial, notInt_30, uns_30, trivial⟩
theorem uns_31 : (Tryd.prog.underlying 31).isSome = true := by kernel_rfl
theorem tok_31 : TOk Tryd.prog 31 { ti := some (true, 2), fi := [some (0, (false, 1)), some (1, (false, 1))], si := some [(0, 1), (1, 1)], zv := some (.agg [.nils, .nils]), zok := some 2, by' := some 48, un := true } := ⟨ti_31, trivial, trivial, ⟨fi_31_0, fi_31_1, trivial⟩, si_31, zv_31, zok_31, by_31, trivial, trivial, trivial, trivial, trivial, trivial, uns_31, trivial⟩
theorem uns_32 : (Tryd.prog.underlying 32).isSome = true := by kernel_rfl
theorem tok_32 : TOk Tryd.prog 32 { ti := some (true, 2), fi := [some (0, (false, 1)), some (1, (false, 1))], si := some [(0, 1), (1, 1)], zv := some (.agg [.nils, .nils]), zok := some 2, by' := some 48, un := true } := ⟨ti_32, trivial, trivial, ⟨fi_32_0, fi_32_1, trivial⟩, si_32, zv_32, zok_32, by_32, trivial, trivial, trivial, trivial, trivial, trivial, uns_32, trivial⟩
theorem uns_34 : (Tryd.prog.underlying 34).isSome = true := by kernel_rfl
theorem tok_34 : TOk Tryd.prog 34 { ti := some (false, 1), zv := some (.any), zok := some 1, by' := some 8, un := true } := ⟨ti_34, trivial, trivial, trivial, trivial, zv_34, zok_34, by_34, trivial, trivial, trivial, trivial, trivial, trivial, uns_34, trivial⟩
theorem uns_35 : (Tryd.prog.underlying 35).isSome = true := by kernel_rfl
theorem tok_35 : TOk Tryd.prog 35 { ti := some (false, 1), zv := some (.any), zok := some 1, by' := some 8, un := true } := ⟨ti_35, trivial, trivial, trivial, trivial, zv_35, zok_35, by_35, trivial, trivial, trivial, trivial, trivial, trivial, uns_35, trivial⟩
theorem uns_36 : (Tryd.prog.underlying 36).isSome = true := by kernel_rfl
theorem tok_36 : TOk Tryd.prog 36 { ti := some (false, 1), zv := some (.nilp), zok := some 1, by' := some 8, ptr := true, un := true } := ⟨ti_36, trivial, trivial, trivial, trivial, zv_36, zok_36, by_36, trivial, trivial, trivial, trivial, isPtr_36, trivial, uns_36, trivial⟩
theorem uns_37 : (Tryd.prog.underlying 37).isSome = true := by kernel_rfl
theorem tok_37 : TOk Tryd.prog 37 { ti := some (false, 1), zv := some (.nilp), zok := some 1, by' := some 8, ptr := true, un := true } := ⟨ti_37, trivial, trivial, trivial, trivial, zv_37, zok_37, by_37, trivial, trivial, trivial, trivial, isPtr_37, trivial, uns_37, trivial⟩
theorem uns_38 : (Tryd.prog.underlying 38).isSome = true := by kernel_rfl
theorem tok_38 : TOk Tryd.prog 38 { ti := some (false, 1), zv := some (.nilp), zok := some 1, by' := some 8, ptr := true, un := true } := ⟨ti_38, trivial, trivial, trivial, trivial, zv_38, zok_38, by_38, trivial, trivial, trivial, trivial, isPtr_38, trivial, uns_38, trivial⟩
theorem uns_39 : (Tryd.prog.underlying 39).isSome = true := by kernel_rfl
theorem tok_39 : TOk Tryd.prog 39 { ti := some (false, 1), ei := some (37, 1), zv := some (.nils), zok := some 1, by' := some 24, sli := true, ni := true, un := true } := ⟨ti_39, ei_39, trivial, trivial, trivial, zv_39, zok_39, by_39, trivial, trivial, isSli_39, trivial, trivial, notInt_39, uns_39, trivial⟩
theorem uns_40 : (Tryd.prog.underlying 40).isSome = true := by kernel_rfl
theorem tok_40 : TOk Tryd.prog 40 { ti := some (true, 4), fi := [some (0, (false, 1)), some (1, (false, 1)), some (2, (false, 1)), some (3, (false, 1))], si := some [(0, 1), (1, 1), (2, 1), (3, 1)], zv := some (.agg [.nilp, .nils, .str [], .bool false]), zok := some 4, by' := some 56, un := true } := ⟨ti_40, trivial, trivial, ⟨fi_40_0, fi_40_1, fi_40_2, fi_40_3, trivial⟩, si_40, zv_40, zok_40, by_40, trivial, trivial, trivial, trivial, trivial, trivial, uns_40, trivial⟩
theorem uns_41 : (Tryd.prog.underlying 41).isSome = true := by kernel_rfl
theorem tok_41 : TOk Tryd.prog 41 { ti := some (true, 4), fi := [some (0, (false, 1)), some (1, (false, 1)), some (2, (false, 1)), some (3, (false, 1))], si := some [(0, 1), (1, 1), (2, 1), (3, 1)], zv := some (.agg [.nilp, .nils, .str [], .bool false]), zok := some 4, by' := some 56, un := true } := ⟨ti_41, trivial, trivial, ⟨fi_41_0, fi_41_1, fi_41_2, fi_41_3, trivial⟩, si_41, zv_41, zok_41, by_41, trivial, trivial, trivial, trivial, trivial, trivial, uns_41, trivial⟩
theorem uns_42 : (Tryd.prog.underlying 42).isSome = true := by kernel_rfl
theorem tok_42 : TOk Tryd.prog 42 { ti := some (true, 4), fi := [some (0, (false, 1)), some (1, (false, 1)), some (2, (false, 1)), some (3, (false, 1))], si := some [(0, 1), (1, 1), (2, 1), (3, 1)], zv := some (.agg [.nilp, .nils, .int .i64 0, .str []]), zok := some 4, by' := some 56, un := true } := ⟨ti_42, trivial, trivial, ⟨fi_42_0, fi_42_1, fi_42_2, fi_42_3, trivial⟩, si_42, zv_42, zok_42, by_42, trivial, trivial, trivial, trivial, trivial, trivial, uns_42, trivial⟩
theorem uns_43 : (Tryd.prog.underlying 43).isSome = true := by kernel_rfl
theorem tok_43 : TOk Tryd.prog 43 { ti := some (true, 4), fi := [some (0, (false, 1)), some (1, (false, 1)), some (2, (false, 1)), some (3, (false, 1))], si := some [(0, 1), (1, 1), (2, 1), (3, 1)], zv := some (.agg [.nilp, .nils, .int .i64 0, .str []]), zok := some 4, by' := some 56, un := true } := ⟨ti_43, trivial, trivial, ⟨fi_43_0, fi_43_1, fi_43_2, fi_43_3, trivial⟩, si_43, zv_43, zok_43, by_43, trivial, trivial, trivial, trivial, trivial, trivial, uns_43, trivial⟩
theorem uns_44 : (Tryd.prog.underlying 44).isSome = true := by kernel_rfl
theorem tok_44 : TOk Tryd.prog 44 { ti := some (false, 1), ei := some (82, 2), zv := some (.nils), zok := some 1, by' := some 24, sli := true, ni := true, un := true } := ⟨ti_44, ei_44, trivial, trivial, trivial, zv_44, zok_44, by_44, trivial, trivial, isSli_44, trivial, trivial, notInt_44, uns_44, trivial⟩
theorem uns_45 : (Tryd.prog.underlying 45).isSome = true := by kernel_rfl
theorem tok_45 : TOk Tryd.prog 45 { ti := some (true, 5), fi := [some (0, (false, 1)), some (1, (false, 1)), some (2, (false, 1)), some (3, (false, 1)), some (4, (false, 1))], si := some [(0, 1), (1, 1), (2, 1), (3, 1), (4, 1)], zv := some (.agg [.int .i64 0, .str [], .nils, .bool false, .str []]), zok := some 5, by' := some 72, un := true } := ⟨ti_45, trivial, trivial, ⟨fi_45_0, fi_45_1, fi_45_2, fi_45_3, fi_45_4, trivial⟩, si_45, zv_45, zok_45, by_45, trivial, trivial, trivial, trivial, trivial, trivial, uns_45, trivial⟩
theorem uns_46 : (Tryd.prog.underlying 46).isSome = true := by kernel_rfl
theorem tok_46 : TOk Tryd.prog 46 { ti := some (true, 5), fi := [some (0, (false, 1)), some (1, (false, 1)), some (2, (false, 1)), some (3, (false, 1)), some (4, (false, 1))], si := some [(0, 1), (1, 1), (2, 1), (3, 1), (4, 1)], zv := some (.agg [.int .i64 0, .str [], .nils, .bool false, .str []]), zok := some 5, by' := some 72, un := true } := ⟨ti_46, trivial, trivial, ⟨fi_46_0, fi_46_1, fi_46_2, fi_46_3, fi_46_4, trivial⟩, si_46, zv_46, zok_46, by_46, trivial, trivial, trivial, trivial, trivial, trivial, uns_46, trivial⟩
theorem uns_47 : (Tryd.prog.underlying 47).isSome = true := by kernel_rfl
theorem tok_47 : TOk Tryd.prog 47 { ti := some (false, 1), zv := some (.any), zok := some 1, by' := some 8, un := true } := ⟨ti_47, trivial, trivial, trivial, trivial, zv_47, zok_47, by_47, trivial, trivial, trivial, trivial, trivial, trivial, uns_47, trivial⟩
theorem uns_48 : (Tryd.prog.underlying 48).isSome = true := by kernel_rfl
theorem tok_48 : TOk Tryd.prog 48 { ti := some (false, 1), zv := some (.any), zok := some 1, by' := some 8, un := true } := ⟨ti_48, trivial, trivial, trivial, trivial, zv_48, zok_48, by_48, trivial, trivial, trivial, trivial, trivial, trivial, uns_48, trivial⟩
theorem uns_49 : (Tryd.prog.underlying 49).isSome = true := by kernel_rfl
theorem tok_49 : TOk Tryd.prog 49 { ti := some (false, 1), zv := some (.any), zok := some 1, by' := some 8, un := true } := ⟨ti_49, trivial, trivial, trivial, trivial, zv_49, zok_49, by_49, trivial, trivial, trivial, trivial, trivial, trivial, uns_49, trivial⟩
theorem uns_50 : (Tryd.prog.underlying 50).isSome = true := by kernel_rfl
theorem tok_50 : TOk Tryd.prog 50 { ti := some (false, 1), zv := some (.any), zok := some 1, by' := some 8, un := true } := ⟨ti_50, trivial, trivial, trivial, trivial, zv_50, zok_50, by_50, trivial, trivial, trivial, trivial, trivial, trivial, uns_50, trivial⟩
theorem uns_51 : (Tryd.prog.underlying 51).isSome = true := by kernel_rfl
theorem tok_51 : TOk Tryd.prog 51 { ti := some (false, 1), zv := some (.any), zok := some 1, by' := some 8, un := true } := ⟨ti_51, trivial, trivial, trivial, trivial, zv_51, zok_51, by_51, trivial, trivial, trivial, trivial, trivial, trivial, uns_51, trivial⟩
theorem uns_52 : (Tryd.prog.underlying 52).isSome = true := by kernel_rfl
theorem tok_52 : TOk Tryd.prog 52 { ti := some (false, 1), ei := some (56, 7), zv := some (.nils), zok := some 1, by' := some 24, sli := true, ni := true, un := true } := ⟨ti_52, ei_52, trivial, trivial, trivial, zv_52, zok_52, by_52, trivial, trivial, isSli_52, trivial, trivial, notInt_52, uns_52, trivial⟩
theorem uns_53 : (Tryd.prog.underlying 53).isSome = true := by kernel_rfl
theorem tok_53 : TOk Tryd.prog 53 { ti := some (true, 4), fi := [some (0, (false, 1)), some (1, (false, 1)), some (2, (false, 1)), some (3, (false, 1))], si := some [(0, 1), (1, 1), (2, 1), (3, 1)], zv := some (.agg [.str [], .nils, .str [], .nils]), zok := some 4, by' := some 80, un := true } := ⟨ti_53, trivial, trivial, ⟨fi_53_0, fi_53_1, fi_53_2, fi_53_3, trivial⟩, si_53, zv_53, zok_53, by_53, trivial, trivial, trivial, trivial, trivial, trivial, uns_53, trivial⟩
theorem uns_54 : (Tryd.prog.underlying 54).isSome = true := by kernel_rfl
theorem tok_54 : TOk Tryd.prog 54 { ti := some (true, 4), fi := [some (0, (false, 1)), some (1, (false, 1)), some (2, (false, 1)), some (3, (false, 1))], si := some [(0, 1), (1, 1), (2, 1), (3, 1)], zv := some (.agg [.str [], .nils, .str [], .nils]), zok := some 4, by' := some 80, un := true } := ⟨ti_54, trivial, trivial, ⟨fi_54_0, fi_54_1, fi_54_2, fi_54_3, trivial⟩, si_54, zv_54, zok_54, by_54, trivial, trivial, trivial, trivial, trivial, trivial, uns_54, trivial⟩
theorem uns_55 : (Tryd.prog.underlying 55).isSome = true := by kernel_rfl
theorem tok_55 : TOk Tryd.prog 55 { ti := some (true, 7), fi := [some (0, (false, 1)), some (1, (true, 4)), some (5, (false, 1)), some (6, (false, 1))], si := some [(0, 1), (1, 4), (5, 1), (6, 1)], zv := some (.agg [.int .i64 0, .str [], .nils, .str [], .nils, .bool false, .bool false]), zok := some 7, by' := some 96, un := true } := ⟨ti_55, trivial, trivial, ⟨fi_55_0, fi_55_1, fi_55_2, fi_55_3, trivial⟩, si_55, zv_55, zok_55, by_55, trivial, trivial, trivial, trivial, trivial, trivial, uns_55, trivial⟩
theorem uns_56 : (Tryd.prog.underlying 56).isSome = true := by kernel_rfl
theorem tok_56 : TOk Tryd.prog 56 { ti := some (true, 7), fi := [some (0, (false, 1)), some (1, (true, 4)), some (5, (false, 1)), some (6, (false, 1))], si := some [(0, 1), (1, 4), (5, 1), (6, 1)], zv := some (.agg [.int .i64 0, .str [], .nils, .str [], .nils, .bool false, .bool false]), zok := some 7, by' := some 96, un := true } := ⟨ti_56, trivial, trivial, ⟨fi_56_0, fi_56_1, fi_56_2, fi_56_3, trivial⟩, si_56, zv_56, zok_56, by_56, trivial, trivial, trivial, trivial, trivial, trivial, uns_56, trivial⟩
theorem uns_57 : (Tryd.prog.underlying 57).isSome = true := by kernel_rfl
theorem tok_57 : TOk Tryd.prog 57 { ti := some (false, 1), zv := some (.any), zok := some 1, by' := some 8, un := true } := ⟨ti_57, trivial, trivial, trivial, trivial, zv_57, zok_57, by_57, trivial, trivial, trivial, trivial, trivial, trivial, uns_57, trivial⟩
theorem uns_58 : (Tryd.prog.underlying 58).isSome = true := by kernel_rfl
theorem tok_58 : TOk Tryd.prog 58 { ti := some (false, 1), zv := some (.any), zok := some 1, by' := some 8, un := true } := ⟨ti_58, trivial, trivial, trivial, trivial, zv_58, zok_58, by_58, trivial, trivial, trivial, trivial, trivial, trivial, uns_58, trivial⟩
theorem uns_59 : (Tryd.prog.underlying 59).isSome = true := by kernel_rfl
theorem tok_59 : TOk Tryd.prog 59 { ti := some (false, 1), zv := some (.any), zok := some 1, by' := some 8, un := true } := ⟨ti_59, trivial, trivial, trivial, trivial, zv_59, zok_59, by_59, trivial, trivial, trivial, trivial, trivial, trivial, uns_59, trivial⟩
theorem uns_60 : (Tryd.prog.underlying 60).isSome = true := by kernel_rfl
theorem tok_60 : TOk Tryd.prog 60 { ti := some (false, 1), zv := some (.any), zok := some 1, by' := some 8, un := true } := ⟨ti_60, trivial, trivial, trivial, trivial, zv_60, zok_60, by_60, trivial, trivial, trivial, trivial, trivial, trivial, uns_60, trivial⟩
theorem uns_61 : (Tryd.prog.underlying 61).isSome = true := by kernel_rfl
theorem tok_61 : TOk Tryd.prog 61 { ti := some (false, 1), zv := some (.any), zok := some 1, by' := some 8, un := true } := ⟨ti_61, trivial, trivial, trivial, trivial, zv_61, zok_61, by_61, trivial, trivial, trivial, trivial, trivial, trivial, uns_61, trivial⟩
theorem uns_62 : (Tryd.prog.underlying 62).isSome = true := by kernel_rfl
theorem tok_62 : TOk Tryd.prog 62 { ti := some (false, 1), ei := some (69, 2), zv := some (.nils), zok := some 1, by' := some 24, sli := true, ni := true, un := true } := ⟨ti_62, ei_62, trivial, trivial, trivial, zv_62, zok_62, by_62, trivial, trivial, isSli_62, trivial, trivial, notInt_62, uns_62, trivial⟩
theorem uns_63 : (Tryd.prog.underlying 63).isSome = true := by kernel_rfl
theorem tok_63 : TOk Tryd.prog 63 { ti := some (false, 1), ei := some (90, 8), zv := some (.nils), zok := some 1, by' := some 24, sli := true, ni := true, un := true } := ⟨ti_63, ei_63, trivial, trivial, trivial, zv_63, zok_63, by_63, trivial, trivial, isSli_63, trivial, trivial, notInt_63, uns_63, trivial⟩
theorem uns_65 : (Tryd.prog.underlying 65).isSome = true := by kernel_rfl
theorem tok_65 : TOk Tryd.prog 65 { ti := some (false, 1), zv := some (.any), zok := some 1, by' := some 8, un := true } := ⟨ti_65, trivial, trivial, trivial, trivial, zv_65, zok_65, by_65, trivial, trivial, trivial, trivial, trivial, trivial, uns_65, trivial⟩
theorem uns_66 : (Tryd.prog.underlying 66).isSome = true := by kernel_rfl
theorem tok_66 : TOk Tryd.prog 66 { ti := some (true, 2), fi := [some (0, (false, 1)), some (1, (false, 1))], si := some [(0, 1), (1, 1)], zv := some (.agg [.nils, .nils]), zok := some 2, by' := some 48, un := true } := ⟨ti_66, trivial, trivial, ⟨fi_66_0, fi_66_1, trivial⟩, si_66, zv_66, zok_66, by_66, trivial, trivial, trivial, trivial, trivial, trivial, uns_66, trivial⟩
theorem uns_67 : (Tryd.prog.underlying 67).isSome = true := by kernel_rfl
theorem tok_67 : TOk Tryd.prog 67 { ti := some (true, 2), fi := [some (0, (false, 1)), some (1, (false, 1))], si := some [(0, 1), (1, 1)], zv := some (.agg [.nils, .nils]), zok := some 2, by' := some 48, un := true } := ⟨ti_67, trivial, trivial, ⟨fi_67_0, fi_67_1, trivial⟩, si_67, zv_67, zok_67, by_67, trivial, trivial, trivial, trivial, trivial, trivial, uns_67, trivial⟩
theorem uns_68 : (Tryd.prog.underlying 68).isSome = true := by kernel_rfl
theorem tok_68 : TOk Tryd.prog 68 { ti := some (true, 2), fi := [some (0, (false, 1)), some (1, (false, 1))], si := some [(0, 1), (1, 1)], zv := some (.agg [.int .i64 0, .int .i64 0]), zok := some 2, by' := some 16, un := true } := ⟨ti_68, trivial, trivial, ⟨fi_68_0, fi_68_1, trivial⟩, si_68, zv_68, zok_68, by_68, trivial, trivial, trivial, trivial, trivial, trivial, uns_68, trivial⟩
theorem sq_69 : SQ Tryd.prog 69 = some [.i .i64, .i .i64] := by kernel_rfl
theorem uns_69 : (Tryd.prog.underlying 69).isSome = true := by kernel_rfl
theorem tok_69 : TOk Tryd.prog 69 { ti := some (true, 2), fi := [some (0, (false, 1)), some (1, (false, 1))], si := some [(0, 1), (1, 1)], zv := some (.agg [.int .i64 0, .int .i64 0]), zok := some 2, by' := some 16, un := true, sq := some [.i .i64, .i .i64] } := ⟨ti_69, trivial, trivial, ⟨fi_69_0, fi_69_1, trivial⟩, si_69, zv_69, zok_69, by_69, trivial, trivial, trivial, trivial, trivial, trivial, uns_69, sq_69⟩
theorem uns_70 : (Tryd.prog.underlying 70).isSome = true := by kernel_rfl
theorem tok_70 : TOk Tryd.prog 70 { ti := some (false, 1), zv := some (.any), zok := some 1, by' := some 8, un := true } := ⟨ti_70, trivial, trivial, trivial, trivial, zv_70, zok_70, by_70, trivial, trivial, trivial, trivial, trivial, trivial, uns_70, trivial⟩
theorem uns_71 : (Tryd.prog.underlying 71).isSome = true := by kernel_rfl
theorem tok_71 : TOk Tryd.prog 71 { ti := some (false, 1), zv := some (.any), zok := some 1, by' := some 8, un := true } := ⟨ti_71, trivial, trivial, trivial, trivial, zv_71, zok_71, by_71, trivial, trivial, trivial, trivial, trivial, trivial, uns_71, trivial⟩
theorem uns_72 : (Tryd.prog.underlying 72).isSome = true := by kernel_rfl
theorem tok_72 : TOk Tryd.prog 72 { ti := some (true, 2), fi := [some (0, (false, 1)), some (1, (false, 1))], si := some [(0, 1), (1, 1)], zv := some (.agg [.nils, .nils]), zok := some 2, by' := some 48, un := true } := ⟨ti_72, trivial, trivial, ⟨fi_72_0, fi_72_1, trivial⟩, si_72, zv_72, zok_72, by_72, trivial, trivial, trivial, trivial, trivial, trivial, uns_72, trivial⟩
theorem uns_73 : (Tryd.prog.underlying 73).isSome = true := by kernel_rfl
theorem tok_73 : TOk Tryd.prog 73 { ti := some (true, 2), fi := [some (0, (false, 1)), some (1, (false, 1))], si := some [(0, 1), (1, 1)], zv := some (.agg [.nils, .nils]), zok := some 2, by' := some 48, un := true } := ⟨ti_73, trivial, trivial, ⟨fi_73_0, fi_73_1, trivial⟩, si_73, zv_73, zok_73, by_73, trivial, trivial, trivial, trivial, trivial, trivial, uns_73, trivial⟩
theorem uns_74 : (Tryd.prog.underlying 74).isSome = true := by kernel_rfl
theorem tok_74 : TOk Tryd.prog 74 { ti := some (false, 1), zv := some (.any), zok := some 1, by' := some 8, un := true } := ⟨ti_74, trivial, trivial, trivial, trivial, zv_74, zok_74, by_74, trivial, trivial, trivial, trivial, trivial, trivial, uns_74, trivial⟩
theorem uns_75 : (Tryd.prog.underlying 75).isSome = true := by kernel_rfl
theorem tok_75 : TOk Tryd.prog 75 { ti := some (false, 1), zv := some (.any), zok := some 1, by' := some 8, un := true } := ⟨ti_75, trivial, trivial, trivial, trivial, zv_75, zok_75, by_75, trivial, trivial, trivial, trivial, trivial, trivial, uns_75, trivial⟩
theorem uns_76 : (Tryd.prog.underlying 76).isSome = true := by kernel_rfl
theorem tok_76 : TOk Tryd.prog 76 { ti := some (false, 1), ei := some (3, 1), zv := some (.nils), zok := some 1, by' := some 24, sli := true, ni := true, un := true } := ⟨ti_76, ei_76, trivial, trivial, trivial, zv_76, zok_76, by_76, trivial, trivial, isSli_76, trivial, trivial, notInt_76, uns_76, trivial⟩
theorem uns_77 : (Tryd.prog.underlying 77).isSome = true := by kernel_rfl
theorem tok_77 : TOk Tryd.prog 77 { ti := some (false, 1), zv := some (.any), zok := some 1, by' := some 8, un := true } := ⟨ti_77, trivial, trivial, trivial, trivial, zv_77, zok_77, by_77, trivial, trivial, trivial, trivial, trivial, trivial, uns_77, trivial⟩
theorem uns_78 : (Tryd.prog.underlying 78).isSome = true := by kernel_rfl
theorem tok_78 : TOk Tryd.prog 78 { ti := some (false, 1), ei := some (9, 1), zv := some (.nils), zok := some 1, by' := some 24, sli := true, ni := true, un := true } := ⟨ti_78, ei_78, trivial, trivial, trivial, zv_78, zok_78, by_78, trivial, trivial, isSli_78, trivial, trivial, notInt_78, uns_78, trivial⟩
theorem uns_79 : (Tryd.prog.underlying 79).isSome = true := by kernel_rfl
theorem tok_79 : TOk Tryd.prog 79 { ti := some (true, 9), ai := some (9, (false, 1)), zv := some (.agg [.str [], .str [], .str [], .str [], .str [], .str [], .str [], .str [], .str []]), zok := some 9, by' := some 144, un := true } := ⟨ti_79, trivial, ai_79, trivial, trivial, zv_79, zok_79, by_79, trivial, trivial, trivial, trivial, trivial, trivial, uns_79, trivial⟩
theorem uns_80 : (Tryd.prog.underlying 80).isSome = true := by kernel_rfl
theorem tok_80 : TOk Tryd.prog 80 { ti := some (false, 1), zv := some (.any), zok := some 1, by' := some 8, un := true } := ⟨ti_80, trivial, trivial, trivial, trivial, zv_80, zok_80, by_80, trivial, trivial, trivial, trivial, trivial, trivial, uns_80, trivial⟩
theorem uns_81 : (Tryd.prog.underlying 81).isSome = true := by kernel_rfl
theorem tok_81 : TOk Tryd.prog 81 { ti := some (true, 2), fi := [some (0, (false, 1)), some (1, (false, 1))], si := some [(0, 1), (1, 1)], zv := some (.agg [.str [], .str []]), zok := some 2, by' := some 32, un := true } := ⟨ti_81, trivial, trivial, ⟨fi_81_0, fi_81_1, trivial⟩, si_81, zv_81, zok_81, by_81, trivial, trivial, trivial, trivial, trivial, trivial, uns_81, trivial⟩
theorem sq_82 : SQ Tryd.prog 82 = some [.s, .s] := by kernel_rfl
theorem uns_82 : (Tryd.prog.underlying 82).isSome = true := by kernel_rfl
theorem tok_82 : TOk Tryd.prog 82 { ti := some (true, 2), fi := [some (0, (false, 1)), some (1, (false, 1))], si := some [(0, 1), (1, 1)], zv := some (.agg [.str [], .str []]), zok := some 2, by' := some 32, un := true, sq := some [.s, .s] } := ⟨ti_82, trivial, trivial, ⟨fi_82_0, fi_82_1, trivial⟩, si_82, zv_82, zok_82, by_82, trivial, trivial, trivial, trivial, trivial, trivial, uns_82, sq_82⟩
theorem uns_83 : (Tryd.prog.underlying 83).isSome = true := by kernel_rfl
theorem tok_83 : TOk Tryd.prog 83 { ti := some (false, 1), zv := some (.any), zok := some 1, by' := some 8, un := true } := ⟨ti_83, trivial, trivial, trivial, trivial, zv_83, zok_83, by_83, trivial, trivial, trivial, trivial, trivial, trivial, uns_83, trivial⟩
theorem uns_84 : (Tryd.prog.underlying 84).isSome = true := by kernel_rfl
theorem tok_84 : TOk Tryd.prog 84 { ti := some (true, 4), ai := some (4, (false, 1)), zv := some (.agg [.str [], .str [], .str [], .str []]), zok := some 4, by' := some 64, un := true } := ⟨ti_84, trivial, ai_84, trivial, trivial, zv_84, zok_84, by_84, trivial, trivial, trivial, trivial, trivial, trivial, uns_84, trivial⟩
theorem uns_85 : (Tryd.prog.underlying 85).isSome = true := by kernel_rfl
theorem tok_85 : TOk Tryd.prog 85 { ti := some (false, 1), zv := some (.any), zok := some 1, by' := some 8, un := true } := ⟨ti_85, trivial, trivial, trivial, trivial, zv_85, zok_85, by_85, trivial, trivial, trivial, trivial, trivial, trivial, uns_85, trivial⟩
theorem uns_86 : (Tryd.prog.underlying 86).isSome = true := by kernel_rfl
theorem tok_86 : TOk Tryd.prog 86 { ti := some (false, 1), zv := some (.any), zok := some 1, by' := some 8, un := true } := ⟨ti_86, trivial, trivial, trivial, trivial, zv_86, zok_86, by_86, trivial, trivial, trivial, trivial, trivial, trivial, uns_86, trivial⟩
theorem uns_87 : (Tryd.prog.underlying 87).isSome = true := by kernel_rfl
theorem tok_87 : TOk Tryd.prog 87 { ti := some (false, 1), zv := some (.any), zok := some 1, by' := some 8, un := true } := ⟨ti_87, trivial, trivial, trivial, trivial, zv_87, zok_87, by_87, trivial, trivial, trivial, trivial, trivial, trivial, uns_87, trivial⟩
theorem uns_88 : (Tryd.prog.underlying 88).isSome = true := by kernel_rfl
theorem tok_88 : TOk Tryd.prog 88 { ti := some (false, 1), zv := some (.any), zok := some 1, by' := some 8, un := true } := ⟨ti_88, trivial, trivial, trivial, trivial, zv_88, zok_88, by_88, trivial, trivial, trivial, trivial, trivial, trivial, uns_88, trivial⟩
theorem uns_89 : (Tryd.prog.underlying 89).isSome = true := by kernel_rfl
theorem tok_89 : TOk Tryd.prog 89 { ti := some (false, 1), zv := some (.any), zok := some 1, by' := some 8, un := true } := ⟨ti_89, trivial, trivial, trivial, trivial, zv_89, zok_89, by_89, trivial, trivial, trivial, trivial, trivial, trivial, uns_89, trivial⟩
theorem uns_90 : (Tryd.prog.underlying 90).isSome = true := by kernel_rfl
theorem tok_90 : TOk Tryd.prog 90 { ti := some (true, 8), ai := some (8, (false, 1)), zv := some (.agg [.int .i64 0, .int .i64 0, .int .i64 0, .int .i64 0, .int .i64 0, .int .i64 0, .int .i64 0, .int .i64 0]), zok := some 8, by' := some 64, un := true } := ⟨ti_90, trivial, ai_90, trivial, trivial, zv_90, zok_90, by_90, trivial, trivial, trivial, trivial, trivial, trivial, uns_90, trivial⟩
theorem uns_91 : (Tryd.prog.underlying 91).isSome = true := by kernel_rfl
theorem tok_91 : TOk Tryd.prog 91 { ti := some (false, 1), zv := some (.any), zok := some 1, by' := some 8, un := true } := ⟨ti_91, trivial, trivial, trivial, trivial, zv_91, zok_91, by_91, trivial, trivial, trivial, trivial, trivial, trivial, uns_91, trivial⟩
theorem uns_93 : (Tryd.prog.underlying 93).isSome = true := by kernel_rfl
theorem tok_93 : TOk Tryd.prog 93 { ti := some (false, 1), zv := some (.any), zok := some 1, by' := some 8, un := true } := ⟨ti_93, trivial, trivial, trivial, trivial, zv_93, zok_93, by_93, trivial, trivial, trivial, trivial, trivial, trivial, uns_93, trivial⟩
theorem uns_94 : (Tryd.prog.underlying 94).isSome = true := by kernel_rfl
theorem tok_94 : TOk Tryd.prog 94 { ti := some (false, 1), zv := some (.any), zok := some 1, by' := some 8, un := true } := ⟨ti_94, trivial, trivial, trivial, trivial, zv_94, zok_94, by_94, trivial, trivial, trivial, trivial, trivial, trivial, uns_94, trivial⟩
theorem uns_95 : (Tryd.prog.underlying 95).isSome = true := by kernel_rfl
theorem tok_95 : TOk Tryd.prog 95 { ti := some (false, 1), zv := some (.any), zok := some 1, by' := some 8, un := true } := ⟨ti_95, trivial, trivial, trivial, trivial, zv_95, zok_95, by_95, trivial, trivial, trivial, trivial, trivial, trivial, uns_95, trivial⟩
theorem uns_96 : (Tryd.prog.underlying 96).isSome = true := by kernel_rfl
theorem tok_96 : TOk Tryd.prog 96 { ti := some (false, 1), zv := some (.any), zok := some 1, by' := some 8, un := true } := ⟨ti_96, trivial, trivial, trivial, trivial, zv_96, zok_96, by_96, trivial, trivial, trivial, trivial, trivial, trivial, uns_96, trivial⟩
theorem uns_97 : (Tryd.prog.underlying 97).isSome = true := by kernel_rfl
theorem tok_97 : TOk Tryd.prog 97 { ti := some (false, 1), ei := some (30, 1), zv := some (.nils), zok := some 1, by' := some 24, sli := true, ni := true, un := true } := ⟨ti_97, ei_97, trivial, trivial, trivial, zv_97, zok_97, by_97, trivial, trivial, isSli_97, trivial, trivial, notInt_97, uns_97, trivial⟩
theorem uns_98 : (Tryd.prog.underlying 98).isSome = true := by kernel_rfl
theorem tok_98 : TOk Tryd.prog 98 { ti := some (false, 1), zv := some (.any), zok := some 1, by' := some 8, un := true } := ⟨ti_98, trivial, trivial, trivial, trivial, zv_98, zok_98, by_98, trivial, trivial, trivial, trivial, trivial, trivial, uns_98, trivial⟩
theorem uns_99 : (Tryd.prog.underlying 99).isSome = true := by kernel_rfl
theorem tok_99 : TOk Tryd.prog 99 { ti := some (false, 1), zv := some (.any), zok := some 1, by' := some 8, un := true } := ⟨ti_99, trivial, trivial, trivial, trivial, zv_99, zok_99, by_99, trivial, trivial, trivial, trivial, trivial, trivial, uns_99, trivial⟩
theorem uns_100 : (Tryd.prog.underlying 100).isSome = true := by kernel_rfl
theorem tok_100 : TOk Tryd.prog 100 { ti := some (false, 1), zv := some (.any), zok := some 1, by' := some 8, un := true } := ⟨ti_100, trivial, trivial, trivial, trivial, zv_100, zok_100, by_100, trivial, trivial, trivial, trivial, trivial, trivial, uns_100, trivial⟩
theorem uns_101 : (Tryd.prog.underlying 101).isSome = true := by kernel_rfl
theorem tok_101 : TOk Tryd.prog 101 { ti := some (false, 1), zv := some (.any), zok := some 1, by' := some 8, un := true } := ⟨ti_101, trivial, trivial, trivial, trivial, zv_101, zok_101, by_101, trivial, trivial, trivial, trivial, trivial, trivial, uns_101, trivial⟩
theorem uns_102 : (Tryd.prog.underlying 102).isSome = true := by kernel_rfl
theorem tok_102 : TOk Tryd.prog 102 { ti := some (false, 1), zv := some (.any), zok := some 1, by' := some 8, un := true } := ⟨ti_102, trivial, trivial, trivial, trivial, zv_102, zok_102, by_102, trivial, trivial, trivial, trivial, trivial, trivial, uns_102, trivial⟩
theorem uns_103 : (Tryd.prog.underlying 103).isSome = true := by kernel_rfl
theorem tok_103 : TOk Tryd.prog 103 { ti := some (false, 1), zv := some (.any), zok := some 1, by' := some 8, un := true } := ⟨ti_103, trivial, trivial, trivial, trivial, zv_103, zok_103, by_103, trivial, trivial, trivial, trivial, trivial, trivial, uns_103, trivial⟩
theorem uns_104 : (Tryd.prog.underlying 104).isSome = true := by kernel_rfl
theorem tok_104 : TOk Tryd.prog 104 { ti := some (false, 1), zv := some (.any), zok := some 1, by' := some 8, un := true } := ⟨ti_104, trivial, trivial, trivial, trivial, zv_104, zok_104, by_104, trivial, trivial, trivial, trivial, trivial, trivial, uns_104, trivial⟩
theorem uns_105 : (Tryd.prog.underlying 105).isSome = true := by kernel_rfl
theorem tok_105 : TOk Tryd.prog 105 { ti := some (false, 1), zv := some (.any), zok := some 1, by' := some 8, un := true } := ⟨ti_105, trivial, trivial, trivial, trivial, zv_105, zok_105, by_105, trivial, trivial, trivial, trivial, trivial, trivial, uns_105, trivial⟩
theorem uns_106 : (Tryd.prog.underlying 106).isSome = true := by kernel_rfl
theorem tok_106 : TOk Tryd.prog 106 { ti := some (false, 1), zv := some (.int .u64 0), zok := some 1, by' := some 8, ik := some .u64, un := true } := ⟨ti_106, trivial, trivial, trivial, trivial, zv_106, zok_106, by_106, intK_106, trivial, trivial, trivial, trivial, trivial, uns_106, trivial⟩
theorem uns_108 : (Tryd.prog.underlying 108).isSome = true := by kernel_rfl
theorem tok_108 : TOk Tryd.prog 108 { ti := some (false, 1), zv := some (.any), zok := some 1, by' := some 8, un := true } := ⟨ti_108, trivial, trivial, trivial, trivial, zv_108, zok_108, by_108, trivial, trivial, trivial, trivial, trivial, trivial, uns_108, trivial⟩
theorem uns_109 : (Tryd.prog.underlying 109).isSome = true := by kernel_rfl
theorem tok_109 : TOk Tryd.prog 109 { ti := some (false, 1), zv := some (.any), zok := some 1, by' := some 8, un := true } := ⟨ti_109, trivial, trivial, trivial, trivial, zv_109, zok_109, by_109, trivial, trivial, trivial, trivial, trivial, trivial, uns_109, trivial⟩
theorem uns_110 : (Tryd.prog.underlying 110).isSome = true := by kernel_rfl
theorem tok_110 : TOk Tryd.prog 110 { ti := some (false, 1), zv := some (.nilp), zok := some 1, by' := some 8, ptr := true, un := true } := ⟨ti_110, trivial, trivial, trivial, trivial, zv_110, zok_110, by_110, trivial, trivial, trivial, trivial, isPtr_110, trivial, uns_110, trivial⟩
theorem uns_111 : (Tryd.prog.underlying 111).isSome = true := by kernel_rfl
theorem tok_111 : TOk Tryd.prog 111 { ti := some (false, 1), ei := some (5, 1), zv := some (.nils), zok := some 1, by' := some 24, sli := true, ni := true, un := true } := ⟨ti_111, ei_111, trivial, trivial, trivial, zv_111, zok_111, by_111, trivial, trivial, isSli_111, trivial, trivial, notInt_111, uns_111, trivial⟩
theorem uns_112 : (Tryd.prog.underlying 112).isSome = true := by kernel_rfl
theorem tok_112 : TOk Tryd.prog 112 { ti := some (true, 2), fi := [some (0, (false, 1)), some (1, (false, 1))], si := some [(0, 1), (1, 1)], zv := some (.agg [.nilp, .nils]), zok := some 2, by' := some 32, un := true } := ⟨ti_112, trivial, trivial, ⟨fi_112_0, fi_112_1, trivial⟩, si_112, zv_112, zok_112, by_112, trivial, trivial, trivial, trivial, trivial, trivial, uns_112, trivial⟩
theorem uns_113 : (Tryd.prog.underlying 113).isSome = true := by kernel_rfl
theorem tok_113 : TOk Tryd.prog 113 { ti := some (true, 2), fi := [some (0, (false, 1)), some (1, (false, 1))], si := some [(0, 1), (1, 1)], zv := some (.agg [.nilp, .nils]), zok := some 2, by' := some 32, un := true } := ⟨ti_113, trivial, trivial, ⟨fi_113_0, fi_113_1, trivial⟩, si_113, zv_113, zok_113, by_113, trivial, trivial, trivial, trivial, trivial, trivial, uns_113, trivial⟩
theorem uns_117 : (Tryd.prog.underlying 117).isSome = true := by kernel_rfl
theorem tok_117 : TOk Tryd.prog 117 { ti := some (false, 1), zv := some (.any), zok := some 1, by' := some 8, un := true } := ⟨ti_117, trivial, trivial, trivial, trivial, zv_117, zok_117, by_117, trivial, trivial, trivial, trivial, trivial, trivial, uns_117, trivial⟩
theorem uns_118 : (Tryd.prog.underlying 118).isSome = true := by kernel_rfl
theorem tok_118 : TOk Tryd.prog 118 { ti := some (false, 1), zv := some (.any), zok := some 1, by' := some 8, un := true } := ⟨ti_118, trivial, trivial, trivial, trivial, zv_118, zok_118, by_118, trivial, trivial, trivial, trivial, trivial, trivial, uns_118, trivial⟩
theorem uns_119 : (Tryd.prog.underlying 119).isSome = true := by kernel_rfl
theorem tok_119 : TOk Tryd.prog 119 { ti := some (false, 1), zv := some (.any), zok := some 1, by' := some 8, un := true } := ⟨ti_119, trivial, trivial, trivial, trivial, zv_119, zok_119, by_119, trivial, trivial, trivial, trivial, trivial, trivial, uns_119, trivial⟩
theorem uns_120 : (Tryd.prog.underlying 120).isSome = true := by kernel_rfl
theorem tok_120 : TOk Tryd.prog 120 { ti := some (false, 1), zv := some (.int .u32 0), zok := some 1, by' := some 4, ik := some .u32, un := true } := ⟨ti_120, trivial, trivial, trivial, trivial, zv_120, zok_120, by_120, intK_120, trivial, trivial, trivial, trivial, trivial, uns_120, trivial⟩
theorem uns_122 : (Tryd.prog.underlying 122).isSome = true := by kernel_rfl
theorem tok_122 : TOk Tryd.prog 122 { ti := some (false, 1), zv := some (.any), zok := some 1, by' := some 8, un := true } := ⟨ti_122, trivial, trivial, trivial, trivial, zv_122, zok_122, by_122, trivial, trivial, trivial, trivial, trivial, trivial, uns_122, trivial⟩
theorem uns_123 : (Tryd.prog.underlying 123).isSome = true := by kernel_rfl
theorem tok_123 : TOk Tryd.prog 123 { ti := some (false, 1), zv := some (.int .u64 0), zok := some 1, by' := some 8, ik := some .u64, un := true } := ⟨ti_123, trivial, trivial, trivial, trivial, zv_123, zok_123, by_123, intK_123, trivial, trivial, trivial, trivial, trivial, uns_123, trivial⟩
theorem uns_125 : (Tryd.prog.underlying 125).isSome = true := by kernel_rfl
theorem tok_125 : TOk Tryd.prog 125 { ti := some (false, 1), zv := some (.any), zok := some 1, by' := some 8, un := true } := ⟨ti_125, trivial, trivial, trivial, trivial, zv_125, zok_125, by_125, trivial, trivial, trivial, trivial, trivial, trivial, uns_125, trivial⟩
theorem uns_126 : (Tryd.prog.underlying 126).isSome = true := by kernel_rfl
theorem tok_126 : TOk Tryd.prog 126 { ti := some (false, 1), zv := some (.nilp), zok := some 1, by' := some 8, ptr := true, un := true } := ⟨ti_126, trivial, trivial, trivial, trivial, zv_126, zok_126, by_126, trivial, trivial, trivial, trivial, isPtr_126, trivial, uns_126, trivial⟩
theorem uns_129 : (Tryd.prog.underlying 129).isSome = true := by kernel_rfl
theorem tok_129 : TOk Tryd.prog 129 { ti := some (false, 1), zv := some (.any), zok := some 1, by' := some 8, un := true } := ⟨ti_129, trivial, trivial, trivial, trivial, zv_129, zok_129, by_129, trivial, trivial, trivial, trivial, trivial, trivial, uns_129, trivial⟩
theorem uns_130 : (Tryd.prog.underlying 130).isSome = true := by kernel_rfl
theorem tok_130 : TOk Tryd.prog 130 { ti := some (true, 24), ai := some (24, (false, 1)), zv := some (.agg [.int .u8 0, .int .u8 0, .int .u8 0, .int .u8 0, .int .u8 0, .int .u8 0, .int .u8 0, .int .u8 0, .int .u8 0, .int .u8 0, .int .u8 0, .int .u8 0, .int .u8 0, .int .u8 0, .int .u8 0, .int .u8 0, .int .u8 0, .int .u8 0, .int .u8 0, .int .u8 0, .int .u8 0, .int .u8 0, .int .u8 0, .int .u8 0]), zok := some 24, by' := some 24, un := true } := ⟨ti_130, trivial, ai_130, trivial, trivial, zv_130, zok_130, by_130, trivial, trivial, trivial, trivial, trivial, trivial, uns_130, trivial⟩
theorem uns_131 : (Tryd.prog.underlying 131).isSome = true := by kernel_rfl
theorem tok_131 : TOk Tryd.prog 131 { ti := some (false, 1), zv := some (.any), zok := some 1, by' := some 8, un := true } := ⟨ti_131, trivial, trivial, trivial, trivial, zv_131, zok_131, by_131, trivial, trivial, trivial, trivial, trivial, trivial, uns_131, trivial⟩
theorem uns_132 : (Tryd.prog.underlying 132).isSome = true := by kernel_rfl
theorem tok_132 : TOk Tryd.prog 132 { ti := some (false, 1), zv := some (.any), zok := some 1, by' := some 8, un := true } := ⟨ti_132, trivial, trivial, trivial, trivial, zv_132, zok_132, by_132, trivial, trivial, trivial, trivial, trivial, trivial, uns_132, trivial⟩
theorem uns_134 : (Tryd.prog.underlying 134).isSome = true := by kernel_rfl
theorem tok_134 : TOk Tryd.prog 134 { ti := some (false, 1), zv := some (.any), zok := some 1, by' := some 8, un := true } := ⟨ti_134, trivial, trivial, trivial, trivial, zv_134, zok_134, by_134, trivial, trivial, trivial, trivial, trivial, trivial, uns_134, trivial⟩
theorem uns_135 : (Tryd.prog.underlying 135).isSome = true := by kernel_rfl
theorem tok_135 : TOk Tryd.prog 135 { ti := some (false, 1), zv := some (.any), zok := some 1, by' := some 8, un := true } := ⟨ti_135, trivial, trivial, trivial, trivial, zv_135, zok_135, by_135, trivial, trivial, trivial, trivial, trivial, trivial, uns_135, trivial⟩
theorem uns_136 : (Tryd.prog.underlying 136).isSome = true := by kernel_rfl
theorem tok_136 : TOk Tryd.prog 136 { ti := some (true, 20), ai := some (20, (false, 1)), zv := some (.agg [.int .u64 0, .int .u64 0, .int .u64 0, .int .u64 0, .int .u64 0, .int .u64 0, .int .u64 0, .int .u64 0, .int .u64 0, .int .u64 0, .int .u64 0, .int .u64 0, .int .u64 0, .int .u64 0, .int .u64 0, .int .u64 0, .int .u64 0, .int .u64 0, .int .u64 0, .int .u64 0]), zok := some 20, by' := some 160, un := true } := ⟨ti_136, trivial, ai_136, trivial, trivial, zv_136, zok_136, by_136, trivial, trivial, trivial, trivial, trivial, trivial, uns_136, trivial⟩
theorem uns_137 : (Tryd.prog.underlying 137).isSome = true := by kernel_rfl
theorem tok_137 : TOk Tryd.prog 137 { ti := some (true, 65), ai := some (65, (false, 1)), zv := some (.agg [.int .u8 0, .int .u8 0, .int .u8 0, .int .u8 0, .int .u8 0, .int .u8 0, .int .u8 0, .int .u8 0, .int .u8 0, .int .u8 0, .int .u8 0, .int .u8 0, .int .u8 0, .int .u8 0, .int .u8 0, .int .u8 0, .int .u8 0, .int .u8 0, .int .u8 0, .int .u8 0, .int .u8 0, .int .u8 0, .int .u8 0, .int .u8 0, .int .u8 0, .int .u8 0, .int .u8 0, .int .u8 0, .int .u8 0, .int .u8 0, .int .u8 0, .int .u8 0, .int .u8 0, .int .u8 0, .int .u8 0, .int .u8 0, .int .u8 0, .int .u8 0, .int .u8 0, .int .u8 0, .int .u8 0, .int .u8 0, .int .u8 0, .int .u8 0, .int .u8 0, .int .u8 0, .int .u8 0, .int .u8 0, .int .u8 0, .int .u8 0, .int .u8 0, .int .u8 0, .int .u8 0, .int .u8 0, .int .u8 0, .int .u8 0, .int .u8 0, .int .u8 0, .int .u8 0, .int .u8 0, .int .u8 0, .int .u8 0, .int .u8 0, .int .u8 0, .int .u8 0]), zok := some 65, by' := some 65, un := true } := ⟨ti_137, trivial, ai_137, trivial, trivial, zv_137, zok_137, by_137, trivial, trivial, trivial, trivial, trivial, trivial, uns_137, trivial⟩
theorem uns_138 : (Tryd.prog.underlying 138).isSome = true := by kernel_rfl
theorem tok_138 : TOk Tryd.prog 138 { ti := some (false, 1), zv := some (.any), zok := some 1, by' := some 8, un := true } := ⟨ti_138, trivial, trivial, trivial, trivial, zv_138, zok_138, by_138, trivial, trivial, trivial, trivial, trivial, trivial, uns_138, trivial⟩
theorem uns_139 : (Tryd.prog.underlying 139).isSome = true := by kernel_rfl
theorem tok_139 : TOk Tryd.prog 139 { ti := some (false, 1), zv := some (.any), zok := some 1, by' := some 8, un := true } := ⟨ti_139, trivial, trivial, trivial, trivial, zv_139, zok_139, by_139, trivial, trivial, trivial, trivial, trivial, trivial, uns_139, trivial⟩
theorem uns_140 : (Tryd.prog.underlying 140).isSome = true := by kernel_rfl
theorem tok_140 : TOk Tryd.prog 140 { ti := some (true, 32), ai := some (32, (false, 1)), zv := some (.agg [.int .u8 0, .int .u8 0, .int .u8 0, .int .u8 0, .int .u8 0, .int .u8 0, .int .u8 0, .int .u8 0, .int .u8 0, .int .u8 0, .int .u8 0, .int .u8 0, .int .u8 0, .int .u8 0, .int .u8 0, .int .u8 0, .int .u8 0, .int .u8 0, .int .u8 0, .int .u8 0, .int .u8 0, .int .u8 0, .int .u8 0, .int .u8 0, .int .u8 0, .int .u8 0, .int .u8 0, .int .u8 0, .int .u8 0, .int .u8 0, .int .u8 0, .int .u8 0]), zok := some 32, by' := some 32, un := true } := ⟨ti_140, trivial, ai_140, trivial, trivial, zv_140, zok_140, by_140, trivial, trivial, trivial, trivial, trivial, trivial, uns_140, trivial⟩
theorem uns_141 : (Tryd.prog.underlying 141).isSome = true := by kernel_rfl
theorem tok_141 : TOk Tryd.prog 141 { ti := some (true, 64), ai := some (64, (false, 1)), zv := some (.agg [.int .u8 0, .int .u8 0, .int .u8 0, .int .u8 0, .int .u8 0, .int .u8 0, .int .u8 0, .int .u8 0, .int .u8 0, .int .u8 0, .int .u8 0, .int .u8 0, .int .u8 0, .int .u8 0, .int .u8 0, .int .u8 0, .int .u8 0, .int .u8 0, .int .u8 0, .int .u8 0, .int .u8 0, .int .u8 0, .int .u8 0, .int .u8 0, .int .u8 0, .int .u8 0, .int .u8 0, .int .u8 0, .int .u8 0, .int .u8 0, .int .u8 0, .int .u8 0, .int .u8 0, .int .u8 0, .int .u8 0, .int .u8 0, .int .u8 0, .int .u8 0, .int .u8 0, .int .u8 0, .int .u8 0, .int .u8 0, .int .u8 0, .int .u8 0, .int .u8 0, .int .u8 0, .int .u8 0, .int .u8 0, .int .u8 0, .int .u8 0, .int .u8 0, .int .u8 0, .int .u8 0, .int .u8 0, .int .u8 0, .int .u8 0, .int .u8 0, .int .u8 0, .int .u8 0, .int .u8 0, .int .u8 0, .int .u8 0, .int .u8 0, .int .u8 0]), zok := some 64, by' := some 64, un := true } := ⟨ti_141, trivial, ai_141, trivial, trivial, zv_141, zok_141, by_141, trivial, trivial, trivial, trivial, trivial, trivial, uns_141, trivial⟩
def Tryd.tt : TT := (.node (.node (.node (.node (.node (.node (.node .leaf 1 { ti := some (false, 1), zv := some (.any), zok := some 1, by' := some 8, un := true } .leaf) 2 { ti := some (false, 1), zv := some (.int .i64 0), zok := some 1, by' := some 8, ik := some .i64, un := true } (.node .leaf 3 { ti := some (false, 1), zv := some (.int .i64 0), zok := some 1, by' := some 8, ik := some .i64, un := true } .leaf)) 4 { ti := some (false, 1), zv := some (.bool false), zok := some 1, by' := some 1, boo := true, un := true } (.node (.node .leaf 5 { ti := some (false, 1), zv := some (.int .u8 0), zok := some 1, by' := some 1, ik := some .u8, un := true } .leaf) 9 { ti := some (false, 1), zv := some (.str []), zok := some 1, by' := some 16, str := true, ni := true, un := true } (.node .leaf 12 { ti := some (false, 1), zv := some (.int .u64 0), zok := some 1, by' := some 8, ik := some .u64, un := true } .leaf))) 13 { ti := some (true, 2), fi := [some (0, (false, 1)), some (1, (false, 1))], si := some [(0, 1), (1, 1)], zv := some (.agg [.str [], .int .u64 0]), zok := some 2, by' := some 24, un := true } (.node (.node (.node .leaf 21 { ti := some (false, 1), zv := some (.int .i32 0), zok := some 1, by' := some 4, ik := some .i32, un := true } .leaf) 22 { ti := some (false, 1), ei := some (46, 5), zv := some (.nils), zok := some 1, by' := some 24, sli := true, ni := true, un := true } (.node .leaf 23 { ti := some (false, 1), ei := some (54, 4), zv := some (.nils), zok := some 1, by' := some 24, sli := true, ni := true, un := true } .leaf)) 24 { ti := some (false, 1), zv := some (.int .i64 0), zok := some 1, by' := some 8, ik := some .i64, un := true } (.node (.node .leaf 26 { ti := some (false, 1), zv := some (.any), zok := some 1, by' := some 8, un := true } .leaf) 27 { ti := some (false, 1), zv := some (.any), zok := some 1, by' := some 8, un := true } .leaf))) 28 { ti := some (false, 1), zv := some (.any), zok := some 1, by' := some 8, un := true } (.node (.node (.node (.node .leaf 29 { ti := some (false, 1), ei := some (76, 1), zv := some (.nils), zok := some 1, by' := some 24, sli := true, ni := true, un := true } .leaf) 30 { ti := some (false, 1), ei := some (4, 1), zv := some (.nils), zok := some 1, by' := some 24, sli := true, ni := true, un := true } (.node .leaf 31 { ti := some (true, 2), fi := [some (0, (false, 1)), some (1, (false, 1))], si := some [(0, 1), (1, 1)], zv := some (.agg [.nils, .nils]), zok := some 2, by' := some 48, un := true } .leaf)) 32 { ti := some (true, 2), fi := [some (0, (false, 1)), some (1, (false, 1))], si := some [(0, 1), (1, 1)], zv := some (.agg [.nils, .nils]), zok := some 2, by' := some 48, un := true } (.node (.node .leaf 34 { ti := some (false, 1), zv := some (.any), zok := some 1, by' := some 8, un := true } .leaf) 35 { ti := some (false, 1), zv := some (.any), zok := some 1, by' := some 8, un := true } (.node .leaf 36 { ti := some (false, 1), zv := some (.nilp), zok := some 1, by' := some 8, ptr := true, un := true } .leaf))) 37 { ti := some (false, 1), zv := some (.nilp), zok := some 1, by' := some 8, ptr := true, un := true } (.node (.node (.node .leaf 38 { ti := some (false, 1), zv := some (.nilp), zok := some 1, by' := some 8, ptr := true, un := true } .leaf) 39 { ti := some (false, 1), ei := some (37, 1), zv := some (.nils), zok := some 1, by' := some 24, sli := true, ni := true, un := true } (.node .leaf 40 { ti := some (true, 4), fi := [some (0, (false, 1)), some (1, (false, 1)), some (2, (false, 1)), some (3, (false, 1))], si := some [(0, 1), (1, 1), (2, 1), (3, 1)], zv := some (.agg [.nilp, .nils, .str [], .bool false]), zok := some 4, by' := some 56, un := true } .leaf)) 41 { ti := some (true, 4), fi := [some (0, (false, 1)), some (1, (false, 1)), some (2, (false, 1)), some (3, (false, 1))], si := some [(0, 1), (1, 1), (2, 1), (3, 1)], zv := some (.agg [.nilp, .nils, .str [], .bool false]), zok := some 4, by' := some 56, un := true } (.node (.node .leaf 42 { ti := some (true, 4), fi := [some (0, (false, 1)), some (1, (false, 1)), some (2, (false, 1)), some (3, (false, 1))], si := some [(0, 1), (1, 1), (2, 1), (3, 1)], zv := some (.agg [.nilp, .nils, .int .i64 0, .str []]), zok := some 4, by' := some 56, un := true } .leaf) 43 { ti := some (true, 4), fi := [some (0, (false, 1)), some (1, (false, 1)), some (2, (false, 1)), some (3, (false, 1))], si := some [(0, 1), (1, 1), (2, 1), (3, 1)], zv := some (.agg [.nilp, .nils, .int .i64 0, .str []]), zok := some 4, by' := some 56, un := true } .leaf)))) 44 { ti := some (false, 1), ei := some (82, 2), zv := some (.nils), zok := some 1, by' := some 24, sli := true, ni := true, un := true } (.node (.node (.node (.node (.node .leaf 45 { ti := some (true, 5), fi := [some (0, (false, 1)), some (1, (false, 1)), some (2, (false, 1)), some (3, (false, 1)), some (4, (false, 1))], si := some [(0, 1), (1, 1), (2, 1), (3, 1), (4, 1)], zv := some (.agg [.int .i64 0, .str [], .nils, .bool false, .str []]), zok := some 5, by' := some 72, un := true } .leaf) 46 { ti := some (true, 5), fi := [some (0, (false, 1)), some (1, (false, 1)), some (2, (false, 1)), some (3, (false, 1)), some (4, (false, 1))], si := some [(0, 1), (1, 1), (2, 1), (3, 1), (4, 1)], zv := some (.agg [.int .i64 0, .str [], .nils, .bool false, .str []]), zok := some 5, by' := some 72, un := true } (.node .leaf 47 { ti := some (false, 1), zv := some (.any), zok := some 1, by' := some 8, un := true } .leaf)) 48 { ti := some (false, 1), zv := some (.any), zok := some 1, by' := some 8, un := true } (.node (.node .leaf 49 { ti := some (false, 1), zv := some (.any), zok := some 1, by' := some 8, un := true } .leaf) 50 { ti := some (false, 1), zv := some (.any), zok := some 1, by' := some 8, un := true } (.node .leaf 51 { ti := some (false, 1), zv := some (.any), zok := some 1, by' := some 8, un := true } .leaf))) 52 { ti := some (false, 1), ei := some (56, 7), zv := some (.nils), zok := some 1, by' := some 24, sli := true, ni := true, un := true } (.node (.node (.node .leaf 53 { ti := some (true, 4), fi := [some (0, (false, 1)), some (1, (false, 1)), some (2, (false, 1)), some (3, (false, 1))], si := some [(0, 1), (1, 1), (2, 1), (3, 1)], zv := some (.agg [.str [], .nils, .str [], .nils]), zok := some 4, by' := some 80, un := true } .leaf) 54 { ti := some (true, 4), fi := [some (0, (false, 1)), some (1, (false, 1)), some (2, (false, 1)), some (3, (false, 1))], si := some [(0, 1), (1, 1), (2, 1), (3, 1)], zv := some (.agg [.str [], .nils, .str [], .nils]), zok := some 4, by' := some 80, un := true } (.node .leaf 55 { ti := some (true, 7), fi := [some (0, (false, 1)), some (1, (true, 4)), some (5, (false, 1)), some (6, (false, 1))], si := some [(0, 1), (1, 4), (5, 1), (6, 1)], zv := some (.agg [.int .i64 0, .str [], .nils, .str [], .nils, .bool false, .bool false]), zok := some 7, by' := some 96, un := true } .leaf)) 56 { ti := some (true, 7), fi := [some (0, (false, 1)), some (1, (true, 4)), some (5, (false, 1)), some (6, (false, 1))], si := some [(0, 1), (1, 4), (5, 1), (6, 1)], zv := some (.agg [.int .i64 0, .str [], .nils, .str [], .nils, .bool false, .bool false]), zok := some 7, by' := some 96, un := true } (.node (.node .leaf 57 { ti := some (false, 1), zv := some (.any), zok := some 1, by' := some 8, un := true } .leaf) 58 { ti := some (false, 1), zv := some (.any), zok := some 1, by' := some 8, un := true } .leaf))) 59 { ti := some (false, 1), zv := some (.any), zok := some 1, by' := some 8, un := true } (.node (.node (.node (.node .leaf 60 { ti := some (false, 1), zv := some (.any), zok := some 1, by' := some 8, un := true } .leaf) 61 { ti := some (false, 1), zv := some (.any), zok := some 1, by' := some 8, un := true } (.node .leaf 62 { ti := some (false, 1), ei := some (69, 2), zv := some (.nils), zok := some 1, by' := some 24, sli := true, ni := true, un := true } .leaf)) 63 { ti := some (false, 1), ei := some (90, 8), zv := some (.nils), zok := some 1, by' := some 24, sli := true, ni := true, un := true } (.node (.node .leaf 65 { ti := some (false, 1), zv := some (.any), zok := some 1, by' := some 8, un := true } .leaf) 66 { ti := some (true, 2), fi := [some (0, (false, 1)), some (1, (false, 1))], si := some [(0, 1), (1, 1)], zv := some (.agg [.nils, .nils]), zok := some 2, by' := some 48, un := true } .leaf)) 67 { ti := some (true, 2), fi := [some (0, (false, 1)), some (1, (false, 1))], si := some [(0, 1), (1, 1)], zv := some (.agg [.nils, .nils]), zok := some 2, by' := some 48, un := true } (.node (.node (.node .leaf 68 { ti := some (true, 2), fi := [some (0, (false, 1)), some (1, (false, 1))], si := some [(0, 1), (1, 1)], zv := some (.agg [.int .i64 0, .int .i64 0]), zok := some 2, by' := some 16, un := true } .leaf) 69 { ti := some (true, 2), fi := [some (0, (false, 1)), some (1, (false, 1))], si := some [(0, 1), (1, 1)], zv := some (.agg [.int .i64 0, .int .i64 0]), zok := some 2, by' := some 16, un := true, sq := some [.i .i64, .i .i64] } (.node .leaf 70 { ti := some (false, 1), zv := some (.any), zok := some 1, by' := some 8, un := true } .leaf)) 71 { ti := some (false, 1), zv := some (.any), zok := some 1, by' := some 8, un := true } (.node (.node .leaf 72 { ti := some (true, 2), fi := [some (0, (false, 1)), some (1, (false, 1))], si := some [(0, 1), (1, 1)], zv := some (.agg [.nils, .nils]), zok := some 2, by' := some 48, un := true } .leaf) 73 { ti := some (true, 2), fi := [some (0, (false, 1)), some (1, (false, 1))], si := some [(0, 1), (1, 1)], zv := some (.agg [.nils, .nils]), zok := some 2, by' := some 48, un := true } .leaf))))) 74 { ti := some (false, 1), zv := some (.any), zok := some 1, by' := some 8, un := true } (.node (.node (.node (.node (.node (.node .leaf 75 { ti := some (false, 1), zv := some (.any), zok := some 1, by' := some 8, un := true } .leaf) 76 { ti := some (false, 1), ei := some (3, 1), zv := some (.nils), zok := some 1, by' := some 24, sli := true, ni := true, un := true } (.node .leaf 77 { ti := some (false, 1), zv := some (.any), zok := some 1, by' := some 8, un := true } .leaf)) 78 { ti := some (false, 1), ei := some (9, 1), zv := some (.nils), zok := some 1, by' := some 24, sli := true, ni := true, un := true } (.node (.node .leaf 79 { ti := some (true, 9), ai := some (9, (false, 1)), zv := some (.agg [.str [], .str [], .str [], .str [], .str [], .str [], .str [], .str [], .str []]), zok := some 9, by' := some 144, un := true } .leaf) 80 { ti := some (false, 1), zv := some (.any), zok := some 1, by' := some 8, un := true } (.node .leaf 81 { ti := some (true, 2), fi := [some (0, (false, 1)), some (1, (false, 1))], si := some [(0, 1), (1, 1)], zv := some (.agg [.str [], .str []]), zok := some 2, by' := some 32, un := true } .leaf))) 82 { ti := some (true, 2), fi := [some (0, (false, 1)), some (1, (false, 1))], si := some [(0, 1), (1, 1)], zv := some (.agg [.str [], .str []]), zok := some 2, by' := some 32, un := true, sq := some [.s, .s] } (.node (.node (.node .leaf 83 { ti := some (false, 1), zv := some (.any), zok := some 1, by' := some 8, un := true } .leaf) 84 { ti := some (true, 4), ai := some (4, (false, 1)), zv := some (.agg [.str [], .str [], .str [], .str []]), zok := some 4, by' := some 64, un := true } (.node .leaf 85 { ti := some (false, 1), zv := some (.any), zok := some 1, by' := some 8, un := true } .leaf)) 86 { ti := some (false, 1), zv := some (.any), zok := some 1, by' := some 8, un := true } (.node (.node .leaf 87 { ti := some (false, 1), zv := some (.any), zok := some 1, by' := some 8, un := true } .leaf) 88 { ti := some (false, 1), zv := some (.any), zok := some 1, by' := some 8, un := true } .leaf))) 89 { ti := some (false, 1), zv := some (.any), zok := some 1, by' := some 8, un := true } (.node (.node (.node (.node .leaf 90 { ti := some (true, 8), ai := some (8, (false, 1)), zv := some (.agg [.int .i64 0, .int .i64 0, .int .i64 0, .int .i64 0, .int .i64 0, .int .i64 0, .int .i64 0, .int .i64 0]), zok := some 8, by' := some 64, un := true } .leaf) 91 { ti := some (false, 1), zv := some (.any), zok := some 1, by' := some 8, un := true } (.node .leaf 93 { ti := some (false, 1), zv := some (.any), zok := some 1, by' := some 8, un := true } .leaf)) 94 { ti := some (false, 1), zv := some (.any), zok := some 1, by' := some 8, un := true } (.node (.node .leaf 95 { ti := some (false, 1), zv := some (.any), zok := some 1, by' := some 8, un := true } .leaf) 96 { ti := some (false, 1), zv := some (.any), zok := some 1, by' := some 8, un := true } .leaf)) 97 { ti := some (false, 1), ei := some (30, 1), zv := some (.nils), zok := some 1, by' := some 24, sli := true, ni := true, un := true } (.node (.node (.node .leaf 98 { ti := some (false, 1), zv := some (.any), zok := some 1, by' := some 8, un := true } .leaf) 99 { ti := some (false, 1), zv := some (.any), zok := some 1, by' := some 8, un := true } (.node .leaf 100 { ti := some (false, 1), zv := some (.any), zok := some 1, by' := some 8, un := true } .leaf)) 101 { ti := some (false, 1), zv := some (.any), zok := some 1, by' := some 8, un := true } (.node (.node .leaf 102 { ti := some (false, 1), zv := some (.any), zok := some 1, by' := some 8, un := true } .leaf) 103 { ti := some (false, 1), zv := some (.any), zok := some 1, by' := some 8, un := true } .leaf)))) 104 { ti := some (false, 1), zv := some (.any), zok := some 1, by' := some 8, un := true } (.node (.node (.node (.node (.node .leaf 105 { ti := some (false, 1), zv := some (.any), zok := some 1, by' := some 8, un := true } .leaf) 106 { ti := some (false, 1), zv := some (.int .u64 0), zok := some 1, by' := some 8, ik := some .u64, un := true } (.node .leaf 108 { ti := some (false, 1), zv := some (.any), zok := some 1, by' := some 8, un := true } .leaf)) 109 { ti := some (false, 1), zv := some (.any), zok := some 1, by' := some 8, un := true } (.node (.node .leaf 110 { ti := some (false, 1), zv := some (.nilp), zok := some 1, by' := some 8, ptr := true, un := true } .leaf) 111 { ti := some (false, 1), ei := some (5, 1), zv := some (.nils), zok := some 1, by' := some 24, sli := true, ni := true, un := true } (.node .leaf 112 { ti := some (true, 2), fi := [some (0, (false, 1)), some (1, (false, 1))], si := some [(0, 1), (1, 1)], zv := some (.agg [.nilp, .nils]), zok := some 2, by' := some 32, un := true } .leaf))) 113 { ti := some (true, 2), fi := [some (0, (false, 1)), some (1, (false, 1))], si := some [(0, 1), (1, 1)], zv := some (.agg [.nilp, .nils]), zok := some 2, by' := some 32, un := true } (.node (.node (.node .leaf 117 { ti := some (false, 1), zv := some (.any), zok := some 1, by' := some 8, un := true } .leaf) 118 { ti := some (false, 1), zv := some (.any), zok := some 1, by' := some 8, un := true } (.node .leaf 119 { ti := some (false, 1), zv := some (.any), zok := some 1, by' := some 8, un := true } .leaf)) 120 { ti := some (false, 1), zv := some (.int .u32 0), zok := some 1, by' := some 4, ik := some .u32, un := true } (.node (.node .leaf 122 { ti := some (false, 1), zv := some (.any), zok := some 1, by' := some 8, un := true } .leaf) 123 { ti := some (false, 1), zv := some (.int .u64 0), zok := some 1, by' := some 8, ik := some .u64, un := true } .leaf))) 125 { ti := some (false, 1), zv := some (.any), zok := some 1, by' := some 8, un := true } (.node (.node (.node (.node .leaf 126 { ti := some (false, 1), zv := some (.nilp), zok := some 1, by' := some 8, ptr := true, un := true } .leaf) 129 { ti := some (false, 1), zv := some (.any), zok := some 1, by' := some 8, un := true } (.node .leaf 130 { ti := some (true, 24), ai := some (24, (false, 1)), zv := some (.agg [.int .u8 0, .int .u8 0, .int .u8 0, .int .u8 0, .int .u8 0, .int .u8 0, .int .u8 0, .int .u8 0, .int .u8 0, .int .u8 0, .int .u8 0, .int .u8 0, .int .u8 0, .int .u8 0, .int .u8 0, .int .u8 0, .int .u8 0, .int .u8 0, .int .u8 0, .int .u8 0, .int .u8 0, .int .u8 0, .int .u8 0, .int .u8 0]), zok := some 24, by' := some 24, un := true } .leaf)) 131 { ti := some (false, 1), zv := some (.any), zok := some 1, by' := some 8, un := true } (.node (.node .leaf 132 { ti := some (false, 1), zv := some (.any), zok := some 1, by' := some 8, un := true } .leaf) 134 { ti := some (false, 1), zv := some (.any), zok := some 1, by' := some 8, un := true } .leaf)) 135 { ti := some (false, 1), zv := some (.any), zok := some 1, by' := some 8, un := true } (.node (.node (.node .leaf 136 { ti := some (true, 20), ai := some (20, (false, 1)), zv := some (.agg [.int .u64 0, .int .u64 0, .int .u64 0, .int .u64 0, .int .u64 0, .int .u64 0, .int .u64 0, .int .u64 0, .int .u64 0, .int .u64 0, .int .u64 0, .int .u64 0, .int .u64 0, .int .u64 0, .int .u64 0, .int .u64 0, .int .u64 0, .int .u64 0, .int .u64 0, .int .u64 0]), zok := some 20, by' := some 160, un := true } .leaf) 137 { ti := some (true, 65), ai := some (65, (false, 1)), zv := some (.agg [.int .u8 0, .int .u8 0, .int .u8 0, .int .u8 0, .int .u8 0, .int .u8 0, .int .u8 0, .int .u8 0, .int .u8 0, .int .u8 0, .int .u8 0, .int .u8 0, .int .u8 0, .int .u8 0, .int .u8 0, .int .u8 0, .int .u8 0, .int .u8 0, .int .u8 0, .int .u8 0, .int .u8 0, .int .u8 0, .int .u8 0, .int .u8 0, .int .u8 0, .int .u8 0, .int .u8 0, .int .u8 0, .int .u8 0, .int .u8 0, .int .u8 0, .int .u8 0, .int .u8 0, .int .u8 0, .int .u8 0, .int .u8 0, .int .u8 0, .int .u8 0, .int .u8 0, .int .u8 0, .int .u8 0, .int .u8 0, .int .u8 0, .int .u8 0, .int .u8 0, .int .u8 0, .int .u8 0, .int .u8 0, .int .u8 0, .int .u8 0, .int .u8 0, .int .u8 0, .int .u8 0, .int .u8 0, .int .u8 0, .int .u8 0, .int .u8 0, .int .u8 0, .int .u8 0, .int .u8 0, .int .u8 0, .int .u8 0, .int .u8 0, .int .u8 0, .int .u8 0]), zok := some 65, by' := some 65, un := true } (.node .leaf 138 { ti := some (false, 1), zv := some (.any), zok := some 1, by' := some 8, un := true } .leaf)) 139 { ti := some (false, 1), zv := some (.any), zok := some 1, by' := some 8, un := true } (.node (.node .leaf 140 { ti := some (true, 32), ai := some (32, (false, 1)), zv := some (.agg [.int .u8 0, .int .u8 0, .int .u8 0, .int .u8 0, .int .u8 0, .int .u8 0, .int .u8 0, .int .u8 0, .int .u8 0, .int .u8 0, .int .u8 0, .int .u8 0, .int .u8 0, .int .u8 0, .int .u8 0, .int .u8 0, .int .u8 0, .int .u8 0, .int .u8 0, .int .u8 0, .int .u8 0, .int .u8 0, .int .u8 0, .int .u8 0, .int .u8 0, .int .u8 0, .int .u8 0, .int .u8 0, .int .u8 0, .int .u8 0, .int .u8 0, .int .u8 0]), zok := some 32, by' := some 32, un := true } .leaf) 141 { ti := some (true, 64), ai := some (64, (false, 1)), zv := some (.agg [.int .u8 0, .int .u8 0, .int .u8 0, .int .u8 0, .int .u8 0, .int .u8 0, .int .u8 0, .int .u8 0, .int .u8 0, .int .u8 0, .int .u8 0, .int .u8 0, .int .u8 0, .int .u8 0, .int .u8 0, .int .u8 0, .int .u8 0, .int .u8 0, .int .u8 0, .int .u8 0, .int .u8 0, .int .u8 0, .int .u8 0, .int .u8 0, .int .u8 0, .int .u8 0, .int .u8 0, .int .u8 0, .int .u8 0, .int .u8 0, .int .u8 0, .int .u8 0, .int .u8 0, .int .u8 0, .int .u8 0, .int .u8 0, .int .u8 0, .int .u8 0, .int .u8 0, .int .u8 0, .int .u8 0, .int .u8 0, .int .u8 0, .int .u8 0, .int .u8 0, .int .u8 0, .int .u8 0, .int .u8 0, .int .u8 0, .int .u8 0, .int .u8 0, .int .u8 0, .int .u8 0, .int .u8 0, .int .u8 0, .int .u8 0, .int .u8 0, .int .u8 0, .int .u8 0, .int .u8 0, .int .u8 0, .int .u8 0, .int .u8 0, .int .u8 0]), zok := some 64, by' := some 64, un := true } .leaf))))))
theorem tt_all : TT.All Tryd.prog Tryd.tt := ⟨⟨⟨⟨⟨⟨⟨trivial, tok_1, trivial⟩, tok_2, ⟨trivial, tok_3, trivial⟩⟩, tok_4, ⟨⟨trivial, tok_5, trivial⟩, tok_9, ⟨trivial, tok_12, trivial⟩⟩⟩, tok_13, ⟨⟨⟨trivial, tok_21, trivial⟩, tok_22, ⟨trivial, tok_23, trivial⟩⟩, tok_24, ⟨⟨trivial, tok_26, trivial⟩, tok_27, trivial⟩⟩⟩, tok_28, ⟨⟨⟨⟨trivial, tok_29, trivial⟩, tok_30, ⟨trivial, tok_31, trivial⟩⟩, tok_32, ⟨⟨trivial, tok_34, trivial⟩, tok_35, ⟨trivial, tok_36, trivial⟩⟩⟩, tok_37, ⟨⟨⟨trivial, tok_38, trivial⟩, tok_39, ⟨trivial, tok_40, trivial⟩⟩, tok_41, ⟨⟨trivial, tok_42, trivial⟩, tok_43, trivial⟩⟩⟩⟩, tok_44, ⟨⟨⟨⟨⟨trivial, tok_45, trivial⟩, tok_46, ⟨trivial, tok_47, trivial⟩⟩, tok_48, ⟨⟨trivial, tok_49, trivial⟩, tok_50, ⟨trivial, tok_51, trivial⟩⟩⟩, tok_52, ⟨⟨⟨trivial, tok_53, trivial⟩, tok_54, ⟨trivial, tok_55, trivial⟩⟩, tok_56, ⟨⟨trivial, tok_57, trivial⟩, tok_58, trivial⟩⟩⟩, tok_59, ⟨⟨⟨⟨trivial, tok_60, trivial⟩, tok_61, ⟨trivial, tok_62, trivial⟩⟩, tok_63, ⟨⟨trivial, tok_65, trivial⟩, tok_66, trivial⟩⟩, tok_67, ⟨⟨⟨trivial, tok_68, trivial⟩, tok_69, ⟨trivial, tok_70, trivial⟩⟩, tok_71, ⟨⟨trivial, tok_72, trivial⟩, tok_73, trivial⟩⟩⟩⟩⟩, tok_74, ⟨⟨⟨⟨⟨⟨trivial, tok_75, trivial⟩, tok_76, ⟨trivial, tok_77, trivial⟩⟩, tok_78, ⟨⟨trivial, tok_79, trivial⟩, tok_80, ⟨trivial, tok_81, trivial⟩⟩⟩, tok_82, ⟨⟨⟨trivial, tok_83, trivial⟩, tok_84, ⟨trivial, tok_85, trivial⟩⟩, tok_86, ⟨⟨trivial, tok_87, trivial⟩, tok_88, trivial⟩⟩⟩, tok_89, ⟨⟨⟨⟨trivial, tok_90, trivial⟩, tok_91, ⟨trivial, tok_93, trivial⟩⟩, tok_94, ⟨⟨trivial, tok_95, trivial⟩, tok_96, trivial⟩⟩, tok_97, ⟨⟨⟨trivial, tok_98, trivial⟩, tok_99, ⟨trivial, tok_100, trivial⟩⟩, tok_101, ⟨⟨trivial, tok_102, trivial⟩, tok_103, trivial⟩⟩⟩⟩, tok_104, ⟨⟨⟨⟨⟨trivial, tok_105, trivial⟩, tok_106, ⟨trivial, tok_108, trivial⟩⟩, tok_109, ⟨⟨trivial, tok_110, trivial⟩, tok_111, ⟨trivial, tok_112, trivial⟩⟩⟩, tok_113, ⟨⟨⟨trivial, tok_117, trivial⟩, tok_118, ⟨trivial, tok_119, trivial⟩⟩, tok_120, ⟨⟨trivial, tok_122, trivial⟩, tok_123, trivial⟩⟩⟩, tok_125, ⟨⟨⟨⟨trivial, tok_126, trivial⟩, tok_129, ⟨trivial, tok_130, trivial⟩⟩, tok_131, ⟨⟨trivial, tok_132, trivial⟩, tok_134, trivial⟩⟩, tok_135, ⟨⟨⟨trivial, tok_136, trivial⟩, tok_137, ⟨trivial, tok_138, trivial⟩⟩, tok_139, ⟨⟨trivial, tok_140, trivial⟩, tok_141, trivial⟩⟩⟩⟩⟩⟩
theorem hasBody_3 : hasBody Tryd.prog 3 = true := by kernel_rfl
theorem hasBody_4 : hasBody Tryd.prog 4 = true := by kernel_rfl
theorem hasBody_5 : hasBody Tryd.prog 5 = true := by kernel_rfl
theorem hasBody_6 : hasBody Tryd.prog 6 = true := by kernel_rfl
theorem hasBody_7 : hasBody Tryd.prog 7 = true := by kernel_rfl
theorem hasBody_8 : hasBody Tryd.prog 8 = true := by kernel_rfl
theorem hasBody_9 : hasBody Tryd.prog 9 = true := by kernel_rfl
theorem hasBody_10 : hasBody Tryd.prog 10 = true := by kernel_rfl
theorem hasBody_11 : hasBody Tryd.prog 11 = true := by kernel_rfl
theorem hasBody_12 : hasBody Tryd.prog 12 = true := by kernel_rfl
theorem hasBody_13 : hasBody Tryd.prog 13 = true := by kernel_rfl
theorem hasBody_14 : hasBody Tryd.prog 14 = true := by kernel_rfl
theorem hasBody_15 : hasBody Tryd.prog 15 = true := by kernel_rfl
theorem hasBody_16 : hasBody Tryd.prog 16 = true := by kernel_rfl
theorem hasBody_17 : hasBody Tryd.prog 17 = true := by kernel_rfl
theorem hasBody_18 : hasBody Tryd.prog 18 = true := by kernel_rfl
theorem hasBody_19 : hasBody Tryd.prog 19 = true := by kernel_rfl
theorem hasBody_20 : hasBody Tryd.prog 20 = true := by kernel_rfl
theorem hasBody_21 : hasBody Tryd.prog 21 = true := by kernel_rfl
theorem hasBody_22 : hasBody Tryd.prog 22 = true := by kernel_rfl
theorem hasBody_23 : hasBody Tryd.prog 23 = true := by kernel_rfl
theorem hasBody_24 : hasBody Tryd.prog 24 = true := by kernel_rfl
theorem hasBody_25 : hasBody Tryd.prog 25 = true := by kernel_rfl
theorem hasBody_26 : hasBody Tryd.prog 26 = true := by kernel_rfl
theorem hasBody_27 : hasBody Tryd.prog 27 = true := by kernel_rfl
theorem hasBody_28 : hasBody Tryd.prog 28 = true := by kernel_rfl
theorem hasBody_29 : hasBody Tryd.prog 29 = true := by kernel_rfl
theorem hasBody_30 : hasBody Tryd.prog 30 = true := by kernel_rfl
theorem hasBody_31 : hasBody Tryd.prog 31 = true := by kernel_rfl
theorem hasBody_32 : hasBody Tryd.prog 32 = true := by kernel_rfl
theorem hasBody_33 : hasBody Tryd.prog 33 = true := by kernel_rfl
theorem hasBody_34 : hasBody Tryd.prog 34 = true := by kernel_rfl
theorem hasBody_35 : hasBody Tryd.prog 35 = true := by kernel_rfl
theorem hasBody_36 : hasBody Tryd.prog 36 = true := by kernel_rfl
theorem hasBody_37 : hasBody Tryd.prog 37 = true := by kernel_rfl
theorem hasBody_38 : hasBody Tryd.prog 38 = true := by kernel_rfl
theorem hasBody_39 : hasBody Tryd.prog 39 = true := by kernel_rfl
theorem hasBody_40 : hasBody Tryd.prog 40 = true := by kernel_rfl
theorem hasBody_41 : hasBody Tryd.prog 41 = true := by kernel_rfl
theorem hasBody_42 : hasBody Tryd.prog 42 = true := by kernel_rfl
theorem hasBody_43 : hasBody Tryd.prog 43 = true := by kernel_rfl
theorem hasBody_44 : hasBody Tryd.prog 44 = true := by kernel_rfl
theorem hasBody_45 : hasBody Tryd.prog 45 = true := by kernel_rfl
theorem hasBody_46 : hasBody Tryd.prog 46 = true := by kernel_rfl
theorem hasBody_47 : hasBody Tryd.prog 47 = true := by kernel_rfl
theorem hasBody_48 : hasBody Tryd.prog 48 = true := by kernel_rfl
theorem hasBody_49 : hasBody Tryd.prog 49 = true := by kernel_rfl
theorem hasBody_50 : hasBody Tryd.prog 50 = true := by kernel_rfl
theorem hasBody_51 : hasBody Tryd.prog 51 = true := by kernel_rfl
theorem hasBody_52 : hasBody Tryd.prog 52 = true := by kernel_rfl
theorem hasBody_53 : hasBody Tryd.prog 53 = true := by kernel_rfl
theorem hasBody_54 : hasBody Tryd.prog 54 = true := by kernel_rfl
theorem hasBody_55 : hasBody Tryd.prog 55 = true := by kernel_rfl
theorem hasBody_64 : hasBody Tryd.prog 64 = true := by kernel_rfl
theorem hasBody_67 : hasBody Tryd.prog 67 = true := by kernel_rfl
theorem hasBody_68 : hasBody Tryd.prog 68 = true := by kernel_rfl
theorem hasBody_69 : hasBody Tryd.prog 69 = true := by kernel_rfl
theorem follows_all : Tryd.prog.follows .mixedOrders = true := by kernel_rfl
end Go.Proofs.YtmjglpdfkkmcoaaDoor
