/- Facts of this seat's types and functions, each by the kernel's reckoning; written by program. No conditions. -/
import Derived.Test.YtkkcmobnhiiacaaGreatDoorAwx
import Derived.Test.YtkkcmobnhiiacaaGreatDoorRows
set_option linter.unusedSimpArgs false
set_option linter.unusedVariables false
namespace Go.Proofs.YtkkcmobnhiiacaaGreatDoor

theorem cells_1 : Tryz.prog.cellsOf 1 = 1 := by kernel_rfl
theorem ti_1 : TI Tryz.prog 1 = some (false, 1) := by kernel_rfl
theorem zv_1 : ZV Tryz.prog 1 = some (.any) := by kernel_rfl
theorem zok_1 : ZOk Tryz.prog 1 1 = true := by kernel_rfl
theorem by_1 : byOf Tryz.prog 1 = 8 := by kernel_rfl
theorem cells_2 : Tryz.prog.cellsOf 2 = 1 := by kernel_rfl
theorem ti_2 : TI Tryz.prog 2 = some (false, 1) := by kernel_rfl
theorem intK_2 : intK Tryz.prog 2 = some .i64 := by kernel_rfl
theorem un_2 : Tryz.prog.underlying 2 = some (.int .i64) := by kernel_rfl
theorem zv_2 : ZV Tryz.prog 2 = some (.int .i64 0) := by kernel_rfl
theorem zok_2 : ZOk Tryz.prog 2 1 = true := by kernel_rfl
theorem by_2 : byOf Tryz.prog 2 = 8 := by kernel_rfl
theorem cells_3 : Tryz.prog.cellsOf 3 = 1 := by kernel_rfl
theorem ti_3 : TI Tryz.prog 3 = some (false, 1) := by kernel_rfl
theorem intK_3 : intK Tryz.prog 3 = some .i64 := by kernel_rfl
theorem un_3 : Tryz.prog.underlying 3 = some (.int .i64) := by kernel_rfl
theorem zv_3 : ZV Tryz.prog 3 = some (.int .i64 0) := by kernel_rfl
theorem zok_3 : ZOk Tryz.prog 3 1 = true := by kernel_rfl
theorem by_3 : byOf Tryz.prog 3 = 8 := by kernel_rfl
theorem cells_4 : Tryz.prog.cellsOf 4 = 1 := by kernel_rfl
theorem ti_4 : TI Tryz.prog 4 = some (false, 1) := by kernel_rfl
theorem isBoo_4 : isBoo Tryz.prog 4 = true := by kernel_rfl
theorem zv_4 : ZV Tryz.prog 4 = some (.bool false) := by kernel_rfl
theorem zok_4 : ZOk Tryz.prog 4 1 = true := by kernel_rfl
theorem by_4 : byOf Tryz.prog 4 = 1 := by kernel_rfl
theorem cells_5 : Tryz.prog.cellsOf 5 = 1 := by kernel_rfl
theorem ti_5 : TI Tryz.prog 5 = some (false, 1) := by kernel_rfl
theorem intK_5 : intK Tryz.prog 5 = some .u8 := by kernel_rfl
theorem un_5 : Tryz.prog.underlying 5 = some (.int .u8) := by kernel_rfl
theorem zv_5 : ZV Tryz.prog 5 = some (.int .u8 0) := by kernel_rfl
theorem zok_5 : ZOk Tryz.prog 5 1 = true := by kernel_rfl
theorem by_5 : byOf Tryz.prog 5 = 1 := by kernel_rfl
theorem cells_9 : Tryz.prog.cellsOf 9 = 1 := by kernel_rfl
theorem ti_9 : TI Tryz.prog 9 = some (false, 1) := by kernel_rfl
theorem isStr_9 : isStr Tryz.prog 9 = true := by kernel_rfl
theorem notInt_9 : notInt Tryz.prog 9 = true := by kernel_rfl
theorem zv_9 : ZV Tryz.prog 9 = some (.str []) := by kernel_rfl
theorem zok_9 : ZOk Tryz.prog 9 1 = true := by kernel_rfl
theorem by_9 : byOf Tryz.prog 9 = 16 := by kernel_rfl
theorem cells_12 : Tryz.prog.cellsOf 12 = 1 := by kernel_rfl
theorem ti_12 : TI Tryz.prog 12 = some (false, 1) := by kernel_rfl
theorem intK_12 : intK Tryz.prog 12 = some .u64 := by kernel_rfl
theorem un_12 : Tryz.prog.underlying 12 = some (.int .u64) := by kernel_rfl
theorem zv_12 : ZV Tryz.prog 12 = some (.int .u64 0) := by kernel_rfl
theorem zok_12 : ZOk Tryz.prog 12 1 = true := by kernel_rfl
theorem by_12 : byOf Tryz.prog 12 = 8 := by kernel_rfl
theorem cells_13 : Tryz.prog.cellsOf 13 = 2 := by kernel_rfl
theorem ti_13 : TI Tryz.prog 13 = some (true, 2) := by kernel_rfl
theorem fi_13_0 : FI Tryz.prog 13 0 = some (0, (false, 1)) := by kernel_rfl
theorem fi_13_1 : FI Tryz.prog 13 1 = some (1, (false, 1)) := by kernel_rfl
theorem si_13 : SI Tryz.prog 13 = some [(0, 1), (1, 1)] := by kernel_rfl
theorem zv_13 : ZV Tryz.prog 13 = some (.agg [.str [], .int .u64 0]) := by kernel_rfl
theorem zok_13 : ZOk Tryz.prog 13 2 = true := by kernel_rfl
theorem by_13 : byOf Tryz.prog 13 = 24 := by kernel_rfl
theorem cells_21 : Tryz.prog.cellsOf 21 = 1 := by kernel_rfl
theorem ti_21 : TI Tryz.prog 21 = some (false, 1) := by kernel_rfl
theorem intK_21 : intK Tryz.prog 21 = some .i32 := by kernel_rfl
theorem un_21 : Tryz.prog.underlying 21 = some (.int .i32) := by kernel_rfl
theorem zv_21 : ZV Tryz.prog 21 = some (.int .i32 0) := by kernel_rfl
theorem zok_21 : ZOk Tryz.prog 21 1 = true := by kernel_rfl
theorem by_21 : byOf Tryz.prog 21 = 4 := by kernel_rfl
theorem cells_22 : Tryz.prog.cellsOf 22 = 1 := by kernel_rfl
theorem ti_22 : TI Tryz.prog 22 = some (false, 1) := by kernel_rfl
theorem ei_22 : EI Tryz.prog 22 = some (9, 1) := by kernel_rfl
theorem isSli_22 : isSli Tryz.prog 22 = true := by kernel_rfl
theorem notInt_22 : notInt Tryz.prog 22 = true := by kernel_rfl
theorem zv_22 : ZV Tryz.prog 22 = some (.nils) := by kernel_rfl
theorem zok_22 : ZOk Tryz.prog 22 1 = true := by kernel_rfl
theorem by_22 : byOf Tryz.prog 22 = 24 := by kernel_rfl
theorem cells_23 : Tryz.prog.cellsOf 23 = 1 := by kernel_rfl
theorem ti_23 : TI Tryz.prog 23 = some (false, 1) := by kernel_rfl
theorem ei_23 : EI Tryz.prog 23 = some (35, 4) := by kernel_rfl
theorem isSli_23 : isSli Tryz.prog 23 = true := by kernel_rfl
theorem notInt_23 : notInt Tryz.prog 23 = true := by kernel_rfl
theorem zv_23 : ZV Tryz.prog 23 = some (.nils) := by kernel_rfl
theorem zok_23 : ZOk Tryz.prog 23 1 = true := by kernel_rfl
theorem by_23 : byOf Tryz.prog 23 = 24 := by kernel_rfl
theorem cells_24 : Tryz.prog.cellsOf 24 = 1 := by kernel_rfl
theorem ti_24 : TI Tryz.prog 24 = some (false, 1) := by kernel_rfl
theorem intK_24 : intK Tryz.prog 24 = some .i64 := by kernel_rfl
theorem un_24 : Tryz.prog.underlying 24 = some (.int .i64) := by kernel_rfl
theorem zv_24 : ZV Tryz.prog 24 = some (.int .i64 0) := by kernel_rfl
theorem zok_24 : ZOk Tryz.prog 24 1 = true := by kernel_rfl
theorem by_24 : byOf Tryz.prog 24 = 8 := by kernel_rfl
theorem cells_26 : Tryz.prog.cellsOf 26 = 1 := by kernel_rfl
theorem ti_26 : TI Tryz.prog 26 = some (false, 1) := by kernel_rfl
theorem zv_26 : ZV Tryz.prog 26 = some (.any) := by kernel_rfl
theorem zok_26 : ZOk Tryz.prog 26 1 = true := by kernel_rfl
theorem by_26 : byOf Tryz.prog 26 = 8 := by kernel_rfl
theorem cells_27 : Tryz.prog.cellsOf 27 = 1 := by kernel_rfl
theorem ti_27 : TI Tryz.prog 27 = some (false, 1) := by kernel_rfl
theorem zv_27 : ZV Tryz.prog 27 = some (.any) := by kernel_rfl
theorem zok_27 : ZOk Tryz.prog 27 1 = true := by kernel_rfl
theorem by_27 : byOf Tryz.prog 27 = 8 := by kernel_rfl
theorem cells_28 : Tryz.prog.cellsOf 28 = 1 := by kernel_rfl
theorem ti_28 : TI Tryz.prog 28 = some (false, 1) := by kernel_rfl
theorem zv_28 : ZV Tryz.prog 28 = some (.any) := by kernel_rfl
theorem zok_28 : ZOk Tryz.prog 28 1 = true := by kernel_rfl
theorem by_28 : byOf Tryz.prog 28 = 8 := by kernel_rfl
theorem cells_29 : Tryz.prog.cellsOf 29 = 1 := by kernel_rfl
theorem ti_29 : TI Tryz.prog 29 = some (false, 1) := by kernel_rfl
theorem zv_29 : ZV Tryz.prog 29 = some (.any) := by kernel_rfl
theorem zok_29 : ZOk Tryz.prog 29 1 = true := by kernel_rfl
theorem by_29 : byOf Tryz.prog 29 = 8 := by kernel_rfl
theorem cells_30 : Tryz.prog.cellsOf 30 = 1 := by kernel_rfl
theorem ti_30 : TI Tryz.prog 30 = some (false, 1) := by kernel_rfl
theorem zv_30 : ZV Tryz.prog 30 = some (.any) := by kernel_rfl
theorem zok_30 : ZOk Tryz.prog 30 1 = true := by kernel_rfl
theorem by_30 : byOf Tryz.prog 30 = 8 := by kernel_rfl
theorem cells_32 : Tryz.prog.cellsOf 32 = 1 := by kernel_rfl
theorem ti_32 : TI Tryz.prog 32 = some (false, 1) := by kernel_rfl
theorem zv_32 : ZV Tryz.prog 32 = some (.any) := by kernel_rfl
theorem zok_32 : ZOk Tryz.prog 32 1 = true := by kernel_rfl
theorem by_32 : byOf Tryz.prog 32 = 8 := by kernel_rfl
theorem cells_33 : Tryz.prog.cellsOf 33 = 1 := by kernel_rfl
theorem ti_33 : TI Tryz.prog 33 = some (false, 1) := by kernel_rfl
theorem ei_33 : EI Tryz.prog 33 = some (41, 2) := by kernel_rfl
theorem isSli_33 : isSli Tryz.prog 33 = true := by kernel_rfl
theorem notInt_33 : notInt Tryz.prog 33 = true := by kernel_rfl
theorem zv_33 : ZV Tryz.prog 33 = some (.nils) := by kernel_rfl
theorem zok_33 : ZOk Tryz.prog 33 1 = true := by kernel_rfl
theorem by_33 : byOf Tryz.prog 33 = 24 := by kernel_rfl
theorem cells_34 : Tryz.prog.cellsOf 34 = 4 := by kernel_rfl
theorem ti_34 : TI Tryz.prog 34 = some (true, 4) := by kernel_rfl
theorem fi_34_0 : FI Tryz.prog 34 0 = some (0, (false, 1)) := by kernel_rfl
theorem fi_34_1 : FI Tryz.prog 34 1 = some (1, (false, 1)) := by kernel_rfl
theorem fi_34_2 : FI Tryz.prog 34 2 = some (2, (false, 1)) := by kernel_rfl
theorem fi_34_3 : FI Tryz.prog 34 3 = some (3, (false, 1)) := by kernel_rfl
theorem si_34 : SI Tryz.prog 34 = some [(0, 1), (1, 1), (2, 1), (3, 1)] := by kernel_rfl
theorem zv_34 : ZV Tryz.prog 34 = some (.agg [.str [], .nils, .str [], .nils]) := by kernel_rfl
theorem zok_34 : ZOk Tryz.prog 34 4 = true := by kernel_rfl
theorem by_34 : byOf Tryz.prog 34 = 80 := by kernel_rfl
theorem cells_35 : Tryz.prog.cellsOf 35 = 4 := by kernel_rfl
theorem ti_35 : TI Tryz.prog 35 = some (true, 4) := by kernel_rfl
theorem fi_35_0 : FI Tryz.prog 35 0 = some (0, (false, 1)) := by kernel_rfl
theorem fi_35_1 : FI Tryz.prog 35 1 = some (1, (false, 1)) := by kernel_rfl
theorem fi_35_2 : FI Tryz.prog 35 2 = some (2, (false, 1)) := by kernel_rfl
theorem fi_35_3 : FI Tryz.prog 35 3 = some (3, (false, 1)) := by kernel_rfl
theorem si_35 : SI Tryz.prog 35 = some [(0, 1), (1, 1), (2, 1), (3, 1)] := by kernel_rfl
theorem zv_35 : ZV Tryz.prog 35 = some (.agg [.str [], .nils, .str [], .nils]) := by kernel_rfl
theorem zok_35 : ZOk Tryz.prog 35 4 = true := by kernel_rfl
theorem by_35 : byOf Tryz.prog 35 = 80 := by kernel_rfl
theorem cells_36 : Tryz.prog.cellsOf 36 = 1 := by kernel_rfl
theorem ti_36 : TI Tryz.prog 36 = some (false, 1) := by kernel_rfl
theorem zv_36 : ZV Tryz.prog 36 = some (.any) := by kernel_rfl
theorem zok_36 : ZOk Tryz.prog 36 1 = true := by kernel_rfl
theorem by_36 : byOf Tryz.prog 36 = 8 := by kernel_rfl
theorem cells_38 : Tryz.prog.cellsOf 38 = 1 := by kernel_rfl
theorem ti_38 : TI Tryz.prog 38 = some (false, 1) := by kernel_rfl
theorem zv_38 : ZV Tryz.prog 38 = some (.any) := by kernel_rfl
theorem zok_38 : ZOk Tryz.prog 38 1 = true := by kernel_rfl
theorem by_38 : byOf Tryz.prog 38 = 8 := by kernel_rfl
theorem cells_39 : Tryz.prog.cellsOf 39 = 1 := by kernel_rfl
theorem ti_39 : TI Tryz.prog 39 = some (false, 1) := by kernel_rfl
theorem zv_39 : ZV Tryz.prog 39 = some (.any) := by kernel_rfl
theorem zok_39 : ZOk Tryz.prog 39 1 = true := by kernel_rfl
theorem by_39 : byOf Tryz.prog 39 = 8 := by kernel_rfl
theorem cells_40 : Tryz.prog.cellsOf 40 = 2 := by kernel_rfl
theorem ti_40 : TI Tryz.prog 40 = some (true, 2) := by kernel_rfl
theorem fi_40_0 : FI Tryz.prog 40 0 = some (0, (false, 1)) := by kernel_rfl
theorem fi_40_1 : FI Tryz.prog 40 1 = some (1, (false, 1)) := by kernel_rfl
theorem si_40 : SI Tryz.prog 40 = some [(0, 1), (1, 1)] := by kernel_rfl
theorem zv_40 : ZV Tryz.prog 40 = some (.agg [.str [], .str []]) := by kernel_rfl
theorem zok_40 : ZOk Tryz.prog 40 2 = true := by kernel_rfl
theorem by_40 : byOf Tryz.prog 40 = 32 := by kernel_rfl
theorem cells_41 : Tryz.prog.cellsOf 41 = 2 := by kernel_rfl
theorem ti_41 : TI Tryz.prog 41 = some (true, 2) := by kernel_rfl
theorem fi_41_0 : FI Tryz.prog 41 0 = some (0, (false, 1)) := by kernel_rfl
theorem fi_41_1 : FI Tryz.prog 41 1 = some (1, (false, 1)) := by kernel_rfl
theorem si_41 : SI Tryz.prog 41 = some [(0, 1), (1, 1)] := by kernel_rfl
theorem zv_41 : ZV Tryz.prog 41 = some (.agg [.str [], .str []]) := by kernel_rfl
theorem zok_41 : ZOk Tryz.prog 41 2 = true := by kernel_rfl
theorem by_41 : byOf Tryz.prog 41 = 32 := by kernel_rfl
theorem cells_42 : Tryz.prog.cellsOf 42 = 1 := by kernel_rfl
theorem ti_42 : TI Tryz.prog 42 = some (false, 1) := by kernel_rfl
theorem zv_42 : ZV Tryz.prog 42 = some (.any) := by kernel_rfl
theorem zok_42 : ZOk Tryz.prog 42 1 = true := by kernel_rfl
theorem by_42 : byOf Tryz.prog 42 = 8 := by kernel_rfl
theorem cells_43 : Tryz.prog.cellsOf 43 = 1 := by kernel_rfl
theorem ti_43 : TI Tryz.prog 43 = some (false, 1) := by kernel_rfl
theorem zv_43 : ZV Tryz.prog 43 = some (.any) := by kernel_rfl
theorem zok_43 : ZOk Tryz.prog 43 1 = true := by kernel_rfl
theorem by_43 : byOf Tryz.prog 43 = 8 := by kernel_rfl
theorem cells_44 : Tryz.prog.cellsOf 44 = 1 := by kernel_rfl
theorem ti_44 : TI Tryz.prog 44 = some (false, 1) := by kernel_rfl
theorem zv_44 : ZV Tryz.prog 44 = some (.any) := by kernel_rfl
theorem zok_44 : ZOk Tryz.prog 44 1 = true := by kernel_rfl
theorem by_44 : byOf Tryz.prog 44 = 8 := by kernel_rfl
theorem cells_45 : Tryz.prog.cellsOf 45 = 1 := by kernel_rfl
theorem ti_45 : TI Tryz.prog 45 = some (false, 1) := by kernel_rfl
theorem zv_45 : ZV Tryz.prog 45 = some (.any) := by kernel_rfl
theorem zok_45 : ZOk Tryz.prog 45 1 = true := by kernel_rfl
theorem by_45 : byOf Tryz.prog 45 = 8 := by kernel_rfl
theorem cells_46 : Tryz.prog.cellsOf 46 = 1 := by kernel_rfl
theorem ti_46 : TI Tryz.prog 46 = some (false, 1) := by kernel_rfl
theorem zv_46 : ZV Tryz.prog 46 = some (.any) := by kernel_rfl
theorem zok_46 : ZOk Tryz.prog 46 1 = true := by kernel_rfl
theorem by_46 : byOf Tryz.prog 46 = 8 := by kernel_rfl
theorem cells_47 : Tryz.prog.cellsOf 47 = 1 := by kernel_rfl
theorem ti_47 : TI Tryz.prog 47 = some (false, 1) := by kernel_rfl
theorem zv_47 : ZV Tryz.prog 47 = some (.any) := by kernel_rfl
theorem zok_47 : ZOk Tryz.prog 47 1 = true := by kernel_rfl
theorem by_47 : byOf Tryz.prog 47 = 8 := by kernel_rfl
theorem cells_48 : Tryz.prog.cellsOf 48 = 1 := by kernel_rfl
theorem ti_48 : TI Tryz.prog 48 = some (false, 1) := by kernel_rfl
theorem zv_48 : ZV Tryz.prog 48 = some (.any) := by kernel_rfl
theorem zok_48 : ZOk Tryz.prog 48 1 = true := by kernel_rfl
theorem by_48 : byOf Tryz.prog 48 = 8 := by kernel_rfl
theorem cells_49 : Tryz.prog.cellsOf 49 = 1 := by kernel_rfl
theorem ti_49 : TI Tryz.prog 49 = some (false, 1) := by kernel_rfl
theorem zv_49 : ZV Tryz.prog 49 = some (.any) := by kernel_rfl
theorem zok_49 : ZOk Tryz.prog 49 1 = true := by kernel_rfl
theorem by_49 : byOf Tryz.prog 49 = 8 := by kernel_rfl
theorem cells_50 : Tryz.prog.cellsOf 50 = 1 := by kernel_rfl
theorem ti_50 : TI Tryz.prog 50 = some (false, 1) := by kernel_rfl
theorem zv_50 : ZV Tryz.prog 50 = some (.any) := by kernel_rfl
theorem zok_50 : ZOk Tryz.prog 50 1 = true := by kernel_rfl
theorem by_50 : byOf Tryz.prog 50 = 8 := by kernel_rfl
theorem cells_51 : Tryz.prog.cellsOf 51 = 1 := by kernel_rfl
theorem ti_51 : TI Tryz.prog 51 = some (false, 1) := by kernel_rfl
theorem zv_51 : ZV Tryz.prog 51 = some (.any) := by kernel_rfl
theorem zok_51 : ZOk Tryz.prog 51 1 = true := by kernel_rfl
theorem by_51 : byOf Tryz.prog 51 = 8 := by kernel_rfl
theorem cells_52 : Tryz.prog.cellsOf 52 = 1 := by kernel_rfl
theorem ti_52 : TI Tryz.prog 52 = some (false, 1) := by kernel_rfl
theorem zv_52 : ZV Tryz.prog 52 = some (.any) := by kernel_rfl
theorem zok_52 : ZOk Tryz.prog 52 1 = true := by kernel_rfl
theorem by_52 : byOf Tryz.prog 52 = 8 := by kernel_rfl
theorem cells_53 : Tryz.prog.cellsOf 53 = 1 := by kernel_rfl
theorem ti_53 : TI Tryz.prog 53 = some (false, 1) := by kernel_rfl
theorem isPtr_53 : isPtr Tryz.prog 53 = true := by kernel_rfl
theorem zv_53 : ZV Tryz.prog 53 = some (.nilp) := by kernel_rfl
theorem zok_53 : ZOk Tryz.prog 53 1 = true := by kernel_rfl
theorem by_53 : byOf Tryz.prog 53 = 8 := by kernel_rfl
theorem cells_54 : Tryz.prog.cellsOf 54 = 1 := by kernel_rfl
theorem ti_54 : TI Tryz.prog 54 = some (false, 1) := by kernel_rfl
theorem zv_54 : ZV Tryz.prog 54 = some (.any) := by kernel_rfl
theorem zok_54 : ZOk Tryz.prog 54 1 = true := by kernel_rfl
theorem by_54 : byOf Tryz.prog 54 = 8 := by kernel_rfl
theorem cells_55 : Tryz.prog.cellsOf 55 = 1 := by kernel_rfl
theorem ti_55 : TI Tryz.prog 55 = some (false, 1) := by kernel_rfl
theorem ei_55 : EI Tryz.prog 55 = some (5, 1) := by kernel_rfl
theorem isSli_55 : isSli Tryz.prog 55 = true := by kernel_rfl
theorem notInt_55 : notInt Tryz.prog 55 = true := by kernel_rfl
theorem zv_55 : ZV Tryz.prog 55 = some (.nils) := by kernel_rfl
theorem zok_55 : ZOk Tryz.prog 55 1 = true := by kernel_rfl
theorem by_55 : byOf Tryz.prog 55 = 24 := by kernel_rfl
theorem cells_56 : Tryz.prog.cellsOf 56 = 1 := by kernel_rfl
theorem ti_56 : TI Tryz.prog 56 = some (false, 1) := by kernel_rfl
theorem zv_56 : ZV Tryz.prog 56 = some (.any) := by kernel_rfl
theorem zok_56 : ZOk Tryz.prog 56 1 = true := by kernel_rfl
theorem by_56 : byOf Tryz.prog 56 = 8 := by kernel_rfl
theorem cells_57 : Tryz.prog.cellsOf 57 = 256 := by kernel_rfl
theorem ti_57 : TI Tryz.prog 57 = some (true, 256) := by kernel_rfl
theorem ai_57 : AI Tryz.prog 57 = some (256, (false, 1)) := by kernel_rfl
theorem zv_57 : ZV Tryz.prog 57 = some (.agg [.bool false, .bool false, .bool false, .bool false, .bool false, .bool false, .bool false, .bool false, .bool false, .bool false, .bool false, .bool false, .bool false, .bool false, .bool false, .bool false, .bool false, .bool false, .bool false, .bool false, .bool false, .bool false, .bool false, .bool false, .bool false, .bool false, .bool false, .bool false, .bool false, .bool false, .bool false, .bool false, .bool false, .bool false, .bool false, .bool false, .bool false, .bool false, .bool false, .bool false, .bool false, .bool false, .bool false, .bool false, .bool false, .bool false, .bool false, .bool false, .bool false, .bool false, .bool false, .bool false, .bool false, .bool false, .bool false, .bool false, .bool false, .bool false, .bool false, .bool false, .bool false, .bool false, .bool false, .bool false, .bool false, .bool false, .bool false, .bool false, .bool false, .bool false, .bool false, .bool false, .bool false, .bool false, .bool false, .bool false, .bool false, .bool false, .bool false, .bool false, .bool false, .bool false, .bool false, .bool false, .bool false, .bool false, .bool false, .bool false, .bool false, .bool false, .bool false, .bool false, .bool false, .bool false, .bool false, .bool false, .bool false, .bool false, .bool false, .bool false, .bool false, .bool false, .bool false, .bool false, .bool false, .bool false, .bool false, .bool false, .bool false, .bool false, .bool false, .bool false, .bool false, .bool false, .bool false, .bool false, .bool false, .bool false, .bool false, .bool false, .bool false, .bool false, .bool false, .bool false, .bool false, .bool false, .bool false, .bool false, .bool false, .bool false, .bool false, .bool false, .bool false, .bool false, .bool false, .bool false, .bool false, .bool false, .bool false, .bool false, .bool false, .bool false, .bool false, .bool false, .bool false, .bool false, .bool false, .bool false, .bool false, .bool false, .bool false, .bool false, .bool false, .bool false, .bool false, .bool false, .bool false, .bool false, .bool false, .bool false, .bool false, .bool false, .bool false, .bool false, .bool false, .bool false, .bool false, .bool false, .bool false, .bool false, .bool false, .bool false, .bool false, .bool false, .bool false, .bool false, .bool false, .bool false, .bool false, .bool false, .bool false, .bool false, .bool false, .bool false, .bool false, .bool false, .bool false, .bool false, .bool false, .bool false, .bool false, .bool false, .bool false, .bool false, .bool false, .bool false, .bool false, .bool false, .bool false, .bool false, .bool false, .bool false, .bool false, .bool false, .bool false, .bool false, .bool false, .bool false, .bool false, .bool false, .bool false, .bool false, .bool false, .bool false, .bool false, .bool false, .bool false, .bool false, .bool false, .bool false, .bool false, .bool false, .bool false, .bool false, .bool false, .bool false, .bool false, .bool false, .bool false, .bool false, .bool false, .bool false, .bool false, .bool false, .bool false, .bool false, .bool false, .bool false, .bool false, .bool false, .bool false, .bool false, .bool false, .bool false, .bool false, .bool false, .bool false, .bool false, .bool false, .bool false, .bool false, .bool false, .bool false, .bool false, .bool false, .bool false]) := by kernel_rfl
theorem zok_57 : ZOk Tryz.prog 57 256 = true := by kernel_rfl
theorem by_57 : byOf Tryz.prog 57 = 256 := by kernel_rfl
theorem cells_58 : Tryz.prog.cellsOf 58 = 256 := by kernel_rfl
theorem ti_58 : TI Tryz.prog 58 = some (true, 256) := by kernel_rfl
theorem ai_58 : AI Tryz.prog 58 = some (256, (false, 1)) := by kernel_rfl
theorem zv_58 : ZV Tryz.prog 58 = some (.agg [.bool false, .bool false, .bool false, .bool false, .bool false, .bool false, .bool false, .bool false, .bool false, .bool false, .bool false, .bool false, .bool false, .bool false, .bool false, .bool false, .bool false, .bool false, .bool false, .bool false, .bool false, .bool false, .bool false, .bool false, .bool false, .bool false, .bool false, .bool false, .bool false, .bool false, .bool false, .bool false, .bool false, .bool false, .bool false, .bool false, .bool false, .bool false, .bool false, .bool false, .bool false, .bool false, .bool false, .bool false, .bool false, .bool false, .bool false, .bool false, .bool false, .bool false, .bool false, .bool false, .bool false, .bool false, .bool false, .bool false, .bool false, .bool false, .bool false, .bool false, .bool false, .bool false, .bool false, .bool false, .bool false, .bool false, .bool false, .bool false, .bool false, .bool false, .bool false, .bool false, .bool false, .bool false, .bool false, .bool false, .bool false, .bool false, .bool false, .bool false, .bool false, .bool false, .bool false, .bool false, .bool false, .bool false, .bool false, .bool false, .bool false, .bool false, .bool false, .bool false, .bool false, .bool false, .bool false, .bool false, .bool false, .bool false, .bool false, .bool false, .bool false, .bool false, .bool false, .bool false, .bool false, .bool false, .bool false, .bool false, .bool false, .bool false, .bool false, .bool false, .bool false, .bool false, .bool false, .bool false, .bool false, .bool false, .bool false, .bool false, .bool false, .bool false, .bool false, .bool false, .bool false, .bool false, .bool false, .bool false, .bool false, .bool false, .bool false, .bool false, .bool false, .bool false, .bool false, .bool false, .bool false, .bool false, .bool false, .bool false, .bool false, .bool false, .bool false, .bool false, .bool false, .bool false, .bool false, .bool false, .bool false, .bool false, .bool false, .bool false, .bool false, .bool false, .bool false, .bool false, .bool false, .bool false, .bool false, .bool false, .bool false, .bool false, .bool false, .bool false, .bool false, .bool false, .bool false, .bool false, .bool false, .bool false, .bool false, .bool false, .bool false, .bool false, .bool false, .bool false, .bool false, .bool false, .bool false, .bool false, .bool false, .bool false, .bool false, .bool false, .bool false, .bool false, .bool false, .bool false, .bool false, .bool false, .bool false, .bool false, .bool false, .bool false, .bool false, .bool false, .bool false, .bool false, .bool false, .bool false, .bool false, .bool false, .bool false, .bool false, .bool false, .bool false, .bool false, .bool false, .bool false, .bool false, .bool false, .bool false, .bool false, .bool false, .bool false, .bool false, .bool false, .bool false, .bool false, .bool false, .bool false, .bool false, .bool false, .bool false, .bool false, .bool false, .bool false, .bool false, .bool false, .bool false, .bool false, .bool false, .bool false, .bool false, .bool false, .bool false, .bool false, .bool false, .bool false, .bool false, .bool false, .bool false, .bool false, .bool false, .bool false, .bool false, .bool false, .bool false, .bool false, .bool false, .bool false, .bool false, .bool false, .bool false, .bool false, .bool false]) := by kernel_rfl
theorem zok_58 : ZOk Tryz.prog 58 256 = true := by kernel_rfl
theorem by_58 : byOf Tryz.prog 58 = 256 := by kernel_rfl
theorem cells_60 : Tryz.prog.cellsOf 60 = 1 := by kernel_rfl
theorem ti_60 : TI Tryz.prog 60 = some (false, 1) := by kernel_rfl
theorem zv_60 : ZV Tryz.prog 60 = some (.any) := by kernel_rfl
theorem zok_60 : ZOk Tryz.prog 60 1 = true := by kernel_rfl
theorem by_60 : byOf Tryz.prog 60 = 8 := by kernel_rfl
theorem cells_61 : Tryz.prog.cellsOf 61 = 1 := by kernel_rfl
theorem ti_61 : TI Tryz.prog 61 = some (false, 1) := by kernel_rfl
theorem zv_61 : ZV Tryz.prog 61 = some (.any) := by kernel_rfl
theorem zok_61 : ZOk Tryz.prog 61 1 = true := by kernel_rfl
theorem by_61 : byOf Tryz.prog 61 = 8 := by kernel_rfl
theorem cells_62 : Tryz.prog.cellsOf 62 = 1 := by kernel_rfl
theorem ti_62 : TI Tryz.prog 62 = some (false, 1) := by kernel_rfl
theorem isPtr_62 : isPtr Tryz.prog 62 = true := by kernel_rfl
theorem zv_62 : ZV Tryz.prog 62 = some (.nilp) := by kernel_rfl
theorem zok_62 : ZOk Tryz.prog 62 1 = true := by kernel_rfl
theorem by_62 : byOf Tryz.prog 62 = 8 := by kernel_rfl
theorem cells_63 : Tryz.prog.cellsOf 63 = 0 := by kernel_rfl
theorem ti_63 : TI Tryz.prog 63 = some (true, 0) := by kernel_rfl
theorem zv_63 : ZV Tryz.prog 63 = some (.agg []) := by kernel_rfl
theorem by_63 : byOf Tryz.prog 63 = 0 := by kernel_rfl
theorem cells_64 : Tryz.prog.cellsOf 64 = 0 := by kernel_rfl
theorem ti_64 : TI Tryz.prog 64 = some (true, 0) := by kernel_rfl
theorem zv_64 : ZV Tryz.prog 64 = some (.agg []) := by kernel_rfl
theorem by_64 : byOf Tryz.prog 64 = 0 := by kernel_rfl
theorem cells_65 : Tryz.prog.cellsOf 65 = 0 := by kernel_rfl
theorem ti_65 : TI Tryz.prog 65 = some (true, 0) := by kernel_rfl
theorem zv_65 : ZV Tryz.prog 65 = some (.agg []) := by kernel_rfl
theorem by_65 : byOf Tryz.prog 65 = 0 := by kernel_rfl
theorem cells_66 : Tryz.prog.cellsOf 66 = 1 := by kernel_rfl
theorem ti_66 : TI Tryz.prog 66 = some (false, 1) := by kernel_rfl
theorem intK_66 : intK Tryz.prog 66 = some .u32 := by kernel_rfl
theorem un_66 : Tryz.prog.underlying 66 = some (.int .u32) := by kernel_rfl
theorem zv_66 : ZV Tryz.prog 66 = some (.int .u32 0) := by kernel_rfl
theorem zok_66 : ZOk Tryz.prog 66 1 = true := by kernel_rfl
theorem by_66 : byOf Tryz.prog 66 = 4 := by kernel_rfl
theorem cells_67 : Tryz.prog.cellsOf 67 = 1 := by kernel_rfl
theorem ti_67 : TI Tryz.prog 67 = some (true, 1) := by kernel_rfl
theorem fi_67_1 : FI Tryz.prog 67 1 = some (0, (false, 1)) := by kernel_rfl
theorem si_67 : SI Tryz.prog 67 = some [(0, 0), (0, 1)] := by kernel_rfl
theorem zv_67 : ZV Tryz.prog 67 = some (.agg [.int .u32 0]) := by kernel_rfl
theorem zok_67 : ZOk Tryz.prog 67 1 = true := by kernel_rfl
theorem by_67 : byOf Tryz.prog 67 = 4 := by kernel_rfl
theorem cells_68 : Tryz.prog.cellsOf 68 = 1 := by kernel_rfl
theorem ti_68 : TI Tryz.prog 68 = some (true, 1) := by kernel_rfl
theorem fi_68_1 : FI Tryz.prog 68 1 = some (0, (false, 1)) := by kernel_rfl
theorem si_68 : SI Tryz.prog 68 = some [(0, 0), (0, 1)] := by kernel_rfl
theorem zv_68 : ZV Tryz.prog 68 = some (.agg [.int .u32 0]) := by kernel_rfl
theorem zok_68 : ZOk Tryz.prog 68 1 = true := by kernel_rfl
theorem by_68 : byOf Tryz.prog 68 = 4 := by kernel_rfl
theorem cells_69 : Tryz.prog.cellsOf 69 = 2 := by kernel_rfl
theorem ti_69 : TI Tryz.prog 69 = some (true, 2) := by kernel_rfl
theorem fi_69_0 : FI Tryz.prog 69 0 = some (0, (false, 1)) := by kernel_rfl
theorem fi_69_1 : FI Tryz.prog 69 1 = some (1, (false, 1)) := by kernel_rfl
theorem si_69 : SI Tryz.prog 69 = some [(0, 1), (1, 1)] := by kernel_rfl
theorem zv_69 : ZV Tryz.prog 69 = some (.agg [.int .i32 0, .int .u32 0]) := by kernel_rfl
theorem zok_69 : ZOk Tryz.prog 69 2 = true := by kernel_rfl
theorem by_69 : byOf Tryz.prog 69 = 8 := by kernel_rfl
theorem cells_70 : Tryz.prog.cellsOf 70 = 2 := by kernel_rfl
theorem ti_70 : TI Tryz.prog 70 = some (true, 2) := by kernel_rfl
theorem fi_70_0 : FI Tryz.prog 70 0 = some (0, (false, 1)) := by kernel_rfl
theorem fi_70_1 : FI Tryz.prog 70 1 = some (1, (false, 1)) := by kernel_rfl
theorem si_70 : SI Tryz.prog 70 = some [(0, 1), (1, 1)] := by kernel_rfl
theorem zv_70 : ZV Tryz.prog 70 = some (.agg [.int .i32 0, .int .u32 0]) := by kernel_rfl
theorem zok_70 : ZOk Tryz.prog 70 2 = true := by kernel_rfl
theorem by_70 : byOf Tryz.prog 70 = 8 := by kernel_rfl
theorem cells_71 : Tryz.prog.cellsOf 71 = 2 := by kernel_rfl
theorem ti_71 : TI Tryz.prog 71 = some (true, 2) := by kernel_rfl
theorem fi_71_1 : FI Tryz.prog 71 1 = some (0, (true, 2)) := by kernel_rfl
theorem si_71 : SI Tryz.prog 71 = some [(0, 0), (0, 2)] := by kernel_rfl
theorem zv_71 : ZV Tryz.prog 71 = some (.agg [.int .i32 0, .int .u32 0]) := by kernel_rfl
theorem zok_71 : ZOk Tryz.prog 71 2 = true := by kernel_rfl
theorem by_71 : byOf Tryz.prog 71 = 8 := by kernel_rfl
theorem cells_72 : Tryz.prog.cellsOf 72 = 2 := by kernel_rfl
theorem ti_72 : TI Tryz.prog 72 = some (true, 2) := by kernel_rfl
theorem fi_72_1 : FI Tryz.prog 72 1 = some (0, (true, 2)) := by kernel_rfl
theorem si_72 : SI Tryz.prog 72 = some [(0, 0), (0, 2)] := by kernel_rfl
theorem zv_72 : ZV Tryz.prog 72 = some (.agg [.int .i32 0, .int .u32 0]) := by kernel_rfl
theorem zok_72 : ZOk Tryz.prog 72 2 = true := by kernel_rfl
theorem by_72 : byOf Tryz.prog 72 = 8 := by kernel_rfl
theorem cells_73 : Tryz.prog.cellsOf 73 = 3 := by kernel_rfl
theorem ti_73 : TI Tryz.prog 73 = some (true, 3) := by kernel_rfl
theorem fi_73_1 : FI Tryz.prog 73 1 = some (0, (true, 1)) := by kernel_rfl
theorem fi_73_2 : FI Tryz.prog 73 2 = some (1, (true, 2)) := by kernel_rfl
theorem si_73 : SI Tryz.prog 73 = some [(0, 0), (0, 1), (1, 2)] := by kernel_rfl
theorem zv_73 : ZV Tryz.prog 73 = some (.agg [.int .u32 0, .int .i32 0, .int .u32 0]) := by kernel_rfl
theorem zok_73 : ZOk Tryz.prog 73 3 = true := by kernel_rfl
theorem by_73 : byOf Tryz.prog 73 = 12 := by kernel_rfl
theorem cells_74 : Tryz.prog.cellsOf 74 = 3 := by kernel_rfl
theorem ti_74 : TI Tryz.prog 74 = some (true, 3) := by kernel_rfl
theorem fi_74_1 : FI Tryz.prog 74 1 = some (0, (true, 1)) := by kernel_rfl
theorem fi_74_2 : FI Tryz.prog 74 2 = some (1, (true, 2)) := by kernel_rfl
theorem si_74 : SI Tryz.prog 74 = some [(0, 0), (0, 1), (1, 2)] := by kernel_rfl
theorem zv_74 : ZV Tryz.prog 74 = some (.agg [.int .u32 0, .int .i32 0, .int .u32 0]) := by kernel_rfl
theorem zok_74 : ZOk Tryz.prog 74 3 = true := by kernel_rfl
theorem by_74 : byOf Tryz.prog 74 = 12 := by kernel_rfl
theorem cells_77 : Tryz.prog.cellsOf 77 = 5 := by kernel_rfl
theorem ti_77 : TI Tryz.prog 77 = some (true, 5) := by kernel_rfl
theorem fi_77_0 : FI Tryz.prog 77 0 = some (0, (true, 3)) := by kernel_rfl
theorem fi_77_1 : FI Tryz.prog 77 1 = some (3, (false, 1)) := by kernel_rfl
theorem fi_77_2 : FI Tryz.prog 77 2 = some (4, (false, 1)) := by kernel_rfl
theorem si_77 : SI Tryz.prog 77 = some [(0, 3), (3, 1), (4, 1)] := by kernel_rfl
theorem zv_77 : ZV Tryz.prog 77 = some (.agg [.int .u32 0, .int .i32 0, .int .u32 0, .nili, .nils]) := by kernel_rfl
theorem zok_77 : ZOk Tryz.prog 77 5 = true := by kernel_rfl
theorem by_77 : byOf Tryz.prog 77 = 56 := by kernel_rfl
theorem cells_78 : Tryz.prog.cellsOf 78 = 5 := by kernel_rfl
theorem ti_78 : TI Tryz.prog 78 = some (true, 5) := by kernel_rfl
theorem fi_78_0 : FI Tryz.prog 78 0 = some (0, (true, 3)) := by kernel_rfl
theorem fi_78_1 : FI Tryz.prog 78 1 = some (3, (false, 1)) := by kernel_rfl
theorem fi_78_2 : FI Tryz.prog 78 2 = some (4, (false, 1)) := by kernel_rfl
theorem si_78 : SI Tryz.prog 78 = some [(0, 3), (3, 1), (4, 1)] := by kernel_rfl
theorem zv_78 : ZV Tryz.prog 78 = some (.agg [.int .u32 0, .int .i32 0, .int .u32 0, .nili, .nils]) := by kernel_rfl
theorem zok_78 : ZOk Tryz.prog 78 5 = true := by kernel_rfl
theorem by_78 : byOf Tryz.prog 78 = 56 := by kernel_rfl
theorem cells_79 : Tryz.prog.cellsOf 79 = 1 := by kernel_rfl
theorem ti_79 : TI Tryz.prog 79 = some (false, 1) := by kernel_rfl
theorem zv_79 : ZV Tryz.prog 79 = some (.any) := by kernel_rfl
theorem zok_79 : ZOk Tryz.prog 79 1 = true := by kernel_rfl
theorem by_79 : byOf Tryz.prog 79 = 8 := by kernel_rfl
theorem cells_81 : Tryz.prog.cellsOf 81 = 1 := by kernel_rfl
theorem ti_81 : TI Tryz.prog 81 = some (false, 1) := by kernel_rfl
theorem zv_81 : ZV Tryz.prog 81 = some (.any) := by kernel_rfl
theorem zok_81 : ZOk Tryz.prog 81 1 = true := by kernel_rfl
theorem by_81 : byOf Tryz.prog 81 = 8 := by kernel_rfl
theorem cells_82 : Tryz.prog.cellsOf 82 = 1 := by kernel_rfl
theorem ti_82 : TI Tryz.prog 82 = some (false, 1) := by kernel_rfl
theorem zv_82 : ZV Tryz.prog 82 = some (.any) := by kernel_rfl
theorem zok_82 : ZOk Tryz.prog 82 1 = true := by kernel_rfl
theorem by_82 : byOf Tryz.prog 82 = 8 := by kernel_rfl
theorem cells_83 : Tryz.prog.cellsOf 83 = 1 := by kernel_rfl
theorem ti_83 : TI Tryz.prog 83 = some (false, 1) := by kernel_rfl
theorem isPtr_83 : isPtr Tryz.prog 83 = true := by kernel_rfl
theorem zv_83 : ZV Tryz.prog 83 = some (.nilp) := by kernel_rfl
theorem zok_83 : ZOk Tryz.prog 83 1 = true := by kernel_rfl
theorem by_83 : byOf Tryz.prog 83 = 8 := by kernel_rfl
theorem cells_84 : Tryz.prog.cellsOf 84 = 1 := by kernel_rfl
theorem ti_84 : TI Tryz.prog 84 = some (false, 1) := by kernel_rfl
theorem zv_84 : ZV Tryz.prog 84 = some (.any) := by kernel_rfl
theorem zok_84 : ZOk Tryz.prog 84 1 = true := by kernel_rfl
theorem by_84 : byOf Tryz.prog 84 = 8 := by kernel_rfl
theorem cells_85 : Tryz.prog.cellsOf 85 = 1 := by kernel_rfl
theorem ti_85 : TI Tryz.prog 85 = some (false, 1) := by kernel_rfl
theorem zv_85 : ZV Tryz.prog 85 = some (.any) := by kernel_rfl
theorem zok_85 : ZOk Tryz.prog 85 1 = true := by kernel_rfl
theorem by_85 : byOf Tryz.prog 85 = 8 := by kernel_rfl
theorem cells_86 : Tryz.prog.cellsOf 86 = 1 := by kernel_rfl
theorem ti_86 : TI Tryz.prog 86 = some (false, 1) := by kernel_rfl
theorem zv_86 : ZV Tryz.prog 86 = some (.any) := by kernel_rfl
theorem zok_86 : ZOk Tryz.prog 86 1 = true := by kernel_rfl
theorem by_86 : byOf Tryz.prog 86 = 8 := by kernel_rfl
theorem cells_87 : Tryz.prog.cellsOf 87 = 1 := by kernel_rfl
theorem ti_87 : TI Tryz.prog 87 = some (false, 1) := by kernel_rfl
theorem isPtr_87 : isPtr Tryz.prog 87 = true := by kernel_rfl
theorem zv_87 : ZV Tryz.prog 87 = some (.nilp) := by kernel_rfl
theorem zok_87 : ZOk Tryz.prog 87 1 = true := by kernel_rfl
theorem by_87 : byOf Tryz.prog 87 = 8 := by kernel_rfl
theorem cells_88 : Tryz.prog.cellsOf 88 = 1 := by kernel_rfl
theorem ti_88 : TI Tryz.prog 88 = some (false, 1) := by kernel_rfl
theorem zv_88 : ZV Tryz.prog 88 = some (.any) := by kernel_rfl
theorem zok_88 : ZOk Tryz.prog 88 1 = true := by kernel_rfl
theorem by_88 : byOf Tryz.prog 88 = 8 := by kernel_rfl
theorem cells_89 : Tryz.prog.cellsOf 89 = 1 := by kernel_rfl
theorem ti_89 : TI Tryz.prog 89 = some (false, 1) := by kernel_rfl
theorem isPtr_89 : isPtr Tryz.prog 89 = true := by kernel_rfl
theorem zv_89 : ZV Tryz.prog 89 = some (.nilp) := by kernel_rfl
theorem zok_89 : ZOk Tryz.prog 89 1 = true := by kernel_rfl
theorem by_89 : byOf Tryz.prog 89 = 8 := by kernel_rfl
theorem cells_90 : Tryz.prog.cellsOf 90 = 1 := by kernel_rfl
theorem ti_90 : TI Tryz.prog 90 = some (false, 1) := by kernel_rfl
theorem zv_90 : ZV Tryz.prog 90 = some (.any) := by kernel_rfl
theorem zok_90 : ZOk Tryz.prog 90 1 = true := by kernel_rfl
theorem by_90 : byOf Tryz.prog 90 = 8 := by kernel_rfl
theorem cells_91 : Tryz.prog.cellsOf 91 = 1 := by kernel_rfl
theorem ti_91 : TI Tryz.prog 91 = some (false, 1) := by kernel_rfl
theorem isPtr_91 : isPtr Tryz.prog 91 = true := by kernel_rfl
theorem zv_91 : ZV Tryz.prog 91 = some (.nilp) := by kernel_rfl
theorem zok_91 : ZOk Tryz.prog 91 1 = true := by kernel_rfl
theorem by_91 : byOf Tryz.prog 91 = 8 := by kernel_rfl
theorem cells_92 : Tryz.prog.cellsOf 92 = 1 := by kernel_rfl
theorem ti_92 : TI Tryz.prog 92 = some (false, 1) := by kernel_rfl
theorem zv_92 : ZV Tryz.prog 92 = some (.any) := by kernel_rfl
theorem zok_92 : ZOk Tryz.prog 92 1 = true := by kernel_rfl
theorem by_92 : byOf Tryz.prog 92 = 8 := by kernel_rfl
theorem cells_93 : Tryz.prog.cellsOf 93 = 1 := by kernel_rfl
theorem ti_93 : TI Tryz.prog 93 = some (false, 1) := by kernel_rfl
theorem isPtr_93 : isPtr Tryz.prog 93 = true := by kernel_rfl
theorem zv_93 : ZV Tryz.prog 93 = some (.nilp) := by kernel_rfl
theorem zok_93 : ZOk Tryz.prog 93 1 = true := by kernel_rfl
theorem by_93 : byOf Tryz.prog 93 = 8 := by kernel_rfl
theorem cells_94 : Tryz.prog.cellsOf 94 = 1 := by kernel_rfl
theorem ti_94 : TI Tryz.prog 94 = some (false, 1) := by kernel_rfl
theorem zv_94 : ZV Tryz.prog 94 = some (.any) := by kernel_rfl
theorem zok_94 : ZOk Tryz.prog 94 1 = true := by kernel_rfl
theorem by_94 : byOf Tryz.prog 94 = 8 := by kernel_rfl
theorem cells_95 : Tryz.prog.cellsOf 95 = 256 := by kernel_rfl
theorem ti_95 : TI Tryz.prog 95 = some (true, 256) := by kernel_rfl
theorem ai_95 : AI Tryz.prog 95 = some (256, (false, 1)) := by kernel_rfl
theorem zv_95 : ZV Tryz.prog 95 = some (.agg [.int .u8 0, .int .u8 0, .int .u8 0, .int .u8 0, .int .u8 0, .int .u8 0, .int .u8 0, .int .u8 0, .int .u8 0, .int .u8 0, .int .u8 0, .int .u8 0, .int .u8 0, .int .u8 0, .int .u8 0, .int .u8 0, .int .u8 0, .int .u8 0, .int .u8 0, .int .u8 0, .int .u8 0, .int .u8 0, .int .u8 0, .int .u8 0, .int .u8 0, .int .u8 0, .int .u8 0, .int .u8 0, .int .u8 0, .int .u8 0, .int .u8 0, .int .u8 0, .int .u8 0, .int .u8 0, .int .u8 0, .int .u8 0, .int .u8 0, .int .u8 0, .int .u8 0, .int .u8 0, .int .u8 0, .int .u8 0, .int .u8 0, .int .u8 0, .int .u8 0, .int .u8 0, .int .u8 0, .int .u8 0, .int .u8 0, .int .u8 0, .int .u8 0, .int .u8 0, .int .u8 0, .int .u8 0, .int .u8 0, .int .u8 0, .int .u8 0, .int .u8 0, .int .u8 0, .int .u8 0, .int .u8 0, .int .u8 0, .int .u8 0, .int .u8 0, .int .u8 0, .int .u8 0, .int .u8 0, .int .u8 0, .int .u8 0, .int .u8 0, .int .u8 0, .int .u8 0, .int .u8 0, .int .u8 0, .int .u8 0, .int .u8 0, .int .u8 0, .int .u8 0, .int .u8 0, .int .u8 0, .int .u8 0, .int .u8 0, .int .u8 0, .int .u8 0, .int .u8 0, .int .u8 0, .int .u8 0, .int .u8 0, .int .u8 0, .int .u8 0, .int .u8 0, .int .u8 0, .int .u8 0, .int .u8 0, .int .u8 0, .int .u8 0, .int .u8 0, .int .u8 0, .int .u8 0, .int .u8 0, .int .u8 0, .int .u8 0, .int .u8 0, .int .u8 0, .int .u8 0, .int .u8 0, .int .u8 0, .int .u8 0, .int .u8 0, .int .u8 0, .int .u8 0, .int .u8 0, .int .u8 0, .int .u8 0, .int .u8 0, .int .u8 0, .int .u8 0, .int .u8 0, .int .u8 0, .int .u8 0, .int .u8 0, .int .u8 0, .int .u8 0, .int .u8 0, .int .u8 0, .int .u8 0, .int .u8 0, .int .u8 0, .int .u8 0, .int .u8 0, .int .u8 0, .int .u8 0, .int .u8 0, .int .u8 0, .int .u8 0, .int .u8 0, .int .u8 0, .int .u8 0, .int .u8 0, .int .u8 0, .int .u8 0, .int .u8 0, .int .u8 0, .int .u8 0, .int .u8 0, .int .u8 0, .int .u8 0, .int .u8 0, .int .u8 0, .int .u8 0, .int .u8 0, .int .u8 0, .int .u8 0, .int .u8 0, .int .u8 0, .int .u8 0, .int .u8 0, .int .u8 0, .int .u8 0, .int .u8 0, .int .u8 0, .int .u8 0, .int .u8 0, .int .u8 0, .int .u8 0, .int .u8 0, .int .u8 0, .int .u8 0, .int .u8 0, .int .u8 0, .int .u8 0, .int .u8 0, .int .u8 0, .int .u8 0, .int .u8 0, .int .u8 0, .int .u8 0, .int .u8 0, .int .u8 0, .int .u8 0, .int .u8 0, .int .u8 0, .int .u8 0, .int .u8 0, .int .u8 0, .int .u8 0, .int .u8 0, .int .u8 0, .int .u8 0, .int .u8 0, .int .u8 0, .int .u8 0, .int .u8 0, .int .u8 0, .int .u8 0, .int .u8 0, .int .u8 0, .int .u8 0, .int .u8 0, .int .u8 0, .int .u8 0, .int .u8 0, .int .u8 0, .int .u8 0, .int .u8 0, .int .u8 0, .int .u8 0, .int .u8 0, .int .u8 0, .int .u8 0, .int .u8 0, .int .u8 0, .int .u8 0, .int .u8 0, .int .u8 0, .int .u8 0, .int .u8 0, .int .u8 0, .int .u8 0, .int .u8 0, .int .u8 0, .int .u8 0, .int .u8 0, .int .u8 0, .int .u8 0, .int .u8 0, .int .u8 0, .int .u8 0, .int .u8 0, .int .u8 0, .int .u8 0, .int .u8 0, .int .u8 0, .int .u8 0, .int .u8 0, .int .u8 0, .int .u8 0, .int .u8 0, .int .u8 0, .int .u8 0, .int .u8 0, .int .u8 0, .int .u8 0, .int .u8 0, .int .u8 0, .int .u8 0, .int .u8 0, .int .u8 0, .int .u8 0, .int .u8 0, .int .u8 0, .int .u8 0, .int .u8 0, .int .u8 0, .int .u8 0, .int .u8 0]) := by kernel_rfl
theorem zok_95 : ZOk Tryz.prog 95 256 = true := by kernel_rfl
theorem by_95 : byOf Tryz.prog 95 = 256 := by kernel_rfl
theorem cells_96 : Tryz.prog.cellsOf 96 = 256 := by kernel_rfl
theorem ti_96 : TI Tryz.prog 96 = some (true, 256) := by kernel_rfl
theorem ai_96 : AI Tryz.prog 96 = some (256, (false, 1)) := by kernel_rfl
theorem zv_96 : ZV Tryz.prog 96 = some (.agg [.int .u8 0, .int .u8 0, .int .u8 0, .int .u8 0, .int .u8 0, .int .u8 0, .int .u8 0, .int .u8 0, .int .u8 0, .int .u8 0, .int .u8 0, .int .u8 0, .int .u8 0, .int .u8 0, .int .u8 0, .int .u8 0, .int .u8 0, .int .u8 0, .int .u8 0, .int .u8 0, .int .u8 0, .int .u8 0, .int .u8 0, .int .u8 0, .int .u8 0, .int .u8 0, .int .u8 0, .int .u8 0, .int .u8 0, .int .u8 0, .int .u8 0, .int .u8 0, .int .u8 0, .int .u8 0, .int .u8 0, .int .u8 0, .int .u8 0, .int .u8 0, .int .u8 0, .int .u8 0, .int .u8 0, .int .u8 0, .int .u8 0, .int .u8 0, .int .u8 0, .int .u8 0, .int .u8 0, .int .u8 0, .int .u8 0, .int .u8 0, .int .u8 0, .int .u8 0, .int .u8 0, .int .u8 0, .int .u8 0, .int .u8 0, .int .u8 0, .int .u8 0, .int .u8 0, .int .u8 0, .int .u8 0, .int .u8 0, .int .u8 0, .int .u8 0, .int .u8 0, .int .u8 0, .int .u8 0, .int .u8 0, .int .u8 0, .int .u8 0, .int .u8 0, .int .u8 0, .int .u8 0, .int .u8 0, .int .u8 0, .int .u8 0, .int .u8 0, .int .u8 0, .int .u8 0, .int .u8 0, .int .u8 0, .int .u8 0, .int .u8 0, .int .u8 0, .int .u8 0, .int .u8 0, .int .u8 0, .int .u8 0, .int .u8 0, .int .u8 0, .int .u8 0, .int .u8 0, .int .u8 0, .int .u8 0, .int .u8 0, .int .u8 0, .int .u8 0, .int .u8 0, .int .u8 0, .int .u8 0, .int .u8 0, .int .u8 0, .int .u8 0, .int .u8 0, .int .u8 0, .int .u8 0, .int .u8 0, .int .u8 0, .int .u8 0, .int .u8 0, .int .u8 0, .int .u8 0, .int .u8 0, .int .u8 0, .int .u8 0, .int .u8 0, .int .u8 0, .int .u8 0, .int .u8 0, .int .u8 0, .int .u8 0, .int .u8 0, .int .u8 0, .int .u8 0, .int .u8 0, .int .u8 0, .int .u8 0, .int .u8 0, .int .u8 0, .int .u8 0, .int .u8 0, .int .u8 0, .int .u8 0, .int .u8 0, .int .u8 0, .int .u8 0, .int .u8 0, .int .u8 0, .int .u8 0, .int .u8 0, .int .u8 0, .int .u8 0, .int .u8 0, .int .u8 0, .int .u8 0, .int .u8 0, .int .u8 0, .int .u8 0, .int .u8 0, .int .u8 0, .int .u8 0, .int .u8 0, .int .u8 0, .int .u8 0, .int .u8 0, .int .u8 0, .int .u8 0, .int .u8 0, .int .u8 0, .int .u8 0, .int .u8 0, .int .u8 0, .int .u8 0, .int .u8 0, .int .u8 0, .int .u8 0, .int .u8 0, .int .u8 0, .int .u8 0, .int .u8 0, .int .u8 0, .int .u8 0, .int .u8 0, .int .u8 0, .int .u8 0, .int .u8 0, .int .u8 0, .int .u8 0, .int .u8 0, .int .u8 0, .int .u8 0, .int .u8 0, .int .u8 0, .int .u8 0, .int .u8 0, .int .u8 0, .int .u8 0, .int .u8 0, .int .u8 0, .int .u8 0, .int .u8 0, .int .u8 0, .int .u8 0, .int .u8 0, .int .u8 0, .int .u8 0, .int .u8 0, .int .u8 0, .int .u8 0, .int .u8 0, .int .u8 0, .int .u8 0, .int .u8 0, .int .u8 0, .int .u8 0, .int .u8 0, .int .u8 0, .int .u8 0, .int .u8 0, .int .u8 0, .int .u8 0, .int .u8 0, .int .u8 0, .int .u8 0, .int .u8 0, .int .u8 0, .int .u8 0, .int .u8 0, .int .u8 0, .int .u8 0, .int .u8 0, .int .u8 0, .int .u8 0, .int .u8 0, .int .u8 0, .int .u8 0, .int .u8 0, .int .u8 0, .int .u8 0, .int .u8 0, .int .u8 0, .int .u8 0, .int .u8 0, .int .u8 0, .int .u8 0, .int .u8 0, .int .u8 0, .int .u8 0, .int .u8 0, .int .u8 0, .int .u8 0, .int .u8 0, .int .u8 0, .int .u8 0, .int .u8 0, .int .u8 0, .int .u8 0, .int .u8 0, .int .u8 0, .int .u8 0, .int .u8 0, .int .u8 0, .int .u8 0, .int .u8 0, .int .u8 0, .int .u8 0]) := by kernel_rfl
theorem zok_96 : ZOk Tryz.prog 96 256 = true := by kernel_rfl
theorem by_96 : byOf Tryz.prog 96 = 256 := by kernel_rfl
theorem cells_97 : Tryz.prog.cellsOf 97 = 1 := by kernel_rfl
theorem ti_97 : TI Tryz.prog 97 = some (false, 1) := by kernel_rfl
theorem isPtr_97 : isPtr Tryz.prog 97 = true := by kernel_rfl
theorem zv_97 : ZV Tryz.prog 97 = some (.nilp) := by kernel_rfl
theorem zok_97 : ZOk Tryz.prog 97 1 = true := by kernel_rfl
theorem by_97 : byOf Tryz.prog 97 = 8 := by kernel_rfl
theorem cells_98 : Tryz.prog.cellsOf 98 = 256 := by kernel_rfl
theorem ti_98 : TI Tryz.prog 98 = some (true, 256) := by kernel_rfl
theorem ai_98 : AI Tryz.prog 98 = some (256, (false, 1)) := by kernel_rfl
theorem zv_98 : ZV Tryz.prog 98 = some (.agg [.nils, .nils, .nils, .nils, .nils, .nils, .nils, .nils, .nils, .nils, .nils, .nils, .nils, .nils, .nils, .nils, .nils, .nils, .nils, .nils, .nils, .nils, .nils, .nils, .nils, .nils, .nils, .nils, .nils, .nils, .nils, .nils, .nils, .nils, .nils, .nils, .nils, .nils, .nils, .nils, .nils, .nils, .nils, .nils, .nils, .nils, .nils, .nils, .nils, .nils, .nils, .nils, .nils, .nils, .nils, .nils, .nils, .nils, .nils, .nils, .nils, .nils, .nils, .nils, .nils, .nils, .nils, .nils, .nils, .nils, .nils, .nils, .nils, .nils, .nils, .nils, .nils, .nils, .nils, .nils, .nils, .nils, .nils, .nils, .nils, .nils, .nils, .nils, .nils, .nils, .nils, .nils, .nils, .nils, .nils, .nils, .nils, .nils, .nils, .nils, .nils, .nils, .nils, .nils, .nils, .nils, .nils, .nils, .nils, .nils, .nils, .nils, .nils, .nils, .nils, .nils, .nils, .nils, .nils, .nils, .nils, .nils, .nils, .nils, .nils, .nils, .nils, .nils, .nils, .nils, .nils, .nils, .nils, .nils, .nils, .nils, .nils, .nils, .nils, .nils, .nils, .nils, .nils, .nils, .nils, .nils, .nils, .nils, .nils, .nils, .nils, .nils, .nils, .nils, .nils, .nils, .nils, .nils, .nils, .nils, .nils, .nils, .nils, .nils, .nils, .nils, .nils, .nils, .nils, .nils, .nils, .nils, .nils, .nils, .nils, .nils, .nils, .nils, .nils, .nils, .nils, .nils, .nils, .nils, .nils, .nils, .nils, .nils, .nils, .nils, .nils, .nils, .nils, .nils, .nils, .nils, .nils, .nils, .nils, .nils, .nils, .nils, .nils, .nils, .nils, .nils, .nils, .nils, .nils, .nils, .nils, .nils, .nils, .nils, .nils, .nils, .nils, .nils, .nils, .nils, .nils, .nils, .nils, .nils, .nils, .nils, .nils, .nils, .nils, .nils, .nils, .nils, .nils, .nils, .nils, .nils, .nils, .nils, .nils, .nils, .nils, .nils, .nils, .nils, .nils, .nils, .nils, .nils, .nils, .nils, .nils, .nils, .nils, .nils, .nils, .nils]) := by kernel_rfl
theorem zok_98 : ZOk Tryz.prog 98 256 = true := by kernel_rfl
theorem by_98 : byOf Tryz.prog 98 = 6144 := by kernel_rfl
theorem cells_99 : Tryz.prog.cellsOf 99 = 257 := by kernel_rfl
theorem ti_99 : TI Tryz.prog 99 = some (true, 257) := by kernel_rfl
theorem fi_99_0 : FI Tryz.prog 99 0 = some (0, (true, 256)) := by kernel_rfl
theorem fi_99_1 : FI Tryz.prog 99 1 = some (256, (false, 1)) := by kernel_rfl
theorem si_99 : SI Tryz.prog 99 = some [(0, 256), (256, 1)] := by kernel_rfl
theorem zv_99 : ZV Tryz.prog 99 = some (.agg [.nils, .nils, .nils, .nils, .nils, .nils, .nils, .nils, .nils, .nils, .nils, .nils, .nils, .nils, .nils, .nils, .nils, .nils, .nils, .nils, .nils, .nils, .nils, .nils, .nils, .nils, .nils, .nils, .nils, .nils, .nils, .nils, .nils, .nils, .nils, .nils, .nils, .nils, .nils, .nils, .nils, .nils, .nils, .nils, .nils, .nils, .nils, .nils, .nils, .nils, .nils, .nils, .nils, .nils, .nils, .nils, .nils, .nils, .nils, .nils, .nils, .nils, .nils, .nils, .nils, .nils, .nils, .nils, .nils, .nils, .nils, .nils, .nils, .nils, .nils, .nils, .nils, .nils, .nils, .nils, .nils, .nils, .nils, .nils, .nils, .nils, .nils, .nils, .nils, .nils, .nils, .nils, .nils, .nils, .nils, .nils, .nils, .nils, .nils, .nils, .nils, .nils, .nils, .nils, .nils, .nils, .nils, .nils, .nils, .nils, .nils, .nils, .nils, .nils, .nils, .nils, .nils, .nils, .nils, .nils, .nils, .nils, .nils, .nils, .nils, .nils, .nils, .nils, .nils, .nils, .nils, .nils, .nils, .nils, .nils, .nils, .nils, .nils, .nils, .nils, .nils, .nils, .nils, .nils, .nils, .nils, .nils, .nils, .nils, .nils, .nils, .nils, .nils, .nils, .nils, .nils, .nils, .nils, .nils, .nils, .nils, .nils, .nils, .nils, .nils, .nils, .nils, .nils, .nils, .nils, .nils, .nils, .nils, .nils, .nils, .nils, .nils, .nils, .nils, .nils, .nils, .nils, .nils, .nils, .nils, .nils, .nils, .nils, .nils, .nils, .nils, .nils, .nils, .nils, .nils, .nils, .nils, .nils, .nils, .nils, .nils, .nils, .nils, .nils, .nils, .nils, .nils, .nils, .nils, .nils, .nils, .nils, .nils, .nils, .nils, .nils, .nils, .nils, .nils, .nils, .nils, .nils, .nils, .nils, .nils, .nils, .nils, .nils, .nils, .nils, .nils, .nils, .nils, .nils, .nils, .nils, .nils, .nils, .nils, .nils, .nils, .nils, .nils, .nils, .nils, .nils, .nils, .nils, .nils, .nils, .nils, .nils, .nils, .nils, .nils, .nils, .nils]) := by kernel_rfl
theorem zok_99 : ZOk Tryz.prog 99 257 = true := by kernel_rfl
theorem by_99 : byOf Tryz.prog 99 = 6168 := by kernel_rfl
theorem cells_100 : Tryz.prog.cellsOf 100 = 257 := by kernel_rfl
theorem ti_100 : TI Tryz.prog 100 = some (true, 257) := by kernel_rfl
theorem fi_100_0 : FI Tryz.prog 100 0 = some (0, (true, 256)) := by kernel_rfl
theorem fi_100_1 : FI Tryz.prog 100 1 = some (256, (false, 1)) := by kernel_rfl
theorem si_100 : SI Tryz.prog 100 = some [(0, 256), (256, 1)] := by kernel_rfl
theorem zv_100 : ZV Tryz.prog 100 = some (.agg [.nils, .nils, .nils, .nils, .nils, .nils, .nils, .nils, .nils, .nils, .nils, .nils, .nils, .nils, .nils, .nils, .nils, .nils, .nils, .nils, .nils, .nils, .nils, .nils, .nils, .nils, .nils, .nils, .nils, .nils, .nils, .nils, .nils, .nils, .nils, .nils, .nils, .nils, .nils, .nils, .nils, .nils, .nils, .nils, .nils, .nils, .nils, .nils, .nils, .nils, .nils, .nils, .nils, .nils, .nils, .nils, .nils, .nils, .nils, .nils, .nils, .nils, .nils, .nils, .nils, .nils, .nils, .nils, .nils, .nils, .nils, .nils, .nils, .nils, .nils, .nils, .nils, .nils, .nils, .nils, .nils, .nils, .nils, .nils, .nils, .nils, .nils, .nils, .nils, .nils, .nils, .nils, .nils, .nils, .nils, .nils, .nils, .nils, .nils, .nils, .nils, .nils, .nils, .nils, .nils, .nils, .nils, .nils, .nils, .nils, .nils, .nils, .nils, .nils, .nils, .nils, .nils, .nils, .nils, .nils, .nils, .nils, .nils, .nils, .nils, .nils, .nils, .nils, .nils, .nils, .nils, .nils, .nils, .nils, .nils, .nils, .nils, .nils, .nils, .nils, .nils, .nils, .nils, .nils, .nils, .nils, .nils, .nils, .nils, .nils, .nils, .nils, .nils, .nils, .nils, .nils, .nils, .nils, .nils, .nils, .nils, .nils, .nils, .nils, .nils, .nils, .nils, .nils, .nils, .nils, .nils, .nils, .nils, .nils, .nils, .nils, .nils, .nils, .nils, .nils, .nils, .nils, .nils, .nils, .nils, .nils, .nils, .nils, .nils, .nils, .nils, .nils, .nils, .nils, .nils, .nils, .nils, .nils, .nils, .nils, .nils, .nils, .nils, .nils, .nils, .nils, .nils, .nils, .nils, .nils, .nils, .nils, .nils, .nils, .nils, .nils, .nils, .nils, .nils, .nils, .nils, .nils, .nils, .nils, .nils, .nils, .nils, .nils, .nils, .nils, .nils, .nils, .nils, .nils, .nils, .nils, .nils, .nils, .nils, .nils, .nils, .nils, .nils, .nils, .nils, .nils, .nils, .nils, .nils, .nils, .nils, .nils, .nils, .nils, .nils, .nils, .nils]) := by kernel_rfl
theorem zok_100 : ZOk Tryz.prog 100 257 = true := by kernel_rfl
theorem by_100 : byOf Tryz.prog 100 = 6168 := by kernel_rfl
theorem cells_101 : Tryz.prog.cellsOf 101 = 1 := by kernel_rfl
theorem ti_101 : TI Tryz.prog 101 = some (false, 1) := by kernel_rfl
theorem isPtr_101 : isPtr Tryz.prog 101 = true := by kernel_rfl
theorem zv_101 : ZV Tryz.prog 101 = some (.nilp) := by kernel_rfl
theorem zok_101 : ZOk Tryz.prog 101 1 = true := by kernel_rfl
theorem by_101 : byOf Tryz.prog 101 = 8 := by kernel_rfl
theorem cells_102 : Tryz.prog.cellsOf 102 = 1 := by kernel_rfl
theorem ti_102 : TI Tryz.prog 102 = some (false, 1) := by kernel_rfl
theorem intK_102 : intK Tryz.prog 102 = some .u64 := by kernel_rfl
theorem un_102 : Tryz.prog.underlying 102 = some (.int .u64) := by kernel_rfl
theorem zv_102 : ZV Tryz.prog 102 = some (.int .u64 0) := by kernel_rfl
theorem zok_102 : ZOk Tryz.prog 102 1 = true := by kernel_rfl
theorem by_102 : byOf Tryz.prog 102 = 8 := by kernel_rfl
theorem cells_103 : Tryz.prog.cellsOf 103 = 2 := by kernel_rfl
theorem ti_103 : TI Tryz.prog 103 = some (true, 2) := by kernel_rfl
theorem fi_103_0 : FI Tryz.prog 103 0 = some (0, (false, 1)) := by kernel_rfl
theorem fi_103_1 : FI Tryz.prog 103 1 = some (1, (false, 1)) := by kernel_rfl
theorem si_103 : SI Tryz.prog 103 = some [(0, 1), (1, 1)] := by kernel_rfl
theorem zv_103 : ZV Tryz.prog 103 = some (.agg [.int .u8 0, .int .u8 0]) := by kernel_rfl
theorem zok_103 : ZOk Tryz.prog 103 2 = true := by kernel_rfl
theorem by_103 : byOf Tryz.prog 103 = 2 := by kernel_rfl
theorem cells_104 : Tryz.prog.cellsOf 104 = 2 := by kernel_rfl
theorem ti_104 : TI Tryz.prog 104 = some (true, 2) := by kernel_rfl
theorem fi_104_0 : FI Tryz.prog 104 0 = some (0, (false, 1)) := by kernel_rfl
theorem fi_104_1 : FI Tryz.prog 104 1 = some (1, (false, 1)) := by kernel_rfl
theorem si_104 : SI Tryz.prog 104 = some [(0, 1), (1, 1)] := by kernel_rfl
theorem zv_104 : ZV Tryz.prog 104 = some (.agg [.int .u8 0, .int .u8 0]) := by kernel_rfl
theorem zok_104 : ZOk Tryz.prog 104 2 = true := by kernel_rfl
theorem by_104 : byOf Tryz.prog 104 = 2 := by kernel_rfl
theorem cells_105 : Tryz.prog.cellsOf 105 = 32 := by kernel_rfl
theorem ti_105 : TI Tryz.prog 105 = some (true, 32) := by kernel_rfl
theorem ai_105 : AI Tryz.prog 105 = some (16, (true, 2)) := by kernel_rfl
theorem zv_105 : ZV Tryz.prog 105 = some (.agg [.int .u8 0, .int .u8 0, .int .u8 0, .int .u8 0, .int .u8 0, .int .u8 0, .int .u8 0, .int .u8 0, .int .u8 0, .int .u8 0, .int .u8 0, .int .u8 0, .int .u8 0, .int .u8 0, .int .u8 0, .int .u8 0, .int .u8 0, .int .u8 0, .int .u8 0, .int .u8 0, .int .u8 0, .int .u8 0, .int .u8 0, .int .u8 0, .int .u8 0, .int .u8 0, .int .u8 0, .int .u8 0, .int .u8 0, .int .u8 0, .int .u8 0, .int .u8 0]) := by kernel_rfl
theorem zok_105 : ZOk Tryz.prog 105 32 = true := by kernel_rfl
theorem by_105 : byOf Tryz.prog 105 = 32 := by kernel_rfl
theorem cells_106 : Tryz.prog.cellsOf 106 = 1 := by kernel_rfl
theorem ti_106 : TI Tryz.prog 106 = some (false, 1) := by kernel_rfl
theorem zv_106 : ZV Tryz.prog 106 = some (.any) := by kernel_rfl
theorem zok_106 : ZOk Tryz.prog 106 1 = true := by kernel_rfl
theorem by_106 : byOf Tryz.prog 106 = 8 := by kernel_rfl
theorem cells_107 : Tryz.prog.cellsOf 107 = 1 := by kernel_rfl
theorem ti_107 : TI Tryz.prog 107 = some (false, 1) := by kernel_rfl
theorem zv_107 : ZV Tryz.prog 107 = some (.any) := by kernel_rfl
theorem zok_107 : ZOk Tryz.prog 107 1 = true := by kernel_rfl
theorem by_107 : byOf Tryz.prog 107 = 8 := by kernel_rfl
theorem cells_108 : Tryz.prog.cellsOf 108 = 1 := by kernel_rfl
theorem ti_108 : TI Tryz.prog 108 = some (false, 1) := by kernel_rfl
theorem zv_108 : ZV Tryz.prog 108 = some (.any) := by kernel_rfl
theorem zok_108 : ZOk Tryz.prog 108 1 = true := by kernel_rfl
theorem by_108 : byOf Tryz.prog 108 = 8 := by kernel_rfl
theorem cells_109 : Tryz.prog.cellsOf 109 = 1 := by kernel_rfl
theorem ti_109 : TI Tryz.prog 109 = some (false, 1) := by kernel_rfl
theorem zv_109 : ZV Tryz.prog 109 = some (.any) := by kernel_rfl
theorem zok_109 : ZOk Tryz.prog 109 1 = true := by kernel_rfl
theorem by_109 : byOf Tryz.prog 109 = 8 := by kernel_rfl
theorem cells_110 : Tryz.prog.cellsOf 110 = 1 := by kernel_rfl
theorem ti_110 : TI Tryz.prog 110 = some (false, 1) := by kernel_rfl
theorem isPtr_110 : isPtr Tryz.prog 110 = true := by kernel_rfl
theorem zv_110 : ZV Tryz.prog 110 = some (.nilp) := by kernel_rfl
theorem zok_110 : ZOk Tryz.prog 110 1 = true := by kernel_rfl
theorem by_110 : byOf Tryz.prog 110 = 8 := by kernel_rfl
theorem cells_111 : Tryz.prog.cellsOf 111 = 1 := by kernel_rfl
theorem ti_111 : TI Tryz.prog 111 = some (false, 1) := by kernel_rfl
theorem zv_111 : ZV Tryz.prog 111 = some (.any) := by kernel_rfl
theorem zok_111 : ZOk Tryz.prog 111 1 = true := by kernel_rfl
theorem by_111 : byOf Tryz.prog 111 = 8 := by kernel_rfl
theorem cells_112 : Tryz.prog.cellsOf 112 = 1 := by kernel_rfl
theorem ti_112 : TI Tryz.prog 112 = some (false, 1) := by kernel_rfl
theorem zv_112 : ZV Tryz.prog 112 = some (.any) := by kernel_rfl
theorem zok_112 : ZOk Tryz.prog 112 1 = true := by kernel_rfl
theorem by_112 : byOf Tryz.prog 112 = 8 := by kernel_rfl
theorem cells_113 : Tryz.prog.cellsOf 113 = 1 := by kernel_rfl
theorem ti_113 : TI Tryz.prog 113 = some (false, 1) := by kernel_rfl
theorem isPtr_113 : isPtr Tryz.prog 113 = true := by kernel_rfl
theorem zv_113 : ZV Tryz.prog 113 = some (.nilp) := by kernel_rfl
theorem zok_113 : ZOk Tryz.prog 113 1 = true := by kernel_rfl
theorem by_113 : byOf Tryz.prog 113 = 8 := by kernel_rfl
theorem cells_114 : Tryz.prog.cellsOf 114 = 1 := by kernel_rfl
theorem ti_114 : TI Tryz.prog 114 = some (false, 1) := by kernel_rfl
theorem zv_114 : ZV Tryz.prog 114 = some (.any) := by kernel_rfl
theorem zok_114 : ZOk Tryz.prog 114 1 = true := by kernel_rfl
theorem by_114 : byOf Tryz.prog 114 = 8 := by kernel_rfl
theorem cells_115 : Tryz.prog.cellsOf 115 = 2 := by kernel_rfl
theorem ti_115 : TI Tryz.prog 115 = some (true, 2) := by kernel_rfl
theorem fi_115_0 : FI Tryz.prog 115 0 = some (0, (false, 1)) := by kernel_rfl
theorem fi_115_1 : FI Tryz.prog 115 1 = some (1, (false, 1)) := by kernel_rfl
theorem si_115 : SI Tryz.prog 115 = some [(0, 1), (1, 1)] := by kernel_rfl
theorem zv_115 : ZV Tryz.prog 115 = some (.agg [.nilp, .str []]) := by kernel_rfl
theorem zok_115 : ZOk Tryz.prog 115 2 = true := by kernel_rfl
theorem by_115 : byOf Tryz.prog 115 = 24 := by kernel_rfl
theorem cells_116 : Tryz.prog.cellsOf 116 = 2 := by kernel_rfl
theorem ti_116 : TI Tryz.prog 116 = some (true, 2) := by kernel_rfl
theorem fi_116_0 : FI Tryz.prog 116 0 = some (0, (false, 1)) := by kernel_rfl
theorem fi_116_1 : FI Tryz.prog 116 1 = some (1, (false, 1)) := by kernel_rfl
theorem si_116 : SI Tryz.prog 116 = some [(0, 1), (1, 1)] := by kernel_rfl
theorem zv_116 : ZV Tryz.prog 116 = some (.agg [.nilp, .str []]) := by kernel_rfl
theorem zok_116 : ZOk Tryz.prog 116 2 = true := by kernel_rfl
theorem by_116 : byOf Tryz.prog 116 = 24 := by kernel_rfl
theorem cells_117 : Tryz.prog.cellsOf 117 = 1 := by kernel_rfl
theorem ti_117 : TI Tryz.prog 117 = some (false, 1) := by kernel_rfl
theorem isPtr_117 : isPtr Tryz.prog 117 = true := by kernel_rfl
theorem zv_117 : ZV Tryz.prog 117 = some (.nilp) := by kernel_rfl
theorem zok_117 : ZOk Tryz.prog 117 1 = true := by kernel_rfl
theorem by_117 : byOf Tryz.prog 117 = 8 := by kernel_rfl
theorem cells_118 : Tryz.prog.cellsOf 118 = 1 := by kernel_rfl
theorem ti_118 : TI Tryz.prog 118 = some (false, 1) := by kernel_rfl
theorem ei_118 : EI Tryz.prog 118 = some (117, 1) := by kernel_rfl
theorem isSli_118 : isSli Tryz.prog 118 = true := by kernel_rfl
theorem notInt_118 : notInt Tryz.prog 118 = true := by kernel_rfl
theorem zv_118 : ZV Tryz.prog 118 = some (.nils) := by kernel_rfl
theorem zok_118 : ZOk Tryz.prog 118 1 = true := by kernel_rfl
theorem by_118 : byOf Tryz.prog 118 = 24 := by kernel_rfl
theorem cells_119 : Tryz.prog.cellsOf 119 = 5 := by kernel_rfl
theorem ti_119 : TI Tryz.prog 119 = some (true, 5) := by kernel_rfl
theorem fi_119_0 : FI Tryz.prog 119 0 = some (0, (false, 1)) := by kernel_rfl
theorem fi_119_1 : FI Tryz.prog 119 1 = some (1, (false, 1)) := by kernel_rfl
theorem fi_119_2 : FI Tryz.prog 119 2 = some (2, (false, 1)) := by kernel_rfl
theorem fi_119_3 : FI Tryz.prog 119 3 = some (3, (false, 1)) := by kernel_rfl
theorem fi_119_4 : FI Tryz.prog 119 4 = some (4, (false, 1)) := by kernel_rfl
theorem si_119 : SI Tryz.prog 119 = some [(0, 1), (1, 1), (2, 1), (3, 1), (4, 1)] := by kernel_rfl
theorem zv_119 : ZV Tryz.prog 119 = some (.agg [.str [], .int .i64 0, .str [], .nilp, .nils]) := by kernel_rfl
theorem zok_119 : ZOk Tryz.prog 119 5 = true := by kernel_rfl
theorem by_119 : byOf Tryz.prog 119 = 72 := by kernel_rfl
theorem cells_120 : Tryz.prog.cellsOf 120 = 5 := by kernel_rfl
theorem ti_120 : TI Tryz.prog 120 = some (true, 5) := by kernel_rfl
theorem fi_120_0 : FI Tryz.prog 120 0 = some (0, (false, 1)) := by kernel_rfl
theorem fi_120_1 : FI Tryz.prog 120 1 = some (1, (false, 1)) := by kernel_rfl
theorem fi_120_2 : FI Tryz.prog 120 2 = some (2, (false, 1)) := by kernel_rfl
theorem fi_120_3 : FI Tryz.prog 120 3 = some (3, (false, 1)) := by kernel_rfl
theorem fi_120_4 : FI Tryz.prog 120 4 = some (4, (false, 1)) := by kernel_rfl
theorem si_120 : SI Tryz.prog 120 = some [(0, 1), (1, 1), (2, 1), (3, 1), (4, 1)] := by kernel_rfl
theorem zv_120 : ZV Tryz.prog 120 = some (.agg [.str [], .int .i64 0, .str [], .nilp, .nils]) := by kernel_rfl
theorem zok_120 : ZOk Tryz.prog 120 5 = true := by kernel_rfl
theorem by_120 : byOf Tryz.prog 120 = 72 := by kernel_rfl
theorem cells_121 : Tryz.prog.cellsOf 121 = 262 := by kernel_rfl
theorem ti_121 : TI Tryz.prog 121 = some (true, 262) := by kernel_rfl
theorem fi_121_0 : FI Tryz.prog 121 0 = some (0, (true, 5)) := by kernel_rfl
theorem fi_121_1 : FI Tryz.prog 121 1 = some (5, (false, 1)) := by kernel_rfl
theorem fi_121_2 : FI Tryz.prog 121 2 = some (6, (true, 256)) := by kernel_rfl
theorem si_121 : SI Tryz.prog 121 = some [(0, 5), (5, 1), (6, 256)] := by kernel_rfl
theorem zv_121 : ZV Tryz.prog 121 = some (.agg [.str [], .int .i64 0, .str [], .nilp, .nils, .int .i64 0, .int .u8 0, .int .u8 0, .int .u8 0, .int .u8 0, .int .u8 0, .int .u8 0, .int .u8 0, .int .u8 0, .int .u8 0, .int .u8 0, .int .u8 0, .int .u8 0, .int .u8 0, .int .u8 0, .int .u8 0, .int .u8 0, .int .u8 0, .int .u8 0, .int .u8 0, .int .u8 0, .int .u8 0, .int .u8 0, .int .u8 0, .int .u8 0, .int .u8 0, .int .u8 0, .int .u8 0, .int .u8 0, .int .u8 0, .int .u8 0, .int .u8 0, .int .u8 0, .int .u8 0, .int .u8 0, .int .u8 0, .int .u8 0, .int .u8 0, .int .u8 0, .int .u8 0, .int .u8 0, .int .u8 0, .int .u8 0, .int .u8 0, .int .u8 0, .int .u8 0, .int .u8 0, .int .u8 0, .int .u8 0, .int .u8 0, .int .u8 0, .int .u8 0, .int .u8 0, .int .u8 0, .int .u8 0, .int .u8 0, .int .u8 0, .int .u8 0, .int .u8 0, .int .u8 0, .int .u8 0, .int .u8 0, .int .u8 0, .int .u8 0, .int .u8 0, .int .u8 0, .int .u8 0, .int .u8 0, .int .u8 0, .int .u8 0, .int .u8 0, .int .u8 0, .int .u8 0, .int .u8 0, .int .u8 0, .int .u8 0, .int .u8 0, .int .u8 0, .int .u8 0, .int .u8 0, .int .u8 0, .int .u8 0, .int .u8 0, .int .u8 0, .int .u8 0, .int .u8 0, .int .u8 0, .int .u8 0, .int .u8 0, .int .u8 0, .int .u8 0, .int .u8 0, .int .u8 0, .int .u8 0, .int .u8 0, .int .u8 0, .int .u8 0, .int .u8 0, .int .u8 0, .int .u8 0, .int .u8 0, .int .u8 0, .int .u8 0, .int .u8 0, .int .u8 0, .int .u8 0, .int .u8 0, .int .u8 0, .int .u8 0, .int .u8 0, .int .u8 0, .int .u8 0, .int .u8 0, .int .u8 0, .int .u8 0, .int .u8 0, .int .u8 0, .int .u8 0, .int .u8 0, .int .u8 0, .int .u8 0, .int .u8 0, .int .u8 0, .int .u8 0, .int .u8 0, .int .u8 0, .int .u8 0, .int .u8 0, .int .u8 0, .int .u8 0, .int .u8 0, .int .u8 0, .int .u8 0, .int .u8 0, .int .u8 0, .int .u8 0, .int .u8 0, .int .u8 0, .int .u8 0, .int .u8 0, .int .u8 0, .int .u8 0, .int .u8 0, .int .u8 0, .int .u8 0, .int .u8 0, .int .u8 0, .int .u8 0, .int .u8 0, .int .u8 0, .int .u8 0, .int .u8 0, .int .u8 0, .int .u8 0, .int .u8 0, .int .u8 0, .int .u8 0, .int .u8 0, .int .u8 0, .int .u8 0, .int .u8 0, .int .u8 0, .int .u8 0, .int .u8 0, .int .u8 0, .int .u8 0, .int .u8 0, .int .u8 0, .int .u8 0, .int .u8 0, .int .u8 0, .int .u8 0, .int .u8 0, .int .u8 0, .int .u8 0, .int .u8 0, .int .u8 0, .int .u8 0, .int .u8 0, .int .u8 0, .int .u8 0, .int .u8 0, .int .u8 0, .int .u8 0, .int .u8 0, .int .u8 0, .int .u8 0, .int .u8 0, .int .u8 0, .int .u8 0, .int .u8 0, .int .u8 0, .int .u8 0, .int .u8 0, .int .u8 0, .int .u8 0, .int .u8 0, .int .u8 0, .int .u8 0, .int .u8 0, .int .u8 0, .int .u8 0, .int .u8 0, .int .u8 0, .int .u8 0, .int .u8 0, .int .u8 0, .int .u8 0, .int .u8 0, .int .u8 0, .int .u8 0, .int .u8 0, .int .u8 0, .int .u8 0, .int .u8 0, .int .u8 0, .int .u8 0, .int .u8 0, .int .u8 0, .int .u8 0, .int .u8 0, .int .u8 0, .int .u8 0, .int .u8 0, .int .u8 0, .int .u8 0, .int .u8 0, .int .u8 0, .int .u8 0, .int .u8 0, .int .u8 0, .int .u8 0, .int .u8 0, .int .u8 0, .int .u8 0, .int .u8 0, .int .u8 0, .int .u8 0, .int .u8 0, .int .u8 0, .int .u8 0, .int .u8 0, .int .u8 0, .int .u8 0, .int .u8 0, .int .u8 0, .int .u8 0, .int .u8 0, .int .u8 0, .int .u8 0, .int .u8 0, .int .u8 0, .int .u8 0, .int .u8 0, .int .u8 0, .int .u8 0, .int .u8 0]) := by kernel_rfl
theorem zok_121 : ZOk Tryz.prog 121 262 = true := by kernel_rfl
theorem by_121 : byOf Tryz.prog 121 = 336 := by kernel_rfl
theorem cells_122 : Tryz.prog.cellsOf 122 = 262 := by kernel_rfl
theorem ti_122 : TI Tryz.prog 122 = some (true, 262) := by kernel_rfl
theorem fi_122_0 : FI Tryz.prog 122 0 = some (0, (true, 5)) := by kernel_rfl
theorem fi_122_1 : FI Tryz.prog 122 1 = some (5, (false, 1)) := by kernel_rfl
theorem fi_122_2 : FI Tryz.prog 122 2 = some (6, (true, 256)) := by kernel_rfl
theorem si_122 : SI Tryz.prog 122 = some [(0, 5), (5, 1), (6, 256)] := by kernel_rfl
theorem zv_122 : ZV Tryz.prog 122 = some (.agg [.str [], .int .i64 0, .str [], .nilp, .nils, .int .i64 0, .int .u8 0, .int .u8 0, .int .u8 0, .int .u8 0, .int .u8 0, .int .u8 0, .int .u8 0, .int .u8 0, .int .u8 0, .int .u8 0, .int .u8 0, .int .u8 0, .int .u8 0, .int .u8 0, .int .u8 0, .int .u8 0, .int .u8 0, .int .u8 0, .int .u8 0, .int .u8 0, .int .u8 0, .int .u8 0, .int .u8 0, .int .u8 0, .int .u8 0, .int .u8 0, .int .u8 0, .int .u8 0, .int .u8 0, .int .u8 0, .int .u8 0, .int .u8 0, .int .u8 0, .int .u8 0, .int .u8 0, .int .u8 0, .int .u8 0, .int .u8 0, .int .u8 0, .int .u8 0, .int .u8 0, .int .u8 0, .int .u8 0, .int .u8 0, .int .u8 0, .int .u8 0, .int .u8 0, .int .u8 0, .int .u8 0, .int .u8 0, .int .u8 0, .int .u8 0, .int .u8 0, .int .u8 0, .int .u8 0, .int .u8 0, .int .u8 0, .int .u8 0, .int .u8 0, .int .u8 0, .int .u8 0, .int .u8 0, .int .u8 0, .int .u8 0, .int .u8 0, .int .u8 0, .int .u8 0, .int .u8 0, .int .u8 0, .int .u8 0, .int .u8 0, .int .u8 0, .int .u8 0, .int .u8 0, .int .u8 0, .int .u8 0, .int .u8 0, .int .u8 0, .int .u8 0, .int .u8 0, .int .u8 0, .int .u8 0, .int .u8 0, .int .u8 0, .int .u8 0, .int .u8 0, .int .u8 0, .int .u8 0, .int .u8 0, .int .u8 0, .int .u8 0, .int .u8 0, .int .u8 0, .int .u8 0, .int .u8 0, .int .u8 0, .int .u8 0, .int .u8 0, .int .u8 0, .int .u8 0, .int .u8 0, .int .u8 0, .int .u8 0, .int .u8 0, .int .u8 0, .int .u8 0, .int .u8 0, .int .u8 0, .int .u8 0, .int .u8 0, .int .u8 0, .int .u8 0, .int .u8 0, .int .u8 0, .int .u8 0, .int .u8 0, .int .u8 0, .int .u8 0, .int .u8 0, .int .u8 0, .int .u8 0, .int .u8 0, .int .u8 0, .int .u8 0, .int .u8 0, .int .u8 0, .int .u8 0, .int .u8 0, .int .u8 0, .int .u8 0, .int .u8 0, .int .u8 0, .int .u8 0, .int .u8 0, .int .u8 0, .int .u8 0, .int .u8 0, .int .u8 0, .int .u8 0, .int .u8 0, .int .u8 0, .int .u8 0, .int .u8 0, .int .u8 0, .int .u8 0, .int .u8 0, .int .u8 0, .int .u8 0, .int .u8 0, .int .u8 0, .int .u8 0, .int .u8 0, .int .u8 0, .int .u8 0, .int .u8 0, .int .u8 0, .int .u8 0, .int .u8 0, .int .u8 0, .int .u8 0, .int .u8 0, .int .u8 0, .int .u8 0, .int .u8 0, .int .u8 0, .int .u8 0, .int .u8 0, .int .u8 0, .int .u8 0, .int .u8 0, .int .u8 0, .int .u8 0, .int .u8 0, .int .u8 0, .int .u8 0, .int .u8 0, .int .u8 0, .int .u8 0, .int .u8 0, .int .u8 0, .int .u8 0, .int .u8 0, .int .u8 0, .int .u8 0, .int .u8 0, .int .u8 0, .int .u8 0, .int .u8 0, .int .u8 0, .int .u8 0, .int .u8 0, .int .u8 0, .int .u8 0, .int .u8 0, .int .u8 0, .int .u8 0, .int .u8 0, .int .u8 0, .int .u8 0, .int .u8 0, .int .u8 0, .int .u8 0, .int .u8 0, .int .u8 0, .int .u8 0, .int .u8 0, .int .u8 0, .int .u8 0, .int .u8 0, .int .u8 0, .int .u8 0, .int .u8 0, .int .u8 0, .int .u8 0, .int .u8 0, .int .u8 0, .int .u8 0, .int .u8 0, .int .u8 0, .int .u8 0, .int .u8 0, .int .u8 0, .int .u8 0, .int .u8 0, .int .u8 0, .int .u8 0, .int .u8 0, .int .u8 0, .int .u8 0, .int .u8 0, .int .u8 0, .int .u8 0, .int .u8 0, .int .u8 0, .int .u8 0, .int .u8 0, .int .u8 0, .int .u8 0, .int .u8 0, .int .u8 0, .int .u8 0, .int .u8 0, .int .u8 0, .int .u8 0, .int .u8 0, .int .u8 0, .int .u8 0, .int .u8 0, .int .u8 0, .int .u8 0, .int .u8 0, .int .u8 0, .int .u8 0, .int .u8 0, .int .u8 0, .int .u8 0]) := by kernel_rfl
theorem zok_122 : ZOk Tryz.prog 122 262 = true := by kernel_rfl
theorem by_122 : byOf Tryz.prog 122 = 336 := by kernel_rfl
theorem cells_123 : Tryz.prog.cellsOf 123 = 1 := by kernel_rfl
theorem ti_123 : TI Tryz.prog 123 = some (false, 1) := by kernel_rfl
theorem zv_123 : ZV Tryz.prog 123 = some (.any) := by kernel_rfl
theorem zok_123 : ZOk Tryz.prog 123 1 = true := by kernel_rfl
theorem by_123 : byOf Tryz.prog 123 = 8 := by kernel_rfl
theorem cells_124 : Tryz.prog.cellsOf 124 = 1 := by kernel_rfl
theorem ti_124 : TI Tryz.prog 124 = some (false, 1) := by kernel_rfl
theorem isPtr_124 : isPtr Tryz.prog 124 = true := by kernel_rfl
theorem zv_124 : ZV Tryz.prog 124 = some (.nilp) := by kernel_rfl
theorem zok_124 : ZOk Tryz.prog 124 1 = true := by kernel_rfl
theorem by_124 : byOf Tryz.prog 124 = 8 := by kernel_rfl
theorem cells_125 : Tryz.prog.cellsOf 125 = 1 := by kernel_rfl
theorem ti_125 : TI Tryz.prog 125 = some (false, 1) := by kernel_rfl
theorem zv_125 : ZV Tryz.prog 125 = some (.any) := by kernel_rfl
theorem zok_125 : ZOk Tryz.prog 125 1 = true := by kernel_rfl
theorem by_125 : byOf Tryz.prog 125 = 8 := by kernel_rfl
theorem cells_126 : Tryz.prog.cellsOf 126 = 1 := by kernel_rfl
theorem ti_126 : TI Tryz.prog 126 = some (false, 1) := by kernel_rfl
theorem isPtr_126 : isPtr Tryz.prog 126 = true := by kernel_rfl
theorem zv_126 : ZV Tryz.prog 126 = some (.nilp) := by kernel_rfl
theorem zok_126 : ZOk Tryz.prog 126 1 = true := by kernel_rfl
theorem by_126 : byOf Tryz.prog 126 = 8 := by kernel_rfl
theorem cells_129 : Tryz.prog.cellsOf 129 = 1 := by kernel_rfl
theorem ti_129 : TI Tryz.prog 129 = some (false, 1) := by kernel_rfl
theorem zv_129 : ZV Tryz.prog 129 = some (.any) := by kernel_rfl
theorem zok_129 : ZOk Tryz.prog 129 1 = true := by kernel_rfl
theorem by_129 : byOf Tryz.prog 129 = 8 := by kernel_rfl
theorem cells_130 : Tryz.prog.cellsOf 130 = 1 := by kernel_rfl
theorem ti_130 : TI Tryz.prog 130 = some (false, 1) := by kernel_rfl
theorem zv_130 : ZV Tryz.prog 130 = some (.any) := by kernel_rfl
theorem zok_130 : ZOk Tryz.prog 130 1 = true := by kernel_rfl
theorem by_130 : byOf Tryz.prog 130 = 8 := by kernel_rfl
theorem cells_131 : Tryz.prog.cellsOf 131 = 1 := by kernel_rfl
theorem ti_131 : TI Tryz.prog 131 = some (false, 1) := by kernel_rfl
theorem ei_131 : EI Tryz.prog 131 = some (3, 1) := by kernel_rfl
theorem isSli_131 : isSli Tryz.prog 131 = true := by kernel_rfl
theorem notInt_131 : notInt Tryz.prog 131 = true := by kernel_rfl
theorem zv_131 : ZV Tryz.prog 131 = some (.nils) := by kernel_rfl
theorem zok_131 : ZOk Tryz.prog 131 1 = true := by kernel_rfl
theorem by_131 : byOf Tryz.prog 131 = 24 := by kernel_rfl
theorem cells_132 : Tryz.prog.cellsOf 132 = 256 := by kernel_rfl
theorem ti_132 : TI Tryz.prog 132 = some (true, 256) := by kernel_rfl
theorem ai_132 : AI Tryz.prog 132 = some (256, (false, 1)) := by kernel_rfl
theorem zv_132 : ZV Tryz.prog 132 = some (.agg [.int .i64 0, .int .i64 0, .int .i64 0, .int .i64 0, .int .i64 0, .int .i64 0, .int .i64 0, .int .i64 0, .int .i64 0, .int .i64 0, .int .i64 0, .int .i64 0, .int .i64 0, .int .i64 0, .int .i64 0, .int .i64 0, .int .i64 0, .int .i64 0, .int .i64 0, .int .i64 0, .int .i64 0, .int .i64 0, .int .i64 0, .int .i64 0, .int .i64 0, .int .i64 0, .int .i64 0, .int .i64 0, .int .i64 0, .int .i64 0, .int .i64 0, .int .i64 0, .int .i64 0, .int .i64 0, .int .i64 0, .int .i64 0, .int .i64 0, .int .i64 0, .int .i64 0, .int .i64 0, .int .i64 0, .int .i64 0, .int .i64 0, .int .i64 0, .int .i64 0, .int .i64 0, .int .i64 0, .int .i64 0, .int .i64 0, .int .i64 0, .int .i64 0, .int .i64 0, .int .i64 0, .int .i64 0, .int .i64 0, .int .i64 0, .int .i64 0, .int .i64 0, .int .i64 0, .int .i64 0, .int .i64 0, .int .i64 0, .int .i64 0, .int .i64 0, .int .i64 0, .int .i64 0, .int .i64 0, .int .i64 0, .int .i64 0, .int .i64 0, .int .i64 0, .int .i64 0, .int .i64 0, .int .i64 0, .int .i64 0, .int .i64 0, .int .i64 0, .int .i64 0, .int .i64 0, .int .i64 0, .int .i64 0, .int .i64 0, .int .i64 0, .int .i64 0, .int .i64 0, .int .i64 0, .int .i64 0, .int .i64 0, .int .i64 0, .int .i64 0, .int .i64 0, .int .i64 0, .int .i64 0, .int .i64 0, .int .i64 0, .int .i64 0, .int .i64 0, .int .i64 0, .int .i64 0, .int .i64 0, .int .i64 0, .int .i64 0, .int .i64 0, .int .i64 0, .int .i64 0, .int .i64 0, .int .i64 0, .int .i64 0, .int .i64 0, .int .i64 0, .int .i64 0, .int .i64 0, .int .i64 0, .int .i64 0, .int .i64 0, .int .i64 0, .int .i64 0, .int .i64 0, .int .i64 0, .int .i64 0, .int .i64 0, .int .i64 0, .int .i64 0, .int .i64 0, .int .i64 0, .int .i64 0, .int .i64 0, .int .i64 0, .int .i64 0, .int .i64 0, .int .i64 0, .int .i64 0, .int .i64 0, .int .i64 0, .int .i64 0, .int .i64 0, .int .i64 0, .int .i64 0, .int .i64 0, .int .i64 0, .int .i64 0, .int .i64 0, .int .i64 0, .int .i64 0, .int .i64 0, .int .i64 0, .int .i64 0, .int .i64 0, .int .i64 0, .int .i64 0, .int .i64 0, .int .i64 0, .int .i64 0, .int .i64 0, .int .i64 0, .int .i64 0, .int .i64 0, .int .i64 0, .int .i64 0, .int .i64 0, .int .i64 0, .int .i64 0, .int .i64 0, .int .i64 0, .int .i64 0, .int .i64 0, .int .i64 0, .int .i64 0, .int .i64 0, .int .i64 0, .int .i64 0, .int .i64 0, .int .i64 0, .int .i64 0, .int .i64 0, .int .i64 0, .int .i64 0, .int .i64 0, .int .i64 0, .int .i64 0, .int .i64 0, .int .i64 0, .int .i64 0, .int .i64 0, .int .i64 0, .int .i64 0, .int .i64 0, .int .i64 0, .int .i64 0, .int .i64 0, .int .i64 0, .int .i64 0, .int .i64 0, .int .i64 0, .int .i64 0, .int .i64 0, .int .i64 0, .int .i64 0, .int .i64 0, .int .i64 0, .int .i64 0, .int .i64 0, .int .i64 0, .int .i64 0, .int .i64 0, .int .i64 0, .int .i64 0, .int .i64 0, .int .i64 0, .int .i64 0, .int .i64 0, .int .i64 0, .int .i64 0, .int .i64 0, .int .i64 0, .int .i64 0, .int .i64 0, .int .i64 0, .int .i64 0, .int .i64 0, .int .i64 0, .int .i64 0, .int .i64 0, .int .i64 0, .int .i64 0, .int .i64 0, .int .i64 0, .int .i64 0, .int .i64 0, .int .i64 0, .int .i64 0, .int .i64 0, .int .i64 0, .int .i64 0, .int .i64 0, .int .i64 0, .int .i64 0, .int .i64 0, .int .i64 0, .int .i64 0, .int .i64 0, .int .i64 0, .int .i64 0, .int .i64 0, .int .i64 0, .int .i64 0, .int .i64 0, .int .i64 0, .int .i64 0, .int .i64 0, .int .i64 0, .int .i64 0, .int .i64 0, .int .i64 0, .int .i64 0, .int .i64 0]) := by kernel_rfl
theorem zok_132 : ZOk Tryz.prog 132 256 = true := by kernel_rfl
theorem by_132 : byOf Tryz.prog 132 = 2048 := by kernel_rfl
theorem cells_133 : Tryz.prog.cellsOf 133 = 258 := by kernel_rfl
theorem ti_133 : TI Tryz.prog 133 = some (true, 258) := by kernel_rfl
theorem fi_133_0 : FI Tryz.prog 133 0 = some (0, (false, 1)) := by kernel_rfl
theorem fi_133_1 : FI Tryz.prog 133 1 = some (1, (true, 256)) := by kernel_rfl
theorem fi_133_2 : FI Tryz.prog 133 2 = some (257, (false, 1)) := by kernel_rfl
theorem si_133 : SI Tryz.prog 133 = some [(0, 1), (1, 256), (257, 1)] := by kernel_rfl
theorem zv_133 : ZV Tryz.prog 133 = some (.agg [.str [], .int .i64 0, .int .i64 0, .int .i64 0, .int .i64 0, .int .i64 0, .int .i64 0, .int .i64 0, .int .i64 0, .int .i64 0, .int .i64 0, .int .i64 0, .int .i64 0, .int .i64 0, .int .i64 0, .int .i64 0, .int .i64 0, .int .i64 0, .int .i64 0, .int .i64 0, .int .i64 0, .int .i64 0, .int .i64 0, .int .i64 0, .int .i64 0, .int .i64 0, .int .i64 0, .int .i64 0, .int .i64 0, .int .i64 0, .int .i64 0, .int .i64 0, .int .i64 0, .int .i64 0, .int .i64 0, .int .i64 0, .int .i64 0, .int .i64 0, .int .i64 0, .int .i64 0, .int .i64 0, .int .i64 0, .int .i64 0, .int .i64 0, .int .i64 0, .int .i64 0, .int .i64 0, .int .i64 0, .int .i64 0, .int .i64 0, .int .i64 0, .int .i64 0, .int .i64 0, .int .i64 0, .int .i64 0, .int .i64 0, .int .i64 0, .int .i64 0, .int .i64 0, .int .i64 0, .int .i64 0, .int .i64 0, .int .i64 0, .int .i64 0, .int .i64 0, .int .i64 0, .int .i64 0, .int .i64 0, .int .i64 0, .int .i64 0, .int .i64 0, .int .i64 0, .int .i64 0, .int .i64 0, .int .i64 0, .int .i64 0, .int .i64 0, .int .i64 0, .int .i64 0, .int .i64 0, .int .i64 0, .int .i64 0, .int .i64 0, .int .i64 0, .int .i64 0, .int .i64 0, .int .i64 0, .int .i64 0, .int .i64 0, .int .i64 0, .int .i64 0, .int .i64 0, .int .i64 0, .int .i64 0, .int .i64 0, .int .i64 0, .int .i64 0, .int .i64 0, .int .i64 0, .int .i64 0, .int .i64 0, .int .i64 0, .int .i64 0, .int .i64 0, .int .i64 0, .int .i64 0, .int .i64 0, .int .i64 0, .int .i64 0, .int .i64 0, .int .i64 0, .int .i64 0, .int .i64 0, .int .i64 0, .int .i64 0, .int .i64 0, .int .i64 0, .int .i64 0, .int .i64 0, .int .i64 0, .int .i64 0, .int .i64 0, .int .i64 0, .int .i64 0, .int .i64 0, .int .i64 0, .int .i64 0, .int .i64 0, .int .i64 0, .int .i64 0, .int .i64 0, .int .i64 0, .int .i64 0, .int .i64 0, .int .i64 0, .int .i64 0, .int .i64 0, .int .i64 0, .int .i64 0, .int .i64 0, .int .i64 0, .int .i64 0, .int .i64 0, .int .i64 0, .int .i64 0, .int .i64 0, .int .i64 0, .int .i64 0, .int .i64 0, .int .i64 0, .int .i64 0, .int .i64 0, .int .i64 0, .int .i64 0, .int .i64 0, .int .i64 0, .int .i64 0, .int .i64 0, .int .i64 0, .int .i64 0, .int .i64 0, .int .i64 0, .int .i64 0, .int .i64 0, .int .i64 0, .int .i64 0, .int .i64 0, .int .i64 0, .int .i64 0, .int .i64 0, .int .i64 0, .int .i64 0, .int .i64 0, .int .i64 0, .int .i64 0, .int .i64 0, .int .i64 0, .int .i64 0, .int .i64 0, .int .i64 0, .int .i64 0, .int .i64 0, .int .i64 0, .int .i64 0, .int .i64 0, .int .i64 0, .int .i64 0, .int .i64 0, .int .i64 0, .int .i64 0, .int .i64 0, .int .i64 0, .int .i64 0, .int .i64 0, .int .i64 0, .int .i64 0, .int .i64 0, .int .i64 0, .int .i64 0, .int .i64 0, .int .i64 0, .int .i64 0, .int .i64 0, .int .i64 0, .int .i64 0, .int .i64 0, .int .i64 0, .int .i64 0, .int .i64 0, .int .i64 0, .int .i64 0, .int .i64 0, .int .i64 0, .int .i64 0, .int .i64 0, .int .i64 0, .int .i64 0, .int .i64 0, .int .i64 0, .int .i64 0, .int .i64 0, .int .i64 0, .int .i64 0, .int .i64 0, .int .i64 0, .int .i64 0, .int .i64 0, .int .i64 0, .int .i64 0, .int .i64 0, .int .i64 0, .int .i64 0, .int .i64 0, .int .i64 0, .int .i64 0, .int .i64 0, .int .i64 0, .int .i64 0, .int .i64 0, .int .i64 0, .int .i64 0, .int .i64 0, .int .i64 0, .int .i64 0, .int .i64 0, .int .i64 0, .int .i64 0, .int .i64 0, .int .i64 0, .int .i64 0, .int .i64 0, .int .i64 0, .int .i64 0, .int .i64 0, .int .i64 0, .int .i64 0, .int .i64 0, .nils]) := by kernel_rfl
theorem zok_133 : ZOk Tryz.prog 133 258 = true := by kernel_rfl
theorem by_133 : byOf Tryz.prog 133 = 2088 := by kernel_rfl
theorem cells_134 : Tryz.prog.cellsOf 134 = 258 := by kernel_rfl
theorem ti_134 : TI Tryz.prog 134 = some (true, 258) := by kernel_rfl
theorem fi_134_0 : FI Tryz.prog 134 0 = some (0, (false, 1)) := by kernel_rfl
theorem fi_134_1 : FI Tryz.prog 134 1 = some (1, (true, 256)) := by kernel_rfl
theorem fi_134_2 : FI Tryz.prog 134 2 = some (257, (false, 1)) := by kernel_rfl
theorem si_134 : SI Tryz.prog 134 = some [(0, 1), (1, 256), (257, 1)] := by kernel_rfl
theorem zv_134 : ZV Tryz.prog 134 = some (.agg [.str [], .int .i64 0, .int .i64 0, .int .i64 0, .int .i64 0, .int .i64 0, .int .i64 0, .int .i64 0, .int .i64 0, .int .i64 0, .int .i64 0, .int .i64 0, .int .i64 0, .int .i64 0, .int .i64 0, .int .i64 0, .int .i64 0, .int .i64 0, .int .i64 0, .int .i64 0, .int .i64 0, .int .i64 0, .int .i64 0, .int .i64 0, .int .i64 0, .int .i64 0, .int .i64 0, .int .i64 0, .int .i64 0, .int .i64 0, .int .i64 0, .int .i64 0, .int .i64 0, .int .i64 0, .int .i64 0, .int .i64 0, .int .i64 0, .int .i64 0, .int .i64 0, .int .i64 0, .int .i64 0, .int .i64 0, .int .i64 0, .int .i64 0, .int .i64 0, .int .i64 0, .int .i64 0, .int .i64 0, .int .i64 0, .int .i64 0, .int .i64 0, .int .i64 0, .int .i64 0, .int .i64 0, .int .i64 0, .int .i64 0, .int .i64 0, .int .i64 0, .int .i64 0, .int .i64 0, .int .i64 0, .int .i64 0, .int .i64 0, .int .i64 0, .int .i64 0, .int .i64 0, .int .i64 0, .int .i64 0, .int .i64 0, .int .i64 0, .int .i64 0, .int .i64 0, .int .i64 0, .int .i64 0, .int .i64 0, .int .i64 0, .int .i64 0, .int .i64 0, .int .i64 0, .int .i64 0, .int .i64 0, .int .i64 0, .int .i64 0, .int .i64 0, .int .i64 0, .int .i64 0, .int .i64 0, .int .i64 0, .int .i64 0, .int .i64 0, .int .i64 0, .int .i64 0, .int .i64 0, .int .i64 0, .int .i64 0, .int .i64 0, .int .i64 0, .int .i64 0, .int .i64 0, .int .i64 0, .int .i64 0, .int .i64 0, .int .i64 0, .int .i64 0, .int .i64 0, .int .i64 0, .int .i64 0, .int .i64 0, .int .i64 0, .int .i64 0, .int .i64 0, .int .i64 0, .int .i64 0, .int .i64 0, .int .i64 0, .int .i64 0, .int .i64 0, .int .i64 0, .int .i64 0, .int .i64 0, .int .i64 0, .int .i64 0, .int .i64 0, .int .i64 0, .int .i64 0, .int .i64 0, .int .i64 0, .int .i64 0, .int .i64 0, .int .i64 0, .int .i64 0, .int .i64 0, .int .i64 0, .int .i64 0, .int .i64 0, .int .i64 0, .int .i64 0, .int .i64 0, .int .i64 0, .int .i64 0, .int .i64 0, .int .i64 0, .int .i64 0, .int .i64 0, .int .i64 0, .int .i64 0, .int .i64 0, .int .i64 0, .int .i64 0, .int .i64 0, .int .i64 0, .int .i64 0, .int .i64 0, .int .i64 0, .int .i64 0, .int .i64 0, .int .i64 0, .int .i64 0, .int .i64 0, .int .i64 0, .int .i64 0, .int .i64 0, .int .i64 0, .int .i64 0, .int .i64 0, .int .i64 0, .int .i64 0, .int .i64 0, .int .i64 0, .int .i64 0, .int .i64 0, .int .i64 0, .int .i64 0, .int .i64 0, .int .i64 0, .int .i64 0, .int .i64 0, .int .i64 0, .int .i64 0, .int .i64 0, .int .i64 0, .int .i64 0, .int .i64 0, .int .i64 0, .int .i64 0, .int .i64 0, .int .i64 0, .int .i64 0, .int .i64 0, .int .i64 0, .int .i64 0, .int .i64 0, .int .i64 0, .int .i64 0, .int .i64 0, .int .i64 0, .int .i64 0, .int .i64 0, .int .i64 0, .int .i64 0, .int .i64 0, .int .i64 0, .int .i64 0, .int .i64 0, .int .i64 0, .int .i64 0, .int .i64 0, .int .i64 0, .int .i64 0, .int .i64 0, .int .i64 0, .int .i64 0, .int .i64 0, .int .i64 0, .int .i64 0, .int .i64 0, .int .i64 0, .int .i64 0, .int .i64 0, .int .i64 0, .int .i64 0, .int .i64 0, .int .i64 0, .int .i64 0, .int .i64 0, .int .i64 0, .int .i64 0, .int .i64 0, .int .i64 0, .int .i64 0, .int .i64 0, .int .i64 0, .int .i64 0, .int .i64 0, .int .i64 0, .int .i64 0, .int .i64 0, .int .i64 0, .int .i64 0, .int .i64 0, .int .i64 0, .int .i64 0, .int .i64 0, .int .i64 0, .int .i64 0, .int .i64 0, .int .i64 0, .int .i64 0, .int .i64 0, .int .i64 0, .int .i64 0, .int .i64 0, .int .i64 0, .int .i64 0, .int .i64 0, .int .i64 0, .int .i64 0, .nils]) := by kernel_rfl
theorem zok_134 : ZOk Tryz.prog 134 258 = true := by kernel_rfl
theorem by_134 : byOf Tryz.prog 134 = 2088 := by kernel_rfl
theorem cells_135 : Tryz.prog.cellsOf 135 = 1 := by kernel_rfl
theorem ti_135 : TI Tryz.prog 135 = some (false, 1) := by kernel_rfl
theorem zv_135 : ZV Tryz.prog 135 = some (.any) := by kernel_rfl
theorem zok_135 : ZOk Tryz.prog 135 1 = true := by kernel_rfl
theorem by_135 : byOf Tryz.prog 135 = 8 := by kernel_rfl
theorem cells_136 : Tryz.prog.cellsOf 136 = 1 := by kernel_rfl
theorem ti_136 : TI Tryz.prog 136 = some (false, 1) := by kernel_rfl
theorem zv_136 : ZV Tryz.prog 136 = some (.any) := by kernel_rfl
theorem zok_136 : ZOk Tryz.prog 136 1 = true := by kernel_rfl
theorem by_136 : byOf Tryz.prog 136 = 8 := by kernel_rfl
theorem cells_137 : Tryz.prog.cellsOf 137 = 1 := by kernel_rfl
theorem ti_137 : TI Tryz.prog 137 = some (false, 1) := by kernel_rfl
theorem zv_137 : ZV Tryz.prog 137 = some (.any) := by kernel_rfl
theorem zok_137 : ZOk Tryz.prog 137 1 = true := by kernel_rfl
theorem by_137 : byOf Tryz.prog 137 = 8 := by kernel_rfl
theorem cells_138 : Tryz.prog.cellsOf 138 = 1 := by kernel_rfl
theorem ti_138 : TI Tryz.prog 138 = some (false, 1) := by kernel_rfl
theorem zv_138 : ZV Tryz.prog 138 = some (.any) := by kernel_rfl
theorem zok_138 : ZOk Tryz.prog 138 1 = true := by kernel_rfl
theorem by_138 : byOf Tryz.prog 138 = 8 := by kernel_rfl
theorem cells_139 : Tryz.prog.cellsOf 139 = 1 := by kernel_rfl
theorem ti_139 : TI Tryz.prog 139 = some (false, 1) := by kernel_rfl
theorem zv_139 : ZV Tryz.prog 139 = some (.any) := by kernel_rfl
theorem zok_139 : ZOk Tryz.prog 139 1 = true := by kernel_rfl
theorem by_139 : byOf Tryz.prog 139 = 8 := by kernel_rfl
theorem cells_140 : Tryz.prog.cellsOf 140 = 1 := by kernel_rfl
theorem ti_140 : TI Tryz.prog 140 = some (false, 1) := by kernel_rfl
theorem zv_140 : ZV Tryz.prog 140 = some (.any) := by kernel_rfl
theorem zok_140 : ZOk Tryz.prog 140 1 = true := by kernel_rfl
theorem by_140 : byOf Tryz.prog 140 = 8 := by kernel_rfl
theorem cells_146 : Tryz.prog.cellsOf 146 = 1 := by kernel_rfl
theorem ti_146 : TI Tryz.prog 146 = some (false, 1) := by kernel_rfl
theorem zv_146 : ZV Tryz.prog 146 = some (.any) := by kernel_rfl
theorem zok_146 : ZOk Tryz.prog 146 1 = true := by kernel_rfl
theorem by_146 : byOf Tryz.prog 146 = 8 := by kernel_rfl
theorem cells_150 : Tryz.prog.cellsOf 150 = 1 := by kernel_rfl
theorem ti_150 : TI Tryz.prog 150 = some (false, 1) := by kernel_rfl
theorem isPtr_150 : isPtr Tryz.prog 150 = true := by kernel_rfl
theorem zv_150 : ZV Tryz.prog 150 = some (.nilp) := by kernel_rfl
theorem zok_150 : ZOk Tryz.prog 150 1 = true := by kernel_rfl
theorem by_150 : byOf Tryz.prog 150 = 8 := by kernel_rfl
theorem cells_155 : Tryz.prog.cellsOf 155 = 1 := by kernel_rfl
theorem ti_155 : TI Tryz.prog 155 = some (false, 1) := by kernel_rfl
theorem zv_155 : ZV Tryz.prog 155 = some (.any) := by kernel_rfl
theorem zok_155 : ZOk Tryz.prog 155 1 = true := by kernel_rfl
theorem by_155 : byOf Tryz.prog 155 = 8 := by kernel_rfl
theorem cells_156 : Tryz.prog.cellsOf 156 = 1 := by kernel_rfl
theorem ti_156 : TI Tryz.prog 156 = some (false, 1) := by kernel_rfl
theorem isPtr_156 : isPtr Tryz.prog 156 = true := by kernel_rfl
theorem zv_156 : ZV Tryz.prog 156 = some (.nilp) := by kernel_rfl
theorem zok_156 : ZOk Tryz.prog 156 1 = true := by kernel_rfl
theorem by_156 : byOf Tryz.prog 156 = 8 := by kernel_rfl
theorem cells_157 : Tryz.prog.cellsOf 157 = 2 := by kernel_rfl
theorem ti_157 : TI Tryz.prog 157 = some (true, 2) := by kernel_rfl
theorem fi_157_0 : FI Tryz.prog 157 0 = some (0, (false, 1)) := by kernel_rfl
theorem fi_157_1 : FI Tryz.prog 157 1 = some (1, (false, 1)) := by kernel_rfl
theorem si_157 : SI Tryz.prog 157 = some [(0, 1), (1, 1)] := by kernel_rfl
theorem zv_157 : ZV Tryz.prog 157 = some (.agg [.nilp, .nils]) := by kernel_rfl
theorem zok_157 : ZOk Tryz.prog 157 2 = true := by kernel_rfl
theorem by_157 : byOf Tryz.prog 157 = 32 := by kernel_rfl
theorem cells_158 : Tryz.prog.cellsOf 158 = 2 := by kernel_rfl
theorem ti_158 : TI Tryz.prog 158 = some (true, 2) := by kernel_rfl
theorem fi_158_0 : FI Tryz.prog 158 0 = some (0, (false, 1)) := by kernel_rfl
theorem fi_158_1 : FI Tryz.prog 158 1 = some (1, (false, 1)) := by kernel_rfl
theorem si_158 : SI Tryz.prog 158 = some [(0, 1), (1, 1)] := by kernel_rfl
theorem zv_158 : ZV Tryz.prog 158 = some (.agg [.nilp, .nils]) := by kernel_rfl
theorem zok_158 : ZOk Tryz.prog 158 2 = true := by kernel_rfl
theorem by_158 : byOf Tryz.prog 158 = 32 := by kernel_rfl
theorem cells_159 : Tryz.prog.cellsOf 159 = 1 := by kernel_rfl
theorem ti_159 : TI Tryz.prog 159 = some (false, 1) := by kernel_rfl
theorem zv_159 : ZV Tryz.prog 159 = some (.any) := by kernel_rfl
theorem zok_159 : ZOk Tryz.prog 159 1 = true := by kernel_rfl
theorem by_159 : byOf Tryz.prog 159 = 8 := by kernel_rfl
theorem cells_160 : Tryz.prog.cellsOf 160 = 1 := by kernel_rfl
theorem ti_160 : TI Tryz.prog 160 = some (false, 1) := by kernel_rfl
theorem zv_160 : ZV Tryz.prog 160 = some (.any) := by kernel_rfl
theorem zok_160 : ZOk Tryz.prog 160 1 = true := by kernel_rfl
theorem by_160 : byOf Tryz.prog 160 = 8 := by kernel_rfl
theorem cells_164 : Tryz.prog.cellsOf 164 = 1 := by kernel_rfl
theorem ti_164 : TI Tryz.prog 164 = some (false, 1) := by kernel_rfl
theorem zv_164 : ZV Tryz.prog 164 = some (.any) := by kernel_rfl
theorem zok_164 : ZOk Tryz.prog 164 1 = true := by kernel_rfl
theorem by_164 : byOf Tryz.prog 164 = 8 := by kernel_rfl
theorem cells_166 : Tryz.prog.cellsOf 166 = 1 := by kernel_rfl
theorem ti_166 : TI Tryz.prog 166 = some (false, 1) := by kernel_rfl
theorem zv_166 : ZV Tryz.prog 166 = some (.any) := by kernel_rfl
theorem zok_166 : ZOk Tryz.prog 166 1 = true := by kernel_rfl
theorem by_166 : byOf Tryz.prog 166 = 8 := by kernel_rfl
theorem cells_167 : Tryz.prog.cellsOf 167 = 1 := by kernel_rfl
theorem ti_167 : TI Tryz.prog 167 = some (false, 1) := by kernel_rfl
theorem ei_167 : EI Tryz.prog 167 = some (5, 1) := by kernel_rfl
theorem isSli_167 : isSli Tryz.prog 167 = true := by kernel_rfl
theorem notInt_167 : notInt Tryz.prog 167 = true := by kernel_rfl
theorem zv_167 : ZV Tryz.prog 167 = some (.nils) := by kernel_rfl
theorem zok_167 : ZOk Tryz.prog 167 1 = true := by kernel_rfl
theorem by_167 : byOf Tryz.prog 167 = 24 := by kernel_rfl
theorem cells_168 : Tryz.prog.cellsOf 168 = 1 := by kernel_rfl
theorem ti_168 : TI Tryz.prog 168 = some (false, 1) := by kernel_rfl
theorem isPtr_168 : isPtr Tryz.prog 168 = true := by kernel_rfl
theorem zv_168 : ZV Tryz.prog 168 = some (.nilp) := by kernel_rfl
theorem zok_168 : ZOk Tryz.prog 168 1 = true := by kernel_rfl
theorem by_168 : byOf Tryz.prog 168 = 8 := by kernel_rfl
theorem cells_173 : Tryz.prog.cellsOf 173 = 1 := by kernel_rfl
theorem ti_173 : TI Tryz.prog 173 = some (false, 1) := by kernel_rfl
theorem zv_173 : ZV Tryz.prog 173 = some (.any) := by kernel_rfl
theorem zok_173 : ZOk Tryz.prog 173 1 = true := by kernel_rfl
theorem by_173 : byOf Tryz.prog 173 = 8 := by kernel_rfl
theorem cells_175 : Tryz.prog.cellsOf 175 = 1 := by kernel_rfl
theorem ti_175 : TI Tryz.prog 175 = some (false, 1) := by kernel_rfl
theorem zv_175 : ZV Tryz.prog 175 = some (.any) := by kernel_rfl
theorem zok_175 : ZOk Tryz.prog 175 1 = true := by kernel_rfl
theorem by_175 : byOf Tryz.prog 175 = 8 := by kernel_rfl
theorem cells_177 : Tryz.prog.cellsOf 177 = 1 := by kernel_rfl
theorem ti_177 : TI Tryz.prog 177 = some (true, 1) := by kernel_rfl
theorem fi_177_0 : FI Tryz.prog 177 0 = some (0, (false, 1)) := by kernel_rfl
theorem si_177 : SI Tryz.prog 177 = some [(0, 1)] := by kernel_rfl
theorem zv_177 : ZV Tryz.prog 177 = some (.agg [.nili]) := by kernel_rfl
theorem zok_177 : ZOk Tryz.prog 177 1 = true := by kernel_rfl
theorem by_177 : byOf Tryz.prog 177 = 16 := by kernel_rfl
theorem cells_178 : Tryz.prog.cellsOf 178 = 1 := by kernel_rfl
theorem ti_178 : TI Tryz.prog 178 = some (true, 1) := by kernel_rfl
theorem fi_178_0 : FI Tryz.prog 178 0 = some (0, (false, 1)) := by kernel_rfl
theorem si_178 : SI Tryz.prog 178 = some [(0, 1)] := by kernel_rfl
theorem zv_178 : ZV Tryz.prog 178 = some (.agg [.nili]) := by kernel_rfl
theorem zok_178 : ZOk Tryz.prog 178 1 = true := by kernel_rfl
theorem by_178 : byOf Tryz.prog 178 = 16 := by kernel_rfl
theorem cells_179 : Tryz.prog.cellsOf 179 = 1 := by kernel_rfl
theorem ti_179 : TI Tryz.prog 179 = some (false, 1) := by kernel_rfl
theorem zv_179 : ZV Tryz.prog 179 = some (.any) := by kernel_rfl
theorem zok_179 : ZOk Tryz.prog 179 1 = true := by kernel_rfl
theorem by_179 : byOf Tryz.prog 179 = 8 := by kernel_rfl
theorem cells_181 : Tryz.prog.cellsOf 181 = 1 := by kernel_rfl
theorem ti_181 : TI Tryz.prog 181 = some (false, 1) := by kernel_rfl
theorem zv_181 : ZV Tryz.prog 181 = some (.any) := by kernel_rfl
theorem zok_181 : ZOk Tryz.prog 181 1 = true := by kernel_rfl
theorem by_181 : byOf Tryz.prog 181 = 8 := by kernel_rfl
theorem uns_1 : (Tryz.prog.underlying 1).isSome = true := by kernel_rfl
theorem tok_1 : TOk Tryz.prog 1 { ti := some (false, 1), zv := some (.any), zok := some 1, by' := some 8, un := true } := ⟨ti_1, trivial, trivial, trivial, trivial, zv_1, zok_1, by_1, trivial, trivial, trivial, trivial, trivial, trivial, uns_1, trivial⟩
theorem uns_2 : (Tryz.prog.underlying 2).isSome = true := by kernel_rfl
theorem tok_2 : TOk Tryz.prog 2 { ti := some (false, 1), zv := some (.int .i64 0), zok := some 1, by' := some 8, ik := some .i64, un := true } := ⟨ti_2, trivial, trivial, trivial, trivial, zv_2, zok_2, by_2, intK_2, trivial, trivial, trivial, trivial, trivial, uns_2, trivial⟩
theorem uns_3 : (Tryz.prog.underlying 3).isSome = true := by kernel_rfl
theorem tok_3 : TOk Tryz.prog 3 { ti := some (false, 1), zv := some (.int .i64 0), zok := some 1, by' := some 8, ik := some .i64, un := true } := ⟨ti_3, trivial, trivial, trivial, trivial, zv_3, zok_3, by_3, intK_3, trivial, trivial, trivial, trivial, trivial, uns_3, trivial⟩
theorem uns_4 : (Tryz.prog.underlying 4).isSome = true := by kernel_rfl
theorem tok_4 : TOk Tryz.prog 4 { ti := some (false, 1), zv := some (.bool false), zok := some 1, by' := some 1, boo := true, un := true } := ⟨ti_4, trivial, trivial, trivial, trivial, zv_4, zok_4, by_4, trivial, trivial, trivial, isBoo_4, trivial, trivial, uns_4, trivial⟩
theorem uns_5 : (Tryz.prog.underlying 5).isSome = true := by kernel_rfl
theorem tok_5 : TOk Tryz.prog 5 { ti := some (false, 1), zv := some (.int .u8 0), zok := some 1, by' := some 1, ik := some .u8, un := true } := ⟨ti_5, trivial, trivial, trivial, trivial, zv_5, zok_5, by_5, intK_5, trivial, trivial, trivial, trivial, trivial, uns_5, trivial⟩
theorem uns_9 : (Tryz.prog.underlying 9).isSome = true := by kernel_rfl
theorem tok_9 : TOk Tryz.prog 9 { ti := some (false, 1), zv := some (.str []), zok := some 1, by' := some 16, str := true, ni := true, un := true } := ⟨ti_9, trivial, trivial, trivial, trivial, zv_9, zok_9, by_9, trivial, isStr_9, trivial, trivial, trivial, notInt_9, uns_9, trivial⟩
theorem uns_12 : (Tryz.prog.underlying 12).isSome = true := by kernel_rfl
theorem tok_12 : TOk Tryz.prog 12 { ti := some (false, 1), zv := some (.int .u64 0), zok := some 1, by' := some 8, ik := some .u64, un := true } := ⟨ti_12, trivial, trivial, trivial, trivial, zv_12, zok_12, by_12, intK_12, trivial, trivial, trivial, trivial, trivial, uns_12, trivial⟩
theorem uns_13 : (Tryz.prog.underlying 13).isSome = true := by kernel_rfl
theorem tok_13 : TOk Tryz.prog 13 { ti := some (true, 2), fi := [some (0, (false, 1)), some (1, (false, 1))], si := some [(0, 1), (1, 1)], zv := some (.agg [.str [], .int .u64 0]), zok := some 2, by' := some 24, un := true } := ⟨ti_13, trivial, trivial, ⟨fi_13_0, fi_13_1, trivial⟩, si_13, zv_13, zok_13, by_13, trivial, trivial, trivial, trivial, trivial, trivial, uns_13, trivial⟩
theorem uns_21 : (Tryz.prog.underlying 21).isSome = true := by kernel_rfl
theorem tok_21 : TOk Tryz.prog 21 { ti := some (false, 1), zv := some (.int .i32 0), zok := some 1, by' := some 4, ik := some .i32, un := true } := ⟨ti_21, trivial, trivial, trivial, trivial, zv_21, zok_21, by_21, intK_21, trivial, trivial, trivial, trivial, trivial, uns_21, trivial⟩
theorem uns_22 : (Tryz.prog.underlying 22).isSome = true := by kernel_rfl
theorem tok_22 : TOk Tryz.prog 22 { ti := some (false, 1), ei := some (9, 1), zv := some (.nils), zok := some 1, by' := some 24, sli := true, ni := true, un := true } := ⟨ti_22, ei_22, trivial, trivial, trivial, zv_22, zok_22, by_22, trivial, trivial, isSli_22, trivial, trivial, notInt_22, uns_22, trivial⟩
theorem uns_23 : (Tryz.prog.underlying 23).isSome = true := by kernel_rfl
theorem tok_23 : TOk Tryz.prog 23 { ti := some (false, 1), ei := some (35, 4), zv := some (.nils), zok := some 1, by' := some 24, sli := true, ni := true, un := true } := ⟨ti_23, ei_23, trivial, trivial, trivial, zv_23, zok_23, by_23, trivial, trivial, isSli_23, trivial, trivial, notInt_23, uns_23, trivial⟩
theorem uns_24 : (Tryz.prog.underlying 24).isSome = true := by kernel_rfl
theorem tok_24 : TOk Tryz.prog 24 { ti := some (false, 1), zv := some (.int .i64 0), zok := some 1, by' := some 8, ik := some .i64, un := true } := ⟨ti_24, trivial, trivial, trivial, trivial, zv_24, zok_24, by_24, intK_24, trivial, trivial, trivial, trivial, trivial, uns_24, trivial⟩
theorem uns_26 : (Tryz.prog.underlying 26).isSome = true := by kernel_rfl
theorem tok_26 : TOk Tryz.prog 26 { ti := some (false, 1), zv := some (.any), zok := some 1, by' := some 8, un := true } := ⟨ti_26, trivial, trivial, trivial, trivial, zv_26, zok_26, by_26, trivial, trivial, trivial, trivial, trivial, trivial, uns_26, trivial⟩
theorem uns_27 : (Tryz.prog.underlying 27).isSome = true := by kernel_rfl
theorem tok_27 : TOk Tryz.prog 27 { ti := some (false, 1), zv := some (.any), zok := some 1, by' := some 8, un := true } := ⟨ti_27, trivial, trivial, trivial, trivial, zv_27, zok_27, by_27, trivial, trivial, trivial, trivial, trivial, trivial, uns_27, trivial⟩
theorem uns_28 : (Tryz.prog.underlying 28).isSome = true := by kernel_rfl
theorem tok_28 : TOk Tryz.prog 28 { ti := some (false, 1), zv := some (.any), zok := some 1, by' := some 8, un := true } := ⟨ti_28, trivial, trivial, trivial, trivial, zv_28, zok_28, by_28, trivial, trivial, trivial, trivial, trivial, trivial, uns_28, trivial⟩
theorem uns_29 : (Tryz.prog.underlying 29).isSome = true := by kernel_rfl
theorem tok_29 : TOk Tryz.prog 29 { ti := some (false, 1), zv := some (.any), zok := some 1, by' := some 8, un := true } := ⟨ti_29, trivial, trivial, trivial, trivial, zv_29, zok_29, by_29, trivial, trivial, trivial, trivial, trivial, trivial, uns_29, trivial⟩
theorem uns_30 : (Tryz.prog.underlying 30).isSome = true := by kernel_rfl
theorem tok_30 : TOk Tryz.prog 30 { ti := some (false, 1), zv := some (.any), zok := some 1, by' := some 8, un := true } := ⟨ti_30, trivial, trivial, trivial, trivial, zv_30, zok_30, by_30, trivial, trivial, trivial, trivial, trivial, trivial, uns_30, trivial⟩
theorem uns_32 : (Tryz.prog.underlying 32).isSome = true := by kernel_rfl
theorem tok_32 : TOk Tryz.prog 32 { ti := some (false, 1), zv := some (.any), zok := some 1, by' := some 8, un := true } := ⟨ti_32, trivial, trivial, trivial, trivial, zv_32, zok_32, by_32, trivial, trivial, trivial, trivial, trivial, trivial, uns_32, trivial⟩
theorem uns_33 : (Tryz.prog.underlying 33).isSome = true := by kernel_rfl
theorem tok_33 : TOk Tryz.prog 33 { ti := some (false, 1), ei := some (41, 2), zv := some (.nils), zok := some 1, by' := some 24, sli := true, ni := true, un := true } := ⟨ti_33, ei_33, trivial, trivial, trivial, zv_33, zok_33, by_33, trivial, trivial, isSli_33, trivial, trivial, notInt_33, uns_33, trivial⟩
theorem uns_34 : (Tryz.prog.underlying 34).isSome = true := by kernel_rfl
theorem tok_34 : TOk Tryz.prog 34 { ti := some (true, 4), fi := [some (0, (false, 1)), some (1, (false, 1)), some (2, (false, 1)), some (3, (false, 1))], si := some [(0, 1), (1, 1), (2, 1), (3, 1)], zv := some (.agg [.str [], .nils, .str [], .nils]), zok := some 4, by' := some 80, un := true } := ⟨ti_34, trivial, trivial, ⟨fi_34_0, fi_34_1, fi_34_2, fi_34_3, trivial⟩, si_34, zv_34, zok_34, by_34, trivial, trivial, trivial, trivial, trivial, trivial, uns_34, trivial⟩
theorem uns_35 : (Tryz.prog.underlying 35).isSome = true := by kernel_rfl
theorem tok_35 : TOk Tryz.prog 35 { ti := some (true, 4), fi := [some (0, (false, 1)), some (1, (false, 1)), some (2, (false, 1)), some (3, (false, 1))], si := some [(0, 1), (1, 1), (2, 1), (3, 1)], zv := some (.agg [.str [], .nils, .str [], .nils]), zok := some 4, by' := some 80, un := true } := ⟨ti_35, trivial, trivial, ⟨fi_35_0, fi_35_1, fi_35_2, fi_35_3, trivial⟩, si_35, zv_35, zok_35, by_35, trivial, trivial, trivial, trivial, trivial, trivial, uns_35, trivial⟩
theorem uns_36 : (Tryz.prog.underlying 36).isSome = true := by kernel_rfl
theorem tok_36 : TOk Tryz.prog 36 { ti := some (false, 1), zv := some (.any), zok := some 1, by' := some 8, un := true } := ⟨ti_36, trivial, trivial, trivial, trivial, zv_36, zok_36, by_36, trivial, trivial, trivial, trivial, trivial, trivial, uns_36, trivial⟩
theorem uns_38 : (Tryz.prog.underlying 38).isSome = true := by kernel_rfl
theorem tok_38 : TOk Tryz.prog 38 { ti := some (false, 1), zv := some (.any), zok := some 1, by' := some 8, un := true } := ⟨ti_38, trivial, trivial, trivial, trivial, zv_38, zok_38, by_38, trivial, trivial, trivial, trivial, trivial, trivial, uns_38, trivial⟩
theorem uns_39 : (Tryz.prog.underlying 39).isSome = true := by kernel_rfl
theorem tok_39 : TOk Tryz.prog 39 { ti := some (false, 1), zv := some (.any), zok := some 1, by' := some 8, un := true } := ⟨ti_39, trivial, trivial, trivial, trivial, zv_39, zok_39, by_39, trivial, trivial, trivial, trivial, trivial, trivial, uns_39, trivial⟩
theorem uns_40 : (Tryz.prog.underlying 40).isSome = true := by kernel_rfl
theorem tok_40 : TOk Tryz.prog 40 { ti := some (true, 2), fi := [some (0, (false, 1)), some (1, (false, 1))], si := some [(0, 1), (1, 1)], zv := some (.agg [.str [], .str []]), zok := some 2, by' := some 32, un := true } := ⟨ti_40, trivial, trivial, ⟨fi_40_0, fi_40_1, trivial⟩, si_40, zv_40, zok_40, by_40, trivial, trivial, trivial, trivial, trivial, trivial, uns_40, trivial⟩
theorem sq_41 : SQ Tryz.prog 41 = some [.s, .s] := by kernel_rfl
theorem uns_41 : (Tryz.prog.underlying 41).isSome = true := by kernel_rfl
theorem tok_41 : TOk Tryz.prog 41 { ti := some (true, 2), fi := [some (0, (false, 1)), some (1, (false, 1))], si := some [(0, 1), (1, 1)], zv := some (.agg [.str [], .str []]), zok := some 2, by' := some 32, un := true, sq := some [.s, .s] } := ⟨ti_41, trivial, trivial, ⟨fi_41_0, fi_41_1, trivial⟩, si_41, zv_41, zok_41, by_41, trivial, trivial, trivial, trivial, trivial, trivial, uns_41, sq_41⟩
theorem uns_42 : (Tryz.prog.underlying 42).isSome = true := by kernel_rfl
theorem tok_42 : TOk Tryz.prog 42 { ti := some (false, 1), zv := some (.any), zok := some 1, by' := some 8, un := true } := ⟨ti_42, trivial, trivial, trivial, trivial, zv_42, zok_42, by_42, trivial, trivial, trivial, trivial, trivial, trivial, uns_42, trivial⟩
theorem uns_43 : (Tryz.prog.underlying 43).isSome = true := by kernel_rfl
theorem tok_43 : TOk Tryz.prog 43 { ti := some (false, 1), zv := some (.any), zok := some 1, by' := some 8, un := true } := ⟨ti_43, trivial, trivial, trivial, trivial, zv_43, zok_43, by_43, trivial, trivial, trivial, trivial, trivial, trivial, uns_43, trivial⟩
theorem uns_44 : (Tryz.prog.underlying 44).isSome = true := by kernel_rfl
theorem tok_44 : TOk Tryz.prog 44 { ti := some (false, 1), zv := some (.any), zok := some 1, by' := some 8, un := true } := ⟨ti_44, trivial, trivial, trivial, trivial, zv_44, zok_44, by_44, trivial, trivial, trivial, trivial, trivial, trivial, uns_44, trivial⟩
theorem uns_45 : (Tryz.prog.underlying 45).isSome = true := by kernel_rfl
theorem tok_45 : TOk Tryz.prog 45 { ti := some (false, 1), zv := some (.any), zok := some 1, by' := some 8, un := true } := ⟨ti_45, trivial, trivial, trivial, trivial, zv_45, zok_45, by_45, trivial, trivial, trivial, trivial, trivial, trivial, uns_45, trivial⟩
theorem uns_46 : (Tryz.prog.underlying 46).isSome = true := by kernel_rfl
theorem tok_46 : TOk Tryz.prog 46 { ti := some (false, 1), zv := some (.any), zok := some 1, by' := some 8, un := true } := ⟨ti_46, trivial, trivial, trivial, trivial, zv_46, zok_46, by_46, trivial, trivial, trivial, trivial, trivial, trivial, uns_46, trivial⟩
theorem uns_47 : (Tryz.prog.underlying 47).isSome = true := by kernel_rfl
theorem tok_47 : TOk Tryz.prog 47 { ti := some (false, 1), zv := some (.any), zok := some 1, by' := some 8, un := true } := ⟨ti_47, trivial, trivial, trivial, trivial, zv_47, zok_47, by_47, trivial, trivial, trivial, trivial, trivial, trivial, uns_47, trivial⟩
theorem uns_48 : (Tryz.prog.underlying 48).isSome = true := by kernel_rfl
theorem tok_48 : TOk Tryz.prog 48 { ti := some (false, 1), zv := some (.any), zok := some 1, by' := some 8, un := true } := ⟨ti_48, trivial, trivial, trivial, trivial, zv_48, zok_48, by_48, trivial, trivial, trivial, trivial, trivial, trivial, uns_48, trivial⟩
theorem uns_49 : (Tryz.prog.underlying 49).isSome = true := by kernel_rfl
theorem tok_49 : TOk Tryz.prog 49 { ti := some (false, 1), zv := some (.any), zok := some 1, by' := some 8, un := true } := ⟨ti_49, trivial, trivial, trivial, trivial, zv_49, zok_49, by_49, trivial, trivial, trivial, trivial, trivial, trivial, uns_49, trivial⟩
theorem uns_50 : (Tryz.prog.underlying 50).isSome = true := by kernel_rfl
theorem tok_50 : TOk Tryz.prog 50 { ti := some (false, 1), zv := some (.any), zok := some 1, by' := some 8, un := true } := ⟨ti_50, trivial, trivial, trivial, trivial, zv_50, zok_50, by_50, trivial, trivial, trivial, trivial, trivial, trivial, uns_50, trivial⟩
theorem uns_51 : (Tryz.prog.underlying 51).isSome = true := by kernel_rfl
theorem tok_51 : TOk Tryz.prog 51 { ti := some (false, 1), zv := some (.any), zok := some 1, by' := some 8, un := true } := ⟨ti_51, trivial, trivial, trivial, trivial, zv_51, zok_51, by_51, trivial, trivial, trivial, trivial, trivial, trivial, uns_51, trivial⟩
theorem uns_52 : (Tryz.prog.underlying 52).isSome = true := by kernel_rfl
theorem tok_52 : TOk Tryz.prog 52 { ti := some (false, 1), zv := some (.any), zok := some 1, by' := some 8, un := true } := ⟨ti_52, trivial, trivial, trivial, trivial, zv_52, zok_52, by_52, trivial, trivial, trivial, trivial, trivial, trivial, uns_52, trivial⟩
theorem uns_53 : (Tryz.prog.underlying 53).isSome = true := by kernel_rfl
theorem tok_53 : TOk Tryz.prog 53 { ti := some (false, 1), zv := some (.nilp), zok := some 1, by' := some 8, ptr := true, un := true } := ⟨ti_53, trivial, trivial, trivial, trivial, zv_53, zok_53, by_53, trivial, trivial, trivial, trivial, isPtr_53, trivial, uns_53, trivial⟩
theorem uns_54 : (Tryz.prog.underlying 54).isSome = true := by kernel_rfl
theorem tok_54 : TOk Tryz.prog 54 { ti := some (false, 1), zv := some (.any), zok := some 1, by' := some 8, un := true } := ⟨ti_54, trivial, trivial, trivial, trivial, zv_54, zok_54, by_54, trivial, trivial, trivial, trivial, trivial, trivial, uns_54, trivial⟩
theorem uns_55 : (Tryz.prog.underlying 55).isSome = true := by kernel_rfl
theorem tok_55 : TOk Tryz.prog 55 { ti := some (false, 1), ei := some (5, 1), zv := some (.nils), zok := some 1, by' := some 24, sli := true, ni := true, un := true } := ⟨ti_55, ei_55, trivial, trivial, trivial, zv_55, zok_55, by_55, trivial, trivial, isSli_55, trivial, trivial, notInt_55, uns_55, trivial⟩
theorem uns_56 : (Tryz.prog.underlying 56).isSome = true := by kernel_rfl
theorem tok_56 : TOk Tryz.prog 56 { ti := some (false, 1), zv := some (.any), zok := some 1, by' := some 8, un := true } := ⟨ti_56, trivial, trivial, trivial, trivial, zv_56, zok_56, by_56, trivial, trivial, trivial, trivial, trivial, trivial, uns_56, trivial⟩
theorem uns_57 : (Tryz.prog.underlying 57).isSome = true := by kernel_rfl
theorem tok_57 : TOk Tryz.prog 57 { ti := some (true, 256), ai := some (256, (false, 1)), zv := some (.agg [.bool false, .bool false, .bool false, .bool false, .bool false, .bool false, .bool false, .bool false, .bool false, .bool false, .bool false, .bool false, .bool false, .bool false, .bool false, .bool false, .bool false, .bool false, .bool false, .bool false, .bool false, .bool false, .bool false, .bool false, .bool false, .bool false, .bool false, .bool false, .bool false, .bool false, .bool false, .bool false, .bool false, .bool false, .bool false, .bool false, .bool false, .bool false, .bool false, .bool false, .bool false, .bool false, .bool false, .bool false, .bool false, .bool false, .bool false, .bool false, .bool false, .bool false, .bool false, .bool false, .bool false, .bool false, .bool false, .bool false, .bool false, .bool false, .bool false, .bool false, .bool false, .bool false, .bool false, .bool false, .bool false, .bool false, .bool false, .bool false, .bool false, .bool false, .bool false, .bool false, .bool false, .bool false, .bool false, .bool false, .bool false, .bool false, .bool false, .bool false, .bool false, .bool false, .bool false, .bool false, .bool false, .bool false, .bool false, .bool false, .bool false, .bool false, .bool false, .bool false, .bool false, .bool false, .bool false, .bool false, .bool false, .bool false, .bool false, .bool false, .bool false, .bool false, .bool false, .bool false, .bool false, .bool false, .bool false, .bool false, .bool false, .bool false, .bool false, .bool false, .bool false, .bool false, .bool false, .bool false, .bool false, .bool false, .bool false, .bool false, .bool false, .bool false, .bool false, .bool false, .bool false, .bool false, .bool false, .bool false, .bool false, .bool false, .bool false, .bool false, .bool false, .bool false, .bool false, .bool false, .bool false, .bool false, .bool false, .bool false, .bool false, .bool false, .bool false, .bool false, .bool false, .bool false, .bool false, .bool false, .bool false, .bool false, .bool false, .bool false, .bool false, .bool false, .bool false, .bool false, .bool false, .bool false, .bool false, .bool false, .bool false, .bool false, .bool false, .bool false, .bool false, .bool false, .bool false, .bool false, .bool false, .bool false, .bool false, .bool false, .bool false, .bool false, .bool false, .bool false, .bool false, .bool false, .bool false, .bool false, .bool false, .bool false, .bool false, .bool false, .bool false, .bool false, .bool false, .bool false, .bool false, .bool false, .bool false, .bool false, .bool false, .bool false, .bool false, .bool false, .bool false, .bool false, .bool false, .bool false, .bool false, .bool false, .bool false, .bool false, .bool false, .bool false, .bool false, .bool false, .bool false, .bool false, .bool false, .bool false, .bool false, .bool false, .bool false, .bool false, .bool false, .bool false, .bool false, .bool false, .bool false, .bool false, .bool false, .bool false, .bool false, .bool false, .bool false, .bool false, .bool false, .bool false, .bool false, .bool false, .bool false, .bool false, .bool false, .bool false, .bool false, .bool false, .bool false, .bool false, .bool false, .bool false, .bool false, .bool false, .bool false, .bool false, .bool false, .bool false, .bool false, .bool false, .bool false, .bool false, .bool false, .bool false, .bool false, .bool false]), zok := some 256, by' := some 256, un := true } := ⟨ti_57, trivial, ai_57, trivial, trivial, zv_57, zok_57, by_57, trivial, trivial, trivial, trivial, trivial, trivial, uns_57, trivial⟩
theorem uns_58 : (Tryz.prog.underlying 58).isSome = true := by kernel_rfl
theorem tok_58 : TOk Tryz.prog 58 { ti := some (true, 256), ai := some (256, (false, 1)), zv := some (.agg [.bool false, .bool false, .bool false, .bool false, .bool false, .bool false, .bool false, .bool false, .bool false, .bool false, .bool false, .bool false, .bool false, .bool false, .bool false, .bool false, .bool false, .bool false, .bool false, .bool false, .bool false, .bool false, .bool false, .bool false, .bool false, .bool false, .bool false, .bool false, .bool false, .bool false, .bool false, .bool false, .bool false, .bool false, .bool false, .bool false, .bool false, .bool false, .bool false, .bool false, .bool false, .bool false, .bool false, .bool false, .bool false, .bool false, .bool false, .bool false, .bool false, .bool false, .bool false, .bool false, .bool false, .bool false, .bool false, .bool false, .bool false, .bool false, .bool false, .bool false, .bool false, .bool false, .bool false, .bool false, .bool false, .bool false, .bool false, .bool false, .bool false, .bool false, .bool false, .bool false, .bool false, .bool false, .bool false, .bool false, .bool false, .bool false, .bool false, .bool false, .bool false, .bool false, .bool false, .bool false, .bool false, .bool false, .bool false, .bool false, .bool false, .bool false, .bool false, .bool false, .bool false, .bool false, .bool false, .bool false, .bool false, .bool false, .bool false, .bool false, .bool false, .bool false, .bool false, .bool false, .bool false, .bool false, .bool false, .bool false, .bool false, .bool false, .bool false, .bool false, .bool false, .bool false, .bool false, .bool false, .bool false, .bool false, .bool false, .bool false, .bool false, .bool false, .bool false, .bool false, .bool false, .bool false, .bool false, .bool false, .bool false, .bool false, .bool false, .bool false, .bool false, .bool false, .bool false, .bool false, .bool false, .bool false, .bool false, .bool false, .bool false, .bool false, .bool false, .bool false, .bool false, .bool false, .bool false, .bool false, .bool false, .bool false, .bool false, .bool false, .bool false, .bool false, .bool false, .bool false, .bool false, .bool false, .bool false, .bool false, .bool false, .bool false, .bool false, .bool false, .bool false, .bool false, .bool false, .bool false, .bool false, .bool false, .bool false, .bool false, .bool false, .bool false, .bool false, .bool false, .bool false, .bool false, .bool false, .bool false, .bool false, .bool false, .bool false, .bool false, .bool false, .bool false, .bool false, .bool false, .bool false, .bool false, .bool false, .bool false, .bool false, .bool false, .bool false, .bool false, .bool false, .bool false, .bool false, .bool false, .bool false, .bool false, .bool false, .bool false, .bool false, .bool false, .bool false, .bool false, .bool false, .bool false, .bool false, .bool false, .bool false, .bool false, .bool false, .bool false, .bool false, .bool false, .bool false, .bool false, .bool false, .bool false, .bool false, .bool false, .bool false, .bool false, .bool false, .bool false, .bool false, .bool false, .bool false, .bool false, .bool false, .bool false, .bool false, .bool false, .bool false, .bool false, .bool false, .bool false, .bool false, .bool false, .bool false, .bool false, .bool false, .bool false, .bool false, .bool false, .bool false, .bool false, .bool false, .bool false, .bool false, .bool false, .bool false, .bool false]), zok := some 256, by' := some 256, un := true } := ⟨ti_58, trivial, ai_58, trivial, trivial, zv_58, zok_58, by_58, trivial, trivial, trivial, trivial, trivial, trivial, uns_58, trivial⟩
theorem uns_60 : (Tryz.prog.underlying 60).isSome = true := by kernel_rfl
theorem tok_60 : TOk Tryz.prog 60 { ti := some (false, 1), zv := some (.any), zok := some 1, by' := some 8, un := true } := ⟨ti_60, trivial, trivial, trivial, trivial, zv_60, zok_60, by_60, trivial, trivial, trivial, trivial, trivial, trivial, uns_60, trivial⟩
theorem uns_61 : (Tryz.prog.underlying 61).isSome = true := by kernel_rfl
theorem tok_61 : TOk Tryz.prog 61 { ti := some (false, 1), zv := some (.any), zok := some 1, by' := some 8, un := true } := ⟨ti_61, trivial, trivial, trivial, trivial, zv_61, zok_61, by_61, trivial, trivial, trivial, trivial, trivial, trivial, uns_61, trivial⟩
theorem uns_62 : (Tryz.prog.underlying 62).isSome = true := by kernel_rfl
theorem tok_62 : TOk Tryz.prog 62 { ti := some (false, 1), zv := some (.nilp), zok := some 1, by' := some 8, ptr := true, un := true } := ⟨ti_62, trivial, trivial, trivial, trivial, zv_62, zok_62, by_62, trivial, trivial, trivial, trivial, isPtr_62, trivial, uns_62, trivial⟩
theorem uns_63 : (Tryz.prog.underlying 63).isSome = true := by kernel_rfl
theorem tok_63 : TOk Tryz.prog 63 { ti := some (true, 0), zv := some (.agg []), by' := some 0, un := true } := ⟨ti_63, trivial, trivial, trivial, trivial, zv_63, trivial, by_63, trivial, trivial, trivial, trivial, trivial, trivial, uns_63, trivial⟩
theorem uns_64 : (Tryz.prog.underlying 64).isSome = true := by kernel_rfl
theorem tok_64 : TOk Tryz.prog 64 { ti := some (true, 0), zv := some (.agg []), by' := some 0, un := true } := ⟨ti_64, trivial, trivial, trivial, trivial, zv_64, trivial, by_64, trivial, trivial, trivial, trivial, trivial, trivial, uns_64, trivial⟩
theorem uns_65 : (Tryz.prog.underlying 65).isSome = true := by kernel_rfl
theorem tok_65 : TOk Tryz.prog 65 { ti := some (true, 0), zv := some (.agg []), by' := some 0, un := true } := ⟨ti_65, trivial, trivial, trivial, trivial, zv_65, trivial, by_65, trivial, trivial, trivial, trivial, trivial, trivial, uns_65, trivial⟩
theorem uns_66 : (Tryz.prog.underlying 66).isSome = true := by kernel_rfl
theorem tok_66 : TOk Tryz.prog 66 { ti := some (false, 1), zv := some (.int .u32 0), zok := some 1, by' := some 4, ik := some .u32, un := true } := ⟨ti_66, trivial, trivial, trivial, trivial, zv_66, zok_66, by_66, intK_66, trivial, trivial, trivial, trivial, trivial, uns_66, trivial⟩
theorem uns_67 : (Tryz.prog.underlying 67).isSome = true := by kernel_rfl
theorem tok_67 : TOk Tryz.prog 67 { ti := some (true, 1), fi := [none, some (0, (false, 1))], si := some [(0, 0), (0, 1)], zv := some (.agg [.int .u32 0]), zok := some 1, by' := some 4, un := true } := ⟨ti_67, trivial, trivial, ⟨trivial, fi_67_1, trivial⟩, si_67, zv_67, zok_67, by_67, trivial, trivial, trivial, trivial, trivial, trivial, uns_67, trivial⟩
theorem uns_68 : (Tryz.prog.underlying 68).isSome = true := by kernel_rfl
theorem tok_68 : TOk Tryz.prog 68 { ti := some (true, 1), fi := [none, some (0, (false, 1))], si := some [(0, 0), (0, 1)], zv := some (.agg [.int .u32 0]), zok := some 1, by' := some 4, un := true } := ⟨ti_68, trivial, trivial, ⟨trivial, fi_68_1, trivial⟩, si_68, zv_68, zok_68, by_68, trivial, trivial, trivial, trivial, trivial, trivial, uns_68, trivial⟩
theorem uns_69 : (Tryz.prog.underlying 69).isSome = true := by kernel_rfl
theorem tok_69 : TOk Tryz.prog 69 { ti := some (true, 2), fi := [some (0, (false, 1)), some (1, (false, 1))], si := some [(0, 1), (1, 1)], zv := some (.agg [.int .i32 0, .int .u32 0]), zok := some 2, by' := some 8, un := true } := ⟨ti_69, trivial, trivial, ⟨fi_69_0, fi_69_1, trivial⟩, si_69, zv_69, zok_69, by_69, trivial, trivial, trivial, trivial, trivial, trivial, uns_69, trivial⟩
theorem uns_70 : (Tryz.prog.underlying 70).isSome = true := by kernel_rfl
theorem tok_70 : TOk Tryz.prog 70 { ti := some (true, 2), fi := [some (0, (false, 1)), some (1, (false, 1))], si := some [(0, 1), (1, 1)], zv := some (.agg [.int .i32 0, .int .u32 0]), zok := some 2, by' := some 8, un := true } := ⟨ti_70, trivial, trivial, ⟨fi_70_0, fi_70_1, trivial⟩, si_70, zv_70, zok_70, by_70, trivial, trivial, trivial, trivial, trivial, trivial, uns_70, trivial⟩
theorem uns_71 : (Tryz.prog.underlying 71).isSome = true := by kernel_rfl
theorem tok_71 : TOk Tryz.prog 71 { ti := some (true, 2), fi := [none, some (0, (true, 2))], si := some [(0, 0), (0, 2)], zv := some (.agg [.int .i32 0, .int .u32 0]), zok := some 2, by' := some 8, un := true } := ⟨ti_71, trivial, trivial, ⟨trivial, fi_71_1, trivial⟩, si_71, zv_71, zok_71, by_71, trivial, trivial, trivial, trivial, trivial, trivial, uns_71, trivial⟩
theorem uns_72 : (Tryz.prog.underlying 72).isSome = true := by kernel_rfl
theorem tok_72 : TOk Tryz.prog 72 { ti := some (true, 2), fi := [none, some (0, (true, 2))], si := some [(0, 0), (0, 2)], zv := some (.agg [.int .i32 0, .int .u32 0]), zok := some 2, by' := some 8, un := true } := ⟨ti_72, trivial, trivial, ⟨trivial, fi_72_1, trivial⟩, si_72, zv_72, zok_72, by_72, trivial, trivial, trivial, trivial, trivial, trivial, uns_72, trivial⟩
theorem uns_73 : (Tryz.prog.underlying 73).isSome = true := by kernel_rfl
theorem tok_73 : TOk Tryz.prog 73 { ti := some (true, 3), fi := [none, some (0, (true, 1)), some (1, (true, 2))], si := some [(0, 0), (0, 1), (1, 2)], zv := some (.agg [.int .u32 0, .int .i32 0, .int .u32 0]), zok := some 3, by' := some 12, un := true } := ⟨ti_73, trivial, trivial, ⟨trivial, fi_73_1, fi_73_2, trivial⟩, si_73, zv_73, zok_73, by_73, trivial, trivial, trivial, trivial, trivial, trivial, uns_73, trivial⟩
theorem uns_74 : (Tryz.prog.underlying 74).isSome = true := by kernel_rfl
theorem tok_74 : TOk Tryz.prog 74 { ti := some (true, 3), fi := [none, some (0, (true, 1)), some (1, (true, 2))], si := some [(0, 0), (0, 1), (1, 2)], zv := some (.agg [.int .u32 0, .int .i32 0, .int .u32 0]), zok := some 3, by' := some 12, un := true } := ⟨ti_74, trivial, trivial, ⟨trivial, fi_74_1, fi_74_2, trivial⟩, si_74, zv_74, zok_74, by_74, trivial, trivial, trivial, trivial, trivial, trivial, uns_74, trivial⟩
theorem uns_77 : (Tryz.prog.underlying 77).isSome = true := by kernel_rfl
theorem tok_77 : TOk Tryz.prog 77 { ti := some (true, 5), fi := [some (0, (true, 3)), some (3, (false, 1)), some (4, (false, 1))], si := some [(0, 3), (3, 1), (4, 1)], zv := some (.agg [.int .u32 0, .int .i32 0, .int .u32 0, .nili, .nils]), zok := some 5, by' := some 56, un := true } := ⟨ti_77, trivial, trivial, ⟨fi_77_0, fi_77_1, fi_77_2, trivial⟩, si_77, zv_77, zok_77, by_77, trivial, trivial, trivial, trivial, trivial, trivial, uns_77, trivial⟩
theorem uns_78 : (Tryz.prog.underlying 78).isSome = true := by kernel_rfl
theorem tok_78 : TOk Tryz.prog 78 { ti := some (true, 5), fi := [some (0, (true, 3)), some (3, (false, 1)), some (4, (false, 1))], si := some [(0, 3), (3, 1), (4, 1)], zv := some (.agg [.int .u32 0, .int .i32 0, .int .u32 0, .nili, .nils]), zok := some 5, by' := some 56, un := true } := ⟨ti_78, trivial, trivial, ⟨fi_78_0, fi_78_1, fi_78_2, trivial⟩, si_78, zv_78, zok_78, by_78, trivial, trivial, trivial, trivial, trivial, trivial, uns_78, trivial⟩
theorem uns_79 : (Tryz.prog.underlying 79).isSome = true := by kernel_rfl
theorem tok_79 : TOk Tryz.prog 79 { ti := some (false, 1), zv := some (.any), zok := some 1, by' := some 8, un := true } := ⟨ti_79, trivial, trivial, trivial, trivial, zv_79, zok_79, by_79, trivial, trivial, trivial, trivial, trivial, trivial, uns_79, trivial⟩
theorem uns_81 : (Tryz.prog.underlying 81).isSome = true := by kernel_rfl
theorem tok_81 : TOk Tryz.prog 81 { ti := some (false, 1), zv := some (.any), zok := some 1, by' := some 8, un := true } := ⟨ti_81, trivial, trivial, trivial, trivial, zv_81, zok_81, by_81, trivial, trivial, trivial, trivial, trivial, trivial, uns_81, trivial⟩
theorem uns_82 : (Tryz.prog.underlying 82).isSome = true := by kernel_rfl
theorem tok_82 : TOk Tryz.prog 82 { ti := some (false, 1), zv := some (.any), zok := some 1, by' := some 8, un := true } := ⟨ti_82, trivial, trivial, trivial, trivial, zv_82, zok_82, by_82, trivial, trivial, trivial, trivial, trivial, trivial, uns_82, trivial⟩
theorem uns_83 : (Tryz.prog.underlying 83).isSome = true := by kernel_rfl
theorem tok_83 : TOk Tryz.prog 83 { ti := some (false, 1), zv := some (.nilp), zok := some 1, by' := some 8, ptr := true, un := true } := ⟨ti_83, trivial, trivial, trivial, trivial, zv_83, zok_83, by_83, trivial, trivial, trivial, trivial, isPtr_83, trivial, uns_83, trivial⟩
theorem uns_84 : (Tryz.prog.underlying 84).isSome = true := by kernel_rfl
theorem tok_84 : TOk Tryz.prog 84 { ti := some (false, 1), zv := some (.any), zok := some 1, by' := some 8, un := true } := ⟨ti_84, trivial, trivial, trivial, trivial, zv_84, zok_84, by_84, trivial, trivial, trivial, trivial, trivial, trivial, uns_84, trivial⟩
theorem uns_85 : (Tryz.prog.underlying 85).isSome = true := by kernel_rfl
theorem tok_85 : TOk Tryz.prog 85 { ti := some (false, 1), zv := some (.any), zok := some 1, by' := some 8, un := true } := ⟨ti_85, trivial, trivial, trivial, trivial, zv_85, zok_85, by_85, trivial, trivial, trivial, trivial, trivial, trivial, uns_85, trivial⟩
theorem uns_86 : (Tryz.prog.underlying 86).isSome = true := by kernel_rfl
theorem tok_86 : TOk Tryz.prog 86 { ti := some (false, 1), zv := some (.any), zok := some 1, by' := some 8, un := true } := ⟨ti_86, trivial, trivial, trivial, trivial, zv_86, zok_86, by_86, trivial, trivial, trivial, trivial, trivial, trivial, uns_86, trivial⟩
theorem uns_87 : (Tryz.prog.underlying 87).isSome = true := by kernel_rfl
theorem tok_87 : TOk Tryz.prog 87 { ti := some (false, 1), zv := some (.nilp), zok := some 1, by' := some 8, ptr := true, un := true } := ⟨ti_87, trivial, trivial, trivial, trivial, zv_87, zok_87, by_87, trivial, trivial, trivial, trivial, isPtr_87, trivial, uns_87, trivial⟩
theorem uns_88 : (Tryz.prog.underlying 88).isSome = true := by kernel_rfl
theorem tok_88 : TOk Tryz.prog 88 { ti := some (false, 1), zv := some (.any), zok := some 1, by' := some 8, un := true } := ⟨ti_88, trivial, trivial, trivial, trivial, zv_88, zok_88, by_88, trivial, trivial, trivial, trivial, trivial, trivial, uns_88, trivial⟩
theorem uns_89 : (Tryz.prog.underlying 89).isSome = true := by kernel_rfl
theorem tok_89 : TOk Tryz.prog 89 { ti := some (false, 1), zv := some (.nilp), zok := some 1, by' := some 8, ptr := true, un := true } := ⟨ti_89, trivial, trivial, trivial, trivial, zv_89, zok_89, by_89, trivial, trivial, trivial, trivial, isPtr_89, trivial, uns_89, trivial⟩
theorem uns_90 : (Tryz.prog.underlying 90).isSome = true := by kernel_rfl
theorem tok_90 : TOk Tryz.prog 90 { ti := some (false, 1), zv := some (.any), zok := some 1, by' := some 8, un := true } := ⟨ti_90, trivial, trivial, trivial, trivial, zv_90, zok_90, by_90, trivial, trivial, trivial, trivial, trivial, trivial, uns_90, trivial⟩
theorem uns_91 : (Tryz.prog.underlying 91).isSome = true := by kernel_rfl
theorem tok_91 : TOk Tryz.prog 91 { ti := some (false, 1), zv := some (.nilp), zok := some 1, by' := some 8, ptr := true, un := true } := ⟨ti_91, trivial, trivial, trivial, trivial, zv_91, zok_91, by_91, trivial, trivial, trivial, trivial, isPtr_91, trivial, uns_91, trivial⟩
theorem uns_92 : (Tryz.prog.underlying 92).isSome = true := by kernel_rfl
theorem tok_92 : TOk Tryz.prog 92 { ti := some (false, 1), zv := some (.any), zok := some 1, by' := some 8, un := true } := ⟨ti_92, trivial, trivial, trivial, trivial, zv_92, zok_92, by_92, trivial, trivial, trivial, trivial, trivial, trivial, uns_92, trivial⟩
theorem uns_93 : (Tryz.prog.underlying 93).isSome = true := by kernel_rfl
theorem tok_93 : TOk Tryz.prog 93 { ti := some (false, 1), zv := some (.nilp), zok := some 1, by' := some 8, ptr := true, un := true } := ⟨ti_93, trivial, trivial, trivial, trivial, zv_93, zok_93, by_93, trivial, trivial, trivial, trivial, isPtr_93, trivial, uns_93, trivial⟩
theorem uns_94 : (Tryz.prog.underlying 94).isSome = true := by kernel_rfl
theorem tok_94 : TOk Tryz.prog 94 { ti := some (false, 1), zv := some (.any), zok := some 1, by' := some 8, un := true } := ⟨ti_94, trivial, trivial, trivial, trivial, zv_94, zok_94, by_94, trivial, trivial, trivial, trivial, trivial, trivial, uns_94, trivial⟩
theorem uns_95 : (Tryz.prog.underlying 95).isSome = true := by kernel_rfl
theorem tok_95 : TOk Tryz.prog 95 { ti := some (true, 256), ai := some (256, (false, 1)), zv := some (.agg [.int .u8 0, .int .u8 0, .int .u8 0, .int .u8 0, .int .u8 0, .int .u8 0, .int .u8 0, .int .u8 0, .int .u8 0, .int .u8 0, .int .u8 0, .int .u8 0, .int .u8 0, .int .u8 0, .int .u8 0, .int .u8 0, .int .u8 0, .int .u8 0, .int .u8 0, .int .u8 0, .int .u8 0, .int .u8 0, .int .u8 0, .int .u8 0, .int .u8 0, .int .u8 0, .int .u8 0, .int .u8 0, .int .u8 0, .int .u8 0, .int .u8 0, .int .u8 0, .int .u8 0, .int .u8 0, .int .u8 0, .int .u8 0, .int .u8 0, .int .u8 0, .int .u8 0, .int .u8 0, .int .u8 0, .int .u8 0, .int .u8 0, .int .u8 0, .int .u8 0, .int .u8 0, .int .u8 0, .int .u8 0, .int .u8 0, .int .u8 0, .int .u8 0, .int .u8 0, .int .u8 0, .int .u8 0, .int .u8 0, .int .u8 0, .int .u8 0, .int .u8 0, .int .u8 0, .int .u8 0, .int .u8 0, .int .u8 0, .int .u8 0, .int .u8 0, .int .u8 0, .int .u8 0, .int .u8 0, .int .u8 0, .int .u8 0, .int .u8 0, .int .u8 0, .int .u8 0, .int .u8 0, .int .u8 0, .int .u8 0, .int .u8 0, .int .u8 0, .int .u8 0, .int .u8 0, .int .u8 0, .int .u8 0, .int .u8 0, .int .u8 0, .int .u8 0, .int .u8 0, .int .u8 0, .int .u8 0, .int .u8 0, .int .u8 0, .int .u8 0, .int .u8 0, .int .u8 0, .int .u8 0, .int .u8 0, .int .u8 0, .int .u8 0, .int .u8 0, .int .u8 0, .int .u8 0, .int .u8 0, .int .u8 0, .int .u8 0, .int .u8 0, .int .u8 0, .int .u8 0, .int .u8 0, .int .u8 0, .int .u8 0, .int .u8 0, .int .u8 0, .int .u8 0, .int .u8 0, .int .u8 0, .int .u8 0, .int .u8 0, .int .u8 0, .int .u8 0, .int .u8 0, .int .u8 0, .int .u8 0, .int .u8 0, .int .u8 0, .int .u8 0, .int .u8 0, .int .u8 0, .int .u8 0, .int .u8 0, .int .u8 0, .int .u8 0, .int .u8 0, .int .u8 0, .int .u8 0, .int .u8 0, .int .u8 0, .int .u8 0, .int .u8 0, .int .u8 0, .int .u8 0, .int .u8 0, .int .u8 0, .int .u8 0, .int .u8 0, .int .u8 0, .int .u8 0, .int .u8 0, .int .u8 0, .int .u8 0, .int .u8 0, .int .u8 0, .int .u8 0, .int .u8 0, .int .u8 0, .int .u8 0, .int .u8 0, .int .u8 0, .int .u8 0, .int .u8 0, .int .u8 0, .int .u8 0, .int .u8 0, .int .u8 0, .int .u8 0, .int .u8 0, .int .u8 0, .int .u8 0, .int .u8 0, .int .u8 0, .int .u8 0, .int .u8 0, .int .u8 0, .int .u8 0, .int .u8 0, .int .u8 0, .int .u8 0, .int .u8 0, .int .u8 0, .int .u8 0, .int .u8 0, .int .u8 0, .int .u8 0, .int .u8 0, .int .u8 0, .int .u8 0, .int .u8 0, .int .u8 0, .int .u8 0, .int .u8 0, .int .u8 0, .int .u8 0, .int .u8 0, .int .u8 0, .int .u8 0, .int .u8 0, .int .u8 0, .int .u8 0, .int .u8 0, .int .u8 0, .int .u8 0, .int .u8 0, .int .u8 0, .int .u8 0, .int .u8 0, .int .u8 0, .int .u8 0, .int .u8 0, .int .u8 0, .int .u8 0, .int .u8 0, .int .u8 0, .int .u8 0, .int .u8 0, .int .u8 0, .int .u8 0, .int .u8 0, .int .u8 0, .int .u8 0, .int .u8 0, .int .u8 0, .int .u8 0, .int .u8 0, .int .u8 0, .int .u8 0, .int .u8 0, .int .u8 0, .int .u8 0, .int .u8 0, .int .u8 0, .int .u8 0, .int .u8 0, .int .u8 0, .int .u8 0, .int .u8 0, .int .u8 0, .int .u8 0, .int .u8 0, .int .u8 0, .int .u8 0, .int .u8 0, .int .u8 0, .int .u8 0, .int .u8 0, .int .u8 0, .int .u8 0, .int .u8 0, .int .u8 0, .int .u8 0, .int .u8 0, .int .u8 0, .int .u8 0, .int .u8 0, .int .u8 0, .int .u8 0, .int .u8 0, .int .u8 0, .int .u8 0, .int .u8 0]), zok := some 256, by' := some 256, un := true } := ⟨ti_95, trivial, ai_95, trivial, trivial, zv_95, zok_95, by_95, trivial, trivial, trivial, trivial, trivial, trivial, uns_95, trivial⟩
theorem uns_96 : (Tryz.prog.underlying 96).isSome = true := by kernel_rfl
theorem tok_96 : TOk Tryz.prog 96 { ti := some (true, 256), ai := some (256, (false, 1)), zv := some (.agg [.int .u8 0, .int .u8 0, .int .u8 0, .int .u8 0, .int .u8 0, .int .u8 0, .int .u8 0, .int .u8 0, .int .u8 0, .int .u8 0, .int .u8 0, .int .u8 0, .int .u8 0, .int .u8 0, .int .u8 0, .int .u8 0, .int .u8 0, .int .u8 0, .int .u8 0, .int .u8 0, .int .u8 0, .int .u8 0, .int .u8 0, .int .u8 0, .int .u8 0, .int .u8 0, .int .u8 0, .int .u8 0, .int .u8 0, .int .u8 0, .int .u8 0, .int .u8 0, .int .u8 0, .int .u8 0, .int .u8 0, .int .u8 0, .int .u8 0, .int .u8 0, .int .u8 0, .int .u8 0, .int .u8 0, .int .u8 0, .int .u8 0, .int .u8 0, .int .u8 0, .int .u8 0, .int .u8 0, .int .u8 0, .int .u8 0, .int .u8 0, .int .u8 0, .int .u8 0, .int .u8 0, .int .u8 0, .int .u8 0, .int .u8 0, .int .u8 0, .int .u8 0, .int .u8 0, .int .u8 0, .int .u8 0, .int .u8 0, .int .u8 0, .int .u8 0, .int .u8 0, .int .u8 0, .int .u8 0, .int .u8 0, .int .u8 0, .int .u8 0, .int .u8 0, .int .u8 0, .int .u8 0, .int .u8 0, .int .u8 0, .int .u8 0, .int .u8 0, .int .u8 0, .int .u8 0, .int .u8 0, .int .u8 0, .int .u8 0, .int .u8 0, .int .u8 0, .int .u8 0, .int .u8 0, .int .u8 0, .int .u8 0, .int .u8 0, .int .u8 0, .int .u8 0, .int .u8 0, .int .u8 0, .int .u8 0, .int .u8 0, .int .u8 0, .int .u8 0, .int .u8 0, .int .u8 0, .int .u8 0, .int .u8 0, .int .u8 0, .int .u8 0, .int .u8 0, .int .u8 0, .int .u8 0, .int .u8 0, .int .u8 0, .int .u8 0, .int .u8 0, .int .u8 0, .int .u8 0, .int .u8 0, .int .u8 0, .int .u8 0, .int .u8 0, .int .u8 0, .int .u8 0, .int .u8 0, .int .u8 0, .int .u8 0, .int .u8 0, .int .u8 0, .int .u8 0, .int .u8 0, .int .u8 0, .int .u8 0, .int .u8 0, .int .u8 0, .int .u8 0, .int .u8 0, .int .u8 0, .int .u8 0, .int .u8 0, .int .u8 0, .int .u8 0, .int .u8 0, .int .u8 0, .int .u8 0, .int .u8 0, .int .u8 0, .int .u8 0, .int .u8 0, .int .u8 0, .int .u8 0, .int .u8 0, .int .u8 0, .int .u8 0, .int .u8 0, .int .u8 0, .int .u8 0, .int .u8 0, .int .u8 0, .int .u8 0, .int .u8 0, .int .u8 0, .int .u8 0, .int .u8 0, .int .u8 0, .int .u8 0, .int .u8 0, .int .u8 0, .int .u8 0, .int .u8 0, .int .u8 0, .int .u8 0, .int .u8 0, .int .u8 0, .int .u8 0, .int .u8 0, .int .u8 0, .int .u8 0, .int .u8 0, .int .u8 0, .int .u8 0, .int .u8 0, .int .u8 0, .int .u8 0, .int .u8 0, .int .u8 0, .int .u8 0, .int .u8 0, .int .u8 0, .int .u8 0, .int .u8 0, .int .u8 0, .int .u8 0, .int .u8 0, .int .u8 0, .int .u8 0, .int .u8 0, .int .u8 0, .int .u8 0, .int .u8 0, .int .u8 0, .int .u8 0, .int .u8 0, .int .u8 0, .int .u8 0, .int .u8 0, .int .u8 0, .int .u8 0, .int .u8 0, .int .u8 0, .int .u8 0, .int .u8 0, .int .u8 0, .int .u8 0, .int .u8 0, .int .u8 0, .int .u8 0, .int .u8 0, .int .u8 0, .int .u8 0, .int .u8 0, .int .u8 0, .int .u8 0, .int .u8 0, .int .u8 0, .int .u8 0, .int .u8 0, .int .u8 0, .int .u8 0, .int .u8 0, .int .u8 0, .int .u8 0, .int .u8 0, .int .u8 0, .int .u8 0, .int .u8 0, .int .u8 0, .int .u8 0, .int .u8 0, .int .u8 0, .int .u8 0, .int .u8 0, .int .u8 0, .int .u8 0, .int .u8 0, .int .u8 0, .int .u8 0, .int .u8 0, .int .u8 0, .int .u8 0, .int .u8 0, .int .u8 0, .int .u8 0, .int .u8 0, .int .u8 0, .int .u8 0, .int .u8 0, .int .u8 0, .int .u8 0, .int .u8 0, .int .u8 0, .int .u8 0]), zok := some 256, by' := some 256, un := true } := ⟨ti_96, trivial, ai_96, trivial, trivial, zv_96, zok_96, by_96, trivial, trivial, trivial, trivial, trivial, trivial, uns_96, trivial⟩
theorem uns_97 : (Tryz.prog.underlying 97).isSome = true := by kernel_rfl
theorem tok_97 : TOk Tryz.prog 97 { ti := some (false, 1), zv := some (.nilp), zok := some 1, by' := some 8, ptr := true, un := true } := ⟨ti_97, trivial, trivial, trivial, trivial, zv_97, zok_97, by_97, trivial, trivial, trivial, trivial, isPtr_97, trivial, uns_97, trivial⟩
theorem uns_98 : (Tryz.prog.underlying 98).isSome = true := by kernel_rfl
theorem tok_98 : TOk Tryz.prog 98 { ti := some (true, 256), ai := some (256, (false, 1)), zv := some (.agg [.nils, .nils, .nils, .nils, .nils, .nils, .nils, .nils, .nils, .nils, .nils, .nils, .nils, .nils, .nils, .nils, .nils, .nils, .nils, .nils, .nils, .nils, .nils, .nils, .nils, .nils, .nils, .nils, .nils, .nils, .nils, .nils, .nils, .nils, .nils, .nils, .nils, .nils, .nils, .nils, .nils, .nils, .nils, .nils, .nils, .nils, .nils, .nils, .nils, .nils, .nils, .nils, .nils, .nils, .nils, .nils, .nils, .nils, .nils, .nils, .nils, .nils, .nils, .nils, .nils, .nils, .nils, .nils, .nils, .nils, .nils, .nils, .nils, .nils, .nils, .nils, .nils, .nils, .nils, .nils, .nils, .nils, .nils, .nils, .nils, .nils, .nils, .nils, .nils, .nils, .nils, .nils, .nils, .nils, .nils, .nils, .nils, .nils, .nils, .nils, .nils, .nils, .nils, .nils, .nils, .nils, .nils, .nils, .nils, .nils, .nils, .nils, .nils, .nils, .nils, .nils, .nils, .nils, .nils, .nils, .nils, .nils, .nils, .nils, .nils, .nils, .nils, .nils, .nils, .nils, .nils, .nils, .nils, .nils, .nils, .nils, .nils, .nils, .nils, .nils, .nils, .nils, .nils, .nils, .nils, .nils, .nils, .nils, .nils, .nils, .nils, .nils, .nils, .nils, .nils, .nils, .nils, .nils, .nils, .nils, .nils, .nils, .nils, .nils, .nils, .nils, .nils, .nils, .nils, .nils, .nils, .nils, .nils, .nils, .nils, .nils, .nils, .nils, .nils, .nils, .nils, .nils, .nils, .nils, .nils, .nils, .nils, .nils, .nils, .nils, .nils, .nils, .nils, .nils, .nils, .nils, .nils, .nils, .nils, .nils, .nils, .nils, .nils, .nils, .nils, .nils, .nils, .nils, .nils, .nils, .nils, .nils, .nils, .nils, .nils, .nils, .nils, .nils, .nils, .nils, .nils, .nils, .nils, .nils, .nils, .nils, .nils, .nils, .nils, .nils, .nils, .nils, .nils, .nils, .nils, .nils, .nils, .nils, .nils, .nils, .nils, .nils, .nils, .nils, .nils, .nils, .nils, .nils, .nils, .nils, .nils, .nils, .nils, .nils, .nils, .nils]), zok := some 256, by' := some 6144, un := true } := ⟨ti_98, trivial, ai_98, trivial, trivial, zv_98, zok_98, by_98, trivial, trivial, trivial, trivial, trivial, trivial, uns_98, trivial⟩
theorem uns_99 : (Tryz.prog.underlying 99).isSome = true := by kernel_rfl
theorem tok_99 : TOk Tryz.prog 99 { ti := some (true, 257), fi := [some (0, (true, 256)), some (256, (false, 1))], si := some [(0, 256), (256, 1)], zv := some (.agg [.nils, .nils, .nils, .nils, .nils, .nils, .nils, .nils, .nils, .nils, .nils, .nils, .nils, .nils, .nils, .nils, .nils, .nils, .nils, .nils, .nils, .nils, .nils, .nils, .nils, .nils, .nils, .nils, .nils, .nils, .nils, .nils, .nils, .nils, .nils, .nils, .nils, .nils, .nils, .nils, .nils, .nils, .nils, .nils, .nils, .nils, .nils, .nils, .nils, .nils, .nils, .nils, .nils, .nils, .nils, .nils, .nils, .nils, .nils, .nils, .nils, .nils, .nils, .nils, .nils, .nils, .nils, .nils, .nils, .nils, .nils, .nils, .nils, .nils, .nils, .nils, .nils, .nils, .nils, .nils, .nils, .nils, .nils, .nils, .nils, .nils, .nils, .nils, .nils, .nils, .nils, .nils, .nils, .nils, .nils, .nils, .nils, .nils, .nils, .nils, .nils, .nils, .nils, .nils, .nils, .nils, .nils, .nils, .nils, .nils, .nils, .nils, .nils, .nils, .nils, .nils, .nils, .nils, .nils, .nils, .nils, .nils, .nils, .nils, .nils, .nils, .nils, .nils, .nils, .nils, .nils, .nils, .nils, .nils, .nils, .nils, .nils, .nils, .nils, .nils, .nils, .nils, .nils, .nils, .nils, .nils, .nils, .nils, .nils, .nils, .nils, .nils, .nils, .nils, .nils, .nils, .nils, .nils, .nils, .nils, .nils, .nils, .nils, .nils, .nils, .nils, .nils, .nils, .nils, .nils, .nils, .nils, .nils, .nils, .nils, .nils, .nils, .nils, .nils, .nils, .nils, .nils, .nils, .nils, .nils, .nils, .nils, .nils, .nils, .nils, .nils, .nils, .nils, .nils, .nils, .nils, .nils, .nils, .nils, .nils, .nils, .nils, .nils, .nils, .nils, .nils, .nils, .nils, .nils, .nils, .nils, .nils, .nils, .nils, .nils, .nils, .nils, .nils, .nils, .nils, .nils, .nils, .nils, .nils, .nils, .nils, .nils, .nils, .nils, .nils, .nils, .nils, .nils, .nils, .nils, .nils, .nils, .nils, .nils, .nils, .nils, .nils, .nils, .nils, .nils, .nils, .nils, .nils, .nils, .nils, .nils, .nils, .nils, .nils, .nils, .nils, .nils]), zok := some 257, by' := some 6168, un := true } := ⟨ti_99, trivial, trivial, ⟨fi_99_0, fi_99_1, trivial⟩, si_99, zv_99, zok_99, by_99, trivial, trivial, trivial, trivial, trivial, trivial, uns_99, trivial⟩
theorem uns_100 : (Tryz.prog.underlying 100).isSome = true := by kernel_rfl
theorem tok_100 : TOk Tryz.prog 100 { ti := some (true, 257), fi := [some (0, (true, 256)), some (256, (false, 1))], si := some [(0, 256), (256, 1)], zv := some (.agg [.nils, .nils, .nils, .nils, .nils, .nils, .nils, .nils, .nils, .nils, .nils, .nils, .nils, .nils, .nils, .nils, .nils, .nils, .nils, .nils, .nils, .nils, .nils, .nils, .nils, .nils, .nils, .nils, .nils, .nils, .nils, .nils, .nils, .nils, .nils, .nils, .nils, .nils, .nils, .nils, .nils, .nils, .nils, .nils, .nils, .nils, .nils, .nils, .nils, .nils, .nils, .nils, .nils, .nils, .nils, .nils, .nils, .nils, .nils, .nils, .nils, .nils, .nils, .nils, .nils, .nils, .nils, .nils, .nils, .nils, .nils, .nils, .nils, .nils, .nils, .nils, .nils, .nils, .nils, .nils, .nils, .nils, .nils, .nils, .nils, .nils, .nils, .nils, .nils, .nils, .nils, .nils, .nils, .nils, .nils, .nils, .nils, .nils, .nils, .nils, .nils, .nils, .nils, .nils, .nils, .nils, .nils, .nils, .nils, .nils, .nils, .nils, .nils, .nils, .nils, .nils, .nils, .nils, .nils, .nils, .nils, .nils, .nils, .nils, .nils, .nils, .nils, .nils, .nils, .nils, .nils, .nils, .nils, .nils, .nils, .nils, .nils, .nils, .nils, .nils, .nils, .nils, .nils, .nils, .nils, .nils, .nils, .nils, .nils, .nils, .nils, .nils, .nils, .nils, .nils, .nils, .nils, .nils, .nils, .nils, .nils, .nils, .nils, .nils, .nils, .nils, .nils, .nils, .nils, .nils, .nils, .nils, .nils, .nils, .nils, .nils, .nils, .nils, .nils, .nils, .nils, .nils, .nils, .nils, .nils, .nils, .nils, .nils, .nils, .nils, .nils, .nils, .nils, .nils, .nils, .nils, .nils, .nils, .nils, .nils, .nils, .nils, .nils, .nils, .nils, .nils, .nils, .nils, .nils, .nils, .nils, .nils, .nils, .nils, .nils, .nils, .nils, .nils, .nils, .nils, .nils, .nils, .nils, .nils, .nils, .nils, .nils, .nils, .nils, .nils, .nils, .nils, .nils, .nils, .nils, .nils, .nils, .nils, .nils, .nils, .nils, .nils, .nils, .nils, .nils, .nils, .nils, .nils, .nils, .nils, .nils, .nils, .nils, .nils, .nils, .nils, .nils]), zok := some 257, by' := some 6168, un := true } := ⟨ti_100, trivial, trivial, ⟨fi_100_0, fi_100_1, trivial⟩, si_100, zv_100, zok_100, by_100, trivial, trivial, trivial, trivial, trivial, trivial, uns_100, trivial⟩
theorem uns_101 : (Tryz.prog.underlying 101).isSome = true := by kernel_rfl
theorem tok_101 : TOk Tryz.prog 101 { ti := some (false, 1), zv := some (.nilp), zok := some 1, by' := some 8, ptr := true, un := true } := ⟨ti_101, trivial, trivial, trivial, trivial, zv_101, zok_101, by_101, trivial, trivial, trivial, trivial, isPtr_101, trivial, uns_101, trivial⟩
theorem uns_102 : (Tryz.prog.underlying 102).isSome = true := by kernel_rfl
theorem tok_102 : TOk Tryz.prog 102 { ti := some (false, 1), zv := some (.int .u64 0), zok := some 1, by' := some 8, ik := some .u64, un := true } := ⟨ti_102, trivial, trivial, trivial, trivial, zv_102, zok_102, by_102, intK_102, trivial, trivial, trivial, trivial, trivial, uns_102, trivial⟩
theorem uns_103 : (Tryz.prog.underlying 103).isSome = true := by kernel_rfl
theorem tok_103 : TOk Tryz.prog 103 { ti := some (true, 2), fi := [some (0, (false, 1)), some (1, (false, 1))], si := some [(0, 1), (1, 1)], zv := some (.agg [.int .u8 0, .int .u8 0]), zok := some 2, by' := some 2, un := true } := ⟨ti_103, trivial, trivial, ⟨fi_103_0, fi_103_1, trivial⟩, si_103, zv_103, zok_103, by_103, trivial, trivial, trivial, trivial, trivial, trivial, uns_103, trivial⟩
theorem uns_104 : (Tryz.prog.underlying 104).isSome = true := by kernel_rfl
theorem tok_104 : TOk Tryz.prog 104 { ti := some (true, 2), fi := [some (0, (false, 1)), some (1, (false, 1))], si := some [(0, 1), (1, 1)], zv := some (.agg [.int .u8 0, .int .u8 0]), zok := some 2, by' := some 2, un := true } := ⟨ti_104, trivial, trivial, ⟨fi_104_0, fi_104_1, trivial⟩, si_104, zv_104, zok_104, by_104, trivial, trivial, trivial, trivial, trivial, trivial, uns_104, trivial⟩
theorem uns_105 : (Tryz.prog.underlying 105).isSome = true := by kernel_rfl
theorem tok_105 : TOk Tryz.prog 105 { ti := some (true, 32), ai := some (16, (true, 2)), zv := some (.agg [.int .u8 0, .int .u8 0, .int .u8 0, .int .u8 0, .int .u8 0, .int .u8 0, .int .u8 0, .int .u8 0, .int .u8 0, .int .u8 0, .int .u8 0, .int .u8 0, .int .u8 0, .int .u8 0, .int .u8 0, .int .u8 0, .int .u8 0, .int .u8 0, .int .u8 0, .int .u8 0, .int .u8 0, .int .u8 0, .int .u8 0, .int .u8 0, .int .u8 0, .int .u8 0, .int .u8 0, .int .u8 0, .int .u8 0, .int .u8 0, .int .u8 0, .int .u8 0]), zok := some 32, by' := some 32, un := true } := ⟨ti_105, trivial, ai_105, trivial, trivial, zv_105, zok_105, by_105, trivial, trivial, trivial, trivial, trivial, trivial, uns_105, trivial⟩
theorem uns_106 : (Tryz.prog.underlying 106).isSome = true := by kernel_rfl
theorem tok_106 : TOk Tryz.prog 106 { ti := some (false, 1), zv := some (.any), zok := some 1, by' := some 8, un := true } := ⟨ti_106, trivial, trivial, trivial, trivial, zv_106, zok_106, by_106, trivial, trivial, trivial, trivial, trivial, trivial, uns_106, trivial⟩
theorem uns_107 : (Tryz.prog.underlying 107).isSome = true := by kernel_rfl
theorem tok_107 : TOk Tryz.prog 107 { ti := some (false, 1), zv := some (.any), zok := some 1, by' := some 8, un := true } := ⟨ti_107, trivial, trivial, trivial, trivial, zv_107, zok_107, by_107, trivial, trivial, trivial, trivial, trivial, trivial, uns_107, trivial⟩
theorem uns_108 : (Tryz.prog.underlying 108).isSome = true := by kernel_rfl
theorem tok_108 : TOk Tryz.prog 108 { ti := some (false, 1), zv := some (.any), zok := some 1, by' := some 8, un := true } := ⟨ti_108, trivial, trivial, trivial, trivial, zv_108, zok_108, by_108, trivial, trivial, trivial, trivial, trivial, trivial, uns_108, trivial⟩
theorem uns_109 : (Tryz.prog.underlying 109).isSome = true := by kernel_rfl
theorem tok_109 : TOk Tryz.prog 109 { ti := some (false, 1), zv := some (.any), zok := some 1, by' := some 8, un := true } := ⟨ti_109, trivial, trivial, trivial, trivial, zv_109, zok_109, by_109, trivial, trivial, trivial, trivial, trivial, trivial, uns_109, trivial⟩
theorem uns_110 : (Tryz.prog.underlying 110).isSome = true := by kernel_rfl
theorem tok_110 : TOk Tryz.prog 110 { ti := some (false, 1), zv := some (.nilp), zok := some 1, by' := some 8, ptr := true, un := true } := ⟨ti_110, trivial, trivial, trivial, trivial, zv_110, zok_110, by_110, trivial, trivial, trivial, trivial, isPtr_110, trivial, uns_110, trivial⟩
theorem uns_111 : (Tryz.prog.underlying 111).isSome = true := by kernel_rfl
theorem tok_111 : TOk Tryz.prog 111 { ti := some (false, 1), zv := some (.any), zok := some 1, by' := some 8, un := true } := ⟨ti_111, trivial, trivial, trivial, trivial, zv_111, zok_111, by_111, trivial, trivial, trivial, trivial, trivial, trivial, uns_111, trivial⟩
theorem uns_112 : (Tryz.prog.underlying 112).isSome = true := by kernel_rfl
theorem tok_112 : TOk Tryz.prog 112 { ti := some (false, 1), zv := some (.any), zok := some 1, by' := some 8, un := true } := ⟨ti_112, trivial, trivial, trivial, trivial, zv_112, zok_112, by_112, trivial, trivial, trivial, trivial, trivial, trivial, uns_112, trivial⟩
theorem uns_113 : (Tryz.prog.underlying 113).isSome = true := by kernel_rfl
theorem tok_113 : TOk Tryz.prog 113 { ti := some (false, 1), zv := some (.nilp), zok := some 1, by' := some 8, ptr := true, un := true } := ⟨ti_113, trivial, trivial, trivial, trivial, zv_113, zok_113, by_113, trivial, trivial, trivial, trivial, isPtr_113, trivial, uns_113, trivial⟩
theorem uns_114 : (Tryz.prog.underlying 114).isSome = true := by kernel_rfl
theorem tok_114 : TOk Tryz.prog 114 { ti := some (false, 1), zv := some (.any), zok := some 1, by' := some 8, un := true } := ⟨ti_114, trivial, trivial, trivial, trivial, zv_114, zok_114, by_114, trivial, trivial, trivial, trivial, trivial, trivial, uns_114, trivial⟩
theorem uns_115 : (Tryz.prog.underlying 115).isSome = true := by kernel_rfl
theorem tok_115 : TOk Tryz.prog 115 { ti := some (true, 2), fi := [some (0, (false, 1)), some (1, (false, 1))], si := some [(0, 1), (1, 1)], zv := some (.agg [.nilp, .str []]), zok := some 2, by' := some 24, un := true } := ⟨ti_115, trivial, trivial, ⟨fi_115_0, fi_115_1, trivial⟩, si_115, zv_115, zok_115, by_115, trivial, trivial, trivial, trivial, trivial, trivial, uns_115, trivial⟩
theorem uns_116 : (Tryz.prog.underlying 116).isSome = true := by kernel_rfl
theorem tok_116 : TOk Tryz.prog 116 { ti := some (true, 2), fi := [some (0, (false, 1)), some (1, (false, 1))], si := some [(0, 1), (1, 1)], zv := some (.agg [.nilp, .str []]), zok := some 2, by' := some 24, un := true } := ⟨ti_116, trivial, trivial, ⟨fi_116_0, fi_116_1, trivial⟩, si_116, zv_116, zok_116, by_116, trivial, trivial, trivial, trivial, trivial, trivial, uns_116, trivial⟩
theorem uns_117 : (Tryz.prog.underlying 117).isSome = true := by kernel_rfl
theorem tok_117 : TOk Tryz.prog 117 { ti := some (false, 1), zv := some (.nilp), zok := some 1, by' := some 8, ptr := true, un := true } := ⟨ti_117, trivial, trivial, trivial, trivial, zv_117, zok_117, by_117, trivial, trivial, trivial, trivial, isPtr_117, trivial, uns_117, trivial⟩
theorem uns_118 : (Tryz.prog.underlying 118).isSome = true := by kernel_rfl
theorem tok_118 : TOk Tryz.prog 118 { ti := some (false, 1), ei := some (117, 1), zv := some (.nils), zok := some 1, by' := some 24, sli := true, ni := true, un := true } := ⟨ti_118, ei_118, trivial, trivial, trivial, zv_118, zok_118, by_118, trivial, trivial, isSli_118, trivial, trivial, notInt_118, uns_118, trivial⟩
theorem uns_119 : (Tryz.prog.underlying 119).isSome = true := by kernel_rfl
theorem tok_119 : TOk Tryz.prog 119 { ti := some (true, 5), fi := [some (0, (false, 1)), some (1, (false, 1)), some (2, (false, 1)), some (3, (false, 1)), some (4, (false, 1))], si := some [(0, 1), (1, 1), (2, 1), (3, 1), (4, 1)], zv := some (.agg [.str [], .int .i64 0, .str [], .nilp, .nils]), zok := some 5, by' := some 72, un := true } := ⟨ti_119, trivial, trivial, ⟨fi_119_0, fi_119_1, fi_119_2, fi_119_3, fi_119_4, trivial⟩, si_119, zv_119, zok_119, by_119, trivial, trivial, trivial, trivial, trivial, trivial, uns_119, trivial⟩
theorem uns_120 : (Tryz.prog.underlying 120).isSome = true := by kernel_rfl
theorem tok_120 : TOk Tryz.prog 120 { ti := some (true, 5), fi := [some (0, (false, 1)), some (1, (false, 1)), some (2, (false, 1)), some (3, (false, 1)), some (4, (false, 1))], si := some [(0, 1), (1, 1), (2, 1), (3, 1), (4, 1)], zv := some (.agg [.str [], .int .i64 0, .str [], .nilp, .nils]), zok := some 5, by' := some 72, un := true } := ⟨ti_120, trivial, trivial, ⟨fi_120_0, fi_120_1, fi_120_2, fi_120_3, fi_120_4, trivial⟩, si_120, zv_120, zok_120, by_120, trivial, trivial, trivial, trivial, trivial, trivial, uns_120, trivial⟩
theorem uns_121 : (Tryz.prog.underlying 121).isSome = true := by kernel_rfl
theorem tok_121 : TOk Tryz.prog 121 { ti := some (true, 262), fi := [some (0, (true, 5)), some (5, (false, 1)), some (6, (true, 256))], si := some [(0, 5), (5, 1), (6, 256)], zv := some (.agg [.str [], .int .i64 0, .str [], .nilp, .nils, .int .i64 0, .int .u8 0, .int .u8 0, .int .u8 0, .int .u8 0, .int .u8 0, .int .u8 0, .int .u8 0, .int .u8 0, .int .u8 0, .int .u8 0, .int .u8 0, .int .u8 0, .int .u8 0, .int .u8 0, .int .u8 0, .int .u8 0, .int .u8 0, .int .u8 0, .int .u8 0, .int .u8 0, .int .u8 0, .int .u8 0, .int .u8 0, .int .u8 0, .int .u8 0, .int .u8 0, .int .u8 0, .int .u8 0, .int .u8 0, .int .u8 0, .int .u8 0, .int .u8 0, .int .u8 0, .int .u8 0, .int .u8 0, .int .u8 0, .int .u8 0, .int .u8 0, .int .u8 0, .int .u8 0, .int .u8 0, .int .u8 0, .int .u8 0, .int .u8 0, .int .u8 0, .int .u8 0, .int .u8 0, .int .u8 0, .int .u8 0, .int .u8 0, .int .u8 0, .int .u8 0, .int .u8 0, .int .u8 0, .int .u8 0, .int .u8 0, .int .u8 0, .int .u8 0, .int .u8 0, .int .u8 0, .int .u8 0, .int .u8 0, .int .u8 0, .int .u8 0, .int .u8 0, .int .u8 0, .int .u8 0, .int .u8 0, .int .u8 0, .int .u8 0, .int .u8 0, .int .u8 0, .int .u8 0, .int .u8 0, .int .u8 0, .int .u8 0, .int .u8 0, .int .u8 0, .int .u8 0, .int .u8 0, .int .u8 0, .int .u8 0, .int .u8 0, .int .u8 0, .int .u8 0, .int .u8 0, .int .u8 0, .int .u8 0, .int .u8 0, .int .u8 0, .int .u8 0, .int .u8 0, .int .u8 0, .int .u8 0, .int .u8 0, .int .u8 0, .int .u8 0, .int .u8 0, .int .u8 0, .int .u8 0, .int .u8 0, .int .u8 0, .int .u8 0, .int .u8 0, .int .u8 0, .int .u8 0, .int .u8 0, .int .u8 0, .int .u8 0, .int .u8 0, .int .u8 0, .int .u8 0, .int .u8 0, .int .u8 0, .int .u8 0, .int .u8 0, .int .u8 0, .int .u8 0, .int .u8 0, .int .u8 0, .int .u8 0, .int .u8 0, .int .u8 0, .int .u8 0, .int .u8 0, .int .u8 0, .int .u8 0, .int .u8 0, .int .u8 0, .int .u8 0, .int .u8 0, .int .u8 0, .int .u8 0, .int .u8 0, .int .u8 0, .int .u8 0, .int .u8 0, .int .u8 0, .int .u8 0, .int .u8 0, .int .u8 0, .int .u8 0, .int .u8 0, .int .u8 0, .int .u8 0, .int .u8 0, .int .u8 0, .int .u8 0, .int .u8 0, .int .u8 0, .int .u8 0, .int .u8 0, .int .u8 0, .int .u8 0, .int .u8 0, .int .u8 0, .int .u8 0, .int .u8 0, .int .u8 0, .int .u8 0, .int .u8 0, .int .u8 0, .int .u8 0, .int .u8 0, .int .u8 0, .int .u8 0, .int .u8 0, .int .u8 0, .int .u8 0, .int .u8 0, .int .u8 0, .int .u8 0, .int .u8 0, .int .u8 0, .int .u8 0, .int .u8 0, .int .u8 0, .int .u8 0, .int .u8 0, .int .u8 0, .int .u8 0, .int .u8 0, .int .u8 0, .int .u8 0, .int .u8 0, .int .u8 0, .int .u8 0, .int .u8 0, .int .u8 0, .int .u8 0, .int .u8 0, .int .u8 0, .int .u8 0, .int .u8 0, .int .u8 0, .int .u8 0, .int .u8 0, .int .u8 0, .int .u8 0, .int .u8 0, .int .u8 0, .int .u8 0, .int .u8 0, .int .u8 0, .int .u8 0, .int .u8 0, .int .u8 0, .int .u8 0, .int .u8 0, .int .u8 0, .int .u8 0, .int .u8 0, .int .u8 0, .int .u8 0, .int .u8 0, .int .u8 0, .int .u8 0, .int .u8 0, .int .u8 0, .int .u8 0, .int .u8 0, .int .u8 0, .int .u8 0, .int .u8 0, .int .u8 0, .int .u8 0, .int .u8 0, .int .u8 0, .int .u8 0, .int .u8 0, .int .u8 0, .int .u8 0, .int .u8 0, .int .u8 0, .int .u8 0, .int .u8 0, .int .u8 0, .int .u8 0, .int .u8 0, .int .u8 0, .int .u8 0, .int .u8 0, .int .u8 0, .int .u8 0, .int .u8 0, .int .u8 0, .int .u8 0, .int .u8 0, .int .u8 0, .int .u8 0, .int .u8 0, .int .u8 0, .int .u8 0, .int .u8 0, .int .u8 0, .int .u8 0]), zok := some 262, by' := some 336, un := true } := ⟨ti_121, trivial, trivial, ⟨fi_121_0, fi_121_1, fi_121_2, trivial⟩, si_121, zv_121, zok_121, by_121, trivial, trivial, trivial, trivial, trivial, trivial, uns_121, trivial⟩
theorem uns_122 : (Tryz.prog.underlying 122).isSome = true := by kernel_rfl
theorem tok_122 : TOk Tryz.prog 122 { ti := some (true, 262), fi := [some (0, (true, 5)), some (5, (false, 1)), some (6, (true, 256))], si := some [(0, 5), (5, 1), (6, 256)], zv := some (.agg [.str [], .int .i64 0, .str [], .nilp, .nils, .int .i64 0, .int .u8 0, .int .u8 0, .int .u8 0, .int .u8 0, .int .u8 0, .int .u8 0, .int .u8 0, .int .u8 0, .int .u8 0, .int .u8 0, .int .u8 0, .int .u8 0, .int .u8 0, .int .u8 0, .int .u8 0, .int .u8 0, .int .u8 0, .int .u8 0, .int .u8 0, .int .u8 0, .int .u8 0, .int .u8 0, .int .u8 0, .int .u8 0, .int .u8 0, .int .u8 0, .int .u8 0, .int .u8 0, .int .u8 0, .int .u8 0, .int .u8 0, .int .u8 0, .int .u8 0, .int .u8 0, .int .u8 0, .int .u8 0, .int .u8 0, .int .u8 0, .int .u8 0, .int .u8 0, .int .u8 0, .int .u8 0, .int .u8 0, .int .u8 0, .int .u8 0, .int .u8 0, .int .u8 0, .int .u8 0, .int .u8 0, .int .u8 0, .int .u8 0, .int .u8 0, .int .u8 0, .int .u8 0, .int .u8 0, .int .u8 0, .int .u8 0, .int .u8 0, .int .u8 0, .int .u8 0, .int .u8 0, .int .u8 0, .int .u8 0, .int .u8 0, .int .u8 0, .int .u8 0, .int .u8 0, .int .u8 0, .int .u8 0, .int .u8 0, .int .u8 0, .int .u8 0, .int .u8 0, .int .u8 0, .int .u8 0, .int .u8 0, .int .u8 0, .int .u8 0, .int .u8 0, .int .u8 0, .int .u8 0, .int .u8 0, .int .u8 0, .int .u8 0, .int .u8 0, .int .u8 0, .int .u8 0, .int .u8 0, .int .u8 0, .int .u8 0, .int .u8 0, .int .u8 0, .int .u8 0, .int .u8 0, .int .u8 0, .int .u8 0, .int .u8 0, .int .u8 0, .int .u8 0, .int .u8 0, .int .u8 0, .int .u8 0, .int .u8 0, .int .u8 0, .int .u8 0, .int .u8 0, .int .u8 0, .int .u8 0, .int .u8 0, .int .u8 0, .int .u8 0, .int .u8 0, .int .u8 0, .int .u8 0, .int .u8 0, .int .u8 0, .int .u8 0, .int .u8 0, .int .u8 0, .int .u8 0, .int .u8 0, .int .u8 0, .int .u8 0, .int .u8 0, .int .u8 0, .int .u8 0, .int .u8 0, .int .u8 0, .int .u8 0, .int .u8 0, .int .u8 0, .int .u8 0, .int .u8 0, .int .u8 0, .int .u8 0, .int .u8 0, .int .u8 0, .int .u8 0, .int .u8 0, .int .u8 0, .int .u8 0, .int .u8 0, .int .u8 0, .int .u8 0, .int .u8 0, .int .u8 0, .int .u8 0, .int .u8 0, .int .u8 0, .int .u8 0, .int .u8 0, .int .u8 0, .int .u8 0, .int .u8 0, .int .u8 0, .int .u8 0, .int .u8 0, .int .u8 0, .int .u8 0, .int .u8 0, .int .u8 0, .int .u8 0, .int .u8 0, .int .u8 0, .int .u8 0, .int .u8 0, .int .u8 0, .int .u8 0, .int .u8 0, .int .u8 0, .int .u8 0, .int .u8 0, .int .u8 0, .int .u8 0, .int .u8 0, .int .u8 0, .int .u8 0, .int .u8 0, .int .u8 0, .int .u8 0, .int .u8 0, .int .u8 0, .int .u8 0, .int .u8 0, .int .u8 0, .int .u8 0, .int .u8 0, .int .u8 0, .int .u8 0, .int .u8 0, .int .u8 0, .int .u8 0, .int .u8 0, .int .u8 0, .int .u8 0, .int .u8 0, .int .u8 0, .int .u8 0, .int .u8 0, .int .u8 0, .int .u8 0, .int .u8 0, .int .u8 0, .int .u8 0, .int .u8 0, .int .u8 0, .int .u8 0, .int .u8 0, .int .u8 0, .int .u8 0, .int .u8 0, .int .u8 0, .int .u8 0, .int .u8 0, .int .u8 0, .int .u8 0, .int .u8 0, .int .u8 0, .int .u8 0, .int .u8 0, .int .u8 0, .int .u8 0, .int .u8 0, .int .u8 0, .int .u8 0, .int .u8 0, .int .u8 0, .int .u8 0, .int .u8 0, .int .u8 0, .int .u8 0, .int .u8 0, .int .u8 0, .int .u8 0, .int .u8 0, .int .u8 0, .int .u8 0, .int .u8 0, .int .u8 0, .int .u8 0, .int .u8 0, .int .u8 0, .int .u8 0, .int .u8 0, .int .u8 0, .int .u8 0, .int .u8 0, .int .u8 0, .int .u8 0, .int .u8 0, .int .u8 0, .int .u8 0, .int .u8 0, .int .u8 0, .int .u8 0, .int .u8 0]), zok := some 262, by' := some 336, un := true } := ⟨ti_122, trivial, trivial, ⟨fi_122_0, fi_122_1, fi_122_2, trivial⟩, si_122, zv_122, zok_122, by_122, trivial, trivial, trivial, trivial, trivial, trivial, uns_122, trivial⟩
theorem uns_123 : (Tryz.prog.underlying 123).isSome = true := by kernel_rfl
theorem tok_123 : TOk Tryz.prog 123 { ti := some (false, 1), zv := some (.any), zok := some 1, by' := some 8, un := true } := ⟨ti_123, trivial, trivial, trivial, trivial, zv_123, zok_123, by_123, trivial, trivial, trivial, trivial, trivial, trivial, uns_123, trivial⟩
theorem uns_124 : (Tryz.prog.underlying 124).isSome = true := by kernel_rfl
theorem tok_124 : TOk Tryz.prog 124 { ti := some (false, 1), zv := some (.nilp), zok := some 1, by' := some 8, ptr := true, un := true } := ⟨ti_124, trivial, trivial, trivial, trivial, zv_124, zok_124, by_124, trivial, trivial, trivial, trivial, isPtr_124, trivial, uns_124, trivial⟩
theorem uns_125 : (Tryz.prog.underlying 125).isSome = true := by kernel_rfl
theorem tok_125 : TOk Tryz.prog 125 { ti := some (false, 1), zv := some (.any), zok := some 1, by' := some 8, un := true } := ⟨ti_125, trivial, trivial, trivial, trivial, zv_125, zok_125, by_125, trivial, trivial, trivial, trivial, trivial, trivial, uns_125, trivial⟩
theorem uns_126 : (Tryz.prog.underlying 126).isSome = true := by kernel_rfl
theorem tok_126 : TOk Tryz.prog 126 { ti := some (false, 1), zv := some (.nilp), zok := some 1, by' := some 8, ptr := true, un := true } := ⟨ti_126, trivial, trivial, trivial, trivial, zv_126, zok_126, by_126, trivial, trivial, trivial, trivial, isPtr_126, trivial, uns_126, trivial⟩
theorem uns_129 : (Tryz.prog.underlying 129).isSome = true := by kernel_rfl
theorem tok_129 : TOk Tryz.prog 129 { ti := some (false, 1), zv := some (.any), zok := some 1, by' := some 8, un := true } := ⟨ti_129, trivial, trivial, trivial, trivial, zv_129, zok_129, by_129, trivial, trivial, trivial, trivial, trivial, trivial, uns_129, trivial⟩
theorem uns_130 : (Tryz.prog.underlying 130).isSome = true := by kernel_rfl
theorem tok_130 : TOk Tryz.prog 130 { ti := some (false, 1), zv := some (.any), zok := some 1, by' := some 8, un := true } := ⟨ti_130, trivial, trivial, trivial, trivial, zv_130, zok_130, by_130, trivial, trivial, trivial, trivial, trivial, trivial, uns_130, trivial⟩
theorem uns_131 : (Tryz.prog.underlying 131).isSome = true := by kernel_rfl
theorem tok_131 : TOk Tryz.prog 131 { ti := some (false, 1), ei := some (3, 1), zv := some (.nils), zok := some 1, by' := some 24, sli := true, ni := true, un := true } := ⟨ti_131, ei_131, trivial, trivial, trivial, zv_131, zok_131, by_131, trivial, trivial, isSli_131, trivial, trivial, notInt_131, uns_131, trivial⟩
theorem uns_132 : (Tryz.prog.underlying 132).isSome = true := by kernel_rfl
theorem tok_132 : TOk Tryz.prog 132 { ti := some (true, 256), ai := some (256, (false, 1)), zv := some (.agg [.int .i64 0, .int .i64 0, .int .i64 0, .int .i64 0, .int .i64 0, .int .i64 0, .int .i64 0, .int .i64 0, .int .i64 0, .int .i64 0, .int .i64 0, .int .i64 0, .int .i64 0, .int .i64 0, .int .i64 0, .int .i64 0, .int .i64 0, .int .i64 0, .int .i64 0, .int .i64 0, .int .i64 0, .int .i64 0, .int .i64 0, .int .i64 0, .int .i64 0, .int .i64 0, .int .i64 0, .int .i64 0, .int .i64 0, .int .i64 0, .int .i64 0, .int .i64 0, .int .i64 0, .int .i64 0, .int .i64 0, .int .i64 0, .int .i64 0, .int .i64 0, .int .i64 0, .int .i64 0, .int .i64 0, .int .i64 0, .int .i64 0, .int .i64 0, .int .i64 0, .int .i64 0, .int .i64 0, .int .i64 0, .int .i64 0, .int .i64 0, .int .i64 0, .int .i64 0, .int .i64 0, .int .i64 0, .int .i64 0, .int .i64 0, .int .i64 0, .int .i64 0, .int .i64 0, .int .i64 0, .int .i64 0, .int .i64 0, .int .i64 0, .int .i64 0, .int .i64 0, .int .i64 0, .int .i64 0, .int .i64 0, .int .i64 0, .int .i64 0, .int .i64 0, .int .i64 0, .int .i64 0, .int .i64 0, .int .i64 0, .int .i64 0, .int .i64 0, .int .i64 0, .int .i64 0, .int .i64 0, .int .i64 0, .int .i64 0, .int .i64 0, .int .i64 0, .int .i64 0, .int .i64 0, .int .i64 0, .int .i64 0, .int .i64 0, .int .i64 0, .int .i64 0, .int .i64 0, .int .i64 0, .int .i64 0, .int .i64 0, .int .i64 0, .int .i64 0, .int .i64 0, .int .i64 0, .int .i64 0, .int .i64 0, .int .i64 0, .int .i64 0, .int .i64 0, .int .i64 0, .int .i64 0, .int .i64 0, .int .i64 0, .int .i64 0, .int .i64 0, .int .i64 0, .int .i64 0, .int .i64 0, .int .i64 0, .int .i64 0, .int .i64 0, .int .i64 0, .int .i64 0, .int .i64 0, .int .i64 0, .int .i64 0, .int .i64 0, .int .i64 0, .int .i64 0, .int .i64 0, .int .i64 0, .int .i64 0, .int .i64 0, .int .i64 0, .int .i64 0, .int .i64 0, .int .i64 0, .int .i64 0, .int .i64 0, .int .i64 0, .int .i64 0, .int .i64 0, .int .i64 0, .int .i64 0, .int .i64 0, .int .i64 0, .int .i64 0, .int .i64 0, .int .i64 0, .int .i64 0, .int .i64 0, .int .i64 0, .int .i64 0, .int .i64 0, .int .i64 0, .int .i64 0, .int .i64 0, .int .i64 0, .int .i64 0, .int .i64 0, .int .i64 0, .int .i64 0, .int .i64 0, .int .i64 0, .int .i64 0, .int .i64 0, .int .i64 0, .int .i64 0, .int .i64 0, .int .i64 0, .int .i64 0, .int .i64 0, .int .i64 0, .int .i64 0, .int .i64 0, .int .i64 0, .int .i64 0, .int .i64 0, .int .i64 0, .int .i64 0, .int .i64 0, .int .i64 0, .int .i64 0, .int .i64 0, .int .i64 0, .int .i64 0, .int .i64 0, .int .i64 0, .int .i64 0, .int .i64 0, .int .i64 0, .int .i64 0, .int .i64 0, .int .i64 0, .int .i64 0, .int .i64 0, .int .i64 0, .int .i64 0, .int .i64 0, .int .i64 0, .int .i64 0, .int .i64 0, .int .i64 0, .int .i64 0, .int .i64 0, .int .i64 0, .int .i64 0, .int .i64 0, .int .i64 0, .int .i64 0, .int .i64 0, .int .i64 0, .int .i64 0, .int .i64 0, .int .i64 0, .int .i64 0, .int .i64 0, .int .i64 0, .int .i64 0, .int .i64 0, .int .i64 0, .int .i64 0, .int .i64 0, .int .i64 0, .int .i64 0, .int .i64 0, .int .i64 0, .int .i64 0, .int .i64 0, .int .i64 0, .int .i64 0, .int .i64 0, .int .i64 0, .int .i64 0, .int .i64 0, .int .i64 0, .int .i64 0, .int .i64 0, .int .i64 0, .int .i64 0, .int .i64 0, .int .i64 0, .int .i64 0, .int .i64 0, .int .i64 0, .int .i64 0, .int .i64 0, .int .i64 0, .int .i64 0, .int .i64 0, .int .i64 0, .int .i64 0, .int .i64 0, .int .i64 0, .int .i64 0, .int .i64 0, .int .i64 0, .int .i64 0, .int .i64 0, .int .i64 0, .int .i64 0]), zok := some 256, by' := some 2048, un := true } := ⟨ti_132, trivial, ai_132, trivial, trivial, zv_132, zok_132, by_132, trivial, trivial, trivial, trivial, trivial, trivial, uns_132, trivial⟩
theorem uns_133 : (Tryz.prog.underlying 133).isSome = true := by kernel_rfl
theorem tok_133 : TOk Tryz.prog 133 { ti := some (true, 258), fi := [some (0, (false, 1)), some (1, (true, 256)), some (257, (false, 1))], si := some [(0, 1), (1, 256), (257, 1)], zv := some (.agg [.str [], .int .i64 0, .int .i64 0, .int .i64 0, .int .i64 0, .int .i64 0, .int .i64 0, .int .i64 0, .int .i64 0, .int .i64 0, .int .i64 0, .int .i64 0, .int .i64 0, .int .i64 0, .int .i64 0, .int .i64 0, .int .i64 0, .int .i64 0, .int .i64 0, .int .i64 0, .int .i64 0, .int .i64 0, .int .i64 0, .int .i64 0, .int .i64 0, .int .i64 0, .int .i64 0, .int .i64 0, .int .i64 0, .int .i64 0, .int .i64 0, .int .i64 0, .int .i64 0, .int .i64 0, .int .i64 0, .int .i64 0, .int .i64 0, .int .i64 0, .int .i64 0, .int .i64 0, .int .i64 0, .int .i64 0, .int .i64 0, .int .i64 0, .int .i64 0, .int .i64 0, .int .i64 0, .int .i64 0, .int .i64 0, .int .i64 0, .int .i64 0, .int .i64 0, .int .i64 0, .int .i64 0, .int .i64 0, .int .i64 0, .int .i64 0, .int .i64 0, .int .i64 0, .int .i64 0, .int .i64 0, .int .i64 0, .int .i64 0, .int .i64 0, .int .i64 0, .int .i64 0, .int .i64 0, .int .i64 0, .int .i64 0, .int .i64 0, .int .i64 0, .int .i64 0, .int .i64 0, .int .i64 0, .int .i64 0, .int .i64 0, .int .i64 0, .int .i64 0, .int .i64 0, .int .i64 0, .int .i64 0, .int .i64 0, .int .i64 0, .int .i64 0, .int .i64 0, .int .i64 0, .int .i64 0, .int .i64 0, .int .i64 0, .int .i64 0, .int .i64 0, .int .i64 0, .int .i64 0, .int .i64 0, .int .i64 0, .int .i64 0, .int .i64 0, .int .i64 0, .int .i64 0, .int .i64 0, .int .i64 0, .int .i64 0, .int .i64 0, .int .i64 0, .int .i64 0, .int .i64 0, .int .i64 0, .int .i64 0, .int .i64 0, .int .i64 0, .int .i64 0, .int .i64 0, .int .i64 0, .int .i64 0, .int .i64 0, .int .i64 0, .int .i64 0, .int .i64 0, .int .i64 0, .int .i64 0, .int .i64 0, .int .i64 0, .int .i64 0, .int .i64 0, .int .i64 0, .int .i64 0, .int .i64 0, .int .i64 0, .int .i64 0, .int .i64 0, .int .i64 0, .int .i64 0, .int .i64 0, .int .i64 0, .int .i64 0, .int .i64 0, .int .i64 0, .int .i64 0, .int .i64 0, .int .i64 0, .int .i64 0, .int .i64 0, .int .i64 0, .int .i64 0, .int .i64 0, .int .i64 0, .int .i64 0, .int .i64 0, .int .i64 0, .int .i64 0, .int .i64 0, .int .i64 0, .int .i64 0, .int .i64 0, .int .i64 0, .int .i64 0, .int .i64 0, .int .i64 0, .int .i64 0, .int .i64 0, .int .i64 0, .int .i64 0, .int .i64 0, .int .i64 0, .int .i64 0, .int .i64 0, .int .i64 0, .int .i64 0, .int .i64 0, .int .i64 0, .int .i64 0, .int .i64 0, .int .i64 0, .int .i64 0, .int .i64 0, .int .i64 0, .int .i64 0, .int .i64 0, .int .i64 0, .int .i64 0, .int .i64 0, .int .i64 0, .int .i64 0, .int .i64 0, .int .i64 0, .int .i64 0, .int .i64 0, .int .i64 0, .int .i64 0, .int .i64 0, .int .i64 0, .int .i64 0, .int .i64 0, .int .i64 0, .int .i64 0, .int .i64 0, .int .i64 0, .int .i64 0, .int .i64 0, .int .i64 0, .int .i64 0, .int .i64 0, .int .i64 0, .int .i64 0, .int .i64 0, .int .i64 0, .int .i64 0, .int .i64 0, .int .i64 0, .int .i64 0, .int .i64 0, .int .i64 0, .int .i64 0, .int .i64 0, .int .i64 0, .int .i64 0, .int .i64 0, .int .i64 0, .int .i64 0, .int .i64 0, .int .i64 0, .int .i64 0, .int .i64 0, .int .i64 0, .int .i64 0, .int .i64 0, .int .i64 0, .int .i64 0, .int .i64 0, .int .i64 0, .int .i64 0, .int .i64 0, .int .i64 0, .int .i64 0, .int .i64 0, .int .i64 0, .int .i64 0, .int .i64 0, .int .i64 0, .int .i64 0, .int .i64 0, .int .i64 0, .int .i64 0, .int .i64 0, .int .i64 0, .int .i64 0, .int .i64 0, .int .i64 0, .int .i64 0, .int .i64 0, .int .i64 0, .int .i64 0, .int .i64 0, .int .i64 0, .int .i64 0, .int .i64 0, .int .i64 0, .nils]), zok := some 258, by' := some 2088, un := true } := ⟨ti_133, trivial, trivial, ⟨fi_133_0, fi_133_1, fi_133_2, trivial⟩, si_133, zv_133, zok_133, by_133, trivial, trivial, trivial, trivial, trivial, trivial, uns_133, trivial⟩
theorem uns_134 : (Tryz.prog.underlying 134).isSome = true := by kernel_rfl
theorem tok_134 : TOk Tryz.prog 134 { ti := some (true, 258), fi := [some (0, (false, 1)), some (1, (true, 256)), some (257, (false, 1))], si := some [(0, 1), (1, 256), (257, 1)], zv := some (.agg [.str [], .int .i64 0, .int .i64 0, .int .i64 0, .int .i64 0, .int .i64 0, .int .i64 0, .int .i64 0, .int .i64 0, .int .i64 0, .int .i64 0, .int .i64 0, .int .i64 0, .int .i64 0, .int .i64 0, .int .i64 0, .int .i64 0, .int .i64 0, .int .i64 0, .int .i64 0, .int .i64 0, .int .i64 0, .int .i64 0, .int .i64 0, .int .i64 0, .int .i64 0, .int .i64 0, .int .i64 0, .int .i64 0, .int .i64 0, .int .i64 0, .int .i64 0, .int .i64 0, .int .i64 0, .int .i64 0, .int .i64 0, .int .i64 0, .int .i64 0, .int .i64 0, .int .i64 0, .int .i64 0, .int .i64 0, .int .i64 0, .int .i64 0, .int .i64 0, .int .i64 0, .int .i64 0, .int .i64 0, .int .i64 0, .int .i64 0, .int .i64 0, .int .i64 0, .int .i64 0, .int .i64 0, .int .i64 0, .int .i64 0, .int .i64 0, .int .i64 0, .int .i64 0, .int .i64 0, .int .i64 0, .int .i64 0, .int .i64 0, .int .i64 0, .int .i64 0, .int .i64 0, .int .i64 0, .int .i64 0, .int .i64 0, .int .i64 0, .int .i64 0, .int .i64 0, .int .i64 0, .int .i64 0, .int .i64 0, .int .i64 0, .int .i64 0, .int .i64 0, .int .i64 0, .int .i64 0, .int .i64 0, .int .i64 0, .int .i64 0, .int .i64 0, .int .i64 0, .int .i64 0, .int .i64 0, .int .i64 0, .int .i64 0, .int .i64 0, .int .i64 0, .int .i64 0, .int .i64 0, .int .i64 0, .int .i64 0, .int .i64 0, .int .i64 0, .int .i64 0, .int .i64 0, .int .i64 0, .int .i64 0, .int .i64 0, .int .i64 0, .int .i64 0, .int .i64 0, .int .i64 0, .int .i64 0, .int .i64 0, .int .i64 0, .int .i64 0, .int .i64 0, .int .i64 0, .int .i64 0, .int .i64 0, .int .i64 0, .int .i64 0, .int .i64 0, .int .i64 0, .int .i64 0, .int .i64 0, .int .i64 0, .int .i64 0, .int .i64 0, .int .i64 0, .int .i64 0, .int .i64 0, .int .i64 0, .int .i64 0, .int .i64 0, .int .i64 0, .int .i64 0, .int .i64 0, .int .i64 0, .int .i64 0, .int .i64 0, .int .i64 0, .int .i64 0, .int .i64 0, .int .i64 0, .int .i64 0, .int .i64 0, .int .i64 0, .int .i64 0, .int .i64 0, .int .i64 0, .int .i64 0, .int .i64 0, .int .i64 0, .int .i64 0, .int .i64 0, .int .i64 0, .int .i64 0, .int .i64 0, .int .i64 0, .int .i64 0, .int .i64 0, .int .i64 0, .int .i64 0, .int .i64 0, .int .i64 0, .int .i64 0, .int .i64 0, .int .i64 0, .int .i64 0, .int .i64 0, .int .i64 0, .int .i64 0, .int .i64 0, .int .i64 0, .int .i64 0, .int .i64 0, .int .i64 0, .int .i64 0, .int .i64 0, .int .i64 0, .int .i64 0, .int .i64 0, .int .i64 0, .int .i64 0, .int .i64 0, .int .i64 0, .int .i64 0, .int .i64 0, .int .i64 0, .int .i64 0, .int .i64 0, .int .i64 0, .int .i64 0, .int .i64 0, .int .i64 0, .int .i64 0, .int .i64 0, .int .i64 0, .int .i64 0, .int .i64 0, .int .i64 0, .int .i64 0, .int .i64 0, .int .i64 0, .int .i64 0, .int .i64 0, .int .i64 0, .int .i64 0, .int .i64 0, .int .i64 0, .int .i64 0, .int .i64 0, .int .i64 0, .int .i64 0, .int .i64 0, .int .i64 0, .int .i64 0, .int .i64 0, .int .i64 0, .int .i64 0, .int .i64 0, .int .i64 0, .int .i64 0, .int .i64 0, .int .i64 0, .int .i64 0, .int .i64 0, .int .i64 0, .int .i64 0, .int .i64 0, .int .i64 0, .int .i64 0, .int .i64 0, .int .i64 0, .int .i64 0, .int .i64 0, .int .i64 0, .int .i64 0, .int .i64 0, .int .i64 0, .int .i64 0, .int .i64 0, .int .i64 0, .int .i64 0, .int .i64 0, .int .i64 0, .int .i64 0, .int .i64 0, .int .i64 0, .int .i64 0, .int .i64 0, .int .i64 0, .int .i64 0, .int .i64 0, .int .i64 0, .int .i64 0, .int .i64 0, .int .i64 0, .int .i64 0, .int .i64 0, .int .i64 0, .int .i64 0, .nils]), zok := some 258, by' := some 2088, un := true } := ⟨ti_134, trivial, trivial, ⟨fi_134_0, fi_134_1, fi_134_2, trivial⟩, si_134, zv_134, zok_134, by_134, trivial, trivial, trivial, trivial, trivial, trivial, uns_134, trivial⟩
theorem uns_135 : (Tryz.prog.underlying 135).isSome = true := by kernel_rfl
theorem tok_135 : TOk Tryz.prog 135 { ti := some (false, 1), zv := some (.any), zok := some 1, by' := some 8, un := true } := ⟨ti_135, trivial, trivial, trivial, trivial, zv_135, zok_135, by_135, trivial, trivial, trivial, trivial, trivial, trivial, uns_135, trivial⟩
theorem uns_136 : (Tryz.prog.underlying 136).isSome = true := by kernel_rfl
theorem tok_136 : TOk Tryz.prog 136 { ti := some (false, 1), zv := some (.any), zok := some 1, by' := some 8, un := true } := ⟨ti_136, trivial, trivial, trivial, trivial, zv_136, zok_136, by_136, trivial, trivial, trivial, trivial, trivial, trivial, uns_136, trivial⟩
theorem uns_137 : (Tryz.prog.underlying 137).isSome = true := by kernel_rfl
theorem tok_137 : TOk Tryz.prog 137 { ti := some (false, 1), zv := some (.any), zok := some 1, by' := some 8, un := true } := ⟨ti_137, trivial, trivial, trivial, trivial, zv_137, zok_137, by_137, trivial, trivial, trivial, trivial, trivial, trivial, uns_137, trivial⟩
theorem uns_138 : (Tryz.prog.underlying 138).isSome = true := by kernel_rfl
theorem tok_138 : TOk Tryz.prog 138 { ti := some (false, 1), zv := some (.any), zok := some 1, by' := some 8, un := true } := ⟨ti_138, trivial, trivial, trivial, trivial, zv_138, zok_138, by_138, trivial, trivial, trivial, trivial, trivial, trivial, uns_138, trivial⟩
theorem uns_139 : (Tryz.prog.underlying 139).isSome = true := by kernel_rfl
theorem tok_139 : TOk Tryz.prog 139 { ti := some (false, 1), zv := some (.any), zok := some 1, by' := some 8, un := true } := ⟨ti_139, trivial, trivial, trivial, trivial, zv_139, zok_139, by_139, trivial, trivial, trivial, trivial, trivial, trivial, uns_139, trivial⟩
theorem uns_140 : (Tryz.prog.underlying 140).isSome = true := by kernel_rfl
theorem tok_140 : TOk Tryz.prog 140 { ti := some (false, 1), zv := some (.any), zok := some 1, by' := some 8, un := true } := ⟨ti_140, trivial, trivial, trivial, trivial, zv_140, zok_140, by_140, trivial, trivial, trivial, trivial, trivial, trivial, uns_140, trivial⟩
theorem uns_146 : (Tryz.prog.underlying 146).isSome = true := by kernel_rfl
theorem tok_146 : TOk Tryz.prog 146 { ti := some (false, 1), zv := some (.any), zok := some 1, by' := some 8, un := true } := ⟨ti_146, trivial, trivial, trivial, trivial, zv_146, zok_146, by_146, trivial, trivial, trivial, trivial, trivial, trivial, uns_146, trivial⟩
theorem uns_150 : (Tryz.prog.underlying 150).isSome = true := by kernel_rfl
theorem tok_150 : TOk Tryz.prog 150 { ti := some (false, 1), zv := some (.nilp), zok := some 1, by' := some 8, ptr := true, un := true } := ⟨ti_150, trivial, trivial, trivial, trivial, zv_150, zok_150, by_150, trivial, trivial, trivial, trivial, isPtr_150, trivial, uns_150, trivial⟩
theorem uns_155 : (Tryz.prog.underlying 155).isSome = true := by kernel_rfl
theorem tok_155 : TOk Tryz.prog 155 { ti := some (false, 1), zv := some (.any), zok := some 1, by' := some 8, un := true } := ⟨ti_155, trivial, trivial, trivial, trivial, zv_155, zok_155, by_155, trivial, trivial, trivial, trivial, trivial, trivial, uns_155, trivial⟩
theorem uns_156 : (Tryz.prog.underlying 156).isSome = true := by kernel_rfl
theorem tok_156 : TOk Tryz.prog 156 { ti := some (false, 1), zv := some (.nilp), zok := some 1, by' := some 8, ptr := true, un := true } := ⟨ti_156, trivial, trivial, trivial, trivial, zv_156, zok_156, by_156, trivial, trivial, trivial, trivial, isPtr_156, trivial, uns_156, trivial⟩
theorem uns_157 : (Tryz.prog.underlying 157).isSome = true := by kernel_rfl
theorem tok_157 : TOk Tryz.prog 157 { ti := some (true, 2), fi := [some (0, (false, 1)), some (1, (false, 1))], si := some [(0, 1), (1, 1)], zv := some (.agg [.nilp, .nils]), zok := some 2, by' := some 32, un := true } := ⟨ti_157, trivial, trivial, ⟨fi_157_0, fi_157_1, trivial⟩, si_157, zv_157, zok_157, by_157, trivial, trivial, trivial, trivial, trivial, trivial, uns_157, trivial⟩
theorem uns_158 : (Tryz.prog.underlying 158).isSome = true := by kernel_rfl
theorem tok_158 : TOk Tryz.prog 158 { ti := some (true, 2), fi := [some (0, (false, 1)), some (1, (false, 1))], si := some [(0, 1), (1, 1)], zv := some (.agg [.nilp, .nils]), zok := some 2, by' := some 32, un := true } := ⟨ti_158, trivial, trivial, ⟨fi_158_0, fi_158_1, trivial⟩, si_158, zv_158, zok_158, by_158, trivial, trivial, trivial, trivial, trivial, trivial, uns_158, trivial⟩
theorem uns_159 : (Tryz.prog.underlying 159).isSome = true := by kernel_rfl
theorem tok_159 : TOk Tryz.prog 159 { ti := some (false, 1), zv := some (.any), zok := some 1, by' := some 8, un := true } := ⟨ti_159, trivial, trivial, trivial, trivial, zv_159, zok_159, by_159, trivial, trivial, trivial, trivial, trivial, trivial, uns_159, trivial⟩
theorem uns_160 : (Tryz.prog.underlying 160).isSome = true := by kernel_rfl
theorem tok_160 : TOk Tryz.prog 160 { ti := some (false, 1), zv := some (.any), zok := some 1, by' := some 8, un := true } := ⟨ti_160, trivial, trivial, trivial, trivial, zv_160, zok_160, by_160, trivial, trivial, trivial, trivial, trivial, trivial, uns_160, trivial⟩
theorem uns_164 : (Tryz.prog.underlying 164).isSome = true := by kernel_rfl
theorem tok_164 : TOk Tryz.prog 164 { ti := some (false, 1), zv := some (.any), zok := some 1, by' := some 8, un := true } := ⟨ti_164, trivial, trivial, trivial, trivial, zv_164, zok_164, by_164, trivial, trivial, trivial, trivial, trivial, trivial, uns_164, trivial⟩
theorem uns_166 : (Tryz.prog.underlying 166).isSome = true := by kernel_rfl
theorem tok_166 : TOk Tryz.prog 166 { ti := some (false, 1), zv := some (.any), zok := some 1, by' := some 8, un := true } := ⟨ti_166, trivial, trivial, trivial, trivial, zv_166, zok_166, by_166, trivial, trivial, trivial, trivial, trivial, trivial, uns_166, trivial⟩
theorem uns_167 : (Tryz.prog.underlying 167).isSome = true := by kernel_rfl
theorem tok_167 : TOk Tryz.prog 167 { ti := some (false, 1), ei := some (5, 1), zv := some (.nils), zok := some 1, by' := some 24, sli := true, ni := true, un := true } := ⟨ti_167, ei_167, trivial, trivial, trivial, zv_167, zok_167, by_167, trivial, trivial, isSli_167, trivial, trivial, notInt_167, uns_167, trivial⟩
theorem uns_168 : (Tryz.prog.underlying 168).isSome = true := by kernel_rfl
theorem tok_168 : TOk Tryz.prog 168 { ti := some (false, 1), zv := some (.nilp), zok := some 1, by' := some 8, ptr := true, un := true } := ⟨ti_168, trivial, trivial, trivial, trivial, zv_168, zok_168, by_168, trivial, trivial, trivial, trivial, isPtr_168, trivial, uns_168, trivial⟩
theorem uns_173 : (Tryz.prog.underlying 173).isSome = true := by kernel_rfl
theorem tok_173 : TOk Tryz.prog 173 { ti := some (false, 1), zv := some (.any), zok := some 1, by' := some 8, un := true } := ⟨ti_173, trivial, trivial, trivial, trivial, zv_173, zok_173, by_173, trivial, trivial, trivial, trivial, trivial, trivial, uns_173, trivial⟩
theorem uns_175 : (Tryz.prog.underlying 175).isSome = true := by kernel_rfl
theorem tok_175 : TOk Tryz.prog 175 { ti := some (false, 1), zv := some (.any), zok := some 1, by' := some 8, un := true } := ⟨ti_175, trivial, trivial, trivial, trivial, zv_175, zok_175, by_175, trivial, trivial, trivial, trivial, trivial, trivial, uns_175, trivial⟩
theorem uns_177 : (Tryz.prog.underlying 177).isSome = true := by kernel_rfl
theorem tok_177 : TOk Tryz.prog 177 { ti := some (true, 1), fi := [some (0, (false, 1))], si := some [(0, 1)], zv := some (.agg [.nili]), zok := some 1, by' := some 16, un := true } := ⟨ti_177, trivial, trivial, ⟨fi_177_0, trivial⟩, si_177, zv_177, zok_177, by_177, trivial, trivial, trivial, trivial, trivial, trivial, uns_177, trivial⟩
theorem uns_178 : (Tryz.prog.underlying 178).isSome = true := by kernel_rfl
theorem tok_178 : TOk Tryz.prog 178 { ti := some (true, 1), fi := [some (0, (false, 1))], si := some [(0, 1)], zv := some (.agg [.nili]), zok := some 1, by' := some 16, un := true } := ⟨ti_178, trivial, trivial, ⟨fi_178_0, trivial⟩, si_178, zv_178, zok_178, by_178, trivial, trivial, trivial, trivial, trivial, trivial, uns_178, trivial⟩
theorem uns_179 : (Tryz.prog.underlying 179).isSome = true := by kernel_rfl
theorem tok_179 : TOk Tryz.prog 179 { ti := some (false, 1), zv := some (.any), zok := some 1, by' := some 8, un := true } := ⟨ti_179, trivial, trivial, trivial, trivial, zv_179, zok_179, by_179, trivial, trivial, trivial, trivial, trivial, trivial, uns_179, trivial⟩
theorem uns_181 : (Tryz.prog.underlying 181).isSome = true := by kernel_rfl
theorem tok_181 : TOk Tryz.prog 181 { ti := some (false, 1), zv := some (.any), zok := some 1, by' := some 8, un := true } := ⟨ti_181, trivial, trivial, trivial, trivial, zv_181, zok_181, by_181, trivial, trivial, trivial, trivial, trivial, trivial, uns_181, trivial⟩
def Tryz.tt : TT := (.node (.node (.node (.node (.node (.node (.node (.node .leaf 1 { ti := some (false, 1), zv := some (.any), zok := some 1, by' := some 8, un := true } .leaf) 2 { ti := some (false, 1), zv := some (.int .i64 0), zok := some 1, by' := some 8, ik := some .i64, un := true } .leaf) 3 { ti := some (false, 1), zv := some (.int .i64 0), zok := some 1, by' := some 8, ik := some .i64, un := true } (.node .leaf 4 { ti := some (false, 1), zv := some (.bool false), zok := some 1, by' := some 1, boo := true, un := true } .leaf)) 5 { ti := some (false, 1), zv := some (.int .u8 0), zok := some 1, by' := some 1, ik := some .u8, un := true } (.node (.node .leaf 9 { ti := some (false, 1), zv := some (.str []), zok := some 1, by' := some 16, str := true, ni := true, un := true } .leaf) 12 { ti := some (false, 1), zv := some (.int .u64 0), zok := some 1, by' := some 8, ik := some .u64, un := true } (.node .leaf 13 { ti := some (true, 2), fi := [some (0, (false, 1)), some (1, (false, 1))], si := some [(0, 1), (1, 1)], zv := some (.agg [.str [], .int .u64 0]), zok := some 2, by' := some 24, un := true } .leaf))) 21 { ti := some (false, 1), zv := some (.int .i32 0), zok := some 1, by' := some 4, ik := some .i32, un := true } (.node (.node (.node (.node .leaf 22 { ti := some (false, 1), ei := some (9, 1), zv := some (.nils), zok := some 1, by' := some 24, sli := true, ni := true, un := true } .leaf) 23 { ti := some (false, 1), ei := some (35, 4), zv := some (.nils), zok := some 1, by' := some 24, sli := true, ni := true, un := true } .leaf) 24 { ti := some (false, 1), zv := some (.int .i64 0), zok := some 1, by' := some 8, ik := some .i64, un := true } (.node .leaf 26 { ti := some (false, 1), zv := some (.any), zok := some 1, by' := some 8, un := true } .leaf)) 27 { ti := some (false, 1), zv := some (.any), zok := some 1, by' := some 8, un := true } (.node (.node .leaf 28 { ti := some (false, 1), zv := some (.any), zok := some 1, by' := some 8, un := true } .leaf) 29 { ti := some (false, 1), zv := some (.any), zok := some 1, by' := some 8, un := true } (.node .leaf 30 { ti := some (false, 1), zv := some (.any), zok := some 1, by' := some 8, un := true } .leaf)))) 32 { ti := some (false, 1), zv := some (.any), zok := some 1, by' := some 8, un := true } (.node (.node (.node (.node (.node .leaf 33 { ti := some (false, 1), ei := some (41, 2), zv := some (.nils), zok := some 1, by' := some 24, sli := true, ni := true, un := true } .leaf) 34 { ti := some (true, 4), fi := [some (0, (false, 1)), some (1, (false, 1)), some (2, (false, 1)), some (3, (false, 1))], si := some [(0, 1), (1, 1), (2, 1), (3, 1)], zv := some (.agg [.str [], .nils, .str [], .nils]), zok := some 4, by' := some 80, un := true } .leaf) 35 { ti := some (true, 4), fi := [some (0, (false, 1)), some (1, (false, 1)), some (2, (false, 1)), some (3, (false, 1))], si := some [(0, 1), (1, 1), (2, 1), (3, 1)], zv := some (.agg [.str [], .nils, .str [], .nils]), zok := some 4, by' := some 80, un := true } (.node .leaf 36 { ti := some (false, 1), zv := some (.any), zok := some 1, by' := some 8, un := true } .leaf)) 38 { ti := some (false, 1), zv := some (.any), zok := some 1, by' := some 8, un := true } (.node (.node .leaf 39 { ti := some (false, 1), zv := some (.any), zok := some 1, by' := some 8, un := true } .leaf) 40 { ti := some (true, 2), fi := [some (0, (false, 1)), some (1, (false, 1))], si := some [(0, 1), (1, 1)], zv := some (.agg [.str [], .str []]), zok := some 2, by' := some 32, un := true } (.node .leaf 41 { ti := some (true, 2), fi := [some (0, (false, 1)), some (1, (false, 1))], si := some [(0, 1), (1, 1)], zv := some (.agg [.str [], .str []]), zok := some 2, by' := some 32, un := true, sq := some [.s, .s] } .leaf))) 42 { ti := some (false, 1), zv := some (.any), zok := some 1, by' := some 8, un := true } (.node (.node (.node .leaf 43 { ti := some (false, 1), zv := some (.any), zok := some 1, by' := some 8, un := true } .leaf) 44 { ti := some (false, 1), zv := some (.any), zok := some 1, by' := some 8, un := true } (.node .leaf 45 { ti := some (false, 1), zv := some (.any), zok := some 1, by' := some 8, un := true } .leaf)) 46 { ti := some (false, 1), zv := some (.any), zok := some 1, by' := some 8, un := true } (.node (.node .leaf 47 { ti := some (false, 1), zv := some (.any), zok := some 1, by' := some 8, un := true } .leaf) 48 { ti := some (false, 1), zv := some (.any), zok := some 1, by' := some 8, un := true } (.node .leaf 49 { ti := some (false, 1), zv := some (.any), zok := some 1, by' := some 8, un := true } .leaf))))) 50 { ti := some (false, 1), zv := some (.any), zok := some 1, by' := some 8, un := true } (.node (.node (.node (.node (.node (.node .leaf 51 { ti := some (false, 1), zv := some (.any), zok := some 1, by' := some 8, un := true } .leaf) 52 { ti := some (false, 1), zv := some (.any), zok := some 1, by' := some 8, un := true } .leaf) 53 { ti := some (false, 1), zv := some (.nilp), zok := some 1, by' := some 8, ptr := true, un := true } (.node .leaf 54 { ti := some (false, 1), zv := some (.any), zok := some 1, by' := some 8, un := true } .leaf)) 55 { ti := some (false, 1), ei := some (5, 1), zv := some (.nils), zok := some 1, by' := some 24, sli := true, ni := true, un := true } (.node (.node .leaf 56 { ti := some (false, 1), zv := some (.any), zok := some 1, by' := some 8, un := true } .leaf) 57 { ti := some (true, 256), ai := some (256, (false, 1)), zv := some (.agg [.bool false, .bool false, .bool false, .bool false, .bool false, .bool false, .bool false, .bool false, .bool false, .bool false, .bool false, .bool false, .bool false, .bool false, .bool false, .bool false, .bool false, .bool false, .bool false, .bool false, .bool false, .bool false, .bool false, .bool false, .bool false, .bool false, .bool false, .bool false, .bool false, .bool false, .bool false, .bool false, .bool false, .bool false, .bool false, .bool false, .bool false, .bool false, .bool false, .bool false, .bool false, .bool false, .bool false, .bool false, .bool false, .bool false, .bool false, .bool false, .bool false, .bool false, .bool false, .bool false, .bool false, .bool false, .bool false, .bool false, .bool false, .bool false, .bool false, .bool false, .bool false, .bool false, .bool false, .bool false, .bool false, .bool false, .bool false, .bool false, .bool false, .bool false, .bool false, .bool false, .bool false, .bool false, .bool false, .bool false, .bool false, .bool false, .bool false, .bool false, .bool false, .bool false, .bool false, .bool false, .bool false, .bool false, .bool false, .bool false, .bool false, .bool false, .bool false, .bool false, .bool false, .bool false, .bool false, .bool false, .bool false, .bool false, .bool false, .bool false, .bool false, .bool false, .bool false, .bool false, .bool false, .bool false, .bool false, .bool false, .bool false, .bool false, .bool false, .bool false, .bool false, .bool false, .bool false, .bool false, .bool false, .bool false, .bool false, .bool false, .bool false, .bool false, .bool false, .bool false, .bool false, .bool false, .bool false, .bool false, .bool false, .bool false, .bool false, .bool false, .bool false, .bool false, .bool false, .bool false, .bool false, .bool false, .bool false, .bool false, .bool false, .bool false, .bool false, .bool false, .bool false, .bool false, .bool false, .bool false, .bool false, .bool false, .bool false, .bool false, .bool false, .bool false, .bool false, .bool false, .bool false, .bool false, .bool false, .bool false, .bool false, .bool false, .bool false, .bool false, .bool false, .bool false, .bool false, .bool false, .bool false, .bool false, .bool false, .bool false, .bool false, .bool false, .bool false, .bool false, .bool false, .bool false, .bool false, .bool false, .bool false, .bool false, .bool false, .bool false, .bool false, .bool false, .bool false, .bool false, .bool false, .bool false, .bool false, .bool false, .bool false, .bool false, .bool false, .bool false, .bool false, .bool false, .bool false, .bool false, .bool false, .bool false, .bool false, .bool false, .bool false, .bool false, .bool false, .bool false, .bool false, .bool false, .bool false, .bool false, .bool false, .bool false, .bool false, .bool false, .bool false, .bool false, .bool false, .bool false, .bool false, .bool false, .bool false, .bool false, .bool false, .bool false, .bool false, .bool false, .bool false, .bool false, .bool false, .bool false, .bool false, .bool false, .bool false, .bool false, .bool false, .bool false, .bool false, .bool false, .bool false, .bool false, .bool false, .bool false, .bool false, .bool false, .bool false, .bool false, .bool false, .bool false, .bool false, .bool false, .bool false, .bool false, .bool false, .bool false]), zok := some 256, by' := some 256, un := true } (.node .leaf 58 { ti := some (true, 256), ai := some (256, (false, 1)), zv := some (.agg [.bool false, .bool false, .bool false, .bool false, .bool false, .bool false, .bool false, .bool false, .bool false, .bool false, .bool false, .bool false, .bool false, .bool false, .bool false, .bool false, .bool false, .bool false, .bool false, .bool false, .bool false, .bool false, .bool false, .bool false, .bool false, .bool false, .bool false, .bool false, .bool false, .bool false, .bool false, .bool false, .bool false, .bool false, .bool false, .bool false, .bool false, .bool false, .bool false, .bool false, .bool false, .bool false, .bool false, .bool false, .bool false, .bool false, .bool false, .bool false, .bool false, .bool false, .bool false, .bool false, .bool false, .bool false, .bool false, .bool false, .bool false, .bool false, .bool false, .bool false, .bool false, .bool false, .bool false, .bool false, .bool false, .bool false, .bool false, .bool false, .bool false, .bool false, .bool false, .bool false, .bool false, .bool false, .bool false, .bool false, .bool false, .bool false, .bool false, .bool false, .bool false, .bool false, .bool false, .bool false, .bool false, .bool false, .bool false, .bool false, .bool false, .bool false, .bool false, .bool false, .bool false, .bool false, .bool false, .bool false, .bool false, .bool false, .bool false, .bool false, .bool false, .bool false, .bool false, .bool false, .bool false, .bool false, .bool false, .bool false, .bool false, .bool false, .bool false, .bool false, .bool false, .bool false, .bool false, .bool false, .bool false, .bool false, .bool false, .bool false, .bool false, .bool false, .bool false, .bool false, .bool false, .bool false, .bool false, .bool false, .bool false, .bool false, .bool false, .bool false, .bool false, .bool false, .bool false, .bool false, .bool false, .bool false, .bool false, .bool false, .bool false, .bool false, .bool false, .bool false, .bool false, .bool false, .bool false, .bool false, .bool false, .bool false, .bool false, .bool false, .bool false, .bool false, .bool false, .bool false, .bool false, .bool false, .bool false, .bool false, .bool false, .bool false, .bool false, .bool false, .bool false, .bool false, .bool false, .bool false, .bool false, .bool false, .bool false, .bool false, .bool false, .bool false, .bool false, .bool false, .bool false, .bool false, .bool false, .bool false, .bool false, .bool false, .bool false, .bool false, .bool false, .bool false, .bool false, .bool false, .bool false, .bool false, .bool false, .bool false, .bool false, .bool false, .bool false, .bool false, .bool false, .bool false, .bool false, .bool false, .bool false, .bool false, .bool false, .bool false, .bool false, .bool false, .bool false, .bool false, .bool false, .bool false, .bool false, .bool false, .bool false, .bool false, .bool false, .bool false, .bool false, .bool false, .bool false, .bool false, .bool false, .bool false, .bool false, .bool false, .bool false, .bool false, .bool false, .bool false, .bool false, .bool false, .bool false, .bool false, .bool false, .bool false, .bool false, .bool false, .bool false, .bool false, .bool false, .bool false, .bool false, .bool false, .bool false, .bool false, .bool false, .bool false, .bool false, .bool false, .bool false, .bool false, .bool false, .bool false, .bool false, .bool false, .bool false, .bool false]), zok := some 256, by' := some 256, un := true } .leaf))) 60 { ti := some (false, 1), zv := some (.any), zok := some 1, by' := some 8, un := true } (.node (.node (.node .leaf 61 { ti := some (false, 1), zv := some (.any), zok := some 1, by' := some 8, un := true } .leaf) 62 { ti := some (false, 1), zv := some (.nilp), zok := some 1, by' := some 8, ptr := true, un := true } (.node .leaf 63 { ti := some (true, 0), zv := some (.agg []), by' := some 0, un := true } .leaf)) 64 { ti := some (true, 0), zv := some (.agg []), by' := some 0, un := true } (.node (.node .leaf 65 { ti := some (true, 0), zv := some (.agg []), by' := some 0, un := true } .leaf) 66 { ti := some (false, 1), zv := some (.int .u32 0), zok := some 1, by' := some 4, ik := some .u32, un := true } (.node .leaf 67 { ti := some (true, 1), fi := [none, some (0, (false, 1))], si := some [(0, 0), (0, 1)], zv := some (.agg [.int .u32 0]), zok := some 1, by' := some 4, un := true } .leaf)))) 68 { ti := some (true, 1), fi := [none, some (0, (false, 1))], si := some [(0, 0), (0, 1)], zv := some (.agg [.int .u32 0]), zok := some 1, by' := some 4, un := true } (.node (.node (.node (.node (.node .leaf 69 { ti := some (true, 2), fi := [some (0, (false, 1)), some (1, (false, 1))], si := some [(0, 1), (1, 1)], zv := some (.agg [.int .i32 0, .int .u32 0]), zok := some 2, by' := some 8, un := true } .leaf) 70 { ti := some (true, 2), fi := [some (0, (false, 1)), some (1, (false, 1))], si := some [(0, 1), (1, 1)], zv := some (.agg [.int .i32 0, .int .u32 0]), zok := some 2, by' := some 8, un := true } .leaf) 71 { ti := some (true, 2), fi := [none, some (0, (true, 2))], si := some [(0, 0), (0, 2)], zv := some (.agg [.int .i32 0, .int .u32 0]), zok := some 2, by' := some 8, un := true } (.node .leaf 72 { ti := some (true, 2), fi := [none, some (0, (true, 2))], si := some [(0, 0), (0, 2)], zv := some (.agg [.int .i32 0, .int .u32 0]), zok := some 2, by' := some 8, un := true } .leaf)) 73 { ti := some (true, 3), fi := [none, some (0, (true, 1)), some (1, (true, 2))], si := some [(0, 0), (0, 1), (1, 2)], zv := some (.agg [.int .u32 0, .int .i32 0, .int .u32 0]), zok := some 3, by' := some 12, un := true } (.node (.node .leaf 74 { ti := some (true, 3), fi := [none, some (0, (true, 1)), some (1, (true, 2))], si := some [(0, 0), (0, 1), (1, 2)], zv := some (.agg [.int .u32 0, .int .i32 0, .int .u32 0]), zok := some 3, by' := some 12, un := true } .leaf) 77 { ti := some (true, 5), fi := [some (0, (true, 3)), some (3, (false, 1)), some (4, (false, 1))], si := some [(0, 3), (3, 1), (4, 1)], zv := some (.agg [.int .u32 0, .int .i32 0, .int .u32 0, .nili, .nils]), zok := some 5, by' := some 56, un := true } (.node .leaf 78 { ti := some (true, 5), fi := [some (0, (true, 3)), some (3, (false, 1)), some (4, (false, 1))], si := some [(0, 3), (3, 1), (4, 1)], zv := some (.agg [.int .u32 0, .int .i32 0, .int .u32 0, .nili, .nils]), zok := some 5, by' := some 56, un := true } .leaf))) 79 { ti := some (false, 1), zv := some (.any), zok := some 1, by' := some 8, un := true } (.node (.node (.node .leaf 81 { ti := some (false, 1), zv := some (.any), zok := some 1, by' := some 8, un := true } .leaf) 82 { ti := some (false, 1), zv := some (.any), zok := some 1, by' := some 8, un := true } (.node .leaf 83 { ti := some (false, 1), zv := some (.nilp), zok := some 1, by' := some 8, ptr := true, un := true } .leaf)) 84 { ti := some (false, 1), zv := some (.any), zok := some 1, by' := some 8, un := true } (.node (.node .leaf 85 { ti := some (false, 1), zv := some (.any), zok := some 1, by' := some 8, un := true } .leaf) 86 { ti := some (false, 1), zv := some (.any), zok := some 1, by' := some 8, un := true } (.node .leaf 87 { ti := some (false, 1), zv := some (.nilp), zok := some 1, by' := some 8, ptr := true, un := true } .leaf)))))) 88 { ti := some (false, 1), zv := some (.any), zok := some 1, by' := some 8, un := true } (.node (.node (.node (.node (.node (.node (.node .leaf 89 { ti := some (false, 1), zv := some (.nilp), zok := some 1, by' := some 8, ptr := true, un := true } .leaf) 90 { ti := some (false, 1), zv := some (.any), zok := some 1, by' := some 8, un := true } .leaf) 91 { ti := some (false, 1), zv := some (.nilp), zok := some 1, by' := some 8, ptr := true, un := true } (.node .leaf 92 { ti := some (false, 1), zv := some (.any), zok := some 1, by' := some 8, un := true } .leaf)) 93 { ti := some (false, 1), zv := some (.nilp), zok := some 1, by' := some 8, ptr := true, un := true } (.node (.node .leaf 94 { ti := some (false, 1), zv := some (.any), zok := some 1, by' := some 8, un := true } .leaf) 95 { ti := some (true, 256), ai := some (256, (false, 1)), zv := some (.agg [.int .u8 0, .int .u8 0, .int .u8 0, .int .u8 0, .int .u8 0, .int .u8 0, .int .u8 0, .int .u8 0, .int .u8 0, .int .u8 0, .int .u8 0, .int .u8 0, .int .u8 0, .int .u8 0, .int .u8 0, .int .u8 0, .int .u8 0, .int .u8 0, .int .u8 0, .int .u8 0, .int .u8 0, .int .u8 0, .int .u8 0, .int .u8 0, .int .u8 0, .int .u8 0, .int .u8 0, .int .u8 0, .int .u8 0, .int .u8 0, .int .u8 0, .int .u8 0, .int .u8 0, .int .u8 0, .int .u8 0, .int .u8 0, .int .u8 0, .int .u8 0, .int .u8 0, .int .u8 0, .int .u8 0, .int .u8 0, .int .u8 0, .int .u8 0, .int .u8 0, .int .u8 0, .int .u8 0, .int .u8 0, .int .u8 0, .int .u8 0, .int .u8 0, .int .u8 0, .int .u8 0, .int .u8 0, .int .u8 0, .int .u8 0, .int .u8 0, .int .u8 0, .int .u8 0, .int .u8 0, .int .u8 0, .int .u8 0, .int .u8 0, .int .u8 0, .int .u8 0, .int .u8 0, .int .u8 0, .int .u8 0, .int .u8 0, .int .u8 0, .int .u8 0, .int .u8 0, .int .u8 0, .int .u8 0, .int .u8 0, .int .u8 0, .int .u8 0, .int .u8 0, .int .u8 0, .int .u8 0, .int .u8 0, .int .u8 0, .int .u8 0, .int .u8 0, .int .u8 0, .int .u8 0, .int .u8 0, .int .u8 0, .int .u8 0, .int .u8 0, .int .u8 0, .int .u8 0, .int .u8 0, .int .u8 0, .int .u8 0, .int .u8 0, .int .u8 0, .int .u8 0, .int .u8 0, .int .u8 0, .int .u8 0, .int .u8 0, .int .u8 0, .int .u8 0, .int .u8 0, .int .u8 0, .int .u8 0, .int .u8 0, .int .u8 0, .int .u8 0, .int .u8 0, .int .u8 0, .int .u8 0, .int .u8 0, .int .u8 0, .int .u8 0, .int .u8 0, .int .u8 0, .int .u8 0, .int .u8 0, .int .u8 0, .int .u8 0, .int .u8 0, .int .u8 0, .int .u8 0, .int .u8 0, .int .u8 0, .int .u8 0, .int .u8 0, .int .u8 0, .int .u8 0, .int .u8 0, .int .u8 0, .int .u8 0, .int .u8 0, .int .u8 0, .int .u8 0, .int .u8 0, .int .u8 0, .int .u8 0, .int .u8 0, .int .u8 0, .int .u8 0, .int .u8 0, .int .u8 0, .int .u8 0, .int .u8 0, .int .u8 0, .int .u8 0, .int .u8 0, .int .u8 0, .int .u8 0, .int .u8 0, .int .u8 0, .int .u8 0, .int .u8 0, .int .u8 0, .int .u8 0, .int .u8 0, .int .u8 0, .int .u8 0, .int .u8 0, .int .u8 0, .int .u8 0, .int .u8 0, .int .u8 0, .int .u8 0, .int .u8 0, .int .u8 0, .int .u8 0, .int .u8 0, .int .u8 0, .int .u8 0, .int .u8 0, .int .u8 0, .int .u8 0, .int .u8 0, .int .u8 0, .int .u8 0, .int .u8 0, .int .u8 0, .int .u8 0, .int .u8 0, .int .u8 0, .int .u8 0, .int .u8 0, .int .u8 0, .int .u8 0, .int .u8 0, .int .u8 0, .int .u8 0, .int .u8 0, .int .u8 0, .int .u8 0, .int .u8 0, .int .u8 0, .int .u8 0, .int .u8 0, .int .u8 0, .int .u8 0, .int .u8 0, .int .u8 0, .int .u8 0, .int .u8 0, .int .u8 0, .int .u8 0, .int .u8 0, .int .u8 0, .int .u8 0, .int .u8 0, .int .u8 0, .int .u8 0, .int .u8 0, .int .u8 0, .int .u8 0, .int .u8 0, .int .u8 0, .int .u8 0, .int .u8 0, .int .u8 0, .int .u8 0, .int .u8 0, .int .u8 0, .int .u8 0, .int .u8 0, .int .u8 0, .int .u8 0, .int .u8 0, .int .u8 0, .int .u8 0, .int .u8 0, .int .u8 0, .int .u8 0, .int .u8 0, .int .u8 0, .int .u8 0, .int .u8 0, .int .u8 0, .int .u8 0, .int .u8 0, .int .u8 0, .int .u8 0, .int .u8 0, .int .u8 0, .int .u8 0, .int .u8 0, .int .u8 0, .int .u8 0, .int .u8 0, .int .u8 0, .int .u8 0, .int .u8 0, .int .u8 0, .int .u8 0, .int .u8 0, .int .u8 0]), zok := some 256, by' := some 256, un := true } (.node .leaf 96 { ti := some (true, 256), ai := some (256, (false, 1)), zv := some (.agg [.int .u8 0, .int .u8 0, .int .u8 0, .int .u8 0, .int .u8 0, .int .u8 0, .int .u8 0, .int .u8 0, .int .u8 0, .int .u8 0, .int .u8 0, .int .u8 0, .int .u8 0, .int .u8 0, .int .u8 0, .int .u8 0, .int .u8 0, .int .u8 0, .int .u8 0, .int .u8 0, .int .u8 0, .int .u8 0, .int .u8 0, .int .u8 0, .int .u8 0, .int .u8 0, .int .u8 0, .int .u8 0, .int .u8 0, .int .u8 0, .int .u8 0, .int .u8 0, .int .u8 0, .int .u8 0, .int .u8 0, .int .u8 0, .int .u8 0, .int .u8 0, .int .u8 0, .int .u8 0, .int .u8 0, .int .u8 0, .int .u8 0, .int .u8 0, .int .u8 0, .int .u8 0, .int .u8 0, .int .u8 0, .int .u8 0, .int .u8 0, .int .u8 0, .int .u8 0, .int .u8 0, .int .u8 0, .int .u8 0, .int .u8 0, .int .u8 0, .int .u8 0, .int .u8 0, .int .u8 0, .int .u8 0, .int .u8 0, .int .u8 0, .int .u8 0, .int .u8 0, .int .u8 0, .int .u8 0, .int .u8 0, .int .u8 0, .int .u8 0, .int .u8 0, .int .u8 0, .int .u8 0, .int .u8 0, .int .u8 0, .int .u8 0, .int .u8 0, .int .u8 0, .int .u8 0, .int .u8 0, .int .u8 0, .int .u8 0, .int .u8 0, .int .u8 0, .int .u8 0, .int .u8 0, .int .u8 0, .int .u8 0, .int .u8 0, .int .u8 0, .int .u8 0, .int .u8 0, .int .u8 0, .int .u8 0, .int .u8 0, .int .u8 0, .int .u8 0, .int .u8 0, .int .u8 0, .int .u8 0, .int .u8 0, .int .u8 0, .int .u8 0, .int .u8 0, .int .u8 0, .int .u8 0, .int .u8 0, .int .u8 0, .int .u8 0, .int .u8 0, .int .u8 0, .int .u8 0, .int .u8 0, .int .u8 0, .int .u8 0, .int .u8 0, .int .u8 0, .int .u8 0, .int .u8 0, .int .u8 0, .int .u8 0, .int .u8 0, .int .u8 0, .int .u8 0, .int .u8 0, .int .u8 0, .int .u8 0, .int .u8 0, .int .u8 0, .int .u8 0, .int .u8 0, .int .u8 0, .int .u8 0, .int .u8 0, .int .u8 0, .int .u8 0, .int .u8 0, .int .u8 0, .int .u8 0, .int .u8 0, .int .u8 0, .int .u8 0, .int .u8 0, .int .u8 0, .int .u8 0, .int .u8 0, .int .u8 0, .int .u8 0, .int .u8 0, .int .u8 0, .int .u8 0, .int .u8 0, .int .u8 0, .int .u8 0, .int .u8 0, .int .u8 0, .int .u8 0, .int .u8 0, .int .u8 0, .int .u8 0, .int .u8 0, .int .u8 0, .int .u8 0, .int .u8 0, .int .u8 0, .int .u8 0, .int .u8 0, .int .u8 0, .int .u8 0, .int .u8 0, .int .u8 0, .int .u8 0, .int .u8 0, .int .u8 0, .int .u8 0, .int .u8 0, .int .u8 0, .int .u8 0, .int .u8 0, .int .u8 0, .int .u8 0, .int .u8 0, .int .u8 0, .int .u8 0, .int .u8 0, .int .u8 0, .int .u8 0, .int .u8 0, .int .u8 0, .int .u8 0, .int .u8 0, .int .u8 0, .int .u8 0, .int .u8 0, .int .u8 0, .int .u8 0, .int .u8 0, .int .u8 0, .int .u8 0, .int .u8 0, .int .u8 0, .int .u8 0, .int .u8 0, .int .u8 0, .int .u8 0, .int .u8 0, .int .u8 0, .int .u8 0, .int .u8 0, .int .u8 0, .int .u8 0, .int .u8 0, .int .u8 0, .int .u8 0, .int .u8 0, .int .u8 0, .int .u8 0, .int .u8 0, .int .u8 0, .int .u8 0, .int .u8 0, .int .u8 0, .int .u8 0, .int .u8 0, .int .u8 0, .int .u8 0, .int .u8 0, .int .u8 0, .int .u8 0, .int .u8 0, .int .u8 0, .int .u8 0, .int .u8 0, .int .u8 0, .int .u8 0, .int .u8 0, .int .u8 0, .int .u8 0, .int .u8 0, .int .u8 0, .int .u8 0, .int .u8 0, .int .u8 0, .int .u8 0, .int .u8 0, .int .u8 0, .int .u8 0, .int .u8 0, .int .u8 0, .int .u8 0, .int .u8 0, .int .u8 0, .int .u8 0, .int .u8 0, .int .u8 0, .int .u8 0]), zok := some 256, by' := some 256, un := true } .leaf))) 97 { ti := some (false, 1), zv := some (.nilp), zok := some 1, by' := some 8, ptr := true, un := true } (.node (.node (.node (.node .leaf 98 { ti := some (true, 256), ai := some (256, (false, 1)), zv := some (.agg [.nils, .nils, .nils, .nils, .nils, .nils, .nils, .nils, .nils, .nils, .nils, .nils, .nils, .nils, .nils, .nils, .nils, .nils, .nils, .nils, .nils, .nils, .nils, .nils, .nils, .nils, .nils, .nils, .nils, .nils, .nils, .nils, .nils, .nils, .nils, .nils, .nils, .nils, .nils, .nils, .nils, .nils, .nils, .nils, .nils, .nils, .nils, .nils, .nils, .nils, .nils, .nils, .nils, .nils, .nils, .nils, .nils, .nils, .nils, .nils, .nils, .nils, .nils, .nils, .nils, .nils, .nils, .nils, .nils, .nils, .nils, .nils, .nils, .nils, .nils, .nils, .nils, .nils, .nils, .nils, .nils, .nils, .nils, .nils, .nils, .nils, .nils, .nils, .nils, .nils, .nils, .nils, .nils, .nils, .nils, .nils, .nils, .nils, .nils, .nils, .nils, .nils, .nils, .nils, .nils, .nils, .nils, .nils, .nils, .nils, .nils, .nils, .nils, .nils, .nils, .nils, .nils, .nils, .nils, .nils, .nils, .nils, .nils, .nils, .nils, .nils, .nils, .nils, .nils, .nils, .nils, .nils, .nils, .nils, .nils, .nils, .nils, .nils, .nils, .nils, .nils, .nils, .nils, .nils, .nils, .nils, .nils, .nils, .nils, .nils, .nils, .nils, .nils, .nils, .nils, .nils, .nils, .nils, .nils, .nils, .nils, .nils, .nils, .nils, .nils, .nils, .nils, .nils, .nils, .nils, .nils, .nils, .nils, .nils, .nils, .nils, .nils, .nils, .nils, .nils, .nils, .nils, .nils, .nils, .nils, .nils, .nils, .nils, .nils, .nils, .nils, .nils, .nils, .nils, .nils, .nils, .nils, .nils, .nils, .nils, .nils, .nils, .nils, .nils, .nils, .nils, .nils, .nils, .nils, .nils, .nils, .nils, .nils, .nils, .nils, .nils, .nils, .nils, .nils, .nils, .nils, .nils, .nils, .nils, .nils, .nils, .nils, .nils, .nils, .nils, .nils, .nils, .nils, .nils, .nils, .nils, .nils, .nils, .nils, .nils, .nils, .nils, .nils, .nils, .nils, .nils, .nils, .nils, .nils, .nils, .nils, .nils, .nils, .nils, .nils, .nils]), zok := some 256, by' := some 6144, un := true } .leaf) 99 { ti := some (true, 257), fi := [some (0, (true, 256)), some (256, (false, 1))], si := some [(0, 256), (256, 1)], zv := some (.agg [.nils, .nils, .nils, .nils, .nils, .nils, .nils, .nils, .nils, .nils, .nils, .nils, .nils, .nils, .nils, .nils, .nils, .nils, .nils, .nils, .nils, .nils, .nils, .nils, .nils, .nils, .nils, .nils, .nils, .nils, .nils, .nils, .nils, .nils, .nils, .nils, .nils, .nils, .nils, .nils, .nils, .nils, .nils, .nils, .nils, .nils, .nils, .nils, .nils, .nils, .nils, .nils, .nils, .nils, .nils, .nils, .nils, .nils, .nils, .nils, .nils, .nils, .nils, .nils, .nils, .nils, .nils, .nils, .nils, .nils, .nils, .nils, .nils, .nils, .nils, .nils, .nils, .nils, .nils, .nils, .nils, .nils, .nils, .nils, .nils, .nils, .nils, .nils, .nils, .nils, .nils, .nils, .nils, .nils, .nils, .nils, .nils, .nils, .nils, .nils, .nils, .nils, .nils, .nils, .nils, .nils, .nils, .nils, .nils, .nils, .nils, .nils, .nils, .nils, .nils, .nils, .nils, .nils, .nils, .nils, .nils, .nils, .nils, .nils, .nils, .nils, .nils, .nils, .nils, .nils, .nils, .nils, .nils, .nils, .nils, .nils, .nils, .nils, .nils, .nils, .nils, .nils, .nils, .nils, .nils, .nils, .nils, .nils, .nils, .nils, .nils, .nils, .nils, .nils, .nils, .nils, .nils, .nils, .nils, .nils, .nils, .nils, .nils, .nils, .nils, .nils, .nils, .nils, .nils, .nils, .nils, .nils, .nils, .nils, .nils, .nils, .nils, .nils, .nils, .nils, .nils, .nils, .nils, .nils, .nils, .nils, .nils, .nils, .nils, .nils, .nils, .nils, .nils, .nils, .nils, .nils, .nils, .nils, .nils, .nils, .nils, .nils, .nils, .nils, .nils, .nils, .nils, .nils, .nils, .nils, .nils, .nils, .nils, .nils, .nils, .nils, .nils, .nils, .nils, .nils, .nils, .nils, .nils, .nils, .nils, .nils, .nils, .nils, .nils, .nils, .nils, .nils, .nils, .nils, .nils, .nils, .nils, .nils, .nils, .nils, .nils, .nils, .nils, .nils, .nils, .nils, .nils, .nils, .nils, .nils, .nils, .nils, .nils, .nils, .nils, .nils, .nils]), zok := some 257, by' := some 6168, un := true } .leaf) 100 { ti := some (true, 257), fi := [some (0, (true, 256)), some (256, (false, 1))], si := some [(0, 256), (256, 1)], zv := some (.agg [.nils, .nils, .nils, .nils, .nils, .nils, .nils, .nils, .nils, .nils, .nils, .nils, .nils, .nils, .nils, .nils, .nils, .nils, .nils, .nils, .nils, .nils, .nils, .nils, .nils, .nils, .nils, .nils, .nils, .nils, .nils, .nils, .nils, .nils, .nils, .nils, .nils, .nils, .nils, .nils, .nils, .nils, .nils, .nils, .nils, .nils, .nils, .nils, .nils, .nils, .nils, .nils, .nils, .nils, .nils, .nils, .nils, .nils, .nils, .nils, .nils, .nils, .nils, .nils, .nils, .nils, .nils, .nils, .nils, .nils, .nils, .nils, .nils, .nils, .nils, .nils, .nils, .nils, .nils, .nils, .nils, .nils, .nils, .nils, .nils, .nils, .nils, .nils, .nils, .nils, .nils, .nils, .nils, .nils, .nils, .nils, .nils, .nils, .nils, .nils, .nils, .nils, .nils, .nils, .nils, .nils, .nils, .nils, .nils, .nils, .nils, .nils, .nils, .nils, .nils, .nils, .nils, .nils, .nils, .nils, .nils, .nils, .nils, .nils, .nils, .nils, .nils, .nils, .nils, .nils, .nils, .nils, .nils, .nils, .nils, .nils, .nils, .nils, .nils, .nils, .nils, .nils, .nils, .nils, .nils, .nils, .nils, .nils, .nils, .nils, .nils, .nils, .nils, .nils, .nils, .nils, .nils, .nils, .nils, .nils, .nils, .nils, .nils, .nils, .nils, .nils, .nils, .nils, .nils, .nils, .nils, .nils, .nils, .nils, .nils, .nils, .nils, .nils, .nils, .nils, .nils, .nils, .nils, .nils, .nils, .nils, .nils, .nils, .nils, .nils, .nils, .nils, .nils, .nils, .nils, .nils, .nils, .nils, .nils, .nils, .nils, .nils, .nils, .nils, .nils, .nils, .nils, .nils, .nils, .nils, .nils, .nils, .nils, .nils, .nils, .nils, .nils, .nils, .nils, .nils, .nils, .nils, .nils, .nils, .nils, .nils, .nils, .nils, .nils, .nils, .nils, .nils, .nils, .nils, .nils, .nils, .nils, .nils, .nils, .nils, .nils, .nils, .nils, .nils, .nils, .nils, .nils, .nils, .nils, .nils, .nils, .nils, .nils, .nils, .nils, .nils, .nils]), zok := some 257, by' := some 6168, un := true } (.node .leaf 101 { ti := some (false, 1), zv := some (.nilp), zok := some 1, by' := some 8, ptr := true, un := true } .leaf)) 102 { ti := some (false, 1), zv := some (.int .u64 0), zok := some 1, by' := some 8, ik := some .u64, un := true } (.node (.node .leaf 103 { ti := some (true, 2), fi := [some (0, (false, 1)), some (1, (false, 1))], si := some [(0, 1), (1, 1)], zv := some (.agg [.int .u8 0, .int .u8 0]), zok := some 2, by' := some 2, un := true } .leaf) 104 { ti := some (true, 2), fi := [some (0, (false, 1)), some (1, (false, 1))], si := some [(0, 1), (1, 1)], zv := some (.agg [.int .u8 0, .int .u8 0]), zok := some 2, by' := some 2, un := true } (.node .leaf 105 { ti := some (true, 32), ai := some (16, (true, 2)), zv := some (.agg [.int .u8 0, .int .u8 0, .int .u8 0, .int .u8 0, .int .u8 0, .int .u8 0, .int .u8 0, .int .u8 0, .int .u8 0, .int .u8 0, .int .u8 0, .int .u8 0, .int .u8 0, .int .u8 0, .int .u8 0, .int .u8 0, .int .u8 0, .int .u8 0, .int .u8 0, .int .u8 0, .int .u8 0, .int .u8 0, .int .u8 0, .int .u8 0, .int .u8 0, .int .u8 0, .int .u8 0, .int .u8 0, .int .u8 0, .int .u8 0, .int .u8 0, .int .u8 0]), zok := some 32, by' := some 32, un := true } .leaf)))) 106 { ti := some (false, 1), zv := some (.any), zok := some 1, by' := some 8, un := true } (.node (.node (.node (.node (.node .leaf 107 { ti := some (false, 1), zv := some (.any), zok := some 1, by' := some 8, un := true } .leaf) 108 { ti := some (false, 1), zv := some (.any), zok := some 1, by' := some 8, un := true } .leaf) 109 { ti := some (false, 1), zv := some (.any), zok := some 1, by' := some 8, un := true } (.node .leaf 110 { ti := some (false, 1), zv := some (.nilp), zok := some 1, by' := some 8, ptr := true, un := true } .leaf)) 111 { ti := some (false, 1), zv := some (.any), zok := some 1, by' := some 8, un := true } (.node (.node .leaf 112 { ti := some (false, 1), zv := some (.any), zok := some 1, by' := some 8, un := true } .leaf) 113 { ti := some (false, 1), zv := some (.nilp), zok := some 1, by' := some 8, ptr := true, un := true } (.node .leaf 114 { ti := some (false, 1), zv := some (.any), zok := some 1, by' := some 8, un := true } .leaf))) 115 { ti := some (true, 2), fi := [some (0, (false, 1)), some (1, (false, 1))], si := some [(0, 1), (1, 1)], zv := some (.agg [.nilp, .str []]), zok := some 2, by' := some 24, un := true } (.node (.node (.node .leaf 116 { ti := some (true, 2), fi := [some (0, (false, 1)), some (1, (false, 1))], si := some [(0, 1), (1, 1)], zv := some (.agg [.nilp, .str []]), zok := some 2, by' := some 24, un := true } .leaf) 117 { ti := some (false, 1), zv := some (.nilp), zok := some 1, by' := some 8, ptr := true, un := true } (.node .leaf 118 { ti := some (false, 1), ei := some (117, 1), zv := some (.nils), zok := some 1, by' := some 24, sli := true, ni := true, un := true } .leaf)) 119 { ti := some (true, 5), fi := [some (0, (false, 1)), some (1, (false, 1)), some (2, (false, 1)), some (3, (false, 1)), some (4, (false, 1))], si := some [(0, 1), (1, 1), (2, 1), (3, 1), (4, 1)], zv := some (.agg [.str [], .int .i64 0, .str [], .nilp, .nils]), zok := some 5, by' := some 72, un := true } (.node (.node .leaf 120 { ti := some (true, 5), fi := [some (0, (false, 1)), some (1, (false, 1)), some (2, (false, 1)), some (3, (false, 1)), some (4, (false, 1))], si := some [(0, 1), (1, 1), (2, 1), (3, 1), (4, 1)], zv := some (.agg [.str [], .int .i64 0, .str [], .nilp, .nils]), zok := some 5, by' := some 72, un := true } .leaf) 121 { ti := some (true, 262), fi := [some (0, (true, 5)), some (5, (false, 1)), some (6, (true, 256))], si := some [(0, 5), (5, 1), (6, 256)], zv := some (.agg [.str [], .int .i64 0, .str [], .nilp, .nils, .int .i64 0, .int .u8 0, .int .u8 0, .int .u8 0, .int .u8 0, .int .u8 0, .int .u8 0, .int .u8 0, .int .u8 0, .int .u8 0, .int .u8 0, .int .u8 0, .int .u8 0, .int .u8 0, .int .u8 0, .int .u8 0, .int .u8 0, .int .u8 0, .int .u8 0, .int .u8 0, .int .u8 0, .int .u8 0, .int .u8 0, .int .u8 0, .int .u8 0, .int .u8 0, .int .u8 0, .int .u8 0, .int .u8 0, .int .u8 0, .int .u8 0, .int .u8 0, .int .u8 0, .int .u8 0, .int .u8 0, .int .u8 0, .int .u8 0, .int .u8 0, .int .u8 0, .int .u8 0, .int .u8 0, .int .u8 0, .int .u8 0, .int .u8 0, .int .u8 0, .int .u8 0, .int .u8 0, .int .u8 0, .int .u8 0, .int .u8 0, .int .u8 0, .int .u8 0, .int .u8 0, .int .u8 0, .int .u8 0, .int .u8 0, .int .u8 0, .int .u8 0, .int .u8 0, .int .u8 0, .int .u8 0, .int .u8 0, .int .u8 0, .int .u8 0, .int .u8 0, .int .u8 0, .int .u8 0, .int .u8 0, .int .u8 0, .int .u8 0, .int .u8 0, .int .u8 0, .int .u8 0, .int .u8 0, .int .u8 0, .int .u8 0, .int .u8 0, .int .u8 0, .int .u8 0, .int .u8 0, .int .u8 0, .int .u8 0, .int .u8 0, .int .u8 0, .int .u8 0, .int .u8 0, .int .u8 0, .int .u8 0, .int .u8 0, .int .u8 0, .int .u8 0, .int .u8 0, .int .u8 0, .int .u8 0, .int .u8 0, .int .u8 0, .int .u8 0, .int .u8 0, .int .u8 0, .int .u8 0, .int .u8 0, .int .u8 0, .int .u8 0, .int .u8 0, .int .u8 0, .int .u8 0, .int .u8 0, .int .u8 0, .int .u8 0, .int .u8 0, .int .u8 0, .int .u8 0, .int .u8 0, .int .u8 0, .int .u8 0, .int .u8 0, .int .u8 0, .int .u8 0, .int .u8 0, .int .u8 0, .int .u8 0, .int .u8 0, .int .u8 0, .int .u8 0, .int .u8 0, .int .u8 0, .int .u8 0, .int .u8 0, .int .u8 0, .int .u8 0, .int .u8 0, .int .u8 0, .int .u8 0, .int .u8 0, .int .u8 0, .int .u8 0, .int .u8 0, .int .u8 0, .int .u8 0, .int .u8 0, .int .u8 0, .int .u8 0, .int .u8 0, .int .u8 0, .int .u8 0, .int .u8 0, .int .u8 0, .int .u8 0, .int .u8 0, .int .u8 0, .int .u8 0, .int .u8 0, .int .u8 0, .int .u8 0, .int .u8 0, .int .u8 0, .int .u8 0, .int .u8 0, .int .u8 0, .int .u8 0, .int .u8 0, .int .u8 0, .int .u8 0, .int .u8 0, .int .u8 0, .int .u8 0, .int .u8 0, .int .u8 0, .int .u8 0, .int .u8 0, .int .u8 0, .int .u8 0, .int .u8 0, .int .u8 0, .int .u8 0, .int .u8 0, .int .u8 0, .int .u8 0, .int .u8 0, .int .u8 0, .int .u8 0, .int .u8 0, .int .u8 0, .int .u8 0, .int .u8 0, .int .u8 0, .int .u8 0, .int .u8 0, .int .u8 0, .int .u8 0, .int .u8 0, .int .u8 0, .int .u8 0, .int .u8 0, .int .u8 0, .int .u8 0, .int .u8 0, .int .u8 0, .int .u8 0, .int .u8 0, .int .u8 0, .int .u8 0, .int .u8 0, .int .u8 0, .int .u8 0, .int .u8 0, .int .u8 0, .int .u8 0, .int .u8 0, .int .u8 0, .int .u8 0, .int .u8 0, .int .u8 0, .int .u8 0, .int .u8 0, .int .u8 0, .int .u8 0, .int .u8 0, .int .u8 0, .int .u8 0, .int .u8 0, .int .u8 0, .int .u8 0, .int .u8 0, .int .u8 0, .int .u8 0, .int .u8 0, .int .u8 0, .int .u8 0, .int .u8 0, .int .u8 0, .int .u8 0, .int .u8 0, .int .u8 0, .int .u8 0, .int .u8 0, .int .u8 0, .int .u8 0, .int .u8 0, .int .u8 0, .int .u8 0, .int .u8 0, .int .u8 0, .int .u8 0, .int .u8 0, .int .u8 0, .int .u8 0, .int .u8 0, .int .u8 0, .int .u8 0, .int .u8 0, .int .u8 0, .int .u8 0, .int .u8 0, .int .u8 0, .int .u8 0, .int .u8 0]), zok := some 262, by' := some 336, un := true } (.node .leaf 122 { ti := some (true, 262), fi := [some (0, (true, 5)), some (5, (false, 1)), some (6, (true, 256))], si := some [(0, 5), (5, 1), (6, 256)], zv := some (.agg [.str [], .int .i64 0, .str [], .nilp, .nils, .int .i64 0, .int .u8 0, .int .u8 0, .int .u8 0, .int .u8 0, .int .u8 0, .int .u8 0, .int .u8 0, .int .u8 0, .int .u8 0, .int .u8 0, .int .u8 0, .int .u8 0, .int .u8 0, .int .u8 0, .int .u8 0, .int .u8 0, .int .u8 0, .int .u8 0, .int .u8 0, .int .u8 0, .int .u8 0, .int .u8 0, .int .u8 0, .int .u8 0, .int .u8 0, .int .u8 0, .int .u8 0, .int .u8 0, .int .u8 0, .int .u8 0, .int .u8 0, .int .u8 0, .int .u8 0, .int .u8 0, .int .u8 0, .int .u8 0, .int .u8 0, .int .u8 0, .int .u8 0, .int .u8 0, .int .u8 0, .int .u8 0, .int .u8 0, .int .u8 0, .int .u8 0, .int .u8 0, .int .u8 0, .int .u8 0, .int .u8 0, .int .u8 0, .int .u8 0, .int .u8 0, .int .u8 0, .int .u8 0, .int .u8 0, .int .u8 0, .int .u8 0, .int .u8 0, .int .u8 0, .int .u8 0, .int .u8 0, .int .u8 0, .int .u8 0, .int .u8 0, .int .u8 0, .int .u8 0, .int .u8 0, .int .u8 0, .int .u8 0, .int .u8 0, .int .u8 0, .int .u8 0, .int .u8 0, .int .u8 0, .int .u8 0, .int .u8 0, .int .u8 0, .int .u8 0, .int .u8 0, .int .u8 0, .int .u8 0, .int .u8 0, .int .u8 0, .int .u8 0, .int .u8 0, .int .u8 0, .int .u8 0, .int .u8 0, .int .u8 0, .int .u8 0, .int .u8 0, .int .u8 0, .int .u8 0, .int .u8 0, .int .u8 0, .int .u8 0, .int .u8 0, .int .u8 0, .int .u8 0, .int .u8 0, .int .u8 0, .int .u8 0, .int .u8 0, .int .u8 0, .int .u8 0, .int .u8 0, .int .u8 0, .int .u8 0, .int .u8 0, .int .u8 0, .int .u8 0, .int .u8 0, .int .u8 0, .int .u8 0, .int .u8 0, .int .u8 0, .int .u8 0, .int .u8 0, .int .u8 0, .int .u8 0, .int .u8 0, .int .u8 0, .int .u8 0, .int .u8 0, .int .u8 0, .int .u8 0, .int .u8 0, .int .u8 0, .int .u8 0, .int .u8 0, .int .u8 0, .int .u8 0, .int .u8 0, .int .u8 0, .int .u8 0, .int .u8 0, .int .u8 0, .int .u8 0, .int .u8 0, .int .u8 0, .int .u8 0, .int .u8 0, .int .u8 0, .int .u8 0, .int .u8 0, .int .u8 0, .int .u8 0, .int .u8 0, .int .u8 0, .int .u8 0, .int .u8 0, .int .u8 0, .int .u8 0, .int .u8 0, .int .u8 0, .int .u8 0, .int .u8 0, .int .u8 0, .int .u8 0, .int .u8 0, .int .u8 0, .int .u8 0, .int .u8 0, .int .u8 0, .int .u8 0, .int .u8 0, .int .u8 0, .int .u8 0, .int .u8 0, .int .u8 0, .int .u8 0, .int .u8 0, .int .u8 0, .int .u8 0, .int .u8 0, .int .u8 0, .int .u8 0, .int .u8 0, .int .u8 0, .int .u8 0, .int .u8 0, .int .u8 0, .int .u8 0, .int .u8 0, .int .u8 0, .int .u8 0, .int .u8 0, .int .u8 0, .int .u8 0, .int .u8 0, .int .u8 0, .int .u8 0, .int .u8 0, .int .u8 0, .int .u8 0, .int .u8 0, .int .u8 0, .int .u8 0, .int .u8 0, .int .u8 0, .int .u8 0, .int .u8 0, .int .u8 0, .int .u8 0, .int .u8 0, .int .u8 0, .int .u8 0, .int .u8 0, .int .u8 0, .int .u8 0, .int .u8 0, .int .u8 0, .int .u8 0, .int .u8 0, .int .u8 0, .int .u8 0, .int .u8 0, .int .u8 0, .int .u8 0, .int .u8 0, .int .u8 0, .int .u8 0, .int .u8 0, .int .u8 0, .int .u8 0, .int .u8 0, .int .u8 0, .int .u8 0, .int .u8 0, .int .u8 0, .int .u8 0, .int .u8 0, .int .u8 0, .int .u8 0, .int .u8 0, .int .u8 0, .int .u8 0, .int .u8 0, .int .u8 0, .int .u8 0, .int .u8 0, .int .u8 0, .int .u8 0, .int .u8 0, .int .u8 0, .int .u8 0, .int .u8 0, .int .u8 0, .int .u8 0, .int .u8 0, .int .u8 0, .int .u8 0, .int .u8 0, .int .u8 0, .int .u8 0, .int .u8 0]), zok := some 262, by' := some 336, un := true } .leaf))))) 123 { ti := some (false, 1), zv := some (.any), zok := some 1, by' := some 8, un := true } (.node (.node (.node (.node (.node (.node .leaf 124 { ti := some (false, 1), zv := some (.nilp), zok := some 1, by' := some 8, ptr := true, un := true } .leaf) 125 { ti := some (false, 1), zv := some (.any), zok := some 1, by' := some 8, un := true } .leaf) 126 { ti := some (false, 1), zv := some (.nilp), zok := some 1, by' := some 8, ptr := true, un := true } (.node .leaf 129 { ti := some (false, 1), zv := some (.any), zok := some 1, by' := some 8, un := true } .leaf)) 130 { ti := some (false, 1), zv := some (.any), zok := some 1, by' := some 8, un := true } (.node (.node .leaf 131 { ti := some (false, 1), ei := some (3, 1), zv := some (.nils), zok := some 1, by' := some 24, sli := true, ni := true, un := true } .leaf) 132 { ti := some (true, 256), ai := some (256, (false, 1)), zv := some (.agg [.int .i64 0, .int .i64 0, .int .i64 0, .int .i64 0, .int .i64 0, .int .i64 0, .int .i64 0, .int .i64 0, .int .i64 0, .int .i64 0, .int .i64 0, .int .i64 0, .int .i64 0, .int .i64 0, .int .i64 0, .int .i64 0, .int .i64 0, .int .i64 0, .int .i64 0, .int .i64 0, .int .i64 0, .int .i64 0, .int .i64 0, .int .i64 0, .int .i64 0, .int .i64 0, .int .i64 0, .int .i64 0, .int .i64 0, .int .i64 0, .int .i64 0, .int .i64 0, .int .i64 0, .int .i64 0, .int .i64 0, .int .i64 0, .int .i64 0, .int .i64 0, .int .i64 0, .int .i64 0, .int .i64 0, .int .i64 0, .int .i64 0, .int .i64 0, .int .i64 0, .int .i64 0, .int .i64 0, .int .i64 0, .int .i64 0, .int .i64 0, .int .i64 0, .int .i64 0, .int .i64 0, .int .i64 0, .int .i64 0, .int .i64 0, .int .i64 0, .int .i64 0, .int .i64 0, .int .i64 0, .int .i64 0, .int .i64 0, .int .i64 0, .int .i64 0, .int .i64 0, .int .i64 0, .int .i64 0, .int .i64 0, .int .i64 0, .int .i64 0, .int .i64 0, .int .i64 0, .int .i64 0, .int .i64 0, .int .i64 0, .int .i64 0, .int .i64 0, .int .i64 0, .int .i64 0, .int .i64 0, .int .i64 0, .int .i64 0, .int .i64 0, .int .i64 0, .int .i64 0, .int .i64 0, .int .i64 0, .int .i64 0, .int .i64 0, .int .i64 0, .int .i64 0, .int .i64 0, .int .i64 0, .int .i64 0, .int .i64 0, .int .i64 0, .int .i64 0, .int .i64 0, .int .i64 0, .int .i64 0, .int .i64 0, .int .i64 0, .int .i64 0, .int .i64 0, .int .i64 0, .int .i64 0, .int .i64 0, .int .i64 0, .int .i64 0, .int .i64 0, .int .i64 0, .int .i64 0, .int .i64 0, .int .i64 0, .int .i64 0, .int .i64 0, .int .i64 0, .int .i64 0, .int .i64 0, .int .i64 0, .int .i64 0, .int .i64 0, .int .i64 0, .int .i64 0, .int .i64 0, .int .i64 0, .int .i64 0, .int .i64 0, .int .i64 0, .int .i64 0, .int .i64 0, .int .i64 0, .int .i64 0, .int .i64 0, .int .i64 0, .int .i64 0, .int .i64 0, .int .i64 0, .int .i64 0, .int .i64 0, .int .i64 0, .int .i64 0, .int .i64 0, .int .i64 0, .int .i64 0, .int .i64 0, .int .i64 0, .int .i64 0, .int .i64 0, .int .i64 0, .int .i64 0, .int .i64 0, .int .i64 0, .int .i64 0, .int .i64 0, .int .i64 0, .int .i64 0, .int .i64 0, .int .i64 0, .int .i64 0, .int .i64 0, .int .i64 0, .int .i64 0, .int .i64 0, .int .i64 0, .int .i64 0, .int .i64 0, .int .i64 0, .int .i64 0, .int .i64 0, .int .i64 0, .int .i64 0, .int .i64 0, .int .i64 0, .int .i64 0, .int .i64 0, .int .i64 0, .int .i64 0, .int .i64 0, .int .i64 0, .int .i64 0, .int .i64 0, .int .i64 0, .int .i64 0, .int .i64 0, .int .i64 0, .int .i64 0, .int .i64 0, .int .i64 0, .int .i64 0, .int .i64 0, .int .i64 0, .int .i64 0, .int .i64 0, .int .i64 0, .int .i64 0, .int .i64 0, .int .i64 0, .int .i64 0, .int .i64 0, .int .i64 0, .int .i64 0, .int .i64 0, .int .i64 0, .int .i64 0, .int .i64 0, .int .i64 0, .int .i64 0, .int .i64 0, .int .i64 0, .int .i64 0, .int .i64 0, .int .i64 0, .int .i64 0, .int .i64 0, .int .i64 0, .int .i64 0, .int .i64 0, .int .i64 0, .int .i64 0, .int .i64 0, .int .i64 0, .int .i64 0, .int .i64 0, .int .i64 0, .int .i64 0, .int .i64 0, .int .i64 0, .int .i64 0, .int .i64 0, .int .i64 0, .int .i64 0, .int .i64 0, .int .i64 0, .int .i64 0, .int .i64 0, .int .i64 0, .int .i64 0, .int .i64 0, .int .i64 0, .int .i64 0, .int .i64 0, .int .i64 0, .int .i64 0, .int .i64 0, .int .i64 0, .int .i64 0, .int .i64 0, .int .i64 0, .int .i64 0, .int .i64 0, .int .i64 0, .int .i64 0, .int .i64 0, .int .i64 0, .int .i64 0]), zok := some 256, by' := some 2048, un := true } (.node .leaf 133 { ti := some (true, 258), fi := [some (0, (false, 1)), some (1, (true, 256)), some (257, (false, 1))], si := some [(0, 1), (1, 256), (257, 1)], zv := some (.agg [.str [], .int .i64 0, .int .i64 0, .int .i64 0, .int .i64 0, .int .i64 0, .int .i64 0, .int .i64 0, .int .i64 0, .int .i64 0, .int .i64 0, .int .i64 0, .int .i64 0, .int .i64 0, .int .i64 0, .int .i64 0, .int .i64 0, .int .i64 0, .int .i64 0, .int .i64 0, .int .i64 0, .int .i64 0, .int .i64 0, .int .i64 0, .int .i64 0, .int .i64 0, .int .i64 0, .int .i64 0, .int .i64 0, .int .i64 0, .int .i64 0, .int .i64 0, .int .i64 0, .int .i64 0, .int .i64 0, .int .i64 0, .int .i64 0, .int .i64 0, .int .i64 0, .int .i64 0, .int .i64 0, .int .i64 0, .int .i64 0, .int .i64 0, .int .i64 0, .int .i64 0, .int .i64 0, .int .i64 0, .int .i64 0, .int .i64 0, .int .i64 0, .int .i64 0, .int .i64 0, .int .i64 0, .int .i64 0, .int .i64 0, .int .i64 0, .int .i64 0, .int .i64 0, .int .i64 0, .int .i64 0, .int .i64 0, .int .i64 0, .int .i64 0, .int .i64 0, .int .i64 0, .int .i64 0, .int .i64 0, .int .i64 0, .int .i64 0, .int .i64 0, .int .i64 0, .int .i64 0, .int .i64 0, .int .i64 0, .int .i64 0, .int .i64 0, .int .i64 0, .int .i64 0, .int .i64 0, .int .i64 0, .int .i64 0, .int .i64 0, .int .i64 0, .int .i64 0, .int .i64 0, .int .i64 0, .int .i64 0, .int .i64 0, .int .i64 0, .int .i64 0, .int .i64 0, .int .i64 0, .int .i64 0, .int .i64 0, .int .i64 0, .int .i64 0, .int .i64 0, .int .i64 0, .int .i64 0, .int .i64 0, .int .i64 0, .int .i64 0, .int .i64 0, .int .i64 0, .int .i64 0, .int .i64 0, .int .i64 0, .int .i64 0, .int .i64 0, .int .i64 0, .int .i64 0, .int .i64 0, .int .i64 0, .int .i64 0, .int .i64 0, .int .i64 0, .int .i64 0, .int .i64 0, .int .i64 0, .int .i64 0, .int .i64 0, .int .i64 0, .int .i64 0, .int .i64 0, .int .i64 0, .int .i64 0, .int .i64 0, .int .i64 0, .int .i64 0, .int .i64 0, .int .i64 0, .int .i64 0, .int .i64 0, .int .i64 0, .int .i64 0, .int .i64 0, .int .i64 0, .int .i64 0, .int .i64 0, .int .i64 0, .int .i64 0, .int .i64 0, .int .i64 0, .int .i64 0, .int .i64 0, .int .i64 0, .int .i64 0, .int .i64 0, .int .i64 0, .int .i64 0, .int .i64 0, .int .i64 0, .int .i64 0, .int .i64 0, .int .i64 0, .int .i64 0, .int .i64 0, .int .i64 0, .int .i64 0, .int .i64 0, .int .i64 0, .int .i64 0, .int .i64 0, .int .i64 0, .int .i64 0, .int .i64 0, .int .i64 0, .int .i64 0, .int .i64 0, .int .i64 0, .int .i64 0, .int .i64 0, .int .i64 0, .int .i64 0, .int .i64 0, .int .i64 0, .int .i64 0, .int .i64 0, .int .i64 0, .int .i64 0, .int .i64 0, .int .i64 0, .int .i64 0, .int .i64 0, .int .i64 0, .int .i64 0, .int .i64 0, .int .i64 0, .int .i64 0, .int .i64 0, .int .i64 0, .int .i64 0, .int .i64 0, .int .i64 0, .int .i64 0, .int .i64 0, .int .i64 0, .int .i64 0, .int .i64 0, .int .i64 0, .int .i64 0, .int .i64 0, .int .i64 0, .int .i64 0, .int .i64 0, .int .i64 0, .int .i64 0, .int .i64 0, .int .i64 0, .int .i64 0, .int .i64 0, .int .i64 0, .int .i64 0, .int .i64 0, .int .i64 0, .int .i64 0, .int .i64 0, .int .i64 0, .int .i64 0, .int .i64 0, .int .i64 0, .int .i64 0, .int .i64 0, .int .i64 0, .int .i64 0, .int .i64 0, .int .i64 0, .int .i64 0, .int .i64 0, .int .i64 0, .int .i64 0, .int .i64 0, .int .i64 0, .int .i64 0, .int .i64 0, .int .i64 0, .int .i64 0, .int .i64 0, .int .i64 0, .int .i64 0, .int .i64 0, .int .i64 0, .int .i64 0, .int .i64 0, .int .i64 0, .int .i64 0, .int .i64 0, .int .i64 0, .int .i64 0, .int .i64 0, .int .i64 0, .int .i64 0, .int .i64 0, .int .i64 0, .int .i64 0, .int .i64 0, .nils]), zok := some 258, by' := some 2088, un := true } .leaf))) 134 { ti := some (true, 258), fi := [some (0, (false, 1)), some (1, (true, 256)), some (257, (false, 1))], si := some [(0, 1), (1, 256), (257, 1)], zv := some (.agg [.str [], .int .i64 0, .int .i64 0, .int .i64 0, .int .i64 0, .int .i64 0, .int .i64 0, .int .i64 0, .int .i64 0, .int .i64 0, .int .i64 0, .int .i64 0, .int .i64 0, .int .i64 0, .int .i64 0, .int .i64 0, .int .i64 0, .int .i64 0, .int .i64 0, .int .i64 0, .int .i64 0, .int .i64 0, .int .i64 0, .int .i64 0, .int .i64 0, .int .i64 0, .int .i64 0, .int .i64 0, .int .i64 0, .int .i64 0, .int .i64 0, .int .i64 0, .int .i64 0, .int .i64 0, .int .i64 0, .int .i64 0, .int .i64 0, .int .i64 0, .int .i64 0, .int .i64 0, .int .i64 0, .int .i64 0, .int .i64 0, .int .i64 0, .int .i64 0, .int .i64 0, .int .i64 0, .int .i64 0, .int .i64 0, .int .i64 0, .int .i64 0, .int .i64 0, .int .i64 0, .int .i64 0, .int .i64 0, .int .i64 0, .int .i64 0, .int .i64 0, .int .i64 0, .int .i64 0, .int .i64 0, .int .i64 0, .int .i64 0, .int .i64 0, .int .i64 0, .int .i64 0, .int .i64 0, .int .i64 0, .int .i64 0, .int .i64 0, .int .i64 0, .int .i64 0, .int .i64 0, .int .i64 0, .int .i64 0, .int .i64 0, .int .i64 0, .int .i64 0, .int .i64 0, .int .i64 0, .int .i64 0, .int .i64 0, .int .i64 0, .int .i64 0, .int .i64 0, .int .i64 0, .int .i64 0, .int .i64 0, .int .i64 0, .int .i64 0, .int .i64 0, .int .i64 0, .int .i64 0, .int .i64 0, .int .i64 0, .int .i64 0, .int .i64 0, .int .i64 0, .int .i64 0, .int .i64 0, .int .i64 0, .int .i64 0, .int .i64 0, .int .i64 0, .int .i64 0, .int .i64 0, .int .i64 0, .int .i64 0, .int .i64 0, .int .i64 0, .int .i64 0, .int .i64 0, .int .i64 0, .int .i64 0, .int .i64 0, .int .i64 0, .int .i64 0, .int .i64 0, .int .i64 0, .int .i64 0, .int .i64 0, .int .i64 0, .int .i64 0, .int .i64 0, .int .i64 0, .int .i64 0, .int .i64 0, .int .i64 0, .int .i64 0, .int .i64 0, .int .i64 0, .int .i64 0, .int .i64 0, .int .i64 0, .int .i64 0, .int .i64 0, .int .i64 0, .int .i64 0, .int .i64 0, .int .i64 0, .int .i64 0, .int .i64 0, .int .i64 0, .int .i64 0, .int .i64 0, .int .i64 0, .int .i64 0, .int .i64 0, .int .i64 0, .int .i64 0, .int .i64 0, .int .i64 0, .int .i64 0, .int .i64 0, .int .i64 0, .int .i64 0, .int .i64 0, .int .i64 0, .int .i64 0, .int .i64 0, .int .i64 0, .int .i64 0, .int .i64 0, .int .i64 0, .int .i64 0, .int .i64 0, .int .i64 0, .int .i64 0, .int .i64 0, .int .i64 0, .int .i64 0, .int .i64 0, .int .i64 0, .int .i64 0, .int .i64 0, .int .i64 0, .int .i64 0, .int .i64 0, .int .i64 0, .int .i64 0, .int .i64 0, .int .i64 0, .int .i64 0, .int .i64 0, .int .i64 0, .int .i64 0, .int .i64 0, .int .i64 0, .int .i64 0, .int .i64 0, .int .i64 0, .int .i64 0, .int .i64 0, .int .i64 0, .int .i64 0, .int .i64 0, .int .i64 0, .int .i64 0, .int .i64 0, .int .i64 0, .int .i64 0, .int .i64 0, .int .i64 0, .int .i64 0, .int .i64 0, .int .i64 0, .int .i64 0, .int .i64 0, .int .i64 0, .int .i64 0, .int .i64 0, .int .i64 0, .int .i64 0, .int .i64 0, .int .i64 0, .int .i64 0, .int .i64 0, .int .i64 0, .int .i64 0, .int .i64 0, .int .i64 0, .int .i64 0, .int .i64 0, .int .i64 0, .int .i64 0, .int .i64 0, .int .i64 0, .int .i64 0, .int .i64 0, .int .i64 0, .int .i64 0, .int .i64 0, .int .i64 0, .int .i64 0, .int .i64 0, .int .i64 0, .int .i64 0, .int .i64 0, .int .i64 0, .int .i64 0, .int .i64 0, .int .i64 0, .int .i64 0, .int .i64 0, .int .i64 0, .int .i64 0, .int .i64 0, .int .i64 0, .int .i64 0, .int .i64 0, .int .i64 0, .int .i64 0, .int .i64 0, .int .i64 0, .int .i64 0, .int .i64 0, .int .i64 0, .nils]), zok := some 258, by' := some 2088, un := true } (.node (.node (.node .leaf 135 { ti := some (false, 1), zv := some (.any), zok := some 1, by' := some 8, un := true } .leaf) 136 { ti := some (false, 1), zv := some (.any), zok := some 1, by' := some 8, un := true } (.node .leaf 137 { ti := some (false, 1), zv := some (.any), zok := some 1, by' := some 8, un := true } .leaf)) 138 { ti := some (false, 1), zv := some (.any), zok := some 1, by' := some 8, un := true } (.node (.node .leaf 139 { ti := some (false, 1), zv := some (.any), zok := some 1, by' := some 8, un := true } .leaf) 140 { ti := some (false, 1), zv := some (.any), zok := some 1, by' := some 8, un := true } (.node .leaf 146 { ti := some (false, 1), zv := some (.any), zok := some 1, by' := some 8, un := true } .leaf)))) 150 { ti := some (false, 1), zv := some (.nilp), zok := some 1, by' := some 8, ptr := true, un := true } (.node (.node (.node (.node (.node .leaf 155 { ti := some (false, 1), zv := some (.any), zok := some 1, by' := some 8, un := true } .leaf) 156 { ti := some (false, 1), zv := some (.nilp), zok := some 1, by' := some 8, ptr := true, un := true } .leaf) 157 { ti := some (true, 2), fi := [some (0, (false, 1)), some (1, (false, 1))], si := some [(0, 1), (1, 1)], zv := some (.agg [.nilp, .nils]), zok := some 2, by' := some 32, un := true } (.node .leaf 158 { ti := some (true, 2), fi := [some (0, (false, 1)), some (1, (false, 1))], si := some [(0, 1), (1, 1)], zv := some (.agg [.nilp, .nils]), zok := some 2, by' := some 32, un := true } .leaf)) 159 { ti := some (false, 1), zv := some (.any), zok := some 1, by' := some 8, un := true } (.node (.node .leaf 160 { ti := some (false, 1), zv := some (.any), zok := some 1, by' := some 8, un := true } .leaf) 164 { ti := some (false, 1), zv := some (.any), zok := some 1, by' := some 8, un := true } (.node .leaf 166 { ti := some (false, 1), zv := some (.any), zok := some 1, by' := some 8, un := true } .leaf))) 167 { ti := some (false, 1), ei := some (5, 1), zv := some (.nils), zok := some 1, by' := some 24, sli := true, ni := true, un := true } (.node (.node (.node .leaf 168 { ti := some (false, 1), zv := some (.nilp), zok := some 1, by' := some 8, ptr := true, un := true } .leaf) 173 { ti := some (false, 1), zv := some (.any), zok := some 1, by' := some 8, un := true } (.node .leaf 175 { ti := some (false, 1), zv := some (.any), zok := some 1, by' := some 8, un := true } .leaf)) 177 { ti := some (true, 1), fi := [some (0, (false, 1))], si := some [(0, 1)], zv := some (.agg [.nili]), zok := some 1, by' := some 16, un := true } (.node (.node .leaf 178 { ti := some (true, 1), fi := [some (0, (false, 1))], si := some [(0, 1)], zv := some (.agg [.nili]), zok := some 1, by' := some 16, un := true } .leaf) 179 { ti := some (false, 1), zv := some (.any), zok := some 1, by' := some 8, un := true } (.node .leaf 181 { ti := some (false, 1), zv := some (.any), zok := some 1, by' := some 8, un := true } .leaf)))))))
theorem tt_all : TT.All Tryz.prog Tryz.tt := ⟨⟨⟨⟨⟨⟨⟨⟨trivial, tok_1, trivial⟩, tok_2, trivial⟩, tok_3, ⟨trivial, tok_4, trivial⟩⟩, tok_5, ⟨⟨trivial, tok_9, trivial⟩, tok_12, ⟨trivial, tok_13, trivial⟩⟩⟩, tok_21, ⟨⟨⟨⟨trivial, tok_22, trivial⟩, tok_23, trivial⟩, tok_24, ⟨trivial, tok_26, trivial⟩⟩, tok_27, ⟨⟨trivial, tok_28, trivial⟩, tok_29, ⟨trivial, tok_30, trivial⟩⟩⟩⟩, tok_32, ⟨⟨⟨⟨⟨trivial, tok_33, trivial⟩, tok_34, trivial⟩, tok_35, ⟨trivial, tok_36, trivial⟩⟩, tok_38, ⟨⟨trivial, tok_39, trivial⟩, tok_40, ⟨trivial, tok_41, trivial⟩⟩⟩, tok_42, ⟨⟨⟨trivial, tok_43, trivial⟩, tok_44, ⟨trivial, tok_45, trivial⟩⟩, tok_46, ⟨⟨trivial, tok_47, trivial⟩, tok_48, ⟨trivial, tok_49, trivial⟩⟩⟩⟩⟩, tok_50, ⟨⟨⟨⟨⟨⟨trivial, tok_51, trivial⟩, tok_52, trivial⟩, tok_53, ⟨trivial, tok_54, trivial⟩⟩, tok_55, ⟨⟨trivial, tok_56, trivial⟩, tok_57, ⟨trivial, tok_58, trivial⟩⟩⟩, tok_60, ⟨⟨⟨trivial, tok_61, trivial⟩, tok_62, ⟨trivial, tok_63, trivial⟩⟩, tok_64, ⟨⟨trivial, tok_65, trivial⟩, tok_66, ⟨trivial, tok_67, trivial⟩⟩⟩⟩, tok_68, ⟨⟨⟨⟨⟨trivial, tok_69, trivial⟩, tok_70, trivial⟩, tok_71, ⟨trivial, tok_72, trivial⟩⟩, tok_73, ⟨⟨trivial, tok_74, trivial⟩, tok_77, ⟨trivial, tok_78, trivial⟩⟩⟩, tok_79, ⟨⟨⟨trivial, tok_81, trivial⟩, tok_82, ⟨trivial, tok_83, trivial⟩⟩, tok_84, ⟨⟨trivial, tok_85, trivial⟩, tok_86, ⟨trivial, tok_87, trivial⟩⟩⟩⟩⟩⟩, tok_88, ⟨⟨⟨⟨⟨⟨⟨trivial, tok_89, trivial⟩, tok_90, trivial⟩, tok_91, ⟨trivial, tok_92, trivial⟩⟩, tok_93, ⟨⟨trivial, tok_94, trivial⟩, tok_95, ⟨trivial, tok_96, trivial⟩⟩⟩, tok_97, ⟨⟨⟨⟨trivial, tok_98, trivial⟩, tok_99, trivial⟩, tok_100, ⟨trivial, tok_101, trivial⟩⟩, tok_102, ⟨⟨trivial, tok_103, trivial⟩, tok_104, ⟨trivial, tok_105, trivial⟩⟩⟩⟩, tok_106, ⟨⟨⟨⟨⟨trivial, tok_107, trivial⟩, tok_108, trivial⟩, tok_109, ⟨trivial, tok_110, trivial⟩⟩, tok_111, ⟨⟨trivial, tok_112, trivial⟩, tok_113, ⟨trivial, tok_114, trivial⟩⟩⟩, tok_115, ⟨⟨⟨trivial, tok_116, trivial⟩, tok_117, ⟨trivial, tok_118, trivial⟩⟩, tok_119, ⟨⟨trivial, tok_120, trivial⟩, tok_121, ⟨trivial, tok_122, trivial⟩⟩⟩⟩⟩, tok_123, ⟨⟨⟨⟨⟨⟨trivial, tok_124, trivial⟩, tok_125, trivial⟩, tok_126, ⟨trivial, tok_129, trivial⟩⟩, tok_130, ⟨⟨trivial, tok_131, trivial⟩, tok_132, ⟨trivial, tok_133, trivial⟩⟩⟩, tok_134, ⟨⟨⟨trivial, tok_135, trivial⟩, tok_136, ⟨trivial, tok_137, trivial⟩⟩, tok_138, ⟨⟨trivial, tok_139, trivial⟩, tok_140, ⟨trivial, tok_146, trivial⟩⟩⟩⟩, tok_150, ⟨⟨⟨⟨⟨trivial, tok_155, trivial⟩, tok_156, trivial⟩, tok_157, ⟨trivial, tok_158, trivial⟩⟩, tok_159, ⟨⟨trivial, tok_160, trivial⟩, tok_164, ⟨trivial, tok_166, trivial⟩⟩⟩, tok_167, ⟨⟨⟨trivial, tok_168, trivial⟩, tok_173, ⟨trivial, tok_175, trivial⟩⟩, tok_177, ⟨⟨trivial, tok_178, trivial⟩, tok_179, ⟨trivial, tok_181, trivial⟩⟩⟩⟩⟩⟩⟩
theorem hasBody_3 : hasBody Tryz.prog 3 = true := by kernel_rfl
theorem hasBody_4 : hasBody Tryz.prog 4 = true := by kernel_rfl
theorem hasBody_5 : hasBody Tryz.prog 5 = true := by kernel_rfl
theorem hasBody_6 : hasBody Tryz.prog 6 = true := by kernel_rfl
theorem hasBody_7 : hasBody Tryz.prog 7 = true := by kernel_rfl
theorem hasBody_8 : hasBody Tryz.prog 8 = true := by kernel_rfl
theorem hasBody_9 : hasBody Tryz.prog 9 = true := by kernel_rfl
theorem hasBody_10 : hasBody Tryz.prog 10 = true := by kernel_rfl
theorem hasBody_11 : hasBody Tryz.prog 11 = true := by kernel_rfl
theorem hasBody_12 : hasBody Tryz.prog 12 = true := by kernel_rfl
theorem hasBody_13 : hasBody Tryz.prog 13 = true := by kernel_rfl
theorem hasBody_14 : hasBody Tryz.prog 14 = true := by kernel_rfl
theorem hasBody_15 : hasBody Tryz.prog 15 = true := by kernel_rfl
theorem hasBody_16 : hasBody Tryz.prog 16 = true := by kernel_rfl
theorem hasBody_17 : hasBody Tryz.prog 17 = true := by kernel_rfl
theorem hasBody_18 : hasBody Tryz.prog 18 = true := by kernel_rfl
theorem hasBody_19 : hasBody Tryz.prog 19 = true := by kernel_rfl
theorem hasBody_20 : hasBody Tryz.prog 20 = true := by kernel_rfl
theorem hasBody_21 : hasBody Tryz.prog 21 = true := by kernel_rfl
theorem hasBody_22 : hasBody Tryz.prog 22 = true := by kernel_rfl
theorem hasBody_23 : hasBody Tryz.prog 23 = true := by kernel_rfl
theorem hasBody_24 : hasBody Tryz.prog 24 = true := by kernel_rfl
theorem hasBody_25 : hasBody Tryz.prog 25 = true := by kernel_rfl
theorem hasBody_26 : hasBody Tryz.prog 26 = true := by kernel_rfl
theorem hasBody_27 : hasBody Tryz.prog 27 = true := by kernel_rfl
theorem hasBody_28 : hasBody Tryz.prog 28 = true := by kernel_rfl
theorem hasBody_29 : hasBody Tryz.prog 29 = true := by kernel_rfl
theorem hasBody_30 : hasBody Tryz.prog 30 = true := by kernel_rfl
theorem hasBody_31 : hasBody Tryz.prog 31 = true := by kernel_rfl
theorem hasBody_32 : hasBody Tryz.prog 32 = true := by kernel_rfl
theorem hasBody_33 : hasBody Tryz.prog 33 = true := by kernel_rfl
theorem hasBody_34 : hasBody Tryz.prog 34 = true := by kernel_rfl
theorem hasBody_35 : hasBody Tryz.prog 35 = true := by kernel_rfl
theorem hasBody_36 : hasBody Tryz.prog 36 = true := by kernel_rfl
theorem hasBody_37 : hasBody Tryz.prog 37 = true := by kernel_rfl
theorem hasBody_38 : hasBody Tryz.prog 38 = true := by kernel_rfl
theorem hasBody_39 : hasBody Tryz.prog 39 = true := by kernel_rfl
theorem hasBody_40 : hasBody Tryz.prog 40 = true := by kernel_rfl
theorem hasBody_41 : hasBody Tryz.prog 41 = true := by kernel_rfl
theorem hasBody_42 : hasBody Tryz.prog 42 = true := by kernel_rfl
theorem hasBody_43 : hasBody Tryz.prog 43 = true := by kernel_rfl
theorem hasBody_44 : hasBody Tryz.prog 44 = true := by kernel_rfl
theorem hasBody_45 : hasBody Tryz.prog 45 = true := by kernel_rfl
theorem hasBody_46 : hasBody Tryz.prog 46 = true := by kernel_rfl
theorem hasBody_47 : hasBody Tryz.prog 47 = true := by kernel_rfl
theorem hasBody_48 : hasBody Tryz.prog 48 = true := by kernel_rfl
theorem hasBody_49 : hasBody Tryz.prog 49 = true := by kernel_rfl
theorem hasBody_50 : hasBody Tryz.prog 50 = true := by kernel_rfl
theorem hasBody_52 : hasBody Tryz.prog 52 = true := by kernel_rfl
theorem hasBody_53 : hasBody Tryz.prog 53 = true := by kernel_rfl
theorem hasBody_54 : hasBody Tryz.prog 54 = true := by kernel_rfl
theorem hasBody_55 : hasBody Tryz.prog 55 = true := by kernel_rfl
theorem hasBody_56 : hasBody Tryz.prog 56 = true := by kernel_rfl
theorem hasBody_57 : hasBody Tryz.prog 57 = true := by kernel_rfl
theorem hasBody_58 : hasBody Tryz.prog 58 = true := by kernel_rfl
theorem hasBody_64 : hasBody Tryz.prog 64 = true := by kernel_rfl
theorem hasBody_65 : hasBody Tryz.prog 65 = true := by kernel_rfl
theorem hasBody_66 : hasBody Tryz.prog 66 = true := by kernel_rfl
theorem hasBody_76 : hasBody Tryz.prog 76 = true := by kernel_rfl
theorem hasBody_77 : hasBody Tryz.prog 77 = true := by kernel_rfl
theorem follows_all : Tryz.prog.follows .mixedOrders = true := by kernel_rfl
end Go.Proofs.YtkkcmobnhiiacaaGreatDoor
