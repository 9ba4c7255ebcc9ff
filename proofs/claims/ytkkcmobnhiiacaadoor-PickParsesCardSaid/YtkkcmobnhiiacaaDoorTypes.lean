/- Facts of this seat's types and functions, each by the kernel's reckoning; written by program. No conditions. -/
import Derived.Test.YtkkcmobnhiiacaaDoorAwx
import Derived.Test.YtkkcmobnhiiacaaDoorRows
set_option linter.unusedSimpArgs false
set_option linter.unusedVariables false
namespace Go.Proofs.YtkkcmobnhiiacaaDoor

theorem cells_1 : Tryd.prog.cellsOf 1 = 1 := by kernel_rfl
theorem ti_1 : TI Tryd.prog 1 = some (false, 1) := by kernel_rfl
theorem zv_1 : ZV Tryd.prog 1 = some (.any) := by kernel_rfl
theorem zok_1 : ZOk Tryd.prog 1 1 = true := by kernel_rfl
theorem by_1 : byOf Tryd.prog 1 = 8 := by kernel_rfl
theorem cells_2 : Tryd.prog.cellsOf 2 = 1 := by kernel_rfl
theorem ti_2 : TI Tryd.prog 2 = some (false, 1) := by kernel_rfl
theorem intK_2 : intK Tryd.prog 2 = some .i64 := by kernel_rfl
theorem un_2 : Tryd.prog.underlying 2 = some (.int .i64) := by kernel_rfl
theorem zv_2 : ZV Tryd.prog 2 = some (.int .i64 0) := by kernel_rfl
theorem zok_2 : ZOk Tryd.prog 2 1 = true := by kernel_rfl
theorem by_2 : byOf Tryd.prog 2 = 8 := by kernel_rfl
theorem cells_3 : Tryd.prog.cellsOf 3 = 1 := by kernel_rfl
theorem ti_3 : TI Tryd.prog 3 = some (false, 1) := by kernel_rfl
theorem intK_3 : intK Tryd.prog 3 = some .i64 := by kernel_rfl
theorem un_3 : Tryd.prog.underlying 3 = some (.int .i64) := by kernel_rfl
theorem zv_3 : ZV Tryd.prog 3 = some (.int .i64 0) := by kernel_rfl
theorem zok_3 : ZOk Tryd.prog 3 1 = true := by kernel_rfl
theorem by_3 : byOf Tryd.prog 3 = 8 := by kernel_rfl
theorem cells_4 : Tryd.prog.cellsOf 4 = 1 := by kernel_rfl
theorem ti_4 : TI Tryd.prog 4 = some (false, 1) := by kernel_rfl
theorem isBoo_4 : isBoo Tryd.prog 4 = true := by kernel_rfl
theorem zv_4 : ZV Tryd.prog 4 = some (.bool false) := by kernel_rfl
theorem zok_4 : ZOk Tryd.prog 4 1 = true := by kernel_rfl
theorem by_4 : byOf Tryd.prog 4 = 1 := by kernel_rfl
theorem cells_5 : Tryd.prog.cellsOf 5 = 1 := by kernel_rfl
theorem ti_5 : TI Tryd.prog 5 = some (false, 1) := by kernel_rfl
theorem intK_5 : intK Tryd.prog 5 = some .u8 := by kernel_rfl
theorem un_5 : Tryd.prog.underlying 5 = some (.int .u8) := by kernel_rfl
theorem zv_5 : ZV Tryd.prog 5 = some (.int .u8 0) := by kernel_rfl
theorem zok_5 : ZOk Tryd.prog 5 1 = true := by kernel_rfl
theorem by_5 : byOf Tryd.prog 5 = 1 := by kernel_rfl
theorem cells_9 : Tryd.prog.cellsOf 9 = 1 := by kernel_rfl
theorem ti_9 : TI Tryd.prog 9 = some (false, 1) := by kernel_rfl
theorem isStr_9 : isStr Tryd.prog 9 = true := by kernel_rfl
theorem notInt_9 : notInt Tryd.prog 9 = true := by kernel_rfl
theorem zv_9 : ZV Tryd.prog 9 = some (.str []) := by kernel_rfl
theorem zok_9 : ZOk Tryd.prog 9 1 = true := by kernel_rfl
theorem by_9 : byOf Tryd.prog 9 = 16 := by kernel_rfl
theorem cells_12 : Tryd.prog.cellsOf 12 = 1 := by kernel_rfl
theorem ti_12 : TI Tryd.prog 12 = some (false, 1) := by kernel_rfl
theorem intK_12 : intK Tryd.prog 12 = some .u64 := by kernel_rfl
theorem un_12 : Tryd.prog.underlying 12 = some (.int .u64) := by kernel_rfl
theorem zv_12 : ZV Tryd.prog 12 = some (.int .u64 0) := by kernel_rfl
theorem zok_12 : ZOk Tryd.prog 12 1 = true := by kernel_rfl
theorem by_12 : byOf Tryd.prog 12 = 8 := by kernel_rfl
theorem cells_13 : Tryd.prog.cellsOf 13 = 2 := by kernel_rfl
theorem ti_13 : TI Tryd.prog 13 = some (true, 2) := by kernel_rfl
theorem fi_13_0 : FI Tryd.prog 13 0 = some (0, (false, 1)) := by kernel_rfl
theorem fi_13_1 : FI Tryd.prog 13 1 = some (1, (false, 1)) := by kernel_rfl
theorem si_13 : SI Tryd.prog 13 = some [(0, 1), (1, 1)] := by kernel_rfl
theorem zv_13 : ZV Tryd.prog 13 = some (.agg [.str [], .int .u64 0]) := by kernel_rfl
theorem zok_13 : ZOk Tryd.prog 13 2 = true := by kernel_rfl
theorem by_13 : byOf Tryd.prog 13 = 24 := by kernel_rfl
theorem cells_21 : Tryd.prog.cellsOf 21 = 1 := by kernel_rfl
theorem ti_21 : TI Tryd.prog 21 = some (false, 1) := by kernel_rfl
theorem intK_21 : intK Tryd.prog 21 = some .i32 := by kernel_rfl
theorem un_21 : Tryd.prog.underlying 21 = some (.int .i32) := by kernel_rfl
theorem zv_21 : ZV Tryd.prog 21 = some (.int .i32 0) := by kernel_rfl
theorem zok_21 : ZOk Tryd.prog 21 1 = true := by kernel_rfl
theorem by_21 : byOf Tryd.prog 21 = 4 := by kernel_rfl
theorem cells_22 : Tryd.prog.cellsOf 22 = 1 := by kernel_rfl
theorem ti_22 : TI Tryd.prog 22 = some (false, 1) := by kernel_rfl
theorem ei_22 : EI Tryd.prog 22 = some (9, 1) := by kernel_rfl
theorem isSli_22 : isSli Tryd.prog 22 = true := by kernel_rfl
theorem notInt_22 : notInt Tryd.prog 22 = true := by kernel_rfl
theorem zv_22 : ZV Tryd.prog 22 = some (.nils) := by kernel_rfl
theorem zok_22 : ZOk Tryd.prog 22 1 = true := by kernel_rfl
theorem by_22 : byOf Tryd.prog 22 = 24 := by kernel_rfl
theorem cells_23 : Tryd.prog.cellsOf 23 = 1 := by kernel_rfl
theorem ti_23 : TI Tryd.prog 23 = some (false, 1) := by kernel_rfl
theorem ei_23 : EI Tryd.prog 23 = some (53, 2) := by kernel_rfl
theorem isSli_23 : isSli Tryd.prog 23 = true := by kernel_rfl
theorem notInt_23 : notInt Tryd.prog 23 = true := by kernel_rfl
theorem zv_23 : ZV Tryd.prog 23 = some (.nils) := by kernel_rfl
theorem zok_23 : ZOk Tryd.prog 23 1 = true := by kernel_rfl
theorem by_23 : byOf Tryd.prog 23 = 24 := by kernel_rfl
theorem cells_24 : Tryd.prog.cellsOf 24 = 1 := by kernel_rfl
theorem ti_24 : TI Tryd.prog 24 = some (false, 1) := by kernel_rfl
theorem ei_24 : EI Tryd.prog 24 = some (51, 4) := by kernel_rfl
theorem isSli_24 : isSli Tryd.prog 24 = true := by kernel_rfl
theorem notInt_24 : notInt Tryd.prog 24 = true := by kernel_rfl
theorem zv_24 : ZV Tryd.prog 24 = some (.nils) := by kernel_rfl
theorem zok_24 : ZOk Tryd.prog 24 1 = true := by kernel_rfl
theorem by_24 : byOf Tryd.prog 24 = 24 := by kernel_rfl
theorem cells_25 : Tryd.prog.cellsOf 25 = 1 := by kernel_rfl
theorem ti_25 : TI Tryd.prog 25 = some (false, 1) := by kernel_rfl
theorem intK_25 : intK Tryd.prog 25 = some .i64 := by kernel_rfl
theorem un_25 : Tryd.prog.underlying 25 = some (.int .i64) := by kernel_rfl
theorem zv_25 : ZV Tryd.prog 25 = some (.int .i64 0) := by kernel_rfl
theorem zok_25 : ZOk Tryd.prog 25 1 = true := by kernel_rfl
theorem by_25 : byOf Tryd.prog 25 = 8 := by kernel_rfl
theorem cells_27 : Tryd.prog.cellsOf 27 = 1 := by kernel_rfl
theorem ti_27 : TI Tryd.prog 27 = some (false, 1) := by kernel_rfl
theorem zv_27 : ZV Tryd.prog 27 = some (.any) := by kernel_rfl
theorem zok_27 : ZOk Tryd.prog 27 1 = true := by kernel_rfl
theorem by_27 : byOf Tryd.prog 27 = 8 := by kernel_rfl
theorem cells_28 : Tryd.prog.cellsOf 28 = 1 := by kernel_rfl
theorem ti_28 : TI Tryd.prog 28 = some (false, 1) := by kernel_rfl
theorem zv_28 : ZV Tryd.prog 28 = some (.any) := by kernel_rfl
theorem zok_28 : ZOk Tryd.prog 28 1 = true := by kernel_rfl
theorem by_28 : byOf Tryd.prog 28 = 8 := by kernel_rfl
theorem cells_29 : Tryd.prog.cellsOf 29 = 1 := by kernel_rfl
theorem ti_29 : TI Tryd.prog 29 = some (false, 1) := by kernel_rfl
theorem zv_29 : ZV Tryd.prog 29 = some (.any) := by kernel_rfl
theorem zok_29 : ZOk Tryd.prog 29 1 = true := by kernel_rfl
theorem by_29 : byOf Tryd.prog 29 = 8 := by kernel_rfl
theorem cells_30 : Tryd.prog.cellsOf 30 = 1 := by kernel_rfl
theorem ti_30 : TI Tryd.prog 30 = some (false, 1) := by kernel_rfl
theorem ei_30 : EI Tryd.prog 30 = some (59, 3) := by kernel_rfl
theorem isSli_30 : isSli Tryd.prog 30 = true := by kernel_rfl
theorem notInt_30 : notInt Tryd.prog 30 = true := by kernel_rfl
theorem zv_30 : ZV Tryd.prog 30 = some (.nils) := by kernel_rfl
theorem zok_30 : ZOk Tryd.prog 30 1 = true := by kernel_rfl
theorem by_30 : byOf Tryd.prog 30 = 24 := by kernel_rfl
theorem cells_32 : Tryd.prog.cellsOf 32 = 1 := by kernel_rfl
theorem ti_32 : TI Tryd.prog 32 = some (false, 1) := by kernel_rfl
theorem zv_32 : ZV Tryd.prog 32 = some (.any) := by kernel_rfl
theorem zok_32 : ZOk Tryd.prog 32 1 = true := by kernel_rfl
theorem by_32 : byOf Tryd.prog 32 = 8 := by kernel_rfl
theorem cells_33 : Tryd.prog.cellsOf 33 = 1 := by kernel_rfl
theorem ti_33 : TI Tryd.prog 33 = some (false, 1) := by kernel_rfl
theorem zv_33 : ZV Tryd.prog 33 = some (.any) := by kernel_rfl
theorem zok_33 : ZOk Tryd.prog 33 1 = true := by kernel_rfl
theorem by_33 : byOf Tryd.prog 33 = 8 := by kernel_rfl
theorem cells_34 : Tryd.prog.cellsOf 34 = 1 := by kernel_rfl
theorem ti_34 : TI Tryd.prog 34 = some (false, 1) := by kernel_rfl
theorem zv_34 : ZV Tryd.prog 34 = some (.any) := by kernel_rfl
theorem zok_34 : ZOk Tryd.prog 34 1 = true := by kernel_rfl
theorem by_34 : byOf Tryd.prog 34 = 8 := by kernel_rfl
theorem cells_35 : Tryd.prog.cellsOf 35 = 1 := by kernel_rfl
theorem ti_35 : TI Tryd.prog 35 = some (false, 1) := by kernel_rfl
theorem ei_35 : EI Tryd.prog 35 = some (79, 5) := by kernel_rfl
theorem isSli_35 : isSli Tryd.prog 35 = true := by kernel_rfl
theorem notInt_35 : notInt Tryd.prog 35 = true := by kernel_rfl
theorem zv_35 : ZV Tryd.prog 35 = some (.nils) := by kernel_rfl
theorem zok_35 : ZOk Tryd.prog 35 1 = true := by kernel_rfl
theorem by_35 : byOf Tryd.prog 35 = 24 := by kernel_rfl
theorem cells_36 : Tryd.prog.cellsOf 36 = 1 := by kernel_rfl
theorem ti_36 : TI Tryd.prog 36 = some (false, 1) := by kernel_rfl
theorem zv_36 : ZV Tryd.prog 36 = some (.any) := by kernel_rfl
theorem zok_36 : ZOk Tryd.prog 36 1 = true := by kernel_rfl
theorem by_36 : byOf Tryd.prog 36 = 8 := by kernel_rfl
theorem cells_37 : Tryd.prog.cellsOf 37 = 1 := by kernel_rfl
theorem ti_37 : TI Tryd.prog 37 = some (false, 1) := by kernel_rfl
theorem zv_37 : ZV Tryd.prog 37 = some (.any) := by kernel_rfl
theorem zok_37 : ZOk Tryd.prog 37 1 = true := by kernel_rfl
theorem by_37 : byOf Tryd.prog 37 = 8 := by kernel_rfl
theorem cells_38 : Tryd.prog.cellsOf 38 = 1 := by kernel_rfl
theorem ti_38 : TI Tryd.prog 38 = some (false, 1) := by kernel_rfl
theorem ei_38 : EI Tryd.prog 38 = some (106, 1) := by kernel_rfl
theorem isSli_38 : isSli Tryd.prog 38 = true := by kernel_rfl
theorem notInt_38 : notInt Tryd.prog 38 = true := by kernel_rfl
theorem zv_38 : ZV Tryd.prog 38 = some (.nils) := by kernel_rfl
theorem zok_38 : ZOk Tryd.prog 38 1 = true := by kernel_rfl
theorem by_38 : byOf Tryd.prog 38 = 24 := by kernel_rfl
theorem cells_39 : Tryd.prog.cellsOf 39 = 1 := by kernel_rfl
theorem ti_39 : TI Tryd.prog 39 = some (false, 1) := by kernel_rfl
theorem ei_39 : EI Tryd.prog 39 = some (4, 1) := by kernel_rfl
theorem isSli_39 : isSli Tryd.prog 39 = true := by kernel_rfl
theorem notInt_39 : notInt Tryd.prog 39 = true := by kernel_rfl
theorem zv_39 : ZV Tryd.prog 39 = some (.nils) := by kernel_rfl
theorem zok_39 : ZOk Tryd.prog 39 1 = true := by kernel_rfl
theorem by_39 : byOf Tryd.prog 39 = 24 := by kernel_rfl
theorem cells_40 : Tryd.prog.cellsOf 40 = 2 := by kernel_rfl
theorem ti_40 : TI Tryd.prog 40 = some (true, 2) := by kernel_rfl
theorem fi_40_0 : FI Tryd.prog 40 0 = some (0, (false, 1)) := by kernel_rfl
theorem fi_40_1 : FI Tryd.prog 40 1 = some (1, (false, 1)) := by kernel_rfl
theorem si_40 : SI Tryd.prog 40 = some [(0, 1), (1, 1)] := by kernel_rfl
theorem zv_40 : ZV Tryd.prog 40 = some (.agg [.nils, .nils]) := by kernel_rfl
theorem zok_40 : ZOk Tryd.prog 40 2 = true := by kernel_rfl
theorem by_40 : byOf Tryd.prog 40 = 48 := by kernel_rfl
theorem cells_41 : Tryd.prog.cellsOf 41 = 2 := by kernel_rfl
theorem ti_41 : TI Tryd.prog 41 = some (true, 2) := by kernel_rfl
theorem fi_41_0 : FI Tryd.prog 41 0 = some (0, (false, 1)) := by kernel_rfl
theorem fi_41_1 : FI Tryd.prog 41 1 = some (1, (false, 1)) := by kernel_rfl
theorem si_41 : SI Tryd.prog 41 = some [(0, 1), (1, 1)] := by kernel_rfl
theorem zv_41 : ZV Tryd.prog 41 = some (.agg [.nils, .nils]) := by kernel_rfl
theorem zok_41 : ZOk Tryd.prog 41 2 = true := by kernel_rfl
theorem by_41 : byOf Tryd.prog 41 = 48 := by kernel_rfl
theorem cells_43 : Tryd.prog.cellsOf 43 = 1 := by kernel_rfl
theorem ti_43 : TI Tryd.prog 43 = some (false, 1) := by kernel_rfl
theorem zv_43 : ZV Tryd.prog 43 = some (.any) := by kernel_rfl
theorem zok_43 : ZOk Tryd.prog 43 1 = true := by kernel_rfl
theorem by_43 : byOf Tryd.prog 43 = 8 := by kernel_rfl
theorem cells_44 : Tryd.prog.cellsOf 44 = 1 := by kernel_rfl
theorem ti_44 : TI Tryd.prog 44 = some (false, 1) := by kernel_rfl
theorem zv_44 : ZV Tryd.prog 44 = some (.any) := by kernel_rfl
theorem zok_44 : ZOk Tryd.prog 44 1 = true := by kernel_rfl
theorem by_44 : byOf Tryd.prog 44 = 8 := by kernel_rfl
theorem cells_46 : Tryd.prog.cellsOf 46 = 1 := by kernel_rfl
theorem ti_46 : TI Tryd.prog 46 = some (false, 1) := by kernel_rfl
theorem zv_46 : ZV Tryd.prog 46 = some (.any) := by kernel_rfl
theorem zok_46 : ZOk Tryd.prog 46 1 = true := by kernel_rfl
theorem by_46 : byOf Tryd.prog 46 = 8 := by kernel_rfl
theorem cells_47 : Tryd.prog.cellsOf 47 = 1 := by kernel_rfl
theorem ti_47 : TI Tryd.prog 47 = some (false, 1) := by kernel_rfl
theorem zv_47 : ZV Tryd.prog 47 = some (.any) := by kernel_rfl
theorem zok_47 : ZOk Tryd.prog 47 1 = true := by kernel_rfl
theorem by_47 : byOf Tryd.prog 47 = 8 := by kernel_rfl
theorem cells_48 : Tryd.prog.cellsOf 48 = 1 := by kernel_rfl
theorem ti_48 : TI Tryd.prog 48 = some (false, 1) := by kernel_rfl
theorem zv_48 : ZV Tryd.prog 48 = some (.any) := by kernel_rfl
theorem zok_48 : ZOk Tryd.prog 48 1 = true := by kernel_rfl
theorem by_48 : byOf Tryd.prog 48 = 8 := by kernel_rfl
theorem cells_49 : Tryd.prog.cellsOf 49 = 1 := by kernel_rfl
theorem ti_49 : TI Tryd.prog 49 = some (false, 1) := by kernel_rfl
theorem ei_49 : EI Tryd.prog 49 = some (112, 2) := by kernel_rfl
theorem isSli_49 : isSli Tryd.prog 49 = true := by kernel_rfl
theorem notInt_49 : notInt Tryd.prog 49 = true := by kernel_rfl
theorem zv_49 : ZV Tryd.prog 49 = some (.nils) := by kernel_rfl
theorem zok_49 : ZOk Tryd.prog 49 1 = true := by kernel_rfl
theorem by_49 : byOf Tryd.prog 49 = 24 := by kernel_rfl
theorem cells_50 : Tryd.prog.cellsOf 50 = 4 := by kernel_rfl
theorem ti_50 : TI Tryd.prog 50 = some (true, 4) := by kernel_rfl
theorem fi_50_0 : FI Tryd.prog 50 0 = some (0, (false, 1)) := by kernel_rfl
theorem fi_50_1 : FI Tryd.prog 50 1 = some (1, (false, 1)) := by kernel_rfl
theorem fi_50_2 : FI Tryd.prog 50 2 = some (2, (false, 1)) := by kernel_rfl
theorem fi_50_3 : FI Tryd.prog 50 3 = some (3, (false, 1)) := by kernel_rfl
theorem si_50 : SI Tryd.prog 50 = some [(0, 1), (1, 1), (2, 1), (3, 1)] := by kernel_rfl
theorem zv_50 : ZV Tryd.prog 50 = some (.agg [.str [], .nils, .str [], .nils]) := by kernel_rfl
theorem zok_50 : ZOk Tryd.prog 50 4 = true := by kernel_rfl
theorem by_50 : byOf Tryd.prog 50 = 80 := by kernel_rfl
theorem cells_51 : Tryd.prog.cellsOf 51 = 4 := by kernel_rfl
theorem ti_51 : TI Tryd.prog 51 = some (true, 4) := by kernel_rfl
theorem fi_51_0 : FI Tryd.prog 51 0 = some (0, (false, 1)) := by kernel_rfl
theorem fi_51_1 : FI Tryd.prog 51 1 = some (1, (false, 1)) := by kernel_rfl
theorem fi_51_2 : FI Tryd.prog 51 2 = some (2, (false, 1)) := by kernel_rfl
theorem fi_51_3 : FI Tryd.prog 51 3 = some (3, (false, 1)) := by kernel_rfl
theorem si_51 : SI Tryd.prog 51 = some [(0, 1), (1, 1), (2, 1), (3, 1)] := by kernel_rfl
theorem zv_51 : ZV Tryd.prog 51 = some (.agg [.str [], .nils, .str [], .nils]) := by kernel_rfl
theorem zok_51 : ZOk Tryd.prog 51 4 = true := by kernel_rfl
theorem by_51 : byOf Tryd.prog 51 = 80 := by kernel_rfl
theorem cells_52 : Tryd.prog.cellsOf 52 = 2 := by kernel_rfl
theorem ti_52 : TI Tryd.prog 52 = some (true, 2) := by kernel_rfl
theorem fi_52_0 : FI Tryd.prog 52 0 = some (0, (false, 1)) := by kernel_rfl
theorem fi_52_1 : FI Tryd.prog 52 1 = some (1, (false, 1)) := by kernel_rfl
theorem si_52 : SI Tryd.prog 52 = some [(0, 1), (1, 1)] := by kernel_rfl
theorem zv_52 : ZV Tryd.prog 52 = some (.agg [.str [], .nils]) := by kernel_rfl
theorem zok_52 : ZOk Tryd.prog 52 2 = true := by kernel_rfl
theorem by_52 : byOf Tryd.prog 52 = 40 := by kernel_rfl
theorem cells_53 : Tryd.prog.cellsOf 53 = 2 := by kernel_rfl
theorem ti_53 : TI Tryd.prog 53 = some (true, 2) := by kernel_rfl
theorem fi_53_0 : FI Tryd.prog 53 0 = some (0, (false, 1)) := by kernel_rfl
theorem fi_53_1 : FI Tryd.prog 53 1 = some (1, (false, 1)) := by kernel_rfl
theorem si_53 : SI Tryd.prog 53 = some [(0, 1), (1, 1)] := by kernel_rfl
theorem zv_53 : ZV Tryd.prog 53 = some (.agg [.str [], .nils]) := by kernel_rfl
theorem zok_53 : ZOk Tryd.prog 53 2 = true := by kernel_rfl
theorem by_53 : byOf Tryd.prog 53 = 40 := by kernel_rfl
theorem cells_54 : Tryd.prog.cellsOf 54 = 1 := by kernel_rfl
theorem ti_54 : TI Tryd.prog 54 = some (false, 1) := by kernel_rfl
theorem zv_54 : ZV Tryd.prog 54 = some (.any) := by kernel_rfl
theorem zok_54 : ZOk Tryd.prog 54 1 = true := by kernel_rfl
theorem by_54 : byOf Tryd.prog 54 = 8 := by kernel_rfl
theorem cells_55 : Tryd.prog.cellsOf 55 = 1 := by kernel_rfl
theorem ti_55 : TI Tryd.prog 55 = some (false, 1) := by kernel_rfl
theorem zv_55 : ZV Tryd.prog 55 = some (.any) := by kernel_rfl
theorem zok_55 : ZOk Tryd.prog 55 1 = true := by kernel_rfl
theorem by_55 : byOf Tryd.prog 55 = 8 := by kernel_rfl
theorem cells_56 : Tryd.prog.cellsOf 56 = 1 := by kernel_rfl
theorem ti_56 : TI Tryd.prog 56 = some (false, 1) := by kernel_rfl
theorem zv_56 : ZV Tryd.prog 56 = some (.any) := by kernel_rfl
theorem zok_56 : ZOk Tryd.prog 56 1 = true := by kernel_rfl
theorem by_56 : byOf Tryd.prog 56 = 8 := by kernel_rfl
theorem cells_57 : Tryd.prog.cellsOf 57 = 1 := by kernel_rfl
theorem ti_57 : TI Tryd.prog 57 = some (false, 1) := by kernel_rfl
theorem zv_57 : ZV Tryd.prog 57 = some (.any) := by kernel_rfl
theorem zok_57 : ZOk Tryd.prog 57 1 = true := by kernel_rfl
theorem by_57 : byOf Tryd.prog 57 = 8 := by kernel_rfl
theorem cells_58 : Tryd.prog.cellsOf 58 = 3 := by kernel_rfl
theorem ti_58 : TI Tryd.prog 58 = some (true, 3) := by kernel_rfl
theorem fi_58_0 : FI Tryd.prog 58 0 = some (0, (false, 1)) := by kernel_rfl
theorem fi_58_1 : FI Tryd.prog 58 1 = some (1, (false, 1)) := by kernel_rfl
theorem fi_58_2 : FI Tryd.prog 58 2 = some (2, (false, 1)) := by kernel_rfl
theorem si_58 : SI Tryd.prog 58 = some [(0, 1), (1, 1), (2, 1)] := by kernel_rfl
theorem zv_58 : ZV Tryd.prog 58 = some (.agg [.str [], .str [], .bool false]) := by kernel_rfl
theorem zok_58 : ZOk Tryd.prog 58 3 = true := by kernel_rfl
theorem by_58 : byOf Tryd.prog 58 = 40 := by kernel_rfl
theorem cells_59 : Tryd.prog.cellsOf 59 = 3 := by kernel_rfl
theorem ti_59 : TI Tryd.prog 59 = some (true, 3) := by kernel_rfl
theorem fi_59_0 : FI Tryd.prog 59 0 = some (0, (false, 1)) := by kernel_rfl
theorem fi_59_1 : FI Tryd.prog 59 1 = some (1, (false, 1)) := by kernel_rfl
theorem fi_59_2 : FI Tryd.prog 59 2 = some (2, (false, 1)) := by kernel_rfl
theorem si_59 : SI Tryd.prog 59 = some [(0, 1), (1, 1), (2, 1)] := by kernel_rfl
theorem zv_59 : ZV Tryd.prog 59 = some (.agg [.str [], .str [], .bool false]) := by kernel_rfl
theorem zok_59 : ZOk Tryd.prog 59 3 = true := by kernel_rfl
theorem by_59 : byOf Tryd.prog 59 = 40 := by kernel_rfl
theorem cells_61 : Tryd.prog.cellsOf 61 = 1 := by kernel_rfl
theorem ti_61 : TI Tryd.prog 61 = some (false, 1) := by kernel_rfl
theorem zv_61 : ZV Tryd.prog 61 = some (.any) := by kernel_rfl
theorem zok_61 : ZOk Tryd.prog 61 1 = true := by kernel_rfl
theorem by_61 : byOf Tryd.prog 61 = 8 := by kernel_rfl
theorem cells_63 : Tryd.prog.cellsOf 63 = 1 := by kernel_rfl
theorem ti_63 : TI Tryd.prog 63 = some (false, 1) := by kernel_rfl
theorem zv_63 : ZV Tryd.prog 63 = some (.any) := by kernel_rfl
theorem zok_63 : ZOk Tryd.prog 63 1 = true := by kernel_rfl
theorem by_63 : byOf Tryd.prog 63 = 8 := by kernel_rfl
theorem cells_64 : Tryd.prog.cellsOf 64 = 1 := by kernel_rfl
theorem ti_64 : TI Tryd.prog 64 = some (false, 1) := by kernel_rfl
theorem zv_64 : ZV Tryd.prog 64 = some (.any) := by kernel_rfl
theorem zok_64 : ZOk Tryd.prog 64 1 = true := by kernel_rfl
theorem by_64 : byOf Tryd.prog 64 = 8 := by kernel_rfl
theorem cells_65 : Tryd.prog.cellsOf 65 = 1 := by kernel_rfl
theorem ti_65 : TI Tryd.prog 65 = some (false, 1) := by kernel_rfl
theorem zv_65 : ZV Tryd.prog 65 = some (.any) := by kernel_rfl
theorem zok_65 : ZOk Tryd.prog 65 1 = true := by kernel_rfl
theorem by_65 : byOf Tryd.prog 65 = 8 := by kernel_rfl
theorem cells_66 : Tryd.prog.cellsOf 66 = 1 := by kernel_rfl
theorem ti_66 : TI Tryd.prog 66 = some (false, 1) := by kernel_rfl
theorem isPtr_66 : isPtr Tryd.prog 66 = true := by kernel_rfl
theorem zv_66 : ZV Tryd.prog 66 = some (.nilp) := by kernel_rfl
theorem zok_66 : ZOk Tryd.prog 66 1 = true := by kernel_rfl
theorem by_66 : byOf Tryd.prog 66 = 8 := by kernel_rfl
theorem cells_67 : Tryd.prog.cellsOf 67 = 3 := by kernel_rfl
theorem ti_67 : TI Tryd.prog 67 = some (true, 3) := by kernel_rfl
theorem fi_67_0 : FI Tryd.prog 67 0 = some (0, (false, 1)) := by kernel_rfl
theorem fi_67_1 : FI Tryd.prog 67 1 = some (1, (false, 1)) := by kernel_rfl
theorem fi_67_2 : FI Tryd.prog 67 2 = some (2, (false, 1)) := by kernel_rfl
theorem si_67 : SI Tryd.prog 67 = some [(0, 1), (1, 1), (2, 1)] := by kernel_rfl
theorem zv_67 : ZV Tryd.prog 67 = some (.agg [.str [], .int .i64 0, .bool false]) := by kernel_rfl
theorem zok_67 : ZOk Tryd.prog 67 3 = true := by kernel_rfl
theorem by_67 : byOf Tryd.prog 67 = 32 := by kernel_rfl
theorem cells_68 : Tryd.prog.cellsOf 68 = 3 := by kernel_rfl
theorem ti_68 : TI Tryd.prog 68 = some (true, 3) := by kernel_rfl
theorem fi_68_0 : FI Tryd.prog 68 0 = some (0, (false, 1)) := by kernel_rfl
theorem fi_68_1 : FI Tryd.prog 68 1 = some (1, (false, 1)) := by kernel_rfl
theorem fi_68_2 : FI Tryd.prog 68 2 = some (2, (false, 1)) := by kernel_rfl
theorem si_68 : SI Tryd.prog 68 = some [(0, 1), (1, 1), (2, 1)] := by kernel_rfl
theorem zv_68 : ZV Tryd.prog 68 = some (.agg [.str [], .int .i64 0, .bool false]) := by kernel_rfl
theorem zok_68 : ZOk Tryd.prog 68 3 = true := by kernel_rfl
theorem by_68 : byOf Tryd.prog 68 = 32 := by kernel_rfl
theorem cells_69 : Tryd.prog.cellsOf 69 = 1 := by kernel_rfl
theorem ti_69 : TI Tryd.prog 69 = some (false, 1) := by kernel_rfl
theorem zv_69 : ZV Tryd.prog 69 = some (.any) := by kernel_rfl
theorem zok_69 : ZOk Tryd.prog 69 1 = true := by kernel_rfl
theorem by_69 : byOf Tryd.prog 69 = 8 := by kernel_rfl
theorem cells_70 : Tryd.prog.cellsOf 70 = 1 := by kernel_rfl
theorem ti_70 : TI Tryd.prog 70 = some (false, 1) := by kernel_rfl
theorem isPtr_70 : isPtr Tryd.prog 70 = true := by kernel_rfl
theorem zv_70 : ZV Tryd.prog 70 = some (.nilp) := by kernel_rfl
theorem zok_70 : ZOk Tryd.prog 70 1 = true := by kernel_rfl
theorem by_70 : byOf Tryd.prog 70 = 8 := by kernel_rfl
theorem cells_71 : Tryd.prog.cellsOf 71 = 1 := by kernel_rfl
theorem ti_71 : TI Tryd.prog 71 = some (false, 1) := by kernel_rfl
theorem isPtr_71 : isPtr Tryd.prog 71 = true := by kernel_rfl
theorem zv_71 : ZV Tryd.prog 71 = some (.nilp) := by kernel_rfl
theorem zok_71 : ZOk Tryd.prog 71 1 = true := by kernel_rfl
theorem by_71 : byOf Tryd.prog 71 = 8 := by kernel_rfl
theorem cells_72 : Tryd.prog.cellsOf 72 = 1 := by kernel_rfl
theorem ti_72 : TI Tryd.prog 72 = some (false, 1) := by kernel_rfl
theorem isPtr_72 : isPtr Tryd.prog 72 = true := by kernel_rfl
theorem zv_72 : ZV Tryd.prog 72 = some (.nilp) := by kernel_rfl
theorem zok_72 : ZOk Tryd.prog 72 1 = true := by kernel_rfl
theorem by_72 : byOf Tryd.prog 72 = 8 := by kernel_rfl
theorem cells_73 : Tryd.prog.cellsOf 73 = 1 := by kernel_rfl
theorem ti_73 : TI Tryd.prog 73 = some (false, 1) := by kernel_rfl
theorem ei_73 : EI Tryd.prog 73 = some (71, 1) := by kernel_rfl
theorem isSli_73 : isSli Tryd.prog 73 = true := by kernel_rfl
theorem notInt_73 : notInt Tryd.prog 73 = true := by kernel_rfl
theorem zv_73 : ZV Tryd.prog 73 = some (.nils) := by kernel_rfl
theorem zok_73 : ZOk Tryd.prog 73 1 = true := by kernel_rfl
theorem by_73 : byOf Tryd.prog 73 = 24 := by kernel_rfl
theorem cells_74 : Tryd.prog.cellsOf 74 = 4 := by kernel_rfl
theorem ti_74 : TI Tryd.prog 74 = some (true, 4) := by kernel_rfl
theorem fi_74_0 : FI Tryd.prog 74 0 = some (0, (false, 1)) := by kernel_rfl
theorem fi_74_1 : FI Tryd.prog 74 1 = some (1, (false, 1)) := by kernel_rfl
theorem fi_74_2 : FI Tryd.prog 74 2 = some (2, (false, 1)) := by kernel_rfl
theorem fi_74_3 : FI Tryd.prog 74 3 = some (3, (false, 1)) := by kernel_rfl
theorem si_74 : SI Tryd.prog 74 = some [(0, 1), (1, 1), (2, 1), (3, 1)] := by kernel_rfl
theorem zv_74 : ZV Tryd.prog 74 = some (.agg [.nilp, .nils, .str [], .bool false]) := by kernel_rfl
theorem zok_74 : ZOk Tryd.prog 74 4 = true := by kernel_rfl
theorem by_74 : byOf Tryd.prog 74 = 56 := by kernel_rfl
theorem cells_75 : Tryd.prog.cellsOf 75 = 4 := by kernel_rfl
theorem ti_75 : TI Tryd.prog 75 = some (true, 4) := by kernel_rfl
theorem fi_75_0 : FI Tryd.prog 75 0 = some (0, (false, 1)) := by kernel_rfl
theorem fi_75_1 : FI Tryd.prog 75 1 = some (1, (false, 1)) := by kernel_rfl
theorem fi_75_2 : FI Tryd.prog 75 2 = some (2, (false, 1)) := by kernel_rfl
theorem fi_75_3 : FI Tryd.prog 75 3 = some (3, (false, 1)) := by kernel_rfl
theorem si_75 : SI Tryd.prog 75 = some [(0, 1), (1, 1), (2, 1), (3, 1)] := by kernel_rfl
theorem zv_75 : ZV Tryd.prog 75 = some (.agg [.nilp, .nils, .str [], .bool false]) := by kernel_rfl
theorem zok_75 : ZOk Tryd.prog 75 4 = true := by kernel_rfl
theorem by_75 : byOf Tryd.prog 75 = 56 := by kernel_rfl
theorem cells_76 : Tryd.prog.cellsOf 76 = 4 := by kernel_rfl
theorem ti_76 : TI Tryd.prog 76 = some (true, 4) := by kernel_rfl
theorem fi_76_0 : FI Tryd.prog 76 0 = some (0, (false, 1)) := by kernel_rfl
theorem fi_76_1 : FI Tryd.prog 76 1 = some (1, (false, 1)) := by kernel_rfl
theorem fi_76_2 : FI Tryd.prog 76 2 = some (2, (false, 1)) := by kernel_rfl
theorem fi_76_3 : FI Tryd.prog 76 3 = some (3, (false, 1)) := by kernel_rfl
theorem si_76 : SI Tryd.prog 76 = some [(0, 1), (1, 1), (2, 1), (3, 1)] := by kernel_rfl
theorem zv_76 : ZV Tryd.prog 76 = some (.agg [.nilp, .nils, .int .i64 0, .str []]) := by kernel_rfl
theorem zok_76 : ZOk Tryd.prog 76 4 = true := by kernel_rfl
theorem by_76 : byOf Tryd.prog 76 = 56 := by kernel_rfl
theorem cells_77 : Tryd.prog.cellsOf 77 = 4 := by kernel_rfl
theorem ti_77 : TI Tryd.prog 77 = some (true, 4) := by kernel_rfl
theorem fi_77_0 : FI Tryd.prog 77 0 = some (0, (false, 1)) := by kernel_rfl
theorem fi_77_1 : FI Tryd.prog 77 1 = some (1, (false, 1)) := by kernel_rfl
theorem fi_77_2 : FI Tryd.prog 77 2 = some (2, (false, 1)) := by kernel_rfl
theorem fi_77_3 : FI Tryd.prog 77 3 = some (3, (false, 1)) := by kernel_rfl
theorem si_77 : SI Tryd.prog 77 = some [(0, 1), (1, 1), (2, 1), (3, 1)] := by kernel_rfl
theorem zv_77 : ZV Tryd.prog 77 = some (.agg [.nilp, .nils, .int .i64 0, .str []]) := by kernel_rfl
theorem zok_77 : ZOk Tryd.prog 77 4 = true := by kernel_rfl
theorem by_77 : byOf Tryd.prog 77 = 56 := by kernel_rfl
theorem cells_78 : Tryd.prog.cellsOf 78 = 5 := by kernel_rfl
theorem ti_78 : TI Tryd.prog 78 = some (true, 5) := by kernel_rfl
theorem fi_78_0 : FI Tryd.prog 78 0 = some (0, (false, 1)) := by kernel_rfl
theorem fi_78_1 : FI Tryd.prog 78 1 = some (1, (false, 1)) := by kernel_rfl
theorem fi_78_2 : FI Tryd.prog 78 2 = some (2, (false, 1)) := by kernel_rfl
theorem fi_78_3 : FI Tryd.prog 78 3 = some (3, (false, 1)) := by kernel_rfl
theorem fi_78_4 : FI Tryd.prog 78 4 = some (4, (false, 1)) := by kernel_rfl
theorem si_78 : SI Tryd.prog 78 = some [(0, 1), (1, 1), (2, 1), (3, 1), (4, 1)] := by kernel_rfl
theorem zv_78 : ZV Tryd.prog 78 = some (.agg [.int .i64 0, .str [], .nils, .bool false, .str []]) := by kernel_rfl
theorem zok_78 : ZOk Tryd.prog 78 5 = true := by kernel_rfl
theorem by_78 : byOf Tryd.prog 78 = 72 := by kernel_rfl
theorem cells_79 : Tryd.prog.cellsOf 79 = 5 := by kernel_rfl
theorem ti_79 : TI Tryd.prog 79 = some (true, 5) := by kernel_rfl
theorem fi_79_0 : FI Tryd.prog 79 0 = some (0, (false, 1)) := by kernel_rfl
theorem fi_79_1 : FI Tryd.prog 79 1 = some (1, (false, 1)) := by kernel_rfl
theorem fi_79_2 : FI Tryd.prog 79 2 = some (2, (false, 1)) := by kernel_rfl
theorem fi_79_3 : FI Tryd.prog 79 3 = some (3, (false, 1)) := by kernel_rfl
theorem fi_79_4 : FI Tryd.prog 79 4 = some (4, (false, 1)) := by kernel_rfl
theorem si_79 : SI Tryd.prog 79 = some [(0, 1), (1, 1), (2, 1), (3, 1), (4, 1)] := by kernel_rfl
theorem zv_79 : ZV Tryd.prog 79 = some (.agg [.int .i64 0, .str [], .nils, .bool false, .str []]) := by kernel_rfl
theorem zok_79 : ZOk Tryd.prog 79 5 = true := by kernel_rfl
theorem by_79 : byOf Tryd.prog 79 = 72 := by kernel_rfl
theorem cells_80 : Tryd.prog.cellsOf 80 = 1 := by kernel_rfl
theorem ti_80 : TI Tryd.prog 80 = some (false, 1) := by kernel_rfl
theorem zv_80 : ZV Tryd.prog 80 = some (.any) := by kernel_rfl
theorem zok_80 : ZOk Tryd.prog 80 1 = true := by kernel_rfl
theorem by_80 : byOf Tryd.prog 80 = 8 := by kernel_rfl
theorem cells_81 : Tryd.prog.cellsOf 81 = 1 := by kernel_rfl
theorem ti_81 : TI Tryd.prog 81 = some (false, 1) := by kernel_rfl
theorem zv_81 : ZV Tryd.prog 81 = some (.any) := by kernel_rfl
theorem zok_81 : ZOk Tryd.prog 81 1 = true := by kernel_rfl
theorem by_81 : byOf Tryd.prog 81 = 8 := by kernel_rfl
theorem cells_82 : Tryd.prog.cellsOf 82 = 1 := by kernel_rfl
theorem ti_82 : TI Tryd.prog 82 = some (false, 1) := by kernel_rfl
theorem zv_82 : ZV Tryd.prog 82 = some (.any) := by kernel_rfl
theorem zok_82 : ZOk Tryd.prog 82 1 = true := by kernel_rfl
theorem by_82 : byOf Tryd.prog 82 = 8 := by kernel_rfl
theorem cells_83 : Tryd.prog.cellsOf 83 = 1 := by kernel_rfl
theorem ti_83 : TI Tryd.prog 83 = some (false, 1) := by kernel_rfl
theorem zv_83 : ZV Tryd.prog 83 = some (.any) := by kernel_rfl
theorem zok_83 : ZOk Tryd.prog 83 1 = true := by kernel_rfl
theorem by_83 : byOf Tryd.prog 83 = 8 := by kernel_rfl
theorem cells_84 : Tryd.prog.cellsOf 84 = 1 := by kernel_rfl
theorem ti_84 : TI Tryd.prog 84 = some (false, 1) := by kernel_rfl
theorem zv_84 : ZV Tryd.prog 84 = some (.any) := by kernel_rfl
theorem zok_84 : ZOk Tryd.prog 84 1 = true := by kernel_rfl
theorem by_84 : byOf Tryd.prog 84 = 8 := by kernel_rfl
theorem cells_85 : Tryd.prog.cellsOf 85 = 1 := by kernel_rfl
theorem ti_85 : TI Tryd.prog 85 = some (false, 1) := by kernel_rfl
theorem ei_85 : EI Tryd.prog 85 = some (87, 7) := by kernel_rfl
theorem isSli_85 : isSli Tryd.prog 85 = true := by kernel_rfl
theorem notInt_85 : notInt Tryd.prog 85 = true := by kernel_rfl
theorem zv_85 : ZV Tryd.prog 85 = some (.nils) := by kernel_rfl
theorem zok_85 : ZOk Tryd.prog 85 1 = true := by kernel_rfl
theorem by_85 : byOf Tryd.prog 85 = 24 := by kernel_rfl
theorem cells_86 : Tryd.prog.cellsOf 86 = 7 := by kernel_rfl
theorem ti_86 : TI Tryd.prog 86 = some (true, 7) := by kernel_rfl
theorem fi_86_0 : FI Tryd.prog 86 0 = some (0, (false, 1)) := by kernel_rfl
theorem fi_86_1 : FI Tryd.prog 86 1 = some (1, (true, 4)) := by kernel_rfl
theorem fi_86_2 : FI Tryd.prog 86 2 = some (5, (false, 1)) := by kernel_rfl
theorem fi_86_3 : FI Tryd.prog 86 3 = some (6, (false, 1)) := by kernel_rfl
theorem si_86 : SI Tryd.prog 86 = some [(0, 1), (1, 4), (5, 1), (6, 1)] := by kernel_rfl
theorem zv_86 : ZV Tryd.prog 86 = some (.agg [.int .i64 0, .str [], .nils, .str [], .nils, .bool false, .bool false]) := by kernel_rfl
theorem zok_86 : ZOk Tryd.prog 86 7 = true := by kernel_rfl
theorem by_86 : byOf Tryd.prog 86 = 96 := by kernel_rfl
theorem cells_87 : Tryd.prog.cellsOf 87 = 7 := by kernel_rfl
theorem ti_87 : TI Tryd.prog 87 = some (true, 7) := by kernel_rfl
theorem fi_87_0 : FI Tryd.prog 87 0 = some (0, (false, 1)) := by kernel_rfl
theorem fi_87_1 : FI Tryd.prog 87 1 = some (1, (true, 4)) := by kernel_rfl
theorem fi_87_2 : FI Tryd.prog 87 2 = some (5, (false, 1)) := by kernel_rfl
theorem fi_87_3 : FI Tryd.prog 87 3 = some (6, (false, 1)) := by kernel_rfl
theorem si_87 : SI Tryd.prog 87 = some [(0, 1), (1, 4), (5, 1), (6, 1)] := by kernel_rfl
theorem zv_87 : ZV Tryd.prog 87 = some (.agg [.int .i64 0, .str [], .nils, .str [], .nils, .bool false, .bool false]) := by kernel_rfl
theorem zok_87 : ZOk Tryd.prog 87 7 = true := by kernel_rfl
theorem by_87 : byOf Tryd.prog 87 = 96 := by kernel_rfl
theorem cells_88 : Tryd.prog.cellsOf 88 = 1 := by kernel_rfl
theorem ti_88 : TI Tryd.prog 88 = some (false, 1) := by kernel_rfl
theorem zv_88 : ZV Tryd.prog 88 = some (.any) := by kernel_rfl
theorem zok_88 : ZOk Tryd.prog 88 1 = true := by kernel_rfl
theorem by_88 : byOf Tryd.prog 88 = 8 := by kernel_rfl
theorem cells_89 : Tryd.prog.cellsOf 89 = 1 := by kernel_rfl
theorem ti_89 : TI Tryd.prog 89 = some (false, 1) := by kernel_rfl
theorem zv_89 : ZV Tryd.prog 89 = some (.any) := by kernel_rfl
theorem zok_89 : ZOk Tryd.prog 89 1 = true := by kernel_rfl
theorem by_89 : byOf Tryd.prog 89 = 8 := by kernel_rfl
theorem cells_90 : Tryd.prog.cellsOf 90 = 1 := by kernel_rfl
theorem ti_90 : TI Tryd.prog 90 = some (false, 1) := by kernel_rfl
theorem zv_90 : ZV Tryd.prog 90 = some (.any) := by kernel_rfl
theorem zok_90 : ZOk Tryd.prog 90 1 = true := by kernel_rfl
theorem by_90 : byOf Tryd.prog 90 = 8 := by kernel_rfl
theorem cells_91 : Tryd.prog.cellsOf 91 = 1 := by kernel_rfl
theorem ti_91 : TI Tryd.prog 91 = some (false, 1) := by kernel_rfl
theorem zv_91 : ZV Tryd.prog 91 = some (.any) := by kernel_rfl
theorem zok_91 : ZOk Tryd.prog 91 1 = true := by kernel_rfl
theorem by_91 : byOf Tryd.prog 91 = 8 := by kernel_rfl
theorem cells_92 : Tryd.prog.cellsOf 92 = 1 := by kernel_rfl
theorem ti_92 : TI Tryd.prog 92 = some (false, 1) := by kernel_rfl
theorem ei_92 : EI Tryd.prog 92 = some (99, 2) := by kernel_rfl
theorem isSli_92 : isSli Tryd.prog 92 = true := by kernel_rfl
theorem notInt_92 : notInt Tryd.prog 92 = true := by kernel_rfl
theorem zv_92 : ZV Tryd.prog 92 = some (.nils) := by kernel_rfl
theorem zok_92 : ZOk Tryd.prog 92 1 = true := by kernel_rfl
theorem by_92 : byOf Tryd.prog 92 = 24 := by kernel_rfl
theorem cells_93 : Tryd.prog.cellsOf 93 = 1 := by kernel_rfl
theorem ti_93 : TI Tryd.prog 93 = some (false, 1) := by kernel_rfl
theorem ei_93 : EI Tryd.prog 93 = some (134, 8) := by kernel_rfl
theorem isSli_93 : isSli Tryd.prog 93 = true := by kernel_rfl
theorem notInt_93 : notInt Tryd.prog 93 = true := by kernel_rfl
theorem zv_93 : ZV Tryd.prog 93 = some (.nils) := by kernel_rfl
theorem zok_93 : ZOk Tryd.prog 93 1 = true := by kernel_rfl
theorem by_93 : byOf Tryd.prog 93 = 24 := by kernel_rfl
theorem cells_95 : Tryd.prog.cellsOf 95 = 1 := by kernel_rfl
theorem ti_95 : TI Tryd.prog 95 = some (false, 1) := by kernel_rfl
theorem zv_95 : ZV Tryd.prog 95 = some (.any) := by kernel_rfl
theorem zok_95 : ZOk Tryd.prog 95 1 = true := by kernel_rfl
theorem by_95 : byOf Tryd.prog 95 = 8 := by kernel_rfl
theorem cells_96 : Tryd.prog.cellsOf 96 = 2 := by kernel_rfl
theorem ti_96 : TI Tryd.prog 96 = some (true, 2) := by kernel_rfl
theorem fi_96_0 : FI Tryd.prog 96 0 = some (0, (false, 1)) := by kernel_rfl
theorem fi_96_1 : FI Tryd.prog 96 1 = some (1, (false, 1)) := by kernel_rfl
theorem si_96 : SI Tryd.prog 96 = some [(0, 1), (1, 1)] := by kernel_rfl
theorem zv_96 : ZV Tryd.prog 96 = some (.agg [.nils, .nils]) := by kernel_rfl
theorem zok_96 : ZOk Tryd.prog 96 2 = true := by kernel_rfl
theorem by_96 : byOf Tryd.prog 96 = 48 := by kernel_rfl
theorem cells_97 : Tryd.prog.cellsOf 97 = 2 := by kernel_rfl
theorem ti_97 : TI Tryd.prog 97 = some (true, 2) := by kernel_rfl
theorem fi_97_0 : FI Tryd.prog 97 0 = some (0, (false, 1)) := by kernel_rfl
theorem fi_97_1 : FI Tryd.prog 97 1 = some (1, (false, 1)) := by kernel_rfl
theorem si_97 : SI Tryd.prog 97 = some [(0, 1), (1, 1)] := by kernel_rfl
theorem zv_97 : ZV Tryd.prog 97 = some (.agg [.nils, .nils]) := by kernel_rfl
theorem zok_97 : ZOk Tryd.prog 97 2 = true := by kernel_rfl
theorem by_97 : byOf Tryd.prog 97 = 48 := by kernel_rfl
theorem cells_98 : Tryd.prog.cellsOf 98 = 2 := by kernel_rfl
theorem ti_98 : TI Tryd.prog 98 = some (true, 2) := by kernel_rfl
theorem fi_98_0 : FI Tryd.prog 98 0 = some (0, (false, 1)) := by kernel_rfl
theorem fi_98_1 : FI Tryd.prog 98 1 = some (1, (false, 1)) := by kernel_rfl
theorem si_98 : SI Tryd.prog 98 = some [(0, 1), (1, 1)] := by kernel_rfl
theorem zv_98 : ZV Tryd.prog 98 = some (.agg [.int .i64 0, .int .i64 0]) := by kernel_rfl
theorem zok_98 : ZOk Tryd.prog 98 2 = true := by kernel_rfl
theorem by_98 : byOf Tryd.prog 98 = 16 := by kernel_rfl
theorem cells_99 : Tryd.prog.cellsOf 99 = 2 := by kernel_rfl
theorem ti_99 : TI Tryd.prog 99 = some (true, 2) := by kernel_rfl
theorem fi_99_0 : FI Tryd.prog 99 0 = some (0, (false, 1)) := by kernel_rfl
theorem fi_99_1 : FI Tryd.prog 99 1 = some (1, (false, 1)) := by kernel_rfl
theorem si_99 : SI Tryd.prog 99 = some [(0, 1), (1, 1)] := by kernel_rfl
theorem zv_99 : ZV Tryd.prog 99 = some (.agg [.int .i64 0, .int .i64 0]) := by kernel_rfl
theorem zok_99 : ZOk Tryd.prog 99 2 = true := by kernel_rfl
theorem by_99 : byOf Tryd.prog 99 = 16 := by kernel_rfl
theorem cells_100 : Tryd.prog.cellsOf 100 = 1 := by kernel_rfl
theorem ti_100 : TI Tryd.prog 100 = some (false, 1) := by kernel_rfl
theorem zv_100 : ZV Tryd.prog 100 = some (.any) := by kernel_rfl
theorem zok_100 : ZOk Tryd.prog 100 1 = true := by kernel_rfl
theorem by_100 : byOf Tryd.prog 100 = 8 := by kernel_rfl
theorem cells_101 : Tryd.prog.cellsOf 101 = 1 := by kernel_rfl
theorem ti_101 : TI Tryd.prog 101 = some (false, 1) := by kernel_rfl
theorem zv_101 : ZV Tryd.prog 101 = some (.any) := by kernel_rfl
theorem zok_101 : ZOk Tryd.prog 101 1 = true := by kernel_rfl
theorem by_101 : byOf Tryd.prog 101 = 8 := by kernel_rfl
theorem cells_102 : Tryd.prog.cellsOf 102 = 2 := by kernel_rfl
theorem ti_102 : TI Tryd.prog 102 = some (true, 2) := by kernel_rfl
theorem fi_102_0 : FI Tryd.prog 102 0 = some (0, (false, 1)) := by kernel_rfl
theorem fi_102_1 : FI Tryd.prog 102 1 = some (1, (false, 1)) := by kernel_rfl
theorem si_102 : SI Tryd.prog 102 = some [(0, 1), (1, 1)] := by kernel_rfl
theorem zv_102 : ZV Tryd.prog 102 = some (.agg [.nils, .nils]) := by kernel_rfl
theorem zok_102 : ZOk Tryd.prog 102 2 = true := by kernel_rfl
theorem by_102 : byOf Tryd.prog 102 = 48 := by kernel_rfl
theorem cells_103 : Tryd.prog.cellsOf 103 = 2 := by kernel_rfl
theorem ti_103 : TI Tryd.prog 103 = some (true, 2) := by kernel_rfl
theorem fi_103_0 : FI Tryd.prog 103 0 = some (0, (false, 1)) := by kernel_rfl
theorem fi_103_1 : FI Tryd.prog 103 1 = some (1, (false, 1)) := by kernel_rfl
theorem si_103 : SI Tryd.prog 103 = some [(0, 1), (1, 1)] := by kernel_rfl
theorem zv_103 : ZV Tryd.prog 103 = some (.agg [.nils, .nils]) := by kernel_rfl
theorem zok_103 : ZOk Tryd.prog 103 2 = true := by kernel_rfl
theorem by_103 : byOf Tryd.prog 103 = 48 := by kernel_rfl
theorem cells_104 : Tryd.prog.cellsOf 104 = 1 := by kernel_rfl
theorem ti_104 : TI Tryd.prog 104 = some (false, 1) := by kernel_rfl
theorem zv_104 : ZV Tryd.prog 104 = some (.any) := by kernel_rfl
theorem zok_104 : ZOk Tryd.prog 104 1 = true := by kernel_rfl
theorem by_104 : byOf Tryd.prog 104 = 8 := by kernel_rfl
theorem cells_105 : Tryd.prog.cellsOf 105 = 1 := by kernel_rfl
theorem ti_105 : TI Tryd.prog 105 = some (false, 1) := by kernel_rfl
theorem zv_105 : ZV Tryd.prog 105 = some (.any) := by kernel_rfl
theorem zok_105 : ZOk Tryd.prog 105 1 = true := by kernel_rfl
theorem by_105 : byOf Tryd.prog 105 = 8 := by kernel_rfl
theorem cells_106 : Tryd.prog.cellsOf 106 = 1 := by kernel_rfl
theorem ti_106 : TI Tryd.prog 106 = some (false, 1) := by kernel_rfl
theorem ei_106 : EI Tryd.prog 106 = some (3, 1) := by kernel_rfl
theorem isSli_106 : isSli Tryd.prog 106 = true := by kernel_rfl
theorem notInt_106 : notInt Tryd.prog 106 = true := by kernel_rfl
theorem zv_106 : ZV Tryd.prog 106 = some (.nils) := by kernel_rfl
theorem zok_106 : ZOk Tryd.prog 106 1 = true := by kernel_rfl
theorem by_106 : byOf Tryd.prog 106 = 24 := by kernel_rfl
theorem cells_107 : Tryd.prog.cellsOf 107 = 1 := by kernel_rfl
theorem ti_107 : TI Tryd.prog 107 = some (false, 1) := by kernel_rfl
theorem zv_107 : ZV Tryd.prog 107 = some (.any) := by kernel_rfl
theorem zok_107 : ZOk Tryd.prog 107 1 = true := by kernel_rfl
theorem by_107 : byOf Tryd.prog 107 = 8 := by kernel_rfl
theorem cells_108 : Tryd.prog.cellsOf 108 = 1 := by kernel_rfl
theorem ti_108 : TI Tryd.prog 108 = some (false, 1) := by kernel_rfl
theorem zv_108 : ZV Tryd.prog 108 = some (.any) := by kernel_rfl
theorem zok_108 : ZOk Tryd.prog 108 1 = true := by kernel_rfl
theorem by_108 : byOf Tryd.prog 108 = 8 := by kernel_rfl
theorem cells_109 : Tryd.prog.cellsOf 109 = 1 := by kernel_rfl
theorem ti_109 : TI Tryd.prog 109 = some (false, 1) := by kernel_rfl
theorem zv_109 : ZV Tryd.prog 109 = some (.any) := by kernel_rfl
theorem zok_109 : ZOk Tryd.prog 109 1 = true := by kernel_rfl
theorem by_109 : byOf Tryd.prog 109 = 8 := by kernel_rfl
theorem cells_110 : Tryd.prog.cellsOf 110 = 1 := by kernel_rfl
theorem ti_110 : TI Tryd.prog 110 = some (false, 1) := by kernel_rfl
theorem zv_110 : ZV Tryd.prog 110 = some (.any) := by kernel_rfl
theorem zok_110 : ZOk Tryd.prog 110 1 = true := by kernel_rfl
theorem by_110 : byOf Tryd.prog 110 = 8 := by kernel_rfl
theorem cells_111 : Tryd.prog.cellsOf 111 = 2 := by kernel_rfl
theorem ti_111 : TI Tryd.prog 111 = some (true, 2) := by kernel_rfl
theorem fi_111_0 : FI Tryd.prog 111 0 = some (0, (false, 1)) := by kernel_rfl
theorem fi_111_1 : FI Tryd.prog 111 1 = some (1, (false, 1)) := by kernel_rfl
theorem si_111 : SI Tryd.prog 111 = some [(0, 1), (1, 1)] := by kernel_rfl
theorem zv_111 : ZV Tryd.prog 111 = some (.agg [.str [], .str []]) := by kernel_rfl
theorem zok_111 : ZOk Tryd.prog 111 2 = true := by kernel_rfl
theorem by_111 : byOf Tryd.prog 111 = 32 := by kernel_rfl
theorem cells_112 : Tryd.prog.cellsOf 112 = 2 := by kernel_rfl
theorem ti_112 : TI Tryd.prog 112 = some (true, 2) := by kernel_rfl
theorem fi_112_0 : FI Tryd.prog 112 0 = some (0, (false, 1)) := by kernel_rfl
theorem fi_112_1 : FI Tryd.prog 112 1 = some (1, (false, 1)) := by kernel_rfl
theorem si_112 : SI Tryd.prog 112 = some [(0, 1), (1, 1)] := by kernel_rfl
theorem zv_112 : ZV Tryd.prog 112 = some (.agg [.str [], .str []]) := by kernel_rfl
theorem zok_112 : ZOk Tryd.prog 112 2 = true := by kernel_rfl
theorem by_112 : byOf Tryd.prog 112 = 32 := by kernel_rfl
theorem cells_113 : Tryd.prog.cellsOf 113 = 1 := by kernel_rfl
theorem ti_113 : TI Tryd.prog 113 = some (false, 1) := by kernel_rfl
theorem zv_113 : ZV Tryd.prog 113 = some (.any) := by kernel_rfl
theorem zok_113 : ZOk Tryd.prog 113 1 = true := by kernel_rfl
theorem by_113 : byOf Tryd.prog 113 = 8 := by kernel_rfl
theorem cells_114 : Tryd.prog.cellsOf 114 = 1 := by kernel_rfl
theorem ti_114 : TI Tryd.prog 114 = some (false, 1) := by kernel_rfl
theorem zv_114 : ZV Tryd.prog 114 = some (.any) := by kernel_rfl
theorem zok_114 : ZOk Tryd.prog 114 1 = true := by kernel_rfl
theorem by_114 : byOf Tryd.prog 114 = 8 := by kernel_rfl
theorem cells_115 : Tryd.prog.cellsOf 115 = 1 := by kernel_rfl
theorem ti_115 : TI Tryd.prog 115 = some (false, 1) := by kernel_rfl
theorem zv_115 : ZV Tryd.prog 115 = some (.any) := by kernel_rfl
theorem zok_115 : ZOk Tryd.prog 115 1 = true := by kernel_rfl
theorem by_115 : byOf Tryd.prog 115 = 8 := by kernel_rfl
theorem cells_116 : Tryd.prog.cellsOf 116 = 1 := by kernel_rfl
theorem ti_116 : TI Tryd.prog 116 = some (false, 1) := by kernel_rfl
theorem isPtr_116 : isPtr Tryd.prog 116 = true := by kernel_rfl
theorem zv_116 : ZV Tryd.prog 116 = some (.nilp) := by kernel_rfl
theorem zok_116 : ZOk Tryd.prog 116 1 = true := by kernel_rfl
theorem by_116 : byOf Tryd.prog 116 = 8 := by kernel_rfl
theorem cells_117 : Tryd.prog.cellsOf 117 = 1 := by kernel_rfl
theorem ti_117 : TI Tryd.prog 117 = some (false, 1) := by kernel_rfl
theorem ei_117 : EI Tryd.prog 117 = some (5, 1) := by kernel_rfl
theorem isSli_117 : isSli Tryd.prog 117 = true := by kernel_rfl
theorem notInt_117 : notInt Tryd.prog 117 = true := by kernel_rfl
theorem zv_117 : ZV Tryd.prog 117 = some (.nils) := by kernel_rfl
theorem zok_117 : ZOk Tryd.prog 117 1 = true := by kernel_rfl
theorem by_117 : byOf Tryd.prog 117 = 24 := by kernel_rfl
theorem cells_118 : Tryd.prog.cellsOf 118 = 2 := by kernel_rfl
theorem ti_118 : TI Tryd.prog 118 = some (true, 2) := by kernel_rfl
theorem fi_118_0 : FI Tryd.prog 118 0 = some (0, (false, 1)) := by kernel_rfl
theorem fi_118_1 : FI Tryd.prog 118 1 = some (1, (false, 1)) := by kernel_rfl
theorem si_118 : SI Tryd.prog 118 = some [(0, 1), (1, 1)] := by kernel_rfl
theorem zv_118 : ZV Tryd.prog 118 = some (.agg [.nilp, .nils]) := by kernel_rfl
theorem zok_118 : ZOk Tryd.prog 118 2 = true := by kernel_rfl
theorem by_118 : byOf Tryd.prog 118 = 32 := by kernel_rfl
theorem cells_119 : Tryd.prog.cellsOf 119 = 2 := by kernel_rfl
theorem ti_119 : TI Tryd.prog 119 = some (true, 2) := by kernel_rfl
theorem fi_119_0 : FI Tryd.prog 119 0 = some (0, (false, 1)) := by kernel_rfl
theorem fi_119_1 : FI Tryd.prog 119 1 = some (1, (false, 1)) := by kernel_rfl
theorem si_119 : SI Tryd.prog 119 = some [(0, 1), (1, 1)] := by kernel_rfl
theorem zv_119 : ZV Tryd.prog 119 = some (.agg [.nilp, .nils]) := by kernel_rfl
theorem zok_119 : ZOk Tryd.prog 119 2 = true := by kernel_rfl
theorem by_119 : byOf Tryd.prog 119 = 32 := by kernel_rfl
theorem cells_123 : Tryd.prog.cellsOf 123 = 1 := by kernel_rfl
theorem ti_123 : TI Tryd.prog 123 = some (false, 1) := by kernel_rfl
theorem zv_123 : ZV Tryd.prog 123 = some (.any) := by kernel_rfl
theorem zok_123 : ZOk Tryd.prog 123 1 = true := by kernel_rfl
theorem by_123 : byOf Tryd.prog 123 = 8 := by kernel_rfl
theorem cells_124 : Tryd.prog.cellsOf 124 = 1 := by kernel_rfl
theorem ti_124 : TI Tryd.prog 124 = some (false, 1) := by kernel_rfl
theorem zv_124 : ZV Tryd.prog 124 = some (.any) := by kernel_rfl
theorem zok_124 : ZOk Tryd.prog 124 1 = true := by kernel_rfl
theorem by_124 : byOf Tryd.prog 124 = 8 := by kernel_rfl
theorem cells_125 : Tryd.prog.cellsOf 125 = 9 := by kernel_rfl
theorem ti_125 : TI Tryd.prog 125 = some (true, 9) := by kernel_rfl
theorem ai_125 : AI Tryd.prog 125 = some (9, (false, 1)) := by kernel_rfl
theorem zv_125 : ZV Tryd.prog 125 = some (.agg [.str [], .str [], .str [], .str [], .str [], .str [], .str [], .str [], .str []]) := by kernel_rfl
theorem zok_125 : ZOk Tryd.prog 125 9 = true := by kernel_rfl
theorem by_125 : byOf Tryd.prog 125 = 144 := by kernel_rfl
theorem cells_126 : Tryd.prog.cellsOf 126 = 1 := by kernel_rfl
theorem ti_126 : TI Tryd.prog 126 = some (false, 1) := by kernel_rfl
theorem zv_126 : ZV Tryd.prog 126 = some (.any) := by kernel_rfl
theorem zok_126 : ZOk Tryd.prog 126 1 = true := by kernel_rfl
theorem by_126 : byOf Tryd.prog 126 = 8 := by kernel_rfl
theorem cells_127 : Tryd.prog.cellsOf 127 = 1 := by kernel_rfl
theorem ti_127 : TI Tryd.prog 127 = some (false, 1) := by kernel_rfl
theorem zv_127 : ZV Tryd.prog 127 = some (.any) := by kernel_rfl
theorem zok_127 : ZOk Tryd.prog 127 1 = true := by kernel_rfl
theorem by_127 : byOf Tryd.prog 127 = 8 := by kernel_rfl
theorem cells_128 : Tryd.prog.cellsOf 128 = 4 := by kernel_rfl
theorem ti_128 : TI Tryd.prog 128 = some (true, 4) := by kernel_rfl
theorem ai_128 : AI Tryd.prog 128 = some (4, (false, 1)) := by kernel_rfl
theorem zv_128 : ZV Tryd.prog 128 = some (.agg [.str [], .str [], .str [], .str []]) := by kernel_rfl
theorem zok_128 : ZOk Tryd.prog 128 4 = true := by kernel_rfl
theorem by_128 : byOf Tryd.prog 128 = 64 := by kernel_rfl
theorem cells_129 : Tryd.prog.cellsOf 129 = 1 := by kernel_rfl
theorem ti_129 : TI Tryd.prog 129 = some (false, 1) := by kernel_rfl
theorem zv_129 : ZV Tryd.prog 129 = some (.any) := by kernel_rfl
theorem zok_129 : ZOk Tryd.prog 129 1 = true := by kernel_rfl
theorem by_129 : byOf Tryd.prog 129 = 8 := by kernel_rfl
theorem cells_130 : Tryd.prog.cellsOf 130 = 1 := by kernel_rfl
theorem ti_130 : TI Tryd.prog 130 = some (false, 1) := by kernel_rfl
theorem zv_130 : ZV Tryd.prog 130 = some (.any) := by kernel_rfl
theorem zok_130 : ZOk Tryd.prog 130 1 = true := by kernel_rfl
theorem by_130 : byOf Tryd.prog 130 = 8 := by kernel_rfl
theorem cells_131 : Tryd.prog.cellsOf 131 = 1 := by kernel_rfl
theorem ti_131 : TI Tryd.prog 131 = some (false, 1) := by kernel_rfl
theorem zv_131 : ZV Tryd.prog 131 = some (.any) := by kernel_rfl
theorem zok_131 : ZOk Tryd.prog 131 1 = true := by kernel_rfl
theorem by_131 : byOf Tryd.prog 131 = 8 := by kernel_rfl
theorem cells_132 : Tryd.prog.cellsOf 132 = 1 := by kernel_rfl
theorem ti_132 : TI Tryd.prog 132 = some (false, 1) := by kernel_rfl
theorem zv_132 : ZV Tryd.prog 132 = some (.any) := by kernel_rfl
theorem zok_132 : ZOk Tryd.prog 132 1 = true := by kernel_rfl
theorem by_132 : byOf Tryd.prog 132 = 8 := by kernel_rfl
theorem cells_133 : Tryd.prog.cellsOf 133 = 1 := by kernel_rfl
theorem ti_133 : TI Tryd.prog 133 = some (false, 1) := by kernel_rfl
theorem zv_133 : ZV Tryd.prog 133 = some (.any) := by kernel_rfl
theorem zok_133 : ZOk Tryd.prog 133 1 = true := by kernel_rfl
theorem by_133 : byOf Tryd.prog 133 = 8 := by kernel_rfl
theorem cells_134 : Tryd.prog.cellsOf 134 = 8 := by kernel_rfl
theorem ti_134 : TI Tryd.prog 134 = some (true, 8) := by kernel_rfl
theorem ai_134 : AI Tryd.prog 134 = some (8, (false, 1)) := by kernel_rfl
theorem zv_134 : ZV Tryd.prog 134 = some (.agg [.int .i64 0, .int .i64 0, .int .i64 0, .int .i64 0, .int .i64 0, .int .i64 0, .int .i64 0, .int .i64 0]) := by kernel_rfl
theorem zok_134 : ZOk Tryd.prog 134 8 = true := by kernel_rfl
theorem by_134 : byOf Tryd.prog 134 = 64 := by kernel_rfl
theorem cells_135 : Tryd.prog.cellsOf 135 = 1 := by kernel_rfl
theorem ti_135 : TI Tryd.prog 135 = some (false, 1) := by kernel_rfl
theorem zv_135 : ZV Tryd.prog 135 = some (.any) := by kernel_rfl
theorem zok_135 : ZOk Tryd.prog 135 1 = true := by kernel_rfl
theorem by_135 : byOf Tryd.prog 135 = 8 := by kernel_rfl
theorem cells_137 : Tryd.prog.cellsOf 137 = 1 := by kernel_rfl
theorem ti_137 : TI Tryd.prog 137 = some (false, 1) := by kernel_rfl
theorem zv_137 : ZV Tryd.prog 137 = some (.any) := by kernel_rfl
theorem zok_137 : ZOk Tryd.prog 137 1 = true := by kernel_rfl
theorem by_137 : byOf Tryd.prog 137 = 8 := by kernel_rfl
theorem cells_138 : Tryd.prog.cellsOf 138 = 1 := by kernel_rfl
theorem ti_138 : TI Tryd.prog 138 = some (false, 1) := by kernel_rfl
theorem zv_138 : ZV Tryd.prog 138 = some (.any) := by kernel_rfl
theorem zok_138 : ZOk Tryd.prog 138 1 = true := by kernel_rfl
theorem by_138 : byOf Tryd.prog 138 = 8 := by kernel_rfl
theorem cells_139 : Tryd.prog.cellsOf 139 = 1 := by kernel_rfl
theorem ti_139 : TI Tryd.prog 139 = some (false, 1) := by kernel_rfl
theorem zv_139 : ZV Tryd.prog 139 = some (.any) := by kernel_rfl
theorem zok_139 : ZOk Tryd.prog 139 1 = true := by kernel_rfl
theorem by_139 : byOf Tryd.prog 139 = 8 := by kernel_rfl
theorem cells_140 : Tryd.prog.cellsOf 140 = 1 := by kernel_rfl
theorem ti_140 : TI Tryd.prog 140 = some (false, 1) := by kernel_rfl
theorem zv_140 : ZV Tryd.prog 140 = some (.any) := by kernel_rfl
theorem zok_140 : ZOk Tryd.prog 140 1 = true := by kernel_rfl
theorem by_140 : byOf Tryd.prog 140 = 8 := by kernel_rfl
theorem cells_141 : Tryd.prog.cellsOf 141 = 1 := by kernel_rfl
theorem ti_141 : TI Tryd.prog 141 = some (false, 1) := by kernel_rfl
theorem ei_141 : EI Tryd.prog 141 = some (39, 1) := by kernel_rfl
theorem isSli_141 : isSli Tryd.prog 141 = true := by kernel_rfl
theorem notInt_141 : notInt Tryd.prog 141 = true := by kernel_rfl
theorem zv_141 : ZV Tryd.prog 141 = some (.nils) := by kernel_rfl
theorem zok_141 : ZOk Tryd.prog 141 1 = true := by kernel_rfl
theorem by_141 : byOf Tryd.prog 141 = 24 := by kernel_rfl
theorem cells_142 : Tryd.prog.cellsOf 142 = 1 := by kernel_rfl
theorem ti_142 : TI Tryd.prog 142 = some (false, 1) := by kernel_rfl
theorem zv_142 : ZV Tryd.prog 142 = some (.any) := by kernel_rfl
theorem zok_142 : ZOk Tryd.prog 142 1 = true := by kernel_rfl
theorem by_142 : byOf Tryd.prog 142 = 8 := by kernel_rfl
theorem cells_143 : Tryd.prog.cellsOf 143 = 1 := by kernel_rfl
theorem ti_143 : TI Tryd.prog 143 = some (false, 1) := by kernel_rfl
theorem zv_143 : ZV Tryd.prog 143 = some (.any) := by kernel_rfl
theorem zok_143 : ZOk Tryd.prog 143 1 = true := by kernel_rfl
theorem by_143 : byOf Tryd.prog 143 = 8 := by kernel_rfl
theorem cells_144 : Tryd.prog.cellsOf 144 = 1 := by kernel_rfl
theorem ti_144 : TI Tryd.prog 144 = some (false, 1) := by kernel_rfl
theorem zv_144 : ZV Tryd.prog 144 = some (.any) := by kernel_rfl
theorem zok_144 : ZOk Tryd.prog 144 1 = true := by kernel_rfl
theorem by_144 : byOf Tryd.prog 144 = 8 := by kernel_rfl
theorem cells_145 : Tryd.prog.cellsOf 145 = 1 := by kernel_rfl
theorem ti_145 : TI Tryd.prog 145 = some (false, 1) := by kernel_rfl
theorem zv_145 : ZV Tryd.prog 145 = some (.any) := by kernel_rfl
theorem zok_145 : ZOk Tryd.prog 145 1 = true := by kernel_rfl
theorem by_145 : byOf Tryd.prog 145 = 8 := by kernel_rfl
theorem cells_147 : Tryd.prog.cellsOf 147 = 1 := by kernel_rfl
theorem ti_147 : TI Tryd.prog 147 = some (false, 1) := by kernel_rfl
theorem zv_147 : ZV Tryd.prog 147 = some (.any) := by kernel_rfl
theorem zok_147 : ZOk Tryd.prog 147 1 = true := by kernel_rfl
theorem by_147 : byOf Tryd.prog 147 = 8 := by kernel_rfl
theorem cells_148 : Tryd.prog.cellsOf 148 = 1 := by kernel_rfl
theorem ti_148 : TI Tryd.prog 148 = some (false, 1) := by kernel_rfl
theorem zv_148 : ZV Tryd.prog 148 = some (.any) := by kernel_rfl
theorem zok_148 : ZOk Tryd.prog 148 1 = true := by kernel_rfl
theorem by_148 : byOf Tryd.prog 148 = 8 := by kernel_rfl
theorem cells_149 : Tryd.prog.cellsOf 149 = 1 := by kernel_rfl
theorem ti_149 : TI Tryd.prog 149 = some (false, 1) := by kernel_rfl
theorem zv_149 : ZV Tryd.prog 149 = some (.any) := by kernel_rfl
theorem zok_149 : ZOk Tryd.prog 149 1 = true := by kernel_rfl
theorem by_149 : byOf Tryd.prog 149 = 8 := by kernel_rfl
theorem cells_150 : Tryd.prog.cellsOf 150 = 1 := by kernel_rfl
theorem ti_150 : TI Tryd.prog 150 = some (false, 1) := by kernel_rfl
theorem zv_150 : ZV Tryd.prog 150 = some (.any) := by kernel_rfl
theorem zok_150 : ZOk Tryd.prog 150 1 = true := by kernel_rfl
theorem by_150 : byOf Tryd.prog 150 = 8 := by kernel_rfl
theorem cells_151 : Tryd.prog.cellsOf 151 = 1 := by kernel_rfl
theorem ti_151 : TI Tryd.prog 151 = some (false, 1) := by kernel_rfl
theorem zv_151 : ZV Tryd.prog 151 = some (.any) := by kernel_rfl
theorem zok_151 : ZOk Tryd.prog 151 1 = true := by kernel_rfl
theorem by_151 : byOf Tryd.prog 151 = 8 := by kernel_rfl
theorem cells_152 : Tryd.prog.cellsOf 152 = 1 := by kernel_rfl
theorem ti_152 : TI Tryd.prog 152 = some (false, 1) := by kernel_rfl
theorem zv_152 : ZV Tryd.prog 152 = some (.any) := by kernel_rfl
theorem zok_152 : ZOk Tryd.prog 152 1 = true := by kernel_rfl
theorem by_152 : byOf Tryd.prog 152 = 8 := by kernel_rfl
theorem cells_153 : Tryd.prog.cellsOf 153 = 1 := by kernel_rfl
theorem ti_153 : TI Tryd.prog 153 = some (false, 1) := by kernel_rfl
theorem isPtr_153 : isPtr Tryd.prog 153 = true := by kernel_rfl
theorem zv_153 : ZV Tryd.prog 153 = some (.nilp) := by kernel_rfl
theorem zok_153 : ZOk Tryd.prog 153 1 = true := by kernel_rfl
theorem by_153 : byOf Tryd.prog 153 = 8 := by kernel_rfl
theorem cells_154 : Tryd.prog.cellsOf 154 = 1 := by kernel_rfl
theorem ti_154 : TI Tryd.prog 154 = some (false, 1) := by kernel_rfl
theorem zv_154 : ZV Tryd.prog 154 = some (.any) := by kernel_rfl
theorem zok_154 : ZOk Tryd.prog 154 1 = true := by kernel_rfl
theorem by_154 : byOf Tryd.prog 154 = 8 := by kernel_rfl
theorem cells_155 : Tryd.prog.cellsOf 155 = 1 := by kernel_rfl
theorem ti_155 : TI Tryd.prog 155 = some (false, 1) := by kernel_rfl
theorem zv_155 : ZV Tryd.prog 155 = some (.any) := by kernel_rfl
theorem zok_155 : ZOk Tryd.prog 155 1 = true := by kernel_rfl
theorem by_155 : byOf Tryd.prog 155 = 8 := by kernel_rfl
theorem cells_156 : Tryd.prog.cellsOf 156 = 1 := by kernel_rfl
theorem ti_156 : TI Tryd.prog 156 = some (false, 1) := by kernel_rfl
theorem zv_156 : ZV Tryd.prog 156 = some (.any) := by kernel_rfl
theorem zok_156 : ZOk Tryd.prog 156 1 = true := by kernel_rfl
theorem by_156 : byOf Tryd.prog 156 = 8 := by kernel_rfl
theorem cells_157 : Tryd.prog.cellsOf 157 = 1 := by kernel_rfl
theorem ti_157 : TI Tryd.prog 157 = some (false, 1) := by kernel_rfl
theorem zv_157 : ZV Tryd.prog 157 = some (.any) := by kernel_rfl
theorem zok_157 : ZOk Tryd.prog 157 1 = true := by kernel_rfl
theorem by_157 : byOf Tryd.prog 157 = 8 := by kernel_rfl
theorem cells_158 : Tryd.prog.cellsOf 158 = 1 := by kernel_rfl
theorem ti_158 : TI Tryd.prog 158 = some (false, 1) := by kernel_rfl
theorem zv_158 : ZV Tryd.prog 158 = some (.any) := by kernel_rfl
theorem zok_158 : ZOk Tryd.prog 158 1 = true := by kernel_rfl
theorem by_158 : byOf Tryd.prog 158 = 8 := by kernel_rfl
theorem cells_159 : Tryd.prog.cellsOf 159 = 1 := by kernel_rfl
theorem ti_159 : TI Tryd.prog 159 = some (false, 1) := by kernel_rfl
theorem zv_159 : ZV Tryd.prog 159 = some (.any) := by kernel_rfl
theorem zok_159 : ZOk Tryd.prog 159 1 = true := by kernel_rfl
theorem by_159 : byOf Tryd.prog 159 = 8 := by kernel_rfl
theorem cells_160 : Tryd.prog.cellsOf 160 = 1 := by kernel_rfl
theorem ti_160 : TI Tryd.prog 160 = some (false, 1) := by kernel_rfl
theorem intK_160 : intK Tryd.prog 160 = some .u64 := by kernel_rfl
theorem un_160 : Tryd.prog.underlying 160 = some (.int .u64) := by kernel_rfl
theorem zv_160 : ZV Tryd.prog 160 = some (.int .u64 0) := by kernel_rfl
theorem zok_160 : ZOk Tryd.prog 160 1 = true := by kernel_rfl
theorem by_160 : byOf Tryd.prog 160 = 8 := by kernel_rfl
theorem cells_162 : Tryd.prog.cellsOf 162 = 1 := by kernel_rfl
theorem ti_162 : TI Tryd.prog 162 = some (false, 1) := by kernel_rfl
theorem zv_162 : ZV Tryd.prog 162 = some (.any) := by kernel_rfl
theorem zok_162 : ZOk Tryd.prog 162 1 = true := by kernel_rfl
theorem by_162 : byOf Tryd.prog 162 = 8 := by kernel_rfl
theorem cells_163 : Tryd.prog.cellsOf 163 = 1 := by kernel_rfl
theorem ti_163 : TI Tryd.prog 163 = some (false, 1) := by kernel_rfl
theorem zv_163 : ZV Tryd.prog 163 = some (.any) := by kernel_rfl
theorem zok_163 : ZOk Tryd.prog 163 1 = true := by kernel_rfl
theorem by_163 : byOf Tryd.prog 163 = 8 := by kernel_rfl
theorem cells_164 : Tryd.prog.cellsOf 164 = 1 := by kernel_rfl
theorem ti_164 : TI Tryd.prog 164 = some (false, 1) := by kernel_rfl
theorem zv_164 : ZV Tryd.prog 164 = some (.any) := by kernel_rfl
theorem zok_164 : ZOk Tryd.prog 164 1 = true := by kernel_rfl
theorem by_164 : byOf Tryd.prog 164 = 8 := by kernel_rfl
theorem cells_165 : Tryd.prog.cellsOf 165 = 1 := by kernel_rfl
theorem ti_165 : TI Tryd.prog 165 = some (false, 1) := by kernel_rfl
theorem zv_165 : ZV Tryd.prog 165 = some (.any) := by kernel_rfl
theorem zok_165 : ZOk Tryd.prog 165 1 = true := by kernel_rfl
theorem by_165 : byOf Tryd.prog 165 = 8 := by kernel_rfl
theorem cells_166 : Tryd.prog.cellsOf 166 = 1 := by kernel_rfl
theorem ti_166 : TI Tryd.prog 166 = some (false, 1) := by kernel_rfl
theorem zv_166 : ZV Tryd.prog 166 = some (.any) := by kernel_rfl
theorem zok_166 : ZOk Tryd.prog 166 1 = true := by kernel_rfl
theorem by_166 : byOf Tryd.prog 166 = 8 := by kernel_rfl
theorem cells_169 : Tryd.prog.cellsOf 169 = 1 := by kernel_rfl
theorem ti_169 : TI Tryd.prog 169 = some (false, 1) := by kernel_rfl
theorem zv_169 : ZV Tryd.prog 169 = some (.any) := by kernel_rfl
theorem zok_169 : ZOk Tryd.prog 169 1 = true := by kernel_rfl
theorem by_169 : byOf Tryd.prog 169 = 8 := by kernel_rfl
theorem cells_170 : Tryd.prog.cellsOf 170 = 1 := by kernel_rfl
theorem ti_170 : TI Tryd.prog 170 = some (false, 1) := by kernel_rfl
theorem zv_170 : ZV Tryd.prog 170 = some (.any) := by kernel_rfl
theorem zok_170 : ZOk Tryd.prog 170 1 = true := by kernel_rfl
theorem by_170 : byOf Tryd.prog 170 = 8 := by kernel_rfl
theorem cells_171 : Tryd.prog.cellsOf 171 = 1 := by kernel_rfl
theorem ti_171 : TI Tryd.prog 171 = some (false, 1) := by kernel_rfl
theorem intK_171 : intK Tryd.prog 171 = some .u32 := by kernel_rfl
theorem un_171 : Tryd.prog.underlying 171 = some (.int .u32) := by kernel_rfl
theorem zv_171 : ZV Tryd.prog 171 = some (.int .u32 0) := by kernel_rfl
theorem zok_171 : ZOk Tryd.prog 171 1 = true := by kernel_rfl
theorem by_171 : byOf Tryd.prog 171 = 4 := by kernel_rfl
theorem cells_173 : Tryd.prog.cellsOf 173 = 1 := by kernel_rfl
theorem ti_173 : TI Tryd.prog 173 = some (false, 1) := by kernel_rfl
theorem zv_173 : ZV Tryd.prog 173 = some (.any) := by kernel_rfl
theorem zok_173 : ZOk Tryd.prog 173 1 = true := by kernel_rfl
theorem by_173 : byOf Tryd.prog 173 = 8 := by kernel_rfl
theorem cells_174 : Tryd.prog.cellsOf 174 = 1 := by kernel_rfl
theorem ti_174 : TI Tryd.prog 174 = some (false, 1) := by kernel_rfl
theorem intK_174 : intK Tryd.prog 174 = some .u64 := by kernel_rfl
theorem un_174 : Tryd.prog.underlying 174 = some (.int .u64) := by kernel_rfl
theorem zv_174 : ZV Tryd.prog 174 = some (.int .u64 0) := by kernel_rfl
theorem zok_174 : ZOk Tryd.prog 174 1 = true := by kernel_rfl
theorem by_174 : byOf Tryd.prog 174 = 8 := by kernel_rfl
theorem cells_176 : Tryd.prog.cellsOf 176 = 1 := by kernel_rfl
theorem ti_176 : TI Tryd.prog 176 = some (false, 1) := by kernel_rfl
theorem zv_176 : ZV Tryd.prog 176 = some (.any) := by kernel_rfl
theorem zok_176 : ZOk Tryd.prog 176 1 = true := by kernel_rfl
theorem by_176 : byOf Tryd.prog 176 = 8 := by kernel_rfl
theorem cells_177 : Tryd.prog.cellsOf 177 = 256 := by kernel_rfl
theorem ti_177 : TI Tryd.prog 177 = some (true, 256) := by kernel_rfl
theorem ai_177 : AI Tryd.prog 177 = some (256, (false, 1)) := by kernel_rfl
theorem zv_177 : ZV Tryd.prog 177 = some (.agg [.int .u8 0, .int .u8 0, .int .u8 0, .int .u8 0, .int .u8 0, .int .u8 0, .int .u8 0, .int .u8 0, .int .u8 0, .int .u8 0, .int .u8 0, .int .u8 0, .int .u8 0, .int .u8 0, .int .u8 0, .int .u8 0, .int .u8 0, .int .u8 0, .int .u8 0, .int .u8 0, .int .u8 0, .int .u8 0, .int .u8 0, .int .u8 0, .int .u8 0, .int .u8 0, .int .u8 0, .int .u8 0, .int .u8 0, .int .u8 0, .int .u8 0, .int .u8 0, .int .u8 0, .int .u8 0, .int .u8 0, .int .u8 0, .int .u8 0, .int .u8 0, .int .u8 0, .int .u8 0, .int .u8 0, .int .u8 0, .int .u8 0, .int .u8 0, .int .u8 0, .int .u8 0, .int .u8 0, .int .u8 0, .int .u8 0, .int .u8 0, .int .u8 0, .int .u8 0, .int .u8 0, .int .u8 0, .int .u8 0, .int .u8 0, .int .u8 0, .int .u8 0, .int .u8 0, .int .u8 0, .int .u8 0, .int .u8 0, .int .u8 0, .int .u8 0, .int .u8 0, .int .u8 0, .int .u8 0, .int .u8 0, .int .u8 0, .int .u8 0, .int .u8 0, .int .u8 0, .int .u8 0, .int .u8 0, .int .u8 0, .int .u8 0, .int .u8 0, .int .u8 0, .int .u8 0, .int .u8 0, .int .u8 0, .int .u8 0, .int .u8 0, .int .u8 0, .int .u8 0, .int .u8 0, .int .u8 0, .int .u8 0, .int .u8 0, .int .u8 0, .int .u8 0, .int .u8 0, .int .u8 0, .int .u8 0, .int .u8 0, .int .u8 0, .int .u8 0, .int .u8 0, .int .u8 0, .int .u8 0, .int .u8 0, .int .u8 0, .int .u8 0, .int .u8 0, .int .u8 0, .int .u8 0, .int .u8 0, .int .u8 0, .int .u8 0, .int .u8 0, .int .u8 0, .int .u8 0, .int .u8 0, .int .u8 0, .int .u8 0, .int .u8 0, .int .u8 0, .int .u8 0, .int .u8 0, .int .u8 0, .int .u8 0, .int .u8 0, .int .u8 0, .int .u8 0, .int .u8 0, .int .u8 0, .int .u8 0, .int .u8 0, .int .u8 0, .int .u8 0, .int .u8 0, .int .u8 0, .int .u8 0, .int .u8 0, .int .u8 0, .int .u8 0, .int .u8 0, .int .u8 0, .int .u8 0, .int .u8 0, .int .u8 0, .int .u8 0, .int .u8 0, .int .u8 0, .int .u8 0, .int .u8 0, .int .u8 0, .int .u8 0, .int .u8 0, .int .u8 0, .int .u8 0, .int .u8 0, .int .u8 0, .int .u8 0, .int .u8 0, .int .u8 0, .int .u8 0, .int .u8 0, .int .u8 0, .int .u8 0, .int .u8 0, .int .u8 0, .int .u8 0, .int .u8 0, .int .u8 0, .int .u8 0, .int .u8 0, .int .u8 0, .int .u8 0, .int .u8 0, .int .u8 0, .int .u8 0, .int .u8 0, .int .u8 0, .int .u8 0, .int .u8 0, .int .u8 0, .int .u8 0, .int .u8 0, .int .u8 0, .int .u8 0, .int .u8 0, .int .u8 0, .int .u8 0, .int .u8 0, .int .u8 0, .int .u8 0, .int .u8 0, .int .u8 0, .int .u8 0, .int .u8 0, .int .u8 0, .int .u8 0, .int .u8 0, .int .u8 0, .int .u8 0, .int .u8 0, .int .u8 0, .int .u8 0, .int .u8 0, .int .u8 0, .int .u8 0, .int .u8 0, .int .u8 0, .int .u8 0, .int .u8 0, .int .u8 0, .int .u8 0, .int .u8 0, .int .u8 0, .int .u8 0, .int .u8 0, .int .u8 0, .int .u8 0, .int .u8 0, .int .u8 0, .int .u8 0, .int .u8 0, .int .u8 0, .int .u8 0, .int .u8 0, .int .u8 0, .int .u8 0, .int .u8 0, .int .u8 0, .int .u8 0, .int .u8 0, .int .u8 0, .int .u8 0, .int .u8 0, .int .u8 0, .int .u8 0, .int .u8 0, .int .u8 0, .int .u8 0, .int .u8 0, .int .u8 0, .int .u8 0, .int .u8 0, .int .u8 0, .int .u8 0, .int .u8 0, .int .u8 0, .int .u8 0, .int .u8 0, .int .u8 0, .int .u8 0, .int .u8 0, .int .u8 0, .int .u8 0, .int .u8 0, .int .u8 0, .int .u8 0, .int .u8 0, .int .u8 0, .int .u8 0]) := by kernel_rfl
theorem zok_177 : ZOk Tryd.prog 177 256 = true := by kernel_rfl
theorem by_177 : byOf Tryd.prog 177 = 256 := by kernel_rfl
theorem cells_178 : Tryd.prog.cellsOf 178 = 1 := by kernel_rfl
theorem ti_178 : TI Tryd.prog 178 = some (false, 1) := by kernel_rfl
theorem zv_178 : ZV Tryd.prog 178 = some (.any) := by kernel_rfl
theorem zok_178 : ZOk Tryd.prog 178 1 = true := by kernel_rfl
theorem by_178 : byOf Tryd.prog 178 = 8 := by kernel_rfl
theorem cells_179 : Tryd.prog.cellsOf 179 = 2 := by kernel_rfl
theorem ti_179 : TI Tryd.prog 179 = some (true, 2) := by kernel_rfl
theorem fi_179_0 : FI Tryd.prog 179 0 = some (0, (false, 1)) := by kernel_rfl
theorem fi_179_1 : FI Tryd.prog 179 1 = some (1, (false, 1)) := by kernel_rfl
theorem si_179 : SI Tryd.prog 179 = some [(0, 1), (1, 1)] := by kernel_rfl
theorem zv_179 : ZV Tryd.prog 179 = some (.agg [.int .u8 0, .int .u8 0]) := by kernel_rfl
theorem zok_179 : ZOk Tryd.prog 179 2 = true := by kernel_rfl
theorem by_179 : byOf Tryd.prog 179 = 2 := by kernel_rfl
theorem cells_180 : Tryd.prog.cellsOf 180 = 2 := by kernel_rfl
theorem ti_180 : TI Tryd.prog 180 = some (true, 2) := by kernel_rfl
theorem fi_180_0 : FI Tryd.prog 180 0 = some (0, (false, 1)) := by kernel_rfl
theorem fi_180_1 : FI Tryd.prog 180 1 = some (1, (false, 1)) := by kernel_rfl
theorem si_180 : SI Tryd.prog 180 = some [(0, 1), (1, 1)] := by kernel_rfl
theorem zv_180 : ZV Tryd.prog 180 = some (.agg [.int .u8 0, .int .u8 0]) := by kernel_rfl
theorem zok_180 : ZOk Tryd.prog 180 2 = true := by kernel_rfl
theorem by_180 : byOf Tryd.prog 180 = 2 := by kernel_rfl
theorem cells_181 : Tryd.prog.cellsOf 181 = 32 := by kernel_rfl
theorem ti_181 : TI Tryd.prog 181 = some (true, 32) := by kernel_rfl
theorem ai_181 : AI Tryd.prog 181 = some (16, (true, 2)) := by kernel_rfl
theorem zv_181 : ZV Tryd.prog 181 = some (.agg [.int .u8 0, .int .u8 0, .int .u8 0, .int .u8 0, .int .u8 0, .int .u8 0, .int .u8 0, .int .u8 0, .int .u8 0, .int .u8 0, .int .u8 0, .int .u8 0, .int .u8 0, .int .u8 0, .int .u8 0, .int .u8 0, .int .u8 0, .int .u8 0, .int .u8 0, .int .u8 0, .int .u8 0, .int .u8 0, .int .u8 0, .int .u8 0, .int .u8 0, .int .u8 0, .int .u8 0, .int .u8 0, .int .u8 0, .int .u8 0, .int .u8 0, .int .u8 0]) := by kernel_rfl
theorem zok_181 : ZOk Tryd.prog 181 32 = true := by kernel_rfl
theorem by_181 : byOf Tryd.prog 181 = 32 := by kernel_rfl
theorem cells_182 : Tryd.prog.cellsOf 182 = 1 := by kernel_rfl
theorem ti_182 : TI Tryd.prog 182 = some (false, 1) := by kernel_rfl
theorem zv_182 : ZV Tryd.prog 182 = some (.any) := by kernel_rfl
theorem zok_182 : ZOk Tryd.prog 182 1 = true := by kernel_rfl
theorem by_182 : byOf Tryd.prog 182 = 8 := by kernel_rfl
theorem cells_183 : Tryd.prog.cellsOf 183 = 1 := by kernel_rfl
theorem ti_183 : TI Tryd.prog 183 = some (false, 1) := by kernel_rfl
theorem zv_183 : ZV Tryd.prog 183 = some (.any) := by kernel_rfl
theorem zok_183 : ZOk Tryd.prog 183 1 = true := by kernel_rfl
theorem by_183 : byOf Tryd.prog 183 = 8 := by kernel_rfl
theorem cells_184 : Tryd.prog.cellsOf 184 = 1 := by kernel_rfl
theorem ti_184 : TI Tryd.prog 184 = some (false, 1) := by kernel_rfl
theorem ei_184 : EI Tryd.prog 184 = some (186, 2) := by kernel_rfl
theorem isSli_184 : isSli Tryd.prog 184 = true := by kernel_rfl
theorem notInt_184 : notInt Tryd.prog 184 = true := by kernel_rfl
theorem zv_184 : ZV Tryd.prog 184 = some (.nils) := by kernel_rfl
theorem zok_184 : ZOk Tryd.prog 184 1 = true := by kernel_rfl
theorem by_184 : byOf Tryd.prog 184 = 24 := by kernel_rfl
theorem cells_185 : Tryd.prog.cellsOf 185 = 2 := by kernel_rfl
theorem ti_185 : TI Tryd.prog 185 = some (true, 2) := by kernel_rfl
theorem fi_185_0 : FI Tryd.prog 185 0 = some (0, (false, 1)) := by kernel_rfl
theorem fi_185_1 : FI Tryd.prog 185 1 = some (1, (false, 1)) := by kernel_rfl
theorem si_185 : SI Tryd.prog 185 = some [(0, 1), (1, 1)] := by kernel_rfl
theorem zv_185 : ZV Tryd.prog 185 = some (.agg [.int .i64 0, .int .i64 0]) := by kernel_rfl
theorem zok_185 : ZOk Tryd.prog 185 2 = true := by kernel_rfl
theorem by_185 : byOf Tryd.prog 185 = 16 := by kernel_rfl
theorem cells_186 : Tryd.prog.cellsOf 186 = 2 := by kernel_rfl
theorem ti_186 : TI Tryd.prog 186 = some (true, 2) := by kernel_rfl
theorem fi_186_0 : FI Tryd.prog 186 0 = some (0, (false, 1)) := by kernel_rfl
theorem fi_186_1 : FI Tryd.prog 186 1 = some (1, (false, 1)) := by kernel_rfl
theorem si_186 : SI Tryd.prog 186 = some [(0, 1), (1, 1)] := by kernel_rfl
theorem zv_186 : ZV Tryd.prog 186 = some (.agg [.int .i64 0, .int .i64 0]) := by kernel_rfl
theorem zok_186 : ZOk Tryd.prog 186 2 = true := by kernel_rfl
theorem by_186 : byOf Tryd.prog 186 = 16 := by kernel_rfl
theorem cells_187 : Tryd.prog.cellsOf 187 = 1 := by kernel_rfl
theorem ti_187 : TI Tryd.prog 187 = some (false, 1) := by kernel_rfl
theorem zv_187 : ZV Tryd.prog 187 = some (.any) := by kernel_rfl
theorem zok_187 : ZOk Tryd.prog 187 1 = true := by kernel_rfl
theorem by_187 : byOf Tryd.prog 187 = 8 := by kernel_rfl
theorem cells_188 : Tryd.prog.cellsOf 188 = 1 := by kernel_rfl
theorem ti_188 : TI Tryd.prog 188 = some (false, 1) := by kernel_rfl
theorem isPtr_188 : isPtr Tryd.prog 188 = true := by kernel_rfl
theorem zv_188 : ZV Tryd.prog 188 = some (.nilp) := by kernel_rfl
theorem zok_188 : ZOk Tryd.prog 188 1 = true := by kernel_rfl
theorem by_188 : byOf Tryd.prog 188 = 8 := by kernel_rfl
theorem cells_189 : Tryd.prog.cellsOf 189 = 1 := by kernel_rfl
theorem ti_189 : TI Tryd.prog 189 = some (false, 1) := by kernel_rfl
theorem zv_189 : ZV Tryd.prog 189 = some (.any) := by kernel_rfl
theorem zok_189 : ZOk Tryd.prog 189 1 = true := by kernel_rfl
theorem by_189 : byOf Tryd.prog 189 = 8 := by kernel_rfl
theorem cells_190 : Tryd.prog.cellsOf 190 = 1 := by kernel_rfl
theorem ti_190 : TI Tryd.prog 190 = some (false, 1) := by kernel_rfl
theorem ei_190 : EI Tryd.prog 190 = some (196, 3) := by kernel_rfl
theorem isSli_190 : isSli Tryd.prog 190 = true := by kernel_rfl
theorem notInt_190 : notInt Tryd.prog 190 = true := by kernel_rfl
theorem zv_190 : ZV Tryd.prog 190 = some (.nils) := by kernel_rfl
theorem zok_190 : ZOk Tryd.prog 190 1 = true := by kernel_rfl
theorem by_190 : byOf Tryd.prog 190 = 24 := by kernel_rfl
theorem cells_191 : Tryd.prog.cellsOf 191 = 1 := by kernel_rfl
theorem ti_191 : TI Tryd.prog 191 = some (false, 1) := by kernel_rfl
theorem ei_191 : EI Tryd.prog 191 = some (199, 3) := by kernel_rfl
theorem isSli_191 : isSli Tryd.prog 191 = true := by kernel_rfl
theorem notInt_191 : notInt Tryd.prog 191 = true := by kernel_rfl
theorem zv_191 : ZV Tryd.prog 191 = some (.nils) := by kernel_rfl
theorem zok_191 : ZOk Tryd.prog 191 1 = true := by kernel_rfl
theorem by_191 : byOf Tryd.prog 191 = 24 := by kernel_rfl
theorem cells_192 : Tryd.prog.cellsOf 192 = 3 := by kernel_rfl
theorem ti_192 : TI Tryd.prog 192 = some (true, 3) := by kernel_rfl
theorem fi_192_0 : FI Tryd.prog 192 0 = some (0, (false, 1)) := by kernel_rfl
theorem fi_192_1 : FI Tryd.prog 192 1 = some (1, (false, 1)) := by kernel_rfl
theorem fi_192_2 : FI Tryd.prog 192 2 = some (2, (false, 1)) := by kernel_rfl
theorem si_192 : SI Tryd.prog 192 = some [(0, 1), (1, 1), (2, 1)] := by kernel_rfl
theorem zv_192 : ZV Tryd.prog 192 = some (.agg [.nils, .nils, .int .i64 0]) := by kernel_rfl
theorem zok_192 : ZOk Tryd.prog 192 3 = true := by kernel_rfl
theorem by_192 : byOf Tryd.prog 192 = 56 := by kernel_rfl
theorem cells_193 : Tryd.prog.cellsOf 193 = 3 := by kernel_rfl
theorem ti_193 : TI Tryd.prog 193 = some (true, 3) := by kernel_rfl
theorem fi_193_0 : FI Tryd.prog 193 0 = some (0, (false, 1)) := by kernel_rfl
theorem fi_193_1 : FI Tryd.prog 193 1 = some (1, (false, 1)) := by kernel_rfl
theorem fi_193_2 : FI Tryd.prog 193 2 = some (2, (false, 1)) := by kernel_rfl
theorem si_193 : SI Tryd.prog 193 = some [(0, 1), (1, 1), (2, 1)] := by kernel_rfl
theorem zv_193 : ZV Tryd.prog 193 = some (.agg [.nils, .nils, .int .i64 0]) := by kernel_rfl
theorem zok_193 : ZOk Tryd.prog 193 3 = true := by kernel_rfl
theorem by_193 : byOf Tryd.prog 193 = 56 := by kernel_rfl
theorem cells_194 : Tryd.prog.cellsOf 194 = 1 := by kernel_rfl
theorem ti_194 : TI Tryd.prog 194 = some (false, 1) := by kernel_rfl
theorem intK_194 : intK Tryd.prog 194 = some .u16 := by kernel_rfl
theorem un_194 : Tryd.prog.underlying 194 = some (.int .u16) := by kernel_rfl
theorem zv_194 : ZV Tryd.prog 194 = some (.int .u16 0) := by kernel_rfl
theorem zok_194 : ZOk Tryd.prog 194 1 = true := by kernel_rfl
theorem by_194 : byOf Tryd.prog 194 = 2 := by kernel_rfl
theorem cells_195 : Tryd.prog.cellsOf 195 = 3 := by kernel_rfl
theorem ti_195 : TI Tryd.prog 195 = some (true, 3) := by kernel_rfl
theorem fi_195_0 : FI Tryd.prog 195 0 = some (0, (false, 1)) := by kernel_rfl
theorem fi_195_1 : FI Tryd.prog 195 1 = some (1, (false, 1)) := by kernel_rfl
theorem fi_195_2 : FI Tryd.prog 195 2 = some (2, (false, 1)) := by kernel_rfl
theorem si_195 : SI Tryd.prog 195 = some [(0, 1), (1, 1), (2, 1)] := by kernel_rfl
theorem zv_195 : ZV Tryd.prog 195 = some (.agg [.int .u16 0, .int .u16 0, .int .u16 0]) := by kernel_rfl
theorem zok_195 : ZOk Tryd.prog 195 3 = true := by kernel_rfl
theorem by_195 : byOf Tryd.prog 195 = 6 := by kernel_rfl
theorem cells_196 : Tryd.prog.cellsOf 196 = 3 := by kernel_rfl
theorem ti_196 : TI Tryd.prog 196 = some (true, 3) := by kernel_rfl
theorem fi_196_0 : FI Tryd.prog 196 0 = some (0, (false, 1)) := by kernel_rfl
theorem fi_196_1 : FI Tryd.prog 196 1 = some (1, (false, 1)) := by kernel_rfl
theorem fi_196_2 : FI Tryd.prog 196 2 = some (2, (false, 1)) := by kernel_rfl
theorem si_196 : SI Tryd.prog 196 = some [(0, 1), (1, 1), (2, 1)] := by kernel_rfl
theorem zv_196 : ZV Tryd.prog 196 = some (.agg [.int .u16 0, .int .u16 0, .int .u16 0]) := by kernel_rfl
theorem zok_196 : ZOk Tryd.prog 196 3 = true := by kernel_rfl
theorem by_196 : byOf Tryd.prog 196 = 6 := by kernel_rfl
theorem cells_197 : Tryd.prog.cellsOf 197 = 1 := by kernel_rfl
theorem ti_197 : TI Tryd.prog 197 = some (false, 1) := by kernel_rfl
theorem zv_197 : ZV Tryd.prog 197 = some (.any) := by kernel_rfl
theorem zok_197 : ZOk Tryd.prog 197 1 = true := by kernel_rfl
theorem by_197 : byOf Tryd.prog 197 = 8 := by kernel_rfl
theorem cells_198 : Tryd.prog.cellsOf 198 = 3 := by kernel_rfl
theorem ti_198 : TI Tryd.prog 198 = some (true, 3) := by kernel_rfl
theorem fi_198_0 : FI Tryd.prog 198 0 = some (0, (false, 1)) := by kernel_rfl
theorem fi_198_1 : FI Tryd.prog 198 1 = some (1, (false, 1)) := by kernel_rfl
theorem fi_198_2 : FI Tryd.prog 198 2 = some (2, (false, 1)) := by kernel_rfl
theorem si_198 : SI Tryd.prog 198 = some [(0, 1), (1, 1), (2, 1)] := by kernel_rfl
theorem zv_198 : ZV Tryd.prog 198 = some (.agg [.int .u32 0, .int .u32 0, .int .u32 0]) := by kernel_rfl
theorem zok_198 : ZOk Tryd.prog 198 3 = true := by kernel_rfl
theorem by_198 : byOf Tryd.prog 198 = 12 := by kernel_rfl
theorem cells_199 : Tryd.prog.cellsOf 199 = 3 := by kernel_rfl
theorem ti_199 : TI Tryd.prog 199 = some (true, 3) := by kernel_rfl
theorem fi_199_0 : FI Tryd.prog 199 0 = some (0, (false, 1)) := by kernel_rfl
theorem fi_199_1 : FI Tryd.prog 199 1 = some (1, (false, 1)) := by kernel_rfl
theorem fi_199_2 : FI Tryd.prog 199 2 = some (2, (false, 1)) := by kernel_rfl
theorem si_199 : SI Tryd.prog 199 = some [(0, 1), (1, 1), (2, 1)] := by kernel_rfl
theorem zv_199 : ZV Tryd.prog 199 = some (.agg [.int .u32 0, .int .u32 0, .int .u32 0]) := by kernel_rfl
theorem zok_199 : ZOk Tryd.prog 199 3 = true := by kernel_rfl
theorem by_199 : byOf Tryd.prog 199 = 12 := by kernel_rfl
theorem cells_200 : Tryd.prog.cellsOf 200 = 1 := by kernel_rfl
theorem ti_200 : TI Tryd.prog 200 = some (false, 1) := by kernel_rfl
theorem zv_200 : ZV Tryd.prog 200 = some (.any) := by kernel_rfl
theorem zok_200 : ZOk Tryd.prog 200 1 = true := by kernel_rfl
theorem by_200 : byOf Tryd.prog 200 = 8 := by kernel_rfl
theorem cells_201 : Tryd.prog.cellsOf 201 = 24 := by kernel_rfl
theorem ti_201 : TI Tryd.prog 201 = some (true, 24) := by kernel_rfl
theorem ai_201 : AI Tryd.prog 201 = some (24, (false, 1)) := by kernel_rfl
theorem zv_201 : ZV Tryd.prog 201 = some (.agg [.int .u8 0, .int .u8 0, .int .u8 0, .int .u8 0, .int .u8 0, .int .u8 0, .int .u8 0, .int .u8 0, .int .u8 0, .int .u8 0, .int .u8 0, .int .u8 0, .int .u8 0, .int .u8 0, .int .u8 0, .int .u8 0, .int .u8 0, .int .u8 0, .int .u8 0, .int .u8 0, .int .u8 0, .int .u8 0, .int .u8 0, .int .u8 0]) := by kernel_rfl
theorem zok_201 : ZOk Tryd.prog 201 24 = true := by kernel_rfl
theorem by_201 : byOf Tryd.prog 201 = 24 := by kernel_rfl
theorem cells_202 : Tryd.prog.cellsOf 202 = 1 := by kernel_rfl
theorem ti_202 : TI Tryd.prog 202 = some (false, 1) := by kernel_rfl
theorem zv_202 : ZV Tryd.prog 202 = some (.any) := by kernel_rfl
theorem zok_202 : ZOk Tryd.prog 202 1 = true := by kernel_rfl
theorem by_202 : byOf Tryd.prog 202 = 8 := by kernel_rfl
theorem cells_203 : Tryd.prog.cellsOf 203 = 1 := by kernel_rfl
theorem ti_203 : TI Tryd.prog 203 = some (false, 1) := by kernel_rfl
theorem zv_203 : ZV Tryd.prog 203 = some (.any) := by kernel_rfl
theorem zok_203 : ZOk Tryd.prog 203 1 = true := by kernel_rfl
theorem by_203 : byOf Tryd.prog 203 = 8 := by kernel_rfl
theorem cells_205 : Tryd.prog.cellsOf 205 = 1 := by kernel_rfl
theorem ti_205 : TI Tryd.prog 205 = some (false, 1) := by kernel_rfl
theorem zv_205 : ZV Tryd.prog 205 = some (.any) := by kernel_rfl
theorem zok_205 : ZOk Tryd.prog 205 1 = true := by kernel_rfl
theorem by_205 : byOf Tryd.prog 205 = 8 := by kernel_rfl
theorem cells_206 : Tryd.prog.cellsOf 206 = 1 := by kernel_rfl
theorem ti_206 : TI Tryd.prog 206 = some (false, 1) := by kernel_rfl
theorem isPtr_206 : isPtr Tryd.prog 206 = true := by kernel_rfl
theorem zv_206 : ZV Tryd.prog 206 = some (.nilp) := by kernel_rfl
theorem zok_206 : ZOk Tryd.prog 206 1 = true := by kernel_rfl
theorem by_206 : byOf Tryd.prog 206 = 8 := by kernel_rfl
theorem cells_207 : Tryd.prog.cellsOf 207 = 1 := by kernel_rfl
theorem ti_207 : TI Tryd.prog 207 = some (false, 1) := by kernel_rfl
theorem isPtr_207 : isPtr Tryd.prog 207 = true := by kernel_rfl
theorem zv_207 : ZV Tryd.prog 207 = some (.nilp) := by kernel_rfl
theorem zok_207 : ZOk Tryd.prog 207 1 = true := by kernel_rfl
theorem by_207 : byOf Tryd.prog 207 = 8 := by kernel_rfl
theorem cells_208 : Tryd.prog.cellsOf 208 = 1 := by kernel_rfl
theorem ti_208 : TI Tryd.prog 208 = some (false, 1) := by kernel_rfl
theorem zv_208 : ZV Tryd.prog 208 = some (.any) := by kernel_rfl
theorem zok_208 : ZOk Tryd.prog 208 1 = true := by kernel_rfl
theorem by_208 : byOf Tryd.prog 208 = 8 := by kernel_rfl
theorem cells_209 : Tryd.prog.cellsOf 209 = 20 := by kernel_rfl
theorem ti_209 : TI Tryd.prog 209 = some (true, 20) := by kernel_rfl
theorem ai_209 : AI Tryd.prog 209 = some (20, (false, 1)) := by kernel_rfl
theorem zv_209 : ZV Tryd.prog 209 = some (.agg [.int .u64 0, .int .u64 0, .int .u64 0, .int .u64 0, .int .u64 0, .int .u64 0, .int .u64 0, .int .u64 0, .int .u64 0, .int .u64 0, .int .u64 0, .int .u64 0, .int .u64 0, .int .u64 0, .int .u64 0, .int .u64 0, .int .u64 0, .int .u64 0, .int .u64 0, .int .u64 0]) := by kernel_rfl
theorem zok_209 : ZOk Tryd.prog 209 20 = true := by kernel_rfl
theorem by_209 : byOf Tryd.prog 209 = 160 := by kernel_rfl
theorem cells_210 : Tryd.prog.cellsOf 210 = 65 := by kernel_rfl
theorem ti_210 : TI Tryd.prog 210 = some (true, 65) := by kernel_rfl
theorem ai_210 : AI Tryd.prog 210 = some (65, (false, 1)) := by kernel_rfl
theorem zv_210 : ZV Tryd.prog 210 = some (.agg [.int .u8 0, .int .u8 0, .int .u8 0, .int .u8 0, .int .u8 0, .int .u8 0, .int .u8 0, .int .u8 0, .int .u8 0, .int .u8 0, .int .u8 0, .int .u8 0, .int .u8 0, .int .u8 0, .int .u8 0, .int .u8 0, .int .u8 0, .int .u8 0, .int .u8 0, .int .u8 0, .int .u8 0, .int .u8 0, .int .u8 0, .int .u8 0, .int .u8 0, .int .u8 0, .int .u8 0, .int .u8 0, .int .u8 0, .int .u8 0, .int .u8 0, .int .u8 0, .int .u8 0, .int .u8 0, .int .u8 0, .int .u8 0, .int .u8 0, .int .u8 0, .int .u8 0, .int .u8 0, .int .u8 0, .int .u8 0, .int .u8 0, .int .u8 0, .int .u8 0, .int .u8 0, .int .u8 0, .int .u8 0, .int .u8 0, .int .u8 0, .int .u8 0, .int .u8 0, .int .u8 0, .int .u8 0, .int .u8 0, .int .u8 0, .int .u8 0, .int .u8 0, .int .u8 0, .int .u8 0, .int .u8 0, .int .u8 0, .int .u8 0, .int .u8 0, .int .u8 0]) := by kernel_rfl
theorem zok_210 : ZOk Tryd.prog 210 65 = true := by kernel_rfl
theorem by_210 : byOf Tryd.prog 210 = 65 := by kernel_rfl
theorem cells_211 : Tryd.prog.cellsOf 211 = 1 := by kernel_rfl
theorem ti_211 : TI Tryd.prog 211 = some (false, 1) := by kernel_rfl
theorem zv_211 : ZV Tryd.prog 211 = some (.any) := by kernel_rfl
theorem zok_211 : ZOk Tryd.prog 211 1 = true := by kernel_rfl
theorem by_211 : byOf Tryd.prog 211 = 8 := by kernel_rfl
theorem cells_212 : Tryd.prog.cellsOf 212 = 1 := by kernel_rfl
theorem ti_212 : TI Tryd.prog 212 = some (false, 1) := by kernel_rfl
theorem zv_212 : ZV Tryd.prog 212 = some (.any) := by kernel_rfl
theorem zok_212 : ZOk Tryd.prog 212 1 = true := by kernel_rfl
theorem by_212 : byOf Tryd.prog 212 = 8 := by kernel_rfl
theorem cells_213 : Tryd.prog.cellsOf 213 = 32 := by kernel_rfl
theorem ti_213 : TI Tryd.prog 213 = some (true, 32) := by kernel_rfl
theorem ai_213 : AI Tryd.prog 213 = some (32, (false, 1)) := by kernel_rfl
theorem zv_213 : ZV Tryd.prog 213 = some (.agg [.int .u8 0, .int .u8 0, .int .u8 0, .int .u8 0, .int .u8 0, .int .u8 0, .int .u8 0, .int .u8 0, .int .u8 0, .int .u8 0, .int .u8 0, .int .u8 0, .int .u8 0, .int .u8 0, .int .u8 0, .int .u8 0, .int .u8 0, .int .u8 0, .int .u8 0, .int .u8 0, .int .u8 0, .int .u8 0, .int .u8 0, .int .u8 0, .int .u8 0, .int .u8 0, .int .u8 0, .int .u8 0, .int .u8 0, .int .u8 0, .int .u8 0, .int .u8 0]) := by kernel_rfl
theorem zok_213 : ZOk Tryd.prog 213 32 = true := by kernel_rfl
theorem by_213 : byOf Tryd.prog 213 = 32 := by kernel_rfl
theorem cells_214 : Tryd.prog.cellsOf 214 = 64 := by kernel_rfl
theorem ti_214 : TI Tryd.prog 214 = some (true, 64) := by kernel_rfl
theorem ai_214 : AI Tryd.prog 214 = some (64, (false, 1)) := by kernel_rfl
theorem zv_214 : ZV Tryd.prog 214 = some (.agg [.int .u8 0, .int .u8 0, .int .u8 0, .int .u8 0, .int .u8 0, .int .u8 0, .int .u8 0, .int .u8 0, .int .u8 0, .int .u8 0, .int .u8 0, .int .u8 0, .int .u8 0, .int .u8 0, .int .u8 0, .int .u8 0, .int .u8 0, .int .u8 0, .int .u8 0, .int .u8 0, .int .u8 0, .int .u8 0, .int .u8 0, .int .u8 0, .int .u8 0, .int .u8 0, .int .u8 0, .int .u8 0, .int .u8 0, .int .u8 0, .int .u8 0, .int .u8 0, .int .u8 0, .int .u8 0, .int .u8 0, .int .u8 0, .int .u8 0, .int .u8 0, .int .u8 0, .int .u8 0, .int .u8 0, .int .u8 0, .int .u8 0, .int .u8 0, .int .u8 0, .int .u8 0, .int .u8 0, .int .u8 0, .int .u8 0, .int .u8 0, .int .u8 0, .int .u8 0, .int .u8 0, .int .u8 0, .int .u8 0, .int .u8 0, .int .u8 0, .int .u8 0, .int .u8 0, .int .u8 0, .int .u8 0, .int .u8 0, .int .u8 0, .int .u8 0]) := by kernel_rfl
theorem zok_214 : ZOk Tryd.prog 214 64 = true := by kernel_rfl
theorem by_214 : byOf Tryd.prog 214 = 64 := by kernel_rfl
theorem uns_1 : (Tryd.prog.underlying 1).isSome = true := by kernel_rfl
theorem tok_1 : TOk Tryd.prog 1 { ti := some (false, 1), zv := some (.any), zok := some 1, by' := some 8, un := true } := ⟨ti_1, trivial, trivial, trivial, trivial, zv_1, zok_1, by_1, trivial, trivial, trivial, trivial, trivial, trivial, uns_1, trivial⟩
theorem uns_2 : (Tryd.prog.underlying 2).isSome = true := by kernel_rfl
theorem tok_2 : TOk Tryd.prog 2 { ti := some (false, 1), zv := some (.int .i64 0), zok := some 1, by' := some 8, ik := some .i64, un := true } := ⟨ti_2, trivial, trivial, trivial, trivial, zv_2, zok_2, by_2, intK_2, trivial, trivial, trivial, trivial, trivial, uns_2, trivial⟩
theorem uns_3 : (Tryd.prog.underlying 3).isSome = true := by kernel_rfl
theorem tok_3 : TOk Tryd.prog 3 { ti := some (false, 1), zv := some (.int .i64 0), zok := some 1, by' := some 8, ik := some .i64, un := true } := ⟨ti_3, trivial, trivial, trivial, trivial, zv_3, zok_3, by_3, intK_3, trivial, trivial, trivial, trivial, trivial, uns_3, trivial⟩
theorem uns_4 : (Tryd.prog.underlying 4).isSome = true := by kernel_rfl
theorem tok_4 : TOk Tryd.prog 4 { ti := some (false, 1), zv := some (.bool false), zok := some 1, by' := some 1, boo := true, un := true } := ⟨ti_4, trivial, trivial, trivial, trivial, zv_4, zok_4, by_4, trivial, trivial, trivial, isBoo_4, trivial, trivial, uns_4, trivial⟩
theorem uns_5 : (Tryd.prog.underlying 5).isSome = true := by kernel_rfl
theorem tok_5 : TOk Tryd.prog 5 { ti := some (false, 1), zv := some (.int .u8 0), zok := some 1, by' := some 1, ik := some .u8, un := true } := ⟨ti_5, trivial, trivial, trivial, trivial, zv_5, zok_5, by_5, intK_5, trivial, trivial, trivial, trivial, trivial, uns_5, trivial⟩
theorem uns_9 : (Tryd.prog.underlying 9).isSome = true := by kernel_rfl
theorem tok_9 : TOk Tryd.prog 9 { ti := some (false, 1), zv := some (.str []), zok := some 1, by' := some 16, str := true, ni := true, un := true } := ⟨ti_9, trivial, trivial, trivial, trivial, zv_9, zok_9, by_9, trivial, isStr_9, trivial, trivial, trivial, notInt_9, uns_9, trivial⟩
theorem uns_12 : (Tryd.prog.underlying 12).isSome = true := by kernel_rfl
theorem tok_12 : TOk Tryd.prog 12 { ti := some (false, 1), zv := some (.int .u64 0), zok := some 1, by' := some 8, ik := some .u64, un := true } := ⟨ti_12, trivial, trivial, trivial, trivial, zv_12, zok_12, by_12, intK_12, trivial, trivial, trivial, trivial, trivial, uns_12, trivial⟩
theorem uns_13 : (Tryd.prog.underlying 13).isSome = true := by kernel_rfl
theorem tok_13 : TOk Tryd.prog 13 { ti := some (true, 2), fi := [some (0, (false, 1)), some (1, (false, 1))], si := some [(0, 1), (1, 1)], zv := some (.agg [.str [], .int .u64 0]), zok := some 2, by' := some 24, un := true } := ⟨ti_13, trivial, trivial, ⟨fi_13_0, fi_13_1, trivial⟩, si_13, zv_13, zok_13, by_13, trivial, trivial, trivial, trivial, trivial, trivial, uns_13, trivial⟩
theorem uns_21 : (Tryd.prog.underlying 21).isSome = true := by kernel_rfl
theorem tok_21 : TOk Tryd.prog 21 { ti := some (false, 1), zv := some (.int .i32 0), zok := some 1, by' := some 4, ik := some .i32, un := true } := ⟨ti_21, trivial, trivial, trivial, trivial, zv_21, zok_21, by_21, intK_21, trivial, trivial, trivial, trivial, trivial, uns_21, trivial⟩
theorem uns_22 : (Tryd.prog.underlying 22).isSome = true := by kernel_rfl
theorem tok_22 : TOk Tryd.prog 22 { ti := some (false, 1), ei := some (9, 1), zv := some (.nils), zok := some 1, by' := some 24, sli := true, ni := true, un := true } := ⟨ti_22, ei_22, trivial, trivial, trivial, zv_22, zok_22, by_22, trivial, trivial, isSli_22, trivial, trivial, notInt_22, uns_22, trivial⟩
theorem uns_23 : (Tryd.prog.underlying 23).isSome = true := by kernel_rfl
theorem tok_23 : TOk Tryd.prog 23 { ti := some (false, 1), ei := some (53, 2), zv := some (.nils), zok := some 1, by' := some 24, sli := true, ni := true, un := true } := ⟨ti_23, ei_23, trivial, trivial, trivial, zv_23, zok_23, by_23, trivial, trivial, isSli_23, trivial, trivial, notInt_23, uns_23, trivial⟩
theorem uns_24 : (Tryd.prog.underlying 24).isSome = true := by kernel_rfl
theorem tok_24 : TOk Tryd.prog 24 { ti := some (false, 1), ei := some (51, 4), zv := some (.nils), zok := some 1, by' := some 24, sli := true, ni := true, un := true } := ⟨ti_24, ei_24, trivial, trivial, trivial, zv_24, zok_24, by_24, trivial, trivial, isSli_24, trivial, trivial, notInt_24, uns_24, trivial⟩
theorem uns_25 : (Tryd.prog.underlying 25).isSome = true := by kernel_rfl
theorem tok_25 : TOk Tryd.prog 25 { ti := some (false, 1), zv := some (.int .i64 0), zok := some 1, by' := some 8, ik := some .i64, un := true } := ⟨ti_25, trivial, trivial, trivial, trivial, zv_25, zok_25, by_25, intK_25, trivial, trivial, trivial, trivial, trivial, uns_25, trivial⟩
theorem uns_27 : (Tryd.prog.underlying 27).isSome = true := by kernel_rfl
theorem tok_27 : TOk Tryd.prog 27 { ti := some (false, 1), zv := some (.any), zok := some 1, by' := some 8, un := true } := ⟨ti_27, trivial, trivial, trivial, trivial, zv_27, zok_27, by_27, trivial, trivial, trivial, trivial, trivial, trivial, uns_27, trivial⟩
theorem uns_28 : (Tryd.prog.underlying 28).isSome = true := by kernel_rfl
theorem tok_28 : TOk Tryd.prog 28 { ti := some (false, 1), zv := some (.any), zok := some 1, by' := some 8, un := true } := ⟨ti_28, trivial, trivial, trivial, trivial, zv_28, zok_28, by_28, trivial, trivial, trivial, trivial, trivial, trivial, uns_28, trivial⟩
theorem uns_29 : (Tryd.prog.underlying 29).isSome = true := by kernel_rfl
theorem tok_29 : TOk Tryd.prog 29 { ti := some (false, 1), zv := some (.any), zok := some 1, by' := some 8, un := true } := ⟨ti_29, trivial, trivial, trivial, trivial, zv_29, zok_29, by_29, trivial, trivial, trivial, trivial, trivial, trivial, uns_29, trivial⟩
theorem uns_30 : (Tryd.prog.underlying 30).isSome = true := by kernel_rfl
theorem tok_30 : TOk Tryd.prog 30 { ti := some (false, 1), ei := some (59, 3), zv := some (.nils), zok := some 1, by' := some 24, sli := true, ni := true, un := true } := ⟨ti_30, ei_30, trivial, trivial, trivial, zv_30, zok_30, by_30, trivial, trivial, isSli_30, trivial, trivial, notInt_30, uns_30, trivial⟩
theorem uns_32 : (Tryd.prog.underlying 32).isSome = true := by kernel_rfl
theorem tok_32 : TOk Tryd.prog 32 { ti := some (false, 1), zv := some (.any), zok := some 1, by' := some 8, un := true } := ⟨ti_32, trivial, trivial, trivial, trivial, zv_32, zok_32, by_32, trivial, trivial, trivial, trivial, trivial, trivial, uns_32, trivial⟩
theorem uns_33 : (Tryd.prog.underlying 33).isSome = true := by kernel_rfl
theorem tok_33 : TOk Tryd.prog 33 { ti := some (false, 1), zv := some (.any), zok := some 1, by' := some 8, un := true } := ⟨ti_33, trivial, trivial, trivial, trivial, zv_33, zok_33, by_33, trivial, trivial, trivial, trivial, trivial, trivial, uns_33, trivial⟩
theorem uns_34 : (Tryd.prog.underlying 34).isSome = true := by kernel_rfl
theorem tok_34 : TOk Tryd.prog 34 { ti := some (false, 1), zv := some (.any), zok := some 1, by' := some 8, un := true } := ⟨ti_34, trivial, trivial, trivial, trivial, zv_34, zok_34, by_34, trivial, trivial, trivial, trivial, trivial, trivial, uns_34, trivial⟩
theorem uns_35 : (Tryd.prog.underlying 35).isSome = true := by kernel_rfl
theorem tok_35 : TOk Tryd.prog 35 { ti := some (false, 1), ei := some (79, 5), zv := some (.nils), zok := some 1, by' := some 24, sli := true, ni := true, un := true } := ⟨ti_35, ei_35, trivial, trivial, trivial, zv_35, zok_35, by_35, trivial, trivial, isSli_35, trivial, trivial, notInt_35, uns_35, trivial⟩
theorem uns_36 : (Tryd.prog.underlying 36).isSome = true := by kernel_rfl
theorem tok_36 : TOk Tryd.prog 36 { ti := some (false, 1), zv := some (.any), zok := some 1, by' := some 8, un := true } := ⟨ti_36, trivial, trivial, trivial, trivial, zv_36, zok_36, by_36, trivial, trivial, trivial, trivial, trivial, trivial, uns_36, trivial⟩
theorem uns_37 : (Tryd.prog.underlying 37).isSome = true := by kernel_rfl
theorem tok_37 : TOk Tryd.prog 37 { ti := some (false, 1), zv := some (.any), zok := some 1, by' := some 8, un := true } := ⟨ti_37, trivial, trivial, trivial, trivial, zv_37, zok_37, by_37, trivial, trivial, trivial, trivial, trivial, trivial, uns_37, trivial⟩
theorem uns_38 : (Tryd.prog.underlying 38).isSome = true := by kernel_rfl
theorem tok_38 : TOk Tryd.prog 38 { ti := some (false, 1), ei := some (106, 1), zv := some (.nils), zok := some 1, by' := some 24, sli := true, ni := true, un := true } := ⟨ti_38, ei_38, trivial, trivial, trivial, zv_38, zok_38, by_38, trivial, trivial, isSli_38, trivial, trivial, notInt_38, uns_38, trivial⟩
theorem uns_39 : (Tryd.prog.underlying 39).isSome = true := by kernel_rfl
theorem tok_39 : TOk Tryd.prog 39 { ti := some (false, 1), ei := some (4, 1), zv := some (.nils), zok := some 1, by' := some 24, sli := true, ni := true, un := true } := ⟨ti_39, ei_39, trivial, trivial, trivial, zv_39, zok_39, by_39, trivial, trivial, isSli_39, trivial, trivial, notInt_39, uns_39, trivial⟩
theorem uns_40 : (Tryd.prog.underlying 40).isSome = true := by kernel_rfl
theorem tok_40 : TOk Tryd.prog 40 { ti := some (true, 2), fi := [some (0, (false, 1)), some (1, (false, 1))], si := some [(0, 1), (1, 1)], zv := some (.agg [.nils, .nils]), zok := some 2, by' := some 48, un := true } := ⟨ti_40, trivial, trivial, ⟨fi_40_0, fi_40_1, trivial⟩, si_40, zv_40, zok_40, by_40, trivial, trivial, trivial, trivial, trivial, trivial, uns_40, trivial⟩
theorem uns_41 : (Tryd.prog.underlying 41).isSome = true := by kernel_rfl
theorem tok_41 : TOk Tryd.prog 41 { ti := some (true, 2), fi := [some (0, (false, 1)), some (1, (false, 1))], si := some [(0, 1), (1, 1)], zv := some (.agg [.nils, .nils]), zok := some 2, by' := some 48, un := true } := ⟨ti_41, trivial, trivial, ⟨fi_41_0, fi_41_1, trivial⟩, si_41, zv_41, zok_41, by_41, trivial, trivial, trivial, trivial, trivial, trivial, uns_41, trivial⟩
theorem uns_43 : (Tryd.prog.underlying 43).isSome = true := by kernel_rfl
theorem tok_43 : TOk Tryd.prog 43 { ti := some (false, 1), zv := some (.any), zok := some 1, by' := some 8, un := true } := ⟨ti_43, trivial, trivial, trivial, trivial, zv_43, zok_43, by_43, trivial, trivial, trivial, trivial, trivial, trivial, uns_43, trivial⟩
theorem uns_44 : (Tryd.prog.underlying 44).isSome = true := by kernel_rfl
theorem tok_44 : TOk Tryd.prog 44 { ti := some (false, 1), zv := some (.any), zok := some 1, by' := some 8, un := true } := ⟨ti_44, trivial, trivial, trivial, trivial, zv_44, zok_44, by_44, trivial, trivial, trivial, trivial, trivial, trivial, uns_44, trivial⟩
theorem uns_46 : (Tryd.prog.underlying 46).isSome = true := by kernel_rfl
theorem tok_46 : TOk Tryd.prog 46 { ti := some (false, 1), zv := some (.any), zok := some 1, by' := some 8, un := true } := ⟨ti_46, trivial, trivial, trivial, trivial, zv_46, zok_46, by_46, trivial, trivial, trivial, trivial, trivial, trivial, uns_46, trivial⟩
theorem uns_47 : (Tryd.prog.underlying 47).isSome = true := by kernel_rfl
theorem tok_47 : TOk Tryd.prog 47 { ti := some (false, 1), zv := some (.any), zok := some 1, by' := some 8, un := true } := ⟨ti_47, trivial, trivial, trivial, trivial, zv_47, zok_47, by_47, trivial, trivial, trivial, trivial, trivial, trivial, uns_47, trivial⟩
theorem uns_48 : (Tryd.prog.underlying 48).isSome = true := by kernel_rfl
theorem tok_48 : TOk Tryd.prog 48 { ti := some (false, 1), zv := some (.any), zok := some 1, by' := some 8, un := true } := ⟨ti_48, trivial, trivial, trivial, trivial, zv_48, zok_48, by_48, trivial, trivial, trivial, trivial, trivial, trivial, uns_48, trivial⟩
theorem uns_49 : (Tryd.prog.underlying 49).isSome = true := by kernel_rfl
theorem tok_49 : TOk Tryd.prog 49 { ti := some (false, 1), ei := some (112, 2), zv := some (.nils), zok := some 1, by' := some 24, sli := true, ni := true, un := true } := ⟨ti_49, ei_49, trivial, trivial, trivial, zv_49, zok_49, by_49, trivial, trivial, isSli_49, trivial, trivial, notInt_49, uns_49, trivial⟩
theorem uns_50 : (Tryd.prog.underlying 50).isSome = true := by kernel_rfl
theorem tok_50 : TOk Tryd.prog 50 { ti := some (true, 4), fi := [some (0, (false, 1)), some (1, (false, 1)), some (2, (false, 1)), some (3, (false, 1))], si := some [(0, 1), (1, 1), (2, 1), (3, 1)], zv := some (.agg [.str [], .nils, .str [], .nils]), zok := some 4, by' := some 80, un := true } := ⟨ti_50, trivial, trivial, ⟨fi_50_0, fi_50_1, fi_50_2, fi_50_3, trivial⟩, si_50, zv_50, zok_50, by_50, trivial, trivial, trivial, trivial, trivial, trivial, uns_50, trivial⟩
theorem uns_51 : (Tryd.prog.underlying 51).isSome = true := by kernel_rfl
theorem tok_51 : TOk Tryd.prog 51 { ti := some (true, 4), fi := [some (0, (false, 1)), some (1, (false, 1)), some (2, (false, 1)), some (3, (false, 1))], si := some [(0, 1), (1, 1), (2, 1), (3, 1)], zv := some (.agg [.str [], .nils, .str [], .nils]), zok := some 4, by' := some 80, un := true } := ⟨ti_51, trivial, trivial, ⟨fi_51_0, fi_51_1, fi_51_2, fi_51_3, trivial⟩, si_51, zv_51, zok_51, by_51, trivial, trivial, trivial, trivial, trivial, trivial, uns_51, trivial⟩
theorem uns_52 : (Tryd.prog.underlying 52).isSome = true := by kernel_rfl
theorem tok_52 : TOk Tryd.prog 52 { ti := some (true, 2), fi := [some (0, (false, 1)), some (1, (false, 1))], si := some [(0, 1), (1, 1)], zv := some (.agg [.str [], .nils]), zok := some 2, by' := some 40, un := true } := ⟨ti_52, trivial, trivial, ⟨fi_52_0, fi_52_1, trivial⟩, si_52, zv_52, zok_52, by_52, trivial, trivial, trivial, trivial, trivial, trivial, uns_52, trivial⟩
theorem uns_53 : (Tryd.prog.underlying 53).isSome = true := by kernel_rfl
theorem tok_53 : TOk Tryd.prog 53 { ti := some (true, 2), fi := [some (0, (false, 1)), some (1, (false, 1))], si := some [(0, 1), (1, 1)], zv := some (.agg [.str [], .nils]), zok := some 2, by' := some 40, un := true } := ⟨ti_53, trivial, trivial, ⟨fi_53_0, fi_53_1, trivial⟩, si_53, zv_53, zok_53, by_53, trivial, trivial, trivial, trivial, trivial, trivial, uns_53, trivial⟩
theorem uns_54 : (Tryd.prog.underlying 54).isSome = true := by kernel_rfl
theorem tok_54 : TOk Tryd.prog 54 { ti := some (false, 1), zv := some (.any), zok := some 1, by' := some 8, un := true } := ⟨ti_54, trivial, trivial, trivial, trivial, zv_54, zok_54, by_54, trivial, trivial, trivial, trivial, trivial, trivial, uns_54, trivial⟩
theorem uns_55 : (Tryd.prog.underlying 55).isSome = true := by kernel_rfl
theorem tok_55 : TOk Tryd.prog 55 { ti := some (false, 1), zv := some (.any), zok := some 1, by' := some 8, un := true } := ⟨ti_55, trivial, trivial, trivial, trivial, zv_55, zok_55, by_55, trivial, trivial, trivial, trivial, trivial, trivial, uns_55, trivial⟩
theorem uns_56 : (Tryd.prog.underlying 56).isSome = true := by kernel_rfl
theorem tok_56 : TOk Tryd.prog 56 { ti := some (false, 1), zv := some (.any), zok := some 1, by' := some 8, un := true } := ⟨ti_56, trivial, trivial, trivial, trivial, zv_56, zok_56, by_56, trivial, trivial, trivial, trivial, trivial, trivial, uns_56, trivial⟩
theorem uns_57 : (Tryd.prog.underlying 57).isSome = true := by kernel_rfl
theorem tok_57 : TOk Tryd.prog 57 { ti := some (false, 1), zv := some (.any), zok := some 1, by' := some 8, un := true } := ⟨ti_57, trivial, trivial, trivial, trivial, zv_57, zok_57, by_57, trivial, trivial, trivial, trivial, trivial, trivial, uns_57, trivial⟩
theorem uns_58 : (Tryd.prog.underlying 58).isSome = true := by kernel_rfl
theorem tok_58 : TOk Tryd.prog 58 { ti := some (true, 3), fi := [some (0, (false, 1)), some (1, (false, 1)), some (2, (false, 1))], si := some [(0, 1), (1, 1), (2, 1)], zv := some (.agg [.str [], .str [], .bool false]), zok := some 3, by' := some 40, un := true } := ⟨ti_58, trivial, trivial, ⟨fi_58_0, fi_58_1, fi_58_2, trivial⟩, si_58, zv_58, zok_58, by_58, trivial, trivial, trivial, trivial, trivial, trivial, uns_58, trivial⟩
theorem sq_59 : SQ Tryd.prog 59 = some [.s, .s, .b] := by kernel_rfl
theorem uns_59 : (Tryd.prog.underlying 59).isSome = true := by kernel_rfl
theorem tok_59 : TOk Tryd.prog 59 { ti := some (true, 3), fi := [some (0, (false, 1)), some (1, (false, 1)), some (2, (false, 1))], si := some [(0, 1), (1, 1), (2, 1)], zv := some (.agg [.str [], .str [], .bool false]), zok := some 3, by' := some 40, un := true, sq := some [.s, .s, .b] } := ⟨ti_59, trivial, trivial, ⟨fi_59_0, fi_59_1, fi_59_2, trivial⟩, si_59, zv_59, zok_59, by_59, trivial, trivial, trivial, trivial, trivial, trivial, uns_59, sq_59⟩
theorem uns_61 : (Tryd.prog.underlying 61).isSome = true := by kernel_rfl
theorem tok_61 : TOk Tryd.prog 61 { ti := some (false, 1), zv := some (.any), zok := some 1, by' := some 8, un := true } := ⟨ti_61, trivial, trivial, trivial, trivial, zv_61, zok_61, by_61, trivial, trivial, trivial, trivial, trivial, trivial, uns_61, trivial⟩
theorem uns_63 : (Tryd.prog.underlying 63).isSome = true := by kernel_rfl
theorem tok_63 : TOk Tryd.prog 63 { ti := some (false, 1), zv := some (.any), zok := some 1, by' := some 8, un := true } := ⟨ti_63, trivial, trivial, trivial, trivial, zv_63, zok_63, by_63, trivial, trivial, trivial, trivial, trivial, trivial, uns_63, trivial⟩
theorem uns_64 : (Tryd.prog.underlying 64).isSome = true := by kernel_rfl
theorem tok_64 : TOk Tryd.prog 64 { ti := some (false, 1), zv := some (.any), zok := some 1, by' := some 8, un := true } := ⟨ti_64, trivial, trivial, trivial, trivial, zv_64, zok_64, by_64, trivial, trivial, trivial, trivial, trivial, trivial, uns_64, trivial⟩
theorem uns_65 : (Tryd.prog.underlying 65).isSome = true := by kernel_rfl
theorem tok_65 : TOk Tryd.prog 65 { ti := some (false, 1), zv := some (.any), zok := some 1, by' := some 8, un := true } := ⟨ti_65, trivial, trivial, trivial, trivial, zv_65, zok_65, by_65, trivial, trivial, trivial, trivial, trivial, trivial, uns_65, trivial⟩
theorem uns_66 : (Tryd.prog.underlying 66).isSome = true := by kernel_rfl
theorem tok_66 : TOk Tryd.prog 66 { ti := some (false, 1), zv := some (.nilp), zok := some 1, by' := some 8, ptr := true, un := true } := ⟨ti_66, trivial, trivial, trivial, trivial, zv_66, zok_66, by_66, trivial, trivial, trivial, trivial, isPtr_66, trivial, uns_66, trivial⟩
theorem uns_67 : (Tryd.prog.underlying 67).isSome = true := by kernel_rfl
theorem tok_67 : TOk Tryd.prog 67 { ti := some (true, 3), fi := [some (0, (false, 1)), some (1, (false, 1)), some (2, (false, 1))], si := some [(0, 1), (1, 1), (2, 1)], zv := some (.agg [.str [], .int .i64 0, .bool false]), zok := some 3, by' := some 32, un := true } := ⟨ti_67, trivial, trivial, ⟨fi_67_0, fi_67_1, fi_67_2, trivial⟩, si_67, zv_67, zok_67, by_67, trivial, trivial, trivial, trivial, trivial, trivial, uns_67, trivial⟩
theorem sq_68 : SQ Tryd.prog 68 = some [.s, .i .i64, .b] := by kernel_rfl
theorem uns_68 : (Tryd.prog.underlying 68).isSome = true := by kernel_rfl
theorem tok_68 : TOk Tryd.prog 68 { ti := some (true, 3), fi := [some (0, (false, 1)), some (1, (false, 1)), some (2, (false, 1))], si := some [(0, 1), (1, 1), (2, 1)], zv := some (.agg [.str [], .int .i64 0, .bool false]), zok := some 3, by' := some 32, un := true, sq := some [.s, .i .i64, .b] } := ⟨ti_68, trivial, trivial, ⟨fi_68_0, fi_68_1, fi_68_2, trivial⟩, si_68, zv_68, zok_68, by_68, trivial, trivial, trivial, trivial, trivial, trivial, uns_68, sq_68⟩
theorem uns_69 : (Tryd.prog.underlying 69).isSome = true := by kernel_rfl
theorem tok_69 : TOk Tryd.prog 69 { ti := some (false, 1), zv := some (.any), zok := some 1, by' := some 8, un := true } := ⟨ti_69, trivial, trivial, trivial, trivial, zv_69, zok_69, by_69, trivial, trivial, trivial, trivial, trivial, trivial, uns_69, trivial⟩
theorem uns_70 : (Tryd.prog.underlying 70).isSome = true := by kernel_rfl
theorem tok_70 : TOk Tryd.prog 70 { ti := some (false, 1), zv := some (.nilp), zok := some 1, by' := some 8, ptr := true, un := true } := ⟨ti_70, trivial, trivial, trivial, trivial, zv_70, zok_70, by_70, trivial, trivial, trivial, trivial, isPtr_70, trivial, uns_70, trivial⟩
theorem uns_71 : (Tryd.prog.underlying 71).isSome = true := by kernel_rfl
theorem tok_71 : TOk Tryd.prog 71 { ti := some (false, 1), zv := some (.nilp), zok := some 1, by' := some 8, ptr := true, un := true } := ⟨ti_71, trivial, trivial, trivial, trivial, zv_71, zok_71, by_71, trivial, trivial, trivial, trivial, isPtr_71, trivial, uns_71, trivial⟩
theorem uns_72 : (Tryd.prog.underlying 72).isSome = true := by kernel_rfl
theorem tok_72 : TOk Tryd.prog 72 { ti := some (false, 1), zv := some (.nilp), zok := some 1, by' := some 8, ptr := true, un := true } := ⟨ti_72, trivial, trivial, trivial, trivial, zv_72, zok_72, by_72, trivial, trivial, trivial, trivial, isPtr_72, trivial, uns_72, trivial⟩
theorem uns_73 : (Tryd.prog.underlying 73).isSome = true := by kernel_rfl
theorem tok_73 : TOk Tryd.prog 73 { ti := some (false, 1), ei := some (71, 1), zv := some (.nils), zok := some 1, by' := some 24, sli := true, ni := true, un := true } := ⟨ti_73, ei_73, trivial, trivial, trivial, zv_73, zok_73, by_73, trivial, trivial, isSli_73, trivial, trivial, notInt_73, uns_73, trivial⟩
theorem uns_74 : (Tryd.prog.underlying 74).isSome = true := by kernel_rfl
theorem tok_74 : TOk Tryd.prog 74 { ti := some (true, 4), fi := [some (0, (false, 1)), some (1, (false, 1)), some (2, (false, 1)), some (3, (false, 1))], si := some [(0, 1), (1, 1), (2, 1), (3, 1)], zv := some (.agg [.nilp, .nils, .str [], .bool false]), zok := some 4, by' := some 56, un := true } := ⟨ti_74, trivial, trivial, ⟨fi_74_0, fi_74_1, fi_74_2, fi_74_3, trivial⟩, si_74, zv_74, zok_74, by_74, trivial, trivial, trivial, trivial, trivial, trivial, uns_74, trivial⟩
theorem uns_75 : (Tryd.prog.underlying 75).isSome = true := by kernel_rfl
theorem tok_75 : TOk Tryd.prog 75 { ti := some (true, 4), fi := [some (0, (false, 1)), some (1, (false, 1)), some (2, (false, 1)), some (3, (false, 1))], si := some [(0, 1), (1, 1), (2, 1), (3, 1)], zv := some (.agg [.nilp, .nils, .str [], .bool false]), zok := some 4, by' := some 56, un := true } := ⟨ti_75, trivial, trivial, ⟨fi_75_0, fi_75_1, fi_75_2, fi_75_3, trivial⟩, si_75, zv_75, zok_75, by_75, trivial, trivial, trivial, trivial, trivial, trivial, uns_75, trivial⟩
theorem uns_76 : (Tryd.prog.underlying 76).isSome = true := by kernel_rfl
theorem tok_76 : TOk Tryd.prog 76 { ti := some (true, 4), fi := [some (0, (false, 1)), some (1, (false, 1)), some (2, (false, 1)), some (3, (false, 1))], si := some [(0, 1), (1, 1), (2, 1), (3, 1)], zv := some (.agg [.nilp, .nils, .int .i64 0, .str []]), zok := some 4, by' := some 56, un := true } := ⟨ti_76, trivial, trivial, ⟨fi_76_0, fi_76_1, fi_76_2, fi_76_3, trivial⟩, si_76, zv_76, zok_76, by_76, trivial, trivial, trivial, trivial, trivial, trivial, uns_76, trivial⟩
theorem uns_77 : (Tryd.prog.underlying 77).isSome = true := by kernel_rfl
theorem tok_77 : TOk Tryd.prog 77 { ti := some (true, 4), fi := [some (0, (false, 1)), some (1, (false, 1)), some (2, (false, 1)), some (3, (false, 1))], si := some [(0, 1), (1, 1), (2, 1), (3, 1)], zv := some (.agg [.nilp, .nils, .int .i64 0, .str []]), zok := some 4, by' := some 56, un := true } := ⟨ti_77, trivial, trivial, ⟨fi_77_0, fi_77_1, fi_77_2, fi_77_3, trivial⟩, si_77, zv_77, zok_77, by_77, trivial, trivial, trivial, trivial, trivial, trivial, uns_77, trivial⟩
theorem uns_78 : (Tryd.prog.underlying 78).isSome = true := by kernel_rfl
theorem tok_78 : TOk Tryd.prog 78 { ti := some (true, 5), fi := [some (0, (false, 1)), some (1, (false, 1)), some (2, (false, 1)), some (3, (false, 1)), some (4, (false, 1))], si := some [(0, 1), (1, 1), (2, 1), (3, 1), (4, 1)], zv := some (.agg [.int .i64 0, .str [], .nils, .bool false, .str []]), zok := some 5, by' := some 72, un := true } := ⟨ti_78, trivial, trivial, ⟨fi_78_0, fi_78_1, fi_78_2, fi_78_3, fi_78_4, trivial⟩, si_78, zv_78, zok_78, by_78, trivial, trivial, trivial, trivial, trivial, trivial, uns_78, trivial⟩
theorem uns_79 : (Tryd.prog.underlying 79).isSome = true := by kernel_rfl
theorem tok_79 : TOk Tryd.prog 79 { ti := some (true, 5), fi := [some (0, (false, 1)), some (1, (false, 1)), some (2, (false, 1)), some (3, (false, 1)), some (4, (false, 1))], si := some [(0, 1), (1, 1), (2, 1), (3, 1), (4, 1)], zv := some (.agg [.int .i64 0, .str [], .nils, .bool false, .str []]), zok := some 5, by' := some 72, un := true } := ⟨ti_79, trivial, trivial, ⟨fi_79_0, fi_79_1, fi_79_2, fi_79_3, fi_79_4, trivial⟩, si_79, zv_79, zok_79, by_79, trivial, trivial, trivial, trivial, trivial, trivial, uns_79, trivial⟩
theorem uns_80 : (Tryd.prog.underlying 80).isSome = true := by kernel_rfl
theorem tok_80 : TOk Tryd.prog 80 { ti := some (false, 1), zv := some (.any), zok := some 1, by' := some 8, un := true } := ⟨ti_80, trivial, trivial, trivial, trivial, zv_80, zok_80, by_80, trivial, trivial, trivial, trivial, trivial, trivial, uns_80, trivial⟩
theorem uns_81 : (Tryd.prog.underlying 81).isSome = true := by kernel_rfl
theorem tok_81 : TOk Tryd.prog 81 { ti := some (false, 1), zv := some (.any), zok := some 1, by' := some 8, un := true } := ⟨ti_81, trivial, trivial, trivial, trivial, zv_81, zok_81, by_81, trivial, trivial, trivial, trivial, trivial, trivial, uns_81, trivial⟩
theorem uns_82 : (Tryd.prog.underlying 82).isSome = true := by kernel_rfl
theorem tok_82 : TOk Tryd.prog 82 { ti := some (false, 1), zv := some (.any), zok := some 1, by' := some 8, un := true } := ⟨ti_82, trivial, trivial, trivial, trivial, zv_82, zok_82, by_82, trivial, trivial, trivial, trivial, trivial, trivial, uns_82, trivial⟩
theorem uns_83 : (Tryd.prog.underlying 83).isSome = true := by kernel_rfl
theorem tok_83 : TOk Tryd.prog 83 { ti := some (false, 1), zv := some (.any), zok := some 1, by' := some 8, un := true } := ⟨ti_83, trivial, trivial, trivial, trivial, zv_83, zok_83, by_83, trivial, trivial, trivial, trivial, trivial, trivial, uns_83, trivial⟩
theorem uns_84 : (Tryd.prog.underlying 84).isSome = true := by kernel_rfl
theorem tok_84 : TOk Tryd.prog 84 { ti := some (false, 1), zv := some (.any), zok := some 1, by' := some 8, un := true } := ⟨ti_84, trivial, trivial, trivial, trivial, zv_84, zok_84, by_84, trivial, trivial, trivial, trivial, trivial, trivial, uns_84, trivial⟩
theorem uns_85 : (Tryd.prog.underlying 85).isSome = true := by kernel_rfl
theorem tok_85 : TOk Tryd.prog 85 { ti := some (false, 1), ei := some (87, 7), zv := some (.nils), zok := some 1, by' := some 24, sli := true, ni := true, un := true } := ⟨ti_85, ei_85, trivial, trivial, trivial, zv_85, zok_85, by_85, trivial, trivial, isSli_85, trivial, trivial, notInt_85, uns_85, trivial⟩
theorem uns_86 : (Tryd.prog.underlying 86).isSome = true := by kernel_rfl
theorem tok_86 : TOk Tryd.prog 86 { ti := some (true, 7), fi := [some (0, (false, 1)), some (1, (true, 4)), some (5, (false, 1)), some (6, (false, 1))], si := some [(0, 1), (1, 4), (5, 1), (6, 1)], zv := some (.agg [.int .i64 0, .str [], .nils, .str [], .nils, .bool false, .bool false]), zok := some 7, by' := some 96, un := true } := ⟨ti_86, trivial, trivial, ⟨fi_86_0, fi_86_1, fi_86_2, fi_86_3, trivial⟩, si_86, zv_86, zok_86, by_86, trivial, trivial, trivial, trivial, trivial, trivial, uns_86, trivial⟩
theorem uns_87 : (Tryd.prog.underlying 87).isSome = true := by kernel_rfl
theorem tok_87 : TOk Tryd.prog 87 { ti := some (true, 7), fi := [some (0, (false, 1)), some (1, (true, 4)), some (5, (false, 1)), some (6, (false, 1))], si := some [(0, 1), (1, 4), (5, 1), (6, 1)], zv := some (.agg [.int .i64 0, .str [], .nils, .str [], .nils, .bool false, .bool false]), zok := some 7, by' := some 96, un := true } := ⟨ti_87, trivial, trivial, ⟨fi_87_0, fi_87_1, fi_87_2, fi_87_3, trivial⟩, si_87, zv_87, zok_87, by_87, trivial, trivial, trivial, trivial, trivial, trivial, uns_87, trivial⟩
theorem uns_88 : (Tryd.prog.underlying 88).isSome = true := by kernel_rfl
theorem tok_88 : TOk Tryd.prog 88 { ti := some (false, 1), zv := some (.any), zok := some 1, by' := some 8, un := true } := ⟨ti_88, trivial, trivial, trivial, trivial, zv_88, zok_88, by_88, trivial, trivial, trivial, trivial, trivial, trivial, uns_88, trivial⟩
theorem uns_89 : (Tryd.prog.underlying 89).isSome = true := by kernel_rfl
theorem tok_89 : TOk Tryd.prog 89 { ti := some (false, 1), zv := some (.any), zok := some 1, by' := some 8, un := true } := ⟨ti_89, trivial, trivial, trivial, trivial, zv_89, zok_89, by_89, trivial, trivial, trivial, trivial, trivial, trivial, uns_89, trivial⟩
theorem uns_90 : (Tryd.prog.underlying 90).isSome = true := by kernel_rfl
theorem tok_90 : TOk Tryd.prog 90 { ti := some (false, 1), zv := some (.any), zok := some 1, by' := some 8, un := true } := ⟨ti_90, trivial, trivial, trivial, trivial, zv_90, zok_90, by_90, trivial, trivial, trivial, trivial, trivial, trivial, uns_90, trivial⟩
theorem uns_91 : (Tryd.prog.underlying 91).isSome = true := by kernel_rfl
theorem tok_91 : TOk Tryd.prog 91 { ti := some (false, 1), zv := some (.any), zok := some 1, by' := some 8, un := true } := ⟨ti_91, trivial, trivial, trivial, trivial, zv_91, zok_91, by_91, trivial, trivial, trivial, trivial, trivial, trivial, uns_91, trivial⟩
theorem uns_92 : (Tryd.prog.underlying 92).isSome = true := by kernel_rfl
theorem tok_92 : TOk Tryd.prog 92 { ti := some (false, 1), ei := some (99, 2), zv := some (.nils), zok := some 1, by' := some 24, sli := true, ni := true, un := true } := ⟨ti_92, ei_92, trivial, trivial, trivial, zv_92, zok_92, by_92, trivial, trivial, isSli_92, trivial, trivial, notInt_92, uns_92, trivial⟩
theorem uns_93 : (Tryd.prog.underlying 93).isSome = true := by kernel_rfl
theorem tok_93 : TOk Tryd.prog 93 { ti := some (false, 1), ei := some (134, 8), zv := some (.nils), zok := some 1, by' := some 24, sli := true, ni := true, un := true } := ⟨ti_93, ei_93, trivial, trivial, trivial, zv_93, zok_93, by_93, trivial, trivial, isSli_93, trivial, trivial, notInt_93, uns_93, trivial⟩
theorem uns_95 : (Tryd.prog.underlying 95).isSome = true := by kernel_rfl
theorem tok_95 : TOk Tryd.prog 95 { ti := some (false, 1), zv := some (.any), zok := some 1, by' := some 8, un := true } := ⟨ti_95, trivial, trivial, trivial, trivial, zv_95, zok_95, by_95, trivial, trivial, trivial, trivial, trivial, trivial, uns_95, trivial⟩
theorem uns_96 : (Tryd.prog.underlying 96).isSome = true := by kernel_rfl
theorem tok_96 : TOk Tryd.prog 96 { ti := some (true, 2), fi := [some (0, (false, 1)), some (1, (false, 1))], si := some [(0, 1), (1, 1)], zv := some (.agg [.nils, .nils]), zok := some 2, by' := some 48, un := true } := ⟨ti_96, trivial, trivial, ⟨fi_96_0, fi_96_1, trivial⟩, si_96, zv_96, zok_96, by_96, trivial, trivial, trivial, trivial, trivial, trivial, uns_96, trivial⟩
theorem uns_97 : (Tryd.prog.underlying 97).isSome = true := by kernel_rfl
theorem tok_97 : TOk Tryd.prog 97 { ti := some (true, 2), fi := [some (0, (false, 1)), some (1, (false, 1))], si := some [(0, 1), (1, 1)], zv := some (.agg [.nils, .nils]), zok := some 2, by' := some 48, un := true } := ⟨ti_97, trivial, trivial, ⟨fi_97_0, fi_97_1, trivial⟩, si_97, zv_97, zok_97, by_97, trivial, trivial, trivial, trivial, trivial, trivial, uns_97, trivial⟩
theorem uns_98 : (Tryd.prog.underlying 98).isSome = true := by kernel_rfl
theorem tok_98 : TOk Tryd.prog 98 { ti := some (true, 2), fi := [some (0, (false, 1)), some (1, (false, 1))], si := some [(0, 1), (1, 1)], zv := some (.agg [.int .i64 0, .int .i64 0]), zok := some 2, by' := some 16, un := true } := ⟨ti_98, trivial, trivial, ⟨fi_98_0, fi_98_1, trivial⟩, si_98, zv_98, zok_98, by_98, trivial, trivial, trivial, trivial, trivial, trivial, uns_98, trivial⟩
theorem sq_99 : SQ Tryd.prog 99 = some [.i .i64, .i .i64] := by kernel_rfl
theorem uns_99 : (Tryd.prog.underlying 99).isSome = true := by kernel_rfl
theorem tok_99 : TOk Tryd.prog 99 { ti := some (true, 2), fi := [some (0, (false, 1)), some (1, (false, 1))], si := some [(0, 1), (1, 1)], zv := some (.agg [.int .i64 0, .int .i64 0]), zok := some 2, by' := some 16, un := true, sq := some [.i .i64, .i .i64] } := ⟨ti_99, trivial, trivial, ⟨fi_99_0, fi_99_1, trivial⟩, si_99, zv_99, zok_99, by_99, trivial, trivial, trivial, trivial, trivial, trivial, uns_99, sq_99⟩
theorem uns_100 : (Tryd.prog.underlying 100).isSome = true := by kernel_rfl
theorem tok_100 : TOk Tryd.prog 100 { ti := some (false, 1), zv := some (.any), zok := some 1, by' := some 8, un := true } := ⟨ti_100, trivial, trivial, trivial, trivial, zv_100, zok_100, by_100, trivial, trivial, trivial, trivial, trivial, trivial, uns_100, trivial⟩
theorem uns_101 : (Tryd.prog.underlying 101).isSome = true := by kernel_rfl
theorem tok_101 : TOk Tryd.prog 101 { ti := some (false, 1), zv := some (.any), zok := some 1, by' := some 8, un := true } := ⟨ti_101, trivial, trivial, trivial, trivial, zv_101, zok_101, by_101, trivial, trivial, trivial, trivial, trivial, trivial, uns_101, trivial⟩
theorem uns_102 : (Tryd.prog.underlying 102).isSome = true := by kernel_rfl
theorem tok_102 : TOk Tryd.prog 102 { ti := some (true, 2), fi := [some (0, (false, 1)), some (1, (false, 1))], si := some [(0, 1), (1, 1)], zv := some (.agg [.nils, .nils]), zok := some 2, by' := some 48, un := true } := ⟨ti_102, trivial, trivial, ⟨fi_102_0, fi_102_1, trivial⟩, si_102, zv_102, zok_102, by_102, trivial, trivial, trivial, trivial, trivial, trivial, uns_102, trivial⟩
theorem uns_103 : (Tryd.prog.underlying 103).isSome = true := by kernel_rfl
theorem tok_103 : TOk Tryd.prog 103 { ti := some (true, 2), fi := [some (0, (false, 1)), some (1, (false, 1))], si := some [(0, 1), (1, 1)], zv := some (.agg [.nils, .nils]), zok := some 2, by' := some 48, un := true } := ⟨ti_103, trivial, trivial, ⟨fi_103_0, fi_103_1, trivial⟩, si_103, zv_103, zok_103, by_103, trivial, trivial, trivial, trivial, trivial, trivial, uns_103, trivial⟩
theorem uns_104 : (Tryd.prog.underlying 104).isSome = true := by kernel_rfl
theorem tok_104 : TOk Tryd.prog 104 { ti := some (false, 1), zv := some (.any), zok := some 1, by' := some 8, un := true } := ⟨ti_104, trivial, trivial, trivial, trivial, zv_104, zok_104, by_104, trivial, trivial, trivial, trivial, trivial, trivial, uns_104, trivial⟩
theorem uns_105 : (Tryd.prog.underlying 105).isSome = true := by kernel_rfl
theorem tok_105 : TOk Tryd.prog 105 { ti := some (false, 1), zv := some (.any), zok := some 1, by' := some 8, un := true } := ⟨ti_105, trivial, trivial, trivial, trivial, zv_105, zok_105, by_105, trivial, trivial, trivial, trivial, trivial, trivial, uns_105, trivial⟩
theorem uns_106 : (Tryd.prog.underlying 106).isSome = true := by kernel_rfl
theorem tok_106 : TOk Tryd.prog 106 { ti := some (false, 1), ei := some (3, 1), zv := some (.nils), zok := some 1, by' := some 24, sli := true, ni := true, un := true } := ⟨ti_106, ei_106, trivial, trivial, trivial, zv_106, zok_106, by_106, trivial, trivial, isSli_106, trivial, trivial, notInt_106, uns_106, trivial⟩
theorem uns_107 : (Tryd.prog.underlying 107).isSome = true := by kernel_rfl
theorem tok_107 : TOk Tryd.prog 107 { ti := some (false, 1), zv := some (.any), zok := some 1, by' := some 8, un := true } := ⟨ti_107, trivial, trivial, trivial, trivial, zv_107, zok_107, by_107, trivial, trivial, trivial, trivial, trivial, trivial, uns_107, trivial⟩
theorem uns_108 : (Tryd.prog.underlying 108).isSome = true := by kernel_rfl
theorem tok_108 : TOk Tryd.prog 108 { ti := some (false, 1), zv := some (.any), zok := some 1, by' := some 8, un := true } := ⟨ti_108, trivial, trivial, trivial, trivial, zv_108, zok_108, by_108, trivial, trivial, trivial, trivial, trivial, trivial, uns_108, trivial⟩
theorem uns_109 : (Tryd.prog.underlying 109).isSome = true := by kernel_rfl
theorem tok_109 : TOk Tryd.prog 109 { ti := some (false, 1), zv := some (.any), zok := some 1, by' := some 8, un := true } := ⟨ti_109, trivial, trivial, trivial, trivial, zv_109, zok_109, by_109, trivial, trivial, trivial, trivial, trivial, trivial, uns_109, trivial⟩
theorem uns_110 : (Tryd.prog.underlying 110).isSome = true := by kernel_rfl
theorem tok_110 : TOk Tryd.prog 110 { ti := some (false, 1), zv := some (.any), zok := some 1, by' := some 8, un := true } := ⟨ti_110, trivial, trivial, trivial, trivial, zv_110, zok_110, by_110, trivial, trivial, trivial, trivial, trivial, trivial, uns_110, trivial⟩
theorem uns_111 : (Tryd.prog.underlying 111).isSome = true := by kernel_rfl
theorem tok_111 : TOk Tryd.prog 111 { ti := some (true, 2), fi := [some (0, (false, 1)), some (1, (false, 1))], si := some [(0, 1), (1, 1)], zv := some (.agg [.str [], .str []]), zok := some 2, by' := some 32, un := true } := ⟨ti_111, trivial, trivial, ⟨fi_111_0, fi_111_1, trivial⟩, si_111, zv_111, zok_111, by_111, trivial, trivial, trivial, trivial, trivial, trivial, uns_111, trivial⟩
theorem sq_112 : SQ Tryd.prog 112 = some [.s, .s] := by kernel_rfl
theorem uns_112 : (Tryd.prog.underlying 112).isSome = true := by kernel_rfl
theorem tok_112 : TOk Tryd.prog 112 { ti := some (true, 2), fi := [some (0, (false, 1)), some (1, (false, 1))], si := some [(0, 1), (1, 1)], zv := some (.agg [.str [], .str []]), zok := some 2, by' := some 32, un := true, sq := some [.s, .s] } := ⟨ti_112, trivial, trivial, ⟨fi_112_0, fi_112_1, trivial⟩, si_112, zv_112, zok_112, by_112, trivial, trivial, trivial, trivial, trivial, trivial, uns_112, sq_112⟩
theorem uns_113 : (Tryd.prog.underlying 113).isSome = true := by kernel_rfl
theorem tok_113 : TOk Tryd.prog 113 { ti := some (false, 1), zv := some (.any), zok := some 1, by' := some 8, un := true } := ⟨ti_113, trivial, trivial, trivial, trivial, zv_113, zok_113, by_113, trivial, trivial, trivial, trivial, trivial, trivial, uns_113, trivial⟩
theorem uns_114 : (Tryd.prog.underlying 114).isSome = true := by kernel_rfl
theorem tok_114 : TOk Tryd.prog 114 { ti := some (false, 1), zv := some (.any), zok := some 1, by' := some 8, un := true } := ⟨ti_114, trivial, trivial, trivial, trivial, zv_114, zok_114, by_114, trivial, trivial, trivial, trivial, trivial, trivial, uns_114, trivial⟩
theorem uns_115 : (Tryd.prog.underlying 115).isSome = true := by kernel_rfl
theorem tok_115 : TOk Tryd.prog 115 { ti := some (false, 1), zv := some (.any), zok := some 1, by' := some 8, un := true } := ⟨ti_115, trivial, trivial, trivial, trivial, zv_115, zok_115, by_115, trivial, trivial, trivial, trivial, trivial, trivial, uns_115, trivial⟩
theorem uns_116 : (Tryd.prog.underlying 116).isSome = true := by kernel_rfl
theorem tok_116 : TOk Tryd.prog 116 { ti := some (false, 1), zv := some (.nilp), zok := some 1, by' := some 8, ptr := true, un := true } := ⟨ti_116, trivial, trivial, trivial, trivial, zv_116, zok_116, by_116, trivial, trivial, trivial, trivial, isPtr_116, trivial, uns_116, trivial⟩
theorem uns_117 : (Tryd.prog.underlying 117).isSome = true := by kernel_rfl
theorem tok_117 : TOk Tryd.prog 117 { ti := some (false, 1), ei := some (5, 1), zv := some (.nils), zok := some 1, by' := some 24, sli := true, ni := true, un := true } := ⟨ti_117, ei_117, trivial, trivial, trivial, zv_117, zok_117, by_117, trivial, trivial, isSli_117, trivial, trivial, notInt_117, uns_117, trivial⟩
theorem uns_118 : (Tryd.prog.underlying 118).isSome = true := by kernel_rfl
theorem tok_118 : TOk Tryd.prog 118 { ti := some (true, 2), fi := [some (0, (false, 1)), some (1, (false, 1))], si := some [(0, 1), (1, 1)], zv := some (.agg [.nilp, .nils]), zok := some 2, by' := some 32, un := true } := ⟨ti_118, trivial, trivial, ⟨fi_118_0, fi_118_1, trivial⟩, si_118, zv_118, zok_118, by_118, trivial, trivial, trivial, trivial, trivial, trivial, uns_118, trivial⟩
theorem uns_119 : (Tryd.prog.underlying 119).isSome = true := by kernel_rfl
theorem tok_119 : TOk Tryd.prog 119 { ti := some (true, 2), fi := [some (0, (false, 1)), some (1, (false, 1))], si := some [(0, 1), (1, 1)], zv := some (.agg [.nilp, .nils]), zok := some 2, by' := some 32, un := true } := ⟨ti_119, trivial, trivial, ⟨fi_119_0, fi_119_1, trivial⟩, si_119, zv_119, zok_119, by_119, trivial, trivial, trivial, trivial, trivial, trivial, uns_119, trivial⟩
theorem uns_123 : (Tryd.prog.underlying 123).isSome = true := by kernel_rfl
theorem tok_123 : TOk Tryd.prog 123 { ti := some (false, 1), zv := some (.any), zok := some 1, by' := some 8, un := true } := ⟨ti_123, trivial, trivial, trivial, trivial, zv_123, zok_123, by_123, trivial, trivial, trivial, trivial, trivial, trivial, uns_123, trivial⟩
theorem uns_124 : (Tryd.prog.underlying 124).isSome = true := by kernel_rfl
theorem tok_124 : TOk Tryd.prog 124 { ti := some (false, 1), zv := some (.any), zok := some 1, by' := some 8, un := true } := ⟨ti_124, trivial, trivial, trivial, trivial, zv_124, zok_124, by_124, trivial, trivial, trivial, trivial, trivial, trivial, uns_124, trivial⟩
theorem uns_125 : (Tryd.prog.underlying 125).isSome = true := by kernel_rfl
theorem tok_125 : TOk Tryd.prog 125 { ti := some (true, 9), ai := some (9, (false, 1)), zv := some (.agg [.str [], .str [], .str [], .str [], .str [], .str [], .str [], .str [], .str []]), zok := some 9, by' := some 144, un := true } := ⟨ti_125, trivial, ai_125, trivial, trivial, zv_125, zok_125, by_125, trivial, trivial, trivial, trivial, trivial, trivial, uns_125, trivial⟩
theorem uns_126 : (Tryd.prog.underlying 126).isSome = true := by kernel_rfl
theorem tok_126 : TOk Tryd.prog 126 { ti := some (false, 1), zv := some (.any), zok := some 1, by' := some 8, un := true } := ⟨ti_126, trivial, trivial, trivial, trivial, zv_126, zok_126, by_126, trivial, trivial, trivial, trivial, trivial, trivial, uns_126, trivial⟩
theorem uns_127 : (Tryd.prog.underlying 127).isSome = true := by kernel_rfl
theorem tok_127 : TOk Tryd.prog 127 { ti := some (false, 1), zv := some (.any), zok := some 1, by' := some 8, un := true } := ⟨ti_127, trivial, trivial, trivial, trivial, zv_127, zok_127, by_127, trivial, trivial, trivial, trivial, trivial, trivial, uns_127, trivial⟩
theorem uns_128 : (Tryd.prog.underlying 128).isSome = true := by kernel_rfl
theorem tok_128 : TOk Tryd.prog 128 { ti := some (true, 4), ai := some (4, (false, 1)), zv := some (.agg [.str [], .str [], .str [], .str []]), zok := some 4, by' := some 64, un := true } := ⟨ti_128, trivial, ai_128, trivial, trivial, zv_128, zok_128, by_128, trivial, trivial, trivial, trivial, trivial, trivial, uns_128, trivial⟩
theorem uns_129 : (Tryd.prog.underlying 129).isSome = true := by kernel_rfl
theorem tok_129 : TOk Tryd.prog 129 { ti := some (false, 1), zv := some (.any), zok := some 1, by' := some 8, un := true } := ⟨ti_129, trivial, trivial, trivial, trivial, zv_129, zok_129, by_129, trivial, trivial, trivial, trivial, trivial, trivial, uns_129, trivial⟩
theorem uns_130 : (Tryd.prog.underlying 130).isSome = true := by kernel_rfl
theorem tok_130 : TOk Tryd.prog 130 { ti := some (false, 1), zv := some (.any), zok := some 1, by' := some 8, un := true } := ⟨ti_130, trivial, trivial, trivial, trivial, zv_130, zok_130, by_130, trivial, trivial, trivial, trivial, trivial, trivial, uns_130, trivial⟩
theorem uns_131 : (Tryd.prog.underlying 131).isSome = true := by kernel_rfl
theorem tok_131 : TOk Tryd.prog 131 { ti := some (false, 1), zv := some (.any), zok := some 1, by' := some 8, un := true } := ⟨ti_131, trivial, trivial, trivial, trivial, zv_131, zok_131, by_131, trivial, trivial, trivial, trivial, trivial, trivial, uns_131, trivial⟩
theorem uns_132 : (Tryd.prog.underlying 132).isSome = true := by kernel_rfl
theorem tok_132 : TOk Tryd.prog 132 { ti := some (false, 1), zv := some (.any), zok := some 1, by' := some 8, un := true } := ⟨ti_132, trivial, trivial, trivial, trivial, zv_132, zok_132, by_132, trivial, trivial, trivial, trivial, trivial, trivial, uns_132, trivial⟩
theorem uns_133 : (Tryd.prog.underlying 133).isSome = true := by kernel_rfl
theorem tok_133 : TOk Tryd.prog 133 { ti := some (false, 1), zv := some (.any), zok := some 1, by' := some 8, un := true } := ⟨ti_133, trivial, trivial, trivial, trivial, zv_133, zok_133, by_133, trivial, trivial, trivial, trivial, trivial, trivial, uns_133, trivial⟩
theorem uns_134 : (Tryd.prog.underlying 134).isSome = true := by kernel_rfl
theorem tok_134 : TOk Tryd.prog 134 { ti := some (true, 8), ai := some (8, (false, 1)), zv := some (.agg [.int .i64 0, .int .i64 0, .int .i64 0, .int .i64 0, .int .i64 0, .int .i64 0, .int .i64 0, .int .i64 0]), zok := some 8, by' := some 64, un := true } := ⟨ti_134, trivial, ai_134, trivial, trivial, zv_134, zok_134, by_134, trivial, trivial, trivial, trivial, trivial, trivial, uns_134, trivial⟩
theorem uns_135 : (Tryd.prog.underlying 135).isSome = true := by kernel_rfl
theorem tok_135 : TOk Tryd.prog 135 { ti := some (false, 1), zv := some (.any), zok := some 1, by' := some 8, un := true } := ⟨ti_135, trivial, trivial, trivial, trivial, zv_135, zok_135, by_135, trivial, trivial, trivial, trivial, trivial, trivial, uns_135, trivial⟩
theorem uns_137 : (Tryd.prog.underlying 137).isSome = true := by kernel_rfl
theorem tok_137 : TOk Tryd.prog 137 { ti := some (false, 1), zv := some (.any), zok := some 1, by' := some 8, un := true } := ⟨ti_137, trivial, trivial, trivial, trivial, zv_137, zok_137, by_137, trivial, trivial, trivial, trivial, trivial, trivial, uns_137, trivial⟩
theorem uns_138 : (Tryd.prog.underlying 138).isSome = true := by kernel_rfl
theorem tok_138 : TOk Tryd.prog 138 { ti := some (false, 1), zv := some (.any), zok := some 1, by' := some 8, un := true } := ⟨ti_138, trivial, trivial, trivial, trivial, zv_138, zok_138, by_138, trivial, trivial, trivial, trivial, trivial, trivial, uns_138, trivial⟩
theorem uns_139 : (Tryd.prog.underlying 139).isSome = true := by kernel_rfl
theorem tok_139 : TOk Tryd.prog 139 { ti := some (false, 1), zv := some (.any), zok := some 1, by' := some 8, un := true } := ⟨ti_139, trivial, trivial, trivial, trivial, zv_139, zok_139, by_139, trivial, trivial, trivial, trivial, trivial, trivial, uns_139, trivial⟩
theorem uns_140 : (Tryd.prog.underlying 140).isSome = true := by kernel_rfl
theorem tok_140 : TOk Tryd.prog 140 { ti := some (false, 1), zv := some (.any), zok := some 1, by' := some 8, un := true } := ⟨ti_140, trivial, trivial, trivial, trivial, zv_140, zok_140, by_140, trivial, trivial, trivial, trivial, trivial, trivial, uns_140, trivial⟩
theorem uns_141 : (Tryd.prog.underlying 141).isSome = true := by kernel_rfl
theorem tok_141 : TOk Tryd.prog 141 { ti := some (false, 1), ei := some (39, 1), zv := some (.nils), zok := some 1, by' := some 24, sli := true, ni := true, un := true } := ⟨ti_141, ei_141, trivial, trivial, trivial, zv_141, zok_141, by_141, trivial, trivial, isSli_141, trivial, trivial, notInt_141, uns_141, trivial⟩
theorem uns_142 : (Tryd.prog.underlying 142).isSome = true := by kernel_rfl
theorem tok_142 : TOk Tryd.prog 142 { ti := some (false, 1), zv := some (.any), zok := some 1, by' := some 8, un := true } := ⟨ti_142, trivial, trivial, trivial, trivial, zv_142, zok_142, by_142, trivial, trivial, trivial, trivial, trivial, trivial, uns_142, trivial⟩
theorem uns_143 : (Tryd.prog.underlying 143).isSome = true := by kernel_rfl
theorem tok_143 : TOk Tryd.prog 143 { ti := some (false, 1), zv := some (.any), zok := some 1, by' := some 8, un := true } := ⟨ti_143, trivial, trivial, trivial, trivial, zv_143, zok_143, by_143, trivial, trivial, trivial, trivial, trivial, trivial, uns_143, trivial⟩
theorem uns_144 : (Tryd.prog.underlying 144).isSome = true := by kernel_rfl
theorem tok_144 : TOk Tryd.prog 144 { ti := some (false, 1), zv := some (.any), zok := some 1, by' := some 8, un := true } := ⟨ti_144, trivial, trivial, trivial, trivial, zv_144, zok_144, by_144, trivial, trivial, trivial, trivial, trivial, trivial, uns_144, trivial⟩
theorem uns_145 : (Tryd.prog.underlying 145).isSome = true := by kernel_rfl
theorem tok_145 : TOk Tryd.prog 145 { ti := some (false, 1), zv := some (.any), zok := some 1, by' := some 8, un := true } := ⟨ti_145, trivial, trivial, trivial, trivial, zv_145, zok_145, by_145, trivial, trivial, trivial, trivial, trivial, trivial, uns_145, trivial⟩
theorem uns_147 : (Tryd.prog.underlying 147).isSome = true := by kernel_rfl
theorem tok_147 : TOk Tryd.prog 147 { ti := some (false, 1), zv := some (.any), zok := some 1, by' := some 8, un := true } := ⟨ti_147, trivial, trivial, trivial, trivial, zv_147, zok_147, by_147, trivial, trivial, trivial, trivial, trivial, trivial, uns_147, trivial⟩
theorem uns_148 : (Tryd.prog.underlying 148).isSome = true := by kernel_rfl
theorem tok_148 : TOk Tryd.prog 148 { ti := some (false, 1), zv := some (.any), zok := some 1, by' := some 8, un := true } := ⟨ti_148, trivial, trivial, trivial, trivial, zv_148, zok_148, by_148, trivial, trivial, trivial, trivial, trivial, trivial, uns_148, trivial⟩
theorem uns_149 : (Tryd.prog.underlying 149).isSome = true := by kernel_rfl
theorem tok_149 : TOk Tryd.prog 149 { ti := some (false, 1), zv := some (.any), zok := some 1, by' := some 8, un := true } := ⟨ti_149, trivial, trivial, trivial, trivial, zv_149, zok_149, by_149, trivial, trivial, trivial, trivial, trivial, trivial, uns_149, trivial⟩
theorem uns_150 : (Tryd.prog.underlying 150).isSome = true := by kernel_rfl
theorem tok_150 : TOk Tryd.prog 150 { ti := some (false, 1), zv := some (.any), zok := some 1, by' := some 8, un := true } := ⟨ti_150, trivial, trivial, trivial, trivial, zv_150, zok_150, by_150, trivial, trivial, trivial, trivial, trivial, trivial, uns_150, trivial⟩
theorem uns_151 : (Tryd.prog.underlying 151).isSome = true := by kernel_rfl
theorem tok_151 : TOk Tryd.prog 151 { ti := some (false, 1), zv := some (.any), zok := some 1, by' := some 8, un := true } := ⟨ti_151, trivial, trivial, trivial, trivial, zv_151, zok_151, by_151, trivial, trivial, trivial, trivial, trivial, trivial, uns_151, trivial⟩
theorem uns_152 : (Tryd.prog.underlying 152).isSome = true := by kernel_rfl
theorem tok_152 : TOk Tryd.prog 152 { ti := some (false, 1), zv := some (.any), zok := some 1, by' := some 8, un := true } := ⟨ti_152, trivial, trivial, trivial, trivial, zv_152, zok_152, by_152, trivial, trivial, trivial, trivial, trivial, trivial, uns_152, trivial⟩
theorem uns_153 : (Tryd.prog.underlying 153).isSome = true := by kernel_rfl
theorem tok_153 : TOk Tryd.prog 153 { ti := some (false, 1), zv := some (.nilp), zok := some 1, by' := some 8, ptr := true, un := true } := ⟨ti_153, trivial, trivial, trivial, trivial, zv_153, zok_153, by_153, trivial, trivial, trivial, trivial, isPtr_153, trivial, uns_153, trivial⟩
theorem uns_154 : (Tryd.prog.underlying 154).isSome = true := by kernel_rfl
theorem tok_154 : TOk Tryd.prog 154 { ti := some (false, 1), zv := some (.any), zok := some 1, by' := some 8, un := true } := ⟨ti_154, trivial, trivial, trivial, trivial, zv_154, zok_154, by_154, trivial, trivial, trivial, trivial, trivial, trivial, uns_154, trivial⟩
theorem uns_155 : (Tryd.prog.underlying 155).isSome = true := by kernel_rfl
theorem tok_155 : TOk Tryd.prog 155 { ti := some (false, 1), zv := some (.any), zok := some 1, by' := some 8, un := true } := ⟨ti_155, trivial, trivial, trivial, trivial, zv_155, zok_155, by_155, trivial, trivial, trivial, trivial, trivial, trivial, uns_155, trivial⟩
theorem uns_156 : (Tryd.prog.underlying 156).isSome = true := by kernel_rfl
theorem tok_156 : TOk Tryd.prog 156 { ti := some (false, 1), zv := some (.any), zok := some 1, by' := some 8, un := true } := ⟨ti_156, trivial, trivial, trivial, trivial, zv_156, zok_156, by_156, trivial, trivial, trivial, trivial, trivial, trivial, uns_156, trivial⟩
theorem uns_157 : (Tryd.prog.underlying 157).isSome = true := by kernel_rfl
theorem tok_157 : TOk Tryd.prog 157 { ti := some (false, 1), zv := some (.any), zok := some 1, by' := some 8, un := true } := ⟨ti_157, trivial, trivial, trivial, trivial, zv_157, zok_157, by_157, trivial, trivial, trivial, trivial, trivial, trivial, uns_157, trivial⟩
theorem uns_158 : (Tryd.prog.underlying 158).isSome = true := by kernel_rfl
theorem tok_158 : TOk Tryd.prog 158 { ti := some (false, 1), zv := some (.any), zok := some 1, by' := some 8, un := true } := ⟨ti_158, trivial, trivial, trivial, trivial, zv_158, zok_158, by_158, trivial, trivial, trivial, trivial, trivial, trivial, uns_158, trivial⟩
theorem uns_159 : (Tryd.prog.underlying 159).isSome = true := by kernel_rfl
theorem tok_159 : TOk Tryd.prog 159 { ti := some (false, 1), zv := some (.any), zok := some 1, by' := some 8, un := true } := ⟨ti_159, trivial, trivial, trivial, trivial, zv_159, zok_159, by_159, trivial, trivial, trivial, trivial, trivial, trivial, uns_159, trivial⟩
theorem uns_160 : (Tryd.prog.underlying 160).isSome = true := by kernel_rfl
theorem tok_160 : TOk Tryd.prog 160 { ti := some (false, 1), zv := some (.int .u64 0), zok := some 1, by' := some 8, ik := some .u64, un := true } := ⟨ti_160, trivial, trivial, trivial, trivial, zv_160, zok_160, by_160, intK_160, trivial, trivial, trivial, trivial, trivial, uns_160, trivial⟩
theorem uns_162 : (Tryd.prog.underlying 162).isSome = true := by kernel_rfl
theorem tok_162 : TOk Tryd.prog 162 { ti := some (false, 1), zv := some (.any), zok := some 1, by' := some 8, un := true } := ⟨ti_162, trivial, trivial, trivial, trivial, zv_162, zok_162, by_162, trivial, trivial, trivial, trivial, trivial, trivial, uns_162, trivial⟩
theorem uns_163 : (Tryd.prog.underlying 163).isSome = true := by kernel_rfl
theorem tok_163 : TOk Tryd.prog 163 { ti := some (false, 1), zv := some (.any), zok := some 1, by' := some 8, un := true } := ⟨ti_163, trivial, trivial, trivial, trivial, zv_163, zok_163, by_163, trivial, trivial, trivial, trivial, trivial, trivial, uns_163, trivial⟩
theorem uns_164 : (Tryd.prog.underlying 164).isSome = true := by kernel_rfl
theorem tok_164 : TOk Tryd.prog 164 { ti := some (false, 1), zv := some (.any), zok := some 1, by' := some 8, un := true } := ⟨ti_164, trivial, trivial, trivial, trivial, zv_164, zok_164, by_164, trivial, trivial, trivial, trivial, trivial, trivial, uns_164, trivial⟩
theorem uns_165 : (Tryd.prog.underlying 165).isSome = true := by kernel_rfl
theorem tok_165 : TOk Tryd.prog 165 { ti := some (false, 1), zv := some (.any), zok := some 1, by' := some 8, un := true } := ⟨ti_165, trivial, trivial, trivial, trivial, zv_165, zok_165, by_165, trivial, trivial, trivial, trivial, trivial, trivial, uns_165, trivial⟩
theorem uns_166 : (Tryd.prog.underlying 166).isSome = true := by kernel_rfl
theorem tok_166 : TOk Tryd.prog 166 { ti := some (false, 1), zv := some (.any), zok := some 1, by' := some 8, un := true } := ⟨ti_166, trivial, trivial, trivial, trivial, zv_166, zok_166, by_166, trivial, trivial, trivial, trivial, trivial, trivial, uns_166, trivial⟩
theorem uns_169 : (Tryd.prog.underlying 169).isSome = true := by kernel_rfl
theorem tok_169 : TOk Tryd.prog 169 { ti := some (false, 1), zv := some (.any), zok := some 1, by' := some 8, un := true } := ⟨ti_169, trivial, trivial, trivial, trivial, zv_169, zok_169, by_169, trivial, trivial, trivial, trivial, trivial, trivial, uns_169, trivial⟩
theorem uns_170 : (Tryd.prog.underlying 170).isSome = true := by kernel_rfl
theorem tok_170 : TOk Tryd.prog 170 { ti := some (false, 1), zv := some (.any), zok := some 1, by' := some 8, un := true } := ⟨ti_170, trivial, trivial, trivial, trivial, zv_170, zok_170, by_170, trivial, trivial, trivial, trivial, trivial, trivial, uns_170, trivial⟩
theorem uns_171 : (Tryd.prog.underlying 171).isSome = true := by kernel_rfl
theorem tok_171 : TOk Tryd.prog 171 { ti := some (false, 1), zv := some (.int .u32 0), zok := some 1, by' := some 4, ik := some .u32, un := true } := ⟨ti_171, trivial, trivial, trivial, trivial, zv_171, zok_171, by_171, intK_171, trivial, trivial, trivial, trivial, trivial, uns_171, trivial⟩
theorem uns_173 : (Tryd.prog.underlying 173).isSome = true := by kernel_rfl
theorem tok_173 : TOk Tryd.prog 173 { ti := some (false, 1), zv := some (.any), zok := some 1, by' := some 8, un := true } := ⟨ti_173, trivial, trivial, trivial, trivial, zv_173, zok_173, by_173, trivial, trivial, trivial, trivial, trivial, trivial, uns_173, trivial⟩
theorem uns_174 : (Tryd.prog.underlying 174).isSome = true := by kernel_rfl
theorem tok_174 : TOk Tryd.prog 174 { ti := some (false, 1), zv := some (.int .u64 0), zok := some 1, by' := some 8, ik := some .u64, un := true } := ⟨ti_174, trivial, trivial, trivial, trivial, zv_174, zok_174, by_174, intK_174, trivial, trivial, trivial, trivial, trivial, uns_174, trivial⟩
theorem uns_176 : (Tryd.prog.underlying 176).isSome = true := by kernel_rfl
theorem tok_176 : TOk Tryd.prog 176 { ti := some (false, 1), zv := some (.any), zok := some 1, by' := some 8, un := true } := ⟨ti_176, trivial, trivial, trivial, trivial, zv_176, zok_176, by_176, trivial, trivial, trivial, trivial, trivial, trivial, uns_176, trivial⟩
theorem uns_177 : (Tryd.prog.underlying 177).isSome = true := by kernel_rfl
theorem tok_177 : TOk Tryd.prog 177 { ti := some (true, 256), ai := some (256, (false, 1)), zv := some (.agg [.int .u8 0, .int .u8 0, .int .u8 0, .int .u8 0, .int .u8 0, .int .u8 0, .int .u8 0, .int .u8 0, .int .u8 0, .int .u8 0, .int .u8 0, .int .u8 0, .int .u8 0, .int .u8 0, .int .u8 0, .int .u8 0, .int .u8 0, .int .u8 0, .int .u8 0, .int .u8 0, .int .u8 0, .int .u8 0, .int .u8 0, .int .u8 0, .int .u8 0, .int .u8 0, .int .u8 0, .int .u8 0, .int .u8 0, .int .u8 0, .int .u8 0, .int .u8 0, .int .u8 0, .int .u8 0, .int .u8 0, .int .u8 0, .int .u8 0, .int .u8 0, .int .u8 0, .int .u8 0, .int .u8 0, .int .u8 0, .int .u8 0, .int .u8 0, .int .u8 0, .int .u8 0, .int .u8 0, .int .u8 0, .int .u8 0, .int .u8 0, .int .u8 0, .int .u8 0, .int .u8 0, .int .u8 0, .int .u8 0, .int .u8 0, .int .u8 0, .int .u8 0, .int .u8 0, .int .u8 0, .int .u8 0, .int .u8 0, .int .u8 0, .int .u8 0, .int .u8 0, .int .u8 0, .int .u8 0, .int .u8 0, .int .u8 0, .int .u8 0, .int .u8 0, .int .u8 0, .int .u8 0, .int .u8 0, .int .u8 0, .int .u8 0, .int .u8 0, .int .u8 0, .int .u8 0, .int .u8 0, .int .u8 0, .int .u8 0, .int .u8 0, .int .u8 0, .int .u8 0, .int .u8 0, .int .u8 0, .int .u8 0, .int .u8 0, .int .u8 0, .int .u8 0, .int .u8 0, .int .u8 0, .int .u8 0, .int .u8 0, .int .u8 0, .int .u8 0, .int .u8 0, .int .u8 0, .int .u8 0, .int .u8 0, .int .u8 0, .int .u8 0, .int .u8 0, .int .u8 0, .int .u8 0, .int .u8 0, .int .u8 0, .int .u8 0, .int .u8 0, .int .u8 0, .int .u8 0, .int .u8 0, .int .u8 0, .int .u8 0, .int .u8 0, .int .u8 0, .int .u8 0, .int .u8 0, .int .u8 0, .int .u8 0, .int .u8 0, .int .u8 0, .int .u8 0, .int .u8 0, .int .u8 0, .int .u8 0, .int .u8 0, .int .u8 0, .int .u8 0, .int .u8 0, .int .u8 0, .int .u8 0, .int .u8 0, .int .u8 0, .int .u8 0, .int .u8 0, .int .u8 0, .int .u8 0, .int .u8 0, .int .u8 0, .int .u8 0, .int .u8 0, .int .u8 0, .int .u8 0, .int .u8 0, .int .u8 0, .int .u8 0, .int .u8 0, .int .u8 0, .int .u8 0, .int .u8 0, .int .u8 0, .int .u8 0, .int .u8 0, .int .u8 0, .int .u8 0, .int .u8 0, .int .u8 0, .int .u8 0, .int .u8 0, .int .u8 0, .int .u8 0, .int .u8 0, .int .u8 0, .int .u8 0, .int .u8 0, .int .u8 0, .int .u8 0, .int .u8 0, .int .u8 0, .int .u8 0, .int .u8 0, .int .u8 0, .int .u8 0, .int .u8 0, .int .u8 0, .int .u8 0, .int .u8 0, .int .u8 0, .int .u8 0, .int .u8 0, .int .u8 0, .int .u8 0, .int .u8 0, .int .u8 0, .int .u8 0, .int .u8 0, .int .u8 0, .int .u8 0, .int .u8 0, .int .u8 0, .int .u8 0, .int .u8 0, .int .u8 0, .int .u8 0, .int .u8 0, .int .u8 0, .int .u8 0, .int .u8 0, .int .u8 0, .int .u8 0, .int .u8 0, .int .u8 0, .int .u8 0, .int .u8 0, .int .u8 0, .int .u8 0, .int .u8 0, .int .u8 0, .int .u8 0, .int .u8 0, .int .u8 0, .int .u8 0, .int .u8 0, .int .u8 0, .int .u8 0, .int .u8 0, .int .u8 0, .int .u8 0, .int .u8 0, .int .u8 0, .int .u8 0, .int .u8 0, .int .u8 0, .int .u8 0, .int .u8 0, .int .u8 0, .int .u8 0, .int .u8 0, .int .u8 0, .int .u8 0, .int .u8 0, .int .u8 0, .int .u8 0, .int .u8 0, .int .u8 0, .int .u8 0, .int .u8 0, .int .u8 0, .int .u8 0, .int .u8 0, .int .u8 0, .int .u8 0, .int .u8 0, .int .u8 0, .int .u8 0, .int .u8 0, .int .u8 0, .int .u8 0, .int .u8 0, .int .u8 0, .int .u8 0, .int .u8 0, .int .u8 0, .int .u8 0]), zok := some 256, by' := some 256, un := true } := ⟨ti_177, trivial, ai_177, trivial, trivial, zv_177, zok_177, by_177, trivial, trivial, trivial, trivial, trivial, trivial, uns_177, trivial⟩
theorem uns_178 : (Tryd.prog.underlying 178).isSome = true := by kernel_rfl
theorem tok_178 : TOk Tryd.prog 178 { ti := some (false, 1), zv := some (.any), zok := some 1, by' := some 8, un := true } := ⟨ti_178, trivial, trivial, trivial, trivial, zv_178, zok_178, by_178, trivial, trivial, trivial, trivial, trivial, trivial, uns_178, trivial⟩
theorem uns_179 : (Tryd.prog.underlying 179).isSome = true := by kernel_rfl
theorem tok_179 : TOk Tryd.prog 179 { ti := some (true, 2), fi := [some (0, (false, 1)), some (1, (false, 1))], si := some [(0, 1), (1, 1)], zv := some (.agg [.int .u8 0, .int .u8 0]), zok := some 2, by' := some 2, un := true } := ⟨ti_179, trivial, trivial, ⟨fi_179_0, fi_179_1, trivial⟩, si_179, zv_179, zok_179, by_179, trivial, trivial, trivial, trivial, trivial, trivial, uns_179, trivial⟩
theorem uns_180 : (Tryd.prog.underlying 180).isSome = true := by kernel_rfl
theorem tok_180 : TOk Tryd.prog 180 { ti := some (true, 2), fi := [some (0, (false, 1)), some (1, (false, 1))], si := some [(0, 1), (1, 1)], zv := some (.agg [.int .u8 0, .int .u8 0]), zok := some 2, by' := some 2, un := true } := ⟨ti_180, trivial, trivial, ⟨fi_180_0, fi_180_1, trivial⟩, si_180, zv_180, zok_180, by_180, trivial, trivial, trivial, trivial, trivial, trivial, uns_180, trivial⟩
theorem uns_181 : (Tryd.prog.underlying 181).isSome = true := by kernel_rfl
theorem tok_181 : TOk Tryd.prog 181 { ti := some (true, 32), ai := some (16, (true, 2)), zv := some (.agg [.int .u8 0, .int .u8 0, .int .u8 0, .int .u8 0, .int .u8 0, .int .u8 0, .int .u8 0, .int .u8 0, .int .u8 0, .int .u8 0, .int .u8 0, .int .u8 0, .int .u8 0, .int .u8 0, .int .u8 0, .int .u8 0, .int .u8 0, .int .u8 0, .int .u8 0, .int .u8 0, .int .u8 0, .int .u8 0, .int .u8 0, .int .u8 0, .int .u8 0, .int .u8 0, .int .u8 0, .int .u8 0, .int .u8 0, .int .u8 0, .int .u8 0, .int .u8 0]), zok := some 32, by' := some 32, un := true } := ⟨ti_181, trivial, ai_181, trivial, trivial, zv_181, zok_181, by_181, trivial, trivial, trivial, trivial, trivial, trivial, uns_181, trivial⟩
theorem uns_182 : (Tryd.prog.underlying 182).isSome = true := by kernel_rfl
theorem tok_182 : TOk Tryd.prog 182 { ti := some (false, 1), zv := some (.any), zok := some 1, by' := some 8, un := true } := ⟨ti_182, trivial, trivial, trivial, trivial, zv_182, zok_182, by_182, trivial, trivial, trivial, trivial, trivial, trivial, uns_182, trivial⟩
theorem uns_183 : (Tryd.prog.underlying 183).isSome = true := by kernel_rfl
theorem tok_183 : TOk Tryd.prog 183 { ti := some (false, 1), zv := some (.any), zok := some 1, by' := some 8, un := true } := ⟨ti_183, trivial, trivial, trivial, trivial, zv_183, zok_183, by_183, trivial, trivial, trivial, trivial, trivial, trivial, uns_183, trivial⟩
theorem uns_184 : (Tryd.prog.underlying 184).isSome = true := by kernel_rfl
theorem tok_184 : TOk Tryd.prog 184 { ti := some (false, 1), ei := some (186, 2), zv := some (.nils), zok := some 1, by' := some 24, sli := true, ni := true, un := true } := ⟨ti_184, ei_184, trivial, trivial, trivial, zv_184, zok_184, by_184, trivial, trivial, isSli_184, trivial, trivial, notInt_184, uns_184, trivial⟩
theorem uns_185 : (Tryd.prog.underlying 185).isSome = true := by kernel_rfl
theorem tok_185 : TOk Tryd.prog 185 { ti := some (true, 2), fi := [some (0, (false, 1)), some (1, (false, 1))], si := some [(0, 1), (1, 1)], zv := some (.agg [.int .i64 0, .int .i64 0]), zok := some 2, by' := some 16, un := true } := ⟨ti_185, trivial, trivial, ⟨fi_185_0, fi_185_1, trivial⟩, si_185, zv_185, zok_185, by_185, trivial, trivial, trivial, trivial, trivial, trivial, uns_185, trivial⟩
theorem uns_186 : (Tryd.prog.underlying 186).isSome = true := by kernel_rfl
theorem tok_186 : TOk Tryd.prog 186 { ti := some (true, 2), fi := [some (0, (false, 1)), some (1, (false, 1))], si := some [(0, 1), (1, 1)], zv := some (.agg [.int .i64 0, .int .i64 0]), zok := some 2, by' := some 16, un := true } := ⟨ti_186, trivial, trivial, ⟨fi_186_0, fi_186_1, trivial⟩, si_186, zv_186, zok_186, by_186, trivial, trivial, trivial, trivial, trivial, trivial, uns_186, trivial⟩
theorem uns_187 : (Tryd.prog.underlying 187).isSome = true := by kernel_rfl
theorem tok_187 : TOk Tryd.prog 187 { ti := some (false, 1), zv := some (.any), zok := some 1, by' := some 8, un := true } := ⟨ti_187, trivial, trivial, trivial, trivial, zv_187, zok_187, by_187, trivial, trivial, trivial, trivial, trivial, trivial, uns_187, trivial⟩
theorem uns_188 : (Tryd.prog.underlying 188).isSome = true := by kernel_rfl
theorem tok_188 : TOk Tryd.prog 188 { ti := some (false, 1), zv := some (.nilp), zok := some 1, by' := some 8, ptr := true, un := true } := ⟨ti_188, trivial, trivial, trivial, trivial, zv_188, zok_188, by_188, trivial, trivial, trivial, trivial, isPtr_188, trivial, uns_188, trivial⟩
theorem uns_189 : (Tryd.prog.underlying 189).isSome = true := by kernel_rfl
theorem tok_189 : TOk Tryd.prog 189 { ti := some (false, 1), zv := some (.any), zok := some 1, by' := some 8, un := true } := ⟨ti_189, trivial, trivial, trivial, trivial, zv_189, zok_189, by_189, trivial, trivial, trivial, trivial, trivial, trivial, uns_189, trivial⟩
theorem uns_190 : (Tryd.prog.underlying 190).isSome = true := by kernel_rfl
theorem tok_190 : TOk Tryd.prog 190 { ti := some (false, 1), ei := some (196, 3), zv := some (.nils), zok := some 1, by' := some 24, sli := true, ni := true, un := true } := ⟨ti_190, ei_190, trivial, trivial, trivial, zv_190, zok_190, by_190, trivial, trivial, isSli_190, trivial, trivial, notInt_190, uns_190, trivial⟩
theorem uns_191 : (Tryd.prog.underlying 191).isSome = true := by kernel_rfl
theorem tok_191 : TOk Tryd.prog 191 { ti := some (false, 1), ei := some (199, 3), zv := some (.nils), zok := some 1, by' := some 24, sli := true, ni := true, un := true } := ⟨ti_191, ei_191, trivial, trivial, trivial, zv_191, zok_191, by_191, trivial, trivial, isSli_191, trivial, trivial, notInt_191, uns_191, trivial⟩
theorem uns_192 : (Tryd.prog.underlying 192).isSome = true := by kernel_rfl
theorem tok_192 : TOk Tryd.prog 192 { ti := some (true, 3), fi := [some (0, (false, 1)), some (1, (false, 1)), some (2, (false, 1))], si := some [(0, 1), (1, 1), (2, 1)], zv := some (.agg [.nils, .nils, .int .i64 0]), zok := some 3, by' := some 56, un := true } := ⟨ti_192, trivial, trivial, ⟨fi_192_0, fi_192_1, fi_192_2, trivial⟩, si_192, zv_192, zok_192, by_192, trivial, trivial, trivial, trivial, trivial, trivial, uns_192, trivial⟩
theorem uns_193 : (Tryd.prog.underlying 193).isSome = true := by kernel_rfl
theorem tok_193 : TOk Tryd.prog 193 { ti := some (true, 3), fi := [some (0, (false, 1)), some (1, (false, 1)), some (2, (false, 1))], si := some [(0, 1), (1, 1), (2, 1)], zv := some (.agg [.nils, .nils, .int .i64 0]), zok := some 3, by' := some 56, un := true } := ⟨ti_193, trivial, trivial, ⟨fi_193_0, fi_193_1, fi_193_2, trivial⟩, si_193, zv_193, zok_193, by_193, trivial, trivial, trivial, trivial, trivial, trivial, uns_193, trivial⟩
theorem uns_194 : (Tryd.prog.underlying 194).isSome = true := by kernel_rfl
theorem tok_194 : TOk Tryd.prog 194 { ti := some (false, 1), zv := some (.int .u16 0), zok := some 1, by' := some 2, ik := some .u16, un := true } := ⟨ti_194, trivial, trivial, trivial, trivial, zv_194, zok_194, by_194, intK_194, trivial, trivial, trivial, trivial, trivial, uns_194, trivial⟩
theorem uns_195 : (Tryd.prog.underlying 195).isSome = true := by kernel_rfl
theorem tok_195 : TOk Tryd.prog 195 { ti := some (true, 3), fi := [some (0, (false, 1)), some (1, (false, 1)), some (2, (false, 1))], si := some [(0, 1), (1, 1), (2, 1)], zv := some (.agg [.int .u16 0, .int .u16 0, .int .u16 0]), zok := some 3, by' := some 6, un := true } := ⟨ti_195, trivial, trivial, ⟨fi_195_0, fi_195_1, fi_195_2, trivial⟩, si_195, zv_195, zok_195, by_195, trivial, trivial, trivial, trivial, trivial, trivial, uns_195, trivial⟩
theorem uns_196 : (Tryd.prog.underlying 196).isSome = true := by kernel_rfl
theorem tok_196 : TOk Tryd.prog 196 { ti := some (true, 3), fi := [some (0, (false, 1)), some (1, (false, 1)), some (2, (false, 1))], si := some [(0, 1), (1, 1), (2, 1)], zv := some (.agg [.int .u16 0, .int .u16 0, .int .u16 0]), zok := some 3, by' := some 6, un := true } := ⟨ti_196, trivial, trivial, ⟨fi_196_0, fi_196_1, fi_196_2, trivial⟩, si_196, zv_196, zok_196, by_196, trivial, trivial, trivial, trivial, trivial, trivial, uns_196, trivial⟩
theorem uns_197 : (Tryd.prog.underlying 197).isSome = true := by kernel_rfl
theorem tok_197 : TOk Tryd.prog 197 { ti := some (false, 1), zv := some (.any), zok := some 1, by' := some 8, un := true } := ⟨ti_197, trivial, trivial, trivial, trivial, zv_197, zok_197, by_197, trivial, trivial, trivial, trivial, trivial, trivial, uns_197, trivial⟩
theorem uns_198 : (Tryd.prog.underlying 198).isSome = true := by kernel_rfl
theorem tok_198 : TOk Tryd.prog 198 { ti := some (true, 3), fi := [some (0, (false, 1)), some (1, (false, 1)), some (2, (false, 1))], si := some [(0, 1), (1, 1), (2, 1)], zv := some (.agg [.int .u32 0, .int .u32 0, .int .u32 0]), zok := some 3, by' := some 12, un := true } := ⟨ti_198, trivial, trivial, ⟨fi_198_0, fi_198_1, fi_198_2, trivial⟩, si_198, zv_198, zok_198, by_198, trivial, trivial, trivial, trivial, trivial, trivial, uns_198, trivial⟩
theorem uns_199 : (Tryd.prog.underlying 199).isSome = true := by kernel_rfl
theorem tok_199 : TOk Tryd.prog 199 { ti := some (true, 3), fi := [some (0, (false, 1)), some (1, (false, 1)), some (2, (false, 1))], si := some [(0, 1), (1, 1), (2, 1)], zv := some (.agg [.int .u32 0, .int .u32 0, .int .u32 0]), zok := some 3, by' := some 12, un := true } := ⟨ti_199, trivial, trivial, ⟨fi_199_0, fi_199_1, fi_199_2, trivial⟩, si_199, zv_199, zok_199, by_199, trivial, trivial, trivial, trivial, trivial, trivial, uns_199, trivial⟩
theorem uns_200 : (Tryd.prog.underlying 200).isSome = true := by kernel_rfl
theorem tok_200 : TOk Tryd.prog 200 { ti := some (false, 1), zv := some (.any), zok := some 1, by' := some 8, un := true } := ⟨ti_200, trivial, trivial, trivial, trivial, zv_200, zok_200, by_200, trivial, trivial, trivial, trivial, trivial, trivial, uns_200, trivial⟩
theorem uns_201 : (Tryd.prog.underlying 201).isSome = true := by kernel_rfl
theorem tok_201 : TOk Tryd.prog 201 { ti := some (true, 24), ai := some (24, (false, 1)), zv := some (.agg [.int .u8 0, .int .u8 0, .int .u8 0, .int .u8 0, .int .u8 0, .int .u8 0, .int .u8 0, .int .u8 0, .int .u8 0, .int .u8 0, .int .u8 0, .int .u8 0, .int .u8 0, .int .u8 0, .int .u8 0, .int .u8 0, .int .u8 0, .int .u8 0, .int .u8 0, .int .u8 0, .int .u8 0, .int .u8 0, .int .u8 0, .int .u8 0]), zok := some 24, by' := some 24, un := true } := ⟨ti_201, trivial, ai_201, trivial, trivial, zv_201, zok_201, by_201, trivial, trivial, trivial, trivial, trivial, trivial, uns_201, trivial⟩
theorem uns_202 : (Tryd.prog.underlying 202).isSome = true := by kernel_rfl
theorem tok_202 : TOk Tryd.prog 202 { ti := some (false, 1), zv := some (.any), zok := some 1, by' := some 8, un := true } := ⟨ti_202, trivial, trivial, trivial, trivial, zv_202, zok_202, by_202, trivial, trivial, trivial, trivial, trivial, trivial, uns_202, trivial⟩
theorem uns_203 : (Tryd.prog.underlying 203).isSome = true := by kernel_rfl
theorem tok_203 : TOk Tryd.prog 203 { ti := some (false, 1), zv := some (.any), zok := some 1, by' := some 8, un := true } := ⟨ti_203, trivial, trivial, trivial, trivial, zv_203, zok_203, by_203, trivial, trivial, trivial, trivial, trivial, trivial, uns_203, trivial⟩
theorem uns_205 : (Tryd.prog.underlying 205).isSome = true := by kernel_rfl
theorem tok_205 : TOk Tryd.prog 205 { ti := some (false, 1), zv := some (.any), zok := some 1, by' := some 8, un := true } := ⟨ti_205, trivial, trivial, trivial, trivial, zv_205, zok_205, by_205, trivial, trivial, trivial, trivial, trivial, trivial, uns_205, trivial⟩
theorem uns_206 : (Tryd.prog.underlying 206).isSome = true := by kernel_rfl
theorem tok_206 : TOk Tryd.prog 206 { ti := some (false, 1), zv := some (.nilp), zok := some 1, by' := some 8, ptr := true, un := true } := ⟨ti_206, trivial, trivial, trivial, trivial, zv_206, zok_206, by_206, trivial, trivial, trivial, trivial, isPtr_206, trivial, uns_206, trivial⟩
theorem uns_207 : (Tryd.prog.underlying 207).isSome = true := by kernel_rfl
theorem tok_207 : TOk Tryd.prog 207 { ti := some (false, 1), zv := some (.nilp), zok := some 1, by' := some 8, ptr := true, un := true } := ⟨ti_207, trivial, trivial, trivial, trivial, zv_207, zok_207, by_207, trivial, trivial, trivial, trivial, isPtr_207, trivial, uns_207, trivial⟩
theorem uns_208 : (Tryd.prog.underlying 208).isSome = true := by kernel_rfl
theorem tok_208 : TOk Tryd.prog 208 { ti := some (false, 1), zv := some (.any), zok := some 1, by' := some 8, un := true } := ⟨ti_208, trivial, trivial, trivial, trivial, zv_208, zok_208, by_208, trivial, trivial, trivial, trivial, trivial, trivial, uns_208, trivial⟩
theorem uns_209 : (Tryd.prog.underlying 209).isSome = true := by kernel_rfl
theorem tok_209 : TOk Tryd.prog 209 { ti := some (true, 20), ai := some (20, (false, 1)), zv := some (.agg [.int .u64 0, .int .u64 0, .int .u64 0, .int .u64 0, .int .u64 0, .int .u64 0, .int .u64 0, .int .u64 0, .int .u64 0, .int .u64 0, .int .u64 0, .int .u64 0, .int .u64 0, .int .u64 0, .int .u64 0, .int .u64 0, .int .u64 0, .int .u64 0, .int .u64 0, .int .u64 0]), zok := some 20, by' := some 160, un := true } := ⟨ti_209, trivial, ai_209, trivial, trivial, zv_209, zok_209, by_209, trivial, trivial, trivial, trivial, trivial, trivial, uns_209, trivial⟩
theorem uns_210 : (Tryd.prog.underlying 210).isSome = true := by kernel_rfl
theorem tok_210 : TOk Tryd.prog 210 { ti := some (true, 65), ai := some (65, (false, 1)), zv := some (.agg [.int .u8 0, .int .u8 0, .int .u8 0, .int .u8 0, .int .u8 0, .int .u8 0, .int .u8 0, .int .u8 0, .int .u8 0, .int .u8 0, .int .u8 0, .int .u8 0, .int .u8 0, .int .u8 0, .int .u8 0, .int .u8 0, .int .u8 0, .int .u8 0, .int .u8 0, .int .u8 0, .int .u8 0, .int .u8 0, .int .u8 0, .int .u8 0, .int .u8 0, .int .u8 0, .int .u8 0, .int .u8 0, .int .u8 0, .int .u8 0, .int .u8 0, .int .u8 0, .int .u8 0, .int .u8 0, .int .u8 0, .int .u8 0, .int .u8 0, .int .u8 0, .int .u8 0, .int .u8 0, .int .u8 0, .int .u8 0, .int .u8 0, .int .u8 0, .int .u8 0, .int .u8 0, .int .u8 0, .int .u8 0, .int .u8 0, .int .u8 0, .int .u8 0, .int .u8 0, .int .u8 0, .int .u8 0, .int .u8 0, .int .u8 0, .int .u8 0, .int .u8 0, .int .u8 0, .int .u8 0, .int .u8 0, .int .u8 0, .int .u8 0, .int .u8 0, .int .u8 0]), zok := some 65, by' := some 65, un := true } := ⟨ti_210, trivial, ai_210, trivial, trivial, zv_210, zok_210, by_210, trivial, trivial, trivial, trivial, trivial, trivial, uns_210, trivial⟩
theorem uns_211 : (Tryd.prog.underlying 211).isSome = true := by kernel_rfl
theorem tok_211 : TOk Tryd.prog 211 { ti := some (false, 1), zv := some (.any), zok := some 1, by' := some 8, un := true } := ⟨ti_211, trivial, trivial, trivial, trivial, zv_211, zok_211, by_211, trivial, trivial, trivial, trivial, trivial, trivial, uns_211, trivial⟩
theorem uns_212 : (Tryd.prog.underlying 212).isSome = true := by kernel_rfl
theorem tok_212 : TOk Tryd.prog 212 { ti := some (false, 1), zv := some (.any), zok := some 1, by' := some 8, un := true } := ⟨ti_212, trivial, trivial, trivial, trivial, zv_212, zok_212, by_212, trivial, trivial, trivial, trivial, trivial, trivial, uns_212, trivial⟩
theorem uns_213 : (Tryd.prog.underlying 213).isSome = true := by kernel_rfl
theorem tok_213 : TOk Tryd.prog 213 { ti := some (true, 32), ai := some (32, (false, 1)), zv := some (.agg [.int .u8 0, .int .u8 0, .int .u8 0, .int .u8 0, .int .u8 0, .int .u8 0, .int .u8 0, .int .u8 0, .int .u8 0, .int .u8 0, .int .u8 0, .int .u8 0, .int .u8 0, .int .u8 0, .int .u8 0, .int .u8 0, .int .u8 0, .int .u8 0, .int .u8 0, .int .u8 0, .int .u8 0, .int .u8 0, .int .u8 0, .int .u8 0, .int .u8 0, .int .u8 0, .int .u8 0, .int .u8 0, .int .u8 0, .int .u8 0, .int .u8 0, .int .u8 0]), zok := some 32, by' := some 32, un := true } := ⟨ti_213, trivial, ai_213, trivial, trivial, zv_213, zok_213, by_213, trivial, trivial, trivial, trivial, trivial, trivial, uns_213, trivial⟩
theorem uns_214 : (Tryd.prog.underlying 214).isSome = true := by kernel_rfl
theorem tok_214 : TOk Tryd.prog 214 { ti := some (true, 64), ai := some (64, (false, 1)), zv := some (.agg [.int .u8 0, .int .u8 0, .int .u8 0, .int .u8 0, .int .u8 0, .int .u8 0, .int .u8 0, .int .u8 0, .int .u8 0, .int .u8 0, .int .u8 0, .int .u8 0, .int .u8 0, .int .u8 0, .int .u8 0, .int .u8 0, .int .u8 0, .int .u8 0, .int .u8 0, .int .u8 0, .int .u8 0, .int .u8 0, .int .u8 0, .int .u8 0, .int .u8 0, .int .u8 0, .int .u8 0, .int .u8 0, .int .u8 0, .int .u8 0, .int .u8 0, .int .u8 0, .int .u8 0, .int .u8 0, .int .u8 0, .int .u8 0, .int .u8 0, .int .u8 0, .int .u8 0, .int .u8 0, .int .u8 0, .int .u8 0, .int .u8 0, .int .u8 0, .int .u8 0, .int .u8 0, .int .u8 0, .int .u8 0, .int .u8 0, .int .u8 0, .int .u8 0, .int .u8 0, .int .u8 0, .int .u8 0, .int .u8 0, .int .u8 0, .int .u8 0, .int .u8 0, .int .u8 0, .int .u8 0, .int .u8 0, .int .u8 0, .int .u8 0, .int .u8 0]), zok := some 64, by' := some 64, un := true } := ⟨ti_214, trivial, ai_214, trivial, trivial, zv_214, zok_214, by_214, trivial, trivial, trivial, trivial, trivial, trivial, uns_214, trivial⟩
def Tryd.tt : TT := (.node (.node (.node (.node (.node (.node (.node (.node .leaf 1 { ti := some (false, 1), zv := some (.any), zok := some 1, by' := some 8, un := true } .leaf) 2 { ti := some (false, 1), zv := some (.int .i64 0), zok := some 1, by' := some 8, ik := some .i64, un := true } .leaf) 3 { ti := some (false, 1), zv := some (.int .i64 0), zok := some 1, by' := some 8, ik := some .i64, un := true } (.node (.node .leaf 4 { ti := some (false, 1), zv := some (.bool false), zok := some 1, by' := some 1, boo := true, un := true } .leaf) 5 { ti := some (false, 1), zv := some (.int .u8 0), zok := some 1, by' := some 1, ik := some .u8, un := true } .leaf)) 9 { ti := some (false, 1), zv := some (.str []), zok := some 1, by' := some 16, str := true, ni := true, un := true } (.node (.node (.node .leaf 12 { ti := some (false, 1), zv := some (.int .u64 0), zok := some 1, by' := some 8, ik := some .u64, un := true } .leaf) 13 { ti := some (true, 2), fi := [some (0, (false, 1)), some (1, (false, 1))], si := some [(0, 1), (1, 1)], zv := some (.agg [.str [], .int .u64 0]), zok := some 2, by' := some 24, un := true } .leaf) 21 { ti := some (false, 1), zv := some (.int .i32 0), zok := some 1, by' := some 4, ik := some .i32, un := true } (.node (.node .leaf 22 { ti := some (false, 1), ei := some (9, 1), zv := some (.nils), zok := some 1, by' := some 24, sli := true, ni := true, un := true } .leaf) 23 { ti := some (false, 1), ei := some (53, 2), zv := some (.nils), zok := some 1, by' := some 24, sli := true, ni := true, un := true } .leaf))) 24 { ti := some (false, 1), ei := some (51, 4), zv := some (.nils), zok := some 1, by' := some 24, sli := true, ni := true, un := true } (.node (.node (.node (.node .leaf 25 { ti := some (false, 1), zv := some (.int .i64 0), zok := some 1, by' := some 8, ik := some .i64, un := true } .leaf) 27 { ti := some (false, 1), zv := some (.any), zok := some 1, by' := some 8, un := true } .leaf) 28 { ti := some (false, 1), zv := some (.any), zok := some 1, by' := some 8, un := true } (.node (.node .leaf 29 { ti := some (false, 1), zv := some (.any), zok := some 1, by' := some 8, un := true } .leaf) 30 { ti := some (false, 1), ei := some (59, 3), zv := some (.nils), zok := some 1, by' := some 24, sli := true, ni := true, un := true } .leaf)) 32 { ti := some (false, 1), zv := some (.any), zok := some 1, by' := some 8, un := true } (.node (.node (.node .leaf 33 { ti := some (false, 1), zv := some (.any), zok := some 1, by' := some 8, un := true } .leaf) 34 { ti := some (false, 1), zv := some (.any), zok := some 1, by' := some 8, un := true } .leaf) 35 { ti := some (false, 1), ei := some (79, 5), zv := some (.nils), zok := some 1, by' := some 24, sli := true, ni := true, un := true } (.node (.node .leaf 36 { ti := some (false, 1), zv := some (.any), zok := some 1, by' := some 8, un := true } .leaf) 37 { ti := some (false, 1), zv := some (.any), zok := some 1, by' := some 8, un := true } .leaf)))) 38 { ti := some (false, 1), ei := some (106, 1), zv := some (.nils), zok := some 1, by' := some 24, sli := true, ni := true, un := true } (.node (.node (.node (.node (.node .leaf 39 { ti := some (false, 1), ei := some (4, 1), zv := some (.nils), zok := some 1, by' := some 24, sli := true, ni := true, un := true } .leaf) 40 { ti := some (true, 2), fi := [some (0, (false, 1)), some (1, (false, 1))], si := some [(0, 1), (1, 1)], zv := some (.agg [.nils, .nils]), zok := some 2, by' := some 48, un := true } .leaf) 41 { ti := some (true, 2), fi := [some (0, (false, 1)), some (1, (false, 1))], si := some [(0, 1), (1, 1)], zv := some (.agg [.nils, .nils]), zok := some 2, by' := some 48, un := true } (.node (.node .leaf 43 { ti := some (false, 1), zv := some (.any), zok := some 1, by' := some 8, un := true } .leaf) 44 { ti := some (false, 1), zv := some (.any), zok := some 1, by' := some 8, un := true } .leaf)) 46 { ti := some (false, 1), zv := some (.any), zok := some 1, by' := some 8, un := true } (.node (.node (.node .leaf 47 { ti := some (false, 1), zv := some (.any), zok := some 1, by' := some 8, un := true } .leaf) 48 { ti := some (false, 1), zv := some (.any), zok := some 1, by' := some 8, un := true } .leaf) 49 { ti := some (false, 1), ei := some (112, 2), zv := some (.nils), zok := some 1, by' := some 24, sli := true, ni := true, un := true } (.node (.node .leaf 50 { ti := some (true, 4), fi := [some (0, (false, 1)), some (1, (false, 1)), some (2, (false, 1)), some (3, (false, 1))], si := some [(0, 1), (1, 1), (2, 1), (3, 1)], zv := some (.agg [.str [], .nils, .str [], .nils]), zok := some 4, by' := some 80, un := true } .leaf) 51 { ti := some (true, 4), fi := [some (0, (false, 1)), some (1, (false, 1)), some (2, (false, 1)), some (3, (false, 1))], si := some [(0, 1), (1, 1), (2, 1), (3, 1)], zv := some (.agg [.str [], .nils, .str [], .nils]), zok := some 4, by' := some 80, un := true } .leaf))) 52 { ti := some (true, 2), fi := [some (0, (false, 1)), some (1, (false, 1))], si := some [(0, 1), (1, 1)], zv := some (.agg [.str [], .nils]), zok := some 2, by' := some 40, un := true } (.node (.node (.node (.node .leaf 53 { ti := some (true, 2), fi := [some (0, (false, 1)), some (1, (false, 1))], si := some [(0, 1), (1, 1)], zv := some (.agg [.str [], .nils]), zok := some 2, by' := some 40, un := true } .leaf) 54 { ti := some (false, 1), zv := some (.any), zok := some 1, by' := some 8, un := true } .leaf) 55 { ti := some (false, 1), zv := some (.any), zok := some 1, by' := some 8, un := true } (.node (.node .leaf 56 { ti := some (false, 1), zv := some (.any), zok := some 1, by' := some 8, un := true } .leaf) 57 { ti := some (false, 1), zv := some (.any), zok := some 1, by' := some 8, un := true } .leaf)) 58 { ti := some (true, 3), fi := [some (0, (false, 1)), some (1, (false, 1)), some (2, (false, 1))], si := some [(0, 1), (1, 1), (2, 1)], zv := some (.agg [.str [], .str [], .bool false]), zok := some 3, by' := some 40, un := true } (.node (.node (.node .leaf 59 { ti := some (true, 3), fi := [some (0, (false, 1)), some (1, (false, 1)), some (2, (false, 1))], si := some [(0, 1), (1, 1), (2, 1)], zv := some (.agg [.str [], .str [], .bool false]), zok := some 3, by' := some 40, un := true, sq := some [.s, .s, .b] } .leaf) 61 { ti := some (false, 1), zv := some (.any), zok := some 1, by' := some 8, un := true } .leaf) 63 { ti := some (false, 1), zv := some (.any), zok := some 1, by' := some 8, un := true } (.node .leaf 64 { ti := some (false, 1), zv := some (.any), zok := some 1, by' := some 8, un := true } .leaf))))) 65 { ti := some (false, 1), zv := some (.any), zok := some 1, by' := some 8, un := true } (.node (.node (.node (.node (.node (.node .leaf 66 { ti := some (false, 1), zv := some (.nilp), zok := some 1, by' := some 8, ptr := true, un := true } .leaf) 67 { ti := some (true, 3), fi := [some (0, (false, 1)), some (1, (false, 1)), some (2, (false, 1))], si := some [(0, 1), (1, 1), (2, 1)], zv := some (.agg [.str [], .int .i64 0, .bool false]), zok := some 3, by' := some 32, un := true } .leaf) 68 { ti := some (true, 3), fi := [some (0, (false, 1)), some (1, (false, 1)), some (2, (false, 1))], si := some [(0, 1), (1, 1), (2, 1)], zv := some (.agg [.str [], .int .i64 0, .bool false]), zok := some 3, by' := some 32, un := true, sq := some [.s, .i .i64, .b] } (.node (.node .leaf 69 { ti := some (false, 1), zv := some (.any), zok := some 1, by' := some 8, un := true } .leaf) 70 { ti := some (false, 1), zv := some (.nilp), zok := some 1, by' := some 8, ptr := true, un := true } .leaf)) 71 { ti := some (false, 1), zv := some (.nilp), zok := some 1, by' := some 8, ptr := true, un := true } (.node (.node (.node .leaf 72 { ti := some (false, 1), zv := some (.nilp), zok := some 1, by' := some 8, ptr := true, un := true } .leaf) 73 { ti := some (false, 1), ei := some (71, 1), zv := some (.nils), zok := some 1, by' := some 24, sli := true, ni := true, un := true } .leaf) 74 { ti := some (true, 4), fi := [some (0, (false, 1)), some (1, (false, 1)), some (2, (false, 1)), some (3, (false, 1))], si := some [(0, 1), (1, 1), (2, 1), (3, 1)], zv := some (.agg [.nilp, .nils, .str [], .bool false]), zok := some 4, by' := some 56, un := true } (.node (.node .leaf 75 { ti := some (true, 4), fi := [some (0, (false, 1)), some (1, (false, 1)), some (2, (false, 1)), some (3, (false, 1))], si := some [(0, 1), (1, 1), (2, 1), (3, 1)], zv := some (.agg [.nilp, .nils, .str [], .bool false]), zok := some 4, by' := some 56, un := true } .leaf) 76 { ti := some (true, 4), fi := [some (0, (false, 1)), some (1, (false, 1)), some (2, (false, 1)), some (3, (false, 1))], si := some [(0, 1), (1, 1), (2, 1), (3, 1)], zv := some (.agg [.nilp, .nils, .int .i64 0, .str []]), zok := some 4, by' := some 56, un := true } .leaf))) 77 { ti := some (true, 4), fi := [some (0, (false, 1)), some (1, (false, 1)), some (2, (false, 1)), some (3, (false, 1))], si := some [(0, 1), (1, 1), (2, 1), (3, 1)], zv := some (.agg [.nilp, .nils, .int .i64 0, .str []]), zok := some 4, by' := some 56, un := true } (.node (.node (.node (.node .leaf 78 { ti := some (true, 5), fi := [some (0, (false, 1)), some (1, (false, 1)), some (2, (false, 1)), some (3, (false, 1)), some (4, (false, 1))], si := some [(0, 1), (1, 1), (2, 1), (3, 1), (4, 1)], zv := some (.agg [.int .i64 0, .str [], .nils, .bool false, .str []]), zok := some 5, by' := some 72, un := true } .leaf) 79 { ti := some (true, 5), fi := [some (0, (false, 1)), some (1, (false, 1)), some (2, (false, 1)), some (3, (false, 1)), some (4, (false, 1))], si := some [(0, 1), (1, 1), (2, 1), (3, 1), (4, 1)], zv := some (.agg [.int .i64 0, .str [], .nils, .bool false, .str []]), zok := some 5, by' := some 72, un := true } .leaf) 80 { ti := some (false, 1), zv := some (.any), zok := some 1, by' := some 8, un := true } (.node (.node .leaf 81 { ti := some (false, 1), zv := some (.any), zok := some 1, by' := some 8, un := true } .leaf) 82 { ti := some (false, 1), zv := some (.any), zok := some 1, by' := some 8, un := true } .leaf)) 83 { ti := some (false, 1), zv := some (.any), zok := some 1, by' := some 8, un := true } (.node (.node (.node .leaf 84 { ti := some (false, 1), zv := some (.any), zok := some 1, by' := some 8, un := true } .leaf) 85 { ti := some (false, 1), ei := some (87, 7), zv := some (.nils), zok := some 1, by' := some 24, sli := true, ni := true, un := true } .leaf) 86 { ti := some (true, 7), fi := [some (0, (false, 1)), some (1, (true, 4)), some (5, (false, 1)), some (6, (false, 1))], si := some [(0, 1), (1, 4), (5, 1), (6, 1)], zv := some (.agg [.int .i64 0, .str [], .nils, .str [], .nils, .bool false, .bool false]), zok := some 7, by' := some 96, un := true } (.node .leaf 87 { ti := some (true, 7), fi := [some (0, (false, 1)), some (1, (true, 4)), some (5, (false, 1)), some (6, (false, 1))], si := some [(0, 1), (1, 4), (5, 1), (6, 1)], zv := some (.agg [.int .i64 0, .str [], .nils, .str [], .nils, .bool false, .bool false]), zok := some 7, by' := some 96, un := true } .leaf)))) 88 { ti := some (false, 1), zv := some (.any), zok := some 1, by' := some 8, un := true } (.node (.node (.node (.node (.node .leaf 89 { ti := some (false, 1), zv := some (.any), zok := some 1, by' := some 8, un := true } .leaf) 90 { ti := some (false, 1), zv := some (.any), zok := some 1, by' := some 8, un := true } .leaf) 91 { ti := some (false, 1), zv := some (.any), zok := some 1, by' := some 8, un := true } (.node (.node .leaf 92 { ti := some (false, 1), ei := some (99, 2), zv := some (.nils), zok := some 1, by' := some 24, sli := true, ni := true, un := true } .leaf) 93 { ti := some (false, 1), ei := some (134, 8), zv := some (.nils), zok := some 1, by' := some 24, sli := true, ni := true, un := true } .leaf)) 95 { ti := some (false, 1), zv := some (.any), zok := some 1, by' := some 8, un := true } (.node (.node (.node .leaf 96 { ti := some (true, 2), fi := [some (0, (false, 1)), some (1, (false, 1))], si := some [(0, 1), (1, 1)], zv := some (.agg [.nils, .nils]), zok := some 2, by' := some 48, un := true } .leaf) 97 { ti := some (true, 2), fi := [some (0, (false, 1)), some (1, (false, 1))], si := some [(0, 1), (1, 1)], zv := some (.agg [.nils, .nils]), zok := some 2, by' := some 48, un := true } .leaf) 98 { ti := some (true, 2), fi := [some (0, (false, 1)), some (1, (false, 1))], si := some [(0, 1), (1, 1)], zv := some (.agg [.int .i64 0, .int .i64 0]), zok := some 2, by' := some 16, un := true } (.node (.node .leaf 99 { ti := some (true, 2), fi := [some (0, (false, 1)), some (1, (false, 1))], si := some [(0, 1), (1, 1)], zv := some (.agg [.int .i64 0, .int .i64 0]), zok := some 2, by' := some 16, un := true, sq := some [.i .i64, .i .i64] } .leaf) 100 { ti := some (false, 1), zv := some (.any), zok := some 1, by' := some 8, un := true } .leaf))) 101 { ti := some (false, 1), zv := some (.any), zok := some 1, by' := some 8, un := true } (.node (.node (.node (.node .leaf 102 { ti := some (true, 2), fi := [some (0, (false, 1)), some (1, (false, 1))], si := some [(0, 1), (1, 1)], zv := some (.agg [.nils, .nils]), zok := some 2, by' := some 48, un := true } .leaf) 103 { ti := some (true, 2), fi := [some (0, (false, 1)), some (1, (false, 1))], si := some [(0, 1), (1, 1)], zv := some (.agg [.nils, .nils]), zok := some 2, by' := some 48, un := true } .leaf) 104 { ti := some (false, 1), zv := some (.any), zok := some 1, by' := some 8, un := true } (.node (.node .leaf 105 { ti := some (false, 1), zv := some (.any), zok := some 1, by' := some 8, un := true } .leaf) 106 { ti := some (false, 1), ei := some (3, 1), zv := some (.nils), zok := some 1, by' := some 24, sli := true, ni := true, un := true } .leaf)) 107 { ti := some (false, 1), zv := some (.any), zok := some 1, by' := some 8, un := true } (.node (.node (.node .leaf 108 { ti := some (false, 1), zv := some (.any), zok := some 1, by' := some 8, un := true } .leaf) 109 { ti := some (false, 1), zv := some (.any), zok := some 1, by' := some 8, un := true } .leaf) 110 { ti := some (false, 1), zv := some (.any), zok := some 1, by' := some 8, un := true } (.node .leaf 111 { ti := some (true, 2), fi := [some (0, (false, 1)), some (1, (false, 1))], si := some [(0, 1), (1, 1)], zv := some (.agg [.str [], .str []]), zok := some 2, by' := some 32, un := true } .leaf)))))) 112 { ti := some (true, 2), fi := [some (0, (false, 1)), some (1, (false, 1))], si := some [(0, 1), (1, 1)], zv := some (.agg [.str [], .str []]), zok := some 2, by' := some 32, un := true, sq := some [.s, .s] } (.node (.node (.node (.node (.node (.node (.node .leaf 113 { ti := some (false, 1), zv := some (.any), zok := some 1, by' := some 8, un := true } .leaf) 114 { ti := some (false, 1), zv := some (.any), zok := some 1, by' := some 8, un := true } .leaf) 115 { ti := some (false, 1), zv := some (.any), zok := some 1, by' := some 8, un := true } (.node (.node .leaf 116 { ti := some (false, 1), zv := some (.nilp), zok := some 1, by' := some 8, ptr := true, un := true } .leaf) 117 { ti := some (false, 1), ei := some (5, 1), zv := some (.nils), zok := some 1, by' := some 24, sli := true, ni := true, un := true } .leaf)) 118 { ti := some (true, 2), fi := [some (0, (false, 1)), some (1, (false, 1))], si := some [(0, 1), (1, 1)], zv := some (.agg [.nilp, .nils]), zok := some 2, by' := some 32, un := true } (.node (.node (.node .leaf 119 { ti := some (true, 2), fi := [some (0, (false, 1)), some (1, (false, 1))], si := some [(0, 1), (1, 1)], zv := some (.agg [.nilp, .nils]), zok := some 2, by' := some 32, un := true } .leaf) 123 { ti := some (false, 1), zv := some (.any), zok := some 1, by' := some 8, un := true } .leaf) 124 { ti := some (false, 1), zv := some (.any), zok := some 1, by' := some 8, un := true } (.node (.node .leaf 125 { ti := some (true, 9), ai := some (9, (false, 1)), zv := some (.agg [.str [], .str [], .str [], .str [], .str [], .str [], .str [], .str [], .str []]), zok := some 9, by' := some 144, un := true } .leaf) 126 { ti := some (false, 1), zv := some (.any), zok := some 1, by' := some 8, un := true } .leaf))) 127 { ti := some (false, 1), zv := some (.any), zok := some 1, by' := some 8, un := true } (.node (.node (.node (.node .leaf 128 { ti := some (true, 4), ai := some (4, (false, 1)), zv := some (.agg [.str [], .str [], .str [], .str []]), zok := some 4, by' := some 64, un := true } .leaf) 129 { ti := some (false, 1), zv := some (.any), zok := some 1, by' := some 8, un := true } .leaf) 130 { ti := some (false, 1), zv := some (.any), zok := some 1, by' := some 8, un := true } (.node (.node .leaf 131 { ti := some (false, 1), zv := some (.any), zok := some 1, by' := some 8, un := true } .leaf) 132 { ti := some (false, 1), zv := some (.any), zok := some 1, by' := some 8, un := true } .leaf)) 133 { ti := some (false, 1), zv := some (.any), zok := some 1, by' := some 8, un := true } (.node (.node (.node .leaf 134 { ti := some (true, 8), ai := some (8, (false, 1)), zv := some (.agg [.int .i64 0, .int .i64 0, .int .i64 0, .int .i64 0, .int .i64 0, .int .i64 0, .int .i64 0, .int .i64 0]), zok := some 8, by' := some 64, un := true } .leaf) 135 { ti := some (false, 1), zv := some (.any), zok := some 1, by' := some 8, un := true } .leaf) 137 { ti := some (false, 1), zv := some (.any), zok := some 1, by' := some 8, un := true } (.node .leaf 138 { ti := some (false, 1), zv := some (.any), zok := some 1, by' := some 8, un := true } .leaf)))) 139 { ti := some (false, 1), zv := some (.any), zok := some 1, by' := some 8, un := true } (.node (.node (.node (.node (.node .leaf 140 { ti := some (false, 1), zv := some (.any), zok := some 1, by' := some 8, un := true } .leaf) 141 { ti := some (false, 1), ei := some (39, 1), zv := some (.nils), zok := some 1, by' := some 24, sli := true, ni := true, un := true } .leaf) 142 { ti := some (false, 1), zv := some (.any), zok := some 1, by' := some 8, un := true } (.node (.node .leaf 143 { ti := some (false, 1), zv := some (.any), zok := some 1, by' := some 8, un := true } .leaf) 144 { ti := some (false, 1), zv := some (.any), zok := some 1, by' := some 8, un := true } .leaf)) 145 { ti := some (false, 1), zv := some (.any), zok := some 1, by' := some 8, un := true } (.node (.node (.node .leaf 147 { ti := some (false, 1), zv := some (.any), zok := some 1, by' := some 8, un := true } .leaf) 148 { ti := some (false, 1), zv := some (.any), zok := some 1, by' := some 8, un := true } .leaf) 149 { ti := some (false, 1), zv := some (.any), zok := some 1, by' := some 8, un := true } (.node (.node .leaf 150 { ti := some (false, 1), zv := some (.any), zok := some 1, by' := some 8, un := true } .leaf) 151 { ti := some (false, 1), zv := some (.any), zok := some 1, by' := some 8, un := true } .leaf))) 152 { ti := some (false, 1), zv := some (.any), zok := some 1, by' := some 8, un := true } (.node (.node (.node (.node .leaf 153 { ti := some (false, 1), zv := some (.nilp), zok := some 1, by' := some 8, ptr := true, un := true } .leaf) 154 { ti := some (false, 1), zv := some (.any), zok := some 1, by' := some 8, un := true } .leaf) 155 { ti := some (false, 1), zv := some (.any), zok := some 1, by' := some 8, un := true } (.node (.node .leaf 156 { ti := some (false, 1), zv := some (.any), zok := some 1, by' := some 8, un := true } .leaf) 157 { ti := some (false, 1), zv := some (.any), zok := some 1, by' := some 8, un := true } .leaf)) 158 { ti := some (false, 1), zv := some (.any), zok := some 1, by' := some 8, un := true } (.node (.node (.node .leaf 159 { ti := some (false, 1), zv := some (.any), zok := some 1, by' := some 8, un := true } .leaf) 160 { ti := some (false, 1), zv := some (.int .u64 0), zok := some 1, by' := some 8, ik := some .u64, un := true } .leaf) 162 { ti := some (false, 1), zv := some (.any), zok := some 1, by' := some 8, un := true } (.node .leaf 163 { ti := some (false, 1), zv := some (.any), zok := some 1, by' := some 8, un := true } .leaf))))) 164 { ti := some (false, 1), zv := some (.any), zok := some 1, by' := some 8, un := true } (.node (.node (.node (.node (.node (.node .leaf 165 { ti := some (false, 1), zv := some (.any), zok := some 1, by' := some 8, un := true } .leaf) 166 { ti := some (false, 1), zv := some (.any), zok := some 1, by' := some 8, un := true } .leaf) 169 { ti := some (false, 1), zv := some (.any), zok := some 1, by' := some 8, un := true } (.node (.node .leaf 170 { ti := some (false, 1), zv := some (.any), zok := some 1, by' := some 8, un := true } .leaf) 171 { ti := some (false, 1), zv := some (.int .u32 0), zok := some 1, by' := some 4, ik := some .u32, un := true } .leaf)) 173 { ti := some (false, 1), zv := some (.any), zok := some 1, by' := some 8, un := true } (.node (.node (.node .leaf 174 { ti := some (false, 1), zv := some (.int .u64 0), zok := some 1, by' := some 8, ik := some .u64, un := true } .leaf) 176 { ti := some (false, 1), zv := some (.any), zok := some 1, by' := some 8, un := true } .leaf) 177 { ti := some (true, 256), ai := some (256, (false, 1)), zv := some (.agg [.int .u8 0, .int .u8 0, .int .u8 0, .int .u8 0, .int .u8 0, .int .u8 0, .int .u8 0, .int .u8 0, .int .u8 0, .int .u8 0, .int .u8 0, .int .u8 0, .int .u8 0, .int .u8 0, .int .u8 0, .int .u8 0, .int .u8 0, .int .u8 0, .int .u8 0, .int .u8 0, .int .u8 0, .int .u8 0, .int .u8 0, .int .u8 0, .int .u8 0, .int .u8 0, .int .u8 0, .int .u8 0, .int .u8 0, .int .u8 0, .int .u8 0, .int .u8 0, .int .u8 0, .int .u8 0, .int .u8 0, .int .u8 0, .int .u8 0, .int .u8 0, .int .u8 0, .int .u8 0, .int .u8 0, .int .u8 0, .int .u8 0, .int .u8 0, .int .u8 0, .int .u8 0, .int .u8 0, .int .u8 0, .int .u8 0, .int .u8 0, .int .u8 0, .int .u8 0, .int .u8 0, .int .u8 0, .int .u8 0, .int .u8 0, .int .u8 0, .int .u8 0, .int .u8 0, .int .u8 0, .int .u8 0, .int .u8 0, .int .u8 0, .int .u8 0, .int .u8 0, .int .u8 0, .int .u8 0, .int .u8 0, .int .u8 0, .int .u8 0, .int .u8 0, .int .u8 0, .int .u8 0, .int .u8 0, .int .u8 0, .int .u8 0, .int .u8 0, .int .u8 0, .int .u8 0, .int .u8 0, .int .u8 0, .int .u8 0, .int .u8 0, .int .u8 0, .int .u8 0, .int .u8 0, .int .u8 0, .int .u8 0, .int .u8 0, .int .u8 0, .int .u8 0, .int .u8 0, .int .u8 0, .int .u8 0, .int .u8 0, .int .u8 0, .int .u8 0, .int .u8 0, .int .u8 0, .int .u8 0, .int .u8 0, .int .u8 0, .int .u8 0, .int .u8 0, .int .u8 0, .int .u8 0, .int .u8 0, .int .u8 0, .int .u8 0, .int .u8 0, .int .u8 0, .int .u8 0, .int .u8 0, .int .u8 0, .int .u8 0, .int .u8 0, .int .u8 0, .int .u8 0, .int .u8 0, .int .u8 0, .int .u8 0, .int .u8 0, .int .u8 0, .int .u8 0, .int .u8 0, .int .u8 0, .int .u8 0, .int .u8 0, .int .u8 0, .int .u8 0, .int .u8 0, .int .u8 0, .int .u8 0, .int .u8 0, .int .u8 0, .int .u8 0, .int .u8 0, .int .u8 0, .int .u8 0, .int .u8 0, .int .u8 0, .int .u8 0, .int .u8 0, .int .u8 0, .int .u8 0, .int .u8 0, .int .u8 0, .int .u8 0, .int .u8 0, .int .u8 0, .int .u8 0, .int .u8 0, .int .u8 0, .int .u8 0, .int .u8 0, .int .u8 0, .int .u8 0, .int .u8 0, .int .u8 0, .int .u8 0, .int .u8 0, .int .u8 0, .int .u8 0, .int .u8 0, .int .u8 0, .int .u8 0, .int .u8 0, .int .u8 0, .int .u8 0, .int .u8 0, .int .u8 0, .int .u8 0, .int .u8 0, .int .u8 0, .int .u8 0, .int .u8 0, .int .u8 0, .int .u8 0, .int .u8 0, .int .u8 0, .int .u8 0, .int .u8 0, .int .u8 0, .int .u8 0, .int .u8 0, .int .u8 0, .int .u8 0, .int .u8 0, .int .u8 0, .int .u8 0, .int .u8 0, .int .u8 0, .int .u8 0, .int .u8 0, .int .u8 0, .int .u8 0, .int .u8 0, .int .u8 0, .int .u8 0, .int .u8 0, .int .u8 0, .int .u8 0, .int .u8 0, .int .u8 0, .int .u8 0, .int .u8 0, .int .u8 0, .int .u8 0, .int .u8 0, .int .u8 0, .int .u8 0, .int .u8 0, .int .u8 0, .int .u8 0, .int .u8 0, .int .u8 0, .int .u8 0, .int .u8 0, .int .u8 0, .int .u8 0, .int .u8 0, .int .u8 0, .int .u8 0, .int .u8 0, .int .u8 0, .int .u8 0, .int .u8 0, .int .u8 0, .int .u8 0, .int .u8 0, .int .u8 0, .int .u8 0, .int .u8 0, .int .u8 0, .int .u8 0, .int .u8 0, .int .u8 0, .int .u8 0, .int .u8 0, .int .u8 0, .int .u8 0, .int .u8 0, .int .u8 0, .int .u8 0, .int .u8 0, .int .u8 0, .int .u8 0, .int .u8 0, .int .u8 0, .int .u8 0, .int .u8 0, .int .u8 0, .int .u8 0, .int .u8 0, .int .u8 0, .int .u8 0]), zok := some 256, by' := some 256, un := true } (.node (.node .leaf 178 { ti := some (false, 1), zv := some (.any), zok := some 1, by' := some 8, un := true } .leaf) 179 { ti := some (true, 2), fi := [some (0, (false, 1)), some (1, (false, 1))], si := some [(0, 1), (1, 1)], zv := some (.agg [.int .u8 0, .int .u8 0]), zok := some 2, by' := some 2, un := true } .leaf))) 180 { ti := some (true, 2), fi := [some (0, (false, 1)), some (1, (false, 1))], si := some [(0, 1), (1, 1)], zv := some (.agg [.int .u8 0, .int .u8 0]), zok := some 2, by' := some 2, un := true } (.node (.node (.node (.node .leaf 181 { ti := some (true, 32), ai := some (16, (true, 2)), zv := some (.agg [.int .u8 0, .int .u8 0, .int .u8 0, .int .u8 0, .int .u8 0, .int .u8 0, .int .u8 0, .int .u8 0, .int .u8 0, .int .u8 0, .int .u8 0, .int .u8 0, .int .u8 0, .int .u8 0, .int .u8 0, .int .u8 0, .int .u8 0, .int .u8 0, .int .u8 0, .int .u8 0, .int .u8 0, .int .u8 0, .int .u8 0, .int .u8 0, .int .u8 0, .int .u8 0, .int .u8 0, .int .u8 0, .int .u8 0, .int .u8 0, .int .u8 0, .int .u8 0]), zok := some 32, by' := some 32, un := true } .leaf) 182 { ti := some (false, 1), zv := some (.any), zok := some 1, by' := some 8, un := true } .leaf) 183 { ti := some (false, 1), zv := some (.any), zok := some 1, by' := some 8, un := true } (.node (.node .leaf 184 { ti := some (false, 1), ei := some (186, 2), zv := some (.nils), zok := some 1, by' := some 24, sli := true, ni := true, un := true } .leaf) 185 { ti := some (true, 2), fi := [some (0, (false, 1)), some (1, (false, 1))], si := some [(0, 1), (1, 1)], zv := some (.agg [.int .i64 0, .int .i64 0]), zok := some 2, by' := some 16, un := true } .leaf)) 186 { ti := some (true, 2), fi := [some (0, (false, 1)), some (1, (false, 1))], si := some [(0, 1), (1, 1)], zv := some (.agg [.int .i64 0, .int .i64 0]), zok := some 2, by' := some 16, un := true } (.node (.node (.node .leaf 187 { ti := some (false, 1), zv := some (.any), zok := some 1, by' := some 8, un := true } .leaf) 188 { ti := some (false, 1), zv := some (.nilp), zok := some 1, by' := some 8, ptr := true, un := true } .leaf) 189 { ti := some (false, 1), zv := some (.any), zok := some 1, by' := some 8, un := true } (.node .leaf 190 { ti := some (false, 1), ei := some (196, 3), zv := some (.nils), zok := some 1, by' := some 24, sli := true, ni := true, un := true } .leaf)))) 191 { ti := some (false, 1), ei := some (199, 3), zv := some (.nils), zok := some 1, by' := some 24, sli := true, ni := true, un := true } (.node (.node (.node (.node (.node .leaf 192 { ti := some (true, 3), fi := [some (0, (false, 1)), some (1, (false, 1)), some (2, (false, 1))], si := some [(0, 1), (1, 1), (2, 1)], zv := some (.agg [.nils, .nils, .int .i64 0]), zok := some 3, by' := some 56, un := true } .leaf) 193 { ti := some (true, 3), fi := [some (0, (false, 1)), some (1, (false, 1)), some (2, (false, 1))], si := some [(0, 1), (1, 1), (2, 1)], zv := some (.agg [.nils, .nils, .int .i64 0]), zok := some 3, by' := some 56, un := true } .leaf) 194 { ti := some (false, 1), zv := some (.int .u16 0), zok := some 1, by' := some 2, ik := some .u16, un := true } (.node (.node .leaf 195 { ti := some (true, 3), fi := [some (0, (false, 1)), some (1, (false, 1)), some (2, (false, 1))], si := some [(0, 1), (1, 1), (2, 1)], zv := some (.agg [.int .u16 0, .int .u16 0, .int .u16 0]), zok := some 3, by' := some 6, un := true } .leaf) 196 { ti := some (true, 3), fi := [some (0, (false, 1)), some (1, (false, 1)), some (2, (false, 1))], si := some [(0, 1), (1, 1), (2, 1)], zv := some (.agg [.int .u16 0, .int .u16 0, .int .u16 0]), zok := some 3, by' := some 6, un := true } .leaf)) 197 { ti := some (false, 1), zv := some (.any), zok := some 1, by' := some 8, un := true } (.node (.node (.node .leaf 198 { ti := some (true, 3), fi := [some (0, (false, 1)), some (1, (false, 1)), some (2, (false, 1))], si := some [(0, 1), (1, 1), (2, 1)], zv := some (.agg [.int .u32 0, .int .u32 0, .int .u32 0]), zok := some 3, by' := some 12, un := true } .leaf) 199 { ti := some (true, 3), fi := [some (0, (false, 1)), some (1, (false, 1)), some (2, (false, 1))], si := some [(0, 1), (1, 1), (2, 1)], zv := some (.agg [.int .u32 0, .int .u32 0, .int .u32 0]), zok := some 3, by' := some 12, un := true } .leaf) 200 { ti := some (false, 1), zv := some (.any), zok := some 1, by' := some 8, un := true } (.node (.node .leaf 201 { ti := some (true, 24), ai := some (24, (false, 1)), zv := some (.agg [.int .u8 0, .int .u8 0, .int .u8 0, .int .u8 0, .int .u8 0, .int .u8 0, .int .u8 0, .int .u8 0, .int .u8 0, .int .u8 0, .int .u8 0, .int .u8 0, .int .u8 0, .int .u8 0, .int .u8 0, .int .u8 0, .int .u8 0, .int .u8 0, .int .u8 0, .int .u8 0, .int .u8 0, .int .u8 0, .int .u8 0, .int .u8 0]), zok := some 24, by' := some 24, un := true } .leaf) 202 { ti := some (false, 1), zv := some (.any), zok := some 1, by' := some 8, un := true } .leaf))) 203 { ti := some (false, 1), zv := some (.any), zok := some 1, by' := some 8, un := true } (.node (.node (.node (.node .leaf 205 { ti := some (false, 1), zv := some (.any), zok := some 1, by' := some 8, un := true } .leaf) 206 { ti := some (false, 1), zv := some (.nilp), zok := some 1, by' := some 8, ptr := true, un := true } .leaf) 207 { ti := some (false, 1), zv := some (.nilp), zok := some 1, by' := some 8, ptr := true, un := true } (.node (.node .leaf 208 { ti := some (false, 1), zv := some (.any), zok := some 1, by' := some 8, un := true } .leaf) 209 { ti := some (true, 20), ai := some (20, (false, 1)), zv := some (.agg [.int .u64 0, .int .u64 0, .int .u64 0, .int .u64 0, .int .u64 0, .int .u64 0, .int .u64 0, .int .u64 0, .int .u64 0, .int .u64 0, .int .u64 0, .int .u64 0, .int .u64 0, .int .u64 0, .int .u64 0, .int .u64 0, .int .u64 0, .int .u64 0, .int .u64 0, .int .u64 0]), zok := some 20, by' := some 160, un := true } .leaf)) 210 { ti := some (true, 65), ai := some (65, (false, 1)), zv := some (.agg [.int .u8 0, .int .u8 0, .int .u8 0, .int .u8 0, .int .u8 0, .int .u8 0, .int .u8 0, .int .u8 0, .int .u8 0, .int .u8 0, .int .u8 0, .int .u8 0, .int .u8 0, .int .u8 0, .int .u8 0, .int .u8 0, .int .u8 0, .int .u8 0, .int .u8 0, .int .u8 0, .int .u8 0, .int .u8 0, .int .u8 0, .int .u8 0, .int .u8 0, .int .u8 0, .int .u8 0, .int .u8 0, .int .u8 0, .int .u8 0, .int .u8 0, .int .u8 0, .int .u8 0, .int .u8 0, .int .u8 0, .int .u8 0, .int .u8 0, .int .u8 0, .int .u8 0, .int .u8 0, .int .u8 0, .int .u8 0, .int .u8 0, .int .u8 0, .int .u8 0, .int .u8 0, .int .u8 0, .int .u8 0, .int .u8 0, .int .u8 0, .int .u8 0, .int .u8 0, .int .u8 0, .int .u8 0, .int .u8 0, .int .u8 0, .int .u8 0, .int .u8 0, .int .u8 0, .int .u8 0, .int .u8 0, .int .u8 0, .int .u8 0, .int .u8 0, .int .u8 0]), zok := some 65, by' := some 65, un := true } (.node (.node (.node .leaf 211 { ti := some (false, 1), zv := some (.any), zok := some 1, by' := some 8, un := true } .leaf) 212 { ti := some (false, 1), zv := some (.any), zok := some 1, by' := some 8, un := true } .leaf) 213 { ti := some (true, 32), ai := some (32, (false, 1)), zv := some (.agg [.int .u8 0, .int .u8 0, .int .u8 0, .int .u8 0, .int .u8 0, .int .u8 0, .int .u8 0, .int .u8 0, .int .u8 0, .int .u8 0, .int .u8 0, .int .u8 0, .int .u8 0, .int .u8 0, .int .u8 0, .int .u8 0, .int .u8 0, .int .u8 0, .int .u8 0, .int .u8 0, .int .u8 0, .int .u8 0, .int .u8 0, .int .u8 0, .int .u8 0, .int .u8 0, .int .u8 0, .int .u8 0, .int .u8 0, .int .u8 0, .int .u8 0, .int .u8 0]), zok := some 32, by' := some 32, un := true } (.node .leaf 214 { ti := some (true, 64), ai := some (64, (false, 1)), zv := some (.agg [.int .u8 0, .int .u8 0, .int .u8 0, .int .u8 0, .int .u8 0, .int .u8 0, .int .u8 0, .int .u8 0, .int .u8 0, .int .u8 0, .int .u8 0, .int .u8 0, .int .u8 0, .int .u8 0, .int .u8 0, .int .u8 0, .int .u8 0, .int .u8 0, .int .u8 0, .int .u8 0, .int .u8 0, .int .u8 0, .int .u8 0, .int .u8 0, .int .u8 0, .int .u8 0, .int .u8 0, .int .u8 0, .int .u8 0, .int .u8 0, .int .u8 0, .int .u8 0, .int .u8 0, .int .u8 0, .int .u8 0, .int .u8 0, .int .u8 0, .int .u8 0, .int .u8 0, .int .u8 0, .int .u8 0, .int .u8 0, .int .u8 0, .int .u8 0, .int .u8 0, .int .u8 0, .int .u8 0, .int .u8 0, .int .u8 0, .int .u8 0, .int .u8 0, .int .u8 0, .int .u8 0, .int .u8 0, .int .u8 0, .int .u8 0, .int .u8 0, .int .u8 0, .int .u8 0, .int .u8 0, .int .u8 0, .int .u8 0, .int .u8 0, .int .u8 0]), zok := some 64, by' := some 64, un := true } .leaf)))))))
theorem tt_all : TT.All Tryd.prog Tryd.tt := ⟨⟨⟨⟨⟨⟨⟨⟨trivial, tok_1, trivial⟩, tok_2, trivial⟩, tok_3, ⟨⟨trivial, tok_4, trivial⟩, tok_5, trivial⟩⟩, tok_9, ⟨⟨⟨trivial, tok_12, trivial⟩, tok_13, trivial⟩, tok_21, ⟨⟨trivial, tok_22, trivial⟩, tok_23, trivial⟩⟩⟩, tok_24, ⟨⟨⟨⟨trivial, tok_25, trivial⟩, tok_27, trivial⟩, tok_28, ⟨⟨trivial, tok_29, trivial⟩, tok_30, trivial⟩⟩, tok_32, ⟨⟨⟨trivial, tok_33, trivial⟩, tok_34, trivial⟩, tok_35, ⟨⟨trivial, tok_36, trivial⟩, tok_37, trivial⟩⟩⟩⟩, tok_38, ⟨⟨⟨⟨⟨trivial, tok_39, trivial⟩, tok_40, trivial⟩, tok_41, ⟨⟨trivial, tok_43, trivial⟩, tok_44, trivial⟩⟩, tok_46, ⟨⟨⟨trivial, tok_47, trivial⟩, tok_48, trivial⟩, tok_49, ⟨⟨trivial, tok_50, trivial⟩, tok_51, trivial⟩⟩⟩, tok_52, ⟨⟨⟨⟨trivial, tok_53, trivial⟩, tok_54, trivial⟩, tok_55, ⟨⟨trivial, tok_56, trivial⟩, tok_57, trivial⟩⟩, tok_58, ⟨⟨⟨trivial, tok_59, trivial⟩, tok_61, trivial⟩, tok_63, ⟨trivial, tok_64, trivial⟩⟩⟩⟩⟩, tok_65, ⟨⟨⟨⟨⟨⟨trivial, tok_66, trivial⟩, tok_67, trivial⟩, tok_68, ⟨⟨trivial, tok_69, trivial⟩, tok_70, trivial⟩⟩, tok_71, ⟨⟨⟨trivial, tok_72, trivial⟩, tok_73, trivial⟩, tok_74, ⟨⟨trivial, tok_75, trivial⟩, tok_76, trivial⟩⟩⟩, tok_77, ⟨⟨⟨⟨trivial, tok_78, trivial⟩, tok_79, trivial⟩, tok_80, ⟨⟨trivial, tok_81, trivial⟩, tok_82, trivial⟩⟩, tok_83, ⟨⟨⟨trivial, tok_84, trivial⟩, tok_85, trivial⟩, tok_86, ⟨trivial, tok_87, trivial⟩⟩⟩⟩, tok_88, ⟨⟨⟨⟨⟨trivial, tok_89, trivial⟩, tok_90, trivial⟩, tok_91, ⟨⟨trivial, tok_92, trivial⟩, tok_93, trivial⟩⟩, tok_95, ⟨⟨⟨trivial, tok_96, trivial⟩, tok_97, trivial⟩, tok_98, ⟨⟨trivial, tok_99, trivial⟩, tok_100, trivial⟩⟩⟩, tok_101, ⟨⟨⟨⟨trivial, tok_102, trivial⟩, tok_103, trivial⟩, tok_104, ⟨⟨trivial, tok_105, trivial⟩, tok_106, trivial⟩⟩, tok_107, ⟨⟨⟨trivial, tok_108, trivial⟩, tok_109, trivial⟩, tok_110, ⟨trivial, tok_111, trivial⟩⟩⟩⟩⟩⟩, tok_112, ⟨⟨⟨⟨⟨⟨⟨trivial, tok_113, trivial⟩, tok_114, trivial⟩, tok_115, ⟨⟨trivial, tok_116, trivial⟩, tok_117, trivial⟩⟩, tok_118, ⟨⟨⟨trivial, tok_119, trivial⟩, tok_123, trivial⟩, tok_124, ⟨⟨trivial, tok_125, trivial⟩, tok_126, trivial⟩⟩⟩, tok_127, ⟨⟨⟨⟨trivial, tok_128, trivial⟩, tok_129, trivial⟩, tok_130, ⟨⟨trivial, tok_131, trivial⟩, tok_132, trivial⟩⟩, tok_133, ⟨⟨⟨trivial, tok_134, trivial⟩, tok_135, trivial⟩, tok_137, ⟨trivial, tok_138, trivial⟩⟩⟩⟩, tok_139, ⟨⟨⟨⟨⟨trivial, tok_140, trivial⟩, tok_141, trivial⟩, tok_142, ⟨⟨trivial, tok_143, trivial⟩, tok_144, trivial⟩⟩, tok_145, ⟨⟨⟨trivial, tok_147, trivial⟩, tok_148, trivial⟩, tok_149, ⟨⟨trivial, tok_150, trivial⟩, tok_151, trivial⟩⟩⟩, tok_152, ⟨⟨⟨⟨trivial, tok_153, trivial⟩, tok_154, trivial⟩, tok_155, ⟨⟨trivial, tok_156, trivial⟩, tok_157, trivial⟩⟩, tok_158, ⟨⟨⟨trivial, tok_159, trivial⟩, tok_160, trivial⟩, tok_162, ⟨trivial, tok_163, trivial⟩⟩⟩⟩⟩, tok_164, ⟨⟨⟨⟨⟨⟨trivial, tok_165, trivial⟩, tok_166, trivial⟩, tok_169, ⟨⟨trivial, tok_170, trivial⟩, tok_171, trivial⟩⟩, tok_173, ⟨⟨⟨trivial, tok_174, trivial⟩, tok_176, trivial⟩, tok_177, ⟨⟨trivial, tok_178, trivial⟩, tok_179, trivial⟩⟩⟩, tok_180, ⟨⟨⟨⟨trivial, tok_181, trivial⟩, tok_182, trivial⟩, tok_183, ⟨⟨trivial, tok_184, trivial⟩, tok_185, trivial⟩⟩, tok_186, ⟨⟨⟨trivial, tok_187, trivial⟩, tok_188, trivial⟩, tok_189, ⟨trivial, tok_190, trivial⟩⟩⟩⟩, tok_191, ⟨⟨⟨⟨⟨trivial, tok_192, trivial⟩, tok_193, trivial⟩, tok_194, ⟨⟨trivial, tok_195, trivial⟩, tok_196, trivial⟩⟩, tok_197, ⟨⟨⟨trivial, tok_198, trivial⟩, tok_199, trivial⟩, tok_200, ⟨⟨trivial, tok_201, trivial⟩, tok_202, trivial⟩⟩⟩, tok_203, ⟨⟨⟨⟨trivial, tok_205, trivial⟩, tok_206, trivial⟩, tok_207, ⟨⟨trivial, tok_208, trivial⟩, tok_209, trivial⟩⟩, tok_210, ⟨⟨⟨trivial, tok_211, trivial⟩, tok_212, trivial⟩, tok_213, ⟨trivial, tok_214, trivial⟩⟩⟩⟩⟩⟩⟩
theorem hasBody_3 : hasBody Tryd.prog 3 = true := by kernel_rfl
theorem hasBody_4 : hasBody Tryd.prog 4 = true := by kernel_rfl
theorem hasBody_5 : hasBody Tryd.prog 5 = true := by kernel_rfl
theorem hasBody_6 : hasBody Tryd.prog 6 = true := by kernel_rfl
theorem hasBody_7 : hasBody Tryd.prog 7 = true := by kernel_rfl
theorem hasBody_8 : hasBody Tryd.prog 8 = true := by kernel_rfl
theorem hasBody_9 : hasBody Tryd.prog 9 = true := by kernel_rfl
theorem hasBody_10 : hasBody Tryd.prog 10 = true := by kernel_rfl
theorem hasBody_11 : hasBody Tryd.prog 11 = true := by kernel_rfl
theorem hasBody_12 : hasBody Tryd.prog 12 = true := by kernel_rfl
theorem hasBody_13 : hasBody Tryd.prog 13 = true := by kernel_rfl
theorem hasBody_14 : hasBody Tryd.prog 14 = true := by kernel_rfl
theorem hasBody_15 : hasBody Tryd.prog 15 = true := by kernel_rfl
theorem hasBody_16 : hasBody Tryd.prog 16 = true := by kernel_rfl
theorem hasBody_17 : hasBody Tryd.prog 17 = true := by kernel_rfl
theorem hasBody_18 : hasBody Tryd.prog 18 = true := by kernel_rfl
theorem hasBody_19 : hasBody Tryd.prog 19 = true := by kernel_rfl
theorem hasBody_20 : hasBody Tryd.prog 20 = true := by kernel_rfl
theorem hasBody_21 : hasBody Tryd.prog 21 = true := by kernel_rfl
theorem hasBody_22 : hasBody Tryd.prog 22 = true := by kernel_rfl
theorem hasBody_23 : hasBody Tryd.prog 23 = true := by kernel_rfl
theorem hasBody_24 : hasBody Tryd.prog 24 = true := by kernel_rfl
theorem hasBody_25 : hasBody Tryd.prog 25 = true := by kernel_rfl
theorem hasBody_26 : hasBody Tryd.prog 26 = true := by kernel_rfl
theorem hasBody_27 : hasBody Tryd.prog 27 = true := by kernel_rfl
theorem hasBody_28 : hasBody Tryd.prog 28 = true := by kernel_rfl
theorem hasBody_29 : hasBody Tryd.prog 29 = true := by kernel_rfl
theorem hasBody_30 : hasBody Tryd.prog 30 = true := by kernel_rfl
theorem hasBody_31 : hasBody Tryd.prog 31 = true := by kernel_rfl
theorem hasBody_32 : hasBody Tryd.prog 32 = true := by kernel_rfl
theorem hasBody_33 : hasBody Tryd.prog 33 = true := by kernel_rfl
theorem hasBody_34 : hasBody Tryd.prog 34 = true := by kernel_rfl
theorem hasBody_35 : hasBody Tryd.prog 35 = true := by kernel_rfl
theorem hasBody_36 : hasBody Tryd.prog 36 = true := by kernel_rfl
theorem hasBody_37 : hasBody Tryd.prog 37 = true := by kernel_rfl
theorem hasBody_38 : hasBody Tryd.prog 38 = true := by kernel_rfl
theorem hasBody_39 : hasBody Tryd.prog 39 = true := by kernel_rfl
theorem hasBody_40 : hasBody Tryd.prog 40 = true := by kernel_rfl
theorem hasBody_41 : hasBody Tryd.prog 41 = true := by kernel_rfl
theorem hasBody_42 : hasBody Tryd.prog 42 = true := by kernel_rfl
theorem hasBody_43 : hasBody Tryd.prog 43 = true := by kernel_rfl
theorem hasBody_44 : hasBody Tryd.prog 44 = true := by kernel_rfl
theorem hasBody_45 : hasBody Tryd.prog 45 = true := by kernel_rfl
theorem hasBody_46 : hasBody Tryd.prog 46 = true := by kernel_rfl
theorem hasBody_47 : hasBody Tryd.prog 47 = true := by kernel_rfl
theorem hasBody_48 : hasBody Tryd.prog 48 = true := by kernel_rfl
theorem hasBody_49 : hasBody Tryd.prog 49 = true := by kernel_rfl
theorem hasBody_50 : hasBody Tryd.prog 50 = true := by kernel_rfl
theorem hasBody_51 : hasBody Tryd.prog 51 = true := by kernel_rfl
theorem hasBody_52 : hasBody Tryd.prog 52 = true := by kernel_rfl
theorem hasBody_53 : hasBody Tryd.prog 53 = true := by kernel_rfl
theorem hasBody_54 : hasBody Tryd.prog 54 = true := by kernel_rfl
theorem hasBody_55 : hasBody Tryd.prog 55 = true := by kernel_rfl
theorem hasBody_58 : hasBody Tryd.prog 58 = true := by kernel_rfl
theorem hasBody_59 : hasBody Tryd.prog 59 = true := by kernel_rfl
theorem hasBody_60 : hasBody Tryd.prog 60 = true := by kernel_rfl
theorem hasBody_61 : hasBody Tryd.prog 61 = true := by kernel_rfl
theorem hasBody_62 : hasBody Tryd.prog 62 = true := by kernel_rfl
theorem hasBody_63 : hasBody Tryd.prog 63 = true := by kernel_rfl
theorem hasBody_64 : hasBody Tryd.prog 64 = true := by kernel_rfl
theorem hasBody_65 : hasBody Tryd.prog 65 = true := by kernel_rfl
theorem hasBody_66 : hasBody Tryd.prog 66 = true := by kernel_rfl
theorem hasBody_67 : hasBody Tryd.prog 67 = true := by kernel_rfl
theorem hasBody_68 : hasBody Tryd.prog 68 = true := by kernel_rfl
theorem hasBody_69 : hasBody Tryd.prog 69 = true := by kernel_rfl
theorem hasBody_70 : hasBody Tryd.prog 70 = true := by kernel_rfl
theorem hasBody_71 : hasBody Tryd.prog 71 = true := by kernel_rfl
theorem hasBody_72 : hasBody Tryd.prog 72 = true := by kernel_rfl
theorem hasBody_73 : hasBody Tryd.prog 73 = true := by kernel_rfl
theorem hasBody_74 : hasBody Tryd.prog 74 = true := by kernel_rfl
theorem hasBody_75 : hasBody Tryd.prog 75 = true := by kernel_rfl
theorem hasBody_76 : hasBody Tryd.prog 76 = true := by kernel_rfl
theorem hasBody_77 : hasBody Tryd.prog 77 = true := by kernel_rfl
theorem hasBody_78 : hasBody Tryd.prog 78 = true := by kernel_rfl
theorem hasBody_79 : hasBody Tryd.prog 79 = true := by kernel_rfl
theorem hasBody_80 : hasBody Tryd.prog 80 = true := by kernel_rfl
theorem hasBody_81 : hasBody Tryd.prog 81 = true := by kernel_rfl
theorem hasBody_82 : hasBody Tryd.prog 82 = true := by kernel_rfl
theorem hasBody_83 : hasBody Tryd.prog 83 = true := by kernel_rfl
theorem hasBody_84 : hasBody Tryd.prog 84 = true := by kernel_rfl
theorem hasBody_87 : hasBody Tryd.prog 87 = true := by kernel_rfl
theorem hasBody_88 : hasBody Tryd.prog 88 = true := by kernel_rfl
theorem hasBody_89 : hasBody Tryd.prog 89 = true := by kernel_rfl
theorem hasBody_90 : hasBody Tryd.prog 90 = true := by kernel_rfl
theorem hasBody_91 : hasBody Tryd.prog 91 = true := by kernel_rfl
theorem hasBody_92 : hasBody Tryd.prog 92 = true := by kernel_rfl
theorem hasBody_93 : hasBody Tryd.prog 93 = true := by kernel_rfl
theorem hasBody_94 : hasBody Tryd.prog 94 = true := by kernel_rfl
theorem hasBody_95 : hasBody Tryd.prog 95 = true := by kernel_rfl
theorem hasBody_96 : hasBody Tryd.prog 96 = true := by kernel_rfl
theorem hasBody_97 : hasBody Tryd.prog 97 = true := by kernel_rfl
theorem hasBody_98 : hasBody Tryd.prog 98 = true := by kernel_rfl
theorem hasBody_99 : hasBody Tryd.prog 99 = true := by kernel_rfl
theorem hasBody_100 : hasBody Tryd.prog 100 = true := by kernel_rfl
theorem hasBody_105 : hasBody Tryd.prog 105 = true := by kernel_rfl
theorem hasBody_107 : hasBody Tryd.prog 107 = true := by kernel_rfl
theorem hasBody_108 : hasBody Tryd.prog 108 = true := by kernel_rfl
theorem hasBody_109 : hasBody Tryd.prog 109 = true := by kernel_rfl
theorem hasBody_110 : hasBody Tryd.prog 110 = true := by kernel_rfl
theorem hasBody_111 : hasBody Tryd.prog 111 = true := by kernel_rfl
theorem hasBody_112 : hasBody Tryd.prog 112 = true := by kernel_rfl
theorem hasBody_115 : hasBody Tryd.prog 115 = true := by kernel_rfl
theorem hasBody_117 : hasBody Tryd.prog 117 = true := by kernel_rfl
theorem hasBody_119 : hasBody Tryd.prog 119 = true := by kernel_rfl
theorem hasBody_120 : hasBody Tryd.prog 120 = true := by kernel_rfl
theorem hasBody_126 : hasBody Tryd.prog 126 = true := by kernel_rfl
theorem hasBody_129 : hasBody Tryd.prog 129 = true := by kernel_rfl
theorem hasBody_130 : hasBody Tryd.prog 130 = true := by kernel_rfl
theorem hasBody_131 : hasBody Tryd.prog 131 = true := by kernel_rfl
theorem follows_all : Tryd.prog.follows .mixedOrders = true := by kernel_rfl
end Go.Proofs.YtkkcmobnhiiacaaDoor
