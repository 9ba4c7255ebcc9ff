/- Facts of this seat's types and functions, each by the kernel's reckoning; written by program. No conditions. -/
import Derived.Test.YtaeeceabnkgnnaaDoorAwx
import Derived.Test.YtaeeceabnkgnnaaDoorRows
set_option linter.unusedSimpArgs false
set_option linter.unusedVariables false
namespace Go.Proofs.YtaeeceabnkgnnaaDoor

theorem cells_1 : Tryd.prog.cellsOf 1 = 1 := by kernel_rfl
theorem ti_1 : TI Tryd.prog 1 = some (false, 1) := by kernel_rfl
theorem zv_1 : ZV Tryd.prog 1 = some (.any) := by kernel_rfl
theorem zok_1 : ZOk Tryd.prog 1 1 = true := by kernel_rfl
theorem by_1 : byOf Tryd.prog 1 = 8 := by kernel_rfl
theorem cells_2 : Tryd.prog.cellsOf 2 = 1 := by kernel_rfl
theorem ti_2 : TI Tryd.prog 2 = some (false, 1) := by kernel_rfl
theorem intK_2 : intK Tryd.prog 2 = some .i64 := by kernel_rfl
theorem un_2 : Tryd.prog.underlying 2 = some (.int .i64) := by kernel_rfl
theorem zv_2 : ZV Tryd.prog 2 = some (.int .i64 0) := by kernel_rfl
theorem zok_2 : ZOk Tryd.prog 2 1 = true := by kernel_rfl
theorem by_2 : byOf Tryd.prog 2 = 8 := by kernel_rfl
theorem cells_3 : Tryd.prog.cellsOf 3 = 1 := by kernel_rfl
theorem ti_3 : TI Tryd.prog 3 = some (false, 1) := by kernel_rfl
theorem intK_3 : intK Tryd.prog 3 = some .i64 := by kernel_rfl
theorem un_3 : Tryd.prog.underlying 3 = some (.int .i64) := by kernel_rfl
theorem zv_3 : ZV Tryd.prog 3 = some (.int .i64 0) := by kernel_rfl
theorem zok_3 : ZOk Tryd.prog 3 1 = true := by kernel_rfl
theorem by_3 : byOf Tryd.prog 3 = 8 := by kernel_rfl
theorem cells_4 : Tryd.prog.cellsOf 4 = 1 := by kernel_rfl
theorem ti_4 : TI Tryd.prog 4 = some (false, 1) := by kernel_rfl
theorem isBoo_4 : isBoo Tryd.prog 4 = true := by kernel_rfl
theorem zv_4 : ZV Tryd.prog 4 = some (.bool false) := by kernel_rfl
theorem zok_4 : ZOk Tryd.prog 4 1 = true := by kernel_rfl
theorem by_4 : byOf Tryd.prog 4 = 1 := by kernel_rfl
theorem cells_5 : Tryd.prog.cellsOf 5 = 1 := by kernel_rfl
theorem ti_5 : TI Tryd.prog 5 = some (false, 1) := by kernel_rfl
theorem intK_5 : intK Tryd.prog 5 = some .u8 := by kernel_rfl
theorem un_5 : Tryd.prog.underlying 5 = some (.int .u8) := by kernel_rfl
theorem zv_5 : ZV Tryd.prog 5 = some (.int .u8 0) := by kernel_rfl
theorem zok_5 : ZOk Tryd.prog 5 1 = true := by kernel_rfl
theorem by_5 : byOf Tryd.prog 5 = 1 := by kernel_rfl
theorem cells_9 : Tryd.prog.cellsOf 9 = 1 := by kernel_rfl
theorem ti_9 : TI Tryd.prog 9 = some (false, 1) := by kernel_rfl
theorem isStr_9 : isStr Tryd.prog 9 = true := by kernel_rfl
theorem notInt_9 : notInt Tryd.prog 9 = true := by kernel_rfl
theorem zv_9 : ZV Tryd.prog 9 = some (.str []) := by kernel_rfl
theorem zok_9 : ZOk Tryd.prog 9 1 = true := by kernel_rfl
theorem by_9 : byOf Tryd.prog 9 = 16 := by kernel_rfl
theorem cells_12 : Tryd.prog.cellsOf 12 = 1 := by kernel_rfl
theorem ti_12 : TI Tryd.prog 12 = some (false, 1) := by kernel_rfl
theorem intK_12 : intK Tryd.prog 12 = some .u64 := by kernel_rfl
theorem un_12 : Tryd.prog.underlying 12 = some (.int .u64) := by kernel_rfl
theorem zv_12 : ZV Tryd.prog 12 = some (.int .u64 0) := by kernel_rfl
theorem zok_12 : ZOk Tryd.prog 12 1 = true := by kernel_rfl
theorem by_12 : byOf Tryd.prog 12 = 8 := by kernel_rfl
theorem cells_13 : Tryd.prog.cellsOf 13 = 2 := by kernel_rfl
theorem ti_13 : TI Tryd.prog 13 = some (true, 2) := by kernel_rfl
theorem fi_13_0 : FI Tryd.prog 13 0 = some (0, (false, 1)) := by kernel_rfl
theorem fi_13_1 : FI Tryd.prog 13 1 = some (1, (false, 1)) := by kernel_rfl
theorem si_13 : SI Tryd.prog 13 = some [(0, 1), (1, 1)] := by kernel_rfl
theorem zv_13 : ZV Tryd.prog 13 = some (.agg [.str [], .int .u64 0]) := by kernel_rfl
theorem zok_13 : ZOk Tryd.prog 13 2 = true := by kernel_rfl
theorem by_13 : byOf Tryd.prog 13 = 24 := by kernel_rfl
theorem cells_21 : Tryd.prog.cellsOf 21 = 1 := by kernel_rfl
theorem ti_21 : TI Tryd.prog 21 = some (false, 1) := by kernel_rfl
theorem intK_21 : intK Tryd.prog 21 = some .i32 := by kernel_rfl
theorem un_21 : Tryd.prog.underlying 21 = some (.int .i32) := by kernel_rfl
theorem zv_21 : ZV Tryd.prog 21 = some (.int .i32 0) := by kernel_rfl
theorem zok_21 : ZOk Tryd.prog 21 1 = true := by kernel_rfl
theorem by_21 : byOf Tryd.prog 21 = 4 := by kernel_rfl
theorem cells_22 : Tryd.prog.cellsOf 22 = 1 := by kernel_rfl
theorem ti_22 : TI Tryd.prog 22 = some (false, 1) := by kernel_rfl
theorem ei_22 : EI Tryd.prog 22 = some (36, 2) := by kernel_rfl
theorem isSli_22 : isSli Tryd.prog 22 = true := by kernel_rfl
theorem notInt_22 : notInt Tryd.prog 22 = true := by kernel_rfl
theorem zv_22 : ZV Tryd.prog 22 = some (.nils) := by kernel_rfl
theorem zok_22 : ZOk Tryd.prog 22 1 = true := by kernel_rfl
theorem by_22 : byOf Tryd.prog 22 = 24 := by kernel_rfl
theorem cells_23 : Tryd.prog.cellsOf 23 = 1 := by kernel_rfl
theorem ti_23 : TI Tryd.prog 23 = some (false, 1) := by kernel_rfl
theorem intK_23 : intK Tryd.prog 23 = some .i64 := by kernel_rfl
theorem un_23 : Tryd.prog.underlying 23 = some (.int .i64) := by kernel_rfl
theorem zv_23 : ZV Tryd.prog 23 = some (.int .i64 0) := by kernel_rfl
theorem zok_23 : ZOk Tryd.prog 23 1 = true := by kernel_rfl
theorem by_23 : byOf Tryd.prog 23 = 8 := by kernel_rfl
theorem cells_25 : Tryd.prog.cellsOf 25 = 1 := by kernel_rfl
theorem ti_25 : TI Tryd.prog 25 = some (false, 1) := by kernel_rfl
theorem zv_25 : ZV Tryd.prog 25 = some (.any) := by kernel_rfl
theorem zok_25 : ZOk Tryd.prog 25 1 = true := by kernel_rfl
theorem by_25 : byOf Tryd.prog 25 = 8 := by kernel_rfl
theorem cells_26 : Tryd.prog.cellsOf 26 = 1 := by kernel_rfl
theorem ti_26 : TI Tryd.prog 26 = some (false, 1) := by kernel_rfl
theorem zv_26 : ZV Tryd.prog 26 = some (.any) := by kernel_rfl
theorem zok_26 : ZOk Tryd.prog 26 1 = true := by kernel_rfl
theorem by_26 : byOf Tryd.prog 26 = 8 := by kernel_rfl
theorem cells_27 : Tryd.prog.cellsOf 27 = 1 := by kernel_rfl
theorem ti_27 : TI Tryd.prog 27 = some (false, 1) := by kernel_rfl
theorem zv_27 : ZV Tryd.prog 27 = some (.any) := by kernel_rfl
theorem zok_27 : ZOk Tryd.prog 27 1 = true := by kernel_rfl
theorem by_27 : byOf Tryd.prog 27 = 8 := by kernel_rfl
theorem cells_29 : Tryd.prog.cellsOf 29 = 1 := by kernel_rfl
theorem ti_29 : TI Tryd.prog 29 = some (false, 1) := by kernel_rfl
theorem zv_29 : ZV Tryd.prog 29 = some (.any) := by kernel_rfl
theorem zok_29 : ZOk Tryd.prog 29 1 = true := by kernel_rfl
theorem by_29 : byOf Tryd.prog 29 = 8 := by kernel_rfl
theorem cells_30 : Tryd.prog.cellsOf 30 = 1 := by kernel_rfl
theorem ti_30 : TI Tryd.prog 30 = some (false, 1) := by kernel_rfl
theorem zv_30 : ZV Tryd.prog 30 = some (.any) := by kernel_rfl
theorem zok_30 : ZOk Tryd.prog 30 1 = true := by kernel_rfl
theorem by_30 : byOf Tryd.prog 30 = 8 := by kernel_rfl
theorem cells_31 : Tryd.prog.cellsOf 31 = 1 := by kernel_rfl
theorem ti_31 : TI Tryd.prog 31 = some (false, 1) := by kernel_rfl
theorem zv_31 : ZV Tryd.prog 31 = some (.any) := by kernel_rfl
theorem zok_31 : ZOk Tryd.prog 31 1 = true := by kernel_rfl
theorem by_31 : byOf Tryd.prog 31 = 8 := by kernel_rfl
theorem cells_33 : Tryd.prog.cellsOf 33 = 1 := by kernel_rfl
theorem ti_33 : TI Tryd.prog 33 = some (false, 1) := by kernel_rfl
theorem zv_33 : ZV Tryd.prog 33 = some (.any) := by kernel_rfl
theorem zok_33 : ZOk Tryd.prog 33 1 = true := by kernel_rfl
theorem by_33 : byOf Tryd.prog 33 = 8 := by kernel_rfl
theorem cells_34 : Tryd.prog.cellsOf 34 = 1 := by kernel_rfl
theorem ti_34 : TI Tryd.prog 34 = some (false, 1) := by kernel_rfl
theorem zv_34 : ZV Tryd.prog 34 = some (.any) := by kernel_rfl
theorem zok_34 : ZOk Tryd.prog 34 1 = true := by kernel_rfl
theorem by_34 : byOf Tryd.prog 34 = 8 := by kernel_rfl
theorem cells_35 : Tryd.prog.cellsOf 35 = 2 := by kernel_rfl
theorem ti_35 : TI Tryd.prog 35 = some (true, 2) := by kernel_rfl
theorem fi_35_0 : FI Tryd.prog 35 0 = some (0, (false, 1)) := by kernel_rfl
theorem fi_35_1 : FI Tryd.prog 35 1 = some (1, (false, 1)) := by kernel_rfl
theorem si_35 : SI Tryd.prog 35 = some [(0, 1), (1, 1)] := by kernel_rfl
theorem zv_35 : ZV Tryd.prog 35 = some (.agg [.str [], .str []]) := by kernel_rfl
theorem zok_35 : ZOk Tryd.prog 35 2 = true := by kernel_rfl
theorem by_35 : byOf Tryd.prog 35 = 32 := by kernel_rfl
theorem cells_36 : Tryd.prog.cellsOf 36 = 2 := by kernel_rfl
theorem ti_36 : TI Tryd.prog 36 = some (true, 2) := by kernel_rfl
theorem fi_36_0 : FI Tryd.prog 36 0 = some (0, (false, 1)) := by kernel_rfl
theorem fi_36_1 : FI Tryd.prog 36 1 = some (1, (false, 1)) := by kernel_rfl
theorem si_36 : SI Tryd.prog 36 = some [(0, 1), (1, 1)] := by kernel_rfl
theorem zv_36 : ZV Tryd.prog 36 = some (.agg [.str [], .str []]) := by kernel_rfl
theorem zok_36 : ZOk Tryd.prog 36 2 = true := by kernel_rfl
theorem by_36 : byOf Tryd.prog 36 = 32 := by kernel_rfl
theorem cells_37 : Tryd.prog.cellsOf 37 = 1 := by kernel_rfl
theorem ti_37 : TI Tryd.prog 37 = some (false, 1) := by kernel_rfl
theorem ei_37 : EI Tryd.prog 37 = some (9, 1) := by kernel_rfl
theorem isSli_37 : isSli Tryd.prog 37 = true := by kernel_rfl
theorem notInt_37 : notInt Tryd.prog 37 = true := by kernel_rfl
theorem zv_37 : ZV Tryd.prog 37 = some (.nils) := by kernel_rfl
theorem zok_37 : ZOk Tryd.prog 37 1 = true := by kernel_rfl
theorem by_37 : byOf Tryd.prog 37 = 24 := by kernel_rfl
theorem cells_38 : Tryd.prog.cellsOf 38 = 1 := by kernel_rfl
theorem ti_38 : TI Tryd.prog 38 = some (false, 1) := by kernel_rfl
theorem zv_38 : ZV Tryd.prog 38 = some (.any) := by kernel_rfl
theorem zok_38 : ZOk Tryd.prog 38 1 = true := by kernel_rfl
theorem by_38 : byOf Tryd.prog 38 = 8 := by kernel_rfl
theorem cells_39 : Tryd.prog.cellsOf 39 = 1 := by kernel_rfl
theorem ti_39 : TI Tryd.prog 39 = some (false, 1) := by kernel_rfl
theorem zv_39 : ZV Tryd.prog 39 = some (.any) := by kernel_rfl
theorem zok_39 : ZOk Tryd.prog 39 1 = true := by kernel_rfl
theorem by_39 : byOf Tryd.prog 39 = 8 := by kernel_rfl
theorem cells_40 : Tryd.prog.cellsOf 40 = 1 := by kernel_rfl
theorem ti_40 : TI Tryd.prog 40 = some (false, 1) := by kernel_rfl
theorem isPtr_40 : isPtr Tryd.prog 40 = true := by kernel_rfl
theorem zv_40 : ZV Tryd.prog 40 = some (.nilp) := by kernel_rfl
theorem zok_40 : ZOk Tryd.prog 40 1 = true := by kernel_rfl
theorem by_40 : byOf Tryd.prog 40 = 8 := by kernel_rfl
theorem cells_41 : Tryd.prog.cellsOf 41 = 1 := by kernel_rfl
theorem ti_41 : TI Tryd.prog 41 = some (false, 1) := by kernel_rfl
theorem zv_41 : ZV Tryd.prog 41 = some (.any) := by kernel_rfl
theorem zok_41 : ZOk Tryd.prog 41 1 = true := by kernel_rfl
theorem by_41 : byOf Tryd.prog 41 = 8 := by kernel_rfl
theorem cells_42 : Tryd.prog.cellsOf 42 = 1 := by kernel_rfl
theorem ti_42 : TI Tryd.prog 42 = some (false, 1) := by kernel_rfl
theorem zv_42 : ZV Tryd.prog 42 = some (.any) := by kernel_rfl
theorem zok_42 : ZOk Tryd.prog 42 1 = true := by kernel_rfl
theorem by_42 : byOf Tryd.prog 42 = 8 := by kernel_rfl
theorem cells_43 : Tryd.prog.cellsOf 43 = 1 := by kernel_rfl
theorem ti_43 : TI Tryd.prog 43 = some (false, 1) := by kernel_rfl
theorem zv_43 : ZV Tryd.prog 43 = some (.any) := by kernel_rfl
theorem zok_43 : ZOk Tryd.prog 43 1 = true := by kernel_rfl
theorem by_43 : byOf Tryd.prog 43 = 8 := by kernel_rfl
theorem cells_44 : Tryd.prog.cellsOf 44 = 1 := by kernel_rfl
theorem ti_44 : TI Tryd.prog 44 = some (false, 1) := by kernel_rfl
theorem isPtr_44 : isPtr Tryd.prog 44 = true := by kernel_rfl
theorem zv_44 : ZV Tryd.prog 44 = some (.nilp) := by kernel_rfl
theorem zok_44 : ZOk Tryd.prog 44 1 = true := by kernel_rfl
theorem by_44 : byOf Tryd.prog 44 = 8 := by kernel_rfl
theorem cells_45 : Tryd.prog.cellsOf 45 = 1 := by kernel_rfl
theorem ti_45 : TI Tryd.prog 45 = some (false, 1) := by kernel_rfl
theorem ei_45 : EI Tryd.prog 45 = some (5, 1) := by kernel_rfl
theorem isSli_45 : isSli Tryd.prog 45 = true := by kernel_rfl
theorem notInt_45 : notInt Tryd.prog 45 = true := by kernel_rfl
theorem zv_45 : ZV Tryd.prog 45 = some (.nils) := by kernel_rfl
theorem zok_45 : ZOk Tryd.prog 45 1 = true := by kernel_rfl
theorem by_45 : byOf Tryd.prog 45 = 24 := by kernel_rfl
theorem cells_46 : Tryd.prog.cellsOf 46 = 2 := by kernel_rfl
theorem ti_46 : TI Tryd.prog 46 = some (true, 2) := by kernel_rfl
theorem fi_46_0 : FI Tryd.prog 46 0 = some (0, (false, 1)) := by kernel_rfl
theorem fi_46_1 : FI Tryd.prog 46 1 = some (1, (false, 1)) := by kernel_rfl
theorem si_46 : SI Tryd.prog 46 = some [(0, 1), (1, 1)] := by kernel_rfl
theorem zv_46 : ZV Tryd.prog 46 = some (.agg [.nilp, .nils]) := by kernel_rfl
theorem zok_46 : ZOk Tryd.prog 46 2 = true := by kernel_rfl
theorem by_46 : byOf Tryd.prog 46 = 32 := by kernel_rfl
theorem cells_47 : Tryd.prog.cellsOf 47 = 2 := by kernel_rfl
theorem ti_47 : TI Tryd.prog 47 = some (true, 2) := by kernel_rfl
theorem fi_47_0 : FI Tryd.prog 47 0 = some (0, (false, 1)) := by kernel_rfl
theorem fi_47_1 : FI Tryd.prog 47 1 = some (1, (false, 1)) := by kernel_rfl
theorem si_47 : SI Tryd.prog 47 = some [(0, 1), (1, 1)] := by kernel_rfl
theorem zv_47 : ZV Tryd.prog 47 = some (.agg [.nilp, .nils]) := by kernel_rfl
theorem zok_47 : ZOk Tryd.prog 47 2 = true := by kernel_rfl
theorem by_47 : byOf Tryd.prog 47 = 32 := by kernel_rfl
theorem cells_48 : Tryd.prog.cellsOf 48 = 1 := by kernel_rfl
theorem ti_48 : TI Tryd.prog 48 = some (false, 1) := by kernel_rfl
theorem zv_48 : ZV Tryd.prog 48 = some (.any) := by kernel_rfl
theorem zok_48 : ZOk Tryd.prog 48 1 = true := by kernel_rfl
theorem by_48 : byOf Tryd.prog 48 = 8 := by kernel_rfl
theorem cells_50 : Tryd.prog.cellsOf 50 = 1 := by kernel_rfl
theorem ti_50 : TI Tryd.prog 50 = some (false, 1) := by kernel_rfl
theorem zv_50 : ZV Tryd.prog 50 = some (.any) := by kernel_rfl
theorem zok_50 : ZOk Tryd.prog 50 1 = true := by kernel_rfl
theorem by_50 : byOf Tryd.prog 50 = 8 := by kernel_rfl
theorem cells_54 : Tryd.prog.cellsOf 54 = 1 := by kernel_rfl
theorem ti_54 : TI Tryd.prog 54 = some (false, 1) := by kernel_rfl
theorem zv_54 : ZV Tryd.prog 54 = some (.any) := by kernel_rfl
theorem zok_54 : ZOk Tryd.prog 54 1 = true := by kernel_rfl
theorem by_54 : byOf Tryd.prog 54 = 8 := by kernel_rfl
theorem cells_55 : Tryd.prog.cellsOf 55 = 1 := by kernel_rfl
theorem ti_55 : TI Tryd.prog 55 = some (false, 1) := by kernel_rfl
theorem zv_55 : ZV Tryd.prog 55 = some (.any) := by kernel_rfl
theorem zok_55 : ZOk Tryd.prog 55 1 = true := by kernel_rfl
theorem by_55 : byOf Tryd.prog 55 = 8 := by kernel_rfl
theorem cells_56 : Tryd.prog.cellsOf 56 = 1 := by kernel_rfl
theorem ti_56 : TI Tryd.prog 56 = some (false, 1) := by kernel_rfl
theorem zv_56 : ZV Tryd.prog 56 = some (.any) := by kernel_rfl
theorem zok_56 : ZOk Tryd.prog 56 1 = true := by kernel_rfl
theorem by_56 : byOf Tryd.prog 56 = 8 := by kernel_rfl
theorem cells_58 : Tryd.prog.cellsOf 58 = 1 := by kernel_rfl
theorem ti_58 : TI Tryd.prog 58 = some (false, 1) := by kernel_rfl
theorem zv_58 : ZV Tryd.prog 58 = some (.any) := by kernel_rfl
theorem zok_58 : ZOk Tryd.prog 58 1 = true := by kernel_rfl
theorem by_58 : byOf Tryd.prog 58 = 8 := by kernel_rfl
theorem cells_59 : Tryd.prog.cellsOf 59 = 1 := by kernel_rfl
theorem ti_59 : TI Tryd.prog 59 = some (false, 1) := by kernel_rfl
theorem zv_59 : ZV Tryd.prog 59 = some (.any) := by kernel_rfl
theorem zok_59 : ZOk Tryd.prog 59 1 = true := by kernel_rfl
theorem by_59 : byOf Tryd.prog 59 = 8 := by kernel_rfl
theorem cells_60 : Tryd.prog.cellsOf 60 = 1 := by kernel_rfl
theorem ti_60 : TI Tryd.prog 60 = some (false, 1) := by kernel_rfl
theorem zv_60 : ZV Tryd.prog 60 = some (.any) := by kernel_rfl
theorem zok_60 : ZOk Tryd.prog 60 1 = true := by kernel_rfl
theorem by_60 : byOf Tryd.prog 60 = 8 := by kernel_rfl
theorem cells_62 : Tryd.prog.cellsOf 62 = 1 := by kernel_rfl
theorem ti_62 : TI Tryd.prog 62 = some (false, 1) := by kernel_rfl
theorem zv_62 : ZV Tryd.prog 62 = some (.any) := by kernel_rfl
theorem zok_62 : ZOk Tryd.prog 62 1 = true := by kernel_rfl
theorem by_62 : byOf Tryd.prog 62 = 8 := by kernel_rfl
theorem cells_63 : Tryd.prog.cellsOf 63 = 1 := by kernel_rfl
theorem ti_63 : TI Tryd.prog 63 = some (false, 1) := by kernel_rfl
theorem zv_63 : ZV Tryd.prog 63 = some (.any) := by kernel_rfl
theorem zok_63 : ZOk Tryd.prog 63 1 = true := by kernel_rfl
theorem by_63 : byOf Tryd.prog 63 = 8 := by kernel_rfl
theorem cells_64 : Tryd.prog.cellsOf 64 = 1 := by kernel_rfl
theorem ti_64 : TI Tryd.prog 64 = some (false, 1) := by kernel_rfl
theorem zv_64 : ZV Tryd.prog 64 = some (.any) := by kernel_rfl
theorem zok_64 : ZOk Tryd.prog 64 1 = true := by kernel_rfl
theorem by_64 : byOf Tryd.prog 64 = 8 := by kernel_rfl
theorem cells_65 : Tryd.prog.cellsOf 65 = 1 := by kernel_rfl
theorem ti_65 : TI Tryd.prog 65 = some (false, 1) := by kernel_rfl
theorem zv_65 : ZV Tryd.prog 65 = some (.any) := by kernel_rfl
theorem zok_65 : ZOk Tryd.prog 65 1 = true := by kernel_rfl
theorem by_65 : byOf Tryd.prog 65 = 8 := by kernel_rfl
theorem cells_66 : Tryd.prog.cellsOf 66 = 1 := by kernel_rfl
theorem ti_66 : TI Tryd.prog 66 = some (false, 1) := by kernel_rfl
theorem zv_66 : ZV Tryd.prog 66 = some (.any) := by kernel_rfl
theorem zok_66 : ZOk Tryd.prog 66 1 = true := by kernel_rfl
theorem by_66 : byOf Tryd.prog 66 = 8 := by kernel_rfl
theorem cells_67 : Tryd.prog.cellsOf 67 = 1 := by kernel_rfl
theorem ti_67 : TI Tryd.prog 67 = some (false, 1) := by kernel_rfl
theorem zv_67 : ZV Tryd.prog 67 = some (.any) := by kernel_rfl
theorem zok_67 : ZOk Tryd.prog 67 1 = true := by kernel_rfl
theorem by_67 : byOf Tryd.prog 67 = 8 := by kernel_rfl
theorem cells_68 : Tryd.prog.cellsOf 68 = 1 := by kernel_rfl
theorem ti_68 : TI Tryd.prog 68 = some (false, 1) := by kernel_rfl
theorem zv_68 : ZV Tryd.prog 68 = some (.any) := by kernel_rfl
theorem zok_68 : ZOk Tryd.prog 68 1 = true := by kernel_rfl
theorem by_68 : byOf Tryd.prog 68 = 8 := by kernel_rfl
theorem cells_69 : Tryd.prog.cellsOf 69 = 256 := by kernel_rfl
theorem ti_69 : TI Tryd.prog 69 = some (true, 256) := by kernel_rfl
theorem ai_69 : AI Tryd.prog 69 = some (256, (false, 1)) := by kernel_rfl
theorem zv_69 : ZV Tryd.prog 69 = some (.agg [.bool false, .bool false, .bool false, .bool false, .bool false, .bool false, .bool false, .bool false, .bool false, .bool false, .bool false, .bool false, .bool false, .bool false, .bool false, .bool false, .bool false, .bool false, .bool false, .bool false, .bool false, .bool false, .bool false, .bool false, .bool false, .bool false, .bool false, .bool false, .bool false, .bool false, .bool false, .bool false, .bool false, .bool false, .bool false, .bool false, .bool false, .bool false, .bool false, .bool false, .bool false, .bool false, .bool false, .bool false, .bool false, .bool false, .bool false, .bool false, .bool false, .bool false, .bool false, .bool false, .bool false, .bool false, .bool false, .bool false, .bool false, .bool false, .bool false, .bool false, .bool false, .bool false, .bool false, .bool false, .bool false, .bool false, .bool false, .bool false, .bool false, .bool false, .bool false, .bool false, .bool false, .bool false, .bool false, .bool false, .bool false, .bool false, .bool false, .bool false, .bool false, .bool false, .bool false, .bool false, .bool false, .bool false, .bool false, .bool false, .bool false, .bool false, .bool false, .bool false, .bool false, .bool false, .bool false, .bool false, .bool false, .bool false, .bool false, .bool false, .bool false, .bool false, .bool false, .bool false, .bool false, .bool false, .bool false, .bool false, .bool false, .bool false, .bool false, .bool false, .bool false, .bool false, .bool false, .bool false, .bool false, .bool false, .bool false, .bool false, .bool false, .bool false, .bool false, .bool false, .bool false, .bool false, .bool false, .bool false, .bool false, .bool false, .bool false, .bool false, .bool false, .bool false, .bool false, .bool false, .bool false, .bool false, .bool false, .bool false, .bool false, .bool false, .bool false, .bool false, .bool false, .bool false, .bool false, .bool false, .bool false, .bool false, .bool false, .bool false, .bool false, .bool false, .bool false, .bool false, .bool false, .bool false, .bool false, .bool false, .bool false, .bool false, .bool false, .bool false, .bool false, .bool false, .bool false, .bool false, .bool false, .bool false, .bool false, .bool false, .bool false, .bool false, .bool false, .bool false, .bool false, .bool false, .bool false, .bool false, .bool false, .bool false, .bool false, .bool false, .bool false, .bool false, .bool false, .bool false, .bool false, .bool false, .bool false, .bool false, .bool false, .bool false, .bool false, .bool false, .bool false, .bool false, .bool false, .bool false, .bool false, .bool false, .bool false, .bool false, .bool false, .bool false, .bool false, .bool false, .bool false, .bool false, .bool false, .bool false, .bool false, .bool false, .bool false, .bool false, .bool false, .bool false, .bool false, .bool false, .bool false, .bool false, .bool false, .bool false, .bool false, .bool false, .bool false, .bool false, .bool false, .bool false, .bool false, .bool false, .bool false, .bool false, .bool false, .bool false, .bool false, .bool false, .bool false, .bool false, .bool false, .bool false, .bool false, .bool false, .bool false, .bool false, .bool false, .bool false, .bool false, .bool false, .bool false, .bool false, .bool false, .bool false, .bool false, .bool false]) := by kernel_rfl
theorem zok_69 : ZOk Tryd.prog 69 256 = true := by kernel_rfl
theorem by_69 : byOf Tryd.prog 69 = 256 := by kernel_rfl
theorem cells_70 : Tryd.prog.cellsOf 70 = 256 := by kernel_rfl
theorem ti_70 : TI Tryd.prog 70 = some (true, 256) := by kernel_rfl
theorem ai_70 : AI Tryd.prog 70 = some (256, (false, 1)) := by kernel_rfl
theorem zv_70 : ZV Tryd.prog 70 = some (.agg [.bool false, .bool false, .bool false, .bool false, .bool false, .bool false, .bool false, .bool false, .bool false, .bool false, .bool false, .bool false, .bool false, .bool false, .bool false, .bool false, .bool false, .bool false, .bool false, .bool false, .bool false, .bool false, .bool false, .bool false, .bool false, .bool false, .bool false, .bool false, .bool false, .bool false, .bool false, .bool false, .bool false, .bool false, .bool false, .bool false, .bool false, .bool false, .bool false, .bool false, .bool false, .bool false, .bool false, .bool false, .bool false, .bool false, .bool false, .bool false, .bool false, .bool false, .bool false, .bool false, .bool false, .bool false, .bool false, .bool false, .bool false, .bool false, .bool false, .bool false, .bool false, .bool false, .bool false, .bool false, .bool false, .bool false, .bool false, .bool false, .bool false, .bool false, .bool false, .bool false, .bool false, .bool false, .bool false, .bool false, .bool false, .bool false, .bool false, .bool false, .bool false, .bool false, .bool false, .bool false, .bool false, .bool false, .bool false, .bool false, .bool false, .bool false, .bool false, .bool false, .bool false, .bool false, .bool false, .bool false, .bool false, .bool false, .bool false, .bool false, .bool false, .bool false, .bool false, .bool false, .bool false, .bool false, .bool false, .bool false, .bool false, .bool false, .bool false, .bool false, .bool false, .bool false, .bool false, .bool false, .bool false, .bool false, .bool false, .bool false, .bool false, .bool false, .bool false, .bool false, .bool false, .bool false, .bool false, .bool false, .bool false, .bool false, .bool false, .bool false, .bool false, .bool false, .bool false, .bool false, .bool false, .bool false, .bool false, .bool false, .bool false, .bool false, .bool false, .bool false, .bool false, .bool false, .bool false, .bool false, .bool false, .bool false, .bool false, .bool false, .bool false, .bool false, .bool false, .bool false, .bool false, .bool false, .bool false, .bool false, .bool false, .bool false, .bool false, .bool false, .bool false, .bool false, .bool false, .bool false, .bool false, .bool false, .bool false, .bool false, .bool false, .bool false, .bool false, .bool false, .bool false, .bool false, .bool false, .bool false, .bool false, .bool false, .bool false, .bool false, .bool false, .bool false, .bool false, .bool false, .bool false, .bool false, .bool false, .bool false, .bool false, .bool false, .bool false, .bool false, .bool false, .bool false, .bool false, .bool false, .bool false, .bool false, .bool false, .bool false, .bool false, .bool false, .bool false, .bool false, .bool false, .bool false, .bool false, .bool false, .bool false, .bool false, .bool false, .bool false, .bool false, .bool false, .bool false, .bool false, .bool false, .bool false, .bool false, .bool false, .bool false, .bool false, .bool false, .bool false, .bool false, .bool false, .bool false, .bool false, .bool false, .bool false, .bool false, .bool false, .bool false, .bool false, .bool false, .bool false, .bool false, .bool false, .bool false, .bool false, .bool false, .bool false, .bool false, .bool false, .bool false, .bool false, .bool false, .bool false, .bool false, .bool false, .bool false, .bool false]) := by kernel_rfl
theorem zok_70 : ZOk Tryd.prog 70 256 = true := by kernel_rfl
theorem by_70 : byOf Tryd.prog 70 = 256 := by kernel_rfl
theorem cells_72 : Tryd.prog.cellsOf 72 = 1 := by kernel_rfl
theorem ti_72 : TI Tryd.prog 72 = some (false, 1) := by kernel_rfl
theorem zv_72 : ZV Tryd.prog 72 = some (.any) := by kernel_rfl
theorem zok_72 : ZOk Tryd.prog 72 1 = true := by kernel_rfl
theorem by_72 : byOf Tryd.prog 72 = 8 := by kernel_rfl
theorem cells_73 : Tryd.prog.cellsOf 73 = 1 := by kernel_rfl
theorem ti_73 : TI Tryd.prog 73 = some (false, 1) := by kernel_rfl
theorem zv_73 : ZV Tryd.prog 73 = some (.any) := by kernel_rfl
theorem zok_73 : ZOk Tryd.prog 73 1 = true := by kernel_rfl
theorem by_73 : byOf Tryd.prog 73 = 8 := by kernel_rfl
theorem cells_74 : Tryd.prog.cellsOf 74 = 1 := by kernel_rfl
theorem ti_74 : TI Tryd.prog 74 = some (false, 1) := by kernel_rfl
theorem isPtr_74 : isPtr Tryd.prog 74 = true := by kernel_rfl
theorem zv_74 : ZV Tryd.prog 74 = some (.nilp) := by kernel_rfl
theorem zok_74 : ZOk Tryd.prog 74 1 = true := by kernel_rfl
theorem by_74 : byOf Tryd.prog 74 = 8 := by kernel_rfl
theorem cells_75 : Tryd.prog.cellsOf 75 = 0 := by kernel_rfl
theorem ti_75 : TI Tryd.prog 75 = some (true, 0) := by kernel_rfl
theorem zv_75 : ZV Tryd.prog 75 = some (.agg []) := by kernel_rfl
theorem by_75 : byOf Tryd.prog 75 = 0 := by kernel_rfl
theorem cells_76 : Tryd.prog.cellsOf 76 = 0 := by kernel_rfl
theorem ti_76 : TI Tryd.prog 76 = some (true, 0) := by kernel_rfl
theorem zv_76 : ZV Tryd.prog 76 = some (.agg []) := by kernel_rfl
theorem by_76 : byOf Tryd.prog 76 = 0 := by kernel_rfl
theorem cells_77 : Tryd.prog.cellsOf 77 = 0 := by kernel_rfl
theorem ti_77 : TI Tryd.prog 77 = some (true, 0) := by kernel_rfl
theorem zv_77 : ZV Tryd.prog 77 = some (.agg []) := by kernel_rfl
theorem by_77 : byOf Tryd.prog 77 = 0 := by kernel_rfl
theorem cells_78 : Tryd.prog.cellsOf 78 = 1 := by kernel_rfl
theorem ti_78 : TI Tryd.prog 78 = some (false, 1) := by kernel_rfl
theorem intK_78 : intK Tryd.prog 78 = some .u32 := by kernel_rfl
theorem un_78 : Tryd.prog.underlying 78 = some (.int .u32) := by kernel_rfl
theorem zv_78 : ZV Tryd.prog 78 = some (.int .u32 0) := by kernel_rfl
theorem zok_78 : ZOk Tryd.prog 78 1 = true := by kernel_rfl
theorem by_78 : byOf Tryd.prog 78 = 4 := by kernel_rfl
theorem cells_79 : Tryd.prog.cellsOf 79 = 1 := by kernel_rfl
theorem ti_79 : TI Tryd.prog 79 = some (true, 1) := by kernel_rfl
theorem fi_79_1 : FI Tryd.prog 79 1 = some (0, (false, 1)) := by kernel_rfl
theorem si_79 : SI Tryd.prog 79 = some [(0, 0), (0, 1)] := by kernel_rfl
theorem zv_79 : ZV Tryd.prog 79 = some (.agg [.int .u32 0]) := by kernel_rfl
theorem zok_79 : ZOk Tryd.prog 79 1 = true := by kernel_rfl
theorem by_79 : byOf Tryd.prog 79 = 4 := by kernel_rfl
theorem cells_80 : Tryd.prog.cellsOf 80 = 1 := by kernel_rfl
theorem ti_80 : TI Tryd.prog 80 = some (true, 1) := by kernel_rfl
theorem fi_80_1 : FI Tryd.prog 80 1 = some (0, (false, 1)) := by kernel_rfl
theorem si_80 : SI Tryd.prog 80 = some [(0, 0), (0, 1)] := by kernel_rfl
theorem zv_80 : ZV Tryd.prog 80 = some (.agg [.int .u32 0]) := by kernel_rfl
theorem zok_80 : ZOk Tryd.prog 80 1 = true := by kernel_rfl
theorem by_80 : byOf Tryd.prog 80 = 4 := by kernel_rfl
theorem cells_81 : Tryd.prog.cellsOf 81 = 2 := by kernel_rfl
theorem ti_81 : TI Tryd.prog 81 = some (true, 2) := by kernel_rfl
theorem fi_81_0 : FI Tryd.prog 81 0 = some (0, (false, 1)) := by kernel_rfl
theorem fi_81_1 : FI Tryd.prog 81 1 = some (1, (false, 1)) := by kernel_rfl
theorem si_81 : SI Tryd.prog 81 = some [(0, 1), (1, 1)] := by kernel_rfl
theorem zv_81 : ZV Tryd.prog 81 = some (.agg [.int .i32 0, .int .u32 0]) := by kernel_rfl
theorem zok_81 : ZOk Tryd.prog 81 2 = true := by kernel_rfl
theorem by_81 : byOf Tryd.prog 81 = 8 := by kernel_rfl
theorem cells_82 : Tryd.prog.cellsOf 82 = 2 := by kernel_rfl
theorem ti_82 : TI Tryd.prog 82 = some (true, 2) := by kernel_rfl
theorem fi_82_0 : FI Tryd.prog 82 0 = some (0, (false, 1)) := by kernel_rfl
theorem fi_82_1 : FI Tryd.prog 82 1 = some (1, (false, 1)) := by kernel_rfl
theorem si_82 : SI Tryd.prog 82 = some [(0, 1), (1, 1)] := by kernel_rfl
theorem zv_82 : ZV Tryd.prog 82 = some (.agg [.int .i32 0, .int .u32 0]) := by kernel_rfl
theorem zok_82 : ZOk Tryd.prog 82 2 = true := by kernel_rfl
theorem by_82 : byOf Tryd.prog 82 = 8 := by kernel_rfl
theorem cells_83 : Tryd.prog.cellsOf 83 = 2 := by kernel_rfl
theorem ti_83 : TI Tryd.prog 83 = some (true, 2) := by kernel_rfl
theorem fi_83_1 : FI Tryd.prog 83 1 = some (0, (true, 2)) := by kernel_rfl
theorem si_83 : SI Tryd.prog 83 = some [(0, 0), (0, 2)] := by kernel_rfl
theorem zv_83 : ZV Tryd.prog 83 = some (.agg [.int .i32 0, .int .u32 0]) := by kernel_rfl
theorem zok_83 : ZOk Tryd.prog 83 2 = true := by kernel_rfl
theorem by_83 : byOf Tryd.prog 83 = 8 := by kernel_rfl
theorem cells_84 : Tryd.prog.cellsOf 84 = 2 := by kernel_rfl
theorem ti_84 : TI Tryd.prog 84 = some (true, 2) := by kernel_rfl
theorem fi_84_1 : FI Tryd.prog 84 1 = some (0, (true, 2)) := by kernel_rfl
theorem si_84 : SI Tryd.prog 84 = some [(0, 0), (0, 2)] := by kernel_rfl
theorem zv_84 : ZV Tryd.prog 84 = some (.agg [.int .i32 0, .int .u32 0]) := by kernel_rfl
theorem zok_84 : ZOk Tryd.prog 84 2 = true := by kernel_rfl
theorem by_84 : byOf Tryd.prog 84 = 8 := by kernel_rfl
theorem cells_85 : Tryd.prog.cellsOf 85 = 3 := by kernel_rfl
theorem ti_85 : TI Tryd.prog 85 = some (true, 3) := by kernel_rfl
theorem fi_85_1 : FI Tryd.prog 85 1 = some (0, (true, 1)) := by kernel_rfl
theorem fi_85_2 : FI Tryd.prog 85 2 = some (1, (true, 2)) := by kernel_rfl
theorem si_85 : SI Tryd.prog 85 = some [(0, 0), (0, 1), (1, 2)] := by kernel_rfl
theorem zv_85 : ZV Tryd.prog 85 = some (.agg [.int .u32 0, .int .i32 0, .int .u32 0]) := by kernel_rfl
theorem zok_85 : ZOk Tryd.prog 85 3 = true := by kernel_rfl
theorem by_85 : byOf Tryd.prog 85 = 12 := by kernel_rfl
theorem cells_86 : Tryd.prog.cellsOf 86 = 3 := by kernel_rfl
theorem ti_86 : TI Tryd.prog 86 = some (true, 3) := by kernel_rfl
theorem fi_86_1 : FI Tryd.prog 86 1 = some (0, (true, 1)) := by kernel_rfl
theorem fi_86_2 : FI Tryd.prog 86 2 = some (1, (true, 2)) := by kernel_rfl
theorem si_86 : SI Tryd.prog 86 = some [(0, 0), (0, 1), (1, 2)] := by kernel_rfl
theorem zv_86 : ZV Tryd.prog 86 = some (.agg [.int .u32 0, .int .i32 0, .int .u32 0]) := by kernel_rfl
theorem zok_86 : ZOk Tryd.prog 86 3 = true := by kernel_rfl
theorem by_86 : byOf Tryd.prog 86 = 12 := by kernel_rfl
theorem cells_89 : Tryd.prog.cellsOf 89 = 5 := by kernel_rfl
theorem ti_89 : TI Tryd.prog 89 = some (true, 5) := by kernel_rfl
theorem fi_89_0 : FI Tryd.prog 89 0 = some (0, (true, 3)) := by kernel_rfl
theorem fi_89_1 : FI Tryd.prog 89 1 = some (3, (false, 1)) := by kernel_rfl
theorem fi_89_2 : FI Tryd.prog 89 2 = some (4, (false, 1)) := by kernel_rfl
theorem si_89 : SI Tryd.prog 89 = some [(0, 3), (3, 1), (4, 1)] := by kernel_rfl
theorem zv_89 : ZV Tryd.prog 89 = some (.agg [.int .u32 0, .int .i32 0, .int .u32 0, .nili, .nils]) := by kernel_rfl
theorem zok_89 : ZOk Tryd.prog 89 5 = true := by kernel_rfl
theorem by_89 : byOf Tryd.prog 89 = 56 := by kernel_rfl
theorem cells_90 : Tryd.prog.cellsOf 90 = 5 := by kernel_rfl
theorem ti_90 : TI Tryd.prog 90 = some (true, 5) := by kernel_rfl
theorem fi_90_0 : FI Tryd.prog 90 0 = some (0, (true, 3)) := by kernel_rfl
theorem fi_90_1 : FI Tryd.prog 90 1 = some (3, (false, 1)) := by kernel_rfl
theorem fi_90_2 : FI Tryd.prog 90 2 = some (4, (false, 1)) := by kernel_rfl
theorem si_90 : SI Tryd.prog 90 = some [(0, 3), (3, 1), (4, 1)] := by kernel_rfl
theorem zv_90 : ZV Tryd.prog 90 = some (.agg [.int .u32 0, .int .i32 0, .int .u32 0, .nili, .nils]) := by kernel_rfl
theorem zok_90 : ZOk Tryd.prog 90 5 = true := by kernel_rfl
theorem by_90 : byOf Tryd.prog 90 = 56 := by kernel_rfl
theorem cells_91 : Tryd.prog.cellsOf 91 = 1 := by kernel_rfl
theorem ti_91 : TI Tryd.prog 91 = some (false, 1) := by kernel_rfl
theorem zv_91 : ZV Tryd.prog 91 = some (.any) := by kernel_rfl
theorem zok_91 : ZOk Tryd.prog 91 1 = true := by kernel_rfl
theorem by_91 : byOf Tryd.prog 91 = 8 := by kernel_rfl
theorem cells_92 : Tryd.prog.cellsOf 92 = 1 := by kernel_rfl
theorem ti_92 : TI Tryd.prog 92 = some (false, 1) := by kernel_rfl
theorem zv_92 : ZV Tryd.prog 92 = some (.any) := by kernel_rfl
theorem zok_92 : ZOk Tryd.prog 92 1 = true := by kernel_rfl
theorem by_92 : byOf Tryd.prog 92 = 8 := by kernel_rfl
theorem cells_93 : Tryd.prog.cellsOf 93 = 1 := by kernel_rfl
theorem ti_93 : TI Tryd.prog 93 = some (false, 1) := by kernel_rfl
theorem zv_93 : ZV Tryd.prog 93 = some (.any) := by kernel_rfl
theorem zok_93 : ZOk Tryd.prog 93 1 = true := by kernel_rfl
theorem by_93 : byOf Tryd.prog 93 = 8 := by kernel_rfl
theorem cells_94 : Tryd.prog.cellsOf 94 = 1 := by kernel_rfl
theorem ti_94 : TI Tryd.prog 94 = some (false, 1) := by kernel_rfl
theorem zv_94 : ZV Tryd.prog 94 = some (.any) := by kernel_rfl
theorem zok_94 : ZOk Tryd.prog 94 1 = true := by kernel_rfl
theorem by_94 : byOf Tryd.prog 94 = 8 := by kernel_rfl
theorem cells_95 : Tryd.prog.cellsOf 95 = 1 := by kernel_rfl
theorem ti_95 : TI Tryd.prog 95 = some (false, 1) := by kernel_rfl
theorem zv_95 : ZV Tryd.prog 95 = some (.any) := by kernel_rfl
theorem zok_95 : ZOk Tryd.prog 95 1 = true := by kernel_rfl
theorem by_95 : byOf Tryd.prog 95 = 8 := by kernel_rfl
theorem cells_96 : Tryd.prog.cellsOf 96 = 1 := by kernel_rfl
theorem ti_96 : TI Tryd.prog 96 = some (false, 1) := by kernel_rfl
theorem isPtr_96 : isPtr Tryd.prog 96 = true := by kernel_rfl
theorem zv_96 : ZV Tryd.prog 96 = some (.nilp) := by kernel_rfl
theorem zok_96 : ZOk Tryd.prog 96 1 = true := by kernel_rfl
theorem by_96 : byOf Tryd.prog 96 = 8 := by kernel_rfl
theorem cells_97 : Tryd.prog.cellsOf 97 = 1 := by kernel_rfl
theorem ti_97 : TI Tryd.prog 97 = some (false, 1) := by kernel_rfl
theorem ei_97 : EI Tryd.prog 97 = some (3, 1) := by kernel_rfl
theorem isSli_97 : isSli Tryd.prog 97 = true := by kernel_rfl
theorem notInt_97 : notInt Tryd.prog 97 = true := by kernel_rfl
theorem zv_97 : ZV Tryd.prog 97 = some (.nils) := by kernel_rfl
theorem zok_97 : ZOk Tryd.prog 97 1 = true := by kernel_rfl
theorem by_97 : byOf Tryd.prog 97 = 24 := by kernel_rfl
theorem cells_98 : Tryd.prog.cellsOf 98 = 1 := by kernel_rfl
theorem ti_98 : TI Tryd.prog 98 = some (false, 1) := by kernel_rfl
theorem zv_98 : ZV Tryd.prog 98 = some (.any) := by kernel_rfl
theorem zok_98 : ZOk Tryd.prog 98 1 = true := by kernel_rfl
theorem by_98 : byOf Tryd.prog 98 = 8 := by kernel_rfl
theorem cells_99 : Tryd.prog.cellsOf 99 = 1 := by kernel_rfl
theorem ti_99 : TI Tryd.prog 99 = some (false, 1) := by kernel_rfl
theorem zv_99 : ZV Tryd.prog 99 = some (.any) := by kernel_rfl
theorem zok_99 : ZOk Tryd.prog 99 1 = true := by kernel_rfl
theorem by_99 : byOf Tryd.prog 99 = 8 := by kernel_rfl
theorem cells_100 : Tryd.prog.cellsOf 100 = 1 := by kernel_rfl
theorem ti_100 : TI Tryd.prog 100 = some (false, 1) := by kernel_rfl
theorem zv_100 : ZV Tryd.prog 100 = some (.any) := by kernel_rfl
theorem zok_100 : ZOk Tryd.prog 100 1 = true := by kernel_rfl
theorem by_100 : byOf Tryd.prog 100 = 8 := by kernel_rfl
theorem cells_101 : Tryd.prog.cellsOf 101 = 1 := by kernel_rfl
theorem ti_101 : TI Tryd.prog 101 = some (false, 1) := by kernel_rfl
theorem zv_101 : ZV Tryd.prog 101 = some (.any) := by kernel_rfl
theorem zok_101 : ZOk Tryd.prog 101 1 = true := by kernel_rfl
theorem by_101 : byOf Tryd.prog 101 = 8 := by kernel_rfl
theorem cells_103 : Tryd.prog.cellsOf 103 = 1 := by kernel_rfl
theorem ti_103 : TI Tryd.prog 103 = some (false, 1) := by kernel_rfl
theorem zv_103 : ZV Tryd.prog 103 = some (.any) := by kernel_rfl
theorem zok_103 : ZOk Tryd.prog 103 1 = true := by kernel_rfl
theorem by_103 : byOf Tryd.prog 103 = 8 := by kernel_rfl
theorem cells_104 : Tryd.prog.cellsOf 104 = 1 := by kernel_rfl
theorem ti_104 : TI Tryd.prog 104 = some (false, 1) := by kernel_rfl
theorem zv_104 : ZV Tryd.prog 104 = some (.any) := by kernel_rfl
theorem zok_104 : ZOk Tryd.prog 104 1 = true := by kernel_rfl
theorem by_104 : byOf Tryd.prog 104 = 8 := by kernel_rfl
theorem cells_105 : Tryd.prog.cellsOf 105 = 1 := by kernel_rfl
theorem ti_105 : TI Tryd.prog 105 = some (false, 1) := by kernel_rfl
theorem isPtr_105 : isPtr Tryd.prog 105 = true := by kernel_rfl
theorem zv_105 : ZV Tryd.prog 105 = some (.nilp) := by kernel_rfl
theorem zok_105 : ZOk Tryd.prog 105 1 = true := by kernel_rfl
theorem by_105 : byOf Tryd.prog 105 = 8 := by kernel_rfl
theorem cells_106 : Tryd.prog.cellsOf 106 = 1 := by kernel_rfl
theorem ti_106 : TI Tryd.prog 106 = some (false, 1) := by kernel_rfl
theorem zv_106 : ZV Tryd.prog 106 = some (.any) := by kernel_rfl
theorem zok_106 : ZOk Tryd.prog 106 1 = true := by kernel_rfl
theorem by_106 : byOf Tryd.prog 106 = 8 := by kernel_rfl
theorem cells_107 : Tryd.prog.cellsOf 107 = 1 := by kernel_rfl
theorem ti_107 : TI Tryd.prog 107 = some (false, 1) := by kernel_rfl
theorem zv_107 : ZV Tryd.prog 107 = some (.any) := by kernel_rfl
theorem zok_107 : ZOk Tryd.prog 107 1 = true := by kernel_rfl
theorem by_107 : byOf Tryd.prog 107 = 8 := by kernel_rfl
theorem cells_108 : Tryd.prog.cellsOf 108 = 1 := by kernel_rfl
theorem ti_108 : TI Tryd.prog 108 = some (false, 1) := by kernel_rfl
theorem zv_108 : ZV Tryd.prog 108 = some (.any) := by kernel_rfl
theorem zok_108 : ZOk Tryd.prog 108 1 = true := by kernel_rfl
theorem by_108 : byOf Tryd.prog 108 = 8 := by kernel_rfl
theorem cells_110 : Tryd.prog.cellsOf 110 = 1 := by kernel_rfl
theorem ti_110 : TI Tryd.prog 110 = some (false, 1) := by kernel_rfl
theorem zv_110 : ZV Tryd.prog 110 = some (.any) := by kernel_rfl
theorem zok_110 : ZOk Tryd.prog 110 1 = true := by kernel_rfl
theorem by_110 : byOf Tryd.prog 110 = 8 := by kernel_rfl
theorem cells_113 : Tryd.prog.cellsOf 113 = 1 := by kernel_rfl
theorem ti_113 : TI Tryd.prog 113 = some (false, 1) := by kernel_rfl
theorem zv_113 : ZV Tryd.prog 113 = some (.any) := by kernel_rfl
theorem zok_113 : ZOk Tryd.prog 113 1 = true := by kernel_rfl
theorem by_113 : byOf Tryd.prog 113 = 8 := by kernel_rfl
theorem cells_114 : Tryd.prog.cellsOf 114 = 1 := by kernel_rfl
theorem ti_114 : TI Tryd.prog 114 = some (false, 1) := by kernel_rfl
theorem zv_114 : ZV Tryd.prog 114 = some (.any) := by kernel_rfl
theorem zok_114 : ZOk Tryd.prog 114 1 = true := by kernel_rfl
theorem by_114 : byOf Tryd.prog 114 = 8 := by kernel_rfl
theorem cells_115 : Tryd.prog.cellsOf 115 = 1 := by kernel_rfl
theorem ti_115 : TI Tryd.prog 115 = some (false, 1) := by kernel_rfl
theorem zv_115 : ZV Tryd.prog 115 = some (.any) := by kernel_rfl
theorem zok_115 : ZOk Tryd.prog 115 1 = true := by kernel_rfl
theorem by_115 : byOf Tryd.prog 115 = 8 := by kernel_rfl
theorem cells_116 : Tryd.prog.cellsOf 116 = 1 := by kernel_rfl
theorem ti_116 : TI Tryd.prog 116 = some (false, 1) := by kernel_rfl
theorem isPtr_116 : isPtr Tryd.prog 116 = true := by kernel_rfl
theorem zv_116 : ZV Tryd.prog 116 = some (.nilp) := by kernel_rfl
theorem zok_116 : ZOk Tryd.prog 116 1 = true := by kernel_rfl
theorem by_116 : byOf Tryd.prog 116 = 8 := by kernel_rfl
theorem cells_117 : Tryd.prog.cellsOf 117 = 1 := by kernel_rfl
theorem ti_117 : TI Tryd.prog 117 = some (false, 1) := by kernel_rfl
theorem zv_117 : ZV Tryd.prog 117 = some (.any) := by kernel_rfl
theorem zok_117 : ZOk Tryd.prog 117 1 = true := by kernel_rfl
theorem by_117 : byOf Tryd.prog 117 = 8 := by kernel_rfl
theorem cells_118 : Tryd.prog.cellsOf 118 = 1 := by kernel_rfl
theorem ti_118 : TI Tryd.prog 118 = some (false, 1) := by kernel_rfl
theorem isPtr_118 : isPtr Tryd.prog 118 = true := by kernel_rfl
theorem zv_118 : ZV Tryd.prog 118 = some (.nilp) := by kernel_rfl
theorem zok_118 : ZOk Tryd.prog 118 1 = true := by kernel_rfl
theorem by_118 : byOf Tryd.prog 118 = 8 := by kernel_rfl
theorem cells_119 : Tryd.prog.cellsOf 119 = 1 := by kernel_rfl
theorem ti_119 : TI Tryd.prog 119 = some (false, 1) := by kernel_rfl
theorem zv_119 : ZV Tryd.prog 119 = some (.any) := by kernel_rfl
theorem zok_119 : ZOk Tryd.prog 119 1 = true := by kernel_rfl
theorem by_119 : byOf Tryd.prog 119 = 8 := by kernel_rfl
theorem cells_120 : Tryd.prog.cellsOf 120 = 1 := by kernel_rfl
theorem ti_120 : TI Tryd.prog 120 = some (false, 1) := by kernel_rfl
theorem isPtr_120 : isPtr Tryd.prog 120 = true := by kernel_rfl
theorem zv_120 : ZV Tryd.prog 120 = some (.nilp) := by kernel_rfl
theorem zok_120 : ZOk Tryd.prog 120 1 = true := by kernel_rfl
theorem by_120 : byOf Tryd.prog 120 = 8 := by kernel_rfl
theorem cells_121 : Tryd.prog.cellsOf 121 = 1 := by kernel_rfl
theorem ti_121 : TI Tryd.prog 121 = some (false, 1) := by kernel_rfl
theorem zv_121 : ZV Tryd.prog 121 = some (.any) := by kernel_rfl
theorem zok_121 : ZOk Tryd.prog 121 1 = true := by kernel_rfl
theorem by_121 : byOf Tryd.prog 121 = 8 := by kernel_rfl
theorem cells_122 : Tryd.prog.cellsOf 122 = 1 := by kernel_rfl
theorem ti_122 : TI Tryd.prog 122 = some (false, 1) := by kernel_rfl
theorem isPtr_122 : isPtr Tryd.prog 122 = true := by kernel_rfl
theorem zv_122 : ZV Tryd.prog 122 = some (.nilp) := by kernel_rfl
theorem zok_122 : ZOk Tryd.prog 122 1 = true := by kernel_rfl
theorem by_122 : byOf Tryd.prog 122 = 8 := by kernel_rfl
theorem cells_123 : Tryd.prog.cellsOf 123 = 1 := by kernel_rfl
theorem ti_123 : TI Tryd.prog 123 = some (false, 1) := by kernel_rfl
theorem zv_123 : ZV Tryd.prog 123 = some (.any) := by kernel_rfl
theorem zok_123 : ZOk Tryd.prog 123 1 = true := by kernel_rfl
theorem by_123 : byOf Tryd.prog 123 = 8 := by kernel_rfl
theorem cells_124 : Tryd.prog.cellsOf 124 = 256 := by kernel_rfl
theorem ti_124 : TI Tryd.prog 124 = some (true, 256) := by kernel_rfl
theorem ai_124 : AI Tryd.prog 124 = some (256, (false, 1)) := by kernel_rfl
theorem zv_124 : ZV Tryd.prog 124 = some (.agg [.int .u8 0, .int .u8 0, .int .u8 0, .int .u8 0, .int .u8 0, .int .u8 0, .int .u8 0, .int .u8 0, .int .u8 0, .int .u8 0, .int .u8 0, .int .u8 0, .int .u8 0, .int .u8 0, .int .u8 0, .int .u8 0, .int .u8 0, .int .u8 0, .int .u8 0, .int .u8 0, .int .u8 0, .int .u8 0, .int .u8 0, .int .u8 0, .int .u8 0, .int .u8 0, .int .u8 0, .int .u8 0, .int .u8 0, .int .u8 0, .int .u8 0, .int .u8 0, .int .u8 0, .int .u8 0, .int .u8 0, .int .u8 0, .int .u8 0, .int .u8 0, .int .u8 0, .int .u8 0, .int .u8 0, .int .u8 0, .int .u8 0, .int .u8 0, .int .u8 0, .int .u8 0, .int .u8 0, .int .u8 0, .int .u8 0, .int .u8 0, .int .u8 0, .int .u8 0, .int .u8 0, .int .u8 0, .int .u8 0, .int .u8 0, .int .u8 0, .int .u8 0, .int .u8 0, .int .u8 0, .int .u8 0, .int .u8 0, .int .u8 0, .int .u8 0, .int .u8 0, .int .u8 0, .int .u8 0, .int .u8 0, .int .u8 0, .int .u8 0, .int .u8 0, .int .u8 0, .int .u8 0, .int .u8 0, .int .u8 0, .int .u8 0, .int .u8 0, .int .u8 0, .int .u8 0, .int .u8 0, .int .u8 0, .int .u8 0, .int .u8 0, .int .u8 0, .int .u8 0, .int .u8 0, .int .u8 0, .int .u8 0, .int .u8 0, .int .u8 0, .int .u8 0, .int .u8 0, .int .u8 0, .int .u8 0, .int .u8 0, .int .u8 0, .int .u8 0, .int .u8 0, .int .u8 0, .int .u8 0, .int .u8 0, .int .u8 0, .int .u8 0, .int .u8 0, .int .u8 0, .int .u8 0, .int .u8 0, .int .u8 0, .int .u8 0, .int .u8 0, .int .u8 0, .int .u8 0, .int .u8 0, .int .u8 0, .int .u8 0, .int .u8 0, .int .u8 0, .int .u8 0, .int .u8 0, .int .u8 0, .int .u8 0, .int .u8 0, .int .u8 0, .int .u8 0, .int .u8 0, .int .u8 0, .int .u8 0, .int .u8 0, .int .u8 0, .int .u8 0, .int .u8 0, .int .u8 0, .int .u8 0, .int .u8 0, .int .u8 0, .int .u8 0, .int .u8 0, .int .u8 0, .int .u8 0, .int .u8 0, .int .u8 0, .int .u8 0, .int .u8 0, .int .u8 0, .int .u8 0, .int .u8 0, .int .u8 0, .int .u8 0, .int .u8 0, .int .u8 0, .int .u8 0, .int .u8 0, .int .u8 0, .int .u8 0, .int .u8 0, .int .u8 0, .int .u8 0, .int .u8 0, .int .u8 0, .int .u8 0, .int .u8 0, .int .u8 0, .int .u8 0, .int .u8 0, .int .u8 0, .int .u8 0, .int .u8 0, .int .u8 0, .int .u8 0, .int .u8 0, .int .u8 0, .int .u8 0, .int .u8 0, .int .u8 0, .int .u8 0, .int .u8 0, .int .u8 0, .int .u8 0, .int .u8 0, .int .u8 0, .int .u8 0, .int .u8 0, .int .u8 0, .int .u8 0, .int .u8 0, .int .u8 0, .int .u8 0, .int .u8 0, .int .u8 0, .int .u8 0, .int .u8 0, .int .u8 0, .int .u8 0, .int .u8 0, .int .u8 0, .int .u8 0, .int .u8 0, .int .u8 0, .int .u8 0, .int .u8 0, .int .u8 0, .int .u8 0, .int .u8 0, .int .u8 0, .int .u8 0, .int .u8 0, .int .u8 0, .int .u8 0, .int .u8 0, .int .u8 0, .int .u8 0, .int .u8 0, .int .u8 0, .int .u8 0, .int .u8 0, .int .u8 0, .int .u8 0, .int .u8 0, .int .u8 0, .int .u8 0, .int .u8 0, .int .u8 0, .int .u8 0, .int .u8 0, .int .u8 0, .int .u8 0, .int .u8 0, .int .u8 0, .int .u8 0, .int .u8 0, .int .u8 0, .int .u8 0, .int .u8 0, .int .u8 0, .int .u8 0, .int .u8 0, .int .u8 0, .int .u8 0, .int .u8 0, .int .u8 0, .int .u8 0, .int .u8 0, .int .u8 0, .int .u8 0, .int .u8 0, .int .u8 0, .int .u8 0, .int .u8 0, .int .u8 0, .int .u8 0, .int .u8 0, .int .u8 0, .int .u8 0, .int .u8 0, .int .u8 0, .int .u8 0]) := by kernel_rfl
theorem zok_124 : ZOk Tryd.prog 124 256 = true := by kernel_rfl
theorem by_124 : byOf Tryd.prog 124 = 256 := by kernel_rfl
theorem cells_125 : Tryd.prog.cellsOf 125 = 256 := by kernel_rfl
theorem ti_125 : TI Tryd.prog 125 = some (true, 256) := by kernel_rfl
theorem ai_125 : AI Tryd.prog 125 = some (256, (false, 1)) := by kernel_rfl
theorem zv_125 : ZV Tryd.prog 125 = some (.agg [.int .u8 0, .int .u8 0, .int .u8 0, .int .u8 0, .int .u8 0, .int .u8 0, .int .u8 0, .int .u8 0, .int .u8 0, .int .u8 0, .int .u8 0, .int .u8 0, .int .u8 0, .int .u8 0, .int .u8 0, .int .u8 0, .int .u8 0, .int .u8 0, .int .u8 0, .int .u8 0, .int .u8 0, .int .u8 0, .int .u8 0, .int .u8 0, .int .u8 0, .int .u8 0, .int .u8 0, .int .u8 0, .int .u8 0, .int .u8 0, .int .u8 0, .int .u8 0, .int .u8 0, .int .u8 0, .int .u8 0, .int .u8 0, .int .u8 0, .int .u8 0, .int .u8 0, .int .u8 0, .int .u8 0, .int .u8 0, .int .u8 0, .int .u8 0, .int .u8 0, .int .u8 0, .int .u8 0, .int .u8 0, .int .u8 0, .int .u8 0, .int .u8 0, .int .u8 0, .int .u8 0, .int .u8 0, .int .u8 0, .int .u8 0, .int .u8 0, .int .u8 0, .int .u8 0, .int .u8 0, .int .u8 0, .int .u8 0, .int .u8 0, .int .u8 0, .int .u8 0, .int .u8 0, .int .u8 0, .int .u8 0, .int .u8 0, .int .u8 0, .int .u8 0, .int .u8 0, .int .u8 0, .int .u8 0, .int .u8 0, .int .u8 0, .int .u8 0, .int .u8 0, .int .u8 0, .int .u8 0, .int .u8 0, .int .u8 0, .int .u8 0, .int .u8 0, .int .u8 0, .int .u8 0, .int .u8 0, .int .u8 0, .int .u8 0, .int .u8 0, .int .u8 0, .int .u8 0, .int .u8 0, .int .u8 0, .int .u8 0, .int .u8 0, .int .u8 0, .int .u8 0, .int .u8 0, .int .u8 0, .int .u8 0, .int .u8 0, .int .u8 0, .int .u8 0, .int .u8 0, .int .u8 0, .int .u8 0, .int .u8 0, .int .u8 0, .int .u8 0, .int .u8 0, .int .u8 0, .int .u8 0, .int .u8 0, .int .u8 0, .int .u8 0, .int .u8 0, .int .u8 0, .int .u8 0, .int .u8 0, .int .u8 0, .int .u8 0, .int .u8 0, .int .u8 0, .int .u8 0, .int .u8 0, .int .u8 0, .int .u8 0, .int .u8 0, .int .u8 0, .int .u8 0, .int .u8 0, .int .u8 0, .int .u8 0, .int .u8 0, .int .u8 0, .int .u8 0, .int .u8 0, .int .u8 0, .int .u8 0, .int .u8 0, .int .u8 0, .int .u8 0, .int .u8 0, .int .u8 0, .int .u8 0, .int .u8 0, .int .u8 0, .int .u8 0, .int .u8 0, .int .u8 0, .int .u8 0, .int .u8 0, .int .u8 0, .int .u8 0, .int .u8 0, .int .u8 0, .int .u8 0, .int .u8 0, .int .u8 0, .int .u8 0, .int .u8 0, .int .u8 0, .int .u8 0, .int .u8 0, .int .u8 0, .int .u8 0, .int .u8 0, .int .u8 0, .int .u8 0, .int .u8 0, .int .u8 0, .int .u8 0, .int .u8 0, .int .u8 0, .int .u8 0, .int .u8 0, .int .u8 0, .int .u8 0, .int .u8 0, .int .u8 0, .int .u8 0, .int .u8 0, .int .u8 0, .int .u8 0, .int .u8 0, .int .u8 0, .int .u8 0, .int .u8 0, .int .u8 0, .int .u8 0, .int .u8 0, .int .u8 0, .int .u8 0, .int .u8 0, .int .u8 0, .int .u8 0, .int .u8 0, .int .u8 0, .int .u8 0, .int .u8 0, .int .u8 0, .int .u8 0, .int .u8 0, .int .u8 0, .int .u8 0, .int .u8 0, .int .u8 0, .int .u8 0, .int .u8 0, .int .u8 0, .int .u8 0, .int .u8 0, .int .u8 0, .int .u8 0, .int .u8 0, .int .u8 0, .int .u8 0, .int .u8 0, .int .u8 0, .int .u8 0, .int .u8 0, .int .u8 0, .int .u8 0, .int .u8 0, .int .u8 0, .int .u8 0, .int .u8 0, .int .u8 0, .int .u8 0, .int .u8 0, .int .u8 0, .int .u8 0, .int .u8 0, .int .u8 0, .int .u8 0, .int .u8 0, .int .u8 0, .int .u8 0, .int .u8 0, .int .u8 0, .int .u8 0, .int .u8 0, .int .u8 0, .int .u8 0, .int .u8 0, .int .u8 0, .int .u8 0, .int .u8 0, .int .u8 0, .int .u8 0, .int .u8 0, .int .u8 0, .int .u8 0, .int .u8 0, .int .u8 0]) := by kernel_rfl
theorem zok_125 : ZOk Tryd.prog 125 256 = true := by kernel_rfl
theorem by_125 : byOf Tryd.prog 125 = 256 := by kernel_rfl
theorem cells_126 : Tryd.prog.cellsOf 126 = 1 := by kernel_rfl
theorem ti_126 : TI Tryd.prog 126 = some (false, 1) := by kernel_rfl
theorem isPtr_126 : isPtr Tryd.prog 126 = true := by kernel_rfl
theorem zv_126 : ZV Tryd.prog 126 = some (.nilp) := by kernel_rfl
theorem zok_126 : ZOk Tryd.prog 126 1 = true := by kernel_rfl
theorem by_126 : byOf Tryd.prog 126 = 8 := by kernel_rfl
theorem cells_127 : Tryd.prog.cellsOf 127 = 256 := by kernel_rfl
theorem ti_127 : TI Tryd.prog 127 = some (true, 256) := by kernel_rfl
theorem ai_127 : AI Tryd.prog 127 = some (256, (false, 1)) := by kernel_rfl
theorem zv_127 : ZV Tryd.prog 127 = some (.agg [.nils, .nils, .nils, .nils, .nils, .nils, .nils, .nils, .nils, .nils, .nils, .nils, .nils, .nils, .nils, .nils, .nils, .nils, .nils, .nils, .nils, .nils, .nils, .nils, .nils, .nils, .nils, .nils, .nils, .nils, .nils, .nils, .nils, .nils, .nils, .nils, .nils, .nils, .nils, .nils, .nils, .nils, .nils, .nils, .nils, .nils, .nils, .nils, .nils, .nils, .nils, .nils, .nils, .nils, .nils, .nils, .nils, .nils, .nils, .nils, .nils, .nils, .nils, .nils, .nils, .nils, .nils, .nils, .nils, .nils, .nils, .nils, .nils, .nils, .nils, .nils, .nils, .nils, .nils, .nils, .nils, .nils, .nils, .nils, .nils, .nils, .nils, .nils, .nils, .nils, .nils, .nils, .nils, .nils, .nils, .nils, .nils, .nils, .nils, .nils, .nils, .nils, .nils, .nils, .nils, .nils, .nils, .nils, .nils, .nils, .nils, .nils, .nils, .nils, .nils, .nils, .nils, .nils, .nils, .nils, .nils, .nils, .nils, .nils, .nils, .nils, .nils, .nils, .nils, .nils, .nils, .nils, .nils, .nils, .nils, .nils, .nils, .nils, .nils, .nils, .nils, .nils, .nils, .nils, .nils, .nils, .nils, .nils, .nils, .nils, .nils, .nils, .nils, .nils, .nils, .nils, .nils, .nils, .nils, .nils, .nils, .nils, .nils, .nils, .nils, .nils, .nils, .nils, .nils, .nils, .nils, .nils, .nils, .nils, .nils, .nils, .nils, .nils, .nils, .nils, .nils, .nils, .nils, .nils, .nils, .nils, .nils, .nils, .nils, .nils, .nils, .nils, .nils, .nils, .nils, .nils, .nils, .nils, .nils, .nils, .nils, .nils, .nils, .nils, .nils, .nils, .nils, .nils, .nils, .nils, .nils, .nils, .nils, .nils, .nils, .nils, .nils, .nils, .nils, .nils, .nils, .nils, .nils, .nils, .nils, .nils, .nils, .nils, .nils, .nils, .nils, .nils, .nils, .nils, .nils, .nils, .nils, .nils, .nils, .nils, .nils, .nils, .nils, .nils, .nils, .nils, .nils, .nils, .nils, .nils, .nils, .nils, .nils, .nils, .nils, .nils]) := by kernel_rfl
theorem zok_127 : ZOk Tryd.prog 127 256 = true := by kernel_rfl
theorem by_127 : byOf Tryd.prog 127 = 6144 := by kernel_rfl
theorem cells_128 : Tryd.prog.cellsOf 128 = 257 := by kernel_rfl
theorem ti_128 : TI Tryd.prog 128 = some (true, 257) := by kernel_rfl
theorem fi_128_0 : FI Tryd.prog 128 0 = some (0, (true, 256)) := by kernel_rfl
theorem fi_128_1 : FI Tryd.prog 128 1 = some (256, (false, 1)) := by kernel_rfl
theorem si_128 : SI Tryd.prog 128 = some [(0, 256), (256, 1)] := by kernel_rfl
theorem zv_128 : ZV Tryd.prog 128 = some (.agg [.nils, .nils, .nils, .nils, .nils, .nils, .nils, .nils, .nils, .nils, .nils, .nils, .nils, .nils, .nils, .nils, .nils, .nils, .nils, .nils, .nils, .nils, .nils, .nils, .nils, .nils, .nils, .nils, .nils, .nils, .nils, .nils, .nils, .nils, .nils, .nils, .nils, .nils, .nils, .nils, .nils, .nils, .nils, .nils, .nils, .nils, .nils, .nils, .nils, .nils, .nils, .nils, .nils, .nils, .nils, .nils, .nils, .nils, .nils, .nils, .nils, .nils, .nils, .nils, .nils, .nils, .nils, .nils, .nils, .nils, .nils, .nils, .nils, .nils, .nils, .nils, .nils, .nils, .nils, .nils, .nils, .nils, .nils, .nils, .nils, .nils, .nils, .nils, .nils, .nils, .nils, .nils, .nils, .nils, .nils, .nils, .nils, .nils, .nils, .nils, .nils, .nils, .nils, .nils, .nils, .nils, .nils, .nils, .nils, .nils, .nils, .nils, .nils, .nils, .nils, .nils, .nils, .nils, .nils, .nils, .nils, .nils, .nils, .nils, .nils, .nils, .nils, .nils, .nils, .nils, .nils, .nils, .nils, .nils, .nils, .nils, .nils, .nils, .nils, .nils, .nils, .nils, .nils, .nils, .nils, .nils, .nils, .nils, .nils, .nils, .nils, .nils, .nils, .nils, .nils, .nils, .nils, .nils, .nils, .nils, .nils, .nils, .nils, .nils, .nils, .nils, .nils, .nils, .nils, .nils, .nils, .nils, .nils, .nils, .nils, .nils, .nils, .nils, .nils, .nils, .nils, .nils, .nils, .nils, .nils, .nils, .nils, .nils, .nils, .nils, .nils, .nils, .nils, .nils, .nils, .nils, .nils, .nils, .nils, .nils, .nils, .nils, .nils, .nils, .nils, .nils, .nils, .nils, .nils, .nils, .nils, .nils, .nils, .nils, .nils, .nils, .nils, .nils, .nils, .nils, .nils, .nils, .nils, .nils, .nils, .nils, .nils, .nils, .nils, .nils, .nils, .nils, .nils, .nils, .nils, .nils, .nils, .nils, .nils, .nils, .nils, .nils, .nils, .nils, .nils, .nils, .nils, .nils, .nils, .nils, .nils, .nils, .nils, .nils, .nils, .nils, .nils]) := by kernel_rfl
theorem zok_128 : ZOk Tryd.prog 128 257 = true := by kernel_rfl
theorem by_128 : byOf Tryd.prog 128 = 6168 := by kernel_rfl
theorem cells_129 : Tryd.prog.cellsOf 129 = 257 := by kernel_rfl
theorem ti_129 : TI Tryd.prog 129 = some (true, 257) := by kernel_rfl
theorem fi_129_0 : FI Tryd.prog 129 0 = some (0, (true, 256)) := by kernel_rfl
theorem fi_129_1 : FI Tryd.prog 129 1 = some (256, (false, 1)) := by kernel_rfl
theorem si_129 : SI Tryd.prog 129 = some [(0, 256), (256, 1)] := by kernel_rfl
theorem zv_129 : ZV Tryd.prog 129 = some (.agg [.nils, .nils, .nils, .nils, .nils, .nils, .nils, .nils, .nils, .nils, .nils, .nils, .nils, .nils, .nils, .nils, .nils, .nils, .nils, .nils, .nils, .nils, .nils, .nils, .nils, .nils, .nils, .nils, .nils, .nils, .nils, .nils, .nils, .nils, .nils, .nils, .nils, .nils, .nils, .nils, .nils, .nils, .nils, .nils, .nils, .nils, .nils, .nils, .nils, .nils, .nils, .nils, .nils, .nils, .nils, .nils, .nils, .nils, .nils, .nils, .nils, .nils, .nils, .nils, .nils, .nils, .nils, .nils, .nils, .nils, .nils, .nils, .nils, .nils, .nils, .nils, .nils, .nils, .nils, .nils, .nils, .nils, .nils, .nils, .nils, .nils, .nils, .nils, .nils, .nils, .nils, .nils, .nils, .nils, .nils, .nils, .nils, .nils, .nils, .nils, .nils, .nils, .nils, .nils, .nils, .nils, .nils, .nils, .nils, .nils, .nils, .nils, .nils, .nils, .nils, .nils, .nils, .nils, .nils, .nils, .nils, .nils, .nils, .nils, .nils, .nils, .nils, .nils, .nils, .nils, .nils, .nils, .nils, .nils, .nils, .nils, .nils, .nils, .nils, .nils, .nils, .nils, .nils, .nils, .nils, .nils, .nils, .nils, .nils, .nils, .nils, .nils, .nils, .nils, .nils, .nils, .nils, .nils, .nils, .nils, .nils, .nils, .nils, .nils, .nils, .nils, .nils, .nils, .nils, .nils, .nils, .nils, .nils, .nils, .nils, .nils, .nils, .nils, .nils, .nils, .nils, .nils, .nils, .nils, .nils, .nils, .nils, .nils, .nils, .nils, .nils, .nils, .nils, .nils, .nils, .nils, .nils, .nils, .nils, .nils, .nils, .nils, .nils, .nils, .nils, .nils, .nils, .nils, .nils, .nils, .nils, .nils, .nils, .nils, .nils, .nils, .nils, .nils, .nils, .nils, .nils, .nils, .nils, .nils, .nils, .nils, .nils, .nils, .nils, .nils, .nils, .nils, .nils, .nils, .nils, .nils, .nils, .nils, .nils, .nils, .nils, .nils, .nils, .nils, .nils, .nils, .nils, .nils, .nils, .nils, .nils, .nils, .nils, .nils, .nils, .nils, .nils]) := by kernel_rfl
theorem zok_129 : ZOk Tryd.prog 129 257 = true := by kernel_rfl
theorem by_129 : byOf Tryd.prog 129 = 6168 := by kernel_rfl
theorem cells_130 : Tryd.prog.cellsOf 130 = 1 := by kernel_rfl
theorem ti_130 : TI Tryd.prog 130 = some (false, 1) := by kernel_rfl
theorem isPtr_130 : isPtr Tryd.prog 130 = true := by kernel_rfl
theorem zv_130 : ZV Tryd.prog 130 = some (.nilp) := by kernel_rfl
theorem zok_130 : ZOk Tryd.prog 130 1 = true := by kernel_rfl
theorem by_130 : byOf Tryd.prog 130 = 8 := by kernel_rfl
theorem cells_131 : Tryd.prog.cellsOf 131 = 1 := by kernel_rfl
theorem ti_131 : TI Tryd.prog 131 = some (false, 1) := by kernel_rfl
theorem zv_131 : ZV Tryd.prog 131 = some (.any) := by kernel_rfl
theorem zok_131 : ZOk Tryd.prog 131 1 = true := by kernel_rfl
theorem by_131 : byOf Tryd.prog 131 = 8 := by kernel_rfl
theorem cells_132 : Tryd.prog.cellsOf 132 = 1 := by kernel_rfl
theorem ti_132 : TI Tryd.prog 132 = some (false, 1) := by kernel_rfl
theorem intK_132 : intK Tryd.prog 132 = some .u64 := by kernel_rfl
theorem un_132 : Tryd.prog.underlying 132 = some (.int .u64) := by kernel_rfl
theorem zv_132 : ZV Tryd.prog 132 = some (.int .u64 0) := by kernel_rfl
theorem zok_132 : ZOk Tryd.prog 132 1 = true := by kernel_rfl
theorem by_132 : byOf Tryd.prog 132 = 8 := by kernel_rfl
theorem cells_133 : Tryd.prog.cellsOf 133 = 1 := by kernel_rfl
theorem ti_133 : TI Tryd.prog 133 = some (false, 1) := by kernel_rfl
theorem zv_133 : ZV Tryd.prog 133 = some (.any) := by kernel_rfl
theorem zok_133 : ZOk Tryd.prog 133 1 = true := by kernel_rfl
theorem by_133 : byOf Tryd.prog 133 = 8 := by kernel_rfl
theorem cells_134 : Tryd.prog.cellsOf 134 = 2 := by kernel_rfl
theorem ti_134 : TI Tryd.prog 134 = some (true, 2) := by kernel_rfl
theorem fi_134_0 : FI Tryd.prog 134 0 = some (0, (false, 1)) := by kernel_rfl
theorem fi_134_1 : FI Tryd.prog 134 1 = some (1, (false, 1)) := by kernel_rfl
theorem si_134 : SI Tryd.prog 134 = some [(0, 1), (1, 1)] := by kernel_rfl
theorem zv_134 : ZV Tryd.prog 134 = some (.agg [.int .u8 0, .int .u8 0]) := by kernel_rfl
theorem zok_134 : ZOk Tryd.prog 134 2 = true := by kernel_rfl
theorem by_134 : byOf Tryd.prog 134 = 2 := by kernel_rfl
theorem cells_135 : Tryd.prog.cellsOf 135 = 2 := by kernel_rfl
theorem ti_135 : TI Tryd.prog 135 = some (true, 2) := by kernel_rfl
theorem fi_135_0 : FI Tryd.prog 135 0 = some (0, (false, 1)) := by kernel_rfl
theorem fi_135_1 : FI Tryd.prog 135 1 = some (1, (false, 1)) := by kernel_rfl
theorem si_135 : SI Tryd.prog 135 = some [(0, 1), (1, 1)] := by kernel_rfl
theorem zv_135 : ZV Tryd.prog 135 = some (.agg [.int .u8 0, .int .u8 0]) := by kernel_rfl
theorem zok_135 : ZOk Tryd.prog 135 2 = true := by kernel_rfl
theorem by_135 : byOf Tryd.prog 135 = 2 := by kernel_rfl
theorem cells_136 : Tryd.prog.cellsOf 136 = 32 := by kernel_rfl
theorem ti_136 : TI Tryd.prog 136 = some (true, 32) := by kernel_rfl
theorem ai_136 : AI Tryd.prog 136 = some (16, (true, 2)) := by kernel_rfl
theorem zv_136 : ZV Tryd.prog 136 = some (.agg [.int .u8 0, .int .u8 0, .int .u8 0, .int .u8 0, .int .u8 0, .int .u8 0, .int .u8 0, .int .u8 0, .int .u8 0, .int .u8 0, .int .u8 0, .int .u8 0, .int .u8 0, .int .u8 0, .int .u8 0, .int .u8 0, .int .u8 0, .int .u8 0, .int .u8 0, .int .u8 0, .int .u8 0, .int .u8 0, .int .u8 0, .int .u8 0, .int .u8 0, .int .u8 0, .int .u8 0, .int .u8 0, .int .u8 0, .int .u8 0, .int .u8 0, .int .u8 0]) := by kernel_rfl
theorem zok_136 : ZOk Tryd.prog 136 32 = true := by kernel_rfl
theorem by_136 : byOf Tryd.prog 136 = 32 := by kernel_rfl
theorem cells_137 : Tryd.prog.cellsOf 137 = 1 := by kernel_rfl
theorem ti_137 : TI Tryd.prog 137 = some (false, 1) := by kernel_rfl
theorem isPtr_137 : isPtr Tryd.prog 137 = true := by kernel_rfl
theorem zv_137 : ZV Tryd.prog 137 = some (.nilp) := by kernel_rfl
theorem zok_137 : ZOk Tryd.prog 137 1 = true := by kernel_rfl
theorem by_137 : byOf Tryd.prog 137 = 8 := by kernel_rfl
theorem cells_138 : Tryd.prog.cellsOf 138 = 1 := by kernel_rfl
theorem ti_138 : TI Tryd.prog 138 = some (false, 1) := by kernel_rfl
theorem zv_138 : ZV Tryd.prog 138 = some (.any) := by kernel_rfl
theorem zok_138 : ZOk Tryd.prog 138 1 = true := by kernel_rfl
theorem by_138 : byOf Tryd.prog 138 = 8 := by kernel_rfl
theorem cells_139 : Tryd.prog.cellsOf 139 = 1 := by kernel_rfl
theorem ti_139 : TI Tryd.prog 139 = some (false, 1) := by kernel_rfl
theorem zv_139 : ZV Tryd.prog 139 = some (.any) := by kernel_rfl
theorem zok_139 : ZOk Tryd.prog 139 1 = true := by kernel_rfl
theorem by_139 : byOf Tryd.prog 139 = 8 := by kernel_rfl
theorem cells_140 : Tryd.prog.cellsOf 140 = 1 := by kernel_rfl
theorem ti_140 : TI Tryd.prog 140 = some (false, 1) := by kernel_rfl
theorem isPtr_140 : isPtr Tryd.prog 140 = true := by kernel_rfl
theorem zv_140 : ZV Tryd.prog 140 = some (.nilp) := by kernel_rfl
theorem zok_140 : ZOk Tryd.prog 140 1 = true := by kernel_rfl
theorem by_140 : byOf Tryd.prog 140 = 8 := by kernel_rfl
theorem cells_141 : Tryd.prog.cellsOf 141 = 1 := by kernel_rfl
theorem ti_141 : TI Tryd.prog 141 = some (false, 1) := by kernel_rfl
theorem zv_141 : ZV Tryd.prog 141 = some (.any) := by kernel_rfl
theorem zok_141 : ZOk Tryd.prog 141 1 = true := by kernel_rfl
theorem by_141 : byOf Tryd.prog 141 = 8 := by kernel_rfl
theorem cells_142 : Tryd.prog.cellsOf 142 = 2 := by kernel_rfl
theorem ti_142 : TI Tryd.prog 142 = some (true, 2) := by kernel_rfl
theorem fi_142_0 : FI Tryd.prog 142 0 = some (0, (false, 1)) := by kernel_rfl
theorem fi_142_1 : FI Tryd.prog 142 1 = some (1, (false, 1)) := by kernel_rfl
theorem si_142 : SI Tryd.prog 142 = some [(0, 1), (1, 1)] := by kernel_rfl
theorem zv_142 : ZV Tryd.prog 142 = some (.agg [.nilp, .str []]) := by kernel_rfl
theorem zok_142 : ZOk Tryd.prog 142 2 = true := by kernel_rfl
theorem by_142 : byOf Tryd.prog 142 = 24 := by kernel_rfl
theorem cells_143 : Tryd.prog.cellsOf 143 = 2 := by kernel_rfl
theorem ti_143 : TI Tryd.prog 143 = some (true, 2) := by kernel_rfl
theorem fi_143_0 : FI Tryd.prog 143 0 = some (0, (false, 1)) := by kernel_rfl
theorem fi_143_1 : FI Tryd.prog 143 1 = some (1, (false, 1)) := by kernel_rfl
theorem si_143 : SI Tryd.prog 143 = some [(0, 1), (1, 1)] := by kernel_rfl
theorem zv_143 : ZV Tryd.prog 143 = some (.agg [.nilp, .str []]) := by kernel_rfl
theorem zok_143 : ZOk Tryd.prog 143 2 = true := by kernel_rfl
theorem by_143 : byOf Tryd.prog 143 = 24 := by kernel_rfl
theorem cells_144 : Tryd.prog.cellsOf 144 = 1 := by kernel_rfl
theorem ti_144 : TI Tryd.prog 144 = some (false, 1) := by kernel_rfl
theorem isPtr_144 : isPtr Tryd.prog 144 = true := by kernel_rfl
theorem zv_144 : ZV Tryd.prog 144 = some (.nilp) := by kernel_rfl
theorem zok_144 : ZOk Tryd.prog 144 1 = true := by kernel_rfl
theorem by_144 : byOf Tryd.prog 144 = 8 := by kernel_rfl
theorem cells_145 : Tryd.prog.cellsOf 145 = 1 := by kernel_rfl
theorem ti_145 : TI Tryd.prog 145 = some (false, 1) := by kernel_rfl
theorem ei_145 : EI Tryd.prog 145 = some (144, 1) := by kernel_rfl
theorem isSli_145 : isSli Tryd.prog 145 = true := by kernel_rfl
theorem notInt_145 : notInt Tryd.prog 145 = true := by kernel_rfl
theorem zv_145 : ZV Tryd.prog 145 = some (.nils) := by kernel_rfl
theorem zok_145 : ZOk Tryd.prog 145 1 = true := by kernel_rfl
theorem by_145 : byOf Tryd.prog 145 = 24 := by kernel_rfl
theorem cells_146 : Tryd.prog.cellsOf 146 = 5 := by kernel_rfl
theorem ti_146 : TI Tryd.prog 146 = some (true, 5) := by kernel_rfl
theorem fi_146_0 : FI Tryd.prog 146 0 = some (0, (false, 1)) := by kernel_rfl
theorem fi_146_1 : FI Tryd.prog 146 1 = some (1, (false, 1)) := by kernel_rfl
theorem fi_146_2 : FI Tryd.prog 146 2 = some (2, (false, 1)) := by kernel_rfl
theorem fi_146_3 : FI Tryd.prog 146 3 = some (3, (false, 1)) := by kernel_rfl
theorem fi_146_4 : FI Tryd.prog 146 4 = some (4, (false, 1)) := by kernel_rfl
theorem si_146 : SI Tryd.prog 146 = some [(0, 1), (1, 1), (2, 1), (3, 1), (4, 1)] := by kernel_rfl
theorem zv_146 : ZV Tryd.prog 146 = some (.agg [.str [], .int .i64 0, .str [], .nilp, .nils]) := by kernel_rfl
theorem zok_146 : ZOk Tryd.prog 146 5 = true := by kernel_rfl
theorem by_146 : byOf Tryd.prog 146 = 72 := by kernel_rfl
theorem cells_147 : Tryd.prog.cellsOf 147 = 5 := by kernel_rfl
theorem ti_147 : TI Tryd.prog 147 = some (true, 5) := by kernel_rfl
theorem fi_147_0 : FI Tryd.prog 147 0 = some (0, (false, 1)) := by kernel_rfl
theorem fi_147_1 : FI Tryd.prog 147 1 = some (1, (false, 1)) := by kernel_rfl
theorem fi_147_2 : FI Tryd.prog 147 2 = some (2, (false, 1)) := by kernel_rfl
theorem fi_147_3 : FI Tryd.prog 147 3 = some (3, (false, 1)) := by kernel_rfl
theorem fi_147_4 : FI Tryd.prog 147 4 = some (4, (false, 1)) := by kernel_rfl
theorem si_147 : SI Tryd.prog 147 = some [(0, 1), (1, 1), (2, 1), (3, 1), (4, 1)] := by kernel_rfl
theorem zv_147 : ZV Tryd.prog 147 = some (.agg [.str [], .int .i64 0, .str [], .nilp, .nils]) := by kernel_rfl
theorem zok_147 : ZOk Tryd.prog 147 5 = true := by kernel_rfl
theorem by_147 : byOf Tryd.prog 147 = 72 := by kernel_rfl
theorem cells_148 : Tryd.prog.cellsOf 148 = 262 := by kernel_rfl
theorem ti_148 : TI Tryd.prog 148 = some (true, 262) := by kernel_rfl
theorem fi_148_0 : FI Tryd.prog 148 0 = some (0, (true, 5)) := by kernel_rfl
theorem fi_148_1 : FI Tryd.prog 148 1 = some (5, (false, 1)) := by kernel_rfl
theorem fi_148_2 : FI Tryd.prog 148 2 = some (6, (true, 256)) := by kernel_rfl
theorem si_148 : SI Tryd.prog 148 = some [(0, 5), (5, 1), (6, 256)] := by kernel_rfl
theorem zv_148 : ZV Tryd.prog 148 = some (.agg [.str [], .int .i64 0, .str [], .nilp, .nils, .int .i64 0, .int .u8 0, .int .u8 0, .int .u8 0, .int .u8 0, .int .u8 0, .int .u8 0, .int .u8 0, .int .u8 0, .int .u8 0, .int .u8 0, .int .u8 0, .int .u8 0, .int .u8 0, .int .u8 0, .int .u8 0, .int .u8 0, .int .u8 0, .int .u8 0, .int .u8 0, .int .u8 0, .int .u8 0, .int .u8 0, .int .u8 0, .int .u8 0, .int .u8 0, .int .u8 0, .int .u8 0, .int .u8 0, .int .u8 0, .int .u8 0, .int .u8 0, .int .u8 0, .int .u8 0, .int .u8 0, .int .u8 0, .int .u8 0, .int .u8 0, .int .u8 0, .int .u8 0, .int .u8 0, .int .u8 0, .int .u8 0, .int .u8 0, .int .u8 0, .int .u8 0, .int .u8 0, .int .u8 0, .int .u8 0, .int .u8 0, .int .u8 0, .int .u8 0, .int .u8 0, .int .u8 0, .int .u8 0, .int .u8 0, .int .u8 0, .int .u8 0, .int .u8 0, .int .u8 0, .int .u8 0, .int .u8 0, .int .u8 0, .int .u8 0, .int .u8 0, .int .u8 0, .int .u8 0, .int .u8 0, .int .u8 0, .int .u8 0, .int .u8 0, .int .u8 0, .int .u8 0, .int .u8 0, .int .u8 0, .int .u8 0, .int .u8 0, .int .u8 0, .int .u8 0, .int .u8 0, .int .u8 0, .int .u8 0, .int .u8 0, .int .u8 0, .int .u8 0, .int .u8 0, .int .u8 0, .int .u8 0, .int .u8 0, .int .u8 0, .int .u8 0, .int .u8 0, .int .u8 0, .int .u8 0, .int .u8 0, .int .u8 0, .int .u8 0, .int .u8 0, .int .u8 0, .int .u8 0, .int .u8 0, .int .u8 0, .int .u8 0, .int .u8 0, .int .u8 0, .int .u8 0, .int .u8 0, .int .u8 0, .int .u8 0, .int .u8 0, .int .u8 0, .int .u8 0, .int .u8 0, .int .u8 0, .int .u8 0, .int .u8 0, .int .u8 0, .int .u8 0, .int .u8 0, .int .u8 0, .int .u8 0, .int .u8 0, .int .u8 0, .int .u8 0, .int .u8 0, .int .u8 0, .int .u8 0, .int .u8 0, .int .u8 0, .int .u8 0, .int .u8 0, .int .u8 0, .int .u8 0, .int .u8 0, .int .u8 0, .int .u8 0, .int .u8 0, .int .u8 0, .int .u8 0, .int .u8 0, .int .u8 0, .int .u8 0, .int .u8 0, .int .u8 0, .int .u8 0, .int .u8 0, .int .u8 0, .int .u8 0, .int .u8 0, .int .u8 0, .int .u8 0, .int .u8 0, .int .u8 0, .int .u8 0, .int .u8 0, .int .u8 0, .int .u8 0, .int .u8 0, .int .u8 0, .int .u8 0, .int .u8 0, .int .u8 0, .int .u8 0, .int .u8 0, .int .u8 0, .int .u8 0, .int .u8 0, .int .u8 0, .int .u8 0, .int .u8 0, .int .u8 0, .int .u8 0, .int .u8 0, .int .u8 0, .int .u8 0, .int .u8 0, .int .u8 0, .int .u8 0, .int .u8 0, .int .u8 0, .int .u8 0, .int .u8 0, .int .u8 0, .int .u8 0, .int .u8 0, .int .u8 0, .int .u8 0, .int .u8 0, .int .u8 0, .int .u8 0, .int .u8 0, .int .u8 0, .int .u8 0, .int .u8 0, .int .u8 0, .int .u8 0, .int .u8 0, .int .u8 0, .int .u8 0, .int .u8 0, .int .u8 0, .int .u8 0, .int .u8 0, .int .u8 0, .int .u8 0, .int .u8 0, .int .u8 0, .int .u8 0, .int .u8 0, .int .u8 0, .int .u8 0, .int .u8 0, .int .u8 0, .int .u8 0, .int .u8 0, .int .u8 0, .int .u8 0, .int .u8 0, .int .u8 0, .int .u8 0, .int .u8 0, .int .u8 0, .int .u8 0, .int .u8 0, .int .u8 0, .int .u8 0, .int .u8 0, .int .u8 0, .int .u8 0, .int .u8 0, .int .u8 0, .int .u8 0, .int .u8 0, .int .u8 0, .int .u8 0, .int .u8 0, .int .u8 0, .int .u8 0, .int .u8 0, .int .u8 0, .int .u8 0, .int .u8 0, .int .u8 0, .int .u8 0, .int .u8 0, .int .u8 0, .int .u8 0, .int .u8 0, .int .u8 0, .int .u8 0, .int .u8 0, .int .u8 0, .int .u8 0, .int .u8 0, .int .u8 0, .int .u8 0, .int .u8 0]) := by kernel_rfl
theorem zok_148 : ZOk Tryd.prog 148 262 = true := by kernel_rfl
theorem by_148 : byOf Tryd.prog 148 = 336 := by kernel_rfl
theorem cells_149 : Tryd.prog.cellsOf 149 = 262 := by kernel_rfl
theorem ti_149 : TI Tryd.prog 149 = some (true, 262) := by kernel_rfl
theorem fi_149_0 : FI Tryd.prog 149 0 = some (0, (true, 5)) := by kernel_rfl
theorem fi_149_1 : FI Tryd.prog 149 1 = some (5, (false, 1)) := by kernel_rfl
theorem fi_149_2 : FI Tryd.prog 149 2 = some (6, (true, 256)) := by kernel_rfl
theorem si_149 : SI Tryd.prog 149 = some [(0, 5), (5, 1), (6, 256)] := by kernel_rfl
theorem zv_149 : ZV Tryd.prog 149 = some (.agg [.str [], .int .i64 0, .str [], .nilp, .nils, .int .i64 0, .int .u8 0, .int .u8 0, .int .u8 0, .int .u8 0, .int .u8 0, .int .u8 0, .int .u8 0, .int .u8 0, .int .u8 0, .int .u8 0, .int .u8 0, .int .u8 0, .int .u8 0, .int .u8 0, .int .u8 0, .int .u8 0, .int .u8 0, .int .u8 0, .int .u8 0, .int .u8 0, .int .u8 0, .int .u8 0, .int .u8 0, .int .u8 0, .int .u8 0, .int .u8 0, .int .u8 0, .int .u8 0, .int .u8 0, .int .u8 0, .int .u8 0, .int .u8 0, .int .u8 0, .int .u8 0, .int .u8 0, .int .u8 0, .int .u8 0, .int .u8 0, .int .u8 0, .int .u8 0, .int .u8 0, .int .u8 0, .int .u8 0, .int .u8 0, .int .u8 0, .int .u8 0, .int .u8 0, .int .u8 0, .int .u8 0, .int .u8 0, .int .u8 0, .int .u8 0, .int .u8 0, .int .u8 0, .int .u8 0, .int .u8 0, .int .u8 0, .int .u8 0, .int .u8 0, .int .u8 0, .int .u8 0, .int .u8 0, .int .u8 0, .int .u8 0, .int .u8 0, .int .u8 0, .int .u8 0, .int .u8 0, .int .u8 0, .int .u8 0, .int .u8 0, .int .u8 0, .int .u8 0, .int .u8 0, .int .u8 0, .int .u8 0, .int .u8 0, .int .u8 0, .int .u8 0, .int .u8 0, .int .u8 0, .int .u8 0, .int .u8 0, .int .u8 0, .int .u8 0, .int .u8 0, .int .u8 0, .int .u8 0, .int .u8 0, .int .u8 0, .int .u8 0, .int .u8 0, .int .u8 0, .int .u8 0, .int .u8 0, .int .u8 0, .int .u8 0, .int .u8 0, .int .u8 0, .int .u8 0, .int .u8 0, .int .u8 0, .int .u8 0, .int .u8 0, .int .u8 0, .int .u8 0, .int .u8 0, .int .u8 0, .int .u8 0, .int .u8 0, .int .u8 0, .int .u8 0, .int .u8 0, .int .u8 0, .int .u8 0, .int .u8 0, .int .u8 0, .int .u8 0, .int .u8 0, .int .u8 0, .int .u8 0, .int .u8 0, .int .u8 0, .int .u8 0, .int .u8 0, .int .u8 0, .int .u8 0, .int .u8 0, .int .u8 0, .int .u8 0, .int .u8 0, .int .u8 0, .int .u8 0, .int .u8 0, .int .u8 0, .int .u8 0, .int .u8 0, .int .u8 0, .int .u8 0, .int .u8 0, .int .u8 0, .int .u8 0, .int .u8 0, .int .u8 0, .int .u8 0, .int .u8 0, .int .u8 0, .int .u8 0, .int .u8 0, .int .u8 0, .int .u8 0, .int .u8 0, .int .u8 0, .int .u8 0, .int .u8 0, .int .u8 0, .int .u8 0, .int .u8 0, .int .u8 0, .int .u8 0, .int .u8 0, .int .u8 0, .int .u8 0, .int .u8 0, .int .u8 0, .int .u8 0, .int .u8 0, .int .u8 0, .int .u8 0, .int .u8 0, .int .u8 0, .int .u8 0, .int .u8 0, .int .u8 0, .int .u8 0, .int .u8 0, .int .u8 0, .int .u8 0, .int .u8 0, .int .u8 0, .int .u8 0, .int .u8 0, .int .u8 0, .int .u8 0, .int .u8 0, .int .u8 0, .int .u8 0, .int .u8 0, .int .u8 0, .int .u8 0, .int .u8 0, .int .u8 0, .int .u8 0, .int .u8 0, .int .u8 0, .int .u8 0, .int .u8 0, .int .u8 0, .int .u8 0, .int .u8 0, .int .u8 0, .int .u8 0, .int .u8 0, .int .u8 0, .int .u8 0, .int .u8 0, .int .u8 0, .int .u8 0, .int .u8 0, .int .u8 0, .int .u8 0, .int .u8 0, .int .u8 0, .int .u8 0, .int .u8 0, .int .u8 0, .int .u8 0, .int .u8 0, .int .u8 0, .int .u8 0, .int .u8 0, .int .u8 0, .int .u8 0, .int .u8 0, .int .u8 0, .int .u8 0, .int .u8 0, .int .u8 0, .int .u8 0, .int .u8 0, .int .u8 0, .int .u8 0, .int .u8 0, .int .u8 0, .int .u8 0, .int .u8 0, .int .u8 0, .int .u8 0, .int .u8 0, .int .u8 0, .int .u8 0, .int .u8 0, .int .u8 0, .int .u8 0, .int .u8 0, .int .u8 0, .int .u8 0, .int .u8 0, .int .u8 0, .int .u8 0, .int .u8 0, .int .u8 0, .int .u8 0, .int .u8 0, .int .u8 0, .int .u8 0]) := by kernel_rfl
theorem zok_149 : ZOk Tryd.prog 149 262 = true := by kernel_rfl
theorem by_149 : byOf Tryd.prog 149 = 336 := by kernel_rfl
theorem cells_150 : Tryd.prog.cellsOf 150 = 1 := by kernel_rfl
theorem ti_150 : TI Tryd.prog 150 = some (false, 1) := by kernel_rfl
theorem zv_150 : ZV Tryd.prog 150 = some (.any) := by kernel_rfl
theorem zok_150 : ZOk Tryd.prog 150 1 = true := by kernel_rfl
theorem by_150 : byOf Tryd.prog 150 = 8 := by kernel_rfl
theorem cells_151 : Tryd.prog.cellsOf 151 = 1 := by kernel_rfl
theorem ti_151 : TI Tryd.prog 151 = some (false, 1) := by kernel_rfl
theorem intK_151 : intK Tryd.prog 151 = some .i64 := by kernel_rfl
theorem un_151 : Tryd.prog.underlying 151 = some (.int .i64) := by kernel_rfl
theorem zv_151 : ZV Tryd.prog 151 = some (.int .i64 0) := by kernel_rfl
theorem zok_151 : ZOk Tryd.prog 151 1 = true := by kernel_rfl
theorem by_151 : byOf Tryd.prog 151 = 8 := by kernel_rfl
theorem cells_152 : Tryd.prog.cellsOf 152 = 1 := by kernel_rfl
theorem ti_152 : TI Tryd.prog 152 = some (false, 1) := by kernel_rfl
theorem intK_152 : intK Tryd.prog 152 = some .u64 := by kernel_rfl
theorem un_152 : Tryd.prog.underlying 152 = some (.int .u64) := by kernel_rfl
theorem zv_152 : ZV Tryd.prog 152 = some (.int .u64 0) := by kernel_rfl
theorem zok_152 : ZOk Tryd.prog 152 1 = true := by kernel_rfl
theorem by_152 : byOf Tryd.prog 152 = 8 := by kernel_rfl
theorem cells_154 : Tryd.prog.cellsOf 154 = 1 := by kernel_rfl
theorem ti_154 : TI Tryd.prog 154 = some (false, 1) := by kernel_rfl
theorem zv_154 : ZV Tryd.prog 154 = some (.any) := by kernel_rfl
theorem zok_154 : ZOk Tryd.prog 154 1 = true := by kernel_rfl
theorem by_154 : byOf Tryd.prog 154 = 8 := by kernel_rfl
theorem cells_155 : Tryd.prog.cellsOf 155 = 1 := by kernel_rfl
theorem ti_155 : TI Tryd.prog 155 = some (false, 1) := by kernel_rfl
theorem isPtr_155 : isPtr Tryd.prog 155 = true := by kernel_rfl
theorem zv_155 : ZV Tryd.prog 155 = some (.nilp) := by kernel_rfl
theorem zok_155 : ZOk Tryd.prog 155 1 = true := by kernel_rfl
theorem by_155 : byOf Tryd.prog 155 = 8 := by kernel_rfl
theorem cells_156 : Tryd.prog.cellsOf 156 = 1 := by kernel_rfl
theorem ti_156 : TI Tryd.prog 156 = some (false, 1) := by kernel_rfl
theorem zv_156 : ZV Tryd.prog 156 = some (.any) := by kernel_rfl
theorem zok_156 : ZOk Tryd.prog 156 1 = true := by kernel_rfl
theorem by_156 : byOf Tryd.prog 156 = 8 := by kernel_rfl
theorem cells_157 : Tryd.prog.cellsOf 157 = 1 := by kernel_rfl
theorem ti_157 : TI Tryd.prog 157 = some (false, 1) := by kernel_rfl
theorem zv_157 : ZV Tryd.prog 157 = some (.any) := by kernel_rfl
theorem zok_157 : ZOk Tryd.prog 157 1 = true := by kernel_rfl
theorem by_157 : byOf Tryd.prog 157 = 8 := by kernel_rfl
theorem cells_159 : Tryd.prog.cellsOf 159 = 1 := by kernel_rfl
theorem ti_159 : TI Tryd.prog 159 = some (false, 1) := by kernel_rfl
theorem zv_159 : ZV Tryd.prog 159 = some (.any) := by kernel_rfl
theorem zok_159 : ZOk Tryd.prog 159 1 = true := by kernel_rfl
theorem by_159 : byOf Tryd.prog 159 = 8 := by kernel_rfl
theorem cells_160 : Tryd.prog.cellsOf 160 = 1 := by kernel_rfl
theorem ti_160 : TI Tryd.prog 160 = some (false, 1) := by kernel_rfl
theorem isPtr_160 : isPtr Tryd.prog 160 = true := by kernel_rfl
theorem zv_160 : ZV Tryd.prog 160 = some (.nilp) := by kernel_rfl
theorem zok_160 : ZOk Tryd.prog 160 1 = true := by kernel_rfl
theorem by_160 : byOf Tryd.prog 160 = 8 := by kernel_rfl
theorem cells_161 : Tryd.prog.cellsOf 161 = 1 := by kernel_rfl
theorem ti_161 : TI Tryd.prog 161 = some (false, 1) := by kernel_rfl
theorem zv_161 : ZV Tryd.prog 161 = some (.any) := by kernel_rfl
theorem zok_161 : ZOk Tryd.prog 161 1 = true := by kernel_rfl
theorem by_161 : byOf Tryd.prog 161 = 8 := by kernel_rfl
theorem cells_162 : Tryd.prog.cellsOf 162 = 1 := by kernel_rfl
theorem ti_162 : TI Tryd.prog 162 = some (false, 1) := by kernel_rfl
theorem isPtr_162 : isPtr Tryd.prog 162 = true := by kernel_rfl
theorem zv_162 : ZV Tryd.prog 162 = some (.nilp) := by kernel_rfl
theorem zok_162 : ZOk Tryd.prog 162 1 = true := by kernel_rfl
theorem by_162 : byOf Tryd.prog 162 = 8 := by kernel_rfl
theorem cells_164 : Tryd.prog.cellsOf 164 = 1 := by kernel_rfl
theorem ti_164 : TI Tryd.prog 164 = some (false, 1) := by kernel_rfl
theorem zv_164 : ZV Tryd.prog 164 = some (.any) := by kernel_rfl
theorem zok_164 : ZOk Tryd.prog 164 1 = true := by kernel_rfl
theorem by_164 : byOf Tryd.prog 164 = 8 := by kernel_rfl
theorem cells_165 : Tryd.prog.cellsOf 165 = 1 := by kernel_rfl
theorem ti_165 : TI Tryd.prog 165 = some (false, 1) := by kernel_rfl
theorem zv_165 : ZV Tryd.prog 165 = some (.any) := by kernel_rfl
theorem zok_165 : ZOk Tryd.prog 165 1 = true := by kernel_rfl
theorem by_165 : byOf Tryd.prog 165 = 8 := by kernel_rfl
theorem cells_166 : Tryd.prog.cellsOf 166 = 256 := by kernel_rfl
theorem ti_166 : TI Tryd.prog 166 = some (true, 256) := by kernel_rfl
theorem ai_166 : AI Tryd.prog 166 = some (256, (false, 1)) := by kernel_rfl
theorem zv_166 : ZV Tryd.prog 166 = some (.agg [.int .i64 0, .int .i64 0, .int .i64 0, .int .i64 0, .int .i64 0, .int .i64 0, .int .i64 0, .int .i64 0, .int .i64 0, .int .i64 0, .int .i64 0, .int .i64 0, .int .i64 0, .int .i64 0, .int .i64 0, .int .i64 0, .int .i64 0, .int .i64 0, .int .i64 0, .int .i64 0, .int .i64 0, .int .i64 0, .int .i64 0, .int .i64 0, .int .i64 0, .int .i64 0, .int .i64 0, .int .i64 0, .int .i64 0, .int .i64 0, .int .i64 0, .int .i64 0, .int .i64 0, .int .i64 0, .int .i64 0, .int .i64 0, .int .i64 0, .int .i64 0, .int .i64 0, .int .i64 0, .int .i64 0, .int .i64 0, .int .i64 0, .int .i64 0, .int .i64 0, .int .i64 0, .int .i64 0, .int .i64 0, .int .i64 0, .int .i64 0, .int .i64 0, .int .i64 0, .int .i64 0, .int .i64 0, .int .i64 0, .int .i64 0, .int .i64 0, .int .i64 0, .int .i64 0, .int .i64 0, .int .i64 0, .int .i64 0, .int .i64 0, .int .i64 0, .int .i64 0, .int .i64 0, .int .i64 0, .int .i64 0, .int .i64 0, .int .i64 0, .int .i64 0, .int .i64 0, .int .i64 0, .int .i64 0, .int .i64 0, .int .i64 0, .int .i64 0, .int .i64 0, .int .i64 0, .int .i64 0, .int .i64 0, .int .i64 0, .int .i64 0, .int .i64 0, .int .i64 0, .int .i64 0, .int .i64 0, .int .i64 0, .int .i64 0, .int .i64 0, .int .i64 0, .int .i64 0, .int .i64 0, .int .i64 0, .int .i64 0, .int .i64 0, .int .i64 0, .int .i64 0, .int .i64 0, .int .i64 0, .int .i64 0, .int .i64 0, .int .i64 0, .int .i64 0, .int .i64 0, .int .i64 0, .int .i64 0, .int .i64 0, .int .i64 0, .int .i64 0, .int .i64 0, .int .i64 0, .int .i64 0, .int .i64 0, .int .i64 0, .int .i64 0, .int .i64 0, .int .i64 0, .int .i64 0, .int .i64 0, .int .i64 0, .int .i64 0, .int .i64 0, .int .i64 0, .int .i64 0, .int .i64 0, .int .i64 0, .int .i64 0, .int .i64 0, .int .i64 0, .int .i64 0, .int .i64 0, .int .i64 0, .int .i64 0, .int .i64 0, .int .i64 0, .int .i64 0, .int .i64 0, .int .i64 0, .int .i64 0, .int .i64 0, .int .i64 0, .int .i64 0, .int .i64 0, .int .i64 0, .int .i64 0, .int .i64 0, .int .i64 0, .int .i64 0, .int .i64 0, .int .i64 0, .int .i64 0, .int .i64 0, .int .i64 0, .int .i64 0, .int .i64 0, .int .i64 0, .int .i64 0, .int .i64 0, .int .i64 0, .int .i64 0, .int .i64 0, .int .i64 0, .int .i64 0, .int .i64 0, .int .i64 0, .int .i64 0, .int .i64 0, .int .i64 0, .int .i64 0, .int .i64 0, .int .i64 0, .int .i64 0, .int .i64 0, .int .i64 0, .int .i64 0, .int .i64 0, .int .i64 0, .int .i64 0, .int .i64 0, .int .i64 0, .int .i64 0, .int .i64 0, .int .i64 0, .int .i64 0, .int .i64 0, .int .i64 0, .int .i64 0, .int .i64 0, .int .i64 0, .int .i64 0, .int .i64 0, .int .i64 0, .int .i64 0, .int .i64 0, .int .i64 0, .int .i64 0, .int .i64 0, .int .i64 0, .int .i64 0, .int .i64 0, .int .i64 0, .int .i64 0, .int .i64 0, .int .i64 0, .int .i64 0, .int .i64 0, .int .i64 0, .int .i64 0, .int .i64 0, .int .i64 0, .int .i64 0, .int .i64 0, .int .i64 0, .int .i64 0, .int .i64 0, .int .i64 0, .int .i64 0, .int .i64 0, .int .i64 0, .int .i64 0, .int .i64 0, .int .i64 0, .int .i64 0, .int .i64 0, .int .i64 0, .int .i64 0, .int .i64 0, .int .i64 0, .int .i64 0, .int .i64 0, .int .i64 0, .int .i64 0, .int .i64 0, .int .i64 0, .int .i64 0, .int .i64 0, .int .i64 0, .int .i64 0, .int .i64 0, .int .i64 0, .int .i64 0, .int .i64 0, .int .i64 0, .int .i64 0, .int .i64 0, .int .i64 0, .int .i64 0, .int .i64 0, .int .i64 0, .int .i64 0, .int .i64 0, .int .i64 0, .int .i64 0, .int .i64 0, .int .i64 0]) := by kernel_rfl
theorem zok_166 : ZOk Tryd.prog 166 256 = true := by kernel_rfl
theorem by_166 : byOf Tryd.prog 166 = 2048 := by kernel_rfl
theorem cells_167 : Tryd.prog.cellsOf 167 = 258 := by kernel_rfl
theorem ti_167 : TI Tryd.prog 167 = some (true, 258) := by kernel_rfl
theorem fi_167_0 : FI Tryd.prog 167 0 = some (0, (false, 1)) := by kernel_rfl
theorem fi_167_1 : FI Tryd.prog 167 1 = some (1, (true, 256)) := by kernel_rfl
theorem fi_167_2 : FI Tryd.prog 167 2 = some (257, (false, 1)) := by kernel_rfl
theorem si_167 : SI Tryd.prog 167 = some [(0, 1), (1, 256), (257, 1)] := by kernel_rfl
theorem zv_167 : ZV Tryd.prog 167 = some (.agg [.str [], .int .i64 0, .int .i64 0, .int .i64 0, .int .i64 0, .int .i64 0, .int .i64 0, .int .i64 0, .int .i64 0, .int .i64 0, .int .i64 0, .int .i64 0, .int .i64 0, .int .i64 0, .int .i64 0, .int .i64 0, .int .i64 0, .int .i64 0, .int .i64 0, .int .i64 0, .int .i64 0, .int .i64 0, .int .i64 0, .int .i64 0, .int .i64 0, .int .i64 0, .int .i64 0, .int .i64 0, .int .i64 0, .int .i64 0, .int .i64 0, .int .i64 0, .int .i64 0, .int .i64 0, .int .i64 0, .int .i64 0, .int .i64 0, .int .i64 0, .int .i64 0, .int .i64 0, .int .i64 0, .int .i64 0, .int .i64 0, .int .i64 0, .int .i64 0, .int .i64 0, .int .i64 0, .int .i64 0, .int .i64 0, .int .i64 0, .int .i64 0, .int .i64 0, .int .i64 0, .int .i64 0, .int .i64 0, .int .i64 0, .int .i64 0, .int .i64 0, .int .i64 0, .int .i64 0, .int .i64 0, .int .i64 0, .int .i64 0, .int .i64 0, .int .i64 0, .int .i64 0, .int .i64 0, .int .i64 0, .int .i64 0, .int .i64 0, .int .i64 0, .int .i64 0, .int .i64 0, .int .i64 0, .int .i64 0, .int .i64 0, .int .i64 0, .int .i64 0, .int .i64 0, .int .i64 0, .int .i64 0, .int .i64 0, .int .i64 0, .int .i64 0, .int .i64 0, .int .i64 0, .int .i64 0, .int .i64 0, .int .i64 0, .int .i64 0, .int .i64 0, .int .i64 0, .int .i64 0, .int .i64 0, .int .i64 0, .int .i64 0, .int .i64 0, .int .i64 0, .int .i64 0, .int .i64 0, .int .i64 0, .int .i64 0, .int .i64 0, .int .i64 0, .int .i64 0, .int .i64 0, .int .i64 0, .int .i64 0, .int .i64 0, .int .i64 0, .int .i64 0, .int .i64 0, .int .i64 0, .int .i64 0, .int .i64 0, .int .i64 0, .int .i64 0, .int .i64 0, .int .i64 0, .int .i64 0, .int .i64 0, .int .i64 0, .int .i64 0, .int .i64 0, .int .i64 0, .int .i64 0, .int .i64 0, .int .i64 0, .int .i64 0, .int .i64 0, .int .i64 0, .int .i64 0, .int .i64 0, .int .i64 0, .int .i64 0, .int .i64 0, .int .i64 0, .int .i64 0, .int .i64 0, .int .i64 0, .int .i64 0, .int .i64 0, .int .i64 0, .int .i64 0, .int .i64 0, .int .i64 0, .int .i64 0, .int .i64 0, .int .i64 0, .int .i64 0, .int .i64 0, .int .i64 0, .int .i64 0, .int .i64 0, .int .i64 0, .int .i64 0, .int .i64 0, .int .i64 0, .int .i64 0, .int .i64 0, .int .i64 0, .int .i64 0, .int .i64 0, .int .i64 0, .int .i64 0, .int .i64 0, .int .i64 0, .int .i64 0, .int .i64 0, .int .i64 0, .int .i64 0, .int .i64 0, .int .i64 0, .int .i64 0, .int .i64 0, .int .i64 0, .int .i64 0, .int .i64 0, .int .i64 0, .int .i64 0, .int .i64 0, .int .i64 0, .int .i64 0, .int .i64 0, .int .i64 0, .int .i64 0, .int .i64 0, .int .i64 0, .int .i64 0, .int .i64 0, .int .i64 0, .int .i64 0, .int .i64 0, .int .i64 0, .int .i64 0, .int .i64 0, .int .i64 0, .int .i64 0, .int .i64 0, .int .i64 0, .int .i64 0, .int .i64 0, .int .i64 0, .int .i64 0, .int .i64 0, .int .i64 0, .int .i64 0, .int .i64 0, .int .i64 0, .int .i64 0, .int .i64 0, .int .i64 0, .int .i64 0, .int .i64 0, .int .i64 0, .int .i64 0, .int .i64 0, .int .i64 0, .int .i64 0, .int .i64 0, .int .i64 0, .int .i64 0, .int .i64 0, .int .i64 0, .int .i64 0, .int .i64 0, .int .i64 0, .int .i64 0, .int .i64 0, .int .i64 0, .int .i64 0, .int .i64 0, .int .i64 0, .int .i64 0, .int .i64 0, .int .i64 0, .int .i64 0, .int .i64 0, .int .i64 0, .int .i64 0, .int .i64 0, .int .i64 0, .int .i64 0, .int .i64 0, .int .i64 0, .int .i64 0, .int .i64 0, .int .i64 0, .int .i64 0, .int .i64 0, .int .i64 0, .int .i64 0, .int .i64 0, .int .i64 0, .int .i64 0, .int .i64 0, .int .i64 0, .nils]) := by kernel_rfl
theorem zok_167 : ZOk Tryd.prog 167 258 = true := by kernel_rfl
theorem by_167 : byOf Tryd.prog 167 = 2088 := by kernel_rfl
theorem cells_168 : Tryd.prog.cellsOf 168 = 258 := by kernel_rfl
theorem ti_168 : TI Tryd.prog 168 = some (true, 258) := by kernel_rfl
theorem fi_168_0 : FI Tryd.prog 168 0 = some (0, (false, 1)) := by kernel_rfl
theorem fi_168_1 : FI Tryd.prog 168 1 = some (1, (true, 256)) := by kernel_rfl
theorem fi_168_2 : FI Tryd.prog 168 2 = some (257, (false, 1)) := by kernel_rfl
theorem si_168 : SI Tryd.prog 168 = some [(0, 1), (1, 256), (257, 1)] := by kernel_rfl
theorem zv_168 : ZV Tryd.prog 168 = some (.agg [.str [], .int .i64 0, .int .i64 0, .int .i64 0, .int .i64 0, .int .i64 0, .int .i64 0, .int .i64 0, .int .i64 0, .int .i64 0, .int .i64 0, .int .i64 0, .int .i64 0, .int .i64 0, .int .i64 0, .int .i64 0, .int .i64 0, .int .i64 0, .int .i64 0, .int .i64 0, .int .i64 0, .int .i64 0, .int .i64 0, .int .i64 0, .int .i64 0, .int .i64 0, .int .i64 0, .int .i64 0, .int .i64 0, .int .i64 0, .int .i64 0, .int .i64 0, .int .i64 0, .int .i64 0, .int .i64 0, .int .i64 0, .int .i64 0, .int .i64 0, .int .i64 0, .int .i64 0, .int .i64 0, .int .i64 0, .int .i64 0, .int .i64 0, .int .i64 0, .int .i64 0, .int .i64 0, .int .i64 0, .int .i64 0, .int .i64 0, .int .i64 0, .int .i64 0, .int .i64 0, .int .i64 0, .int .i64 0, .int .i64 0, .int .i64 0, .int .i64 0, .int .i64 0, .int .i64 0, .int .i64 0, .int .i64 0, .int .i64 0, .int .i64 0, .int .i64 0, .int .i64 0, .int .i64 0, .int .i64 0, .int .i64 0, .int .i64 0, .int .i64 0, .int .i64 0, .int .i64 0, .int .i64 0, .int .i64 0, .int .i64 0, .int .i64 0, .int .i64 0, .int .i64 0, .int .i64 0, .int .i64 0, .int .i64 0, .int .i64 0, .int .i64 0, .int .i64 0, .int .i64 0, .int .i64 0, .int .i64 0, .int .i64 0, .int .i64 0, .int .i64 0, .int .i64 0, .int .i64 0, .int .i64 0, .int .i64 0, .int .i64 0, .int .i64 0, .int .i64 0, .int .i64 0, .int .i64 0, .int .i64 0, .int .i64 0, .int .i64 0, .int .i64 0, .int .i64 0, .int .i64 0, .int .i64 0, .int .i64 0, .int .i64 0, .int .i64 0, .int .i64 0, .int .i64 0, .int .i64 0, .int .i64 0, .int .i64 0, .int .i64 0, .int .i64 0, .int .i64 0, .int .i64 0, .int .i64 0, .int .i64 0, .int .i64 0, .int .i64 0, .int .i64 0, .int .i64 0, .int .i64 0, .int .i64 0, .int .i64 0, .int .i64 0, .int .i64 0, .int .i64 0, .int .i64 0, .int .i64 0, .int .i64 0, .int .i64 0, .int .i64 0, .int .i64 0, .int .i64 0, .int .i64 0, .int .i64 0, .int .i64 0, .int .i64 0, .int .i64 0, .int .i64 0, .int .i64 0, .int .i64 0, .int .i64 0, .int .i64 0, .int .i64 0, .int .i64 0, .int .i64 0, .int .i64 0, .int .i64 0, .int .i64 0, .int .i64 0, .int .i64 0, .int .i64 0, .int .i64 0, .int .i64 0, .int .i64 0, .int .i64 0, .int .i64 0, .int .i64 0, .int .i64 0, .int .i64 0, .int .i64 0, .int .i64 0, .int .i64 0, .int .i64 0, .int .i64 0, .int .i64 0, .int .i64 0, .int .i64 0, .int .i64 0, .int .i64 0, .int .i64 0, .int .i64 0, .int .i64 0, .int .i64 0, .int .i64 0, .int .i64 0, .int .i64 0, .int .i64 0, .int .i64 0, .int .i64 0, .int .i64 0, .int .i64 0, .int .i64 0, .int .i64 0, .int .i64 0, .int .i64 0, .int .i64 0, .int .i64 0, .int .i64 0, .int .i64 0, .int .i64 0, .int .i64 0, .int .i64 0, .int .i64 0, .int .i64 0, .int .i64 0, .int .i64 0, .int .i64 0, .int .i64 0, .int .i64 0, .int .i64 0, .int .i64 0, .int .i64 0, .int .i64 0, .int .i64 0, .int .i64 0, .int .i64 0, .int .i64 0, .int .i64 0, .int .i64 0, .int .i64 0, .int .i64 0, .int .i64 0, .int .i64 0, .int .i64 0, .int .i64 0, .int .i64 0, .int .i64 0, .int .i64 0, .int .i64 0, .int .i64 0, .int .i64 0, .int .i64 0, .int .i64 0, .int .i64 0, .int .i64 0, .int .i64 0, .int .i64 0, .int .i64 0, .int .i64 0, .int .i64 0, .int .i64 0, .int .i64 0, .int .i64 0, .int .i64 0, .int .i64 0, .int .i64 0, .int .i64 0, .int .i64 0, .int .i64 0, .int .i64 0, .int .i64 0, .int .i64 0, .int .i64 0, .int .i64 0, .int .i64 0, .int .i64 0, .int .i64 0, .int .i64 0, .int .i64 0, .int .i64 0, .int .i64 0, .nils]) := by kernel_rfl
theorem zok_168 : ZOk Tryd.prog 168 258 = true := by kernel_rfl
theorem by_168 : byOf Tryd.prog 168 = 2088 := by kernel_rfl
theorem cells_169 : Tryd.prog.cellsOf 169 = 1 := by kernel_rfl
theorem ti_169 : TI Tryd.prog 169 = some (false, 1) := by kernel_rfl
theorem zv_169 : ZV Tryd.prog 169 = some (.any) := by kernel_rfl
theorem zok_169 : ZOk Tryd.prog 169 1 = true := by kernel_rfl
theorem by_169 : byOf Tryd.prog 169 = 8 := by kernel_rfl
theorem cells_170 : Tryd.prog.cellsOf 170 = 3 := by kernel_rfl
theorem ti_170 : TI Tryd.prog 170 = some (true, 3) := by kernel_rfl
theorem fi_170_0 : FI Tryd.prog 170 0 = some (0, (false, 1)) := by kernel_rfl
theorem fi_170_1 : FI Tryd.prog 170 1 = some (1, (false, 1)) := by kernel_rfl
theorem fi_170_2 : FI Tryd.prog 170 2 = some (2, (false, 1)) := by kernel_rfl
theorem si_170 : SI Tryd.prog 170 = some [(0, 1), (1, 1), (2, 1)] := by kernel_rfl
theorem zv_170 : ZV Tryd.prog 170 = some (.agg [.str [], .str [], .nili]) := by kernel_rfl
theorem zok_170 : ZOk Tryd.prog 170 3 = true := by kernel_rfl
theorem by_170 : byOf Tryd.prog 170 = 48 := by kernel_rfl
theorem cells_171 : Tryd.prog.cellsOf 171 = 3 := by kernel_rfl
theorem ti_171 : TI Tryd.prog 171 = some (true, 3) := by kernel_rfl
theorem fi_171_0 : FI Tryd.prog 171 0 = some (0, (false, 1)) := by kernel_rfl
theorem fi_171_1 : FI Tryd.prog 171 1 = some (1, (false, 1)) := by kernel_rfl
theorem fi_171_2 : FI Tryd.prog 171 2 = some (2, (false, 1)) := by kernel_rfl
theorem si_171 : SI Tryd.prog 171 = some [(0, 1), (1, 1), (2, 1)] := by kernel_rfl
theorem zv_171 : ZV Tryd.prog 171 = some (.agg [.str [], .str [], .nili]) := by kernel_rfl
theorem zok_171 : ZOk Tryd.prog 171 3 = true := by kernel_rfl
theorem by_171 : byOf Tryd.prog 171 = 48 := by kernel_rfl
theorem cells_172 : Tryd.prog.cellsOf 172 = 1 := by kernel_rfl
theorem ti_172 : TI Tryd.prog 172 = some (false, 1) := by kernel_rfl
theorem zv_172 : ZV Tryd.prog 172 = some (.any) := by kernel_rfl
theorem zok_172 : ZOk Tryd.prog 172 1 = true := by kernel_rfl
theorem by_172 : byOf Tryd.prog 172 = 8 := by kernel_rfl
theorem cells_173 : Tryd.prog.cellsOf 173 = 1 := by kernel_rfl
theorem ti_173 : TI Tryd.prog 173 = some (false, 1) := by kernel_rfl
theorem zv_173 : ZV Tryd.prog 173 = some (.any) := by kernel_rfl
theorem zok_173 : ZOk Tryd.prog 173 1 = true := by kernel_rfl
theorem by_173 : byOf Tryd.prog 173 = 8 := by kernel_rfl
theorem cells_174 : Tryd.prog.cellsOf 174 = 1 := by kernel_rfl
theorem ti_174 : TI Tryd.prog 174 = some (false, 1) := by kernel_rfl
theorem zv_174 : ZV Tryd.prog 174 = some (.any) := by kernel_rfl
theorem zok_174 : ZOk Tryd.prog 174 1 = true := by kernel_rfl
theorem by_174 : byOf Tryd.prog 174 = 8 := by kernel_rfl
theorem cells_175 : Tryd.prog.cellsOf 175 = 1 := by kernel_rfl
theorem ti_175 : TI Tryd.prog 175 = some (false, 1) := by kernel_rfl
theorem zv_175 : ZV Tryd.prog 175 = some (.any) := by kernel_rfl
theorem zok_175 : ZOk Tryd.prog 175 1 = true := by kernel_rfl
theorem by_175 : byOf Tryd.prog 175 = 8 := by kernel_rfl
theorem cells_176 : Tryd.prog.cellsOf 176 = 1 := by kernel_rfl
theorem ti_176 : TI Tryd.prog 176 = some (false, 1) := by kernel_rfl
theorem isPtr_176 : isPtr Tryd.prog 176 = true := by kernel_rfl
theorem zv_176 : ZV Tryd.prog 176 = some (.nilp) := by kernel_rfl
theorem zok_176 : ZOk Tryd.prog 176 1 = true := by kernel_rfl
theorem by_176 : byOf Tryd.prog 176 = 8 := by kernel_rfl
theorem cells_177 : Tryd.prog.cellsOf 177 = 1 := by kernel_rfl
theorem ti_177 : TI Tryd.prog 177 = some (true, 1) := by kernel_rfl
theorem fi_177_0 : FI Tryd.prog 177 0 = some (0, (false, 1)) := by kernel_rfl
theorem si_177 : SI Tryd.prog 177 = some [(0, 1)] := by kernel_rfl
theorem zv_177 : ZV Tryd.prog 177 = some (.agg [.str []]) := by kernel_rfl
theorem zok_177 : ZOk Tryd.prog 177 1 = true := by kernel_rfl
theorem by_177 : byOf Tryd.prog 177 = 16 := by kernel_rfl
theorem cells_178 : Tryd.prog.cellsOf 178 = 1 := by kernel_rfl
theorem ti_178 : TI Tryd.prog 178 = some (true, 1) := by kernel_rfl
theorem fi_178_0 : FI Tryd.prog 178 0 = some (0, (false, 1)) := by kernel_rfl
theorem si_178 : SI Tryd.prog 178 = some [(0, 1)] := by kernel_rfl
theorem zv_178 : ZV Tryd.prog 178 = some (.agg [.str []]) := by kernel_rfl
theorem zok_178 : ZOk Tryd.prog 178 1 = true := by kernel_rfl
theorem by_178 : byOf Tryd.prog 178 = 16 := by kernel_rfl
theorem cells_179 : Tryd.prog.cellsOf 179 = 1 := by kernel_rfl
theorem ti_179 : TI Tryd.prog 179 = some (false, 1) := by kernel_rfl
theorem zv_179 : ZV Tryd.prog 179 = some (.any) := by kernel_rfl
theorem zok_179 : ZOk Tryd.prog 179 1 = true := by kernel_rfl
theorem by_179 : byOf Tryd.prog 179 = 8 := by kernel_rfl
theorem cells_180 : Tryd.prog.cellsOf 180 = 24 := by kernel_rfl
theorem ti_180 : TI Tryd.prog 180 = some (true, 24) := by kernel_rfl
theorem ai_180 : AI Tryd.prog 180 = some (24, (false, 1)) := by kernel_rfl
theorem zv_180 : ZV Tryd.prog 180 = some (.agg [.int .u8 0, .int .u8 0, .int .u8 0, .int .u8 0, .int .u8 0, .int .u8 0, .int .u8 0, .int .u8 0, .int .u8 0, .int .u8 0, .int .u8 0, .int .u8 0, .int .u8 0, .int .u8 0, .int .u8 0, .int .u8 0, .int .u8 0, .int .u8 0, .int .u8 0, .int .u8 0, .int .u8 0, .int .u8 0, .int .u8 0, .int .u8 0]) := by kernel_rfl
theorem zok_180 : ZOk Tryd.prog 180 24 = true := by kernel_rfl
theorem by_180 : byOf Tryd.prog 180 = 24 := by kernel_rfl
theorem cells_181 : Tryd.prog.cellsOf 181 = 1 := by kernel_rfl
theorem ti_181 : TI Tryd.prog 181 = some (false, 1) := by kernel_rfl
theorem zv_181 : ZV Tryd.prog 181 = some (.any) := by kernel_rfl
theorem zok_181 : ZOk Tryd.prog 181 1 = true := by kernel_rfl
theorem by_181 : byOf Tryd.prog 181 = 8 := by kernel_rfl
theorem cells_182 : Tryd.prog.cellsOf 182 = 1 := by kernel_rfl
theorem ti_182 : TI Tryd.prog 182 = some (false, 1) := by kernel_rfl
theorem zv_182 : ZV Tryd.prog 182 = some (.any) := by kernel_rfl
theorem zok_182 : ZOk Tryd.prog 182 1 = true := by kernel_rfl
theorem by_182 : byOf Tryd.prog 182 = 8 := by kernel_rfl
theorem cells_184 : Tryd.prog.cellsOf 184 = 1 := by kernel_rfl
theorem ti_184 : TI Tryd.prog 184 = some (false, 1) := by kernel_rfl
theorem zv_184 : ZV Tryd.prog 184 = some (.any) := by kernel_rfl
theorem zok_184 : ZOk Tryd.prog 184 1 = true := by kernel_rfl
theorem by_184 : byOf Tryd.prog 184 = 8 := by kernel_rfl
theorem cells_185 : Tryd.prog.cellsOf 185 = 1 := by kernel_rfl
theorem ti_185 : TI Tryd.prog 185 = some (false, 1) := by kernel_rfl
theorem zv_185 : ZV Tryd.prog 185 = some (.any) := by kernel_rfl
theorem zok_185 : ZOk Tryd.prog 185 1 = true := by kernel_rfl
theorem by_185 : byOf Tryd.prog 185 = 8 := by kernel_rfl
theorem cells_186 : Tryd.prog.cellsOf 186 = 20 := by kernel_rfl
theorem ti_186 : TI Tryd.prog 186 = some (true, 20) := by kernel_rfl
theorem ai_186 : AI Tryd.prog 186 = some (20, (false, 1)) := by kernel_rfl
theorem zv_186 : ZV Tryd.prog 186 = some (.agg [.int .u64 0, .int .u64 0, .int .u64 0, .int .u64 0, .int .u64 0, .int .u64 0, .int .u64 0, .int .u64 0, .int .u64 0, .int .u64 0, .int .u64 0, .int .u64 0, .int .u64 0, .int .u64 0, .int .u64 0, .int .u64 0, .int .u64 0, .int .u64 0, .int .u64 0, .int .u64 0]) := by kernel_rfl
theorem zok_186 : ZOk Tryd.prog 186 20 = true := by kernel_rfl
theorem by_186 : byOf Tryd.prog 186 = 160 := by kernel_rfl
theorem cells_187 : Tryd.prog.cellsOf 187 = 65 := by kernel_rfl
theorem ti_187 : TI Tryd.prog 187 = some (true, 65) := by kernel_rfl
theorem ai_187 : AI Tryd.prog 187 = some (65, (false, 1)) := by kernel_rfl
theorem zv_187 : ZV Tryd.prog 187 = some (.agg [.int .u8 0, .int .u8 0, .int .u8 0, .int .u8 0, .int .u8 0, .int .u8 0, .int .u8 0, .int .u8 0, .int .u8 0, .int .u8 0, .int .u8 0, .int .u8 0, .int .u8 0, .int .u8 0, .int .u8 0, .int .u8 0, .int .u8 0, .int .u8 0, .int .u8 0, .int .u8 0, .int .u8 0, .int .u8 0, .int .u8 0, .int .u8 0, .int .u8 0, .int .u8 0, .int .u8 0, .int .u8 0, .int .u8 0, .int .u8 0, .int .u8 0, .int .u8 0, .int .u8 0, .int .u8 0, .int .u8 0, .int .u8 0, .int .u8 0, .int .u8 0, .int .u8 0, .int .u8 0, .int .u8 0, .int .u8 0, .int .u8 0, .int .u8 0, .int .u8 0, .int .u8 0, .int .u8 0, .int .u8 0, .int .u8 0, .int .u8 0, .int .u8 0, .int .u8 0, .int .u8 0, .int .u8 0, .int .u8 0, .int .u8 0, .int .u8 0, .int .u8 0, .int .u8 0, .int .u8 0, .int .u8 0, .int .u8 0, .int .u8 0, .int .u8 0, .int .u8 0]) := by kernel_rfl
theorem zok_187 : ZOk Tryd.prog 187 65 = true := by kernel_rfl
theorem by_187 : byOf Tryd.prog 187 = 65 := by kernel_rfl
theorem cells_188 : Tryd.prog.cellsOf 188 = 1 := by kernel_rfl
theorem ti_188 : TI Tryd.prog 188 = some (false, 1) := by kernel_rfl
theorem zv_188 : ZV Tryd.prog 188 = some (.any) := by kernel_rfl
theorem zok_188 : ZOk Tryd.prog 188 1 = true := by kernel_rfl
theorem by_188 : byOf Tryd.prog 188 = 8 := by kernel_rfl
theorem cells_189 : Tryd.prog.cellsOf 189 = 1 := by kernel_rfl
theorem ti_189 : TI Tryd.prog 189 = some (false, 1) := by kernel_rfl
theorem zv_189 : ZV Tryd.prog 189 = some (.any) := by kernel_rfl
theorem zok_189 : ZOk Tryd.prog 189 1 = true := by kernel_rfl
theorem by_189 : byOf Tryd.prog 189 = 8 := by kernel_rfl
theorem cells_190 : Tryd.prog.cellsOf 190 = 32 := by kernel_rfl
theorem ti_190 : TI Tryd.prog 190 = some (true, 32) := by kernel_rfl
theorem ai_190 : AI Tryd.prog 190 = some (32, (false, 1)) := by kernel_rfl
theorem zv_190 : ZV Tryd.prog 190 = some (.agg [.int .u8 0, .int .u8 0, .int .u8 0, .int .u8 0, .int .u8 0, .int .u8 0, .int .u8 0, .int .u8 0, .int .u8 0, .int .u8 0, .int .u8 0, .int .u8 0, .int .u8 0, .int .u8 0, .int .u8 0, .int .u8 0, .int .u8 0, .int .u8 0, .int .u8 0, .int .u8 0, .int .u8 0, .int .u8 0, .int .u8 0, .int .u8 0, .int .u8 0, .int .u8 0, .int .u8 0, .int .u8 0, .int .u8 0, .int .u8 0, .int .u8 0, .int .u8 0]) := by kernel_rfl
theorem zok_190 : ZOk Tryd.prog 190 32 = true := by kernel_rfl
theorem by_190 : byOf Tryd.prog 190 = 32 := by kernel_rfl
theorem cells_191 : Tryd.prog.cellsOf 191 = 64 := by kernel_rfl
theorem ti_191 : TI Tryd.prog 191 = some (true, 64) := by kernel_rfl
theorem ai_191 : AI Tryd.prog 191 = some (64, (false, 1)) := by kernel_rfl
theorem zv_191 : ZV Tryd.prog 191 = some (.agg [.int .u8 0, .int .u8 0, .int .u8 0, .int .u8 0, .int .u8 0, .int .u8 0, .int .u8 0, .int .u8 0, .int .u8 0, .int .u8 0, .int .u8 0, .int .u8 0, .int .u8 0, .int .u8 0, .int .u8 0, .int .u8 0, .int .u8 0, .int .u8 0, .int .u8 0, .int .u8 0, .int .u8 0, .int .u8 0, .int .u8 0, .int .u8 0, .int .u8 0, .int .u8 0, .int .u8 0, .int .u8 0, .int .u8 0, .int .u8 0, .int .u8 0, .int .u8 0, .int .u8 0, .int .u8 0, .int .u8 0, .int .u8 0, .int .u8 0, .int .u8 0, .int .u8 0, .int .u8 0, .int .u8 0, .int .u8 0, .int .u8 0, .int .u8 0, .int .u8 0, .int .u8 0, .int .u8 0, .int .u8 0, .int .u8 0, .int .u8 0, .int .u8 0, .int .u8 0, .int .u8 0, .int .u8 0, .int .u8 0, .int .u8 0, .int .u8 0, .int .u8 0, .int .u8 0, .int .u8 0, .int .u8 0, .int .u8 0, .int .u8 0, .int .u8 0]) := by kernel_rfl
theorem zok_191 : ZOk Tryd.prog 191 64 = true := by kernel_rfl
theorem by_191 : byOf Tryd.prog 191 = 64 := by kernel_rfl
theorem cells_197 : Tryd.prog.cellsOf 197 = 1 := by kernel_rfl
theorem ti_197 : TI Tryd.prog 197 = some (false, 1) := by kernel_rfl
theorem zv_197 : ZV Tryd.prog 197 = some (.any) := by kernel_rfl
theorem zok_197 : ZOk Tryd.prog 197 1 = true := by kernel_rfl
theorem by_197 : byOf Tryd.prog 197 = 8 := by kernel_rfl
theorem cells_205 : Tryd.prog.cellsOf 205 = 1 := by kernel_rfl
theorem ti_205 : TI Tryd.prog 205 = some (false, 1) := by kernel_rfl
theorem zv_205 : ZV Tryd.prog 205 = some (.any) := by kernel_rfl
theorem zok_205 : ZOk Tryd.prog 205 1 = true := by kernel_rfl
theorem by_205 : byOf Tryd.prog 205 = 8 := by kernel_rfl
theorem cells_206 : Tryd.prog.cellsOf 206 = 1 := by kernel_rfl
theorem ti_206 : TI Tryd.prog 206 = some (false, 1) := by kernel_rfl
theorem zv_206 : ZV Tryd.prog 206 = some (.any) := by kernel_rfl
theorem zok_206 : ZOk Tryd.prog 206 1 = true := by kernel_rfl
theorem by_206 : byOf Tryd.prog 206 = 8 := by kernel_rfl
theorem cells_207 : Tryd.prog.cellsOf 207 = 1 := by kernel_rfl
theorem ti_207 : TI Tryd.prog 207 = some (false, 1) := by kernel_rfl
theorem ei_207 : EI Tryd.prog 207 = some (5, 1) := by kernel_rfl
theorem isSli_207 : isSli Tryd.prog 207 = true := by kernel_rfl
theorem notInt_207 : notInt Tryd.prog 207 = true := by kernel_rfl
theorem zv_207 : ZV Tryd.prog 207 = some (.nils) := by kernel_rfl
theorem zok_207 : ZOk Tryd.prog 207 1 = true := by kernel_rfl
theorem by_207 : byOf Tryd.prog 207 = 24 := by kernel_rfl
theorem cells_208 : Tryd.prog.cellsOf 208 = 1 := by kernel_rfl
theorem ti_208 : TI Tryd.prog 208 = some (false, 1) := by kernel_rfl
theorem isPtr_208 : isPtr Tryd.prog 208 = true := by kernel_rfl
theorem zv_208 : ZV Tryd.prog 208 = some (.nilp) := by kernel_rfl
theorem zok_208 : ZOk Tryd.prog 208 1 = true := by kernel_rfl
theorem by_208 : byOf Tryd.prog 208 = 8 := by kernel_rfl
theorem cells_213 : Tryd.prog.cellsOf 213 = 1 := by kernel_rfl
theorem ti_213 : TI Tryd.prog 213 = some (false, 1) := by kernel_rfl
theorem zv_213 : ZV Tryd.prog 213 = some (.any) := by kernel_rfl
theorem zok_213 : ZOk Tryd.prog 213 1 = true := by kernel_rfl
theorem by_213 : byOf Tryd.prog 213 = 8 := by kernel_rfl
theorem cells_215 : Tryd.prog.cellsOf 215 = 1 := by kernel_rfl
theorem ti_215 : TI Tryd.prog 215 = some (false, 1) := by kernel_rfl
theorem zv_215 : ZV Tryd.prog 215 = some (.any) := by kernel_rfl
theorem zok_215 : ZOk Tryd.prog 215 1 = true := by kernel_rfl
theorem by_215 : byOf Tryd.prog 215 = 8 := by kernel_rfl
theorem cells_217 : Tryd.prog.cellsOf 217 = 1 := by kernel_rfl
theorem ti_217 : TI Tryd.prog 217 = some (true, 1) := by kernel_rfl
theorem fi_217_0 : FI Tryd.prog 217 0 = some (0, (false, 1)) := by kernel_rfl
theorem si_217 : SI Tryd.prog 217 = some [(0, 1)] := by kernel_rfl
theorem zv_217 : ZV Tryd.prog 217 = some (.agg [.nili]) := by kernel_rfl
theorem zok_217 : ZOk Tryd.prog 217 1 = true := by kernel_rfl
theorem by_217 : byOf Tryd.prog 217 = 16 := by kernel_rfl
theorem cells_218 : Tryd.prog.cellsOf 218 = 1 := by kernel_rfl
theorem ti_218 : TI Tryd.prog 218 = some (true, 1) := by kernel_rfl
theorem fi_218_0 : FI Tryd.prog 218 0 = some (0, (false, 1)) := by kernel_rfl
theorem si_218 : SI Tryd.prog 218 = some [(0, 1)] := by kernel_rfl
theorem zv_218 : ZV Tryd.prog 218 = some (.agg [.nili]) := by kernel_rfl
theorem zok_218 : ZOk Tryd.prog 218 1 = true := by kernel_rfl
theorem by_218 : byOf Tryd.prog 218 = 16 := by kernel_rfl
theorem cells_219 : Tryd.prog.cellsOf 219 = 1 := by kernel_rfl
theorem ti_219 : TI Tryd.prog 219 = some (false, 1) := by kernel_rfl
theorem zv_219 : ZV Tryd.prog 219 = some (.any) := by kernel_rfl
theorem zok_219 : ZOk Tryd.prog 219 1 = true := by kernel_rfl
theorem by_219 : byOf Tryd.prog 219 = 8 := by kernel_rfl
theorem uns_1 : (Tryd.prog.underlying 1).isSome = true := by kernel_rfl
theorem tok_1 : TOk Tryd.prog 1 { ti := some (false, 1), zv := some (.any), zok := some 1, by' := some 8, un := true } := ⟨ti_1, trivial, trivial, trivial, trivial, zv_1, zok_1, by_1, trivial, trivial, trivial, trivial, trivial, trivial, uns_1, trivial⟩
theorem uns_2 : (Tryd.prog.underlying 2).isSome = true := by kernel_rfl
theorem tok_2 : TOk Tryd.prog 2 { ti := some (false, 1), zv := some (.int .i64 0), zok := some 1, by' := some 8, ik := some .i64, un := true } := ⟨ti_2, trivial, trivial, trivial, trivial, zv_2, zok_2, by_2, intK_2, trivial, trivial, trivial, trivial, trivial, uns_2, trivial⟩
theorem uns_3 : (Tryd.prog.underlying 3).isSome = true := by kernel_rfl
theorem tok_3 : TOk Tryd.prog 3 { ti := some (false, 1), zv := some (.int .i64 0), zok := some 1, by' := some 8, ik := some .i64, un := true } := ⟨ti_3, trivial, trivial, trivial, trivial, zv_3, zok_3, by_3, intK_3, trivial, trivial, trivial, trivial, trivial, uns_3, trivial⟩
theorem uns_4 : (Tryd.prog.underlying 4).isSome = true := by kernel_rfl
theorem tok_4 : TOk Tryd.prog 4 { ti := some (false, 1), zv := some (.bool false), zok := some 1, by' := some 1, boo := true, un := true } := ⟨ti_4, trivial, trivial, trivial, trivial, zv_4, zok_4, by_4, trivial, trivial, trivial, isBoo_4, trivial, trivial, uns_4, trivial⟩
theorem uns_5 : (Tryd.prog.underlying 5).isSome = true := by kernel_rfl
theorem tok_5 : TOk Tryd.prog 5 { ti := some (false, 1), zv := some (.int .u8 0), zok := some 1, by' := some 1, ik := some .u8, un := true } := ⟨ti_5, trivial, trivial, trivial, trivial, zv_5, zok_5, by_5, intK_5, trivial, trivial, trivial, trivial, trivial, uns_5, trivial⟩
theorem uns_9 : (Tryd.prog.underlying 9).isSome = true := by kernel_rfl
theorem tok_9 : TOk Tryd.prog 9 { ti := some (false, 1), zv := some (.str []), zok := some 1, by' := some 16, str := true, ni := true, un := true } := ⟨ti_9, trivial, trivial, trivial, trivial, zv_9, zok_9, by_9, trivial, isStr_9, trivial, trivial, trivial, notInt_9, uns_9, trivial⟩
theorem uns_12 : (Tryd.prog.underlying 12).isSome = true := by kernel_rfl
theorem tok_12 : TOk Tryd.prog 12 { ti := some (false, 1), zv := some (.int .u64 0), zok := some 1, by' := some 8, ik := some .u64, un := true } := ⟨ti_12, trivial, trivial, trivial, trivial, zv_12, zok_12, by_12, intK_12, trivial, trivial, trivial, trivial, trivial, uns_12, trivial⟩
theorem uns_13 : (Tryd.prog.underlying 13).isSome = true := by kernel_rfl
theorem tok_13 : TOk Tryd.prog 13 { ti := some (true, 2), fi := [some (0, (false, 1)), some (1, (false, 1))], si := some [(0, 1), (1, 1)], zv := some (.agg [.str [], .int .u64 0]), zok := some 2, by' := some 24, un := true } := ⟨ti_13, trivial, trivial, ⟨fi_13_0, fi_13_1, trivial⟩, si_13, zv_13, zok_13, by_13, trivial, trivial, trivial, trivial, trivial, trivial, uns_13, trivial⟩
theorem uns_21 : (Tryd.prog.underlying 21).isSome = true := by kernel_rfl
theorem tok_21 : TOk Tryd.prog 21 { ti := some (false, 1), zv := some (.int .i32 0), zok := some 1, by' := some 4, ik := some .i32, un := true } := ⟨ti_21, trivial, trivial, trivial, trivial, zv_21, zok_21, by_21, intK_21, trivial, trivial, trivial, trivial, trivial, uns_21, trivial⟩
theorem uns_22 : (Tryd.prog.underlying 22).isSome = true := by kernel_rfl
theorem tok_22 : TOk Tryd.prog 22 { ti := some (false, 1), ei := some (36, 2), zv := some (.nils), zok := some 1, by' := some 24, sli := true, ni := true, un := true } := ⟨ti_22, ei_22, trivial, trivial, trivial, zv_22, zok_22, by_22, trivial, trivial, isSli_22, trivial, trivial, notInt_22, uns_22, trivial⟩
theorem uns_23 : (Tryd.prog.underlying 23).isSome = true := by kernel_rfl
theorem tok_23 : TOk Tryd.prog 23 { ti := some (false, 1), zv := some (.int .i64 0), zok := some 1, by' := some 8, ik := some .i64, un := true } := ⟨ti_23, trivial, trivial, trivial, trivial, zv_23, zok_23, by_23, intK_23, trivial, trivial, trivial, trivial, trivial, uns_23, trivial⟩
theorem uns_25 : (Tryd.prog.underlying 25).isSome = true := by kernel_rfl
theorem tok_25 : TOk Tryd.prog 25 { ti := some (false, 1), zv := some (.any), zok := some 1, by' := some 8, un := true } := ⟨ti_25, trivial, trivial, trivial, trivial, zv_25, zok_25, by_25, trivial, trivial, trivial, trivial, trivial, trivial, uns_25, trivial⟩
theorem uns_26 : (Tryd.prog.underlying 26).isSome = true := by kernel_rfl
theorem tok_26 : TOk Tryd.prog 26 { ti := some (false, 1), zv := some (.any), zok := some 1, by' := some 8, un := true } := ⟨ti_26, trivial, trivial, trivial, trivial, zv_26, zok_26, by_26, trivial, trivial, trivial, trivial, trivial, trivial, uns_26, trivial⟩
theorem uns_27 : (Tryd.prog.underlying 27).isSome = true := by kernel_rfl
theorem tok_27 : TOk Tryd.prog 27 { ti := some (false, 1), zv := some (.any), zok := some 1, by' := some 8, un := true } := ⟨ti_27, trivial, trivial, trivial, trivial, zv_27, zok_27, by_27, trivial, trivial, trivial, trivial, trivial, trivial, uns_27, trivial⟩
theorem uns_29 : (Tryd.prog.underlying 29).isSome = true := by kernel_rfl
theorem tok_29 : TOk Tryd.prog 29 { ti := some (false, 1), zv := some (.any), zok := some 1, by' := some 8, un := true } := ⟨ti_29, trivial, trivial, trivial, trivial, zv_29, zok_29, by_29, trivial, trivial, trivial, trivial, trivial, trivial, uns_29, trivial⟩
theorem uns_30 : (Tryd.prog.underlying 30).isSome = true := by kernel_rfl
theorem tok_30 : TOk Tryd.prog 30 { ti := some (false, 1), zv := some (.any), zok := some 1, by' := some 8, un := true } := ⟨ti_30, trivial, trivial, trivial, trivial, zv_30, zok_30, by_30, trivial, trivial, trivial, trivial, trivial, trivial, uns_30, trivial⟩
theorem uns_31 : (Tryd.prog.underlying 31).isSome = true := by kernel_rfl
theorem tok_31 : TOk Tryd.prog 31 { ti := some (false, 1), zv := some (.any), zok := some 1, by' := some 8, un := true } := ⟨ti_31, trivial, trivial, trivial, trivial, zv_31, zok_31, by_31, trivial, trivial, trivial, trivial, trivial, trivial, uns_31, trivial⟩
theorem uns_33 : (Tryd.prog.underlying 33).isSome = true := by kernel_rfl
theorem tok_33 : TOk Tryd.prog 33 { ti := some (false, 1), zv := some (.any), zok := some 1, by' := some 8, un := true } := ⟨ti_33, trivial, trivial, trivial, trivial, zv_33, zok_33, by_33, trivial, trivial, trivial, trivial, trivial, trivial, uns_33, trivial⟩
theorem uns_34 : (Tryd.prog.underlying 34).isSome = true := by kernel_rfl
theorem tok_34 : TOk Tryd.prog 34 { ti := some (false, 1), zv := some (.any), zok := some 1, by' := some 8, un := true } := ⟨ti_34, trivial, trivial, trivial, trivial, zv_34, zok_34, by_34, trivial, trivial, trivial, trivial, trivial, trivial, uns_34, trivial⟩
theorem uns_35 : (Tryd.prog.underlying 35).isSome = true := by kernel_rfl
theorem tok_35 : TOk Tryd.prog 35 { ti := some (true, 2), fi := [some (0, (false, 1)), some (1, (false, 1))], si := some [(0, 1), (1, 1)], zv := some (.agg [.str [], .str []]), zok := some 2, by' := some 32, un := true } := ⟨ti_35, trivial, trivial, ⟨fi_35_0, fi_35_1, trivial⟩, si_35, zv_35, zok_35, by_35, trivial, trivial, trivial, trivial, trivial, trivial, uns_35, trivial⟩
theorem sq_36 : SQ Tryd.prog 36 = some [.s, .s] := by kernel_rfl
theorem uns_36 : (Tryd.prog.underlying 36).isSome = true := by kernel_rfl
theorem tok_36 : TOk Tryd.prog 36 { ti := some (true, 2), fi := [some (0, (false, 1)), some (1, (false, 1))], si := some [(0, 1), (1, 1)], zv := some (.agg [.str [], .str []]), zok := some 2, by' := some 32, un := true, sq := some [.s, .s] } := ⟨ti_36, trivial, trivial, ⟨fi_36_0, fi_36_1, trivial⟩, si_36, zv_36, zok_36, by_36, trivial, trivial, trivial, trivial, trivial, trivial, uns_36, sq_36⟩
theorem uns_37 : (Tryd.prog.underlying 37).isSome = true := by kernel_rfl
theorem tok_37 : TOk Tryd.prog 37 { ti := some (false, 1), ei := some (9, 1), zv := some (.nils), zok := some 1, by' := some 24, sli := true, ni := true, un := true } := ⟨ti_37, ei_37, trivial, trivial, trivial, zv_37, zok_37, by_37, trivial, trivial, isSli_37, trivial, trivial, notInt_37, uns_37, trivial⟩
theorem uns_38 : (Tryd.prog.underlying 38).isSome = true := by kernel_rfl
theorem tok_38 : TOk Tryd.prog 38 { ti := some (false, 1), zv := some (.any), zok := some 1, by' := some 8, un := true } := ⟨ti_38, trivial, trivial, trivial, trivial, zv_38, zok_38, by_38, trivial, trivial, trivial, trivial, trivial, trivial, uns_38, trivial⟩
theorem uns_39 : (Tryd.prog.underlying 39).isSome = true := by kernel_rfl
theorem tok_39 : TOk Tryd.prog 39 { ti := some (false, 1), zv := some (.any), zok := some 1, by' := some 8, un := true } := ⟨ti_39, trivial, trivial, trivial, trivial, zv_39, zok_39, by_39, trivial, trivial, trivial, trivial, trivial, trivial, uns_39, trivial⟩
theorem uns_40 : (Tryd.prog.underlying 40).isSome = true := by kernel_rfl
theorem tok_40 : TOk Tryd.prog 40 { ti := some (false, 1), zv := some (.nilp), zok := some 1, by' := some 8, ptr := true, un := true } := ⟨ti_40, trivial, trivial, trivial, trivial, zv_40, zok_40, by_40, trivial, trivial, trivial, trivial, isPtr_40, trivial, uns_40, trivial⟩
theorem uns_41 : (Tryd.prog.underlying 41).isSome = true := by kernel_rfl
theorem tok_41 : TOk Tryd.prog 41 { ti := some (false, 1), zv := some (.any), zok := some 1, by' := some 8, un := true } := ⟨ti_41, trivial, trivial, trivial, trivial, zv_41, zok_41, by_41, trivial, trivial, trivial, trivial, trivial, trivial, uns_41, trivial⟩
theorem uns_42 : (Tryd.prog.underlying 42).isSome = true := by kernel_rfl
theorem tok_42 : TOk Tryd.prog 42 { ti := some (false, 1), zv := some (.any), zok := some 1, by' := some 8, un := true } := ⟨ti_42, trivial, trivial, trivial, trivial, zv_42, zok_42, by_42, trivial, trivial, trivial, trivial, trivial, trivial, uns_42, trivial⟩
theorem uns_43 : (Tryd.prog.underlying 43).isSome = true := by kernel_rfl
theorem tok_43 : TOk Tryd.prog 43 { ti := some (false, 1), zv := some (.any), zok := some 1, by' := some 8, un := true } := ⟨ti_43, trivial, trivial, trivial, trivial, zv_43, zok_43, by_43, trivial, trivial, trivial, trivial, trivial, trivial, uns_43, trivial⟩
theorem uns_44 : (Tryd.prog.underlying 44).isSome = true := by kernel_rfl
theorem tok_44 : TOk Tryd.prog 44 { ti := some (false, 1), zv := some (.nilp), zok := some 1, by' := some 8, ptr := true, un := true } := ⟨ti_44, trivial, trivial, trivial, trivial, zv_44, zok_44, by_44, trivial, trivial, trivial, trivial, isPtr_44, trivial, uns_44, trivial⟩
theorem uns_45 : (Tryd.prog.underlying 45).isSome = true := by kernel_rfl
theorem tok_45 : TOk Tryd.prog 45 { ti := some (false, 1), ei := some (5, 1), zv := some (.nils), zok := some 1, by' := some 24, sli := true, ni := true, un := true } := ⟨ti_45, ei_45, trivial, trivial, trivial, zv_45, zok_45, by_45, trivial, trivial, isSli_45, trivial, trivial, notInt_45, uns_45, trivial⟩
theorem uns_46 : (Tryd.prog.underlying 46).isSome = true := by kernel_rfl
theorem tok_46 : TOk Tryd.prog 46 { ti := some (true, 2), fi := [some (0, (false, 1)), some (1, (false, 1))], si := some [(0, 1), (1, 1)], zv := some (.agg [.nilp, .nils]), zok := some 2, by' := some 32, un := true } := ⟨ti_46, trivial, trivial, ⟨fi_46_0, fi_46_1, trivial⟩, si_46, zv_46, zok_46, by_46, trivial, trivial, trivial, trivial, trivial, trivial, uns_46, trivial⟩
theorem uns_47 : (Tryd.prog.underlying 47).isSome = true := by kernel_rfl
theorem tok_47 : TOk Tryd.prog 47 { ti := some (true, 2), fi := [some (0, (false, 1)), some (1, (false, 1))], si := some [(0, 1), (1, 1)], zv := some (.agg [.nilp, .nils]), zok := some 2, by' := some 32, un := true } := ⟨ti_47, trivial, trivial, ⟨fi_47_0, fi_47_1, trivial⟩, si_47, zv_47, zok_47, by_47, trivial, trivial, trivial, trivial, trivial, trivial, uns_47, trivial⟩
theorem uns_48 : (Tryd.prog.underlying 48).isSome = true := by kernel_rfl
theorem tok_48 : TOk Tryd.prog 48 { ti := some (false, 1), zv := some (.any), zok := some 1, by' := some 8, un := true } := ⟨ti_48, trivial, trivial, trivial, trivial, zv_48, zok_48, by_48, trivial, trivial, trivial, trivial, trivial, trivial, uns_48, trivial⟩
theorem uns_50 : (Tryd.prog.underlying 50).isSome = true := by kernel_rfl
theorem tok_50 : TOk Tryd.prog 50 { ti := some (false, 1), zv := some (.any), zok := some 1, by' := some 8, un := true } := ⟨ti_50, trivial, trivial, trivial, trivial, zv_50, zok_50, by_50, trivial, trivial, trivial, trivial, trivial, trivial, uns_50, trivial⟩
theorem uns_54 : (Tryd.prog.underlying 54).isSome = true := by kernel_rfl
theorem tok_54 : TOk Tryd.prog 54 { ti := some (false, 1), zv := some (.any), zok := some 1, by' := some 8, un := true } := ⟨ti_54, trivial, trivial, trivial, trivial, zv_54, zok_54, by_54, trivial, trivial, trivial, trivial, trivial, trivial, uns_54, trivial⟩
theorem uns_55 : (Tryd.prog.underlying 55).isSome = true := by kernel_rfl
theorem tok_55 : TOk Tryd.prog 55 { ti := some (false, 1), zv := some (.any), zok := some 1, by' := some 8, un := true } := ⟨ti_55, trivial, trivial, trivial, trivial, zv_55, zok_55, by_55, trivial, trivial, trivial, trivial, trivial, trivial, uns_55, trivial⟩
theorem uns_56 : (Tryd.prog.underlying 56).isSome = true := by kernel_rfl
theorem tok_56 : TOk Tryd.prog 56 { ti := some (false, 1), zv := some (.any), zok := some 1, by' := some 8, un := true } := ⟨ti_56, trivial, trivial, trivial, trivial, zv_56, zok_56, by_56, trivial, trivial, trivial, trivial, trivial, trivial, uns_56, trivial⟩
theorem uns_58 : (Tryd.prog.underlying 58).isSome = true := by kernel_rfl
theorem tok_58 : TOk Tryd.prog 58 { ti := some (false, 1), zv := some (.any), zok := some 1, by' := some 8, un := true } := ⟨ti_58, trivial, trivial, trivial, trivial, zv_58, zok_58, by_58, trivial, trivial, trivial, trivial, trivial, trivial, uns_58, trivial⟩
theorem uns_59 : (Tryd.prog.underlying 59).isSome = true := by kernel_rfl
theorem tok_59 : TOk Tryd.prog 59 { ti := some (false, 1), zv := some (.any), zok := some 1, by' := some 8, un := true } := ⟨ti_59, trivial, trivial, trivial, trivial, zv_59, zok_59, by_59, trivial, trivial, trivial, trivial, trivial, trivial, uns_59, trivial⟩
theorem uns_60 : (Tryd.prog.underlying 60).isSome = true := by kernel_rfl
theorem tok_60 : TOk Tryd.prog 60 { ti := some (false, 1), zv := some (.any), zok := some 1, by' := some 8, un := true } := ⟨ti_60, trivial, trivial, trivial, trivial, zv_60, zok_60, by_60, trivial, trivial, trivial, trivial, trivial, trivial, uns_60, trivial⟩
theorem uns_62 : (Tryd.prog.underlying 62).isSome = true := by kernel_rfl
theorem tok_62 : TOk Tryd.prog 62 { ti := some (false, 1), zv := some (.any), zok := some 1, by' := some 8, un := true } := ⟨ti_62, trivial, trivial, trivial, trivial, zv_62, zok_62, by_62, trivial, trivial, trivial, trivial, trivial, trivial, uns_62, trivial⟩
theorem uns_63 : (Tryd.prog.underlying 63).isSome = true := by kernel_rfl
theorem tok_63 : TOk Tryd.prog 63 { ti := some (false, 1), zv := some (.any), zok := some 1, by' := some 8, un := true } := ⟨ti_63, trivial, trivial, trivial, trivial, zv_63, zok_63, by_63, trivial, trivial, trivial, trivial, trivial, trivial, uns_63, trivial⟩
theorem uns_64 : (Tryd.prog.underlying 64).isSome = true := by kernel_rfl
theorem tok_64 : TOk Tryd.prog 64 { ti := some (false, 1), zv := some (.any), zok := some 1, by' := some 8, un := true } := ⟨ti_64, trivial, trivial, trivial, trivial, zv_64, zok_64, by_64, trivial, trivial, trivial, trivial, trivial, trivial, uns_64, trivial⟩
theorem uns_65 : (Tryd.prog.underlying 65).isSome = true := by kernel_rfl
theorem tok_65 : TOk Tryd.prog 65 { ti := some (false, 1), zv := some (.any), zok := some 1, by' := some 8, un := true } := ⟨ti_65, trivial, trivial, trivial, trivial, zv_65, zok_65, by_65, trivial, trivial, trivial, trivial, trivial, trivial, uns_65, trivial⟩
theorem uns_66 : (Tryd.prog.underlying 66).isSome = true := by kernel_rfl
theorem tok_66 : TOk Tryd.prog 66 { ti := some (false, 1), zv := some (.any), zok := some 1, by' := some 8, un := true } := ⟨ti_66, trivial, trivial, trivial, trivial, zv_66, zok_66, by_66, trivial, trivial, trivial, trivial, trivial, trivial, uns_66, trivial⟩
theorem uns_67 : (Tryd.prog.underlying 67).isSome = true := by kernel_rfl
theorem tok_67 : TOk Tryd.prog 67 { ti := some (false, 1), zv := some (.any), zok := some 1, by' := some 8, un := true } := ⟨ti_67, trivial, trivial, trivial, trivial, zv_67, zok_67, by_67, trivial, trivial, trivial, trivial, trivial, trivial, uns_67, trivial⟩
theorem uns_68 : (Tryd.prog.underlying 68).isSome = true := by kernel_rfl
theorem tok_68 : TOk Tryd.prog 68 { ti := some (false, 1), zv := some (.any), zok := some 1, by' := some 8, un := true } := ⟨ti_68, trivial, trivial, trivial, trivial, zv_68, zok_68, by_68, trivial, trivial, trivial, trivial, trivial, trivial, uns_68, trivial⟩
theorem uns_69 : (Tryd.prog.underlying 69).isSome = true := by kernel_rfl
theorem tok_69 : TOk Tryd.prog 69 { ti := some (true, 256), ai := some (256, (false, 1)), zv := some (.agg [.bool false, .bool false, .bool false, .bool false, .bool false, .bool false, .bool false, .bool false, .bool false, .bool false, .bool false, .bool false, .bool false, .bool false, .bool false, .bool false, .bool false, .bool false, .bool false, .bool false, .bool false, .bool false, .bool false, .bool false, .bool false, .bool false, .bool false, .bool false, .bool false, .bool false, .bool false, .bool false, .bool false, .bool false, .bool false, .bool false, .bool false, .bool false, .bool false, .bool false, .bool false, .bool false, .bool false, .bool false, .bool false, .bool false, .bool false, .bool false, .bool false, .bool false, .bool false, .bool false, .bool false, .bool false, .bool false, .bool false, .bool false, .bool false, .bool false, .bool false, .bool false, .bool false, .bool false, .bool false, .bool false, .bool false, .bool false, .bool false, .bool false, .bool false, .bool false, .bool false, .bool false, .bool false, .bool false, .bool false, .bool false, .bool false, .bool false, .bool false, .bool false, .bool false, .bool false, .bool false, .bool false, .bool false, .bool false, .bool false, .bool false, .bool false, .bool false, .bool false, .bool false, .bool false, .bool false, .bool false, .bool false, .bool false, .bool false, .bool false, .bool false, .bool false, .bool false, .bool false, .bool false, .bool false, .bool false, .bool false, .bool false, .bool false, .bool false, .bool false, .bool false, .bool false, .bool false, .bool false, .bool false, .bool false, .bool false, .bool false, .bool false, .bool false, .bool false, .bool false, .bool false, .bool false, .bool false, .bool false, .bool false, .bool false, .bool false, .bool false, .bool false, .bool false, .bool false, .bool false, .bool false, .bool false, .bool false, .bool false, .bool false, .bool false, .bool false, .bool false, .bool false, .bool false, .bool false, .bool false, .bool false, .bool false, .bool false, .bool false, .bool false, .bool false, .bool false, .bool false, .bool false, .bool false, .bool false, .bool false, .bool false, .bool false, .bool false, .bool false, .bool false, .bool false, .bool false, .bool false, .bool false, .bool false, .bool false, .bool false, .bool false, .bool false, .bool false, .bool false, .bool false, .bool false, .bool false, .bool false, .bool false, .bool false, .bool false, .bool false, .bool false, .bool false, .bool false, .bool false, .bool false, .bool false, .bool false, .bool false, .bool false, .bool false, .bool false, .bool false, .bool false, .bool false, .bool false, .bool false, .bool false, .bool false, .bool false, .bool false, .bool false, .bool false, .bool false, .bool false, .bool false, .bool false, .bool false, .bool false, .bool false, .bool false, .bool false, .bool false, .bool false, .bool false, .bool false, .bool false, .bool false, .bool false, .bool false, .bool false, .bool false, .bool false, .bool false, .bool false, .bool false, .bool false, .bool false, .bool false, .bool false, .bool false, .bool false, .bool false, .bool false, .bool false, .bool false, .bool false, .bool false, .bool false, .bool false, .bool false, .bool false, .bool false, .bool false, .bool false, .bool false, .bool false, .bool false, .bool false, .bool false, .bool false, .bool false, .bool false]), zok := some 256, by' := some 256, un := true } := ⟨ti_69, trivial, ai_69, trivial, trivial, zv_69, zok_69, by_69, trivial, trivial, trivial, trivial, trivial, trivial, uns_69, trivial⟩
theorem uns_70 : (Tryd.prog.underlying 70).isSome = true := by kernel_rfl
theorem tok_70 : TOk Tryd.prog 70 { ti := some (true, 256), ai := some (256, (false, 1)), zv := some (.agg [.bool false, .bool false, .bool false, .bool false, .bool false, .bool false, .bool false, .bool false, .bool false, .bool false, .bool false, .bool false, .bool false, .bool false, .bool false, .bool false, .bool false, .bool false, .bool false, .bool false, .bool false, .bool false, .bool false, .bool false, .bool false, .bool false, .bool false, .bool false, .bool false, .bool false, .bool false, .bool false, .bool false, .bool false, .bool false, .bool false, .bool false, .bool false, .bool false, .bool false, .bool false, .bool false, .bool false, .bool false, .bool false, .bool false, .bool false, .bool false, .bool false, .bool false, .bool false, .bool false, .bool false, .bool false, .bool false, .bool false, .bool false, .bool false, .bool false, .bool false, .bool false, .bool false, .bool false, .bool false, .bool false, .bool false, .bool false, .bool false, .bool false, .bool false, .bool false, .bool false, .bool false, .bool false, .bool false, .bool false, .bool false, .bool false, .bool false, .bool false, .bool false, .bool false, .bool false, .bool false, .bool false, .bool false, .bool false, .bool false, .bool false, .bool false, .bool false, .bool false, .bool false, .bool false, .bool false, .bool false, .bool false, .bool false, .bool false, .bool false, .bool false, .bool false, .bool false, .bool false, .bool false, .bool false, .bool false, .bool false, .bool false, .bool false, .bool false, .bool false, .bool false, .bool false, .bool false, .bool false, .bool false, .bool false, .bool false, .bool false, .bool false, .bool false, .bool false, .bool false, .bool false, .bool false, .bool false, .bool false, .bool false, .bool false, .bool false, .bool false, .bool false, .bool false, .bool false, .bool false, .bool false, .bool false, .bool false, .bool false, .bool false, .bool false, .bool false, .bool false, .bool false, .bool false, .bool false, .bool false, .bool false, .bool false, .bool false, .bool false, .bool false, .bool false, .bool false, .bool false, .bool false, .bool false, .bool false, .bool false, .bool false, .bool false, .bool false, .bool false, .bool false, .bool false, .bool false, .bool false, .bool false, .bool false, .bool false, .bool false, .bool false, .bool false, .bool false, .bool false, .bool false, .bool false, .bool false, .bool false, .bool false, .bool false, .bool false, .bool false, .bool false, .bool false, .bool false, .bool false, .bool false, .bool false, .bool false, .bool false, .bool false, .bool false, .bool false, .bool false, .bool false, .bool false, .bool false, .bool false, .bool false, .bool false, .bool false, .bool false, .bool false, .bool false, .bool false, .bool false, .bool false, .bool false, .bool false, .bool false, .bool false, .bool false, .bool false, .bool false, .bool false, .bool false, .bool false, .bool false, .bool false, .bool false, .bool false, .bool false, .bool false, .bool false, .bool false, .bool false, .bool false, .bool false, .bool false, .bool false, .bool false, .bool false, .bool false, .bool false, .bool false, .bool false, .bool false, .bool false, .bool false, .bool false, .bool false, .bool false, .bool false, .bool false, .bool false, .bool false, .bool false, .bool false, .bool false, .bool false, .bool false, .bool false, .bool false, .bool false]), zok := some 256, by' := some 256, un := true } := ⟨ti_70, trivial, ai_70, trivial, trivial, zv_70, zok_70, by_70, trivial, trivial, trivial, trivial, trivial, trivial, uns_70, trivial⟩
theorem uns_72 : (Tryd.prog.underlying 72).isSome = true := by kernel_rfl
theorem tok_72 : TOk Tryd.prog 72 { ti := some (false, 1), zv := some (.any), zok := some 1, by' := some 8, un := true } := ⟨ti_72, trivial, trivial, trivial, trivial, zv_72, zok_72, by_72, trivial, trivial, trivial, trivial, trivial, trivial, uns_72, trivial⟩
theorem uns_73 : (Tryd.prog.underlying 73).isSome = true := by kernel_rfl
theorem tok_73 : TOk Tryd.prog 73 { ti := some (false, 1), zv := some (.any), zok := some 1, by' := some 8, un := true } := ⟨ti_73, trivial, trivial, trivial, trivial, zv_73, zok_73, by_73, trivial, trivial, trivial, trivial, trivial, trivial, uns_73, trivial⟩
theorem uns_74 : (Tryd.prog.underlying 74).isSome = true := by kernel_rfl
theorem tok_74 : TOk Tryd.prog 74 { ti := some (false, 1), zv := some (.nilp), zok := some 1, by' := some 8, ptr := true, un := true } := ⟨ti_74, trivial, trivial, trivial, trivial, zv_74, zok_74, by_74, trivial, trivial, trivial, trivial, isPtr_74, trivial, uns_74, trivial⟩
theorem uns_75 : (Tryd.prog.underlying 75).isSome = true := by kernel_rfl
theorem tok_75 : TOk Tryd.prog 75 { ti := some (true, 0), zv := some (.agg []), by' := some 0, un := true } := ⟨ti_75, trivial, trivial, trivial, trivial, zv_75, trivial, by_75, trivial, trivial, trivial, trivial, trivial, trivial, uns_75, trivial⟩
theorem uns_76 : (Tryd.prog.underlying 76).isSome = true := by kernel_rfl
theorem tok_76 : TOk Tryd.prog 76 { ti := some (true, 0), zv := some (.agg []), by' := some 0, un := true } := ⟨ti_76, trivial, trivial, trivial, trivial, zv_76, trivial, by_76, trivial, trivial, trivial, trivial, trivial, trivial, uns_76, trivial⟩
theorem uns_77 : (Tryd.prog.underlying 77).isSome = true := by kernel_rfl
theorem tok_77 : TOk Tryd.prog 77 { ti := some (true, 0), zv := some (.agg []), by' := some 0, un := true } := ⟨ti_77, trivial, trivial, trivial, trivial, zv_77, trivial, by_77, trivial, trivial, trivial, trivial, trivial, trivial, uns_77, trivial⟩
theorem uns_78 : (Tryd.prog.underlying 78).isSome = true := by kernel_rfl
theorem tok_78 : TOk Tryd.prog 78 { ti := some (false, 1), zv := some (.int .u32 0), zok := some 1, by' := some 4, ik := some .u32, un := true } := ⟨ti_78, trivial, trivial, trivial, trivial, zv_78, zok_78, by_78, intK_78, trivial, trivial, trivial, trivial, trivial, uns_78, trivial⟩
theorem uns_79 : (Tryd.prog.underlying 79).isSome = true := by kernel_rfl
theorem tok_79 : TOk Tryd.prog 79 { ti := some (true, 1), fi := [none, some (0, (false, 1))], si := some [(0, 0), (0, 1)], zv := some (.agg [.int .u32 0]), zok := some 1, by' := some 4, un := true } := ⟨ti_79, trivial, trivial, ⟨trivial, fi_79_1, trivial⟩, si_79, zv_79, zok_79, by_79, trivial, trivial, trivial, trivial, trivial, trivial, uns_79, trivial⟩
theorem uns_80 : (Tryd.prog.underlying 80).isSome = true := by kernel_rfl
theorem tok_80 : TOk Tryd.prog 80 { ti := some (true, 1), fi := [none, some (0, (false, 1))], si := some [(0, 0), (0, 1)], zv := some (.agg [.int .u32 0]), zok := some 1, by' := some 4, un := true } := ⟨ti_80, trivial, trivial, ⟨trivial, fi_80_1, trivial⟩, si_80, zv_80, zok_80, by_80, trivial, trivial, trivial, trivial, trivial, trivial, uns_80, trivial⟩
theorem uns_81 : (Tryd.prog.underlying 81).isSome = true := by kernel_rfl
theorem tok_81 : TOk Tryd.prog 81 { ti := some (true, 2), fi := [some (0, (false, 1)), some (1, (false, 1))], si := some [(0, 1), (1, 1)], zv := some (.agg [.int .i32 0, .int .u32 0]), zok := some 2, by' := some 8, un := true } := ⟨ti_81, trivial, trivial, ⟨fi_81_0, fi_81_1, trivial⟩, si_81, zv_81, zok_81, by_81, trivial, trivial, trivial, trivial, trivial, trivial, uns_81, trivial⟩
theorem uns_82 : (Tryd.prog.underlying 82).isSome = true := by kernel_rfl
theorem tok_82 : TOk Tryd.prog 82 { ti := some (true, 2), fi := [some (0, (false, 1)), some (1, (false, 1))], si := some [(0, 1), (1, 1)], zv := some (.agg [.int .i32 0, .int .u32 0]), zok := some 2, by' := some 8, un := true } := ⟨ti_82, trivial, trivial, ⟨fi_82_0, fi_82_1, trivial⟩, si_82, zv_82, zok_82, by_82, trivial, trivial, trivial, trivial, trivial, trivial, uns_82, trivial⟩
theorem uns_83 : (Tryd.prog.underlying 83).isSome = true := by kernel_rfl
theorem tok_83 : TOk Tryd.prog 83 { ti := some (true, 2), fi := [none, some (0, (true, 2))], si := some [(0, 0), (0, 2)], zv := some (.agg [.int .i32 0, .int .u32 0]), zok := some 2, by' := some 8, un := true } := ⟨ti_83, trivial, trivial, ⟨trivial, fi_83_1, trivial⟩, si_83, zv_83, zok_83, by_83, trivial, trivial, trivial, trivial, trivial, trivial, uns_83, trivial⟩
theorem uns_84 : (Tryd.prog.underlying 84).isSome = true := by kernel_rfl
theorem tok_84 : TOk Tryd.prog 84 { ti := some (true, 2), fi := [none, some (0, (true, 2))], si := some [(0, 0), (0, 2)], zv := some (.agg [.int .i32 0, .int .u32 0]), zok := some 2, by' := some 8, un := true } := ⟨ti_84, trivial, trivial, ⟨trivial, fi_84_1, trivial⟩, si_84, zv_84, zok_84, by_84, trivial, trivial, trivial, trivial, trivial, trivial, uns_84, trivial⟩
theorem uns_85 : (Tryd.prog.underlying 85).isSome = true := by kernel_rfl
theorem tok_85 : TOk Tryd.prog 85 { ti := some (true, 3), fi := [none, some (0, (true, 1)), some (1, (true, 2))], si := some [(0, 0), (0, 1), (1, 2)], zv := some (.agg [.int .u32 0, .int .i32 0, .int .u32 0]), zok := some 3, by' := some 12, un := true } := ⟨ti_85, trivial, trivial, ⟨trivial, fi_85_1, fi_85_2, trivial⟩, si_85, zv_85, zok_85, by_85, trivial, trivial, trivial, trivial, trivial, trivial, uns_85, trivial⟩
theorem uns_86 : (Tryd.prog.underlying 86).isSome = true := by kernel_rfl
theorem tok_86 : TOk Tryd.prog 86 { ti := some (true, 3), fi := [none, some (0, (true, 1)), some (1, (true, 2))], si := some [(0, 0), (0, 1), (1, 2)], zv := some (.agg [.int .u32 0, .int .i32 0, .int .u32 0]), zok := some 3, by' := some 12, un := true } := ⟨ti_86, trivial, trivial, ⟨trivial, fi_86_1, fi_86_2, trivial⟩, si_86, zv_86, zok_86, by_86, trivial, trivial, trivial, trivial, trivial, trivial, uns_86, trivial⟩
theorem uns_89 : (Tryd.prog.underlying 89).isSome = true := by kernel_rfl
theorem tok_89 : TOk Tryd.prog 89 { ti := some (true, 5), fi := [some (0, (true, 3)), some (3, (false, 1)), some (4, (false, 1))], si := some [(0, 3), (3, 1), (4, 1)], zv := some (.agg [.int .u32 0, .int .i32 0, .int .u32 0, .nili, .nils]), zok := some 5, by' := some 56, un := true } := ⟨ti_89, trivial, trivial, ⟨fi_89_0, fi_89_1, fi_89_2, trivial⟩, si_89, zv_89, zok_89, by_89, trivial, trivial, trivial, trivial, trivial, trivial, uns_89, trivial⟩
theorem uns_90 : (Tryd.prog.underlying 90).isSome = true := by kernel_rfl
theorem tok_90 : TOk Tryd.prog 90 { ti := some (true, 5), fi := [some (0, (true, 3)), some (3, (false, 1)), some (4, (false, 1))], si := some [(0, 3), (3, 1), (4, 1)], zv := some (.agg [.int .u32 0, .int .i32 0, .int .u32 0, .nili, .nils]), zok := some 5, by' := some 56, un := true } := ⟨ti_90, trivial, trivial, ⟨fi_90_0, fi_90_1, fi_90_2, trivial⟩, si_90, zv_90, zok_90, by_90, trivial, trivial, trivial, trivial, trivial, trivial, uns_90, trivial⟩
theorem uns_91 : (Tryd.prog.underlying 91).isSome = true := by kernel_rfl
theorem tok_91 : TOk Tryd.prog 91 { ti := some (false, 1), zv := some (.any), zok := some 1, by' := some 8, un := true } := ⟨ti_91, trivial, trivial, trivial, trivial, zv_91, zok_91, by_91, trivial, trivial, trivial, trivial, trivial, trivial, uns_91, trivial⟩
theorem uns_92 : (Tryd.prog.underlying 92).isSome = true := by kernel_rfl
theorem tok_92 : TOk Tryd.prog 92 { ti := some (false, 1), zv := some (.any), zok := some 1, by' := some 8, un := true } := ⟨ti_92, trivial, trivial, trivial, trivial, zv_92, zok_92, by_92, trivial, trivial, trivial, trivial, trivial, trivial, uns_92, trivial⟩
theorem uns_93 : (Tryd.prog.underlying 93).isSome = true := by kernel_rfl
theorem tok_93 : TOk Tryd.prog 93 { ti := some (false, 1), zv := some (.any), zok := some 1, by' := some 8, un := true } := ⟨ti_93, trivial, trivial, trivial, trivial, zv_93, zok_93, by_93, trivial, trivial, trivial, trivial, trivial, trivial, uns_93, trivial⟩
theorem uns_94 : (Tryd.prog.underlying 94).isSome = true := by kernel_rfl
theorem tok_94 : TOk Tryd.prog 94 { ti := some (false, 1), zv := some (.any), zok := some 1, by' := some 8, un := true } := ⟨ti_94, trivial, trivial, trivial, trivial, zv_94, zok_94, by_94, trivial, trivial, trivial, trivial, trivial, trivial, uns_94, trivial⟩
theorem uns_95 : (Tryd.prog.underlying 95).isSome = true := by kernel_rfl
theorem tok_95 : TOk Tryd.prog 95 { ti := some (false, 1), zv := some (.any), zok := some 1, by' := some 8, un := true } := ⟨ti_95, trivial, trivial, trivial, trivial, zv_95, zok_95, by_95, trivial, trivial, trivial, trivial, trivial, trivial, uns_95, trivial⟩
theorem uns_96 : (Tryd.prog.underlying 96).isSome = true := by kernel_rfl
theorem tok_96 : TOk Tryd.prog 96 { ti := some (false, 1), zv := some (.nilp), zok := some 1, by' := some 8, ptr := true, un := true } := ⟨ti_96, trivial, trivial, trivial, trivial, zv_96, zok_96, by_96, trivial, trivial, trivial, trivial, isPtr_96, trivial, uns_96, trivial⟩
theorem uns_97 : (Tryd.prog.underlying 97).isSome = true := by kernel_rfl
theorem tok_97 : TOk Tryd.prog 97 { ti := some (false, 1), ei := some (3, 1), zv := some (.nils), zok := some 1, by' := some 24, sli := true, ni := true, un := true } := ⟨ti_97, ei_97, trivial, trivial, trivial, zv_97, zok_97, by_97, trivial, trivial, isSli_97, trivial, trivial, notInt_97, uns_97, trivial⟩
theorem uns_98 : (Tryd.prog.underlying 98).isSome = true := by kernel_rfl
theorem tok_98 : TOk Tryd.prog 98 { ti := some (false, 1), zv := some (.any), zok := some 1, by' := some 8, un := true } := ⟨ti_98, trivial, trivial, trivial, trivial, zv_98, zok_98, by_98, trivial, trivial, trivial, trivial, trivial, trivial, uns_98, trivial⟩
theorem uns_99 : (Tryd.prog.underlying 99).isSome = true := by kernel_rfl
theorem tok_99 : TOk Tryd.prog 99 { ti := some (false, 1), zv := some (.any), zok := some 1, by' := some 8, un := true } := ⟨ti_99, trivial, trivial, trivial, trivial, zv_99, zok_99, by_99, trivial, trivial, trivial, trivial, trivial, trivial, uns_99, trivial⟩
theorem uns_100 : (Tryd.prog.underlying 100).isSome = true := by kernel_rfl
theorem tok_100 : TOk Tryd.prog 100 { ti := some (false, 1), zv := some (.any), zok := some 1, by' := some 8, un := true } := ⟨ti_100, trivial, trivial, trivial, trivial, zv_100, zok_100, by_100, trivial, trivial, trivial, trivial, trivial, trivial, uns_100, trivial⟩
theorem uns_101 : (Tryd.prog.underlying 101).isSome = true := by kernel_rfl
theorem tok_101 : TOk Tryd.prog 101 { ti := some (false, 1), zv := some (.any), zok := some 1, by' := some 8, un := true } := ⟨ti_101, trivial, trivial, trivial, trivial, zv_101, zok_101, by_101, trivial, trivial, trivial, trivial, trivial, trivial, uns_101, trivial⟩
theorem uns_103 : (Tryd.prog.underlying 103).isSome = true := by kernel_rfl
theorem tok_103 : TOk Tryd.prog 103 { ti := some (false, 1), zv := some (.any), zok := some 1, by' := some 8, un := true } := ⟨ti_103, trivial, trivial, trivial, trivial, zv_103, zok_103, by_103, trivial, trivial, trivial, trivial, trivial, trivial, uns_103, trivial⟩
theorem uns_104 : (Tryd.prog.underlying 104).isSome = true := by kernel_rfl
theorem tok_104 : TOk Tryd.prog 104 { ti := some (false, 1), zv := some (.any), zok := some 1, by' := some 8, un := true } := ⟨ti_104, trivial, trivial, trivial, trivial, zv_104, zok_104, by_104, trivial, trivial, trivial, trivial, trivial, trivial, uns_104, trivial⟩
theorem uns_105 : (Tryd.prog.underlying 105).isSome = true := by kernel_rfl
theorem tok_105 : TOk Tryd.prog 105 { ti := some (false, 1), zv := some (.nilp), zok := some 1, by' := some 8, ptr := true, un := true } := ⟨ti_105, trivial, trivial, trivial, trivial, zv_105, zok_105, by_105, trivial, trivial, trivial, trivial, isPtr_105, trivial, uns_105, trivial⟩
theorem uns_106 : (Tryd.prog.underlying 106).isSome = true := by kernel_rfl
theorem tok_106 : TOk Tryd.prog 106 { ti := some (false, 1), zv := some (.any), zok := some 1, by' := some 8, un := true } := ⟨ti_106, trivial, trivial, trivial, trivial, zv_106, zok_106, by_106, trivial, trivial, trivial, trivial, trivial, trivial, uns_106, trivial⟩
theorem uns_107 : (Tryd.prog.underlying 107).isSome = true := by kernel_rfl
theorem tok_107 : TOk Tryd.prog 107 { ti := some (false, 1), zv := some (.any), zok := some 1, by' := some 8, un := true } := ⟨ti_107, trivial, trivial, trivial, trivial, zv_107, zok_107, by_107, trivial, trivial, trivial, trivial, trivial, trivial, uns_107, trivial⟩
theorem uns_108 : (Tryd.prog.underlying 108).isSome = true := by kernel_rfl
theorem tok_108 : TOk Tryd.prog 108 { ti := some (false, 1), zv := some (.any), zok := some 1, by' := some 8, un := true } := ⟨ti_108, trivial, trivial, trivial, trivial, zv_108, zok_108, by_108, trivial, trivial, trivial, trivial, trivial, trivial, uns_108, trivial⟩
theorem uns_110 : (Tryd.prog.underlying 110).isSome = true := by kernel_rfl
theorem tok_110 : TOk Tryd.prog 110 { ti := some (false, 1), zv := some (.any), zok := some 1, by' := some 8, un := true } := ⟨ti_110, trivial, trivial, trivial, trivial, zv_110, zok_110, by_110, trivial, trivial, trivial, trivial, trivial, trivial, uns_110, trivial⟩
theorem uns_113 : (Tryd.prog.underlying 113).isSome = true := by kernel_rfl
theorem tok_113 : TOk Tryd.prog 113 { ti := some (false, 1), zv := some (.any), zok := some 1, by' := some 8, un := true } := ⟨ti_113, trivial, trivial, trivial, trivial, zv_113, zok_113, by_113, trivial, trivial, trivial, trivial, trivial, trivial, uns_113, trivial⟩
theorem uns_114 : (Tryd.prog.underlying 114).isSome = true := by kernel_rfl
theorem tok_114 : TOk Tryd.prog 114 { ti := some (false, 1), zv := some (.any), zok := some 1, by' := some 8, un := true } := ⟨ti_114, trivial, trivial, trivial, trivial, zv_114, zok_114, by_114, trivial, trivial, trivial, trivial, trivial, trivial, uns_114, trivial⟩
theorem uns_115 : (Tryd.prog.underlying 115).isSome = true := by kernel_rfl
theorem tok_115 : TOk Tryd.prog 115 { ti := some (false, 1), zv := some (.any), zok := some 1, by' := some 8, un := true } := ⟨ti_115, trivial, trivial, trivial, trivial, zv_115, zok_115, by_115, trivial, trivial, trivial, trivial, trivial, trivial, uns_115, trivial⟩
theorem uns_116 : (Tryd.prog.underlying 116).isSome = true := by kernel_rfl
theorem tok_116 : TOk Tryd.prog 116 { ti := some (false, 1), zv := some (.nilp), zok := some 1, by' := some 8, ptr := true, un := true } := ⟨ti_116, trivial, trivial, trivial, trivial, zv_116, zok_116, by_116, trivial, trivial, trivial, trivial, isPtr_116, trivial, uns_116, trivial⟩
theorem uns_117 : (Tryd.prog.underlying 117).isSome = true := by kernel_rfl
theorem tok_117 : TOk Tryd.prog 117 { ti := some (false, 1), zv := some (.any), zok := some 1, by' := some 8, un := true } := ⟨ti_117, trivial, trivial, trivial, trivial, zv_117, zok_117, by_117, trivial, trivial, trivial, trivial, trivial, trivial, uns_117, trivial⟩
theorem uns_118 : (Tryd.prog.underlying 118).isSome = true := by kernel_rfl
theorem tok_118 : TOk Tryd.prog 118 { ti := some (false, 1), zv := some (.nilp), zok := some 1, by' := some 8, ptr := true, un := true } := ⟨ti_118, trivial, trivial, trivial, trivial, zv_118, zok_118, by_118, trivial, trivial, trivial, trivial, isPtr_118, trivial, uns_118, trivial⟩
theorem uns_119 : (Tryd.prog.underlying 119).isSome = true := by kernel_rfl
theorem tok_119 : TOk Tryd.prog 119 { ti := some (false, 1), zv := some (.any), zok := some 1, by' := some 8, un := true } := ⟨ti_119, trivial, trivial, trivial, trivial, zv_119, zok_119, by_119, trivial, trivial, trivial, trivial, trivial, trivial, uns_119, trivial⟩
theorem uns_120 : (Tryd.prog.underlying 120).isSome = true := by kernel_rfl
theorem tok_120 : TOk Tryd.prog 120 { ti := some (false, 1), zv := some (.nilp), zok := some 1, by' := some 8, ptr := true, un := true } := ⟨ti_120, trivial, trivial, trivial, trivial, zv_120, zok_120, by_120, trivial, trivial, trivial, trivial, isPtr_120, trivial, uns_120, trivial⟩
theorem uns_121 : (Tryd.prog.underlying 121).isSome = true := by kernel_rfl
theorem tok_121 : TOk Tryd.prog 121 { ti := some (false, 1), zv := some (.any), zok := some 1, by' := some 8, un := true } := ⟨ti_121, trivial, trivial, trivial, trivial, zv_121, zok_121, by_121, trivial, trivial, trivial, trivial, trivial, trivial, uns_121, trivial⟩
theorem uns_122 : (Tryd.prog.underlying 122).isSome = true := by kernel_rfl
theorem tok_122 : TOk Tryd.prog 122 { ti := some (false, 1), zv := some (.nilp), zok := some 1, by' := some 8, ptr := true, un := true } := ⟨ti_122, trivial, trivial, trivial, trivial, zv_122, zok_122, by_122, trivial, trivial, trivial, trivial, isPtr_122, trivial, uns_122, trivial⟩
theorem uns_123 : (Tryd.prog.underlying 123).isSome = true := by kernel_rfl
theorem tok_123 : TOk Tryd.prog 123 { ti := some (false, 1), zv := some (.any), zok := some 1, by' := some 8, un := true } := ⟨ti_123, trivial, trivial, trivial, trivial, zv_123, zok_123, by_123, trivial, trivial, trivial, trivial, trivial, trivial, uns_123, trivial⟩
theorem uns_124 : (Tryd.prog.underlying 124).isSome = true := by kernel_rfl
theorem tok_124 : TOk Tryd.prog 124 { ti := some (true, 256), ai := some (256, (false, 1)), zv := some (.agg [.int .u8 0, .int .u8 0, .int .u8 0, .int .u8 0, .int .u8 0, .int .u8 0, .int .u8 0, .int .u8 0, .int .u8 0, .int .u8 0, .int .u8 0, .int .u8 0, .int .u8 0, .int .u8 0, .int .u8 0, .int .u8 0, .int .u8 0, .int .u8 0, .int .u8 0, .int .u8 0, .int .u8 0, .int .u8 0, .int .u8 0, .int .u8 0, .int .u8 0, .int .u8 0, .int .u8 0, .int .u8 0, .int .u8 0, .int .u8 0, .int .u8 0, .int .u8 0, .int .u8 0, .int .u8 0, .int .u8 0, .int .u8 0, .int .u8 0, .int .u8 0, .int .u8 0, .int .u8 0, .int .u8 0, .int .u8 0, .int .u8 0, .int .u8 0, .int .u8 0, .int .u8 0, .int .u8 0, .int .u8 0, .int .u8 0, .int .u8 0, .int .u8 0, .int .u8 0, .int .u8 0, .int .u8 0, .int .u8 0, .int .u8 0, .int .u8 0, .int .u8 0, .int .u8 0, .int .u8 0, .int .u8 0, .int .u8 0, .int .u8 0, .int .u8 0, .int .u8 0, .int .u8 0, .int .u8 0, .int .u8 0, .int .u8 0, .int .u8 0, .int .u8 0, .int .u8 0, .int .u8 0, .int .u8 0, .int .u8 0, .int .u8 0, .int .u8 0, .int .u8 0, .int .u8 0, .int .u8 0, .int .u8 0, .int .u8 0, .int .u8 0, .int .u8 0, .int .u8 0, .int .u8 0, .int .u8 0, .int .u8 0, .int .u8 0, .int .u8 0, .int .u8 0, .int .u8 0, .int .u8 0, .int .u8 0, .int .u8 0, .int .u8 0, .int .u8 0, .int .u8 0, .int .u8 0, .int .u8 0, .int .u8 0, .int .u8 0, .int .u8 0, .int .u8 0, .int .u8 0, .int .u8 0, .int .u8 0, .int .u8 0, .int .u8 0, .int .u8 0, .int .u8 0, .int .u8 0, .int .u8 0, .int .u8 0, .int .u8 0, .int .u8 0, .int .u8 0, .int .u8 0, .int .u8 0, .int .u8 0, .int .u8 0, .int .u8 0, .int .u8 0, .int .u8 0, .int .u8 0, .int .u8 0, .int .u8 0, .int .u8 0, .int .u8 0, .int .u8 0, .int .u8 0, .int .u8 0, .int .u8 0, .int .u8 0, .int .u8 0, .int .u8 0, .int .u8 0, .int .u8 0, .int .u8 0, .int .u8 0, .int .u8 0, .int .u8 0, .int .u8 0, .int .u8 0, .int .u8 0, .int .u8 0, .int .u8 0, .int .u8 0, .int .u8 0, .int .u8 0, .int .u8 0, .int .u8 0, .int .u8 0, .int .u8 0, .int .u8 0, .int .u8 0, .int .u8 0, .int .u8 0, .int .u8 0, .int .u8 0, .int .u8 0, .int .u8 0, .int .u8 0, .int .u8 0, .int .u8 0, .int .u8 0, .int .u8 0, .int .u8 0, .int .u8 0, .int .u8 0, .int .u8 0, .int .u8 0, .int .u8 0, .int .u8 0, .int .u8 0, .int .u8 0, .int .u8 0, .int .u8 0, .int .u8 0, .int .u8 0, .int .u8 0, .int .u8 0, .int .u8 0, .int .u8 0, .int .u8 0, .int .u8 0, .int .u8 0, .int .u8 0, .int .u8 0, .int .u8 0, .int .u8 0, .int .u8 0, .int .u8 0, .int .u8 0, .int .u8 0, .int .u8 0, .int .u8 0, .int .u8 0, .int .u8 0, .int .u8 0, .int .u8 0, .int .u8 0, .int .u8 0, .int .u8 0, .int .u8 0, .int .u8 0, .int .u8 0, .int .u8 0, .int .u8 0, .int .u8 0, .int .u8 0, .int .u8 0, .int .u8 0, .int .u8 0, .int .u8 0, .int .u8 0, .int .u8 0, .int .u8 0, .int .u8 0, .int .u8 0, .int .u8 0, .int .u8 0, .int .u8 0, .int .u8 0, .int .u8 0, .int .u8 0, .int .u8 0, .int .u8 0, .int .u8 0, .int .u8 0, .int .u8 0, .int .u8 0, .int .u8 0, .int .u8 0, .int .u8 0, .int .u8 0, .int .u8 0, .int .u8 0, .int .u8 0, .int .u8 0, .int .u8 0, .int .u8 0, .int .u8 0, .int .u8 0, .int .u8 0, .int .u8 0, .int .u8 0, .int .u8 0, .int .u8 0, .int .u8 0, .int .u8 0, .int .u8 0, .int .u8 0, .int .u8 0, .int .u8 0, .int .u8 0]), zok := some 256, by' := some 256, un := true } := ⟨ti_124, trivial, ai_124, trivial, trivial, zv_124, zok_124, by_124, trivial, trivial, trivial, trivial, trivial, trivial, uns_124, trivial⟩
theorem uns_125 : (Tryd.prog.underlying 125).isSome = true := by kernel_rfl
theorem tok_125 : TOk Tryd.prog 125 { ti := some (true, 256), ai := some (256, (false, 1)), zv := some (.agg [.int .u8 0, .int .u8 0, .int .u8 0, .int .u8 0, .int .u8 0, .int .u8 0, .int .u8 0, .int .u8 0, .int .u8 0, .int .u8 0, .int .u8 0, .int .u8 0, .int .u8 0, .int .u8 0, .int .u8 0, .int .u8 0, .int .u8 0, .int .u8 0, .int .u8 0, .int .u8 0, .int .u8 0, .int .u8 0, .int .u8 0, .int .u8 0, .int .u8 0, .int .u8 0, .int .u8 0, .int .u8 0, .int .u8 0, .int .u8 0, .int .u8 0, .int .u8 0, .int .u8 0, .int .u8 0, .int .u8 0, .int .u8 0, .int .u8 0, .int .u8 0, .int .u8 0, .int .u8 0, .int .u8 0, .int .u8 0, .int .u8 0, .int .u8 0, .int .u8 0, .int .u8 0, .int .u8 0, .int .u8 0, .int .u8 0, .int .u8 0, .int .u8 0, .int .u8 0, .int .u8 0, .int .u8 0, .int .u8 0, .int .u8 0, .int .u8 0, .int .u8 0, .int .u8 0, .int .u8 0, .int .u8 0, .int .u8 0, .int .u8 0, .int .u8 0, .int .u8 0, .int .u8 0, .int .u8 0, .int .u8 0, .int .u8 0, .int .u8 0, .int .u8 0, .int .u8 0, .int .u8 0, .int .u8 0, .int .u8 0, .int .u8 0, .int .u8 0, .int .u8 0, .int .u8 0, .int .u8 0, .int .u8 0, .int .u8 0, .int .u8 0, .int .u8 0, .int .u8 0, .int .u8 0, .int .u8 0, .int .u8 0, .int .u8 0, .int .u8 0, .int .u8 0, .int .u8 0, .int .u8 0, .int .u8 0, .int .u8 0, .int .u8 0, .int .u8 0, .int .u8 0, .int .u8 0, .int .u8 0, .int .u8 0, .int .u8 0, .int .u8 0, .int .u8 0, .int .u8 0, .int .u8 0, .int .u8 0, .int .u8 0, .int .u8 0, .int .u8 0, .int .u8 0, .int .u8 0, .int .u8 0, .int .u8 0, .int .u8 0, .int .u8 0, .int .u8 0, .int .u8 0, .int .u8 0, .int .u8 0, .int .u8 0, .int .u8 0, .int .u8 0, .int .u8 0, .int .u8 0, .int .u8 0, .int .u8 0, .int .u8 0, .int .u8 0, .int .u8 0, .int .u8 0, .int .u8 0, .int .u8 0, .int .u8 0, .int .u8 0, .int .u8 0, .int .u8 0, .int .u8 0, .int .u8 0, .int .u8 0, .int .u8 0, .int .u8 0, .int .u8 0, .int .u8 0, .int .u8 0, .int .u8 0, .int .u8 0, .int .u8 0, .int .u8 0, .int .u8 0, .int .u8 0, .int .u8 0, .int .u8 0, .int .u8 0, .int .u8 0, .int .u8 0, .int .u8 0, .int .u8 0, .int .u8 0, .int .u8 0, .int .u8 0, .int .u8 0, .int .u8 0, .int .u8 0, .int .u8 0, .int .u8 0, .int .u8 0, .int .u8 0, .int .u8 0, .int .u8 0, .int .u8 0, .int .u8 0, .int .u8 0, .int .u8 0, .int .u8 0, .int .u8 0, .int .u8 0, .int .u8 0, .int .u8 0, .int .u8 0, .int .u8 0, .int .u8 0, .int .u8 0, .int .u8 0, .int .u8 0, .int .u8 0, .int .u8 0, .int .u8 0, .int .u8 0, .int .u8 0, .int .u8 0, .int .u8 0, .int .u8 0, .int .u8 0, .int .u8 0, .int .u8 0, .int .u8 0, .int .u8 0, .int .u8 0, .int .u8 0, .int .u8 0, .int .u8 0, .int .u8 0, .int .u8 0, .int .u8 0, .int .u8 0, .int .u8 0, .int .u8 0, .int .u8 0, .int .u8 0, .int .u8 0, .int .u8 0, .int .u8 0, .int .u8 0, .int .u8 0, .int .u8 0, .int .u8 0, .int .u8 0, .int .u8 0, .int .u8 0, .int .u8 0, .int .u8 0, .int .u8 0, .int .u8 0, .int .u8 0, .int .u8 0, .int .u8 0, .int .u8 0, .int .u8 0, .int .u8 0, .int .u8 0, .int .u8 0, .int .u8 0, .int .u8 0, .int .u8 0, .int .u8 0, .int .u8 0, .int .u8 0, .int .u8 0, .int .u8 0, .int .u8 0, .int .u8 0, .int .u8 0, .int .u8 0, .int .u8 0, .int .u8 0, .int .u8 0, .int .u8 0, .int .u8 0, .int .u8 0, .int .u8 0, .int .u8 0, .int .u8 0, .int .u8 0, .int .u8 0, .int .u8 0]), zok := some 256, by' := some 256, un := true } := ⟨ti_125, trivial, ai_125, trivial, trivial, zv_125, zok_125, by_125, trivial, trivial, trivial, trivial, trivial, trivial, uns_125, trivial⟩
theorem uns_126 : (Tryd.prog.underlying 126).isSome = true := by kernel_rfl
theorem tok_126 : TOk Tryd.prog 126 { ti := some (false, 1), zv := some (.nilp), zok := some 1, by' := some 8, ptr := true, un := true } := ⟨ti_126, trivial, trivial, trivial, trivial, zv_126, zok_126, by_126, trivial, trivial, trivial, trivial, isPtr_126, trivial, uns_126, trivial⟩
theorem uns_127 : (Tryd.prog.underlying 127).isSome = true := by kernel_rfl
theorem tok_127 : TOk Tryd.prog 127 { ti := some (true, 256), ai := some (256, (false, 1)), zv := some (.agg [.nils, .nils, .nils, .nils, .nils, .nils, .nils, .nils, .nils, .nils, .nils, .nils, .nils, .nils, .nils, .nils, .nils, .nils, .nils, .nils, .nils, .nils, .nils, .nils, .nils, .nils, .nils, .nils, .nils, .nils, .nils, .nils, .nils, .nils, .nils, .nils, .nils, .nils, .nils, .nils, .nils, .nils, .nils, .nils, .nils, .nils, .nils, .nils, .nils, .nils, .nils, .nils, .nils, .nils, .nils, .nils, .nils, .nils, .nils, .nils, .nils, .nils, .nils, .nils, .nils, .nils, .nils, .nils, .nils, .nils, .nils, .nils, .nils, .nils, .nils, .nils, .nils, .nils, .nils, .nils, .nils, .nils, .nils, .nils, .nils, .nils, .nils, .nils, .nils, .nils, .nils, .nils, .nils, .nils, .nils, .nils, .nils, .nils, .nils, .nils, .nils, .nils, .nils, .nils, .nils, .nils, .nils, .nils, .nils, .nils, .nils, .nils, .nils, .nils, .nils, .nils, .nils, .nils, .nils, .nils, .nils, .nils, .nils, .nils, .nils, .nils, .nils, .nils, .nils, .nils, .nils, .nils, .nils, .nils, .nils, .nils, .nils, .nils, .nils, .nils, .nils, .nils, .nils, .nils, .nils, .nils, .nils, .nils, .nils, .nils, .nils, .nils, .nils, .nils, .nils, .nils, .nils, .nils, .nils, .nils, .nils, .nils, .nils, .nils, .nils, .nils, .nils, .nils, .nils, .nils, .nils, .nils, .nils, .nils, .nils, .nils, .nils, .nils, .nils, .nils, .nils, .nils, .nils, .nils, .nils, .nils, .nils, .nils, .nils, .nils, .nils, .nils, .nils, .nils, .nils, .nils, .nils, .nils, .nils, .nils, .nils, .nils, .nils, .nils, .nils, .nils, .nils, .nils, .nils, .nils, .nils, .nils, .nils, .nils, .nils, .nils, .nils, .nils, .nils, .nils, .nils, .nils, .nils, .nils, .nils, .nils, .nils, .nils, .nils, .nils, .nils, .nils, .nils, .nils, .nils, .nils, .nils, .nils, .nils, .nils, .nils, .nils, .nils, .nils, .nils, .nils, .nils, .nils, .nils, .nils, .nils, .nils, .nils, .nils, .nils, .nils]), zok := some 256, by' := some 6144, un := true } := ⟨ti_127, trivial, ai_127, trivial, trivial, zv_127, zok_127, by_127, trivial, trivial, trivial, trivial, trivial, trivial, uns_127, trivial⟩
theorem uns_128 : (Tryd.prog.underlying 128).isSome = true := by kernel_rfl
theorem tok_128 : TOk Tryd.prog 128 { ti := some (true, 257), fi := [some (0, (true, 256)), some (256, (false, 1))], si := some [(0, 256), (256, 1)], zv := some (.agg [.nils, .nils, .nils, .nils, .nils, .nils, .nils, .nils, .nils, .nils, .nils, .nils, .nils, .nils, .nils, .nils, .nils, .nils, .nils, .nils, .nils, .nils, .nils, .nils, .nils, .nils, .nils, .nils, .nils, .nils, .nils, .nils, .nils, .nils, .nils, .nils, .nils, .nils, .nils, .nils, .nils, .nils, .nils, .nils, .nils, .nils, .nils, .nils, .nils, .nils, .nils, .nils, .nils, .nils, .nils, .nils, .nils, .nils, .nils, .nils, .nils, .nils, .nils, .nils, .nils, .nils, .nils, .nils, .nils, .nils, .nils, .nils, .nils, .nils, .nils, .nils, .nils, .nils, .nils, .nils, .nils, .nils, .nils, .nils, .nils, .nils, .nils, .nils, .nils, .nils, .nils, .nils, .nils, .nils, .nils, .nils, .nils, .nils, .nils, .nils, .nils, .nils, .nils, .nils, .nils, .nils, .nils, .nils, .nils, .nils, .nils, .nils, .nils, .nils, .nils, .nils, .nils, .nils, .nils, .nils, .nils, .nils, .nils, .nils, .nils, .nils, .nils, .nils, .nils, .nils, .nils, .nils, .nils, .nils, .nils, .nils, .nils, .nils, .nils, .nils, .nils, .nils, .nils, .nils, .nils, .nils, .nils, .nils, .nils, .nils, .nils, .nils, .nils, .nils, .nils, .nils, .nils, .nils, .nils, .nils, .nils, .nils, .nils, .nils, .nils, .nils, .nils, .nils, .nils, .nils, .nils, .nils, .nils, .nils, .nils, .nils, .nils, .nils, .nils, .nils, .nils, .nils, .nils, .nils, .nils, .nils, .nils, .nils, .nils, .nils, .nils, .nils, .nils, .nils, .nils, .nils, .nils, .nils, .nils, .nils, .nils, .nils, .nils, .nils, .nils, .nils, .nils, .nils, .nils, .nils, .nils, .nils, .nils, .nils, .nils, .nils, .nils, .nils, .nils, .nils, .nils, .nils, .nils, .nils, .nils, .nils, .nils, .nils, .nils, .nils, .nils, .nils, .nils, .nils, .nils, .nils, .nils, .nils, .nils, .nils, .nils, .nils, .nils, .nils, .nils, .nils, .nils, .nils, .nils, .nils, .nils, .nils, .nils, .nils, .nils, .nils, .nils]), zok := some 257, by' := some 6168, un := true } := ⟨ti_128, trivial, trivial, ⟨fi_128_0, fi_128_1, trivial⟩, si_128, zv_128, zok_128, by_128, trivial, trivial, trivial, trivial, trivial, trivial, uns_128, trivial⟩
theorem uns_129 : (Tryd.prog.underlying 129).isSome = true := by kernel_rfl
theorem tok_129 : TOk Tryd.prog 129 { ti := some (true, 257), fi := [some (0, (true, 256)), some (256, (false, 1))], si := some [(0, 256), (256, 1)], zv := some (.agg [.nils, .nils, .nils, .nils, .nils, .nils, .nils, .nils, .nils, .nils, .nils, .nils, .nils, .nils, .nils, .nils, .nils, .nils, .nils, .nils, .nils, .nils, .nils, .nils, .nils, .nils, .nils, .nils, .nils, .nils, .nils, .nils, .nils, .nils, .nils, .nils, .nils, .nils, .nils, .nils, .nils, .nils, .nils, .nils, .nils, .nils, .nils, .nils, .nils, .nils, .nils, .nils, .nils, .nils, .nils, .nils, .nils, .nils, .nils, .nils, .nils, .nils, .nils, .nils, .nils, .nils, .nils, .nils, .nils, .nils, .nils, .nils, .nils, .nils, .nils, .nils, .nils, .nils, .nils, .nils, .nils, .nils, .nils, .nils, .nils, .nils, .nils, .nils, .nils, .nils, .nils, .nils, .nils, .nils, .nils, .nils, .nils, .nils, .nils, .nils, .nils, .nils, .nils, .nils, .nils, .nils, .nils, .nils, .nils, .nils, .nils, .nils, .nils, .nils, .nils, .nils, .nils, .nils, .nils, .nils, .nils, .nils, .nils, .nils, .nils, .nils, .nils, .nils, .nils, .nils, .nils, .nils, .nils, .nils, .nils, .nils, .nils, .nils, .nils, .nils, .nils, .nils, .nils, .nils, .nils, .nils, .nils, .nils, .nils, .nils, .nils, .nils, .nils, .nils, .nils, .nils, .nils, .nils, .nils, .nils, .nils, .nils, .nils, .nils, .nils, .nils, .nils, .nils, .nils, .nils, .nils, .nils, .nils, .nils, .nils, .nils, .nils, .nils, .nils, .nils, .nils, .nils, .nils, .nils, .nils, .nils, .nils, .nils, .nils, .nils, .nils, .nils, .nils, .nils, .nils, .nils, .nils, .nils, .nils, .nils, .nils, .nils, .nils, .nils, .nils, .nils, .nils, .nils, .nils, .nils, .nils, .nils, .nils, .nils, .nils, .nils, .nils, .nils, .nils, .nils, .nils, .nils, .nils, .nils, .nils, .nils, .nils, .nils, .nils, .nils, .nils, .nils, .nils, .nils, .nils, .nils, .nils, .nils, .nils, .nils, .nils, .nils, .nils, .nils, .nils, .nils, .nils, .nils, .nils, .nils, .nils, .nils, .nils, .nils, .nils, .nils, .nils]), zok := some 257, by' := some 6168, un := true } := ⟨ti_129, trivial, trivial, ⟨fi_129_0, fi_129_1, trivial⟩, si_129, zv_129, zok_129, by_129, trivial, trivial, trivial, trivial, trivial, trivial, uns_129, trivial⟩
theorem uns_130 : (Tryd.prog.underlying 130).isSome = true := by kernel_rfl
theorem tok_130 : TOk Tryd.prog 130 { ti := some (false, 1), zv := some (.nilp), zok := some 1, by' := some 8, ptr := true, un := true } := ⟨ti_130, trivial, trivial, trivial, trivial, zv_130, zok_130, by_130, trivial, trivial, trivial, trivial, isPtr_130, trivial, uns_130, trivial⟩
theorem uns_131 : (Tryd.prog.underlying 131).isSome = true := by kernel_rfl
theorem tok_131 : TOk Tryd.prog 131 { ti := some (false, 1), zv := some (.any), zok := some 1, by' := some 8, un := true } := ⟨ti_131, trivial, trivial, trivial, trivial, zv_131, zok_131, by_131, trivial, trivial, trivial, trivial, trivial, trivial, uns_131, trivial⟩
theorem uns_132 : (Tryd.prog.underlying 132).isSome = true := by kernel_rfl
theorem tok_132 : TOk Tryd.prog 132 { ti := some (false, 1), zv := some (.int .u64 0), zok := some 1, by' := some 8, ik := some .u64, un := true } := ⟨ti_132, trivial, trivial, trivial, trivial, zv_132, zok_132, by_132, intK_132, trivial, trivial, trivial, trivial, trivial, uns_132, trivial⟩
theorem uns_133 : (Tryd.prog.underlying 133).isSome = true := by kernel_rfl
theorem tok_133 : TOk Tryd.prog 133 { ti := some (false, 1), zv := some (.any), zok := some 1, by' := some 8, un := true } := ⟨ti_133, trivial, trivial, trivial, trivial, zv_133, zok_133, by_133, trivial, trivial, trivial, trivial, trivial, trivial, uns_133, trivial⟩
theorem uns_134 : (Tryd.prog.underlying 134).isSome = true := by kernel_rfl
theorem tok_134 : TOk Tryd.prog 134 { ti := some (true, 2), fi := [some (0, (false, 1)), some (1, (false, 1))], si := some [(0, 1), (1, 1)], zv := some (.agg [.int .u8 0, .int .u8 0]), zok := some 2, by' := some 2, un := true } := ⟨ti_134, trivial, trivial, ⟨fi_134_0, fi_134_1, trivial⟩, si_134, zv_134, zok_134, by_134, trivial, trivial, trivial, trivial, trivial, trivial, uns_134, trivial⟩
theorem uns_135 : (Tryd.prog.underlying 135).isSome = true := by kernel_rfl
theorem tok_135 : TOk Tryd.prog 135 { ti := some (true, 2), fi := [some (0, (false, 1)), some (1, (false, 1))], si := some [(0, 1), (1, 1)], zv := some (.agg [.int .u8 0, .int .u8 0]), zok := some 2, by' := some 2, un := true } := ⟨ti_135, trivial, trivial, ⟨fi_135_0, fi_135_1, trivial⟩, si_135, zv_135, zok_135, by_135, trivial, trivial, trivial, trivial, trivial, trivial, uns_135, trivial⟩
theorem uns_136 : (Tryd.prog.underlying 136).isSome = true := by kernel_rfl
theorem tok_136 : TOk Tryd.prog 136 { ti := some (true, 32), ai := some (16, (true, 2)), zv := some (.agg [.int .u8 0, .int .u8 0, .int .u8 0, .int .u8 0, .int .u8 0, .int .u8 0, .int .u8 0, .int .u8 0, .int .u8 0, .int .u8 0, .int .u8 0, .int .u8 0, .int .u8 0, .int .u8 0, .int .u8 0, .int .u8 0, .int .u8 0, .int .u8 0, .int .u8 0, .int .u8 0, .int .u8 0, .int .u8 0, .int .u8 0, .int .u8 0, .int .u8 0, .int .u8 0, .int .u8 0, .int .u8 0, .int .u8 0, .int .u8 0, .int .u8 0, .int .u8 0]), zok := some 32, by' := some 32, un := true } := ⟨ti_136, trivial, ai_136, trivial, trivial, zv_136, zok_136, by_136, trivial, trivial, trivial, trivial, trivial, trivial, uns_136, trivial⟩
theorem uns_137 : (Tryd.prog.underlying 137).isSome = true := by kernel_rfl
theorem tok_137 : TOk Tryd.prog 137 { ti := some (false, 1), zv := some (.nilp), zok := some 1, by' := some 8, ptr := true, un := true } := ⟨ti_137, trivial, trivial, trivial, trivial, zv_137, zok_137, by_137, trivial, trivial, trivial, trivial, isPtr_137, trivial, uns_137, trivial⟩
theorem uns_138 : (Tryd.prog.underlying 138).isSome = true := by kernel_rfl
theorem tok_138 : TOk Tryd.prog 138 { ti := some (false, 1), zv := some (.any), zok := some 1, by' := some 8, un := true } := ⟨ti_138, trivial, trivial, trivial, trivial, zv_138, zok_138, by_138, trivial, trivial, trivial, trivial, trivial, trivial, uns_138, trivial⟩
theorem uns_139 : (Tryd.prog.underlying 139).isSome = true := by kernel_rfl
theorem tok_139 : TOk Tryd.prog 139 { ti := some (false, 1), zv := some (.any), zok := some 1, by' := some 8, un := true } := ⟨ti_139, trivial, trivial, trivial, trivial, zv_139, zok_139, by_139, trivial, trivial, trivial, trivial, trivial, trivial, uns_139, trivial⟩
theorem uns_140 : (Tryd.prog.underlying 140).isSome = true := by kernel_rfl
theorem tok_140 : TOk Tryd.prog 140 { ti := some (false, 1), zv := some (.nilp), zok := some 1, by' := some 8, ptr := true, un := true } := ⟨ti_140, trivial, trivial, trivial, trivial, zv_140, zok_140, by_140, trivial, trivial, trivial, trivial, isPtr_140, trivial, uns_140, trivial⟩
theorem uns_141 : (Tryd.prog.underlying 141).isSome = true := by kernel_rfl
theorem tok_141 : TOk Tryd.prog 141 { ti := some (false, 1), zv := some (.any), zok := some 1, by' := some 8, un := true } := ⟨ti_141, trivial, trivial, trivial, trivial, zv_141, zok_141, by_141, trivial, trivial, trivial, trivial, trivial, trivial, uns_141, trivial⟩
theorem uns_142 : (Tryd.prog.underlying 142).isSome = true := by kernel_rfl
theorem tok_142 : TOk Tryd.prog 142 { ti := some (true, 2), fi := [some (0, (false, 1)), some (1, (false, 1))], si := some [(0, 1), (1, 1)], zv := some (.agg [.nilp, .str []]), zok := some 2, by' := some 24, un := true } := ⟨ti_142, trivial, trivial, ⟨fi_142_0, fi_142_1, trivial⟩, si_142, zv_142, zok_142, by_142, trivial, trivial, trivial, trivial, trivial, trivial, uns_142, trivial⟩
theorem uns_143 : (Tryd.prog.underlying 143).isSome = true := by kernel_rfl
theorem tok_143 : TOk Tryd.prog 143 { ti := some (true, 2), fi := [some (0, (false, 1)), some (1, (false, 1))], si := some [(0, 1), (1, 1)], zv := some (.agg [.nilp, .str []]), zok := some 2, by' := some 24, un := true } := ⟨ti_143, trivial, trivial, ⟨fi_143_0, fi_143_1, trivial⟩, si_143, zv_143, zok_143, by_143, trivial, trivial, trivial, trivial, trivial, trivial, uns_143, trivial⟩
theorem uns_144 : (Tryd.prog.underlying 144).isSome = true := by kernel_rfl
theorem tok_144 : TOk Tryd.prog 144 { ti := some (false, 1), zv := some (.nilp), zok := some 1, by' := some 8, ptr := true, un := true } := ⟨ti_144, trivial, trivial, trivial, trivial, zv_144, zok_144, by_144, trivial, trivial, trivial, trivial, isPtr_144, trivial, uns_144, trivial⟩
theorem uns_145 : (Tryd.prog.underlying 145).isSome = true := by kernel_rfl
theorem tok_145 : TOk Tryd.prog 145 { ti := some (false, 1), ei := some (144, 1), zv := some (.nils), zok := some 1, by' := some 24, sli := true, ni := true, un := true } := ⟨ti_145, ei_145, trivial, trivial, trivial, zv_145, zok_145, by_145, trivial, trivial, isSli_145, trivial, trivial, notInt_145, uns_145, trivial⟩
theorem uns_146 : (Tryd.prog.underlying 146).isSome = true := by kernel_rfl
theorem tok_146 : TOk Tryd.prog 146 { ti := some (true, 5), fi := [some (0, (false, 1)), some (1, (false, 1)), some (2, (false, 1)), some (3, (false, 1)), some (4, (false, 1))], si := some [(0, 1), (1, 1), (2, 1), (3, 1), (4, 1)], zv := some (.agg [.str [], .int .i64 0, .str [], .nilp, .nils]), zok := some 5, by' := some 72, un := true } := ⟨ti_146, trivial, trivial, ⟨fi_146_0, fi_146_1, fi_146_2, fi_146_3, fi_146_4, trivial⟩, si_146, zv_146, zok_146, by_146, trivial, trivial, trivial, trivial, trivial, trivial, uns_146, trivial⟩
theorem uns_147 : (Tryd.prog.underlying 147).isSome = true := by kernel_rfl
theorem tok_147 : TOk Tryd.prog 147 { ti := some (true, 5), fi := [some (0, (false, 1)), some (1, (false, 1)), some (2, (false, 1)), some (3, (false, 1)), some (4, (false, 1))], si := some [(0, 1), (1, 1), (2, 1), (3, 1), (4, 1)], zv := some (.agg [.str [], .int .i64 0, .str [], .nilp, .nils]), zok := some 5, by' := some 72, un := true } := ⟨ti_147, trivial, trivial, ⟨fi_147_0, fi_147_1, fi_147_2, fi_147_3, fi_147_4, trivial⟩, si_147, zv_147, zok_147, by_147, trivial, trivial, trivial, trivial, trivial, trivial, uns_147, trivial⟩
theorem uns_148 : (Tryd.prog.underlying 148).isSome = true := by kernel_rfl
theorem tok_148 : TOk Tryd.prog 148 { ti := some (true, 262), fi := [some (0, (true, 5)), some (5, (false, 1)), some (6, (true, 256))], si := some [(0, 5), (5, 1), (6, 256)], zv := some (.agg [.str [], .int .i64 0, .str [], .nilp, .nils, .int .i64 0, .int .u8 0, .int .u8 0, .int .u8 0, .int .u8 0, .int .u8 0, .int .u8 0, .int .u8 0, .int .u8 0, .int .u8 0, .int .u8 0, .int .u8 0, .int .u8 0, .int .u8 0, .int .u8 0, .int .u8 0, .int .u8 0, .int .u8 0, .int .u8 0, .int .u8 0, .int .u8 0, .int .u8 0, .int .u8 0, .int .u8 0, .int .u8 0, .int .u8 0, .int .u8 0, .int .u8 0, .int .u8 0, .int .u8 0, .int .u8 0, .int .u8 0, .int .u8 0, .int .u8 0, .int .u8 0, .int .u8 0, .int .u8 0, .int .u8 0, .int .u8 0, .int .u8 0, .int .u8 0, .int .u8 0, .int .u8 0, .int .u8 0, .int .u8 0, .int .u8 0, .int .u8 0, .int .u8 0, .int .u8 0, .int .u8 0, .int .u8 0, .int .u8 0, .int .u8 0, .int .u8 0, .int .u8 0, .int .u8 0, .int .u8 0, .int .u8 0, .int .u8 0, .int .u8 0, .int .u8 0, .int .u8 0, .int .u8 0, .int .u8 0, .int .u8 0, .int .u8 0, .int .u8 0, .int .u8 0, .int .u8 0, .int .u8 0, .int .u8 0, .int .u8 0, .int .u8 0, .int .u8 0, .int .u8 0, .int .u8 0, .int .u8 0, .int .u8 0, .int .u8 0, .int .u8 0, .int .u8 0, .int .u8 0, .int .u8 0, .int .u8 0, .int .u8 0, .int .u8 0, .int .u8 0, .int .u8 0, .int .u8 0, .int .u8 0, .int .u8 0, .int .u8 0, .int .u8 0, .int .u8 0, .int .u8 0, .int .u8 0, .int .u8 0, .int .u8 0, .int .u8 0, .int .u8 0, .int .u8 0, .int .u8 0, .int .u8 0, .int .u8 0, .int .u8 0, .int .u8 0, .int .u8 0, .int .u8 0, .int .u8 0, .int .u8 0, .int .u8 0, .int .u8 0, .int .u8 0, .int .u8 0, .int .u8 0, .int .u8 0, .int .u8 0, .int .u8 0, .int .u8 0, .int .u8 0, .int .u8 0, .int .u8 0, .int .u8 0, .int .u8 0, .int .u8 0, .int .u8 0, .int .u8 0, .int .u8 0, .int .u8 0, .int .u8 0, .int .u8 0, .int .u8 0, .int .u8 0, .int .u8 0, .int .u8 0, .int .u8 0, .int .u8 0, .int .u8 0, .int .u8 0, .int .u8 0, .int .u8 0, .int .u8 0, .int .u8 0, .int .u8 0, .int .u8 0, .int .u8 0, .int .u8 0, .int .u8 0, .int .u8 0, .int .u8 0, .int .u8 0, .int .u8 0, .int .u8 0, .int .u8 0, .int .u8 0, .int .u8 0, .int .u8 0, .int .u8 0, .int .u8 0, .int .u8 0, .int .u8 0, .int .u8 0, .int .u8 0, .int .u8 0, .int .u8 0, .int .u8 0, .int .u8 0, .int .u8 0, .int .u8 0, .int .u8 0, .int .u8 0, .int .u8 0, .int .u8 0, .int .u8 0, .int .u8 0, .int .u8 0, .int .u8 0, .int .u8 0, .int .u8 0, .int .u8 0, .int .u8 0, .int .u8 0, .int .u8 0, .int .u8 0, .int .u8 0, .int .u8 0, .int .u8 0, .int .u8 0, .int .u8 0, .int .u8 0, .int .u8 0, .int .u8 0, .int .u8 0, .int .u8 0, .int .u8 0, .int .u8 0, .int .u8 0, .int .u8 0, .int .u8 0, .int .u8 0, .int .u8 0, .int .u8 0, .int .u8 0, .int .u8 0, .int .u8 0, .int .u8 0, .int .u8 0, .int .u8 0, .int .u8 0, .int .u8 0, .int .u8 0, .int .u8 0, .int .u8 0, .int .u8 0, .int .u8 0, .int .u8 0, .int .u8 0, .int .u8 0, .int .u8 0, .int .u8 0, .int .u8 0, .int .u8 0, .int .u8 0, .int .u8 0, .int .u8 0, .int .u8 0, .int .u8 0, .int .u8 0, .int .u8 0, .int .u8 0, .int .u8 0, .int .u8 0, .int .u8 0, .int .u8 0, .int .u8 0, .int .u8 0, .int .u8 0, .int .u8 0, .int .u8 0, .int .u8 0, .int .u8 0, .int .u8 0, .int .u8 0, .int .u8 0, .int .u8 0, .int .u8 0, .int .u8 0, .int .u8 0, .int .u8 0, .int .u8 0, .int .u8 0, .int .u8 0, .int .u8 0, .int .u8 0, .int .u8 0, .int .u8 0, .int .u8 0]), zok := some 262, by' := some 336, un := true } := ⟨ti_148, trivial, trivial, ⟨fi_148_0, fi_148_1, fi_148_2, trivial⟩, si_148, zv_148, zok_148, by_148, trivial, trivial, trivial, trivial, trivial, trivial, uns_148, trivial⟩
theorem uns_149 : (Tryd.prog.underlying 149).isSome = true := by kernel_rfl
theorem tok_149 : TOk Tryd.prog 149 { ti := some (true, 262), fi := [some (0, (true, 5)), some (5, (false, 1)), some (6, (true, 256))], si := some [(0, 5), (5, 1), (6, 256)], zv := some (.agg [.str [], .int .i64 0, .str [], .nilp, .nils, .int .i64 0, .int .u8 0, .int .u8 0, .int .u8 0, .int .u8 0, .int .u8 0, .int .u8 0, .int .u8 0, .int .u8 0, .int .u8 0, .int .u8 0, .int .u8 0, .int .u8 0, .int .u8 0, .int .u8 0, .int .u8 0, .int .u8 0, .int .u8 0, .int .u8 0, .int .u8 0, .int .u8 0, .int .u8 0, .int .u8 0, .int .u8 0, .int .u8 0, .int .u8 0, .int .u8 0, .int .u8 0, .int .u8 0, .int .u8 0, .int .u8 0, .int .u8 0, .int .u8 0, .int .u8 0, .int .u8 0, .int .u8 0, .int .u8 0, .int .u8 0, .int .u8 0, .int .u8 0, .int .u8 0, .int .u8 0, .int .u8 0, .int .u8 0, .int .u8 0, .int .u8 0, .int .u8 0, .int .u8 0, .int .u8 0, .int .u8 0, .int .u8 0, .int .u8 0, .int .u8 0, .int .u8 0, .int .u8 0, .int .u8 0, .int .u8 0, .int .u8 0, .int .u8 0, .int .u8 0, .int .u8 0, .int .u8 0, .int .u8 0, .int .u8 0, .int .u8 0, .int .u8 0, .int .u8 0, .int .u8 0, .int .u8 0, .int .u8 0, .int .u8 0, .int .u8 0, .int .u8 0, .int .u8 0, .int .u8 0, .int .u8 0, .int .u8 0, .int .u8 0, .int .u8 0, .int .u8 0, .int .u8 0, .int .u8 0, .int .u8 0, .int .u8 0, .int .u8 0, .int .u8 0, .int .u8 0, .int .u8 0, .int .u8 0, .int .u8 0, .int .u8 0, .int .u8 0, .int .u8 0, .int .u8 0, .int .u8 0, .int .u8 0, .int .u8 0, .int .u8 0, .int .u8 0, .int .u8 0, .int .u8 0, .int .u8 0, .int .u8 0, .int .u8 0, .int .u8 0, .int .u8 0, .int .u8 0, .int .u8 0, .int .u8 0, .int .u8 0, .int .u8 0, .int .u8 0, .int .u8 0, .int .u8 0, .int .u8 0, .int .u8 0, .int .u8 0, .int .u8 0, .int .u8 0, .int .u8 0, .int .u8 0, .int .u8 0, .int .u8 0, .int .u8 0, .int .u8 0, .int .u8 0, .int .u8 0, .int .u8 0, .int .u8 0, .int .u8 0, .int .u8 0, .int .u8 0, .int .u8 0, .int .u8 0, .int .u8 0, .int .u8 0, .int .u8 0, .int .u8 0, .int .u8 0, .int .u8 0, .int .u8 0, .int .u8 0, .int .u8 0, .int .u8 0, .int .u8 0, .int .u8 0, .int .u8 0, .int .u8 0, .int .u8 0, .int .u8 0, .int .u8 0, .int .u8 0, .int .u8 0, .int .u8 0, .int .u8 0, .int .u8 0, .int .u8 0, .int .u8 0, .int .u8 0, .int .u8 0, .int .u8 0, .int .u8 0, .int .u8 0, .int .u8 0, .int .u8 0, .int .u8 0, .int .u8 0, .int .u8 0, .int .u8 0, .int .u8 0, .int .u8 0, .int .u8 0, .int .u8 0, .int .u8 0, .int .u8 0, .int .u8 0, .int .u8 0, .int .u8 0, .int .u8 0, .int .u8 0, .int .u8 0, .int .u8 0, .int .u8 0, .int .u8 0, .int .u8 0, .int .u8 0, .int .u8 0, .int .u8 0, .int .u8 0, .int .u8 0, .int .u8 0, .int .u8 0, .int .u8 0, .int .u8 0, .int .u8 0, .int .u8 0, .int .u8 0, .int .u8 0, .int .u8 0, .int .u8 0, .int .u8 0, .int .u8 0, .int .u8 0, .int .u8 0, .int .u8 0, .int .u8 0, .int .u8 0, .int .u8 0, .int .u8 0, .int .u8 0, .int .u8 0, .int .u8 0, .int .u8 0, .int .u8 0, .int .u8 0, .int .u8 0, .int .u8 0, .int .u8 0, .int .u8 0, .int .u8 0, .int .u8 0, .int .u8 0, .int .u8 0, .int .u8 0, .int .u8 0, .int .u8 0, .int .u8 0, .int .u8 0, .int .u8 0, .int .u8 0, .int .u8 0, .int .u8 0, .int .u8 0, .int .u8 0, .int .u8 0, .int .u8 0, .int .u8 0, .int .u8 0, .int .u8 0, .int .u8 0, .int .u8 0, .int .u8 0, .int .u8 0, .int .u8 0, .int .u8 0, .int .u8 0, .int .u8 0, .int .u8 0, .int .u8 0, .int .u8 0, .int .u8 0, .int .u8 0, .int .u8 0, .int .u8 0, .int .u8 0, .int .u8 0, .int .u8 0]), zok := some 262, by' := some 336, un := true } := ⟨ti_149, trivial, trivial, ⟨fi_149_0, fi_149_1, fi_149_2, trivial⟩, si_149, zv_149, zok_149, by_149, trivial, trivial, trivial, trivial, trivial, trivial, uns_149, trivial⟩
theorem uns_150 : (Tryd.prog.underlying 150).isSome = true := by kernel_rfl
theorem tok_150 : TOk Tryd.prog 150 { ti := some (false, 1), zv := some (.any), zok := some 1, by' := some 8, un := true } := ⟨ti_150, trivial, trivial, trivial, trivial, zv_150, zok_150, by_150, trivial, trivial, trivial, trivial, trivial, trivial, uns_150, trivial⟩
theorem uns_151 : (Tryd.prog.underlying 151).isSome = true := by kernel_rfl
theorem tok_151 : TOk Tryd.prog 151 { ti := some (false, 1), zv := some (.int .i64 0), zok := some 1, by' := some 8, ik := some .i64, un := true } := ⟨ti_151, trivial, trivial, trivial, trivial, zv_151, zok_151, by_151, intK_151, trivial, trivial, trivial, trivial, trivial, uns_151, trivial⟩
theorem uns_152 : (Tryd.prog.underlying 152).isSome = true := by kernel_rfl
theorem tok_152 : TOk Tryd.prog 152 { ti := some (false, 1), zv := some (.int .u64 0), zok := some 1, by' := some 8, ik := some .u64, un := true } := ⟨ti_152, trivial, trivial, trivial, trivial, zv_152, zok_152, by_152, intK_152, trivial, trivial, trivial, trivial, trivial, uns_152, trivial⟩
theorem uns_154 : (Tryd.prog.underlying 154).isSome = true := by kernel_rfl
theorem tok_154 : TOk Tryd.prog 154 { ti := some (false, 1), zv := some (.any), zok := some 1, by' := some 8, un := true } := ⟨ti_154, trivial, trivial, trivial, trivial, zv_154, zok_154, by_154, trivial, trivial, trivial, trivial, trivial, trivial, uns_154, trivial⟩
theorem uns_155 : (Tryd.prog.underlying 155).isSome = true := by kernel_rfl
theorem tok_155 : TOk Tryd.prog 155 { ti := some (false, 1), zv := some (.nilp), zok := some 1, by' := some 8, ptr := true, un := true } := ⟨ti_155, trivial, trivial, trivial, trivial, zv_155, zok_155, by_155, trivial, trivial, trivial, trivial, isPtr_155, trivial, uns_155, trivial⟩
theorem uns_156 : (Tryd.prog.underlying 156).isSome = true := by kernel_rfl
theorem tok_156 : TOk Tryd.prog 156 { ti := some (false, 1), zv := some (.any), zok := some 1, by' := some 8, un := true } := ⟨ti_156, trivial, trivial, trivial, trivial, zv_156, zok_156, by_156, trivial, trivial, trivial, trivial, trivial, trivial, uns_156, trivial⟩
theorem uns_157 : (Tryd.prog.underlying 157).isSome = true := by kernel_rfl
theorem tok_157 : TOk Tryd.prog 157 { ti := some (false, 1), zv := some (.any), zok := some 1, by' := some 8, un := true } := ⟨ti_157, trivial, trivial, trivial, trivial, zv_157, zok_157, by_157, trivial, trivial, trivial, trivial, trivial, trivial, uns_157, trivial⟩
theorem uns_159 : (Tryd.prog.underlying 159).isSome = true := by kernel_rfl
theorem tok_159 : TOk Tryd.prog 159 { ti := some (false, 1), zv := some (.any), zok := some 1, by' := some 8, un := true } := ⟨ti_159, trivial, trivial, trivial, trivial, zv_159, zok_159, by_159, trivial, trivial, trivial, trivial, trivial, trivial, uns_159, trivial⟩
theorem uns_160 : (Tryd.prog.underlying 160).isSome = true := by kernel_rfl
theorem tok_160 : TOk Tryd.prog 160 { ti := some (false, 1), zv := some (.nilp), zok := some 1, by' := some 8, ptr := true, un := true } := ⟨ti_160, trivial, trivial, trivial, trivial, zv_160, zok_160, by_160, trivial, trivial, trivial, trivial, isPtr_160, trivial, uns_160, trivial⟩
theorem uns_161 : (Tryd.prog.underlying 161).isSome = true := by kernel_rfl
theorem tok_161 : TOk Tryd.prog 161 { ti := some (false, 1), zv := some (.any), zok := some 1, by' := some 8, un := true } := ⟨ti_161, trivial, trivial, trivial, trivial, zv_161, zok_161, by_161, trivial, trivial, trivial, trivial, trivial, trivial, uns_161, trivial⟩
theorem uns_162 : (Tryd.prog.underlying 162).isSome = true := by kernel_rfl
theorem tok_162 : TOk Tryd.prog 162 { ti := some (false, 1), zv := some (.nilp), zok := some 1, by' := some 8, ptr := true, un := true } := ⟨ti_162, trivial, trivial, trivial, trivial, zv_162, zok_162, by_162, trivial, trivial, trivial, trivial, isPtr_162, trivial, uns_162, trivial⟩
theorem uns_164 : (Tryd.prog.underlying 164).isSome = true := by kernel_rfl
theorem tok_164 : TOk Tryd.prog 164 { ti := some (false, 1), zv := some (.any), zok := some 1, by' := some 8, un := true } := ⟨ti_164, trivial, trivial, trivial, trivial, zv_164, zok_164, by_164, trivial, trivial, trivial, trivial, trivial, trivial, uns_164, trivial⟩
theorem uns_165 : (Tryd.prog.underlying 165).isSome = true := by kernel_rfl
theorem tok_165 : TOk Tryd.prog 165 { ti := some (false, 1), zv := some (.any), zok := some 1, by' := some 8, un := true } := ⟨ti_165, trivial, trivial, trivial, trivial, zv_165, zok_165, by_165, trivial, trivial, trivial, trivial, trivial, trivial, uns_165, trivial⟩
theorem uns_166 : (Tryd.prog.underlying 166).isSome = true := by kernel_rfl
theorem tok_166 : TOk Tryd.prog 166 { ti := some (true, 256), ai := some (256, (false, 1)), zv := some (.agg [.int .i64 0, .int .i64 0, .int .i64 0, .int .i64 0, .int .i64 0, .int .i64 0, .int .i64 0, .int .i64 0, .int .i64 0, .int .i64 0, .int .i64 0, .int .i64 0, .int .i64 0, .int .i64 0, .int .i64 0, .int .i64 0, .int .i64 0, .int .i64 0, .int .i64 0, .int .i64 0, .int .i64 0, .int .i64 0, .int .i64 0, .int .i64 0, .int .i64 0, .int .i64 0, .int .i64 0, .int .i64 0, .int .i64 0, .int .i64 0, .int .i64 0, .int .i64 0, .int .i64 0, .int .i64 0, .int .i64 0, .int .i64 0, .int .i64 0, .int .i64 0, .int .i64 0, .int .i64 0, .int .i64 0, .int .i64 0, .int .i64 0, .int .i64 0, .int .i64 0, .int .i64 0, .int .i64 0, .int .i64 0, .int .i64 0, .int .i64 0, .int .i64 0, .int .i64 0, .int .i64 0, .int .i64 0, .int .i64 0, .int .i64 0, .int .i64 0, .int .i64 0, .int .i64 0, .int .i64 0, .int .i64 0, .int .i64 0, .int .i64 0, .int .i64 0, .int .i64 0, .int .i64 0, .int .i64 0, .int .i64 0, .int .i64 0, .int .i64 0, .int .i64 0, .int .i64 0, .int .i64 0, .int .i64 0, .int .i64 0, .int .i64 0, .int .i64 0, .int .i64 0, .int .i64 0, .int .i64 0, .int .i64 0, .int .i64 0, .int .i64 0, .int .i64 0, .int .i64 0, .int .i64 0, .int .i64 0, .int .i64 0, .int .i64 0, .int .i64 0, .int .i64 0, .int .i64 0, .int .i64 0, .int .i64 0, .int .i64 0, .int .i64 0, .int .i64 0, .int .i64 0, .int .i64 0, .int .i64 0, .int .i64 0, .int .i64 0, .int .i64 0, .int .i64 0, .int .i64 0, .int .i64 0, .int .i64 0, .int .i64 0, .int .i64 0, .int .i64 0, .int .i64 0, .int .i64 0, .int .i64 0, .int .i64 0, .int .i64 0, .int .i64 0, .int .i64 0, .int .i64 0, .int .i64 0, .int .i64 0, .int .i64 0, .int .i64 0, .int .i64 0, .int .i64 0, .int .i64 0, .int .i64 0, .int .i64 0, .int .i64 0, .int .i64 0, .int .i64 0, .int .i64 0, .int .i64 0, .int .i64 0, .int .i64 0, .int .i64 0, .int .i64 0, .int .i64 0, .int .i64 0, .int .i64 0, .int .i64 0, .int .i64 0, .int .i64 0, .int .i64 0, .int .i64 0, .int .i64 0, .int .i64 0, .int .i64 0, .int .i64 0, .int .i64 0, .int .i64 0, .int .i64 0, .int .i64 0, .int .i64 0, .int .i64 0, .int .i64 0, .int .i64 0, .int .i64 0, .int .i64 0, .int .i64 0, .int .i64 0, .int .i64 0, .int .i64 0, .int .i64 0, .int .i64 0, .int .i64 0, .int .i64 0, .int .i64 0, .int .i64 0, .int .i64 0, .int .i64 0, .int .i64 0, .int .i64 0, .int .i64 0, .int .i64 0, .int .i64 0, .int .i64 0, .int .i64 0, .int .i64 0, .int .i64 0, .int .i64 0, .int .i64 0, .int .i64 0, .int .i64 0, .int .i64 0, .int .i64 0, .int .i64 0, .int .i64 0, .int .i64 0, .int .i64 0, .int .i64 0, .int .i64 0, .int .i64 0, .int .i64 0, .int .i64 0, .int .i64 0, .int .i64 0, .int .i64 0, .int .i64 0, .int .i64 0, .int .i64 0, .int .i64 0, .int .i64 0, .int .i64 0, .int .i64 0, .int .i64 0, .int .i64 0, .int .i64 0, .int .i64 0, .int .i64 0, .int .i64 0, .int .i64 0, .int .i64 0, .int .i64 0, .int .i64 0, .int .i64 0, .int .i64 0, .int .i64 0, .int .i64 0, .int .i64 0, .int .i64 0, .int .i64 0, .int .i64 0, .int .i64 0, .int .i64 0, .int .i64 0, .int .i64 0, .int .i64 0, .int .i64 0, .int .i64 0, .int .i64 0, .int .i64 0, .int .i64 0, .int .i64 0, .int .i64 0, .int .i64 0, .int .i64 0, .int .i64 0, .int .i64 0, .int .i64 0, .int .i64 0, .int .i64 0, .int .i64 0, .int .i64 0, .int .i64 0, .int .i64 0, .int .i64 0, .int .i64 0, .int .i64 0, .int .i64 0, .int .i64 0, .int .i64 0, .int .i64 0, .int .i64 0, .int .i64 0, .int .i64 0, .int .i64 0]), zok := some 256, by' := some 2048, un := true } := ⟨ti_166, trivial, ai_166, trivial, trivial, zv_166, zok_166, by_166, trivial, trivial, trivial, trivial, trivial, trivial, uns_166, trivial⟩
theorem uns_167 : (Tryd.prog.underlying 167).isSome = true := by kernel_rfl
theorem tok_167 : TOk Tryd.prog 167 { ti := some (true, 258), fi := [some (0, (false, 1)), some (1, (true, 256)), some (257, (false, 1))], si := some [(0, 1), (1, 256), (257, 1)], zv := some (.agg [.str [], .int .i64 0, .int .i64 0, .int .i64 0, .int .i64 0, .int .i64 0, .int .i64 0, .int .i64 0, .int .i64 0, .int .i64 0, .int .i64 0, .int .i64 0, .int .i64 0, .int .i64 0, .int .i64 0, .int .i64 0, .int .i64 0, .int .i64 0, .int .i64 0, .int .i64 0, .int .i64 0, .int .i64 0, .int .i64 0, .int .i64 0, .int .i64 0, .int .i64 0, .int .i64 0, .int .i64 0, .int .i64 0, .int .i64 0, .int .i64 0, .int .i64 0, .int .i64 0, .int .i64 0, .int .i64 0, .int .i64 0, .int .i64 0, .int .i64 0, .int .i64 0, .int .i64 0, .int .i64 0, .int .i64 0, .int .i64 0, .int .i64 0, .int .i64 0, .int .i64 0, .int .i64 0, .int .i64 0, .int .i64 0, .int .i64 0, .int .i64 0, .int .i64 0, .int .i64 0, .int .i64 0, .int .i64 0, .int .i64 0, .int .i64 0, .int .i64 0, .int .i64 0, .int .i64 0, .int .i64 0, .int .i64 0, .int .i64 0, .int .i64 0, .int .i64 0, .int .i64 0, .int .i64 0, .int .i64 0, .int .i64 0, .int .i64 0, .int .i64 0, .int .i64 0, .int .i64 0, .int .i64 0, .int .i64 0, .int .i64 0, .int .i64 0, .int .i64 0, .int .i64 0, .int .i64 0, .int .i64 0, .int .i64 0, .int .i64 0, .int .i64 0, .int .i64 0, .int .i64 0, .int .i64 0, .int .i64 0, .int .i64 0, .int .i64 0, .int .i64 0, .int .i64 0, .int .i64 0, .int .i64 0, .int .i64 0, .int .i64 0, .int .i64 0, .int .i64 0, .int .i64 0, .int .i64 0, .int .i64 0, .int .i64 0, .int .i64 0, .int .i64 0, .int .i64 0, .int .i64 0, .int .i64 0, .int .i64 0, .int .i64 0, .int .i64 0, .int .i64 0, .int .i64 0, .int .i64 0, .int .i64 0, .int .i64 0, .int .i64 0, .int .i64 0, .int .i64 0, .int .i64 0, .int .i64 0, .int .i64 0, .int .i64 0, .int .i64 0, .int .i64 0, .int .i64 0, .int .i64 0, .int .i64 0, .int .i64 0, .int .i64 0, .int .i64 0, .int .i64 0, .int .i64 0, .int .i64 0, .int .i64 0, .int .i64 0, .int .i64 0, .int .i64 0, .int .i64 0, .int .i64 0, .int .i64 0, .int .i64 0, .int .i64 0, .int .i64 0, .int .i64 0, .int .i64 0, .int .i64 0, .int .i64 0, .int .i64 0, .int .i64 0, .int .i64 0, .int .i64 0, .int .i64 0, .int .i64 0, .int .i64 0, .int .i64 0, .int .i64 0, .int .i64 0, .int .i64 0, .int .i64 0, .int .i64 0, .int .i64 0, .int .i64 0, .int .i64 0, .int .i64 0, .int .i64 0, .int .i64 0, .int .i64 0, .int .i64 0, .int .i64 0, .int .i64 0, .int .i64 0, .int .i64 0, .int .i64 0, .int .i64 0, .int .i64 0, .int .i64 0, .int .i64 0, .int .i64 0, .int .i64 0, .int .i64 0, .int .i64 0, .int .i64 0, .int .i64 0, .int .i64 0, .int .i64 0, .int .i64 0, .int .i64 0, .int .i64 0, .int .i64 0, .int .i64 0, .int .i64 0, .int .i64 0, .int .i64 0, .int .i64 0, .int .i64 0, .int .i64 0, .int .i64 0, .int .i64 0, .int .i64 0, .int .i64 0, .int .i64 0, .int .i64 0, .int .i64 0, .int .i64 0, .int .i64 0, .int .i64 0, .int .i64 0, .int .i64 0, .int .i64 0, .int .i64 0, .int .i64 0, .int .i64 0, .int .i64 0, .int .i64 0, .int .i64 0, .int .i64 0, .int .i64 0, .int .i64 0, .int .i64 0, .int .i64 0, .int .i64 0, .int .i64 0, .int .i64 0, .int .i64 0, .int .i64 0, .int .i64 0, .int .i64 0, .int .i64 0, .int .i64 0, .int .i64 0, .int .i64 0, .int .i64 0, .int .i64 0, .int .i64 0, .int .i64 0, .int .i64 0, .int .i64 0, .int .i64 0, .int .i64 0, .int .i64 0, .int .i64 0, .int .i64 0, .int .i64 0, .int .i64 0, .int .i64 0, .int .i64 0, .int .i64 0, .int .i64 0, .int .i64 0, .int .i64 0, .int .i64 0, .int .i64 0, .int .i64 0, .int .i64 0, .int .i64 0, .int .i64 0, .int .i64 0, .nils]), zok := some 258, by' := some 2088, un := true } := ⟨ti_167, trivial, trivial, ⟨fi_167_0, fi_167_1, fi_167_2, trivial⟩, si_167, zv_167, zok_167, by_167, trivial, trivial, trivial, trivial, trivial, trivial, uns_167, trivial⟩
theorem uns_168 : (Tryd.prog.underlying 168).isSome = true := by kernel_rfl
theorem tok_168 : TOk Tryd.prog 168 { ti := some (true, 258), fi := [some (0, (false, 1)), some (1, (true, 256)), some (257, (false, 1))], si := some [(0, 1), (1, 256), (257, 1)], zv := some (.agg [.str [], .int .i64 0, .int .i64 0, .int .i64 0, .int .i64 0, .int .i64 0, .int .i64 0, .int .i64 0, .int .i64 0, .int .i64 0, .int .i64 0, .int .i64 0, .int .i64 0, .int .i64 0, .int .i64 0, .int .i64 0, .int .i64 0, .int .i64 0, .int .i64 0, .int .i64 0, .int .i64 0, .int .i64 0, .int .i64 0, .int .i64 0, .int .i64 0, .int .i64 0, .int .i64 0, .int .i64 0, .int .i64 0, .int .i64 0, .int .i64 0, .int .i64 0, .int .i64 0, .int .i64 0, .int .i64 0, .int .i64 0, .int .i64 0, .int .i64 0, .int .i64 0, .int .i64 0, .int .i64 0, .int .i64 0, .int .i64 0, .int .i64 0, .int .i64 0, .int .i64 0, .int .i64 0, .int .i64 0, .int .i64 0, .int .i64 0, .int .i64 0, .int .i64 0, .int .i64 0, .int .i64 0, .int .i64 0, .int .i64 0, .int .i64 0, .int .i64 0, .int .i64 0, .int .i64 0, .int .i64 0, .int .i64 0, .int .i64 0, .int .i64 0, .int .i64 0, .int .i64 0, .int .i64 0, .int .i64 0, .int .i64 0, .int .i64 0, .int .i64 0, .int .i64 0, .int .i64 0, .int .i64 0, .int .i64 0, .int .i64 0, .int .i64 0, .int .i64 0, .int .i64 0, .int .i64 0, .int .i64 0, .int .i64 0, .int .i64 0, .int .i64 0, .int .i64 0, .int .i64 0, .int .i64 0, .int .i64 0, .int .i64 0, .int .i64 0, .int .i64 0, .int .i64 0, .int .i64 0, .int .i64 0, .int .i64 0, .int .i64 0, .int .i64 0, .int .i64 0, .int .i64 0, .int .i64 0, .int .i64 0, .int .i64 0, .int .i64 0, .int .i64 0, .int .i64 0, .int .i64 0, .int .i64 0, .int .i64 0, .int .i64 0, .int .i64 0, .int .i64 0, .int .i64 0, .int .i64 0, .int .i64 0, .int .i64 0, .int .i64 0, .int .i64 0, .int .i64 0, .int .i64 0, .int .i64 0, .int .i64 0, .int .i64 0, .int .i64 0, .int .i64 0, .int .i64 0, .int .i64 0, .int .i64 0, .int .i64 0, .int .i64 0, .int .i64 0, .int .i64 0, .int .i64 0, .int .i64 0, .int .i64 0, .int .i64 0, .int .i64 0, .int .i64 0, .int .i64 0, .int .i64 0, .int .i64 0, .int .i64 0, .int .i64 0, .int .i64 0, .int .i64 0, .int .i64 0, .int .i64 0, .int .i64 0, .int .i64 0, .int .i64 0, .int .i64 0, .int .i64 0, .int .i64 0, .int .i64 0, .int .i64 0, .int .i64 0, .int .i64 0, .int .i64 0, .int .i64 0, .int .i64 0, .int .i64 0, .int .i64 0, .int .i64 0, .int .i64 0, .int .i64 0, .int .i64 0, .int .i64 0, .int .i64 0, .int .i64 0, .int .i64 0, .int .i64 0, .int .i64 0, .int .i64 0, .int .i64 0, .int .i64 0, .int .i64 0, .int .i64 0, .int .i64 0, .int .i64 0, .int .i64 0, .int .i64 0, .int .i64 0, .int .i64 0, .int .i64 0, .int .i64 0, .int .i64 0, .int .i64 0, .int .i64 0, .int .i64 0, .int .i64 0, .int .i64 0, .int .i64 0, .int .i64 0, .int .i64 0, .int .i64 0, .int .i64 0, .int .i64 0, .int .i64 0, .int .i64 0, .int .i64 0, .int .i64 0, .int .i64 0, .int .i64 0, .int .i64 0, .int .i64 0, .int .i64 0, .int .i64 0, .int .i64 0, .int .i64 0, .int .i64 0, .int .i64 0, .int .i64 0, .int .i64 0, .int .i64 0, .int .i64 0, .int .i64 0, .int .i64 0, .int .i64 0, .int .i64 0, .int .i64 0, .int .i64 0, .int .i64 0, .int .i64 0, .int .i64 0, .int .i64 0, .int .i64 0, .int .i64 0, .int .i64 0, .int .i64 0, .int .i64 0, .int .i64 0, .int .i64 0, .int .i64 0, .int .i64 0, .int .i64 0, .int .i64 0, .int .i64 0, .int .i64 0, .int .i64 0, .int .i64 0, .int .i64 0, .int .i64 0, .int .i64 0, .int .i64 0, .int .i64 0, .int .i64 0, .int .i64 0, .int .i64 0, .int .i64 0, .int .i64 0, .int .i64 0, .int .i64 0, .int .i64 0, .int .i64 0, .int .i64 0, .int .i64 0, .int .i64 0, .int .i64 0, .nils]), zok := some 258, by' := some 2088, un := true } := ⟨ti_168, trivial, trivial, ⟨fi_168_0, fi_168_1, fi_168_2, trivial⟩, si_168, zv_168, zok_168, by_168, trivial, trivial, trivial, trivial, trivial, trivial, uns_168, trivial⟩
theorem uns_169 : (Tryd.prog.underlying 169).isSome = true := by kernel_rfl
theorem tok_169 : TOk Tryd.prog 169 { ti := some (false, 1), zv := some (.any), zok := some 1, by' := some 8, un := true } := ⟨ti_169, trivial, trivial, trivial, trivial, zv_169, zok_169, by_169, trivial, trivial, trivial, trivial, trivial, trivial, uns_169, trivial⟩
theorem uns_170 : (Tryd.prog.underlying 170).isSome = true := by kernel_rfl
theorem tok_170 : TOk Tryd.prog 170 { ti := some (true, 3), fi := [some (0, (false, 1)), some (1, (false, 1)), some (2, (false, 1))], si := some [(0, 1), (1, 1), (2, 1)], zv := some (.agg [.str [], .str [], .nili]), zok := some 3, by' := some 48, un := true } := ⟨ti_170, trivial, trivial, ⟨fi_170_0, fi_170_1, fi_170_2, trivial⟩, si_170, zv_170, zok_170, by_170, trivial, trivial, trivial, trivial, trivial, trivial, uns_170, trivial⟩
theorem uns_171 : (Tryd.prog.underlying 171).isSome = true := by kernel_rfl
theorem tok_171 : TOk Tryd.prog 171 { ti := some (true, 3), fi := [some (0, (false, 1)), some (1, (false, 1)), some (2, (false, 1))], si := some [(0, 1), (1, 1), (2, 1)], zv := some (.agg [.str [], .str [], .nili]), zok := some 3, by' := some 48, un := true } := ⟨ti_171, trivial, trivial, ⟨fi_171_0, fi_171_1, fi_171_2, trivial⟩, si_171, zv_171, zok_171, by_171, trivial, trivial, trivial, trivial, trivial, trivial, uns_171, trivial⟩
theorem uns_172 : (Tryd.prog.underlying 172).isSome = true := by kernel_rfl
theorem tok_172 : TOk Tryd.prog 172 { ti := some (false, 1), zv := some (.any), zok := some 1, by' := some 8, un := true } := ⟨ti_172, trivial, trivial, trivial, trivial, zv_172, zok_172, by_172, trivial, trivial, trivial, trivial, trivial, trivial, uns_172, trivial⟩
theorem uns_173 : (Tryd.prog.underlying 173).isSome = true := by kernel_rfl
theorem tok_173 : TOk Tryd.prog 173 { ti := some (false, 1), zv := some (.any), zok := some 1, by' := some 8, un := true } := ⟨ti_173, trivial, trivial, trivial, trivial, zv_173, zok_173, by_173, trivial, trivial, trivial, trivial, trivial, trivial, uns_173, trivial⟩
theorem uns_174 : (Tryd.prog.underlying 174).isSome = true := by kernel_rfl
theorem tok_174 : TOk Tryd.prog 174 { ti := some (false, 1), zv := some (.any), zok := some 1, by' := some 8, un := true } := ⟨ti_174, trivial, trivial, trivial, trivial, zv_174, zok_174, by_174, trivial, trivial, trivial, trivial, trivial, trivial, uns_174, trivial⟩
theorem uns_175 : (Tryd.prog.underlying 175).isSome = true := by kernel_rfl
theorem tok_175 : TOk Tryd.prog 175 { ti := some (false, 1), zv := some (.any), zok := some 1, by' := some 8, un := true } := ⟨ti_175, trivial, trivial, trivial, trivial, zv_175, zok_175, by_175, trivial, trivial, trivial, trivial, trivial, trivial, uns_175, trivial⟩
theorem uns_176 : (Tryd.prog.underlying 176).isSome = true := by kernel_rfl
theorem tok_176 : TOk Tryd.prog 176 { ti := some (false, 1), zv := some (.nilp), zok := some 1, by' := some 8, ptr := true, un := true } := ⟨ti_176, trivial, trivial, trivial, trivial, zv_176, zok_176, by_176, trivial, trivial, trivial, trivial, isPtr_176, trivial, uns_176, trivial⟩
theorem uns_177 : (Tryd.prog.underlying 177).isSome = true := by kernel_rfl
theorem tok_177 : TOk Tryd.prog 177 { ti := some (true, 1), fi := [some (0, (false, 1))], si := some [(0, 1)], zv := some (.agg [.str []]), zok := some 1, by' := some 16, un := true } := ⟨ti_177, trivial, trivial, ⟨fi_177_0, trivial⟩, si_177, zv_177, zok_177, by_177, trivial, trivial, trivial, trivial, trivial, trivial, uns_177, trivial⟩
theorem uns_178 : (Tryd.prog.underlying 178).isSome = true := by kernel_rfl
theorem tok_178 : TOk Tryd.prog 178 { ti := some (true, 1), fi := [some (0, (false, 1))], si := some [(0, 1)], zv := some (.agg [.str []]), zok := some 1, by' := some 16, un := true } := ⟨ti_178, trivial, trivial, ⟨fi_178_0, trivial⟩, si_178, zv_178, zok_178, by_178, trivial, trivial, trivial, trivial, trivial, trivial, uns_178, trivial⟩
theorem uns_179 : (Tryd.prog.underlying 179).isSome = true := by kernel_rfl
theorem tok_179 : TOk Tryd.prog 179 { ti := some (false, 1), zv := some (.any), zok := some 1, by' := some 8, un := true } := ⟨ti_179, trivial, trivial, trivial, trivial, zv_179, zok_179, by_179, trivial, trivial, trivial, trivial, trivial, trivial, uns_179, trivial⟩
theorem uns_180 : (Tryd.prog.underlying 180).isSome = true := by kernel_rfl
theorem tok_180 : TOk Tryd.prog 180 { ti := some (true, 24), ai := some (24, (false, 1)), zv := some (.agg [.int .u8 0, .int .u8 0, .int .u8 0, .int .u8 0, .int .u8 0, .int .u8 0, .int .u8 0, .int .u8 0, .int .u8 0, .int .u8 0, .int .u8 0, .int .u8 0, .int .u8 0, .int .u8 0, .int .u8 0, .int .u8 0, .int .u8 0, .int .u8 0, .int .u8 0, .int .u8 0, .int .u8 0, .int .u8 0, .int .u8 0, .int .u8 0]), zok := some 24, by' := some 24, un := true } := ⟨ti_180, trivial, ai_180, trivial, trivial, zv_180, zok_180, by_180, trivial, trivial, trivial, trivial, trivial, trivial, uns_180, trivial⟩
theorem uns_181 : (Tryd.prog.underlying 181).isSome = true := by kernel_rfl
theorem tok_181 : TOk Tryd.prog 181 { ti := some (false, 1), zv := some (.any), zok := some 1, by' := some 8, un := true } := ⟨ti_181, trivial, trivial, trivial, trivial, zv_181, zok_181, by_181, trivial, trivial, trivial, trivial, trivial, trivial, uns_181, trivial⟩
theorem uns_182 : (Tryd.prog.underlying 182).isSome = true := by kernel_rfl
theorem tok_182 : TOk Tryd.prog 182 { ti := some (false, 1), zv := some (.any), zok := some 1, by' := some 8, un := true } := ⟨ti_182, trivial, trivial, trivial, trivial, zv_182, zok_182, by_182, trivial, trivial, trivial, trivial, trivial, trivial, uns_182, trivial⟩
theorem uns_184 : (Tryd.prog.underlying 184).isSome = true := by kernel_rfl
theorem tok_184 : TOk Tryd.prog 184 { ti := some (false, 1), zv := some (.any), zok := some 1, by' := some 8, un := true } := ⟨ti_184, trivial, trivial, trivial, trivial, zv_184, zok_184, by_184, trivial, trivial, trivial, trivial, trivial, trivial, uns_184, trivial⟩
theorem uns_185 : (Tryd.prog.underlying 185).isSome = true := by kernel_rfl
theorem tok_185 : TOk Tryd.prog 185 { ti := some (false, 1), zv := some (.any), zok := some 1, by' := some 8, un := true } := ⟨ti_185, trivial, trivial, trivial, trivial, zv_185, zok_185, by_185, trivial, trivial, trivial, trivial, trivial, trivial, uns_185, trivial⟩
theorem uns_186 : (Tryd.prog.underlying 186).isSome = true := by kernel_rfl
theorem tok_186 : TOk Tryd.prog 186 { ti := some (true, 20), ai := some (20, (false, 1)), zv := some (.agg [.int .u64 0, .int .u64 0, .int .u64 0, .int .u64 0, .int .u64 0, .int .u64 0, .int .u64 0, .int .u64 0, .int .u64 0, .int .u64 0, .int .u64 0, .int .u64 0, .int .u64 0, .int .u64 0, .int .u64 0, .int .u64 0, .int .u64 0, .int .u64 0, .int .u64 0, .int .u64 0]), zok := some 20, by' := some 160, un := true } := ⟨ti_186, trivial, ai_186, trivial, trivial, zv_186, zok_186, by_186, trivial, trivial, trivial, trivial, trivial, trivial, uns_186, trivial⟩
theorem uns_187 : (Tryd.prog.underlying 187).isSome = true := by kernel_rfl
theorem tok_187 : TOk Tryd.prog 187 { ti := some (true, 65), ai := some (65, (false, 1)), zv := some (.agg [.int .u8 0, .int .u8 0, .int .u8 0, .int .u8 0, .int .u8 0, .int .u8 0, .int .u8 0, .int .u8 0, .int .u8 0, .int .u8 0, .int .u8 0, .int .u8 0, .int .u8 0, .int .u8 0, .int .u8 0, .int .u8 0, .int .u8 0, .int .u8 0, .int .u8 0, .int .u8 0, .int .u8 0, .int .u8 0, .int .u8 0, .int .u8 0, .int .u8 0, .int .u8 0, .int .u8 0, .int .u8 0, .int .u8 0, .int .u8 0, .int .u8 0, .int .u8 0, .int .u8 0, .int .u8 0, .int .u8 0, .int .u8 0, .int .u8 0, .int .u8 0, .int .u8 0, .int .u8 0, .int .u8 0, .int .u8 0, .int .u8 0, .int .u8 0, .int .u8 0, .int .u8 0, .int .u8 0, .int .u8 0, .int .u8 0, .int .u8 0, .int .u8 0, .int .u8 0, .int .u8 0, .int .u8 0, .int .u8 0, .int .u8 0, .int .u8 0, .int .u8 0, .int .u8 0, .int .u8 0, .int .u8 0, .int .u8 0, .int .u8 0, .int .u8 0, .int .u8 0]), zok := some 65, by' := some 65, un := true } := ⟨ti_187, trivial, ai_187, trivial, trivial, zv_187, zok_187, by_187, trivial, trivial, trivial, trivial, trivial, trivial, uns_187, trivial⟩
theorem uns_188 : (Tryd.prog.underlying 188).isSome = true := by kernel_rfl
theorem tok_188 : TOk Tryd.prog 188 { ti := some (false, 1), zv := some (.any), zok := some 1, by' := some 8, un := true } := ⟨ti_188, trivial, trivial, trivial, trivial, zv_188, zok_188, by_188, trivial, trivial, trivial, trivial, trivial, trivial, uns_188, trivial⟩
theorem uns_189 : (Tryd.prog.underlying 189).isSome = true := by kernel_rfl
theorem tok_189 : TOk Tryd.prog 189 { ti := some (false, 1), zv := some (.any), zok := some 1, by' := some 8, un := true } := ⟨ti_189, trivial, trivial, trivial, trivial, zv_189, zok_189, by_189, trivial, trivial, trivial, trivial, trivial, trivial, uns_189, trivial⟩
theorem uns_190 : (Tryd.prog.underlying 190).isSome = true := by kernel_rfl
theorem tok_190 : TOk Tryd.prog 190 { ti := some (true, 32), ai := some (32, (false, 1)), zv := some (.agg [.int .u8 0, .int .u8 0, .int .u8 0, .int .u8 0, .int .u8 0, .int .u8 0, .int .u8 0, .int .u8 0, .int .u8 0, .int .u8 0, .int .u8 0, .int .u8 0, .int .u8 0, .int .u8 0, .int .u8 0, .int .u8 0, .int .u8 0, .int .u8 0, .int .u8 0, .int .u8 0, .int .u8 0, .int .u8 0, .int .u8 0, .int .u8 0, .int .u8 0, .int .u8 0, .int .u8 0, .int .u8 0, .int .u8 0, .int .u8 0, .int .u8 0, .int .u8 0]), zok := some 32, by' := some 32, un := true } := ⟨ti_190, trivial, ai_190, trivial, trivial, zv_190, zok_190, by_190, trivial, trivial, trivial, trivial, trivial, trivial, uns_190, trivial⟩
theorem uns_191 : (Tryd.prog.underlying 191).isSome = true := by kernel_rfl
theorem tok_191 : TOk Tryd.prog 191 { ti := some (true, 64), ai := some (64, (false, 1)), zv := some (.agg [.int .u8 0, .int .u8 0, .int .u8 0, .int .u8 0, .int .u8 0, .int .u8 0, .int .u8 0, .int .u8 0, .int .u8 0, .int .u8 0, .int .u8 0, .int .u8 0, .int .u8 0, .int .u8 0, .int .u8 0, .int .u8 0, .int .u8 0, .int .u8 0, .int .u8 0, .int .u8 0, .int .u8 0, .int .u8 0, .int .u8 0, .int .u8 0, .int .u8 0, .int .u8 0, .int .u8 0, .int .u8 0, .int .u8 0, .int .u8 0, .int .u8 0, .int .u8 0, .int .u8 0, .int .u8 0, .int .u8 0, .int .u8 0, .int .u8 0, .int .u8 0, .int .u8 0, .int .u8 0, .int .u8 0, .int .u8 0, .int .u8 0, .int .u8 0, .int .u8 0, .int .u8 0, .int .u8 0, .int .u8 0, .int .u8 0, .int .u8 0, .int .u8 0, .int .u8 0, .int .u8 0, .int .u8 0, .int .u8 0, .int .u8 0, .int .u8 0, .int .u8 0, .int .u8 0, .int .u8 0, .int .u8 0, .int .u8 0, .int .u8 0, .int .u8 0]), zok := some 64, by' := some 64, un := true } := ⟨ti_191, trivial, ai_191, trivial, trivial, zv_191, zok_191, by_191, trivial, trivial, trivial, trivial, trivial, trivial, uns_191, trivial⟩
theorem uns_197 : (Tryd.prog.underlying 197).isSome = true := by kernel_rfl
theorem tok_197 : TOk Tryd.prog 197 { ti := some (false, 1), zv := some (.any), zok := some 1, by' := some 8, un := true } := ⟨ti_197, trivial, trivial, trivial, trivial, zv_197, zok_197, by_197, trivial, trivial, trivial, trivial, trivial, trivial, uns_197, trivial⟩
theorem uns_205 : (Tryd.prog.underlying 205).isSome = true := by kernel_rfl
theorem tok_205 : TOk Tryd.prog 205 { ti := some (false, 1), zv := some (.any), zok := some 1, by' := some 8, un := true } := ⟨ti_205, trivial, trivial, trivial, trivial, zv_205, zok_205, by_205, trivial, trivial, trivial, trivial, trivial, trivial, uns_205, trivial⟩
theorem uns_206 : (Tryd.prog.underlying 206).isSome = true := by kernel_rfl
theorem tok_206 : TOk Tryd.prog 206 { ti := some (false, 1), zv := some (.any), zok := some 1, by' := some 8, un := true } := ⟨ti_206, trivial, trivial, trivial, trivial, zv_206, zok_206, by_206, trivial, trivial, trivial, trivial, trivial, trivial, uns_206, trivial⟩
theorem uns_207 : (Tryd.prog.underlying 207).isSome = true := by kernel_rfl
theorem tok_207 : TOk Tryd.prog 207 { ti := some (false, 1), ei := some (5, 1), zv := some (.nils), zok := some 1, by' := some 24, sli := true, ni := true, un := true } := ⟨ti_207, ei_207, trivial, trivial, trivial, zv_207, zok_207, by_207, trivial, trivial, isSli_207, trivial, trivial, notInt_207, uns_207, trivial⟩
theorem uns_208 : (Tryd.prog.underlying 208).isSome = true := by kernel_rfl
theorem tok_208 : TOk Tryd.prog 208 { ti := some (false, 1), zv := some (.nilp), zok := some 1, by' := some 8, ptr := true, un := true } := ⟨ti_208, trivial, trivial, trivial, trivial, zv_208, zok_208, by_208, trivial, trivial, trivial, trivial, isPtr_208, trivial, uns_208, trivial⟩
theorem uns_213 : (Tryd.prog.underlying 213).isSome = true := by kernel_rfl
theorem tok_213 : TOk Tryd.prog 213 { ti := some (false, 1), zv := some (.any), zok := some 1, by' := some 8, un := true } := ⟨ti_213, trivial, trivial, trivial, trivial, zv_213, zok_213, by_213, trivial, trivial, trivial, trivial, trivial, trivial, uns_213, trivial⟩
theorem uns_215 : (Tryd.prog.underlying 215).isSome = true := by kernel_rfl
theorem tok_215 : TOk Tryd.prog 215 { ti := some (false, 1), zv := some (.any), zok := some 1, by' := some 8, un := true } := ⟨ti_215, trivial, trivial, trivial, trivial, zv_215, zok_215, by_215, trivial, trivial, trivial, trivial, trivial, trivial, uns_215, trivial⟩
theorem uns_217 : (Tryd.prog.underlying 217).isSome = true := by kernel_rfl
theorem tok_217 : TOk Tryd.prog 217 { ti := some (true, 1), fi := [some (0, (false, 1))], si := some [(0, 1)], zv := some (.agg [.nili]), zok := some 1, by' := some 16, un := true } := ⟨ti_217, trivial, trivial, ⟨fi_217_0, trivial⟩, si_217, zv_217, zok_217, by_217, trivial, trivial, trivial, trivial, trivial, trivial, uns_217, trivial⟩
theorem uns_218 : (Tryd.prog.underlying 218).isSome = true := by kernel_rfl
theorem tok_218 : TOk Tryd.prog 218 { ti := some (true, 1), fi := [some (0, (false, 1))], si := some [(0, 1)], zv := some (.agg [.nili]), zok := some 1, by' := some 16, un := true } := ⟨ti_218, trivial, trivial, ⟨fi_218_0, trivial⟩, si_218, zv_218, zok_218, by_218, trivial, trivial, trivial, trivial, trivial, trivial, uns_218, trivial⟩
theorem uns_219 : (Tryd.prog.underlying 219).isSome = true := by kernel_rfl
theorem tok_219 : TOk Tryd.prog 219 { ti := some (false, 1), zv := some (.any), zok := some 1, by' := some 8, un := true } := ⟨ti_219, trivial, trivial, trivial, trivial, zv_219, zok_219, by_219, trivial, trivial, trivial, trivial, trivial, trivial, uns_219, trivial⟩
def Tryd.tt : TT := (.node (.node (.node (.node (.node (.node (.node (.node .leaf 1 { ti := some (false, 1), zv := some (.any), zok := some 1, by' := some 8, un := true } .leaf) 2 { ti := some (false, 1), zv := some (.int .i64 0), zok := some 1, by' := some 8, ik := some .i64, un := true } .leaf) 3 { ti := some (false, 1), zv := some (.int .i64 0), zok := some 1, by' := some 8, ik := some .i64, un := true } (.node (.node .leaf 4 { ti := some (false, 1), zv := some (.bool false), zok := some 1, by' := some 1, boo := true, un := true } .leaf) 5 { ti := some (false, 1), zv := some (.int .u8 0), zok := some 1, by' := some 1, ik := some .u8, un := true } .leaf)) 9 { ti := some (false, 1), zv := some (.str []), zok := some 1, by' := some 16, str := true, ni := true, un := true } (.node (.node (.node .leaf 12 { ti := some (false, 1), zv := some (.int .u64 0), zok := some 1, by' := some 8, ik := some .u64, un := true } .leaf) 13 { ti := some (true, 2), fi := [some (0, (false, 1)), some (1, (false, 1))], si := some [(0, 1), (1, 1)], zv := some (.agg [.str [], .int .u64 0]), zok := some 2, by' := some 24, un := true } .leaf) 21 { ti := some (false, 1), zv := some (.int .i32 0), zok := some 1, by' := some 4, ik := some .i32, un := true } (.node .leaf 22 { ti := some (false, 1), ei := some (36, 2), zv := some (.nils), zok := some 1, by' := some 24, sli := true, ni := true, un := true } .leaf))) 23 { ti := some (false, 1), zv := some (.int .i64 0), zok := some 1, by' := some 8, ik := some .i64, un := true } (.node (.node (.node (.node .leaf 25 { ti := some (false, 1), zv := some (.any), zok := some 1, by' := some 8, un := true } .leaf) 26 { ti := some (false, 1), zv := some (.any), zok := some 1, by' := some 8, un := true } .leaf) 27 { ti := some (false, 1), zv := some (.any), zok := some 1, by' := some 8, un := true } (.node (.node .leaf 29 { ti := some (false, 1), zv := some (.any), zok := some 1, by' := some 8, un := true } .leaf) 30 { ti := some (false, 1), zv := some (.any), zok := some 1, by' := some 8, un := true } .leaf)) 31 { ti := some (false, 1), zv := some (.any), zok := some 1, by' := some 8, un := true } (.node (.node (.node .leaf 33 { ti := some (false, 1), zv := some (.any), zok := some 1, by' := some 8, un := true } .leaf) 34 { ti := some (false, 1), zv := some (.any), zok := some 1, by' := some 8, un := true } .leaf) 35 { ti := some (true, 2), fi := [some (0, (false, 1)), some (1, (false, 1))], si := some [(0, 1), (1, 1)], zv := some (.agg [.str [], .str []]), zok := some 2, by' := some 32, un := true } (.node .leaf 36 { ti := some (true, 2), fi := [some (0, (false, 1)), some (1, (false, 1))], si := some [(0, 1), (1, 1)], zv := some (.agg [.str [], .str []]), zok := some 2, by' := some 32, un := true, sq := some [.s, .s] } .leaf)))) 37 { ti := some (false, 1), ei := some (9, 1), zv := some (.nils), zok := some 1, by' := some 24, sli := true, ni := true, un := true } (.node (.node (.node (.node (.node .leaf 38 { ti := some (false, 1), zv := some (.any), zok := some 1, by' := some 8, un := true } .leaf) 39 { ti := some (false, 1), zv := some (.any), zok := some 1, by' := some 8, un := true } .leaf) 40 { ti := some (false, 1), zv := some (.nilp), zok := some 1, by' := some 8, ptr := true, un := true } (.node (.node .leaf 41 { ti := some (false, 1), zv := some (.any), zok := some 1, by' := some 8, un := true } .leaf) 42 { ti := some (false, 1), zv := some (.any), zok := some 1, by' := some 8, un := true } .leaf)) 43 { ti := some (false, 1), zv := some (.any), zok := some 1, by' := some 8, un := true } (.node (.node (.node .leaf 44 { ti := some (false, 1), zv := some (.nilp), zok := some 1, by' := some 8, ptr := true, un := true } .leaf) 45 { ti := some (false, 1), ei := some (5, 1), zv := some (.nils), zok := some 1, by' := some 24, sli := true, ni := true, un := true } .leaf) 46 { ti := some (true, 2), fi := [some (0, (false, 1)), some (1, (false, 1))], si := some [(0, 1), (1, 1)], zv := some (.agg [.nilp, .nils]), zok := some 2, by' := some 32, un := true } (.node .leaf 47 { ti := some (true, 2), fi := [some (0, (false, 1)), some (1, (false, 1))], si := some [(0, 1), (1, 1)], zv := some (.agg [.nilp, .nils]), zok := some 2, by' := some 32, un := true } .leaf))) 48 { ti := some (false, 1), zv := some (.any), zok := some 1, by' := some 8, un := true } (.node (.node (.node (.node .leaf 50 { ti := some (false, 1), zv := some (.any), zok := some 1, by' := some 8, un := true } .leaf) 54 { ti := some (false, 1), zv := some (.any), zok := some 1, by' := some 8, un := true } .leaf) 55 { ti := some (false, 1), zv := some (.any), zok := some 1, by' := some 8, un := true } (.node .leaf 56 { ti := some (false, 1), zv := some (.any), zok := some 1, by' := some 8, un := true } .leaf)) 58 { ti := some (false, 1), zv := some (.any), zok := some 1, by' := some 8, un := true } (.node (.node (.node .leaf 59 { ti := some (false, 1), zv := some (.any), zok := some 1, by' := some 8, un := true } .leaf) 60 { ti := some (false, 1), zv := some (.any), zok := some 1, by' := some 8, un := true } .leaf) 62 { ti := some (false, 1), zv := some (.any), zok := some 1, by' := some 8, un := true } (.node .leaf 63 { ti := some (false, 1), zv := some (.any), zok := some 1, by' := some 8, un := true } .leaf))))) 64 { ti := some (false, 1), zv := some (.any), zok := some 1, by' := some 8, un := true } (.node (.node (.node (.node (.node (.node .leaf 65 { ti := some (false, 1), zv := some (.any), zok := some 1, by' := some 8, un := true } .leaf) 66 { ti := some (false, 1), zv := some (.any), zok := some 1, by' := some 8, un := true } .leaf) 67 { ti := some (false, 1), zv := some (.any), zok := some 1, by' := some 8, un := true } (.node (.node .leaf 68 { ti := some (false, 1), zv := some (.any), zok := some 1, by' := some 8, un := true } .leaf) 69 { ti := some (true, 256), ai := some (256, (false, 1)), zv := some (.agg [.bool false, .bool false, .bool false, .bool false, .bool false, .bool false, .bool false, .bool false, .bool false, .bool false, .bool false, .bool false, .bool false, .bool false, .bool false, .bool false, .bool false, .bool false, .bool false, .bool false, .bool false, .bool false, .bool false, .bool false, .bool false, .bool false, .bool false, .bool false, .bool false, .bool false, .bool false, .bool false, .bool false, .bool false, .bool false, .bool false, .bool false, .bool false, .bool false, .bool false, .bool false, .bool false, .bool false, .bool false, .bool false, .bool false, .bool false, .bool false, .bool false, .bool false, .bool false, .bool false, .bool false, .bool false, .bool false, .bool false, .bool false, .bool false, .bool false, .bool false, .bool false, .bool false, .bool false, .bool false, .bool false, .bool false, .bool false, .bool false, .bool false, .bool false, .bool false, .bool false, .bool false, .bool false, .bool false, .bool false, .bool false, .bool false, .bool false, .bool false, .bool false, .bool false, .bool false, .bool false, .bool false, .bool false, .bool false, .bool false, .bool false, .bool false, .bool false, .bool false, .bool false, .bool false, .bool false, .bool false, .bool false, .bool false, .bool false, .bool false, .bool false, .bool false, .bool false, .bool false, .bool false, .bool false, .bool false, .bool false, .bool false, .bool false, .bool false, .bool false, .bool false, .bool false, .bool false, .bool false, .bool false, .bool false, .bool false, .bool false, .bool false, .bool false, .bool false, .bool false, .bool false, .bool false, .bool false, .bool false, .bool false, .bool false, .bool false, .bool false, .bool false, .bool false, .bool false, .bool false, .bool false, .bool false, .bool false, .bool false, .bool false, .bool false, .bool false, .bool false, .bool false, .bool false, .bool false, .bool false, .bool false, .bool false, .bool false, .bool false, .bool false, .bool false, .bool false, .bool false, .bool false, .bool false, .bool false, .bool false, .bool false, .bool false, .bool false, .bool false, .bool false, .bool false, .bool false, .bool false, .bool false, .bool false, .bool false, .bool false, .bool false, .bool false, .bool false, .bool false, .bool false, .bool false, .bool false, .bool false, .bool false, .bool false, .bool false, .bool false, .bool false, .bool false, .bool false, .bool false, .bool false, .bool false, .bool false, .bool false, .bool false, .bool false, .bool false, .bool false, .bool false, .bool false, .bool false, .bool false, .bool false, .bool false, .bool false, .bool false, .bool false, .bool false, .bool false, .bool false, .bool false, .bool false, .bool false, .bool false, .bool false, .bool false, .bool false, .bool false, .bool false, .bool false, .bool false, .bool false, .bool false, .bool false, .bool false, .bool false, .bool false, .bool false, .bool false, .bool false, .bool false, .bool false, .bool false, .bool false, .bool false, .bool false, .bool false, .bool false, .bool false, .bool false, .bool false, .bool false, .bool false, .bool false, .bool false, .bool false, .bool false, .bool false, .bool false, .bool false, .bool false, .bool false, .bool false, .bool false, .bool false, .bool false, .bool false, .bool false]), zok := some 256, by' := some 256, un := true } .leaf)) 70 { ti := some (true, 256), ai := some (256, (false, 1)), zv := some (.agg [.bool false, .bool false, .bool false, .bool false, .bool false, .bool false, .bool false, .bool false, .bool false, .bool false, .bool false, .bool false, .bool false, .bool false, .bool false, .bool false, .bool false, .bool false, .bool false, .bool false, .bool false, .bool false, .bool false, .bool false, .bool false, .bool false, .bool false, .bool false, .bool false, .bool false, .bool false, .bool false, .bool false, .bool false, .bool false, .bool false, .bool false, .bool false, .bool false, .bool false, .bool false, .bool false, .bool false, .bool false, .bool false, .bool false, .bool false, .bool false, .bool false, .bool false, .bool false, .bool false, .bool false, .bool false, .bool false, .bool false, .bool false, .bool false, .bool false, .bool false, .bool false, .bool false, .bool false, .bool false, .bool false, .bool false, .bool false, .bool false, .bool false, .bool false, .bool false, .bool false, .bool false, .bool false, .bool false, .bool false, .bool false, .bool false, .bool false, .bool false, .bool false, .bool false, .bool false, .bool false, .bool false, .bool false, .bool false, .bool false, .bool false, .bool false, .bool false, .bool false, .bool false, .bool false, .bool false, .bool false, .bool false, .bool false, .bool false, .bool false, .bool false, .bool false, .bool false, .bool false, .bool false, .bool false, .bool false, .bool false, .bool false, .bool false, .bool false, .bool false, .bool false, .bool false, .bool false, .bool false, .bool false, .bool false, .bool false, .bool false, .bool false, .bool false, .bool false, .bool false, .bool false, .bool false, .bool false, .bool false, .bool false, .bool false, .bool false, .bool false, .bool false, .bool false, .bool false, .bool false, .bool false, .bool false, .bool false, .bool false, .bool false, .bool false, .bool false, .bool false, .bool false, .bool false, .bool false, .bool false, .bool false, .bool false, .bool false, .bool false, .bool false, .bool false, .bool false, .bool false, .bool false, .bool false, .bool false, .bool false, .bool false, .bool false, .bool false, .bool false, .bool false, .bool false, .bool false, .bool false, .bool false, .bool false, .bool false, .bool false, .bool false, .bool false, .bool false, .bool false, .bool false, .bool false, .bool false, .bool false, .bool false, .bool false, .bool false, .bool false, .bool false, .bool false, .bool false, .bool false, .bool false, .bool false, .bool false, .bool false, .bool false, .bool false, .bool false, .bool false, .bool false, .bool false, .bool false, .bool false, .bool false, .bool false, .bool false, .bool false, .bool false, .bool false, .bool false, .bool false, .bool false, .bool false, .bool false, .bool false, .bool false, .bool false, .bool false, .bool false, .bool false, .bool false, .bool false, .bool false, .bool false, .bool false, .bool false, .bool false, .bool false, .bool false, .bool false, .bool false, .bool false, .bool false, .bool false, .bool false, .bool false, .bool false, .bool false, .bool false, .bool false, .bool false, .bool false, .bool false, .bool false, .bool false, .bool false, .bool false, .bool false, .bool false, .bool false, .bool false, .bool false, .bool false, .bool false, .bool false, .bool false, .bool false, .bool false, .bool false]), zok := some 256, by' := some 256, un := true } (.node (.node (.node .leaf 72 { ti := some (false, 1), zv := some (.any), zok := some 1, by' := some 8, un := true } .leaf) 73 { ti := some (false, 1), zv := some (.any), zok := some 1, by' := some 8, un := true } .leaf) 74 { ti := some (false, 1), zv := some (.nilp), zok := some 1, by' := some 8, ptr := true, un := true } (.node .leaf 75 { ti := some (true, 0), zv := some (.agg []), by' := some 0, un := true } .leaf))) 76 { ti := some (true, 0), zv := some (.agg []), by' := some 0, un := true } (.node (.node (.node (.node .leaf 77 { ti := some (true, 0), zv := some (.agg []), by' := some 0, un := true } .leaf) 78 { ti := some (false, 1), zv := some (.int .u32 0), zok := some 1, by' := some 4, ik := some .u32, un := true } .leaf) 79 { ti := some (true, 1), fi := [none, some (0, (false, 1))], si := some [(0, 0), (0, 1)], zv := some (.agg [.int .u32 0]), zok := some 1, by' := some 4, un := true } (.node .leaf 80 { ti := some (true, 1), fi := [none, some (0, (false, 1))], si := some [(0, 0), (0, 1)], zv := some (.agg [.int .u32 0]), zok := some 1, by' := some 4, un := true } .leaf)) 81 { ti := some (true, 2), fi := [some (0, (false, 1)), some (1, (false, 1))], si := some [(0, 1), (1, 1)], zv := some (.agg [.int .i32 0, .int .u32 0]), zok := some 2, by' := some 8, un := true } (.node (.node (.node .leaf 82 { ti := some (true, 2), fi := [some (0, (false, 1)), some (1, (false, 1))], si := some [(0, 1), (1, 1)], zv := some (.agg [.int .i32 0, .int .u32 0]), zok := some 2, by' := some 8, un := true } .leaf) 83 { ti := some (true, 2), fi := [none, some (0, (true, 2))], si := some [(0, 0), (0, 2)], zv := some (.agg [.int .i32 0, .int .u32 0]), zok := some 2, by' := some 8, un := true } .leaf) 84 { ti := some (true, 2), fi := [none, some (0, (true, 2))], si := some [(0, 0), (0, 2)], zv := some (.agg [.int .i32 0, .int .u32 0]), zok := some 2, by' := some 8, un := true } (.node .leaf 85 { ti := some (true, 3), fi := [none, some (0, (true, 1)), some (1, (true, 2))], si := some [(0, 0), (0, 1), (1, 2)], zv := some (.agg [.int .u32 0, .int .i32 0, .int .u32 0]), zok := some 3, by' := some 12, un := true } .leaf)))) 86 { ti := some (true, 3), fi := [none, some (0, (true, 1)), some (1, (true, 2))], si := some [(0, 0), (0, 1), (1, 2)], zv := some (.agg [.int .u32 0, .int .i32 0, .int .u32 0]), zok := some 3, by' := some 12, un := true } (.node (.node (.node (.node (.node .leaf 89 { ti := some (true, 5), fi := [some (0, (true, 3)), some (3, (false, 1)), some (4, (false, 1))], si := some [(0, 3), (3, 1), (4, 1)], zv := some (.agg [.int .u32 0, .int .i32 0, .int .u32 0, .nili, .nils]), zok := some 5, by' := some 56, un := true } .leaf) 90 { ti := some (true, 5), fi := [some (0, (true, 3)), some (3, (false, 1)), some (4, (false, 1))], si := some [(0, 3), (3, 1), (4, 1)], zv := some (.agg [.int .u32 0, .int .i32 0, .int .u32 0, .nili, .nils]), zok := some 5, by' := some 56, un := true } .leaf) 91 { ti := some (false, 1), zv := some (.any), zok := some 1, by' := some 8, un := true } (.node (.node .leaf 92 { ti := some (false, 1), zv := some (.any), zok := some 1, by' := some 8, un := true } .leaf) 93 { ti := some (false, 1), zv := some (.any), zok := some 1, by' := some 8, un := true } .leaf)) 94 { ti := some (false, 1), zv := some (.any), zok := some 1, by' := some 8, un := true } (.node (.node (.node .leaf 95 { ti := some (false, 1), zv := some (.any), zok := some 1, by' := some 8, un := true } .leaf) 96 { ti := some (false, 1), zv := some (.nilp), zok := some 1, by' := some 8, ptr := true, un := true } .leaf) 97 { ti := some (false, 1), ei := some (3, 1), zv := some (.nils), zok := some 1, by' := some 24, sli := true, ni := true, un := true } (.node .leaf 98 { ti := some (false, 1), zv := some (.any), zok := some 1, by' := some 8, un := true } .leaf))) 99 { ti := some (false, 1), zv := some (.any), zok := some 1, by' := some 8, un := true } (.node (.node (.node (.node .leaf 100 { ti := some (false, 1), zv := some (.any), zok := some 1, by' := some 8, un := true } .leaf) 101 { ti := some (false, 1), zv := some (.any), zok := some 1, by' := some 8, un := true } .leaf) 103 { ti := some (false, 1), zv := some (.any), zok := some 1, by' := some 8, un := true } (.node .leaf 104 { ti := some (false, 1), zv := some (.any), zok := some 1, by' := some 8, un := true } .leaf)) 105 { ti := some (false, 1), zv := some (.nilp), zok := some 1, by' := some 8, ptr := true, un := true } (.node (.node (.node .leaf 106 { ti := some (false, 1), zv := some (.any), zok := some 1, by' := some 8, un := true } .leaf) 107 { ti := some (false, 1), zv := some (.any), zok := some 1, by' := some 8, un := true } .leaf) 108 { ti := some (false, 1), zv := some (.any), zok := some 1, by' := some 8, un := true } (.node .leaf 110 { ti := some (false, 1), zv := some (.any), zok := some 1, by' := some 8, un := true } .leaf)))))) 113 { ti := some (false, 1), zv := some (.any), zok := some 1, by' := some 8, un := true } (.node (.node (.node (.node (.node (.node (.node .leaf 114 { ti := some (false, 1), zv := some (.any), zok := some 1, by' := some 8, un := true } .leaf) 115 { ti := some (false, 1), zv := some (.any), zok := some 1, by' := some 8, un := true } .leaf) 116 { ti := some (false, 1), zv := some (.nilp), zok := some 1, by' := some 8, ptr := true, un := true } (.node (.node .leaf 117 { ti := some (false, 1), zv := some (.any), zok := some 1, by' := some 8, un := true } .leaf) 118 { ti := some (false, 1), zv := some (.nilp), zok := some 1, by' := some 8, ptr := true, un := true } .leaf)) 119 { ti := some (false, 1), zv := some (.any), zok := some 1, by' := some 8, un := true } (.node (.node (.node .leaf 120 { ti := some (false, 1), zv := some (.nilp), zok := some 1, by' := some 8, ptr := true, un := true } .leaf) 121 { ti := some (false, 1), zv := some (.any), zok := some 1, by' := some 8, un := true } .leaf) 122 { ti := some (false, 1), zv := some (.nilp), zok := some 1, by' := some 8, ptr := true, un := true } (.node .leaf 123 { ti := some (false, 1), zv := some (.any), zok := some 1, by' := some 8, un := true } .leaf))) 124 { ti := some (true, 256), ai := some (256, (false, 1)), zv := some (.agg [.int .u8 0, .int .u8 0, .int .u8 0, .int .u8 0, .int .u8 0, .int .u8 0, .int .u8 0, .int .u8 0, .int .u8 0, .int .u8 0, .int .u8 0, .int .u8 0, .int .u8 0, .int .u8 0, .int .u8 0, .int .u8 0, .int .u8 0, .int .u8 0, .int .u8 0, .int .u8 0, .int .u8 0, .int .u8 0, .int .u8 0, .int .u8 0, .int .u8 0, .int .u8 0, .int .u8 0, .int .u8 0, .int .u8 0, .int .u8 0, .int .u8 0, .int .u8 0, .int .u8 0, .int .u8 0, .int .u8 0, .int .u8 0, .int .u8 0, .int .u8 0, .int .u8 0, .int .u8 0, .int .u8 0, .int .u8 0, .int .u8 0, .int .u8 0, .int .u8 0, .int .u8 0, .int .u8 0, .int .u8 0, .int .u8 0, .int .u8 0, .int .u8 0, .int .u8 0, .int .u8 0, .int .u8 0, .int .u8 0, .int .u8 0, .int .u8 0, .int .u8 0, .int .u8 0, .int .u8 0, .int .u8 0, .int .u8 0, .int .u8 0, .int .u8 0, .int .u8 0, .int .u8 0, .int .u8 0, .int .u8 0, .int .u8 0, .int .u8 0, .int .u8 0, .int .u8 0, .int .u8 0, .int .u8 0, .int .u8 0, .int .u8 0, .int .u8 0, .int .u8 0, .int .u8 0, .int .u8 0, .int .u8 0, .int .u8 0, .int .u8 0, .int .u8 0, .int .u8 0, .int .u8 0, .int .u8 0, .int .u8 0, .int .u8 0, .int .u8 0, .int .u8 0, .int .u8 0, .int .u8 0, .int .u8 0, .int .u8 0, .int .u8 0, .int .u8 0, .int .u8 0, .int .u8 0, .int .u8 0, .int .u8 0, .int .u8 0, .int .u8 0, .int .u8 0, .int .u8 0, .int .u8 0, .int .u8 0, .int .u8 0, .int .u8 0, .int .u8 0, .int .u8 0, .int .u8 0, .int .u8 0, .int .u8 0, .int .u8 0, .int .u8 0, .int .u8 0, .int .u8 0, .int .u8 0, .int .u8 0, .int .u8 0, .int .u8 0, .int .u8 0, .int .u8 0, .int .u8 0, .int .u8 0, .int .u8 0, .int .u8 0, .int .u8 0, .int .u8 0, .int .u8 0, .int .u8 0, .int .u8 0, .int .u8 0, .int .u8 0, .int .u8 0, .int .u8 0, .int .u8 0, .int .u8 0, .int .u8 0, .int .u8 0, .int .u8 0, .int .u8 0, .int .u8 0, .int .u8 0, .int .u8 0, .int .u8 0, .int .u8 0, .int .u8 0, .int .u8 0, .int .u8 0, .int .u8 0, .int .u8 0, .int .u8 0, .int .u8 0, .int .u8 0, .int .u8 0, .int .u8 0, .int .u8 0, .int .u8 0, .int .u8 0, .int .u8 0, .int .u8 0, .int .u8 0, .int .u8 0, .int .u8 0, .int .u8 0, .int .u8 0, .int .u8 0, .int .u8 0, .int .u8 0, .int .u8 0, .int .u8 0, .int .u8 0, .int .u8 0, .int .u8 0, .int .u8 0, .int .u8 0, .int .u8 0, .int .u8 0, .int .u8 0, .int .u8 0, .int .u8 0, .int .u8 0, .int .u8 0, .int .u8 0, .int .u8 0, .int .u8 0, .int .u8 0, .int .u8 0, .int .u8 0, .int .u8 0, .int .u8 0, .int .u8 0, .int .u8 0, .int .u8 0, .int .u8 0, .int .u8 0, .int .u8 0, .int .u8 0, .int .u8 0, .int .u8 0, .int .u8 0, .int .u8 0, .int .u8 0, .int .u8 0, .int .u8 0, .int .u8 0, .int .u8 0, .int .u8 0, .int .u8 0, .int .u8 0, .int .u8 0, .int .u8 0, .int .u8 0, .int .u8 0, .int .u8 0, .int .u8 0, .int .u8 0, .int .u8 0, .int .u8 0, .int .u8 0, .int .u8 0, .int .u8 0, .int .u8 0, .int .u8 0, .int .u8 0, .int .u8 0, .int .u8 0, .int .u8 0, .int .u8 0, .int .u8 0, .int .u8 0, .int .u8 0, .int .u8 0, .int .u8 0, .int .u8 0, .int .u8 0, .int .u8 0, .int .u8 0, .int .u8 0, .int .u8 0, .int .u8 0, .int .u8 0, .int .u8 0, .int .u8 0, .int .u8 0, .int .u8 0, .int .u8 0, .int .u8 0, .int .u8 0, .int .u8 0, .int .u8 0, .int .u8 0, .int .u8 0, .int .u8 0]), zok := some 256, by' := some 256, un := true } (.node (.node (.node (.node .leaf 125 { ti := some (true, 256), ai := some (256, (false, 1)), zv := some (.agg [.int .u8 0, .int .u8 0, .int .u8 0, .int .u8 0, .int .u8 0, .int .u8 0, .int .u8 0, .int .u8 0, .int .u8 0, .int .u8 0, .int .u8 0, .int .u8 0, .int .u8 0, .int .u8 0, .int .u8 0, .int .u8 0, .int .u8 0, .int .u8 0, .int .u8 0, .int .u8 0, .int .u8 0, .int .u8 0, .int .u8 0, .int .u8 0, .int .u8 0, .int .u8 0, .int .u8 0, .int .u8 0, .int .u8 0, .int .u8 0, .int .u8 0, .int .u8 0, .int .u8 0, .int .u8 0, .int .u8 0, .int .u8 0, .int .u8 0, .int .u8 0, .int .u8 0, .int .u8 0, .int .u8 0, .int .u8 0, .int .u8 0, .int .u8 0, .int .u8 0, .int .u8 0, .int .u8 0, .int .u8 0, .int .u8 0, .int .u8 0, .int .u8 0, .int .u8 0, .int .u8 0, .int .u8 0, .int .u8 0, .int .u8 0, .int .u8 0, .int .u8 0, .int .u8 0, .int .u8 0, .int .u8 0, .int .u8 0, .int .u8 0, .int .u8 0, .int .u8 0, .int .u8 0, .int .u8 0, .int .u8 0, .int .u8 0, .int .u8 0, .int .u8 0, .int .u8 0, .int .u8 0, .int .u8 0, .int .u8 0, .int .u8 0, .int .u8 0, .int .u8 0, .int .u8 0, .int .u8 0, .int .u8 0, .int .u8 0, .int .u8 0, .int .u8 0, .int .u8 0, .int .u8 0, .int .u8 0, .int .u8 0, .int .u8 0, .int .u8 0, .int .u8 0, .int .u8 0, .int .u8 0, .int .u8 0, .int .u8 0, .int .u8 0, .int .u8 0, .int .u8 0, .int .u8 0, .int .u8 0, .int .u8 0, .int .u8 0, .int .u8 0, .int .u8 0, .int .u8 0, .int .u8 0, .int .u8 0, .int .u8 0, .int .u8 0, .int .u8 0, .int .u8 0, .int .u8 0, .int .u8 0, .int .u8 0, .int .u8 0, .int .u8 0, .int .u8 0, .int .u8 0, .int .u8 0, .int .u8 0, .int .u8 0, .int .u8 0, .int .u8 0, .int .u8 0, .int .u8 0, .int .u8 0, .int .u8 0, .int .u8 0, .int .u8 0, .int .u8 0, .int .u8 0, .int .u8 0, .int .u8 0, .int .u8 0, .int .u8 0, .int .u8 0, .int .u8 0, .int .u8 0, .int .u8 0, .int .u8 0, .int .u8 0, .int .u8 0, .int .u8 0, .int .u8 0, .int .u8 0, .int .u8 0, .int .u8 0, .int .u8 0, .int .u8 0, .int .u8 0, .int .u8 0, .int .u8 0, .int .u8 0, .int .u8 0, .int .u8 0, .int .u8 0, .int .u8 0, .int .u8 0, .int .u8 0, .int .u8 0, .int .u8 0, .int .u8 0, .int .u8 0, .int .u8 0, .int .u8 0, .int .u8 0, .int .u8 0, .int .u8 0, .int .u8 0, .int .u8 0, .int .u8 0, .int .u8 0, .int .u8 0, .int .u8 0, .int .u8 0, .int .u8 0, .int .u8 0, .int .u8 0, .int .u8 0, .int .u8 0, .int .u8 0, .int .u8 0, .int .u8 0, .int .u8 0, .int .u8 0, .int .u8 0, .int .u8 0, .int .u8 0, .int .u8 0, .int .u8 0, .int .u8 0, .int .u8 0, .int .u8 0, .int .u8 0, .int .u8 0, .int .u8 0, .int .u8 0, .int .u8 0, .int .u8 0, .int .u8 0, .int .u8 0, .int .u8 0, .int .u8 0, .int .u8 0, .int .u8 0, .int .u8 0, .int .u8 0, .int .u8 0, .int .u8 0, .int .u8 0, .int .u8 0, .int .u8 0, .int .u8 0, .int .u8 0, .int .u8 0, .int .u8 0, .int .u8 0, .int .u8 0, .int .u8 0, .int .u8 0, .int .u8 0, .int .u8 0, .int .u8 0, .int .u8 0, .int .u8 0, .int .u8 0, .int .u8 0, .int .u8 0, .int .u8 0, .int .u8 0, .int .u8 0, .int .u8 0, .int .u8 0, .int .u8 0, .int .u8 0, .int .u8 0, .int .u8 0, .int .u8 0, .int .u8 0, .int .u8 0, .int .u8 0, .int .u8 0, .int .u8 0, .int .u8 0, .int .u8 0, .int .u8 0, .int .u8 0, .int .u8 0, .int .u8 0, .int .u8 0, .int .u8 0, .int .u8 0, .int .u8 0, .int .u8 0, .int .u8 0, .int .u8 0]), zok := some 256, by' := some 256, un := true } .leaf) 126 { ti := some (false, 1), zv := some (.nilp), zok := some 1, by' := some 8, ptr := true, un := true } .leaf) 127 { ti := some (true, 256), ai := some (256, (false, 1)), zv := some (.agg [.nils, .nils, .nils, .nils, .nils, .nils, .nils, .nils, .nils, .nils, .nils, .nils, .nils, .nils, .nils, .nils, .nils, .nils, .nils, .nils, .nils, .nils, .nils, .nils, .nils, .nils, .nils, .nils, .nils, .nils, .nils, .nils, .nils, .nils, .nils, .nils, .nils, .nils, .nils, .nils, .nils, .nils, .nils, .nils, .nils, .nils, .nils, .nils, .nils, .nils, .nils, .nils, .nils, .nils, .nils, .nils, .nils, .nils, .nils, .nils, .nils, .nils, .nils, .nils, .nils, .nils, .nils, .nils, .nils, .nils, .nils, .nils, .nils, .nils, .nils, .nils, .nils, .nils, .nils, .nils, .nils, .nils, .nils, .nils, .nils, .nils, .nils, .nils, .nils, .nils, .nils, .nils, .nils, .nils, .nils, .nils, .nils, .nils, .nils, .nils, .nils, .nils, .nils, .nils, .nils, .nils, .nils, .nils, .nils, .nils, .nils, .nils, .nils, .nils, .nils, .nils, .nils, .nils, .nils, .nils, .nils, .nils, .nils, .nils, .nils, .nils, .nils, .nils, .nils, .nils, .nils, .nils, .nils, .nils, .nils, .nils, .nils, .nils, .nils, .nils, .nils, .nils, .nils, .nils, .nils, .nils, .nils, .nils, .nils, .nils, .nils, .nils, .nils, .nils, .nils, .nils, .nils, .nils, .nils, .nils, .nils, .nils, .nils, .nils, .nils, .nils, .nils, .nils, .nils, .nils, .nils, .nils, .nils, .nils, .nils, .nils, .nils, .nils, .nils, .nils, .nils, .nils, .nils, .nils, .nils, .nils, .nils, .nils, .nils, .nils, .nils, .nils, .nils, .nils, .nils, .nils, .nils, .nils, .nils, .nils, .nils, .nils, .nils, .nils, .nils, .nils, .nils, .nils, .nils, .nils, .nils, .nils, .nils, .nils, .nils, .nils, .nils, .nils, .nils, .nils, .nils, .nils, .nils, .nils, .nils, .nils, .nils, .nils, .nils, .nils, .nils, .nils, .nils, .nils, .nils, .nils, .nils, .nils, .nils, .nils, .nils, .nils, .nils, .nils, .nils, .nils, .nils, .nils, .nils, .nils, .nils, .nils, .nils, .nils, .nils, .nils]), zok := some 256, by' := some 6144, un := true } (.node (.node .leaf 128 { ti := some (true, 257), fi := [some (0, (true, 256)), some (256, (false, 1))], si := some [(0, 256), (256, 1)], zv := some (.agg [.nils, .nils, .nils, .nils, .nils, .nils, .nils, .nils, .nils, .nils, .nils, .nils, .nils, .nils, .nils, .nils, .nils, .nils, .nils, .nils, .nils, .nils, .nils, .nils, .nils, .nils, .nils, .nils, .nils, .nils, .nils, .nils, .nils, .nils, .nils, .nils, .nils, .nils, .nils, .nils, .nils, .nils, .nils, .nils, .nils, .nils, .nils, .nils, .nils, .nils, .nils, .nils, .nils, .nils, .nils, .nils, .nils, .nils, .nils, .nils, .nils, .nils, .nils, .nils, .nils, .nils, .nils, .nils, .nils, .nils, .nils, .nils, .nils, .nils, .nils, .nils, .nils, .nils, .nils, .nils, .nils, .nils, .nils, .nils, .nils, .nils, .nils, .nils, .nils, .nils, .nils, .nils, .nils, .nils, .nils, .nils, .nils, .nils, .nils, .nils, .nils, .nils, .nils, .nils, .nils, .nils, .nils, .nils, .nils, .nils, .nils, .nils, .nils, .nils, .nils, .nils, .nils, .nils, .nils, .nils, .nils, .nils, .nils, .nils, .nils, .nils, .nils, .nils, .nils, .nils, .nils, .nils, .nils, .nils, .nils, .nils, .nils, .nils, .nils, .nils, .nils, .nils, .nils, .nils, .nils, .nils, .nils, .nils, .nils, .nils, .nils, .nils, .nils, .nils, .nils, .nils, .nils, .nils, .nils, .nils, .nils, .nils, .nils, .nils, .nils, .nils, .nils, .nils, .nils, .nils, .nils, .nils, .nils, .nils, .nils, .nils, .nils, .nils, .nils, .nils, .nils, .nils, .nils, .nils, .nils, .nils, .nils, .nils, .nils, .nils, .nils, .nils, .nils, .nils, .nils, .nils, .nils, .nils, .nils, .nils, .nils, .nils, .nils, .nils, .nils, .nils, .nils, .nils, .nils, .nils, .nils, .nils, .nils, .nils, .nils, .nils, .nils, .nils, .nils, .nils, .nils, .nils, .nils, .nils, .nils, .nils, .nils, .nils, .nils, .nils, .nils, .nils, .nils, .nils, .nils, .nils, .nils, .nils, .nils, .nils, .nils, .nils, .nils, .nils, .nils, .nils, .nils, .nils, .nils, .nils, .nils, .nils, .nils, .nils, .nils, .nils, .nils]), zok := some 257, by' := some 6168, un := true } .leaf) 129 { ti := some (true, 257), fi := [some (0, (true, 256)), some (256, (false, 1))], si := some [(0, 256), (256, 1)], zv := some (.agg [.nils, .nils, .nils, .nils, .nils, .nils, .nils, .nils, .nils, .nils, .nils, .nils, .nils, .nils, .nils, .nils, .nils, .nils, .nils, .nils, .nils, .nils, .nils, .nils, .nils, .nils, .nils, .nils, .nils, .nils, .nils, .nils, .nils, .nils, .nils, .nils, .nils, .nils, .nils, .nils, .nils, .nils, .nils, .nils, .nils, .nils, .nils, .nils, .nils, .nils, .nils, .nils, .nils, .nils, .nils, .nils, .nils, .nils, .nils, .nils, .nils, .nils, .nils, .nils, .nils, .nils, .nils, .nils, .nils, .nils, .nils, .nils, .nils, .nils, .nils, .nils, .nils, .nils, .nils, .nils, .nils, .nils, .nils, .nils, .nils, .nils, .nils, .nils, .nils, .nils, .nils, .nils, .nils, .nils, .nils, .nils, .nils, .nils, .nils, .nils, .nils, .nils, .nils, .nils, .nils, .nils, .nils, .nils, .nils, .nils, .nils, .nils, .nils, .nils, .nils, .nils, .nils, .nils, .nils, .nils, .nils, .nils, .nils, .nils, .nils, .nils, .nils, .nils, .nils, .nils, .nils, .nils, .nils, .nils, .nils, .nils, .nils, .nils, .nils, .nils, .nils, .nils, .nils, .nils, .nils, .nils, .nils, .nils, .nils, .nils, .nils, .nils, .nils, .nils, .nils, .nils, .nils, .nils, .nils, .nils, .nils, .nils, .nils, .nils, .nils, .nils, .nils, .nils, .nils, .nils, .nils, .nils, .nils, .nils, .nils, .nils, .nils, .nils, .nils, .nils, .nils, .nils, .nils, .nils, .nils, .nils, .nils, .nils, .nils, .nils, .nils, .nils, .nils, .nils, .nils, .nils, .nils, .nils, .nils, .nils, .nils, .nils, .nils, .nils, .nils, .nils, .nils, .nils, .nils, .nils, .nils, .nils, .nils, .nils, .nils, .nils, .nils, .nils, .nils, .nils, .nils, .nils, .nils, .nils, .nils, .nils, .nils, .nils, .nils, .nils, .nils, .nils, .nils, .nils, .nils, .nils, .nils, .nils, .nils, .nils, .nils, .nils, .nils, .nils, .nils, .nils, .nils, .nils, .nils, .nils, .nils, .nils, .nils, .nils, .nils, .nils, .nils]), zok := some 257, by' := some 6168, un := true } .leaf)) 130 { ti := some (false, 1), zv := some (.nilp), zok := some 1, by' := some 8, ptr := true, un := true } (.node (.node (.node .leaf 131 { ti := some (false, 1), zv := some (.any), zok := some 1, by' := some 8, un := true } .leaf) 132 { ti := some (false, 1), zv := some (.int .u64 0), zok := some 1, by' := some 8, ik := some .u64, un := true } .leaf) 133 { ti := some (false, 1), zv := some (.any), zok := some 1, by' := some 8, un := true } (.node .leaf 134 { ti := some (true, 2), fi := [some (0, (false, 1)), some (1, (false, 1))], si := some [(0, 1), (1, 1)], zv := some (.agg [.int .u8 0, .int .u8 0]), zok := some 2, by' := some 2, un := true } .leaf)))) 135 { ti := some (true, 2), fi := [some (0, (false, 1)), some (1, (false, 1))], si := some [(0, 1), (1, 1)], zv := some (.agg [.int .u8 0, .int .u8 0]), zok := some 2, by' := some 2, un := true } (.node (.node (.node (.node (.node .leaf 136 { ti := some (true, 32), ai := some (16, (true, 2)), zv := some (.agg [.int .u8 0, .int .u8 0, .int .u8 0, .int .u8 0, .int .u8 0, .int .u8 0, .int .u8 0, .int .u8 0, .int .u8 0, .int .u8 0, .int .u8 0, .int .u8 0, .int .u8 0, .int .u8 0, .int .u8 0, .int .u8 0, .int .u8 0, .int .u8 0, .int .u8 0, .int .u8 0, .int .u8 0, .int .u8 0, .int .u8 0, .int .u8 0, .int .u8 0, .int .u8 0, .int .u8 0, .int .u8 0, .int .u8 0, .int .u8 0, .int .u8 0, .int .u8 0]), zok := some 32, by' := some 32, un := true } .leaf) 137 { ti := some (false, 1), zv := some (.nilp), zok := some 1, by' := some 8, ptr := true, un := true } .leaf) 138 { ti := some (false, 1), zv := some (.any), zok := some 1, by' := some 8, un := true } (.node (.node .leaf 139 { ti := some (false, 1), zv := some (.any), zok := some 1, by' := some 8, un := true } .leaf) 140 { ti := some (false, 1), zv := some (.nilp), zok := some 1, by' := some 8, ptr := true, un := true } .leaf)) 141 { ti := some (false, 1), zv := some (.any), zok := some 1, by' := some 8, un := true } (.node (.node (.node .leaf 142 { ti := some (true, 2), fi := [some (0, (false, 1)), some (1, (false, 1))], si := some [(0, 1), (1, 1)], zv := some (.agg [.nilp, .str []]), zok := some 2, by' := some 24, un := true } .leaf) 143 { ti := some (true, 2), fi := [some (0, (false, 1)), some (1, (false, 1))], si := some [(0, 1), (1, 1)], zv := some (.agg [.nilp, .str []]), zok := some 2, by' := some 24, un := true } .leaf) 144 { ti := some (false, 1), zv := some (.nilp), zok := some 1, by' := some 8, ptr := true, un := true } (.node .leaf 145 { ti := some (false, 1), ei := some (144, 1), zv := some (.nils), zok := some 1, by' := some 24, sli := true, ni := true, un := true } .leaf))) 146 { ti := some (true, 5), fi := [some (0, (false, 1)), some (1, (false, 1)), some (2, (false, 1)), some (3, (false, 1)), some (4, (false, 1))], si := some [(0, 1), (1, 1), (2, 1), (3, 1), (4, 1)], zv := some (.agg [.str [], .int .i64 0, .str [], .nilp, .nils]), zok := some 5, by' := some 72, un := true } (.node (.node (.node (.node .leaf 147 { ti := some (true, 5), fi := [some (0, (false, 1)), some (1, (false, 1)), some (2, (false, 1)), some (3, (false, 1)), some (4, (false, 1))], si := some [(0, 1), (1, 1), (2, 1), (3, 1), (4, 1)], zv := some (.agg [.str [], .int .i64 0, .str [], .nilp, .nils]), zok := some 5, by' := some 72, un := true } .leaf) 148 { ti := some (true, 262), fi := [some (0, (true, 5)), some (5, (false, 1)), some (6, (true, 256))], si := some [(0, 5), (5, 1), (6, 256)], zv := some (.agg [.str [], .int .i64 0, .str [], .nilp, .nils, .int .i64 0, .int .u8 0, .int .u8 0, .int .u8 0, .int .u8 0, .int .u8 0, .int .u8 0, .int .u8 0, .int .u8 0, .int .u8 0, .int .u8 0, .int .u8 0, .int .u8 0, .int .u8 0, .int .u8 0, .int .u8 0, .int .u8 0, .int .u8 0, .int .u8 0, .int .u8 0, .int .u8 0, .int .u8 0, .int .u8 0, .int .u8 0, .int .u8 0, .int .u8 0, .int .u8 0, .int .u8 0, .int .u8 0, .int .u8 0, .int .u8 0, .int .u8 0, .int .u8 0, .int .u8 0, .int .u8 0, .int .u8 0, .int .u8 0, .int .u8 0, .int .u8 0, .int .u8 0, .int .u8 0, .int .u8 0, .int .u8 0, .int .u8 0, .int .u8 0, .int .u8 0, .int .u8 0, .int .u8 0, .int .u8 0, .int .u8 0, .int .u8 0, .int .u8 0, .int .u8 0, .int .u8 0, .int .u8 0, .int .u8 0, .int .u8 0, .int .u8 0, .int .u8 0, .int .u8 0, .int .u8 0, .int .u8 0, .int .u8 0, .int .u8 0, .int .u8 0, .int .u8 0, .int .u8 0, .int .u8 0, .int .u8 0, .int .u8 0, .int .u8 0, .int .u8 0, .int .u8 0, .int .u8 0, .int .u8 0, .int .u8 0, .int .u8 0, .int .u8 0, .int .u8 0, .int .u8 0, .int .u8 0, .int .u8 0, .int .u8 0, .int .u8 0, .int .u8 0, .int .u8 0, .int .u8 0, .int .u8 0, .int .u8 0, .int .u8 0, .int .u8 0, .int .u8 0, .int .u8 0, .int .u8 0, .int .u8 0, .int .u8 0, .int .u8 0, .int .u8 0, .int .u8 0, .int .u8 0, .int .u8 0, .int .u8 0, .int .u8 0, .int .u8 0, .int .u8 0, .int .u8 0, .int .u8 0, .int .u8 0, .int .u8 0, .int .u8 0, .int .u8 0, .int .u8 0, .int .u8 0, .int .u8 0, .int .u8 0, .int .u8 0, .int .u8 0, .int .u8 0, .int .u8 0, .int .u8 0, .int .u8 0, .int .u8 0, .int .u8 0, .int .u8 0, .int .u8 0, .int .u8 0, .int .u8 0, .int .u8 0, .int .u8 0, .int .u8 0, .int .u8 0, .int .u8 0, .int .u8 0, .int .u8 0, .int .u8 0, .int .u8 0, .int .u8 0, .int .u8 0, .int .u8 0, .int .u8 0, .int .u8 0, .int .u8 0, .int .u8 0, .int .u8 0, .int .u8 0, .int .u8 0, .int .u8 0, .int .u8 0, .int .u8 0, .int .u8 0, .int .u8 0, .int .u8 0, .int .u8 0, .int .u8 0, .int .u8 0, .int .u8 0, .int .u8 0, .int .u8 0, .int .u8 0, .int .u8 0, .int .u8 0, .int .u8 0, .int .u8 0, .int .u8 0, .int .u8 0, .int .u8 0, .int .u8 0, .int .u8 0, .int .u8 0, .int .u8 0, .int .u8 0, .int .u8 0, .int .u8 0, .int .u8 0, .int .u8 0, .int .u8 0, .int .u8 0, .int .u8 0, .int .u8 0, .int .u8 0, .int .u8 0, .int .u8 0, .int .u8 0, .int .u8 0, .int .u8 0, .int .u8 0, .int .u8 0, .int .u8 0, .int .u8 0, .int .u8 0, .int .u8 0, .int .u8 0, .int .u8 0, .int .u8 0, .int .u8 0, .int .u8 0, .int .u8 0, .int .u8 0, .int .u8 0, .int .u8 0, .int .u8 0, .int .u8 0, .int .u8 0, .int .u8 0, .int .u8 0, .int .u8 0, .int .u8 0, .int .u8 0, .int .u8 0, .int .u8 0, .int .u8 0, .int .u8 0, .int .u8 0, .int .u8 0, .int .u8 0, .int .u8 0, .int .u8 0, .int .u8 0, .int .u8 0, .int .u8 0, .int .u8 0, .int .u8 0, .int .u8 0, .int .u8 0, .int .u8 0, .int .u8 0, .int .u8 0, .int .u8 0, .int .u8 0, .int .u8 0, .int .u8 0, .int .u8 0, .int .u8 0, .int .u8 0, .int .u8 0, .int .u8 0, .int .u8 0, .int .u8 0, .int .u8 0, .int .u8 0, .int .u8 0, .int .u8 0, .int .u8 0, .int .u8 0, .int .u8 0, .int .u8 0, .int .u8 0, .int .u8 0, .int .u8 0, .int .u8 0, .int .u8 0, .int .u8 0, .int .u8 0, .int .u8 0, .int .u8 0, .int .u8 0, .int .u8 0]), zok := some 262, by' := some 336, un := true } .leaf) 149 { ti := some (true, 262), fi := [some (0, (true, 5)), some (5, (false, 1)), some (6, (true, 256))], si := some [(0, 5), (5, 1), (6, 256)], zv := some (.agg [.str [], .int .i64 0, .str [], .nilp, .nils, .int .i64 0, .int .u8 0, .int .u8 0, .int .u8 0, .int .u8 0, .int .u8 0, .int .u8 0, .int .u8 0, .int .u8 0, .int .u8 0, .int .u8 0, .int .u8 0, .int .u8 0, .int .u8 0, .int .u8 0, .int .u8 0, .int .u8 0, .int .u8 0, .int .u8 0, .int .u8 0, .int .u8 0, .int .u8 0, .int .u8 0, .int .u8 0, .int .u8 0, .int .u8 0, .int .u8 0, .int .u8 0, .int .u8 0, .int .u8 0, .int .u8 0, .int .u8 0, .int .u8 0, .int .u8 0, .int .u8 0, .int .u8 0, .int .u8 0, .int .u8 0, .int .u8 0, .int .u8 0, .int .u8 0, .int .u8 0, .int .u8 0, .int .u8 0, .int .u8 0, .int .u8 0, .int .u8 0, .int .u8 0, .int .u8 0, .int .u8 0, .int .u8 0, .int .u8 0, .int .u8 0, .int .u8 0, .int .u8 0, .int .u8 0, .int .u8 0, .int .u8 0, .int .u8 0, .int .u8 0, .int .u8 0, .int .u8 0, .int .u8 0, .int .u8 0, .int .u8 0, .int .u8 0, .int .u8 0, .int .u8 0, .int .u8 0, .int .u8 0, .int .u8 0, .int .u8 0, .int .u8 0, .int .u8 0, .int .u8 0, .int .u8 0, .int .u8 0, .int .u8 0, .int .u8 0, .int .u8 0, .int .u8 0, .int .u8 0, .int .u8 0, .int .u8 0, .int .u8 0, .int .u8 0, .int .u8 0, .int .u8 0, .int .u8 0, .int .u8 0, .int .u8 0, .int .u8 0, .int .u8 0, .int .u8 0, .int .u8 0, .int .u8 0, .int .u8 0, .int .u8 0, .int .u8 0, .int .u8 0, .int .u8 0, .int .u8 0, .int .u8 0, .int .u8 0, .int .u8 0, .int .u8 0, .int .u8 0, .int .u8 0, .int .u8 0, .int .u8 0, .int .u8 0, .int .u8 0, .int .u8 0, .int .u8 0, .int .u8 0, .int .u8 0, .int .u8 0, .int .u8 0, .int .u8 0, .int .u8 0, .int .u8 0, .int .u8 0, .int .u8 0, .int .u8 0, .int .u8 0, .int .u8 0, .int .u8 0, .int .u8 0, .int .u8 0, .int .u8 0, .int .u8 0, .int .u8 0, .int .u8 0, .int .u8 0, .int .u8 0, .int .u8 0, .int .u8 0, .int .u8 0, .int .u8 0, .int .u8 0, .int .u8 0, .int .u8 0, .int .u8 0, .int .u8 0, .int .u8 0, .int .u8 0, .int .u8 0, .int .u8 0, .int .u8 0, .int .u8 0, .int .u8 0, .int .u8 0, .int .u8 0, .int .u8 0, .int .u8 0, .int .u8 0, .int .u8 0, .int .u8 0, .int .u8 0, .int .u8 0, .int .u8 0, .int .u8 0, .int .u8 0, .int .u8 0, .int .u8 0, .int .u8 0, .int .u8 0, .int .u8 0, .int .u8 0, .int .u8 0, .int .u8 0, .int .u8 0, .int .u8 0, .int .u8 0, .int .u8 0, .int .u8 0, .int .u8 0, .int .u8 0, .int .u8 0, .int .u8 0, .int .u8 0, .int .u8 0, .int .u8 0, .int .u8 0, .int .u8 0, .int .u8 0, .int .u8 0, .int .u8 0, .int .u8 0, .int .u8 0, .int .u8 0, .int .u8 0, .int .u8 0, .int .u8 0, .int .u8 0, .int .u8 0, .int .u8 0, .int .u8 0, .int .u8 0, .int .u8 0, .int .u8 0, .int .u8 0, .int .u8 0, .int .u8 0, .int .u8 0, .int .u8 0, .int .u8 0, .int .u8 0, .int .u8 0, .int .u8 0, .int .u8 0, .int .u8 0, .int .u8 0, .int .u8 0, .int .u8 0, .int .u8 0, .int .u8 0, .int .u8 0, .int .u8 0, .int .u8 0, .int .u8 0, .int .u8 0, .int .u8 0, .int .u8 0, .int .u8 0, .int .u8 0, .int .u8 0, .int .u8 0, .int .u8 0, .int .u8 0, .int .u8 0, .int .u8 0, .int .u8 0, .int .u8 0, .int .u8 0, .int .u8 0, .int .u8 0, .int .u8 0, .int .u8 0, .int .u8 0, .int .u8 0, .int .u8 0, .int .u8 0, .int .u8 0, .int .u8 0, .int .u8 0, .int .u8 0, .int .u8 0, .int .u8 0, .int .u8 0, .int .u8 0, .int .u8 0, .int .u8 0, .int .u8 0, .int .u8 0, .int .u8 0, .int .u8 0]), zok := some 262, by' := some 336, un := true } (.node .leaf 150 { ti := some (false, 1), zv := some (.any), zok := some 1, by' := some 8, un := true } .leaf)) 151 { ti := some (false, 1), zv := some (.int .i64 0), zok := some 1, by' := some 8, ik := some .i64, un := true } (.node (.node (.node .leaf 152 { ti := some (false, 1), zv := some (.int .u64 0), zok := some 1, by' := some 8, ik := some .u64, un := true } .leaf) 154 { ti := some (false, 1), zv := some (.any), zok := some 1, by' := some 8, un := true } .leaf) 155 { ti := some (false, 1), zv := some (.nilp), zok := some 1, by' := some 8, ptr := true, un := true } (.node .leaf 156 { ti := some (false, 1), zv := some (.any), zok := some 1, by' := some 8, un := true } .leaf))))) 157 { ti := some (false, 1), zv := some (.any), zok := some 1, by' := some 8, un := true } (.node (.node (.node (.node (.node (.node .leaf 159 { ti := some (false, 1), zv := some (.any), zok := some 1, by' := some 8, un := true } .leaf) 160 { ti := some (false, 1), zv := some (.nilp), zok := some 1, by' := some 8, ptr := true, un := true } .leaf) 161 { ti := some (false, 1), zv := some (.any), zok := some 1, by' := some 8, un := true } (.node (.node .leaf 162 { ti := some (false, 1), zv := some (.nilp), zok := some 1, by' := some 8, ptr := true, un := true } .leaf) 164 { ti := some (false, 1), zv := some (.any), zok := some 1, by' := some 8, un := true } .leaf)) 165 { ti := some (false, 1), zv := some (.any), zok := some 1, by' := some 8, un := true } (.node (.node (.node .leaf 166 { ti := some (true, 256), ai := some (256, (false, 1)), zv := some (.agg [.int .i64 0, .int .i64 0, .int .i64 0, .int .i64 0, .int .i64 0, .int .i64 0, .int .i64 0, .int .i64 0, .int .i64 0, .int .i64 0, .int .i64 0, .int .i64 0, .int .i64 0, .int .i64 0, .int .i64 0, .int .i64 0, .int .i64 0, .int .i64 0, .int .i64 0, .int .i64 0, .int .i64 0, .int .i64 0, .int .i64 0, .int .i64 0, .int .i64 0, .int .i64 0, .int .i64 0, .int .i64 0, .int .i64 0, .int .i64 0, .int .i64 0, .int .i64 0, .int .i64 0, .int .i64 0, .int .i64 0, .int .i64 0, .int .i64 0, .int .i64 0, .int .i64 0, .int .i64 0, .int .i64 0, .int .i64 0, .int .i64 0, .int .i64 0, .int .i64 0, .int .i64 0, .int .i64 0, .int .i64 0, .int .i64 0, .int .i64 0, .int .i64 0, .int .i64 0, .int .i64 0, .int .i64 0, .int .i64 0, .int .i64 0, .int .i64 0, .int .i64 0, .int .i64 0, .int .i64 0, .int .i64 0, .int .i64 0, .int .i64 0, .int .i64 0, .int .i64 0, .int .i64 0, .int .i64 0, .int .i64 0, .int .i64 0, .int .i64 0, .int .i64 0, .int .i64 0, .int .i64 0, .int .i64 0, .int .i64 0, .int .i64 0, .int .i64 0, .int .i64 0, .int .i64 0, .int .i64 0, .int .i64 0, .int .i64 0, .int .i64 0, .int .i64 0, .int .i64 0, .int .i64 0, .int .i64 0, .int .i64 0, .int .i64 0, .int .i64 0, .int .i64 0, .int .i64 0, .int .i64 0, .int .i64 0, .int .i64 0, .int .i64 0, .int .i64 0, .int .i64 0, .int .i64 0, .int .i64 0, .int .i64 0, .int .i64 0, .int .i64 0, .int .i64 0, .int .i64 0, .int .i64 0, .int .i64 0, .int .i64 0, .int .i64 0, .int .i64 0, .int .i64 0, .int .i64 0, .int .i64 0, .int .i64 0, .int .i64 0, .int .i64 0, .int .i64 0, .int .i64 0, .int .i64 0, .int .i64 0, .int .i64 0, .int .i64 0, .int .i64 0, .int .i64 0, .int .i64 0, .int .i64 0, .int .i64 0, .int .i64 0, .int .i64 0, .int .i64 0, .int .i64 0, .int .i64 0, .int .i64 0, .int .i64 0, .int .i64 0, .int .i64 0, .int .i64 0, .int .i64 0, .int .i64 0, .int .i64 0, .int .i64 0, .int .i64 0, .int .i64 0, .int .i64 0, .int .i64 0, .int .i64 0, .int .i64 0, .int .i64 0, .int .i64 0, .int .i64 0, .int .i64 0, .int .i64 0, .int .i64 0, .int .i64 0, .int .i64 0, .int .i64 0, .int .i64 0, .int .i64 0, .int .i64 0, .int .i64 0, .int .i64 0, .int .i64 0, .int .i64 0, .int .i64 0, .int .i64 0, .int .i64 0, .int .i64 0, .int .i64 0, .int .i64 0, .int .i64 0, .int .i64 0, .int .i64 0, .int .i64 0, .int .i64 0, .int .i64 0, .int .i64 0, .int .i64 0, .int .i64 0, .int .i64 0, .int .i64 0, .int .i64 0, .int .i64 0, .int .i64 0, .int .i64 0, .int .i64 0, .int .i64 0, .int .i64 0, .int .i64 0, .int .i64 0, .int .i64 0, .int .i64 0, .int .i64 0, .int .i64 0, .int .i64 0, .int .i64 0, .int .i64 0, .int .i64 0, .int .i64 0, .int .i64 0, .int .i64 0, .int .i64 0, .int .i64 0, .int .i64 0, .int .i64 0, .int .i64 0, .int .i64 0, .int .i64 0, .int .i64 0, .int .i64 0, .int .i64 0, .int .i64 0, .int .i64 0, .int .i64 0, .int .i64 0, .int .i64 0, .int .i64 0, .int .i64 0, .int .i64 0, .int .i64 0, .int .i64 0, .int .i64 0, .int .i64 0, .int .i64 0, .int .i64 0, .int .i64 0, .int .i64 0, .int .i64 0, .int .i64 0, .int .i64 0, .int .i64 0, .int .i64 0, .int .i64 0, .int .i64 0, .int .i64 0, .int .i64 0, .int .i64 0, .int .i64 0, .int .i64 0, .int .i64 0, .int .i64 0, .int .i64 0, .int .i64 0, .int .i64 0, .int .i64 0, .int .i64 0, .int .i64 0, .int .i64 0, .int .i64 0, .int .i64 0, .int .i64 0, .int .i64 0, .int .i64 0, .int .i64 0, .int .i64 0, .int .i64 0, .int .i64 0]), zok := some 256, by' := some 2048, un := true } .leaf) 167 { ti := some (true, 258), fi := [some (0, (false, 1)), some (1, (true, 256)), some (257, (false, 1))], si := some [(0, 1), (1, 256), (257, 1)], zv := some (.agg [.str [], .int .i64 0, .int .i64 0, .int .i64 0, .int .i64 0, .int .i64 0, .int .i64 0, .int .i64 0, .int .i64 0, .int .i64 0, .int .i64 0, .int .i64 0, .int .i64 0, .int .i64 0, .int .i64 0, .int .i64 0, .int .i64 0, .int .i64 0, .int .i64 0, .int .i64 0, .int .i64 0, .int .i64 0, .int .i64 0, .int .i64 0, .int .i64 0, .int .i64 0, .int .i64 0, .int .i64 0, .int .i64 0, .int .i64 0, .int .i64 0, .int .i64 0, .int .i64 0, .int .i64 0, .int .i64 0, .int .i64 0, .int .i64 0, .int .i64 0, .int .i64 0, .int .i64 0, .int .i64 0, .int .i64 0, .int .i64 0, .int .i64 0, .int .i64 0, .int .i64 0, .int .i64 0, .int .i64 0, .int .i64 0, .int .i64 0, .int .i64 0, .int .i64 0, .int .i64 0, .int .i64 0, .int .i64 0, .int .i64 0, .int .i64 0, .int .i64 0, .int .i64 0, .int .i64 0, .int .i64 0, .int .i64 0, .int .i64 0, .int .i64 0, .int .i64 0, .int .i64 0, .int .i64 0, .int .i64 0, .int .i64 0, .int .i64 0, .int .i64 0, .int .i64 0, .int .i64 0, .int .i64 0, .int .i64 0, .int .i64 0, .int .i64 0, .int .i64 0, .int .i64 0, .int .i64 0, .int .i64 0, .int .i64 0, .int .i64 0, .int .i64 0, .int .i64 0, .int .i64 0, .int .i64 0, .int .i64 0, .int .i64 0, .int .i64 0, .int .i64 0, .int .i64 0, .int .i64 0, .int .i64 0, .int .i64 0, .int .i64 0, .int .i64 0, .int .i64 0, .int .i64 0, .int .i64 0, .int .i64 0, .int .i64 0, .int .i64 0, .int .i64 0, .int .i64 0, .int .i64 0, .int .i64 0, .int .i64 0, .int .i64 0, .int .i64 0, .int .i64 0, .int .i64 0, .int .i64 0, .int .i64 0, .int .i64 0, .int .i64 0, .int .i64 0, .int .i64 0, .int .i64 0, .int .i64 0, .int .i64 0, .int .i64 0, .int .i64 0, .int .i64 0, .int .i64 0, .int .i64 0, .int .i64 0, .int .i64 0, .int .i64 0, .int .i64 0, .int .i64 0, .int .i64 0, .int .i64 0, .int .i64 0, .int .i64 0, .int .i64 0, .int .i64 0, .int .i64 0, .int .i64 0, .int .i64 0, .int .i64 0, .int .i64 0, .int .i64 0, .int .i64 0, .int .i64 0, .int .i64 0, .int .i64 0, .int .i64 0, .int .i64 0, .int .i64 0, .int .i64 0, .int .i64 0, .int .i64 0, .int .i64 0, .int .i64 0, .int .i64 0, .int .i64 0, .int .i64 0, .int .i64 0, .int .i64 0, .int .i64 0, .int .i64 0, .int .i64 0, .int .i64 0, .int .i64 0, .int .i64 0, .int .i64 0, .int .i64 0, .int .i64 0, .int .i64 0, .int .i64 0, .int .i64 0, .int .i64 0, .int .i64 0, .int .i64 0, .int .i64 0, .int .i64 0, .int .i64 0, .int .i64 0, .int .i64 0, .int .i64 0, .int .i64 0, .int .i64 0, .int .i64 0, .int .i64 0, .int .i64 0, .int .i64 0, .int .i64 0, .int .i64 0, .int .i64 0, .int .i64 0, .int .i64 0, .int .i64 0, .int .i64 0, .int .i64 0, .int .i64 0, .int .i64 0, .int .i64 0, .int .i64 0, .int .i64 0, .int .i64 0, .int .i64 0, .int .i64 0, .int .i64 0, .int .i64 0, .int .i64 0, .int .i64 0, .int .i64 0, .int .i64 0, .int .i64 0, .int .i64 0, .int .i64 0, .int .i64 0, .int .i64 0, .int .i64 0, .int .i64 0, .int .i64 0, .int .i64 0, .int .i64 0, .int .i64 0, .int .i64 0, .int .i64 0, .int .i64 0, .int .i64 0, .int .i64 0, .int .i64 0, .int .i64 0, .int .i64 0, .int .i64 0, .int .i64 0, .int .i64 0, .int .i64 0, .int .i64 0, .int .i64 0, .int .i64 0, .int .i64 0, .int .i64 0, .int .i64 0, .int .i64 0, .int .i64 0, .int .i64 0, .int .i64 0, .int .i64 0, .int .i64 0, .int .i64 0, .int .i64 0, .int .i64 0, .int .i64 0, .int .i64 0, .int .i64 0, .int .i64 0, .int .i64 0, .int .i64 0, .int .i64 0, .int .i64 0, .int .i64 0, .int .i64 0, .nils]), zok := some 258, by' := some 2088, un := true } .leaf) 168 { ti := some (true, 258), fi := [some (0, (false, 1)), some (1, (true, 256)), some (257, (false, 1))], si := some [(0, 1), (1, 256), (257, 1)], zv := some (.agg [.str [], .int .i64 0, .int .i64 0, .int .i64 0, .int .i64 0, .int .i64 0, .int .i64 0, .int .i64 0, .int .i64 0, .int .i64 0, .int .i64 0, .int .i64 0, .int .i64 0, .int .i64 0, .int .i64 0, .int .i64 0, .int .i64 0, .int .i64 0, .int .i64 0, .int .i64 0, .int .i64 0, .int .i64 0, .int .i64 0, .int .i64 0, .int .i64 0, .int .i64 0, .int .i64 0, .int .i64 0, .int .i64 0, .int .i64 0, .int .i64 0, .int .i64 0, .int .i64 0, .int .i64 0, .int .i64 0, .int .i64 0, .int .i64 0, .int .i64 0, .int .i64 0, .int .i64 0, .int .i64 0, .int .i64 0, .int .i64 0, .int .i64 0, .int .i64 0, .int .i64 0, .int .i64 0, .int .i64 0, .int .i64 0, .int .i64 0, .int .i64 0, .int .i64 0, .int .i64 0, .int .i64 0, .int .i64 0, .int .i64 0, .int .i64 0, .int .i64 0, .int .i64 0, .int .i64 0, .int .i64 0, .int .i64 0, .int .i64 0, .int .i64 0, .int .i64 0, .int .i64 0, .int .i64 0, .int .i64 0, .int .i64 0, .int .i64 0, .int .i64 0, .int .i64 0, .int .i64 0, .int .i64 0, .int .i64 0, .int .i64 0, .int .i64 0, .int .i64 0, .int .i64 0, .int .i64 0, .int .i64 0, .int .i64 0, .int .i64 0, .int .i64 0, .int .i64 0, .int .i64 0, .int .i64 0, .int .i64 0, .int .i64 0, .int .i64 0, .int .i64 0, .int .i64 0, .int .i64 0, .int .i64 0, .int .i64 0, .int .i64 0, .int .i64 0, .int .i64 0, .int .i64 0, .int .i64 0, .int .i64 0, .int .i64 0, .int .i64 0, .int .i64 0, .int .i64 0, .int .i64 0, .int .i64 0, .int .i64 0, .int .i64 0, .int .i64 0, .int .i64 0, .int .i64 0, .int .i64 0, .int .i64 0, .int .i64 0, .int .i64 0, .int .i64 0, .int .i64 0, .int .i64 0, .int .i64 0, .int .i64 0, .int .i64 0, .int .i64 0, .int .i64 0, .int .i64 0, .int .i64 0, .int .i64 0, .int .i64 0, .int .i64 0, .int .i64 0, .int .i64 0, .int .i64 0, .int .i64 0, .int .i64 0, .int .i64 0, .int .i64 0, .int .i64 0, .int .i64 0, .int .i64 0, .int .i64 0, .int .i64 0, .int .i64 0, .int .i64 0, .int .i64 0, .int .i64 0, .int .i64 0, .int .i64 0, .int .i64 0, .int .i64 0, .int .i64 0, .int .i64 0, .int .i64 0, .int .i64 0, .int .i64 0, .int .i64 0, .int .i64 0, .int .i64 0, .int .i64 0, .int .i64 0, .int .i64 0, .int .i64 0, .int .i64 0, .int .i64 0, .int .i64 0, .int .i64 0, .int .i64 0, .int .i64 0, .int .i64 0, .int .i64 0, .int .i64 0, .int .i64 0, .int .i64 0, .int .i64 0, .int .i64 0, .int .i64 0, .int .i64 0, .int .i64 0, .int .i64 0, .int .i64 0, .int .i64 0, .int .i64 0, .int .i64 0, .int .i64 0, .int .i64 0, .int .i64 0, .int .i64 0, .int .i64 0, .int .i64 0, .int .i64 0, .int .i64 0, .int .i64 0, .int .i64 0, .int .i64 0, .int .i64 0, .int .i64 0, .int .i64 0, .int .i64 0, .int .i64 0, .int .i64 0, .int .i64 0, .int .i64 0, .int .i64 0, .int .i64 0, .int .i64 0, .int .i64 0, .int .i64 0, .int .i64 0, .int .i64 0, .int .i64 0, .int .i64 0, .int .i64 0, .int .i64 0, .int .i64 0, .int .i64 0, .int .i64 0, .int .i64 0, .int .i64 0, .int .i64 0, .int .i64 0, .int .i64 0, .int .i64 0, .int .i64 0, .int .i64 0, .int .i64 0, .int .i64 0, .int .i64 0, .int .i64 0, .int .i64 0, .int .i64 0, .int .i64 0, .int .i64 0, .int .i64 0, .int .i64 0, .int .i64 0, .int .i64 0, .int .i64 0, .int .i64 0, .int .i64 0, .int .i64 0, .int .i64 0, .int .i64 0, .int .i64 0, .int .i64 0, .int .i64 0, .int .i64 0, .int .i64 0, .int .i64 0, .int .i64 0, .int .i64 0, .int .i64 0, .int .i64 0, .int .i64 0, .int .i64 0, .int .i64 0, .int .i64 0, .int .i64 0, .int .i64 0, .nils]), zok := some 258, by' := some 2088, un := true } (.node .leaf 169 { ti := some (false, 1), zv := some (.any), zok := some 1, by' := some 8, un := true } .leaf))) 170 { ti := some (true, 3), fi := [some (0, (false, 1)), some (1, (false, 1)), some (2, (false, 1))], si := some [(0, 1), (1, 1), (2, 1)], zv := some (.agg [.str [], .str [], .nili]), zok := some 3, by' := some 48, un := true } (.node (.node (.node (.node .leaf 171 { ti := some (true, 3), fi := [some (0, (false, 1)), some (1, (false, 1)), some (2, (false, 1))], si := some [(0, 1), (1, 1), (2, 1)], zv := some (.agg [.str [], .str [], .nili]), zok := some 3, by' := some 48, un := true } .leaf) 172 { ti := some (false, 1), zv := some (.any), zok := some 1, by' := some 8, un := true } .leaf) 173 { ti := some (false, 1), zv := some (.any), zok := some 1, by' := some 8, un := true } (.node .leaf 174 { ti := some (false, 1), zv := some (.any), zok := some 1, by' := some 8, un := true } .leaf)) 175 { ti := some (false, 1), zv := some (.any), zok := some 1, by' := some 8, un := true } (.node (.node (.node .leaf 176 { ti := some (false, 1), zv := some (.nilp), zok := some 1, by' := some 8, ptr := true, un := true } .leaf) 177 { ti := some (true, 1), fi := [some (0, (false, 1))], si := some [(0, 1)], zv := some (.agg [.str []]), zok := some 1, by' := some 16, un := true } .leaf) 178 { ti := some (true, 1), fi := [some (0, (false, 1))], si := some [(0, 1)], zv := some (.agg [.str []]), zok := some 1, by' := some 16, un := true } (.node .leaf 179 { ti := some (false, 1), zv := some (.any), zok := some 1, by' := some 8, un := true } .leaf)))) 180 { ti := some (true, 24), ai := some (24, (false, 1)), zv := some (.agg [.int .u8 0, .int .u8 0, .int .u8 0, .int .u8 0, .int .u8 0, .int .u8 0, .int .u8 0, .int .u8 0, .int .u8 0, .int .u8 0, .int .u8 0, .int .u8 0, .int .u8 0, .int .u8 0, .int .u8 0, .int .u8 0, .int .u8 0, .int .u8 0, .int .u8 0, .int .u8 0, .int .u8 0, .int .u8 0, .int .u8 0, .int .u8 0]), zok := some 24, by' := some 24, un := true } (.node (.node (.node (.node (.node .leaf 181 { ti := some (false, 1), zv := some (.any), zok := some 1, by' := some 8, un := true } .leaf) 182 { ti := some (false, 1), zv := some (.any), zok := some 1, by' := some 8, un := true } .leaf) 184 { ti := some (false, 1), zv := some (.any), zok := some 1, by' := some 8, un := true } (.node (.node .leaf 185 { ti := some (false, 1), zv := some (.any), zok := some 1, by' := some 8, un := true } .leaf) 186 { ti := some (true, 20), ai := some (20, (false, 1)), zv := some (.agg [.int .u64 0, .int .u64 0, .int .u64 0, .int .u64 0, .int .u64 0, .int .u64 0, .int .u64 0, .int .u64 0, .int .u64 0, .int .u64 0, .int .u64 0, .int .u64 0, .int .u64 0, .int .u64 0, .int .u64 0, .int .u64 0, .int .u64 0, .int .u64 0, .int .u64 0, .int .u64 0]), zok := some 20, by' := some 160, un := true } .leaf)) 187 { ti := some (true, 65), ai := some (65, (false, 1)), zv := some (.agg [.int .u8 0, .int .u8 0, .int .u8 0, .int .u8 0, .int .u8 0, .int .u8 0, .int .u8 0, .int .u8 0, .int .u8 0, .int .u8 0, .int .u8 0, .int .u8 0, .int .u8 0, .int .u8 0, .int .u8 0, .int .u8 0, .int .u8 0, .int .u8 0, .int .u8 0, .int .u8 0, .int .u8 0, .int .u8 0, .int .u8 0, .int .u8 0, .int .u8 0, .int .u8 0, .int .u8 0, .int .u8 0, .int .u8 0, .int .u8 0, .int .u8 0, .int .u8 0, .int .u8 0, .int .u8 0, .int .u8 0, .int .u8 0, .int .u8 0, .int .u8 0, .int .u8 0, .int .u8 0, .int .u8 0, .int .u8 0, .int .u8 0, .int .u8 0, .int .u8 0, .int .u8 0, .int .u8 0, .int .u8 0, .int .u8 0, .int .u8 0, .int .u8 0, .int .u8 0, .int .u8 0, .int .u8 0, .int .u8 0, .int .u8 0, .int .u8 0, .int .u8 0, .int .u8 0, .int .u8 0, .int .u8 0, .int .u8 0, .int .u8 0, .int .u8 0, .int .u8 0]), zok := some 65, by' := some 65, un := true } (.node (.node (.node .leaf 188 { ti := some (false, 1), zv := some (.any), zok := some 1, by' := some 8, un := true } .leaf) 189 { ti := some (false, 1), zv := some (.any), zok := some 1, by' := some 8, un := true } .leaf) 190 { ti := some (true, 32), ai := some (32, (false, 1)), zv := some (.agg [.int .u8 0, .int .u8 0, .int .u8 0, .int .u8 0, .int .u8 0, .int .u8 0, .int .u8 0, .int .u8 0, .int .u8 0, .int .u8 0, .int .u8 0, .int .u8 0, .int .u8 0, .int .u8 0, .int .u8 0, .int .u8 0, .int .u8 0, .int .u8 0, .int .u8 0, .int .u8 0, .int .u8 0, .int .u8 0, .int .u8 0, .int .u8 0, .int .u8 0, .int .u8 0, .int .u8 0, .int .u8 0, .int .u8 0, .int .u8 0, .int .u8 0, .int .u8 0]), zok := some 32, by' := some 32, un := true } (.node .leaf 191 { ti := some (true, 64), ai := some (64, (false, 1)), zv := some (.agg [.int .u8 0, .int .u8 0, .int .u8 0, .int .u8 0, .int .u8 0, .int .u8 0, .int .u8 0, .int .u8 0, .int .u8 0, .int .u8 0, .int .u8 0, .int .u8 0, .int .u8 0, .int .u8 0, .int .u8 0, .int .u8 0, .int .u8 0, .int .u8 0, .int .u8 0, .int .u8 0, .int .u8 0, .int .u8 0, .int .u8 0, .int .u8 0, .int .u8 0, .int .u8 0, .int .u8 0, .int .u8 0, .int .u8 0, .int .u8 0, .int .u8 0, .int .u8 0, .int .u8 0, .int .u8 0, .int .u8 0, .int .u8 0, .int .u8 0, .int .u8 0, .int .u8 0, .int .u8 0, .int .u8 0, .int .u8 0, .int .u8 0, .int .u8 0, .int .u8 0, .int .u8 0, .int .u8 0, .int .u8 0, .int .u8 0, .int .u8 0, .int .u8 0, .int .u8 0, .int .u8 0, .int .u8 0, .int .u8 0, .int .u8 0, .int .u8 0, .int .u8 0, .int .u8 0, .int .u8 0, .int .u8 0, .int .u8 0, .int .u8 0, .int .u8 0]), zok := some 64, by' := some 64, un := true } .leaf))) 197 { ti := some (false, 1), zv := some (.any), zok := some 1, by' := some 8, un := true } (.node (.node (.node (.node .leaf 205 { ti := some (false, 1), zv := some (.any), zok := some 1, by' := some 8, un := true } .leaf) 206 { ti := some (false, 1), zv := some (.any), zok := some 1, by' := some 8, un := true } .leaf) 207 { ti := some (false, 1), ei := some (5, 1), zv := some (.nils), zok := some 1, by' := some 24, sli := true, ni := true, un := true } (.node .leaf 208 { ti := some (false, 1), zv := some (.nilp), zok := some 1, by' := some 8, ptr := true, un := true } .leaf)) 213 { ti := some (false, 1), zv := some (.any), zok := some 1, by' := some 8, un := true } (.node (.node (.node .leaf 215 { ti := some (false, 1), zv := some (.any), zok := some 1, by' := some 8, un := true } .leaf) 217 { ti := some (true, 1), fi := [some (0, (false, 1))], si := some [(0, 1)], zv := some (.agg [.nili]), zok := some 1, by' := some 16, un := true } .leaf) 218 { ti := some (true, 1), fi := [some (0, (false, 1))], si := some [(0, 1)], zv := some (.agg [.nili]), zok := some 1, by' := some 16, un := true } (.node .leaf 219 { ti := some (false, 1), zv := some (.any), zok := some 1, by' := some 8, un := true } .leaf)))))))
theorem tt_all : TT.All Tryd.prog Tryd.tt := ⟨⟨⟨⟨⟨⟨⟨⟨trivial, tok_1, trivial⟩, tok_2, trivial⟩, tok_3, ⟨⟨trivial, tok_4, trivial⟩, tok_5, trivial⟩⟩, tok_9, ⟨⟨⟨trivial, tok_12, trivial⟩, tok_13, trivial⟩, tok_21, ⟨trivial, tok_22, trivial⟩⟩⟩, tok_23, ⟨⟨⟨⟨trivial, tok_25, trivial⟩, tok_26, trivial⟩, tok_27, ⟨⟨trivial, tok_29, trivial⟩, tok_30, trivial⟩⟩, tok_31, ⟨⟨⟨trivial, tok_33, trivial⟩, tok_34, trivial⟩, tok_35, ⟨trivial, tok_36, trivial⟩⟩⟩⟩, tok_37, ⟨⟨⟨⟨⟨trivial, tok_38, trivial⟩, tok_39, trivial⟩, tok_40, ⟨⟨trivial, tok_41, trivial⟩, tok_42, trivial⟩⟩, tok_43, ⟨⟨⟨trivial, tok_44, trivial⟩, tok_45, trivial⟩, tok_46, ⟨trivial, tok_47, trivial⟩⟩⟩, tok_48, ⟨⟨⟨⟨trivial, tok_50, trivial⟩, tok_54, trivial⟩, tok_55, ⟨trivial, tok_56, trivial⟩⟩, tok_58, ⟨⟨⟨trivial, tok_59, trivial⟩, tok_60, trivial⟩, tok_62, ⟨trivial, tok_63, trivial⟩⟩⟩⟩⟩, tok_64, ⟨⟨⟨⟨⟨⟨trivial, tok_65, trivial⟩, tok_66, trivial⟩, tok_67, ⟨⟨trivial, tok_68, trivial⟩, tok_69, trivial⟩⟩, tok_70, ⟨⟨⟨trivial, tok_72, trivial⟩, tok_73, trivial⟩, tok_74, ⟨trivial, tok_75, trivial⟩⟩⟩, tok_76, ⟨⟨⟨⟨trivial, tok_77, trivial⟩, tok_78, trivial⟩, tok_79, ⟨trivial, tok_80, trivial⟩⟩, tok_81, ⟨⟨⟨trivial, tok_82, trivial⟩, tok_83, trivial⟩, tok_84, ⟨trivial, tok_85, trivial⟩⟩⟩⟩, tok_86, ⟨⟨⟨⟨⟨trivial, tok_89, trivial⟩, tok_90, trivial⟩, tok_91, ⟨⟨trivial, tok_92, trivial⟩, tok_93, trivial⟩⟩, tok_94, ⟨⟨⟨trivial, tok_95, trivial⟩, tok_96, trivial⟩, tok_97, ⟨trivial, tok_98, trivial⟩⟩⟩, tok_99, ⟨⟨⟨⟨trivial, tok_100, trivial⟩, tok_101, trivial⟩, tok_103, ⟨trivial, tok_104, trivial⟩⟩, tok_105, ⟨⟨⟨trivial, tok_106, trivial⟩, tok_107, trivial⟩, tok_108, ⟨trivial, tok_110, trivial⟩⟩⟩⟩⟩⟩, tok_113, ⟨⟨⟨⟨⟨⟨⟨trivial, tok_114, trivial⟩, tok_115, trivial⟩, tok_116, ⟨⟨trivial, tok_117, trivial⟩, tok_118, trivial⟩⟩, tok_119, ⟨⟨⟨trivial, tok_120, trivial⟩, tok_121, trivial⟩, tok_122, ⟨trivial, tok_123, trivial⟩⟩⟩, tok_124, ⟨⟨⟨⟨trivial, tok_125, trivial⟩, tok_126, trivial⟩, tok_127, ⟨⟨trivial, tok_128, trivial⟩, tok_129, trivial⟩⟩, tok_130, ⟨⟨⟨trivial, tok_131, trivial⟩, tok_132, trivial⟩, tok_133, ⟨trivial, tok_134, trivial⟩⟩⟩⟩, tok_135, ⟨⟨⟨⟨⟨trivial, tok_136, trivial⟩, tok_137, trivial⟩, tok_138, ⟨⟨trivial, tok_139, trivial⟩, tok_140, trivial⟩⟩, tok_141, ⟨⟨⟨trivial, tok_142, trivial⟩, tok_143, trivial⟩, tok_144, ⟨trivial, tok_145, trivial⟩⟩⟩, tok_146, ⟨⟨⟨⟨trivial, tok_147, trivial⟩, tok_148, trivial⟩, tok_149, ⟨trivial, tok_150, trivial⟩⟩, tok_151, ⟨⟨⟨trivial, tok_152, trivial⟩, tok_154, trivial⟩, tok_155, ⟨trivial, tok_156, trivial⟩⟩⟩⟩⟩, tok_157, ⟨⟨⟨⟨⟨⟨trivial, tok_159, trivial⟩, tok_160, trivial⟩, tok_161, ⟨⟨trivial, tok_162, trivial⟩, tok_164, trivial⟩⟩, tok_165, ⟨⟨⟨trivial, tok_166, trivial⟩, tok_167, trivial⟩, tok_168, ⟨trivial, tok_169, trivial⟩⟩⟩, tok_170, ⟨⟨⟨⟨trivial, tok_171, trivial⟩, tok_172, trivial⟩, tok_173, ⟨trivial, tok_174, trivial⟩⟩, tok_175, ⟨⟨⟨trivial, tok_176, trivial⟩, tok_177, trivial⟩, tok_178, ⟨trivial, tok_179, trivial⟩⟩⟩⟩, tok_180, ⟨⟨⟨⟨⟨trivial, tok_181, trivial⟩, tok_182, trivial⟩, tok_184, ⟨⟨trivial, tok_185, trivial⟩, tok_186, trivial⟩⟩, tok_187, ⟨⟨⟨trivial, tok_188, trivial⟩, tok_189, trivial⟩, tok_190, ⟨trivial, tok_191, trivial⟩⟩⟩, tok_197, ⟨⟨⟨⟨trivial, tok_205, trivial⟩, tok_206, trivial⟩, tok_207, ⟨trivial, tok_208, trivial⟩⟩, tok_213, ⟨⟨⟨trivial, tok_215, trivial⟩, tok_217, trivial⟩, tok_218, ⟨trivial, tok_219, trivial⟩⟩⟩⟩⟩⟩⟩
theorem hasBody_3 : hasBody Tryd.prog 3 = true := by kernel_rfl
theorem hasBody_4 : hasBody Tryd.prog 4 = true := by kernel_rfl
theorem hasBody_5 : hasBody Tryd.prog 5 = true := by kernel_rfl
theorem hasBody_6 : hasBody Tryd.prog 6 = true := by kernel_rfl
theorem hasBody_7 : hasBody Tryd.prog 7 = true := by kernel_rfl
theorem hasBody_8 : hasBody Tryd.prog 8 = true := by kernel_rfl
theorem hasBody_9 : hasBody Tryd.prog 9 = true := by kernel_rfl
theorem hasBody_10 : hasBody Tryd.prog 10 = true := by kernel_rfl
theorem hasBody_11 : hasBody Tryd.prog 11 = true := by kernel_rfl
theorem hasBody_12 : hasBody Tryd.prog 12 = true := by kernel_rfl
theorem hasBody_13 : hasBody Tryd.prog 13 = true := by kernel_rfl
theorem hasBody_14 : hasBody Tryd.prog 14 = true := by kernel_rfl
theorem hasBody_15 : hasBody Tryd.prog 15 = true := by kernel_rfl
theorem hasBody_16 : hasBody Tryd.prog 16 = true := by kernel_rfl
theorem hasBody_17 : hasBody Tryd.prog 17 = true := by kernel_rfl
theorem hasBody_18 : hasBody Tryd.prog 18 = true := by kernel_rfl
theorem hasBody_19 : hasBody Tryd.prog 19 = true := by kernel_rfl
theorem hasBody_20 : hasBody Tryd.prog 20 = true := by kernel_rfl
theorem hasBody_21 : hasBody Tryd.prog 21 = true := by kernel_rfl
theorem hasBody_22 : hasBody Tryd.prog 22 = true := by kernel_rfl
theorem hasBody_23 : hasBody Tryd.prog 23 = true := by kernel_rfl
theorem hasBody_24 : hasBody Tryd.prog 24 = true := by kernel_rfl
theorem hasBody_25 : hasBody Tryd.prog 25 = true := by kernel_rfl
theorem hasBody_26 : hasBody Tryd.prog 26 = true := by kernel_rfl
theorem hasBody_27 : hasBody Tryd.prog 27 = true := by kernel_rfl
theorem hasBody_28 : hasBody Tryd.prog 28 = true := by kernel_rfl
theorem hasBody_29 : hasBody Tryd.prog 29 = true := by kernel_rfl
theorem hasBody_30 : hasBody Tryd.prog 30 = true := by kernel_rfl
theorem hasBody_31 : hasBody Tryd.prog 31 = true := by kernel_rfl
theorem hasBody_32 : hasBody Tryd.prog 32 = true := by kernel_rfl
theorem hasBody_33 : hasBody Tryd.prog 33 = true := by kernel_rfl
theorem hasBody_34 : hasBody Tryd.prog 34 = true := by kernel_rfl
theorem hasBody_35 : hasBody Tryd.prog 35 = true := by kernel_rfl
theorem hasBody_36 : hasBody Tryd.prog 36 = true := by kernel_rfl
theorem hasBody_37 : hasBody Tryd.prog 37 = true := by kernel_rfl
theorem hasBody_38 : hasBody Tryd.prog 38 = true := by kernel_rfl
theorem hasBody_39 : hasBody Tryd.prog 39 = true := by kernel_rfl
theorem hasBody_40 : hasBody Tryd.prog 40 = true := by kernel_rfl
theorem hasBody_41 : hasBody Tryd.prog 41 = true := by kernel_rfl
theorem hasBody_42 : hasBody Tryd.prog 42 = true := by kernel_rfl
theorem hasBody_43 : hasBody Tryd.prog 43 = true := by kernel_rfl
theorem hasBody_44 : hasBody Tryd.prog 44 = true := by kernel_rfl
theorem hasBody_45 : hasBody Tryd.prog 45 = true := by kernel_rfl
theorem hasBody_46 : hasBody Tryd.prog 46 = true := by kernel_rfl
theorem hasBody_47 : hasBody Tryd.prog 47 = true := by kernel_rfl
theorem hasBody_48 : hasBody Tryd.prog 48 = true := by kernel_rfl
theorem hasBody_49 : hasBody Tryd.prog 49 = true := by kernel_rfl
theorem hasBody_50 : hasBody Tryd.prog 50 = true := by kernel_rfl
theorem hasBody_51 : hasBody Tryd.prog 51 = true := by kernel_rfl
theorem hasBody_52 : hasBody Tryd.prog 52 = true := by kernel_rfl
theorem hasBody_53 : hasBody Tryd.prog 53 = true := by kernel_rfl
theorem hasBody_54 : hasBody Tryd.prog 54 = true := by kernel_rfl
theorem hasBody_55 : hasBody Tryd.prog 55 = true := by kernel_rfl
theorem hasBody_56 : hasBody Tryd.prog 56 = true := by kernel_rfl
theorem hasBody_57 : hasBody Tryd.prog 57 = true := by kernel_rfl
theorem hasBody_59 : hasBody Tryd.prog 59 = true := by kernel_rfl
theorem hasBody_60 : hasBody Tryd.prog 60 = true := by kernel_rfl
theorem hasBody_61 : hasBody Tryd.prog 61 = true := by kernel_rfl
theorem hasBody_62 : hasBody Tryd.prog 62 = true := by kernel_rfl
theorem hasBody_63 : hasBody Tryd.prog 63 = true := by kernel_rfl
theorem hasBody_64 : hasBody Tryd.prog 64 = true := by kernel_rfl
theorem hasBody_65 : hasBody Tryd.prog 65 = true := by kernel_rfl
theorem hasBody_66 : hasBody Tryd.prog 66 = true := by kernel_rfl
theorem hasBody_68 : hasBody Tryd.prog 68 = true := by kernel_rfl
theorem hasBody_69 : hasBody Tryd.prog 69 = true := by kernel_rfl
theorem hasBody_70 : hasBody Tryd.prog 70 = true := by kernel_rfl
theorem hasBody_71 : hasBody Tryd.prog 71 = true := by kernel_rfl
theorem hasBody_72 : hasBody Tryd.prog 72 = true := by kernel_rfl
theorem hasBody_73 : hasBody Tryd.prog 73 = true := by kernel_rfl
theorem hasBody_74 : hasBody Tryd.prog 74 = true := by kernel_rfl
theorem hasBody_75 : hasBody Tryd.prog 75 = true := by kernel_rfl
theorem hasBody_76 : hasBody Tryd.prog 76 = true := by kernel_rfl
theorem hasBody_77 : hasBody Tryd.prog 77 = true := by kernel_rfl
theorem hasBody_80 : hasBody Tryd.prog 80 = true := by kernel_rfl
theorem hasBody_81 : hasBody Tryd.prog 81 = true := by kernel_rfl
theorem hasBody_82 : hasBody Tryd.prog 82 = true := by kernel_rfl
theorem hasBody_84 : hasBody Tryd.prog 84 = true := by kernel_rfl
theorem hasBody_86 : hasBody Tryd.prog 86 = true := by kernel_rfl
theorem hasBody_87 : hasBody Tryd.prog 87 = true := by kernel_rfl
theorem hasBody_89 : hasBody Tryd.prog 89 = true := by kernel_rfl
theorem hasBody_90 : hasBody Tryd.prog 90 = true := by kernel_rfl
theorem hasBody_91 : hasBody Tryd.prog 91 = true := by kernel_rfl
theorem hasBody_93 : hasBody Tryd.prog 93 = true := by kernel_rfl
theorem hasBody_94 : hasBody Tryd.prog 94 = true := by kernel_rfl
theorem hasBody_95 : hasBody Tryd.prog 95 = true := by kernel_rfl
theorem hasBody_96 : hasBody Tryd.prog 96 = true := by kernel_rfl
theorem hasBody_97 : hasBody Tryd.prog 97 = true := by kernel_rfl
theorem hasBody_99 : hasBody Tryd.prog 99 = true := by kernel_rfl
theorem hasBody_101 : hasBody Tryd.prog 101 = true := by kernel_rfl
theorem hasBody_108 : hasBody Tryd.prog 108 = true := by kernel_rfl
theorem hasBody_109 : hasBody Tryd.prog 109 = true := by kernel_rfl
theorem hasBody_110 : hasBody Tryd.prog 110 = true := by kernel_rfl
theorem hasBody_111 : hasBody Tryd.prog 111 = true := by kernel_rfl
theorem hasBody_113 : hasBody Tryd.prog 113 = true := by kernel_rfl
theorem hasBody_114 : hasBody Tryd.prog 114 = true := by kernel_rfl
theorem hasBody_115 : hasBody Tryd.prog 115 = true := by kernel_rfl
theorem hasBody_116 : hasBody Tryd.prog 116 = true := by kernel_rfl
theorem hasBody_126 : hasBody Tryd.prog 126 = true := by kernel_rfl
theorem hasBody_127 : hasBody Tryd.prog 127 = true := by kernel_rfl
theorem hasBody_131 : hasBody Tryd.prog 131 = true := by kernel_rfl
theorem hasBody_132 : hasBody Tryd.prog 132 = true := by kernel_rfl
theorem hasBody_147 : hasBody Tryd.prog 147 = true := by kernel_rfl
theorem hasBody_150 : hasBody Tryd.prog 150 = true := by kernel_rfl
theorem hasBody_151 : hasBody Tryd.prog 151 = true := by kernel_rfl
theorem hasBody_152 : hasBody Tryd.prog 152 = true := by kernel_rfl
theorem follows_all : Tryd.prog.follows .mixedOrders = true := by kernel_rfl
end Go.Proofs.YtaeeceabnkgnnaaDoor
