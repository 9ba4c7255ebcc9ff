/- Facts of this seat's types and functions, each by the kernel's reckoning; written by program. No conditions. -/
import Derived.Test.YtaapdbcbefnhgaaAwx
import Derived.Test.YtaapdbcbefnhgaaRows
set_option linter.unusedSimpArgs false
set_option linter.unusedVariables false
namespace Go.Proofs.Ytaapdbcbefnhgaa

theorem cells_1 : Try.prog.cellsOf 1 = 1 := by kernel_rfl
theorem ti_1 : TI Try.prog 1 = some (false, 1) := by kernel_rfl
theorem zv_1 : ZV Try.prog 1 = some (.any) := by kernel_rfl
theorem zok_1 : ZOk Try.prog 1 1 = true := by kernel_rfl
theorem by_1 : byOf Try.prog 1 = 8 := by kernel_rfl
theorem cells_2 : Try.prog.cellsOf 2 = 1 := by kernel_rfl
theorem ti_2 : TI Try.prog 2 = some (false, 1) := by kernel_rfl
theorem intK_2 : intK Try.prog 2 = some .i64 := by kernel_rfl
theorem un_2 : Try.prog.underlying 2 = some (.int .i64) := by kernel_rfl
theorem zv_2 : ZV Try.prog 2 = some (.int .i64 0) := by kernel_rfl
theorem zok_2 : ZOk Try.prog 2 1 = true := by kernel_rfl
theorem by_2 : byOf Try.prog 2 = 8 := by kernel_rfl
theorem cells_3 : Try.prog.cellsOf 3 = 1 := by kernel_rfl
theorem ti_3 : TI Try.prog 3 = some (false, 1) := by kernel_rfl
theorem intK_3 : intK Try.prog 3 = some .i64 := by kernel_rfl
theorem un_3 : Try.prog.underlying 3 = some (.int .i64) := by kernel_rfl
theorem zv_3 : ZV Try.prog 3 = some (.int .i64 0) := by kernel_rfl
theorem zok_3 : ZOk Try.prog 3 1 = true := by kernel_rfl
theorem by_3 : byOf Try.prog 3 = 8 := by kernel_rfl
theorem cells_4 : Try.prog.cellsOf 4 = 1 := by kernel_rfl
theorem ti_4 : TI Try.prog 4 = some (false, 1) := by kernel_rfl
theorem isBoo_4 : isBoo Try.prog 4 = true := by kernel_rfl
theorem zv_4 : ZV Try.prog 4 = some (.bool false) := by kernel_rfl
theorem zok_4 : ZOk Try.prog 4 1 = true := by kernel_rfl
theorem by_4 : byOf Try.prog 4 = 1 := by kernel_rfl
theorem cells_5 : Try.prog.cellsOf 5 = 1 := by kernel_rfl
theorem ti_5 : TI Try.prog 5 = some (false, 1) := by kernel_rfl
theorem intK_5 : intK Try.prog 5 = some .u8 := by kernel_rfl
theorem un_5 : Try.prog.underlying 5 = some (.int .u8) := by kernel_rfl
theorem zv_5 : ZV Try.prog 5 = some (.int .u8 0) := by kernel_rfl
theorem zok_5 : ZOk Try.prog 5 1 = true := by kernel_rfl
theorem by_5 : byOf Try.prog 5 = 1 := by kernel_rfl
theorem cells_9 : Try.prog.cellsOf 9 = 1 := by kernel_rfl
theorem ti_9 : TI Try.prog 9 = some (false, 1) := by kernel_rfl
theorem isStr_9 : isStr Try.prog 9 = true := by kernel_rfl
theorem notInt_9 : notInt Try.prog 9 = true := by kernel_rfl
theorem zv_9 : ZV Try.prog 9 = some (.str []) := by kernel_rfl
theorem zok_9 : ZOk Try.prog 9 1 = true := by kernel_rfl
theorem by_9 : byOf Try.prog 9 = 16 := by kernel_rfl
theorem cells_12 : Try.prog.cellsOf 12 = 1 := by kernel_rfl
theorem ti_12 : TI Try.prog 12 = some (false, 1) := by kernel_rfl
theorem intK_12 : intK Try.prog 12 = some .u64 := by kernel_rfl
theorem un_12 : Try.prog.underlying 12 = some (.int .u64) := by kernel_rfl
theorem zv_12 : ZV Try.prog 12 = some (.int .u64 0) := by kernel_rfl
theorem zok_12 : ZOk Try.prog 12 1 = true := by kernel_rfl
theorem by_12 : byOf Try.prog 12 = 8 := by kernel_rfl
theorem cells_13 : Try.prog.cellsOf 13 = 2 := by kernel_rfl
theorem ti_13 : TI Try.prog 13 = some (true, 2) := by kernel_rfl
theorem fi_13_0 : FI Try.prog 13 0 = some (0, (false, 1)) := by kernel_rfl
theorem fi_13_1 : FI Try.prog 13 1 = some (1, (false, 1)) := by kernel_rfl
theorem si_13 : SI Try.prog 13 = some [(0, 1), (1, 1)] := by kernel_rfl
theorem zv_13 : ZV Try.prog 13 = some (.agg [.str [], .int .u64 0]) := by kernel_rfl
theorem zok_13 : ZOk Try.prog 13 2 = true := by kernel_rfl
theorem by_13 : byOf Try.prog 13 = 24 := by kernel_rfl
theorem cells_21 : Try.prog.cellsOf 21 = 1 := by kernel_rfl
theorem ti_21 : TI Try.prog 21 = some (false, 1) := by kernel_rfl
theorem intK_21 : intK Try.prog 21 = some .i32 := by kernel_rfl
theorem un_21 : Try.prog.underlying 21 = some (.int .i32) := by kernel_rfl
theorem zv_21 : ZV Try.prog 21 = some (.int .i32 0) := by kernel_rfl
theorem zok_21 : ZOk Try.prog 21 1 = true := by kernel_rfl
theorem by_21 : byOf Try.prog 21 = 4 := by kernel_rfl
theorem cells_22 : Try.prog.cellsOf 22 = 1 := by kernel_rfl
theorem ti_22 : TI Try.prog 22 = some (false, 1) := by kernel_rfl
theorem ei_22 : EI Try.prog 22 = some (26, 1) := by kernel_rfl
theorem isSli_22 : isSli Try.prog 22 = true := by kernel_rfl
theorem notInt_22 : notInt Try.prog 22 = true := by kernel_rfl
theorem zv_22 : ZV Try.prog 22 = some (.nils) := by kernel_rfl
theorem zok_22 : ZOk Try.prog 22 1 = true := by kernel_rfl
theorem by_22 : byOf Try.prog 22 = 24 := by kernel_rfl
theorem cells_23 : Try.prog.cellsOf 23 = 1 := by kernel_rfl
theorem ti_23 : TI Try.prog 23 = some (false, 1) := by kernel_rfl
theorem ei_23 : EI Try.prog 23 = some (4, 1) := by kernel_rfl
theorem isSli_23 : isSli Try.prog 23 = true := by kernel_rfl
theorem notInt_23 : notInt Try.prog 23 = true := by kernel_rfl
theorem zv_23 : ZV Try.prog 23 = some (.nils) := by kernel_rfl
theorem zok_23 : ZOk Try.prog 23 1 = true := by kernel_rfl
theorem by_23 : byOf Try.prog 23 = 24 := by kernel_rfl
theorem cells_24 : Try.prog.cellsOf 24 = 2 := by kernel_rfl
theorem ti_24 : TI Try.prog 24 = some (true, 2) := by kernel_rfl
theorem fi_24_0 : FI Try.prog 24 0 = some (0, (false, 1)) := by kernel_rfl
theorem fi_24_1 : FI Try.prog 24 1 = some (1, (false, 1)) := by kernel_rfl
theorem si_24 : SI Try.prog 24 = some [(0, 1), (1, 1)] := by kernel_rfl
theorem zv_24 : ZV Try.prog 24 = some (.agg [.nils, .nils]) := by kernel_rfl
theorem zok_24 : ZOk Try.prog 24 2 = true := by kernel_rfl
theorem by_24 : byOf Try.prog 24 = 48 := by kernel_rfl
theorem cells_25 : Try.prog.cellsOf 25 = 2 := by kernel_rfl
theorem ti_25 : TI Try.prog 25 = some (true, 2) := by kernel_rfl
theorem fi_25_0 : FI Try.prog 25 0 = some (0, (false, 1)) := by kernel_rfl
theorem fi_25_1 : FI Try.prog 25 1 = some (1, (false, 1)) := by kernel_rfl
theorem si_25 : SI Try.prog 25 = some [(0, 1), (1, 1)] := by kernel_rfl
theorem zv_25 : ZV Try.prog 25 = some (.agg [.nils, .nils]) := by kernel_rfl
theorem zok_25 : ZOk Try.prog 25 2 = true := by kernel_rfl
theorem by_25 : byOf Try.prog 25 = 48 := by kernel_rfl
theorem cells_26 : Try.prog.cellsOf 26 = 1 := by kernel_rfl
theorem ti_26 : TI Try.prog 26 = some (false, 1) := by kernel_rfl
theorem ei_26 : EI Try.prog 26 = some (3, 1) := by kernel_rfl
theorem isSli_26 : isSli Try.prog 26 = true := by kernel_rfl
theorem notInt_26 : notInt Try.prog 26 = true := by kernel_rfl
theorem zv_26 : ZV Try.prog 26 = some (.nils) := by kernel_rfl
theorem zok_26 : ZOk Try.prog 26 1 = true := by kernel_rfl
theorem by_26 : byOf Try.prog 26 = 24 := by kernel_rfl
theorem cells_27 : Try.prog.cellsOf 27 = 1 := by kernel_rfl
theorem ti_27 : TI Try.prog 27 = some (false, 1) := by kernel_rfl
theorem intK_27 : intK Try.prog 27 = some .i64 := by kernel_rfl
theorem un_27 : Try.prog.underlying 27 = some (.int .i64) := by kernel_rfl
theorem zv_27 : ZV Try.prog 27 = some (.int .i64 0) := by kernel_rfl
theorem zok_27 : ZOk Try.prog 27 1 = true := by kernel_rfl
theorem by_27 : byOf Try.prog 27 = 8 := by kernel_rfl
theorem cells_29 : Try.prog.cellsOf 29 = 1 := by kernel_rfl
theorem ti_29 : TI Try.prog 29 = some (false, 1) := by kernel_rfl
theorem zv_29 : ZV Try.prog 29 = some (.any) := by kernel_rfl
theorem zok_29 : ZOk Try.prog 29 1 = true := by kernel_rfl
theorem by_29 : byOf Try.prog 29 = 8 := by kernel_rfl
theorem cells_30 : Try.prog.cellsOf 30 = 1 := by kernel_rfl
theorem ti_30 : TI Try.prog 30 = some (false, 1) := by kernel_rfl
theorem zv_30 : ZV Try.prog 30 = some (.any) := by kernel_rfl
theorem zok_30 : ZOk Try.prog 30 1 = true := by kernel_rfl
theorem by_30 : byOf Try.prog 30 = 8 := by kernel_rfl
theorem cells_31 : Try.prog.cellsOf 31 = 1 := by kernel_rfl
theorem ti_31 : TI Try.prog 31 = some (false, 1) := by kernel_rfl
theorem zv_31 : ZV Try.prog 31 = some (.any) := by kernel_rfl
theorem zok_31 : ZOk Try.prog 31 1 = true := by kernel_rfl
theorem by_31 : byOf Try.prog 31 = 8 := by kernel_rfl
theorem cells_33 : Try.prog.cellsOf 33 = 1 := by kernel_rfl
theorem ti_33 : TI Try.prog 33 = some (false, 1) := by kernel_rfl
theorem zv_33 : ZV Try.prog 33 = some (.any) := by kernel_rfl
theorem zok_33 : ZOk Try.prog 33 1 = true := by kernel_rfl
theorem by_33 : byOf Try.prog 33 = 8 := by kernel_rfl
theorem cells_34 : Try.prog.cellsOf 34 = 1 := by kernel_rfl
theorem ti_34 : TI Try.prog 34 = some (false, 1) := by kernel_rfl
theorem zv_34 : ZV Try.prog 34 = some (.any) := by kernel_rfl
theorem zok_34 : ZOk Try.prog 34 1 = true := by kernel_rfl
theorem by_34 : byOf Try.prog 34 = 8 := by kernel_rfl
theorem cells_35 : Try.prog.cellsOf 35 = 1 := by kernel_rfl
theorem ti_35 : TI Try.prog 35 = some (false, 1) := by kernel_rfl
theorem ei_35 : EI Try.prog 35 = some (116, 3) := by kernel_rfl
theorem isSli_35 : isSli Try.prog 35 = true := by kernel_rfl
theorem notInt_35 : notInt Try.prog 35 = true := by kernel_rfl
theorem zv_35 : ZV Try.prog 35 = some (.nils) := by kernel_rfl
theorem zok_35 : ZOk Try.prog 35 1 = true := by kernel_rfl
theorem by_35 : byOf Try.prog 35 = 24 := by kernel_rfl
theorem cells_36 : Try.prog.cellsOf 36 = 1 := by kernel_rfl
theorem ti_36 : TI Try.prog 36 = some (false, 1) := by kernel_rfl
theorem ei_36 : EI Try.prog 36 = some (85, 4) := by kernel_rfl
theorem isSli_36 : isSli Try.prog 36 = true := by kernel_rfl
theorem notInt_36 : notInt Try.prog 36 = true := by kernel_rfl
theorem zv_36 : ZV Try.prog 36 = some (.nils) := by kernel_rfl
theorem zok_36 : ZOk Try.prog 36 1 = true := by kernel_rfl
theorem by_36 : byOf Try.prog 36 = 24 := by kernel_rfl
theorem cells_38 : Try.prog.cellsOf 38 = 1 := by kernel_rfl
theorem ti_38 : TI Try.prog 38 = some (false, 1) := by kernel_rfl
theorem zv_38 : ZV Try.prog 38 = some (.any) := by kernel_rfl
theorem zok_38 : ZOk Try.prog 38 1 = true := by kernel_rfl
theorem by_38 : byOf Try.prog 38 = 8 := by kernel_rfl
theorem cells_39 : Try.prog.cellsOf 39 = 1 := by kernel_rfl
theorem ti_39 : TI Try.prog 39 = some (false, 1) := by kernel_rfl
theorem zv_39 : ZV Try.prog 39 = some (.any) := by kernel_rfl
theorem zok_39 : ZOk Try.prog 39 1 = true := by kernel_rfl
theorem by_39 : byOf Try.prog 39 = 8 := by kernel_rfl
theorem cells_40 : Try.prog.cellsOf 40 = 1 := by kernel_rfl
theorem ti_40 : TI Try.prog 40 = some (false, 1) := by kernel_rfl
theorem ei_40 : EI Try.prog 40 = some (42, 3) := by kernel_rfl
theorem isSli_40 : isSli Try.prog 40 = true := by kernel_rfl
theorem notInt_40 : notInt Try.prog 40 = true := by kernel_rfl
theorem zv_40 : ZV Try.prog 40 = some (.nils) := by kernel_rfl
theorem zok_40 : ZOk Try.prog 40 1 = true := by kernel_rfl
theorem by_40 : byOf Try.prog 40 = 24 := by kernel_rfl
theorem cells_41 : Try.prog.cellsOf 41 = 3 := by kernel_rfl
theorem ti_41 : TI Try.prog 41 = some (true, 3) := by kernel_rfl
theorem fi_41_0 : FI Try.prog 41 0 = some (0, (false, 1)) := by kernel_rfl
theorem fi_41_1 : FI Try.prog 41 1 = some (1, (false, 1)) := by kernel_rfl
theorem fi_41_2 : FI Try.prog 41 2 = some (2, (false, 1)) := by kernel_rfl
theorem si_41 : SI Try.prog 41 = some [(0, 1), (1, 1), (2, 1)] := by kernel_rfl
theorem zv_41 : ZV Try.prog 41 = some (.agg [.int .i64 0, .int .i64 0, .nils]) := by kernel_rfl
theorem zok_41 : ZOk Try.prog 41 3 = true := by kernel_rfl
theorem by_41 : byOf Try.prog 41 = 40 := by kernel_rfl
theorem cells_42 : Try.prog.cellsOf 42 = 3 := by kernel_rfl
theorem ti_42 : TI Try.prog 42 = some (true, 3) := by kernel_rfl
theorem fi_42_0 : FI Try.prog 42 0 = some (0, (false, 1)) := by kernel_rfl
theorem fi_42_1 : FI Try.prog 42 1 = some (1, (false, 1)) := by kernel_rfl
theorem fi_42_2 : FI Try.prog 42 2 = some (2, (false, 1)) := by kernel_rfl
theorem si_42 : SI Try.prog 42 = some [(0, 1), (1, 1), (2, 1)] := by kernel_rfl
theorem zv_42 : ZV Try.prog 42 = some (.agg [.int .i64 0, .int .i64 0, .nils]) := by kernel_rfl
theorem zok_42 : ZOk Try.prog 42 3 = true := by kernel_rfl
theorem by_42 : byOf Try.prog 42 = 40 := by kernel_rfl
theorem cells_43 : Try.prog.cellsOf 43 = 1 := by kernel_rfl
theorem ti_43 : TI Try.prog 43 = some (false, 1) := by kernel_rfl
theorem zv_43 : ZV Try.prog 43 = some (.any) := by kernel_rfl
theorem zok_43 : ZOk Try.prog 43 1 = true := by kernel_rfl
theorem by_43 : byOf Try.prog 43 = 8 := by kernel_rfl
theorem cells_44 : Try.prog.cellsOf 44 = 1 := by kernel_rfl
theorem ti_44 : TI Try.prog 44 = some (false, 1) := by kernel_rfl
theorem zv_44 : ZV Try.prog 44 = some (.any) := by kernel_rfl
theorem zok_44 : ZOk Try.prog 44 1 = true := by kernel_rfl
theorem by_44 : byOf Try.prog 44 = 8 := by kernel_rfl
theorem cells_46 : Try.prog.cellsOf 46 = 1 := by kernel_rfl
theorem ti_46 : TI Try.prog 46 = some (false, 1) := by kernel_rfl
theorem zv_46 : ZV Try.prog 46 = some (.any) := by kernel_rfl
theorem zok_46 : ZOk Try.prog 46 1 = true := by kernel_rfl
theorem by_46 : byOf Try.prog 46 = 8 := by kernel_rfl
theorem cells_48 : Try.prog.cellsOf 48 = 1 := by kernel_rfl
theorem ti_48 : TI Try.prog 48 = some (false, 1) := by kernel_rfl
theorem zv_48 : ZV Try.prog 48 = some (.any) := by kernel_rfl
theorem zok_48 : ZOk Try.prog 48 1 = true := by kernel_rfl
theorem by_48 : byOf Try.prog 48 = 8 := by kernel_rfl
theorem cells_49 : Try.prog.cellsOf 49 = 1 := by kernel_rfl
theorem ti_49 : TI Try.prog 49 = some (false, 1) := by kernel_rfl
theorem zv_49 : ZV Try.prog 49 = some (.any) := by kernel_rfl
theorem zok_49 : ZOk Try.prog 49 1 = true := by kernel_rfl
theorem by_49 : byOf Try.prog 49 = 8 := by kernel_rfl
theorem cells_50 : Try.prog.cellsOf 50 = 1 := by kernel_rfl
theorem ti_50 : TI Try.prog 50 = some (false, 1) := by kernel_rfl
theorem zv_50 : ZV Try.prog 50 = some (.any) := by kernel_rfl
theorem zok_50 : ZOk Try.prog 50 1 = true := by kernel_rfl
theorem by_50 : byOf Try.prog 50 = 8 := by kernel_rfl
theorem cells_51 : Try.prog.cellsOf 51 = 1 := by kernel_rfl
theorem ti_51 : TI Try.prog 51 = some (false, 1) := by kernel_rfl
theorem ei_51 : EI Try.prog 51 = some (102, 6) := by kernel_rfl
theorem isSli_51 : isSli Try.prog 51 = true := by kernel_rfl
theorem notInt_51 : notInt Try.prog 51 = true := by kernel_rfl
theorem zv_51 : ZV Try.prog 51 = some (.nils) := by kernel_rfl
theorem zok_51 : ZOk Try.prog 51 1 = true := by kernel_rfl
theorem by_51 : byOf Try.prog 51 = 24 := by kernel_rfl
theorem cells_53 : Try.prog.cellsOf 53 = 1 := by kernel_rfl
theorem ti_53 : TI Try.prog 53 = some (false, 1) := by kernel_rfl
theorem zv_53 : ZV Try.prog 53 = some (.any) := by kernel_rfl
theorem zok_53 : ZOk Try.prog 53 1 = true := by kernel_rfl
theorem by_53 : byOf Try.prog 53 = 8 := by kernel_rfl
theorem cells_54 : Try.prog.cellsOf 54 = 1 := by kernel_rfl
theorem ti_54 : TI Try.prog 54 = some (false, 1) := by kernel_rfl
theorem zv_54 : ZV Try.prog 54 = some (.any) := by kernel_rfl
theorem zok_54 : ZOk Try.prog 54 1 = true := by kernel_rfl
theorem by_54 : byOf Try.prog 54 = 8 := by kernel_rfl
theorem cells_55 : Try.prog.cellsOf 55 = 1 := by kernel_rfl
theorem ti_55 : TI Try.prog 55 = some (false, 1) := by kernel_rfl
theorem zv_55 : ZV Try.prog 55 = some (.any) := by kernel_rfl
theorem zok_55 : ZOk Try.prog 55 1 = true := by kernel_rfl
theorem by_55 : byOf Try.prog 55 = 8 := by kernel_rfl
theorem cells_57 : Try.prog.cellsOf 57 = 1 := by kernel_rfl
theorem ti_57 : TI Try.prog 57 = some (false, 1) := by kernel_rfl
theorem zv_57 : ZV Try.prog 57 = some (.any) := by kernel_rfl
theorem zok_57 : ZOk Try.prog 57 1 = true := by kernel_rfl
theorem by_57 : byOf Try.prog 57 = 8 := by kernel_rfl
theorem cells_58 : Try.prog.cellsOf 58 = 1 := by kernel_rfl
theorem ti_58 : TI Try.prog 58 = some (false, 1) := by kernel_rfl
theorem zv_58 : ZV Try.prog 58 = some (.any) := by kernel_rfl
theorem zok_58 : ZOk Try.prog 58 1 = true := by kernel_rfl
theorem by_58 : byOf Try.prog 58 = 8 := by kernel_rfl
theorem cells_59 : Try.prog.cellsOf 59 = 2 := by kernel_rfl
theorem ti_59 : TI Try.prog 59 = some (true, 2) := by kernel_rfl
theorem fi_59_0 : FI Try.prog 59 0 = some (0, (false, 1)) := by kernel_rfl
theorem fi_59_1 : FI Try.prog 59 1 = some (1, (false, 1)) := by kernel_rfl
theorem si_59 : SI Try.prog 59 = some [(0, 1), (1, 1)] := by kernel_rfl
theorem zv_59 : ZV Try.prog 59 = some (.agg [.int .i64 0, .nils]) := by kernel_rfl
theorem zok_59 : ZOk Try.prog 59 2 = true := by kernel_rfl
theorem by_59 : byOf Try.prog 59 = 32 := by kernel_rfl
theorem cells_60 : Try.prog.cellsOf 60 = 2 := by kernel_rfl
theorem ti_60 : TI Try.prog 60 = some (true, 2) := by kernel_rfl
theorem fi_60_0 : FI Try.prog 60 0 = some (0, (false, 1)) := by kernel_rfl
theorem fi_60_1 : FI Try.prog 60 1 = some (1, (false, 1)) := by kernel_rfl
theorem si_60 : SI Try.prog 60 = some [(0, 1), (1, 1)] := by kernel_rfl
theorem zv_60 : ZV Try.prog 60 = some (.agg [.int .i64 0, .nils]) := by kernel_rfl
theorem zok_60 : ZOk Try.prog 60 2 = true := by kernel_rfl
theorem by_60 : byOf Try.prog 60 = 32 := by kernel_rfl
theorem cells_61 : Try.prog.cellsOf 61 = 1 := by kernel_rfl
theorem ti_61 : TI Try.prog 61 = some (false, 1) := by kernel_rfl
theorem ei_61 : EI Try.prog 61 = some (60, 2) := by kernel_rfl
theorem isSli_61 : isSli Try.prog 61 = true := by kernel_rfl
theorem notInt_61 : notInt Try.prog 61 = true := by kernel_rfl
theorem zv_61 : ZV Try.prog 61 = some (.nils) := by kernel_rfl
theorem zok_61 : ZOk Try.prog 61 1 = true := by kernel_rfl
theorem by_61 : byOf Try.prog 61 = 24 := by kernel_rfl
theorem cells_62 : Try.prog.cellsOf 62 = 1 := by kernel_rfl
theorem ti_62 : TI Try.prog 62 = some (false, 1) := by kernel_rfl
theorem zv_62 : ZV Try.prog 62 = some (.any) := by kernel_rfl
theorem zok_62 : ZOk Try.prog 62 1 = true := by kernel_rfl
theorem by_62 : byOf Try.prog 62 = 8 := by kernel_rfl
theorem cells_63 : Try.prog.cellsOf 63 = 1 := by kernel_rfl
theorem ti_63 : TI Try.prog 63 = some (false, 1) := by kernel_rfl
theorem ei_63 : EI Try.prog 63 = some (69, 2) := by kernel_rfl
theorem isSli_63 : isSli Try.prog 63 = true := by kernel_rfl
theorem notInt_63 : notInt Try.prog 63 = true := by kernel_rfl
theorem zv_63 : ZV Try.prog 63 = some (.nils) := by kernel_rfl
theorem zok_63 : ZOk Try.prog 63 1 = true := by kernel_rfl
theorem by_63 : byOf Try.prog 63 = 24 := by kernel_rfl
theorem cells_64 : Try.prog.cellsOf 64 = 1 := by kernel_rfl
theorem ti_64 : TI Try.prog 64 = some (false, 1) := by kernel_rfl
theorem ei_64 : EI Try.prog 64 = some (110, 8) := by kernel_rfl
theorem isSli_64 : isSli Try.prog 64 = true := by kernel_rfl
theorem notInt_64 : notInt Try.prog 64 = true := by kernel_rfl
theorem zv_64 : ZV Try.prog 64 = some (.nils) := by kernel_rfl
theorem zok_64 : ZOk Try.prog 64 1 = true := by kernel_rfl
theorem by_64 : byOf Try.prog 64 = 24 := by kernel_rfl
theorem cells_66 : Try.prog.cellsOf 66 = 1 := by kernel_rfl
theorem ti_66 : TI Try.prog 66 = some (false, 1) := by kernel_rfl
theorem zv_66 : ZV Try.prog 66 = some (.any) := by kernel_rfl
theorem zok_66 : ZOk Try.prog 66 1 = true := by kernel_rfl
theorem by_66 : byOf Try.prog 66 = 8 := by kernel_rfl
theorem cells_67 : Try.prog.cellsOf 67 = 1 := by kernel_rfl
theorem ti_67 : TI Try.prog 67 = some (false, 1) := by kernel_rfl
theorem zv_67 : ZV Try.prog 67 = some (.any) := by kernel_rfl
theorem zok_67 : ZOk Try.prog 67 1 = true := by kernel_rfl
theorem by_67 : byOf Try.prog 67 = 8 := by kernel_rfl
theorem cells_68 : Try.prog.cellsOf 68 = 2 := by kernel_rfl
theorem ti_68 : TI Try.prog 68 = some (true, 2) := by kernel_rfl
theorem fi_68_0 : FI Try.prog 68 0 = some (0, (false, 1)) := by kernel_rfl
theorem fi_68_1 : FI Try.prog 68 1 = some (1, (false, 1)) := by kernel_rfl
theorem si_68 : SI Try.prog 68 = some [(0, 1), (1, 1)] := by kernel_rfl
theorem zv_68 : ZV Try.prog 68 = some (.agg [.int .i64 0, .int .i64 0]) := by kernel_rfl
theorem zok_68 : ZOk Try.prog 68 2 = true := by kernel_rfl
theorem by_68 : byOf Try.prog 68 = 16 := by kernel_rfl
theorem cells_69 : Try.prog.cellsOf 69 = 2 := by kernel_rfl
theorem ti_69 : TI Try.prog 69 = some (true, 2) := by kernel_rfl
theorem fi_69_0 : FI Try.prog 69 0 = some (0, (false, 1)) := by kernel_rfl
theorem fi_69_1 : FI Try.prog 69 1 = some (1, (false, 1)) := by kernel_rfl
theorem si_69 : SI Try.prog 69 = some [(0, 1), (1, 1)] := by kernel_rfl
theorem zv_69 : ZV Try.prog 69 = some (.agg [.int .i64 0, .int .i64 0]) := by kernel_rfl
theorem zok_69 : ZOk Try.prog 69 2 = true := by kernel_rfl
theorem by_69 : byOf Try.prog 69 = 16 := by kernel_rfl
theorem cells_70 : Try.prog.cellsOf 70 = 1 := by kernel_rfl
theorem ti_70 : TI Try.prog 70 = some (false, 1) := by kernel_rfl
theorem zv_70 : ZV Try.prog 70 = some (.any) := by kernel_rfl
theorem zok_70 : ZOk Try.prog 70 1 = true := by kernel_rfl
theorem by_70 : byOf Try.prog 70 = 8 := by kernel_rfl
theorem cells_71 : Try.prog.cellsOf 71 = 1 := by kernel_rfl
theorem ti_71 : TI Try.prog 71 = some (false, 1) := by kernel_rfl
theorem zv_71 : ZV Try.prog 71 = some (.any) := by kernel_rfl
theorem zok_71 : ZOk Try.prog 71 1 = true := by kernel_rfl
theorem by_71 : byOf Try.prog 71 = 8 := by kernel_rfl
theorem cells_72 : Try.prog.cellsOf 72 = 2 := by kernel_rfl
theorem ti_72 : TI Try.prog 72 = some (true, 2) := by kernel_rfl
theorem fi_72_0 : FI Try.prog 72 0 = some (0, (false, 1)) := by kernel_rfl
theorem fi_72_1 : FI Try.prog 72 1 = some (1, (false, 1)) := by kernel_rfl
theorem si_72 : SI Try.prog 72 = some [(0, 1), (1, 1)] := by kernel_rfl
theorem zv_72 : ZV Try.prog 72 = some (.agg [.nils, .nils]) := by kernel_rfl
theorem zok_72 : ZOk Try.prog 72 2 = true := by kernel_rfl
theorem by_72 : byOf Try.prog 72 = 48 := by kernel_rfl
theorem cells_73 : Try.prog.cellsOf 73 = 2 := by kernel_rfl
theorem ti_73 : TI Try.prog 73 = some (true, 2) := by kernel_rfl
theorem fi_73_0 : FI Try.prog 73 0 = some (0, (false, 1)) := by kernel_rfl
theorem fi_73_1 : FI Try.prog 73 1 = some (1, (false, 1)) := by kernel_rfl
theorem si_73 : SI Try.prog 73 = some [(0, 1), (1, 1)] := by kernel_rfl
theorem zv_73 : ZV Try.prog 73 = some (.agg [.nils, .nils]) := by kernel_rfl
theorem zok_73 : ZOk Try.prog 73 2 = true := by kernel_rfl
theorem by_73 : byOf Try.prog 73 = 48 := by kernel_rfl
theorem cells_74 : Try.prog.cellsOf 74 = 1 := by kernel_rfl
theorem ti_74 : TI Try.prog 74 = some (false, 1) := by kernel_rfl
theorem zv_74 : ZV Try.prog 74 = some (.any) := by kernel_rfl
theorem zok_74 : ZOk Try.prog 74 1 = true := by kernel_rfl
theorem by_74 : byOf Try.prog 74 = 8 := by kernel_rfl
theorem cells_75 : Try.prog.cellsOf 75 = 1 := by kernel_rfl
theorem ti_75 : TI Try.prog 75 = some (false, 1) := by kernel_rfl
theorem ei_75 : EI Try.prog 75 = some (23, 1) := by kernel_rfl
theorem isSli_75 : isSli Try.prog 75 = true := by kernel_rfl
theorem notInt_75 : notInt Try.prog 75 = true := by kernel_rfl
theorem zv_75 : ZV Try.prog 75 = some (.nils) := by kernel_rfl
theorem zok_75 : ZOk Try.prog 75 1 = true := by kernel_rfl
theorem by_75 : byOf Try.prog 75 = 24 := by kernel_rfl
theorem cells_76 : Try.prog.cellsOf 76 = 1 := by kernel_rfl
theorem ti_76 : TI Try.prog 76 = some (false, 1) := by kernel_rfl
theorem zv_76 : ZV Try.prog 76 = some (.any) := by kernel_rfl
theorem zok_76 : ZOk Try.prog 76 1 = true := by kernel_rfl
theorem by_76 : byOf Try.prog 76 = 8 := by kernel_rfl
theorem cells_77 : Try.prog.cellsOf 77 = 1 := by kernel_rfl
theorem ti_77 : TI Try.prog 77 = some (false, 1) := by kernel_rfl
theorem zv_77 : ZV Try.prog 77 = some (.any) := by kernel_rfl
theorem zok_77 : ZOk Try.prog 77 1 = true := by kernel_rfl
theorem by_77 : byOf Try.prog 77 = 8 := by kernel_rfl
theorem cells_78 : Try.prog.cellsOf 78 = 1 := by kernel_rfl
theorem ti_78 : TI Try.prog 78 = some (false, 1) := by kernel_rfl
theorem isPtr_78 : isPtr Try.prog 78 = true := by kernel_rfl
theorem zv_78 : ZV Try.prog 78 = some (.nilp) := by kernel_rfl
theorem zok_78 : ZOk Try.prog 78 1 = true := by kernel_rfl
theorem by_78 : byOf Try.prog 78 = 8 := by kernel_rfl
theorem cells_79 : Try.prog.cellsOf 79 = 2 := by kernel_rfl
theorem ti_79 : TI Try.prog 79 = some (true, 2) := by kernel_rfl
theorem fi_79_0 : FI Try.prog 79 0 = some (0, (false, 1)) := by kernel_rfl
theorem fi_79_1 : FI Try.prog 79 1 = some (1, (false, 1)) := by kernel_rfl
theorem si_79 : SI Try.prog 79 = some [(0, 1), (1, 1)] := by kernel_rfl
theorem zv_79 : ZV Try.prog 79 = some (.agg [.nils, .nils]) := by kernel_rfl
theorem zok_79 : ZOk Try.prog 79 2 = true := by kernel_rfl
theorem by_79 : byOf Try.prog 79 = 48 := by kernel_rfl
theorem cells_80 : Try.prog.cellsOf 80 = 2 := by kernel_rfl
theorem ti_80 : TI Try.prog 80 = some (true, 2) := by kernel_rfl
theorem fi_80_0 : FI Try.prog 80 0 = some (0, (false, 1)) := by kernel_rfl
theorem fi_80_1 : FI Try.prog 80 1 = some (1, (false, 1)) := by kernel_rfl
theorem si_80 : SI Try.prog 80 = some [(0, 1), (1, 1)] := by kernel_rfl
theorem zv_80 : ZV Try.prog 80 = some (.agg [.nils, .nils]) := by kernel_rfl
theorem zok_80 : ZOk Try.prog 80 2 = true := by kernel_rfl
theorem by_80 : byOf Try.prog 80 = 48 := by kernel_rfl
theorem cells_81 : Try.prog.cellsOf 81 = 1 := by kernel_rfl
theorem ti_81 : TI Try.prog 81 = some (false, 1) := by kernel_rfl
theorem zv_81 : ZV Try.prog 81 = some (.any) := by kernel_rfl
theorem zok_81 : ZOk Try.prog 81 1 = true := by kernel_rfl
theorem by_81 : byOf Try.prog 81 = 8 := by kernel_rfl
theorem cells_82 : Try.prog.cellsOf 82 = 1 := by kernel_rfl
theorem ti_82 : TI Try.prog 82 = some (false, 1) := by kernel_rfl
theorem zv_82 : ZV Try.prog 82 = some (.any) := by kernel_rfl
theorem zok_82 : ZOk Try.prog 82 1 = true := by kernel_rfl
theorem by_82 : byOf Try.prog 82 = 8 := by kernel_rfl
theorem cells_83 : Try.prog.cellsOf 83 = 1 := by kernel_rfl
theorem ti_83 : TI Try.prog 83 = some (false, 1) := by kernel_rfl
theorem ei_83 : EI Try.prog 83 = some (122, 2) := by kernel_rfl
theorem isSli_83 : isSli Try.prog 83 = true := by kernel_rfl
theorem notInt_83 : notInt Try.prog 83 = true := by kernel_rfl
theorem zv_83 : ZV Try.prog 83 = some (.nils) := by kernel_rfl
theorem zok_83 : ZOk Try.prog 83 1 = true := by kernel_rfl
theorem by_83 : byOf Try.prog 83 = 24 := by kernel_rfl
theorem cells_84 : Try.prog.cellsOf 84 = 4 := by kernel_rfl
theorem ti_84 : TI Try.prog 84 = some (true, 4) := by kernel_rfl
theorem fi_84_0 : FI Try.prog 84 0 = some (0, (false, 1)) := by kernel_rfl
theorem fi_84_1 : FI Try.prog 84 1 = some (1, (false, 1)) := by kernel_rfl
theorem fi_84_2 : FI Try.prog 84 2 = some (2, (false, 1)) := by kernel_rfl
theorem fi_84_3 : FI Try.prog 84 3 = some (3, (false, 1)) := by kernel_rfl
theorem si_84 : SI Try.prog 84 = some [(0, 1), (1, 1), (2, 1), (3, 1)] := by kernel_rfl
theorem zv_84 : ZV Try.prog 84 = some (.agg [.str [], .nils, .str [], .nils]) := by kernel_rfl
theorem zok_84 : ZOk Try.prog 84 4 = true := by kernel_rfl
theorem by_84 : byOf Try.prog 84 = 80 := by kernel_rfl
theorem cells_85 : Try.prog.cellsOf 85 = 4 := by kernel_rfl
theorem ti_85 : TI Try.prog 85 = some (true, 4) := by kernel_rfl
theorem fi_85_0 : FI Try.prog 85 0 = some (0, (false, 1)) := by kernel_rfl
theorem fi_85_1 : FI Try.prog 85 1 = some (1, (false, 1)) := by kernel_rfl
theorem fi_85_2 : FI Try.prog 85 2 = some (2, (false, 1)) := by kernel_rfl
theorem fi_85_3 : FI Try.prog 85 3 = some (3, (false, 1)) := by kernel_rfl
theorem si_85 : SI Try.prog 85 = some [(0, 1), (1, 1), (2, 1), (3, 1)] := by kernel_rfl
theorem zv_85 : ZV Try.prog 85 = some (.agg [.str [], .nils, .str [], .nils]) := by kernel_rfl
theorem zok_85 : ZOk Try.prog 85 4 = true := by kernel_rfl
theorem by_85 : byOf Try.prog 85 = 80 := by kernel_rfl
theorem cells_86 : Try.prog.cellsOf 86 = 1 := by kernel_rfl
theorem ti_86 : TI Try.prog 86 = some (false, 1) := by kernel_rfl
theorem zv_86 : ZV Try.prog 86 = some (.any) := by kernel_rfl
theorem zok_86 : ZOk Try.prog 86 1 = true := by kernel_rfl
theorem by_86 : byOf Try.prog 86 = 8 := by kernel_rfl
theorem cells_87 : Try.prog.cellsOf 87 = 1 := by kernel_rfl
theorem ti_87 : TI Try.prog 87 = some (false, 1) := by kernel_rfl
theorem zv_87 : ZV Try.prog 87 = some (.any) := by kernel_rfl
theorem zok_87 : ZOk Try.prog 87 1 = true := by kernel_rfl
theorem by_87 : byOf Try.prog 87 = 8 := by kernel_rfl
theorem cells_88 : Try.prog.cellsOf 88 = 1 := by kernel_rfl
theorem ti_88 : TI Try.prog 88 = some (false, 1) := by kernel_rfl
theorem isPtr_88 : isPtr Try.prog 88 = true := by kernel_rfl
theorem zv_88 : ZV Try.prog 88 = some (.nilp) := by kernel_rfl
theorem zok_88 : ZOk Try.prog 88 1 = true := by kernel_rfl
theorem by_88 : byOf Try.prog 88 = 8 := by kernel_rfl
theorem cells_89 : Try.prog.cellsOf 89 = 2 := by kernel_rfl
theorem ti_89 : TI Try.prog 89 = some (true, 2) := by kernel_rfl
theorem fi_89_0 : FI Try.prog 89 0 = some (0, (false, 1)) := by kernel_rfl
theorem fi_89_1 : FI Try.prog 89 1 = some (1, (false, 1)) := by kernel_rfl
theorem si_89 : SI Try.prog 89 = some [(0, 1), (1, 1)] := by kernel_rfl
theorem zv_89 : ZV Try.prog 89 = some (.agg [.str [], .bool false]) := by kernel_rfl
theorem zok_89 : ZOk Try.prog 89 2 = true := by kernel_rfl
theorem by_89 : byOf Try.prog 89 = 24 := by kernel_rfl
theorem cells_90 : Try.prog.cellsOf 90 = 2 := by kernel_rfl
theorem ti_90 : TI Try.prog 90 = some (true, 2) := by kernel_rfl
theorem fi_90_0 : FI Try.prog 90 0 = some (0, (false, 1)) := by kernel_rfl
theorem fi_90_1 : FI Try.prog 90 1 = some (1, (false, 1)) := by kernel_rfl
theorem si_90 : SI Try.prog 90 = some [(0, 1), (1, 1)] := by kernel_rfl
theorem zv_90 : ZV Try.prog 90 = some (.agg [.str [], .bool false]) := by kernel_rfl
theorem zok_90 : ZOk Try.prog 90 2 = true := by kernel_rfl
theorem by_90 : byOf Try.prog 90 = 24 := by kernel_rfl
theorem cells_91 : Try.prog.cellsOf 91 = 1 := by kernel_rfl
theorem ti_91 : TI Try.prog 91 = some (false, 1) := by kernel_rfl
theorem zv_91 : ZV Try.prog 91 = some (.any) := by kernel_rfl
theorem zok_91 : ZOk Try.prog 91 1 = true := by kernel_rfl
theorem by_91 : byOf Try.prog 91 = 8 := by kernel_rfl
theorem cells_93 : Try.prog.cellsOf 93 = 1 := by kernel_rfl
theorem ti_93 : TI Try.prog 93 = some (false, 1) := by kernel_rfl
theorem zv_93 : ZV Try.prog 93 = some (.any) := by kernel_rfl
theorem zok_93 : ZOk Try.prog 93 1 = true := by kernel_rfl
theorem by_93 : byOf Try.prog 93 = 8 := by kernel_rfl
theorem cells_95 : Try.prog.cellsOf 95 = 1 := by kernel_rfl
theorem ti_95 : TI Try.prog 95 = some (false, 1) := by kernel_rfl
theorem zv_95 : ZV Try.prog 95 = some (.any) := by kernel_rfl
theorem zok_95 : ZOk Try.prog 95 1 = true := by kernel_rfl
theorem by_95 : byOf Try.prog 95 = 8 := by kernel_rfl
theorem cells_96 : Try.prog.cellsOf 96 = 1 := by kernel_rfl
theorem ti_96 : TI Try.prog 96 = some (false, 1) := by kernel_rfl
theorem ei_96 : EI Try.prog 96 = some (36, 1) := by kernel_rfl
theorem isSli_96 : isSli Try.prog 96 = true := by kernel_rfl
theorem notInt_96 : notInt Try.prog 96 = true := by kernel_rfl
theorem zv_96 : ZV Try.prog 96 = some (.nils) := by kernel_rfl
theorem zok_96 : ZOk Try.prog 96 1 = true := by kernel_rfl
theorem by_96 : byOf Try.prog 96 = 24 := by kernel_rfl
theorem cells_98 : Try.prog.cellsOf 98 = 1 := by kernel_rfl
theorem ti_98 : TI Try.prog 98 = some (false, 1) := by kernel_rfl
theorem zv_98 : ZV Try.prog 98 = some (.any) := by kernel_rfl
theorem zok_98 : ZOk Try.prog 98 1 = true := by kernel_rfl
theorem by_98 : byOf Try.prog 98 = 8 := by kernel_rfl
theorem cells_99 : Try.prog.cellsOf 99 = 1 := by kernel_rfl
theorem ti_99 : TI Try.prog 99 = some (false, 1) := by kernel_rfl
theorem zv_99 : ZV Try.prog 99 = some (.any) := by kernel_rfl
theorem zok_99 : ZOk Try.prog 99 1 = true := by kernel_rfl
theorem by_99 : byOf Try.prog 99 = 8 := by kernel_rfl
theorem cells_100 : Try.prog.cellsOf 100 = 1 := by kernel_rfl
theorem ti_100 : TI Try.prog 100 = some (false, 1) := by kernel_rfl
theorem zv_100 : ZV Try.prog 100 = some (.any) := by kernel_rfl
theorem zok_100 : ZOk Try.prog 100 1 = true := by kernel_rfl
theorem by_100 : byOf Try.prog 100 = 8 := by kernel_rfl
theorem cells_101 : Try.prog.cellsOf 101 = 6 := by kernel_rfl
theorem ti_101 : TI Try.prog 101 = some (true, 6) := by kernel_rfl
theorem fi_101_0 : FI Try.prog 101 0 = some (0, (false, 1)) := by kernel_rfl
theorem fi_101_1 : FI Try.prog 101 1 = some (1, (false, 1)) := by kernel_rfl
theorem fi_101_2 : FI Try.prog 101 2 = some (2, (true, 4)) := by kernel_rfl
theorem si_101 : SI Try.prog 101 = some [(0, 1), (1, 1), (2, 4)] := by kernel_rfl
theorem zv_101 : ZV Try.prog 101 = some (.agg [.int .i64 0, .nils, .str [], .nils, .str [], .nils]) := by kernel_rfl
theorem zok_101 : ZOk Try.prog 101 6 = true := by kernel_rfl
theorem by_101 : byOf Try.prog 101 = 112 := by kernel_rfl
theorem cells_102 : Try.prog.cellsOf 102 = 6 := by kernel_rfl
theorem ti_102 : TI Try.prog 102 = some (true, 6) := by kernel_rfl
theorem fi_102_0 : FI Try.prog 102 0 = some (0, (false, 1)) := by kernel_rfl
theorem fi_102_1 : FI Try.prog 102 1 = some (1, (false, 1)) := by kernel_rfl
theorem fi_102_2 : FI Try.prog 102 2 = some (2, (true, 4)) := by kernel_rfl
theorem si_102 : SI Try.prog 102 = some [(0, 1), (1, 1), (2, 4)] := by kernel_rfl
theorem zv_102 : ZV Try.prog 102 = some (.agg [.int .i64 0, .nils, .str [], .nils, .str [], .nils]) := by kernel_rfl
theorem zok_102 : ZOk Try.prog 102 6 = true := by kernel_rfl
theorem by_102 : byOf Try.prog 102 = 112 := by kernel_rfl
theorem cells_104 : Try.prog.cellsOf 104 = 1 := by kernel_rfl
theorem ti_104 : TI Try.prog 104 = some (false, 1) := by kernel_rfl
theorem zv_104 : ZV Try.prog 104 = some (.any) := by kernel_rfl
theorem zok_104 : ZOk Try.prog 104 1 = true := by kernel_rfl
theorem by_104 : byOf Try.prog 104 = 8 := by kernel_rfl
theorem cells_105 : Try.prog.cellsOf 105 = 1 := by kernel_rfl
theorem ti_105 : TI Try.prog 105 = some (false, 1) := by kernel_rfl
theorem zv_105 : ZV Try.prog 105 = some (.any) := by kernel_rfl
theorem zok_105 : ZOk Try.prog 105 1 = true := by kernel_rfl
theorem by_105 : byOf Try.prog 105 = 8 := by kernel_rfl
theorem cells_106 : Try.prog.cellsOf 106 = 1 := by kernel_rfl
theorem ti_106 : TI Try.prog 106 = some (false, 1) := by kernel_rfl
theorem zv_106 : ZV Try.prog 106 = some (.any) := by kernel_rfl
theorem zok_106 : ZOk Try.prog 106 1 = true := by kernel_rfl
theorem by_106 : byOf Try.prog 106 = 8 := by kernel_rfl
theorem cells_107 : Try.prog.cellsOf 107 = 1 := by kernel_rfl
theorem ti_107 : TI Try.prog 107 = some (false, 1) := by kernel_rfl
theorem zv_107 : ZV Try.prog 107 = some (.any) := by kernel_rfl
theorem zok_107 : ZOk Try.prog 107 1 = true := by kernel_rfl
theorem by_107 : byOf Try.prog 107 = 8 := by kernel_rfl
theorem cells_108 : Try.prog.cellsOf 108 = 1 := by kernel_rfl
theorem ti_108 : TI Try.prog 108 = some (false, 1) := by kernel_rfl
theorem zv_108 : ZV Try.prog 108 = some (.any) := by kernel_rfl
theorem zok_108 : ZOk Try.prog 108 1 = true := by kernel_rfl
theorem by_108 : byOf Try.prog 108 = 8 := by kernel_rfl
theorem cells_109 : Try.prog.cellsOf 109 = 1 := by kernel_rfl
theorem ti_109 : TI Try.prog 109 = some (false, 1) := by kernel_rfl
theorem zv_109 : ZV Try.prog 109 = some (.any) := by kernel_rfl
theorem zok_109 : ZOk Try.prog 109 1 = true := by kernel_rfl
theorem by_109 : byOf Try.prog 109 = 8 := by kernel_rfl
theorem cells_110 : Try.prog.cellsOf 110 = 8 := by kernel_rfl
theorem ti_110 : TI Try.prog 110 = some (true, 8) := by kernel_rfl
theorem ai_110 : AI Try.prog 110 = some (8, (false, 1)) := by kernel_rfl
theorem zv_110 : ZV Try.prog 110 = some (.agg [.int .i64 0, .int .i64 0, .int .i64 0, .int .i64 0, .int .i64 0, .int .i64 0, .int .i64 0, .int .i64 0]) := by kernel_rfl
theorem zok_110 : ZOk Try.prog 110 8 = true := by kernel_rfl
theorem by_110 : byOf Try.prog 110 = 64 := by kernel_rfl
theorem cells_111 : Try.prog.cellsOf 111 = 1 := by kernel_rfl
theorem ti_111 : TI Try.prog 111 = some (false, 1) := by kernel_rfl
theorem zv_111 : ZV Try.prog 111 = some (.any) := by kernel_rfl
theorem zok_111 : ZOk Try.prog 111 1 = true := by kernel_rfl
theorem by_111 : byOf Try.prog 111 = 8 := by kernel_rfl
theorem cells_113 : Try.prog.cellsOf 113 = 1 := by kernel_rfl
theorem ti_113 : TI Try.prog 113 = some (false, 1) := by kernel_rfl
theorem zv_113 : ZV Try.prog 113 = some (.any) := by kernel_rfl
theorem zok_113 : ZOk Try.prog 113 1 = true := by kernel_rfl
theorem by_113 : byOf Try.prog 113 = 8 := by kernel_rfl
theorem cells_114 : Try.prog.cellsOf 114 = 1 := by kernel_rfl
theorem ti_114 : TI Try.prog 114 = some (false, 1) := by kernel_rfl
theorem zv_114 : ZV Try.prog 114 = some (.any) := by kernel_rfl
theorem zok_114 : ZOk Try.prog 114 1 = true := by kernel_rfl
theorem by_114 : byOf Try.prog 114 = 8 := by kernel_rfl
theorem cells_115 : Try.prog.cellsOf 115 = 3 := by kernel_rfl
theorem ti_115 : TI Try.prog 115 = some (true, 3) := by kernel_rfl
theorem fi_115_0 : FI Try.prog 115 0 = some (0, (false, 1)) := by kernel_rfl
theorem fi_115_1 : FI Try.prog 115 1 = some (1, (false, 1)) := by kernel_rfl
theorem fi_115_2 : FI Try.prog 115 2 = some (2, (false, 1)) := by kernel_rfl
theorem si_115 : SI Try.prog 115 = some [(0, 1), (1, 1), (2, 1)] := by kernel_rfl
theorem zv_115 : ZV Try.prog 115 = some (.agg [.str [], .str [], .bool false]) := by kernel_rfl
theorem zok_115 : ZOk Try.prog 115 3 = true := by kernel_rfl
theorem by_115 : byOf Try.prog 115 = 40 := by kernel_rfl
theorem cells_116 : Try.prog.cellsOf 116 = 3 := by kernel_rfl
theorem ti_116 : TI Try.prog 116 = some (true, 3) := by kernel_rfl
theorem fi_116_0 : FI Try.prog 116 0 = some (0, (false, 1)) := by kernel_rfl
theorem fi_116_1 : FI Try.prog 116 1 = some (1, (false, 1)) := by kernel_rfl
theorem fi_116_2 : FI Try.prog 116 2 = some (2, (false, 1)) := by kernel_rfl
theorem si_116 : SI Try.prog 116 = some [(0, 1), (1, 1), (2, 1)] := by kernel_rfl
theorem zv_116 : ZV Try.prog 116 = some (.agg [.str [], .str [], .bool false]) := by kernel_rfl
theorem zok_116 : ZOk Try.prog 116 3 = true := by kernel_rfl
theorem by_116 : byOf Try.prog 116 = 40 := by kernel_rfl
theorem cells_117 : Try.prog.cellsOf 117 = 1 := by kernel_rfl
theorem ti_117 : TI Try.prog 117 = some (false, 1) := by kernel_rfl
theorem zv_117 : ZV Try.prog 117 = some (.any) := by kernel_rfl
theorem zok_117 : ZOk Try.prog 117 1 = true := by kernel_rfl
theorem by_117 : byOf Try.prog 117 = 8 := by kernel_rfl
theorem cells_118 : Try.prog.cellsOf 118 = 1 := by kernel_rfl
theorem ti_118 : TI Try.prog 118 = some (false, 1) := by kernel_rfl
theorem zv_118 : ZV Try.prog 118 = some (.any) := by kernel_rfl
theorem zok_118 : ZOk Try.prog 118 1 = true := by kernel_rfl
theorem by_118 : byOf Try.prog 118 = 8 := by kernel_rfl
theorem cells_119 : Try.prog.cellsOf 119 = 1 := by kernel_rfl
theorem ti_119 : TI Try.prog 119 = some (false, 1) := by kernel_rfl
theorem zv_119 : ZV Try.prog 119 = some (.any) := by kernel_rfl
theorem zok_119 : ZOk Try.prog 119 1 = true := by kernel_rfl
theorem by_119 : byOf Try.prog 119 = 8 := by kernel_rfl
theorem cells_120 : Try.prog.cellsOf 120 = 1 := by kernel_rfl
theorem ti_120 : TI Try.prog 120 = some (false, 1) := by kernel_rfl
theorem ei_120 : EI Try.prog 120 = some (9, 1) := by kernel_rfl
theorem isSli_120 : isSli Try.prog 120 = true := by kernel_rfl
theorem notInt_120 : notInt Try.prog 120 = true := by kernel_rfl
theorem zv_120 : ZV Try.prog 120 = some (.nils) := by kernel_rfl
theorem zok_120 : ZOk Try.prog 120 1 = true := by kernel_rfl
theorem by_120 : byOf Try.prog 120 = 24 := by kernel_rfl
theorem cells_121 : Try.prog.cellsOf 121 = 2 := by kernel_rfl
theorem ti_121 : TI Try.prog 121 = some (true, 2) := by kernel_rfl
theorem fi_121_0 : FI Try.prog 121 0 = some (0, (false, 1)) := by kernel_rfl
theorem fi_121_1 : FI Try.prog 121 1 = some (1, (false, 1)) := by kernel_rfl
theorem si_121 : SI Try.prog 121 = some [(0, 1), (1, 1)] := by kernel_rfl
theorem zv_121 : ZV Try.prog 121 = some (.agg [.str [], .str []]) := by kernel_rfl
theorem zok_121 : ZOk Try.prog 121 2 = true := by kernel_rfl
theorem by_121 : byOf Try.prog 121 = 32 := by kernel_rfl
theorem cells_122 : Try.prog.cellsOf 122 = 2 := by kernel_rfl
theorem ti_122 : TI Try.prog 122 = some (true, 2) := by kernel_rfl
theorem fi_122_0 : FI Try.prog 122 0 = some (0, (false, 1)) := by kernel_rfl
theorem fi_122_1 : FI Try.prog 122 1 = some (1, (false, 1)) := by kernel_rfl
theorem si_122 : SI Try.prog 122 = some [(0, 1), (1, 1)] := by kernel_rfl
theorem zv_122 : ZV Try.prog 122 = some (.agg [.str [], .str []]) := by kernel_rfl
theorem zok_122 : ZOk Try.prog 122 2 = true := by kernel_rfl
theorem by_122 : byOf Try.prog 122 = 32 := by kernel_rfl
theorem cells_123 : Try.prog.cellsOf 123 = 1 := by kernel_rfl
theorem ti_123 : TI Try.prog 123 = some (false, 1) := by kernel_rfl
theorem zv_123 : ZV Try.prog 123 = some (.any) := by kernel_rfl
theorem zok_123 : ZOk Try.prog 123 1 = true := by kernel_rfl
theorem by_123 : byOf Try.prog 123 = 8 := by kernel_rfl
theorem cells_124 : Try.prog.cellsOf 124 = 1 := by kernel_rfl
theorem ti_124 : TI Try.prog 124 = some (false, 1) := by kernel_rfl
theorem zv_124 : ZV Try.prog 124 = some (.any) := by kernel_rfl
theorem zok_124 : ZOk Try.prog 124 1 = true := by kernel_rfl
theorem by_124 : byOf Try.prog 124 = 8 := by kernel_rfl
theorem cells_125 : Try.prog.cellsOf 125 = 1 := by kernel_rfl
theorem ti_125 : TI Try.prog 125 = some (false, 1) := by kernel_rfl
theorem ei_125 : EI Try.prog 125 = some (5, 1) := by kernel_rfl
theorem isSli_125 : isSli Try.prog 125 = true := by kernel_rfl
theorem notInt_125 : notInt Try.prog 125 = true := by kernel_rfl
theorem zv_125 : ZV Try.prog 125 = some (.nils) := by kernel_rfl
theorem zok_125 : ZOk Try.prog 125 1 = true := by kernel_rfl
theorem by_125 : byOf Try.prog 125 = 24 := by kernel_rfl
theorem cells_126 : Try.prog.cellsOf 126 = 1 := by kernel_rfl
theorem ti_126 : TI Try.prog 126 = some (false, 1) := by kernel_rfl
theorem zv_126 : ZV Try.prog 126 = some (.any) := by kernel_rfl
theorem zok_126 : ZOk Try.prog 126 1 = true := by kernel_rfl
theorem by_126 : byOf Try.prog 126 = 8 := by kernel_rfl
theorem cells_127 : Try.prog.cellsOf 127 = 1 := by kernel_rfl
theorem ti_127 : TI Try.prog 127 = some (false, 1) := by kernel_rfl
theorem zv_127 : ZV Try.prog 127 = some (.any) := by kernel_rfl
theorem zok_127 : ZOk Try.prog 127 1 = true := by kernel_rfl
theorem by_127 : byOf Try.prog 127 = 8 := by kernel_rfl
theorem cells_128 : Try.prog.cellsOf 128 = 1 := by kernel_rfl
theorem ti_128 : TI Try.prog 128 = some (false, 1) := by kernel_rfl
theorem isPtr_128 : isPtr Try.prog 128 = true := by kernel_rfl
theorem zv_128 : ZV Try.prog 128 = some (.nilp) := by kernel_rfl
theorem zok_128 : ZOk Try.prog 128 1 = true := by kernel_rfl
theorem by_128 : byOf Try.prog 128 = 8 := by kernel_rfl
theorem cells_129 : Try.prog.cellsOf 129 = 1 := by kernel_rfl
theorem ti_129 : TI Try.prog 129 = some (false, 1) := by kernel_rfl
theorem zv_129 : ZV Try.prog 129 = some (.any) := by kernel_rfl
theorem zok_129 : ZOk Try.prog 129 1 = true := by kernel_rfl
theorem by_129 : byOf Try.prog 129 = 8 := by kernel_rfl
theorem cells_130 : Try.prog.cellsOf 130 = 1 := by kernel_rfl
theorem ti_130 : TI Try.prog 130 = some (false, 1) := by kernel_rfl
theorem zv_130 : ZV Try.prog 130 = some (.any) := by kernel_rfl
theorem zok_130 : ZOk Try.prog 130 1 = true := by kernel_rfl
theorem by_130 : byOf Try.prog 130 = 8 := by kernel_rfl
theorem cells_132 : Try.prog.cellsOf 132 = 1 := by kernel_rfl
theorem ti_132 : TI Try.prog 132 = some (false, 1) := by kernel_rfl
theorem zv_132 : ZV Try.prog 132 = some (.any) := by kernel_rfl
theorem zok_132 : ZOk Try.prog 132 1 = true := by kernel_rfl
theorem by_132 : byOf Try.prog 132 = 8 := by kernel_rfl
theorem cells_133 : Try.prog.cellsOf 133 = 1 := by kernel_rfl
theorem ti_133 : TI Try.prog 133 = some (false, 1) := by kernel_rfl
theorem zv_133 : ZV Try.prog 133 = some (.any) := by kernel_rfl
theorem zok_133 : ZOk Try.prog 133 1 = true := by kernel_rfl
theorem by_133 : byOf Try.prog 133 = 8 := by kernel_rfl
theorem cells_135 : Try.prog.cellsOf 135 = 1 := by kernel_rfl
theorem ti_135 : TI Try.prog 135 = some (false, 1) := by kernel_rfl
theorem zv_135 : ZV Try.prog 135 = some (.any) := by kernel_rfl
theorem zok_135 : ZOk Try.prog 135 1 = true := by kernel_rfl
theorem by_135 : byOf Try.prog 135 = 8 := by kernel_rfl
theorem cells_136 : Try.prog.cellsOf 136 = 1 := by kernel_rfl
theorem ti_136 : TI Try.prog 136 = some (false, 1) := by kernel_rfl
theorem zv_136 : ZV Try.prog 136 = some (.any) := by kernel_rfl
theorem zok_136 : ZOk Try.prog 136 1 = true := by kernel_rfl
theorem by_136 : byOf Try.prog 136 = 8 := by kernel_rfl
theorem cells_137 : Try.prog.cellsOf 137 = 1 := by kernel_rfl
theorem ti_137 : TI Try.prog 137 = some (false, 1) := by kernel_rfl
theorem zv_137 : ZV Try.prog 137 = some (.any) := by kernel_rfl
theorem zok_137 : ZOk Try.prog 137 1 = true := by kernel_rfl
theorem by_137 : byOf Try.prog 137 = 8 := by kernel_rfl
theorem cells_138 : Try.prog.cellsOf 138 = 1 := by kernel_rfl
theorem ti_138 : TI Try.prog 138 = some (false, 1) := by kernel_rfl
theorem zv_138 : ZV Try.prog 138 = some (.any) := by kernel_rfl
theorem zok_138 : ZOk Try.prog 138 1 = true := by kernel_rfl
theorem by_138 : byOf Try.prog 138 = 8 := by kernel_rfl
theorem cells_139 : Try.prog.cellsOf 139 = 1 := by kernel_rfl
theorem ti_139 : TI Try.prog 139 = some (false, 1) := by kernel_rfl
theorem zv_139 : ZV Try.prog 139 = some (.any) := by kernel_rfl
theorem zok_139 : ZOk Try.prog 139 1 = true := by kernel_rfl
theorem by_139 : byOf Try.prog 139 = 8 := by kernel_rfl
theorem cells_140 : Try.prog.cellsOf 140 = 1 := by kernel_rfl
theorem ti_140 : TI Try.prog 140 = some (false, 1) := by kernel_rfl
theorem zv_140 : ZV Try.prog 140 = some (.any) := by kernel_rfl
theorem zok_140 : ZOk Try.prog 140 1 = true := by kernel_rfl
theorem by_140 : byOf Try.prog 140 = 8 := by kernel_rfl
theorem cells_141 : Try.prog.cellsOf 141 = 1 := by kernel_rfl
theorem ti_141 : TI Try.prog 141 = some (false, 1) := by kernel_rfl
theorem zv_141 : ZV Try.prog 141 = some (.any) := by kernel_rfl
theorem zok_141 : ZOk Try.prog 141 1 = true := by kernel_rfl
theorem by_141 : byOf Try.prog 141 = 8 := by kernel_rfl
theorem cells_142 : Try.prog.cellsOf 142 = 1 := by kernel_rfl
theorem ti_142 : TI Try.prog 142 = some (false, 1) := by kernel_rfl
theorem zv_142 : ZV Try.prog 142 = some (.any) := by kernel_rfl
theorem zok_142 : ZOk Try.prog 142 1 = true := by kernel_rfl
theorem by_142 : byOf Try.prog 142 = 8 := by kernel_rfl
theorem cells_143 : Try.prog.cellsOf 143 = 1 := by kernel_rfl
theorem ti_143 : TI Try.prog 143 = some (false, 1) := by kernel_rfl
theorem zv_143 : ZV Try.prog 143 = some (.any) := by kernel_rfl
theorem zok_143 : ZOk Try.prog 143 1 = true := by kernel_rfl
theorem by_143 : byOf Try.prog 143 = 8 := by kernel_rfl
theorem cells_144 : Try.prog.cellsOf 144 = 1 := by kernel_rfl
theorem ti_144 : TI Try.prog 144 = some (false, 1) := by kernel_rfl
theorem zv_144 : ZV Try.prog 144 = some (.any) := by kernel_rfl
theorem zok_144 : ZOk Try.prog 144 1 = true := by kernel_rfl
theorem by_144 : byOf Try.prog 144 = 8 := by kernel_rfl
theorem cells_145 : Try.prog.cellsOf 145 = 1 := by kernel_rfl
theorem ti_145 : TI Try.prog 145 = some (false, 1) := by kernel_rfl
theorem isPtr_145 : isPtr Try.prog 145 = true := by kernel_rfl
theorem zv_145 : ZV Try.prog 145 = some (.nilp) := by kernel_rfl
theorem zok_145 : ZOk Try.prog 145 1 = true := by kernel_rfl
theorem by_145 : byOf Try.prog 145 = 8 := by kernel_rfl
theorem cells_146 : Try.prog.cellsOf 146 = 2 := by kernel_rfl
theorem ti_146 : TI Try.prog 146 = some (true, 2) := by kernel_rfl
theorem fi_146_0 : FI Try.prog 146 0 = some (0, (false, 1)) := by kernel_rfl
theorem fi_146_1 : FI Try.prog 146 1 = some (1, (false, 1)) := by kernel_rfl
theorem si_146 : SI Try.prog 146 = some [(0, 1), (1, 1)] := by kernel_rfl
theorem zv_146 : ZV Try.prog 146 = some (.agg [.nilp, .nils]) := by kernel_rfl
theorem zok_146 : ZOk Try.prog 146 2 = true := by kernel_rfl
theorem by_146 : byOf Try.prog 146 = 32 := by kernel_rfl
theorem cells_147 : Try.prog.cellsOf 147 = 2 := by kernel_rfl
theorem ti_147 : TI Try.prog 147 = some (true, 2) := by kernel_rfl
theorem fi_147_0 : FI Try.prog 147 0 = some (0, (false, 1)) := by kernel_rfl
theorem fi_147_1 : FI Try.prog 147 1 = some (1, (false, 1)) := by kernel_rfl
theorem si_147 : SI Try.prog 147 = some [(0, 1), (1, 1)] := by kernel_rfl
theorem zv_147 : ZV Try.prog 147 = some (.agg [.nilp, .nils]) := by kernel_rfl
theorem zok_147 : ZOk Try.prog 147 2 = true := by kernel_rfl
theorem by_147 : byOf Try.prog 147 = 32 := by kernel_rfl
theorem cells_148 : Try.prog.cellsOf 148 = 1 := by kernel_rfl
theorem ti_148 : TI Try.prog 148 = some (false, 1) := by kernel_rfl
theorem zv_148 : ZV Try.prog 148 = some (.any) := by kernel_rfl
theorem zok_148 : ZOk Try.prog 148 1 = true := by kernel_rfl
theorem by_148 : byOf Try.prog 148 = 8 := by kernel_rfl
theorem cells_152 : Try.prog.cellsOf 152 = 1 := by kernel_rfl
theorem ti_152 : TI Try.prog 152 = some (false, 1) := by kernel_rfl
theorem zv_152 : ZV Try.prog 152 = some (.any) := by kernel_rfl
theorem zok_152 : ZOk Try.prog 152 1 = true := by kernel_rfl
theorem by_152 : byOf Try.prog 152 = 8 := by kernel_rfl
theorem cells_153 : Try.prog.cellsOf 153 = 1 := by kernel_rfl
theorem ti_153 : TI Try.prog 153 = some (false, 1) := by kernel_rfl
theorem zv_153 : ZV Try.prog 153 = some (.any) := by kernel_rfl
theorem zok_153 : ZOk Try.prog 153 1 = true := by kernel_rfl
theorem by_153 : byOf Try.prog 153 = 8 := by kernel_rfl
theorem cells_154 : Try.prog.cellsOf 154 = 1 := by kernel_rfl
theorem ti_154 : TI Try.prog 154 = some (false, 1) := by kernel_rfl
theorem zv_154 : ZV Try.prog 154 = some (.any) := by kernel_rfl
theorem zok_154 : ZOk Try.prog 154 1 = true := by kernel_rfl
theorem by_154 : byOf Try.prog 154 = 8 := by kernel_rfl
theorem cells_155 : Try.prog.cellsOf 155 = 1 := by kernel_rfl
theorem ti_155 : TI Try.prog 155 = some (false, 1) := by kernel_rfl
theorem zv_155 : ZV Try.prog 155 = some (.any) := by kernel_rfl
theorem zok_155 : ZOk Try.prog 155 1 = true := by kernel_rfl
theorem by_155 : byOf Try.prog 155 = 8 := by kernel_rfl
theorem cells_156 : Try.prog.cellsOf 156 = 1 := by kernel_rfl
theorem ti_156 : TI Try.prog 156 = some (false, 1) := by kernel_rfl
theorem zv_156 : ZV Try.prog 156 = some (.any) := by kernel_rfl
theorem zok_156 : ZOk Try.prog 156 1 = true := by kernel_rfl
theorem by_156 : byOf Try.prog 156 = 8 := by kernel_rfl
theorem cells_157 : Try.prog.cellsOf 157 = 1 := by kernel_rfl
theorem ti_157 : TI Try.prog 157 = some (false, 1) := by kernel_rfl
theorem zv_157 : ZV Try.prog 157 = some (.any) := by kernel_rfl
theorem zok_157 : ZOk Try.prog 157 1 = true := by kernel_rfl
theorem by_157 : byOf Try.prog 157 = 8 := by kernel_rfl
theorem cells_158 : Try.prog.cellsOf 158 = 1 := by kernel_rfl
theorem ti_158 : TI Try.prog 158 = some (false, 1) := by kernel_rfl
theorem zv_158 : ZV Try.prog 158 = some (.any) := by kernel_rfl
theorem zok_158 : ZOk Try.prog 158 1 = true := by kernel_rfl
theorem by_158 : byOf Try.prog 158 = 8 := by kernel_rfl
theorem cells_159 : Try.prog.cellsOf 159 = 1 := by kernel_rfl
theorem ti_159 : TI Try.prog 159 = some (false, 1) := by kernel_rfl
theorem zv_159 : ZV Try.prog 159 = some (.any) := by kernel_rfl
theorem zok_159 : ZOk Try.prog 159 1 = true := by kernel_rfl
theorem by_159 : byOf Try.prog 159 = 8 := by kernel_rfl
theorem cells_160 : Try.prog.cellsOf 160 = 1 := by kernel_rfl
theorem ti_160 : TI Try.prog 160 = some (false, 1) := by kernel_rfl
theorem isPtr_160 : isPtr Try.prog 160 = true := by kernel_rfl
theorem zv_160 : ZV Try.prog 160 = some (.nilp) := by kernel_rfl
theorem zok_160 : ZOk Try.prog 160 1 = true := by kernel_rfl
theorem by_160 : byOf Try.prog 160 = 8 := by kernel_rfl
theorem cells_161 : Try.prog.cellsOf 161 = 1 := by kernel_rfl
theorem ti_161 : TI Try.prog 161 = some (false, 1) := by kernel_rfl
theorem zv_161 : ZV Try.prog 161 = some (.any) := by kernel_rfl
theorem zok_161 : ZOk Try.prog 161 1 = true := by kernel_rfl
theorem by_161 : byOf Try.prog 161 = 8 := by kernel_rfl
theorem cells_162 : Try.prog.cellsOf 162 = 1 := by kernel_rfl
theorem ti_162 : TI Try.prog 162 = some (false, 1) := by kernel_rfl
theorem zv_162 : ZV Try.prog 162 = some (.any) := by kernel_rfl
theorem zok_162 : ZOk Try.prog 162 1 = true := by kernel_rfl
theorem by_162 : byOf Try.prog 162 = 8 := by kernel_rfl
theorem cells_163 : Try.prog.cellsOf 163 = 1 := by kernel_rfl
theorem ti_163 : TI Try.prog 163 = some (false, 1) := by kernel_rfl
theorem zv_163 : ZV Try.prog 163 = some (.any) := by kernel_rfl
theorem zok_163 : ZOk Try.prog 163 1 = true := by kernel_rfl
theorem by_163 : byOf Try.prog 163 = 8 := by kernel_rfl
theorem cells_164 : Try.prog.cellsOf 164 = 1 := by kernel_rfl
theorem ti_164 : TI Try.prog 164 = some (false, 1) := by kernel_rfl
theorem zv_164 : ZV Try.prog 164 = some (.any) := by kernel_rfl
theorem zok_164 : ZOk Try.prog 164 1 = true := by kernel_rfl
theorem by_164 : byOf Try.prog 164 = 8 := by kernel_rfl
theorem cells_167 : Try.prog.cellsOf 167 = 1 := by kernel_rfl
theorem ti_167 : TI Try.prog 167 = some (false, 1) := by kernel_rfl
theorem zv_167 : ZV Try.prog 167 = some (.any) := by kernel_rfl
theorem zok_167 : ZOk Try.prog 167 1 = true := by kernel_rfl
theorem by_167 : byOf Try.prog 167 = 8 := by kernel_rfl
theorem cells_168 : Try.prog.cellsOf 168 = 1 := by kernel_rfl
theorem ti_168 : TI Try.prog 168 = some (false, 1) := by kernel_rfl
theorem zv_168 : ZV Try.prog 168 = some (.any) := by kernel_rfl
theorem zok_168 : ZOk Try.prog 168 1 = true := by kernel_rfl
theorem by_168 : byOf Try.prog 168 = 8 := by kernel_rfl
theorem cells_174 : Try.prog.cellsOf 174 = 1 := by kernel_rfl
theorem ti_174 : TI Try.prog 174 = some (false, 1) := by kernel_rfl
theorem zv_174 : ZV Try.prog 174 = some (.any) := by kernel_rfl
theorem zok_174 : ZOk Try.prog 174 1 = true := by kernel_rfl
theorem by_174 : byOf Try.prog 174 = 8 := by kernel_rfl
theorem cells_175 : Try.prog.cellsOf 175 = 1 := by kernel_rfl
theorem ti_175 : TI Try.prog 175 = some (false, 1) := by kernel_rfl
theorem intK_175 : intK Try.prog 175 = some .u32 := by kernel_rfl
theorem un_175 : Try.prog.underlying 175 = some (.int .u32) := by kernel_rfl
theorem zv_175 : ZV Try.prog 175 = some (.int .u32 0) := by kernel_rfl
theorem zok_175 : ZOk Try.prog 175 1 = true := by kernel_rfl
theorem by_175 : byOf Try.prog 175 = 4 := by kernel_rfl
theorem uns_1 : (Try.prog.underlying 1).isSome = true := by kernel_rfl
theorem tok_1 : TOk Try.prog 1 { ti := some (false, 1), zv := some (.any), zok := some 1, by' := some 8, un := true } := ⟨ti_1, trivial, trivial, trivial, trivial, zv_1, zok_1, by_1, trivial, trivial, trivial, trivial, trivial, trivial, uns_1, trivial⟩
theorem uns_2 : (Try.prog.underlying 2).isSome = true := by kernel_rfl
theorem tok_2 : TOk Try.prog 2 { ti := some (false, 1), zv := some (.int .i64 0), zok := some 1, by' := some 8, ik := some .i64, un := true } := ⟨ti_2, trivial, trivial, trivial, trivial, zv_2, zok_2, by_2, intK_2, trivial, trivial, trivial, trivial, trivial, uns_2, trivial⟩
theorem uns_3 : (Try.prog.underlying 3).isSome = true := by kernel_rfl
theorem tok_3 : TOk Try.prog 3 { ti := some (false, 1), zv := some (.int .i64 0), zok := some 1, by' := some 8, ik := some .i64, un := true } := ⟨ti_3, trivial, trivial, trivial, trivial, zv_3, zok_3, by_3, intK_3, trivial, trivial, trivial, trivial, trivial, uns_3, trivial⟩
theorem uns_4 : (Try.prog.underlying 4).isSome = true := by kernel_rfl
theorem tok_4 : TOk Try.prog 4 { ti := some (false, 1), zv := some (.bool false), zok := some 1, by' := some 1, boo := true, un := true } := ⟨ti_4, trivial, trivial, trivial, trivial, zv_4, zok_4, by_4, trivial, trivial, trivial, isBoo_4, trivial, trivial, uns_4, trivial⟩
theorem uns_5 : (Try.prog.underlying 5).isSome = true := by kernel_rfl
theorem tok_5 : TOk Try.prog 5 { ti := some (false, 1), zv := some (.int .u8 0), zok := some 1, by' := some 1, ik := some .u8, un := true } := ⟨ti_5, trivial, trivial, trivial, trivial, zv_5, zok_5, by_5, intK_5, trivial, trivial, trivial, trivial, trivial, uns_5, trivial⟩
theorem uns_9 : (Try.prog.underlying 9).isSome = true := by kernel_rfl
theorem tok_9 : TOk Try.prog 9 { ti := some (false, 1), zv := some (.str []), zok := some 1, by' := some 16, str := true, ni := true, un := true } := ⟨ti_9, trivial, trivial, trivial, trivial, zv_9, zok_9, by_9, trivial, isStr_9, trivial, trivial, trivial, notInt_9, uns_9, trivial⟩
theorem uns_12 : (Try.prog.underlying 12).isSome = true := by kernel_rfl
theorem tok_12 : TOk Try.prog 12 { ti := some (false, 1), zv := some (.int .u64 0), zok := some 1, by' := some 8, ik := some .u64, un := true } := ⟨ti_12, trivial, trivial, trivial, trivial, zv_12, zok_12, by_12, intK_12, trivial, trivial, trivial, trivial, trivial, uns_12, trivial⟩
theorem uns_13 : (Try.prog.underlying 13).isSome = true := by kernel_rfl
theorem tok_13 : TOk Try.prog 13 { ti := some (true, 2), fi := [some (0, (false, 1)), some (1, (false, 1))], si := some [(0, 1), (1, 1)], zv := some (.agg [.str [], .int .u64 0]), zok := some 2, by' := some 24, un := true } := ⟨ti_13, trivial, trivial, ⟨fi_13_0, fi_13_1, trivial⟩, si_13, zv_13, zok_13, by_13, trivial, trivial, trivial, trivial, trivial, trivial, uns_13, trivial⟩
theorem uns_21 : (Try.prog.underlying 21).isSome = true := by kernel_rfl
theorem tok_21 : TOk Try.prog 21 { ti := some (false, 1), zv := some (.int .i32 0), zok := some 1, by' := some 4, ik := some .i32, un := true } := ⟨ti_21, trivial, trivial, trivial, trivial, zv_21, zok_21, by_21, intK_21, trivial, trivial, trivial, trivial, trivial, uns_21, trivial⟩
theorem uns_22 : (Try.prog.underlying 22).isSome = true := by kernel_rfl
theorem tok_22 : TOk Try.prog 22 { ti := some (false, 1), ei := some (26, 1), zv := some (.nils), zok := some 1, by' := some 24, sli := true, ni := true, un := true } := ⟨ti_22, ei_22, trivial, trivial, trivial, zv_22, zok_22, by_22, trivial, trivial, isSli_22, trivial, trivial, notInt_22, uns_22, trivial⟩
theorem uns_23 : (Try.prog.underlying 23).isSome = true := by kernel_rfl
theorem tok_23 : TOk Try.prog 23 { ti := some (false, 1), ei := some (4, 1), zv := some (.nils), zok := some 1, by' := some 24, sli := true, ni := true, un := true } := ⟨ti_23, ei_23, trivial, trivial, trivial, zv_23, zok_23, by_23, trivial, trivial, isSli_23, trivial, trivial, notInt_23, uns_23, trivial⟩
theorem uns_24 : (Try.prog.underlying 24).isSome = true := by kernel_rfl
theorem tok_24 : TOk Try.prog 24 { ti := some (true, 2), fi := [some (0, (false, 1)), some (1, (false, 1))], si := some [(0, 1), (1, 1)], zv := some (.agg [.nils, .nils]), zok := some 2, by' := some 48, un := true } := ⟨ti_24, trivial, trivial, ⟨fi_24_0, fi_24_1, trivial⟩, si_24, zv_24, zok_24, by_24, trivial, trivial, trivial, trivial, trivial, trivial, uns_24, trivial⟩
theorem uns_25 : (Try.prog.underlying 25).isSome = true := by kernel_rfl
theorem tok_25 : TOk Try.prog 25 { ti := some (true, 2), fi := [some (0, (false, 1)), some (1, (false, 1))], si := some [(0, 1), (1, 1)], zv := some (.agg [.nils, .nils]), zok := some 2, by' := some 48, un := true } := ⟨ti_25, trivial, trivial, ⟨fi_25_0, fi_25_1, trivial⟩, si_25, zv_25, zok_25, by_25, trivial, trivial, trivial, trivial, trivial, trivial, uns_25, trivial⟩
theorem uns_26 : (Try.prog.underlying 26).isSome = true := by kernel_rfl
theorem tok_26 : TOk Try.prog 26 { ti := some (false, 1), ei := some (3, 1), zv := some (.nils), zok := some 1, by' := some 24, sli := true, ni := true, un := true } := ⟨ti_26, ei_26, trivial, trivial, trivial, zv_26, zok_26, by_26, trivial, trivial, isSli_26, trivial, trivial, notInt_26, uns_26, trivial⟩
theorem uns_27 : (Try.prog.underlying 27).isSome = true := by kernel_rfl
theorem tok_27 : TOk Try.prog 27 { ti := some (false, 1), zv := some (.int .i64 0), zok := some 1, by' := some 8, ik := some .i64, un := true } := ⟨ti_27, trivial, trivial, trivial, trivial, zv_27, zok_27, by_27, intK_27, trivial, trivial, trivial, trivial, trivial, uns_27, trivial⟩
theorem uns_29 : (Try.prog.underlying 29).isSome = true := by kernel_rfl
theorem tok_29 : TOk Try.prog 29 { ti := some (false, 1), zv := some (.any), zok := some 1, by' := some 8, un := true } := ⟨ti_29, trivial, trivial, trivial, trivial, zv_29, zok_29, by_29, trivial, trivial, trivial, trivial, trivial, trivial, uns_29, trivial⟩
theorem uns_30 : (Try.prog.underlying 30).isSome = true := by kernel_rfl
theorem tok_30 : TOk Try.prog 30 { ti := some (false, 1), zv := some (.any), zok := some 1, by' := some 8, un := true } := ⟨ti_30, trivial, trivial, trivial, trivial, zv_30, zok_30, by_30, trivial, trivial, trivial, trivial, trivial, trivial, uns_30, trivial⟩
theorem uns_31 : (Try.prog.underlying 31).isSome = true := by kernel_rfl
theorem tok_31 : TOk Try.prog 31 { ti := some (false, 1), zv := some (.any), zok := some 1, by' := some 8, un := true } := ⟨ti_31, trivial, trivial, trivial, trivial, zv_31, zok_31, by_31, trivial, trivial, trivial, trivial, trivial, trivial, uns_31, trivial⟩
theorem uns_33 : (Try.prog.underlying 33).isSome = true := by kernel_rfl
theorem tok_33 : TOk Try.prog 33 { ti := some (false, 1), zv := some (.any), zok := some 1, by' := some 8, un := true } := ⟨ti_33, trivial, trivial, trivial, trivial, zv_33, zok_33, by_33, trivial, trivial, trivial, trivial, trivial, trivial, uns_33, trivial⟩
theorem uns_34 : (Try.prog.underlying 34).isSome = true := by kernel_rfl
theorem tok_34 : TOk Try.prog 34 { ti := some (false, 1), zv := some (.any), zok := some 1, by' := some 8, un := true } := ⟨ti_34, trivial, trivial, trivial, trivial, zv_34, zok_34, by_34, trivial, trivial, trivial, trivial, trivial, trivial, uns_34, trivial⟩
theorem uns_35 : (Try.prog.underlying 35).isSome = true := by kernel_rfl
theorem tok_35 : TOk Try.prog 35 { ti := some (false, 1), ei := some (116, 3), zv := some (.nils), zok := some 1, by' := some 24, sli := true, ni := true, un := true } := ⟨ti_35, ei_35, trivial, trivial, trivial, zv_35, zok_35, by_35, trivial, trivial, isSli_35, trivial, trivial, notInt_35, uns_35, trivial⟩
theorem uns_36 : (Try.prog.underlying 36).isSome = true := by kernel_rfl
theorem tok_36 : TOk Try.prog 36 { ti := some (false, 1), ei := some (85, 4), zv := some (.nils), zok := some 1, by' := some 24, sli := true, ni := true, un := true } := ⟨ti_36, ei_36, trivial, trivial, trivial, zv_36, zok_36, by_36, trivial, trivial, isSli_36, trivial, trivial, notInt_36, uns_36, trivial⟩
theorem uns_38 : (Try.prog.underlying 38).isSome = true := by kernel_rfl
theorem tok_38 : TOk Try.prog 38 { ti := some (false, 1), zv := some (.any), zok := some 1, by' := some 8, un := true } := ⟨ti_38, trivial, trivial, trivial, trivial, zv_38, zok_38, by_38, trivial, trivial, trivial, trivial, trivial, trivial, uns_38, trivial⟩
theorem uns_39 : (Try.prog.underlying 39).isSome = true := by kernel_rfl
theorem tok_39 : TOk Try.prog 39 { ti := some (false, 1), zv := some (.any), zok := some 1, by' := some 8, un := true } := ⟨ti_39, trivial, trivial, trivial, trivial, zv_39, zok_39, by_39, trivial, trivial, trivial, trivial, trivial, trivial, uns_39, trivial⟩
theorem uns_40 : (Try.prog.underlying 40).isSome = true := by kernel_rfl
theorem tok_40 : TOk Try.prog 40 { ti := some (false, 1), ei := some (42, 3), zv := some (.nils), zok := some 1, by' := some 24, sli := true, ni := true, un := true } := ⟨ti_40, ei_40, trivial, trivial, trivial, zv_40, zok_40, by_40, trivial, trivial, isSli_40, trivial, trivial, notInt_40, uns_40, trivial⟩
theorem uns_41 : (Try.prog.underlying 41).isSome = true := by kernel_rfl
theorem tok_41 : TOk Try.prog 41 { ti := some (true, 3), fi := [some (0, (false, 1)), some (1, (false, 1)), some (2, (false, 1))], si := some [(0, 1), (1, 1), (2, 1)], zv := some (.agg [.int .i64 0, .int .i64 0, .nils]), zok := some 3, by' := some 40, un := true } := ⟨ti_41, trivial, trivial, ⟨fi_41_0, fi_41_1, fi_41_2, trivial⟩, si_41, zv_41, zok_41, by_41, trivial, trivial, trivial, trivial, trivial, trivial, uns_41, trivial⟩
theorem uns_42 : (Try.prog.underlying 42).isSome = true := by kernel_rfl
theorem tok_42 : TOk Try.prog 42 { ti := some (true, 3), fi := [some (0, (false, 1)), some (1, (false, 1)), some (2, (false, 1))], si := some [(0, 1), (1, 1), (2, 1)], zv := some (.agg [.int .i64 0, .int .i64 0, .nils]), zok := some 3, by' := some 40, un := true } := ⟨ti_42, trivial, trivial, ⟨fi_42_0, fi_42_1, fi_42_2, trivial⟩, si_42, zv_42, zok_42, by_42, trivial, trivial, trivial, trivial, trivial, trivial, uns_42, trivial⟩
theorem uns_43 : (Try.prog.underlying 43).isSome = true := by kernel_rfl
theorem tok_43 : TOk Try.prog 43 { ti := some (false, 1), zv := some (.any), zok := some 1, by' := some 8, un := true } := ⟨ti_43, trivial, trivial, trivial, trivial, zv_43, zok_43, by_43, trivial, trivial, trivial, trivial, trivial, trivial, uns_43, trivial⟩
theorem uns_44 : (Try.prog.underlying 44).isSome = true := by kernel_rfl
theorem tok_44 : TOk Try.prog 44 { ti := some (false, 1), zv := some (.any), zok := some 1, by' := some 8, un := true } := ⟨ti_44, trivial, trivial, trivial, trivial, zv_44, zok_44, by_44, trivial, trivial, trivial, trivial, trivial, trivial, uns_44, trivial⟩
theorem uns_46 : (Try.prog.underlying 46).isSome = true := by kernel_rfl
theorem tok_46 : TOk Try.prog 46 { ti := some (false, 1), zv := some (.any), zok := some 1, by' := some 8, un := true } := ⟨ti_46, trivial, trivial, trivial, trivial, zv_46, zok_46, by_46, trivial, trivial, trivial, trivial, trivial, trivial, uns_46, trivial⟩
theorem uns_48 : (Try.prog.underlying 48).isSome = true := by kernel_rfl
theorem tok_48 : TOk Try.prog 48 { ti := some (false, 1), zv := some (.any), zok := some 1, by' := some 8, un := true } := ⟨ti_48, trivial, trivial, trivial, trivial, zv_48, zok_48, by_48, trivial, trivial, trivial, trivial, trivial, trivial, uns_48, trivial⟩
theorem uns_49 : (Try.prog.underlying 49).isSome = true := by kernel_rfl
theorem tok_49 : TOk Try.prog 49 { ti := some (false, 1), zv := some (.any), zok := some 1, by' := some 8, un := true } := ⟨ti_49, trivial, trivial, trivial, trivial, zv_49, zok_49, by_49, trivial, trivial, trivial, trivial, trivial, trivial, uns_49, trivial⟩
theorem uns_50 : (Try.prog.underlying 50).isSome = true := by kernel_rfl
theorem tok_50 : TOk Try.prog 50 { ti := some (false, 1), zv := some (.any), zok := some 1, by' := some 8, un := true } := ⟨ti_50, trivial, trivial, trivial, trivial, zv_50, zok_50, by_50, trivial, trivial, trivial, trivial, trivial, trivial, uns_50, trivial⟩
theorem uns_51 : (Try.prog.underlying 51).isSome = true := by kernel_rfl
theorem tok_51 : TOk Try.prog 51 { ti := some (false, 1), ei := some (102, 6), zv := some (.nils), zok := some 1, by' := some 24, sli := true, ni := true, un := true } := ⟨ti_51, ei_51, trivial, trivial, trivial, zv_51, zok_51, by_51, trivial, trivial, isSli_51, trivial, trivial, notInt_51, uns_51, trivial⟩
theorem uns_53 : (Try.prog.underlying 53).isSome = true := by kernel_rfl
theorem tok_53 : TOk Try.prog 53 { ti := some (false, 1), zv := some (.any), zok := some 1, by' := some 8, un := true } := ⟨ti_53, trivial, trivial, trivial, trivial, zv_53, zok_53, by_53, trivial, trivial, trivial, trivial, trivial, trivial, uns_53, trivial⟩
theorem uns_54 : (Try.prog.underlying 54).isSome = true := by kernel_rfl
theorem tok_54 : TOk Try.prog 54 { ti := some (false, 1), zv := some (.any), zok := some 1, by' := some 8, un := true } := ⟨ti_54, trivial, trivial, trivial, trivial, zv_54, zok_54, by_54, trivial, trivial, trivial, trivial, trivial, trivial, uns_54, trivial⟩
theorem uns_55 : (Try.prog.underlying 55).isSome = true := by kernel_rfl
theorem tok_55 : TOk Try.prog 55 { ti := some (false, 1), zv := some (.any), zok := some 1, by' := some 8, un := true } := ⟨ti_55, trivial, trivial, trivial, trivial, zv_55, zok_55, by_55, trivial, trivial, trivial, trivial, trivial, trivial, uns_55, trivial⟩
theorem uns_57 : (Try.prog.underlying 57).isSome = true := by kernel_rfl
theorem tok_57 : TOk Try.prog 57 { ti := some (false, 1), zv := some (.any), zok := some 1, by' := some 8, un := true } := ⟨ti_57, trivial, trivial, trivial, trivial, zv_57, zok_57, by_57, trivial, trivial, trivial, trivial, trivial, trivial, uns_57, trivial⟩
theorem uns_58 : (Try.prog.underlying 58).isSome = true := by kernel_rfl
theorem tok_58 : TOk Try.prog 58 { ti := some (false, 1), zv := some (.any), zok := some 1, by' := some 8, un := true } := ⟨ti_58, trivial, trivial, trivial, trivial, zv_58, zok_58, by_58, trivial, trivial, trivial, trivial, trivial, trivial, uns_58, trivial⟩
theorem uns_59 : (Try.prog.underlying 59).isSome = true := by kernel_rfl
theorem tok_59 : TOk Try.prog 59 { ti := some (true, 2), fi := [some (0, (false, 1)), some (1, (false, 1))], si := some [(0, 1), (1, 1)], zv := some (.agg [.int .i64 0, .nils]), zok := some 2, by' := some 32, un := true } := ⟨ti_59, trivial, trivial, ⟨fi_59_0, fi_59_1, trivial⟩, si_59, zv_59, zok_59, by_59, trivial, trivial, trivial, trivial, trivial, trivial, uns_59, trivial⟩
theorem uns_60 : (Try.prog.underlying 60).isSome = true := by kernel_rfl
theorem tok_60 : TOk Try.prog 60 { ti := some (true, 2), fi := [some (0, (false, 1)), some (1, (false, 1))], si := some [(0, 1), (1, 1)], zv := some (.agg [.int .i64 0, .nils]), zok := some 2, by' := some 32, un := true } := ⟨ti_60, trivial, trivial, ⟨fi_60_0, fi_60_1, trivial⟩, si_60, zv_60, zok_60, by_60, trivial, trivial, trivial, trivial, trivial, trivial, uns_60, trivial⟩
theorem uns_61 : (Try.prog.underlying 61).isSome = true := by kernel_rfl
theorem tok_61 : TOk Try.prog 61 { ti := some (false, 1), ei := some (60, 2), zv := some (.nils), zok := some 1, by' := some 24, sli := true, ni := true, un := true } := ⟨ti_61, ei_61, trivial, trivial, trivial, zv_61, zok_61, by_61, trivial, trivial, isSli_61, trivial, trivial, notInt_61, uns_61, trivial⟩
theorem uns_62 : (Try.prog.underlying 62).isSome = true := by kernel_rfl
theorem tok_62 : TOk Try.prog 62 { ti := some (false, 1), zv := some (.any), zok := some 1, by' := some 8, un := true } := ⟨ti_62, trivial, trivial, trivial, trivial, zv_62, zok_62, by_62, trivial, trivial, trivial, trivial, trivial, trivial, uns_62, trivial⟩
theorem uns_63 : (Try.prog.underlying 63).isSome = true := by kernel_rfl
theorem tok_63 : TOk Try.prog 63 { ti := some (false, 1), ei := some (69, 2), zv := some (.nils), zok := some 1, by' := some 24, sli := true, ni := true, un := true } := ⟨ti_63, ei_63, trivial, trivial, trivial, zv_63, zok_63, by_63, trivial, trivial, isSli_63, trivial, trivial, notInt_63, uns_63, trivial⟩
theorem uns_64 : (Try.prog.underlying 64).isSome = true := by kernel_rfl
theorem tok_64 : TOk Try.prog 64 { ti := some (false, 1), ei := some (110, 8), zv := some (.nils), zok := some 1, by' := some 24, sli := true, ni := true, un := true } := ⟨ti_64, ei_64, trivial, trivial, trivial, zv_64, zok_64, by_64, trivial, trivial, isSli_64, trivial, trivial, notInt_64, uns_64, trivial⟩
theorem uns_66 : (Try.prog.underlying 66).isSome = true := by kernel_rfl
theorem tok_66 : TOk Try.prog 66 { ti := some (false, 1), zv := some (.any), zok := some 1, by' := some 8, un := true } := ⟨ti_66, trivial, trivial, trivial, trivial, zv_66, zok_66, by_66, trivial, trivial, trivial, trivial, trivial, trivial, uns_66, trivial⟩
theorem uns_67 : (Try.prog.underlying 67).isSome = true := by kernel_rfl
theorem tok_67 : TOk Try.prog 67 { ti := some (false, 1), zv := some (.any), zok := some 1, by' := some 8, un := true } := ⟨ti_67, trivial, trivial, trivial, trivial, zv_67, zok_67, by_67, trivial, trivial, trivial, trivial, trivial, trivial, uns_67, trivial⟩
theorem uns_68 : (Try.prog.underlying 68).isSome = true := by kernel_rfl
theorem tok_68 : TOk Try.prog 68 { ti := some (true, 2), fi := [some (0, (false, 1)), some (1, (false, 1))], si := some [(0, 1), (1, 1)], zv := some (.agg [.int .i64 0, .int .i64 0]), zok := some 2, by' := some 16, un := true } := ⟨ti_68, trivial, trivial, ⟨fi_68_0, fi_68_1, trivial⟩, si_68, zv_68, zok_68, by_68, trivial, trivial, trivial, trivial, trivial, trivial, uns_68, trivial⟩
theorem sq_69 : SQ Try.prog 69 = some [.i .i64, .i .i64] := by kernel_rfl
theorem uns_69 : (Try.prog.underlying 69).isSome = true := by kernel_rfl
theorem tok_69 : TOk Try.prog 69 { ti := some (true, 2), fi := [some (0, (false, 1)), some (1, (false, 1))], si := some [(0, 1), (1, 1)], zv := some (.agg [.int .i64 0, .int .i64 0]), zok := some 2, by' := some 16, un := true, sq := some [.i .i64, .i .i64] } := ⟨ti_69, trivial, trivial, ⟨fi_69_0, fi_69_1, trivial⟩, si_69, zv_69, zok_69, by_69, trivial, trivial, trivial, trivial, trivial, trivial, uns_69, sq_69⟩
theorem uns_70 : (Try.prog.underlying 70).isSome = true := by kernel_rfl
theorem tok_70 : TOk Try.prog 70 { ti := some (false, 1), zv := some (.any), zok := some 1, by' := some 8, un := true } := ⟨ti_70, trivial, trivial, trivial, trivial, zv_70, zok_70, by_70, trivial, trivial, trivial, trivial, trivial, trivial, uns_70, trivial⟩
theorem uns_71 : (Try.prog.underlying 71).isSome = true := by kernel_rfl
theorem tok_71 : TOk Try.prog 71 { ti := some (false, 1), zv := some (.any), zok := some 1, by' := some 8, un := true } := ⟨ti_71, trivial, trivial, trivial, trivial, zv_71, zok_71, by_71, trivial, trivial, trivial, trivial, trivial, trivial, uns_71, trivial⟩
theorem uns_72 : (Try.prog.underlying 72).isSome = true := by kernel_rfl
theorem tok_72 : TOk Try.prog 72 { ti := some (true, 2), fi := [some (0, (false, 1)), some (1, (false, 1))], si := some [(0, 1), (1, 1)], zv := some (.agg [.nils, .nils]), zok := some 2, by' := some 48, un := true } := ⟨ti_72, trivial, trivial, ⟨fi_72_0, fi_72_1, trivial⟩, si_72, zv_72, zok_72, by_72, trivial, trivial, trivial, trivial, trivial, trivial, uns_72, trivial⟩
theorem uns_73 : (Try.prog.underlying 73).isSome = true := by kernel_rfl
theorem tok_73 : TOk Try.prog 73 { ti := some (true, 2), fi := [some (0, (false, 1)), some (1, (false, 1))], si := some [(0, 1), (1, 1)], zv := some (.agg [.nils, .nils]), zok := some 2, by' := some 48, un := true } := ⟨ti_73, trivial, trivial, ⟨fi_73_0, fi_73_1, trivial⟩, si_73, zv_73, zok_73, by_73, trivial, trivial, trivial, trivial, trivial, trivial, uns_73, trivial⟩
theorem uns_74 : (Try.prog.underlying 74).isSome = true := by kernel_rfl
theorem tok_74 : TOk Try.prog 74 { ti := some (false, 1), zv := some (.any), zok := some 1, by' := some 8, un := true } := ⟨ti_74, trivial, trivial, trivial, trivial, zv_74, zok_74, by_74, trivial, trivial, trivial, trivial, trivial, trivial, uns_74, trivial⟩
theorem uns_75 : (Try.prog.underlying 75).isSome = true := by kernel_rfl
theorem tok_75 : TOk Try.prog 75 { ti := some (false, 1), ei := some (23, 1), zv := some (.nils), zok := some 1, by' := some 24, sli := true, ni := true, un := true } := ⟨ti_75, ei_75, trivial, trivial, trivial, zv_75, zok_75, by_75, trivial, trivial, isSli_75, trivial, trivial, notInt_75, uns_75, trivial⟩
theorem uns_76 : (Try.prog.underlying 76).isSome = true := by kernel_rfl
theorem tok_76 : TOk Try.prog 76 { ti := some (false, 1), zv := some (.any), zok := some 1, by' := some 8, un := true } := ⟨ti_76, trivial, trivial, trivial, trivial, zv_76, zok_76, by_76, trivial, trivial, trivial, trivial, trivial, trivial, uns_76, trivial⟩
theorem uns_77 : (Try.prog.underlying 77).isSome = true := by kernel_rfl
theorem tok_77 : TOk Try.prog 77 { ti := some (false, 1), zv := some (.any), zok := some 1, by' := some 8, un := true } := ⟨ti_77, trivial, trivial, trivial, trivial, zv_77, zok_77, by_77, trivial, trivial, trivial, trivial, trivial, trivial, uns_77, trivial⟩
theorem uns_78 : (Try.prog.underlying 78).isSome = true := by kernel_rfl
theorem tok_78 : TOk Try.prog 78 { ti := some (false, 1), zv := some (.nilp), zok := some 1, by' := some 8, ptr := true, un := true } := ⟨ti_78, trivial, trivial, trivial, trivial, zv_78, zok_78, by_78, trivial, trivial, trivial, trivial, isPtr_78, trivial, uns_78, trivial⟩
theorem uns_79 : (Try.prog.underlying 79).isSome = true := by kernel_rfl
theorem tok_79 : TOk Try.prog 79 { ti := some (true, 2), fi := [some (0, (false, 1)), some (1, (false, 1))], si := some [(0, 1), (1, 1)], zv := some (.agg [.nils, .nils]), zok := some 2, by' := some 48, un := true } := ⟨ti_79, trivial, trivial, ⟨fi_79_0, fi_79_1, trivial⟩, si_79, zv_79, zok_79, by_79, trivial, trivial, trivial, trivial, trivial, trivial, uns_79, trivial⟩
theorem uns_80 : (Try.prog.underlying 80).isSome = true := by kernel_rfl
theorem tok_80 : TOk Try.prog 80 { ti := some (true, 2), fi := [some (0, (false, 1)), some (1, (false, 1))], si := some [(0, 1), (1, 1)], zv := some (.agg [.nils, .nils]), zok := some 2, by' := some 48, un := true } := ⟨ti_80, trivial, trivial, ⟨fi_80_0, fi_80_1, trivial⟩, si_80, zv_80, zok_80, by_80, trivial, trivial, trivial, trivial, trivial, trivial, uns_80, trivial⟩
theorem uns_81 : (Try.prog.underlying 81).isSome = true := by kernel_rfl
theorem tok_81 : TOk Try.prog 81 { ti := some (false, 1), zv := some (.any), zok := some 1, by' := some 8, un := true } := ⟨ti_81, trivial, trivial, trivial, trivial, zv_81, zok_81, by_81, trivial, trivial, trivial, trivial, trivial, trivial, uns_81, trivial⟩
theorem uns_82 : (Try.prog.underlying 82).isSome = true := by kernel_rfl
theorem tok_82 : TOk Try.prog 82 { ti := some (false, 1), zv := some (.any), zok := some 1, by' := some 8, un := true } := ⟨ti_82, trivial, trivial, trivial, trivial, zv_82, zok_82, by_82, trivial, trivial, trivial, trivial, trivial, trivial, uns_82, trivial⟩
theorem uns_83 : (Try.prog.underlying 83).isSome = true := by kernel_rfl
theorem tok_83 : TOk Try.prog 83 { ti := some (false, 1), ei := some (122, 2), zv := some (.nils), zok := some 1, by' := some 24, sli := true, ni := true, un := true } := ⟨ti_83, ei_83, trivial, trivial, trivial, zv_83, zok_83, by_83, trivial, trivial, isSli_83, trivial, trivial, notInt_83, uns_83, trivial⟩
theorem uns_84 : (Try.prog.underlying 84).isSome = true := by kernel_rfl
theorem tok_84 : TOk Try.prog 84 { ti := some (true, 4), fi := [some (0, (false, 1)), some (1, (false, 1)), some (2, (false, 1)), some (3, (false, 1))], si := some [(0, 1), (1, 1), (2, 1), (3, 1)], zv := some (.agg [.str [], .nils, .str [], .nils]), zok := some 4, by' := some 80, un := true } := ⟨ti_84, trivial, trivial, ⟨fi_84_0, fi_84_1, fi_84_2, fi_84_3, trivial⟩, si_84, zv_84, zok_84, by_84, trivial, trivial, trivial, trivial, trivial, trivial, uns_84, trivial⟩
theorem uns_85 : (Try.prog.underlying 85).isSome = true := by kernel_rfl
theorem tok_85 : TOk Try.prog 85 { ti := some (true, 4), fi := [some (0, (false, 1)), some (1, (false, 1)), some (2, (false, 1)), some (3, (false, 1))], si := some [(0, 1), (1, 1), (2, 1), (3, 1)], zv := some (.agg [.str [], .nils, .str [], .nils]), zok := some 4, by' := some 80, un := true } := ⟨ti_85, trivial, trivial, ⟨fi_85_0, fi_85_1, fi_85_2, fi_85_3, trivial⟩, si_85, zv_85, zok_85, by_85, trivial, trivial, trivial, trivial, trivial, trivial, uns_85, trivial⟩
theorem uns_86 : (Try.prog.underlying 86).isSome = true := by kernel_rfl
theorem tok_86 : TOk Try.prog 86 { ti := some (false, 1), zv := some (.any), zok := some 1, by' := some 8, un := true } := ⟨ti_86, trivial, trivial, trivial, trivial, zv_86, zok_86, by_86, trivial, trivial, trivial, trivial, trivial, trivial, uns_86, trivial⟩
theorem uns_87 : (Try.prog.underlying 87).isSome = true := by kernel_rfl
theorem tok_87 : TOk Try.prog 87 { ti := some (false, 1), zv := some (.any), zok := some 1, by' := some 8, un := true } := ⟨ti_87, trivial, trivial, trivial, trivial, zv_87, zok_87, by_87, trivial, trivial, trivial, trivial, trivial, trivial, uns_87, trivial⟩
theorem uns_88 : (Try.prog.underlying 88).isSome = true := by kernel_rfl
theorem tok_88 : TOk Try.prog 88 { ti := some (false, 1), zv := some (.nilp), zok := some 1, by' := some 8, ptr := true, un := true } := ⟨ti_88, trivial, trivial, trivial, trivial, zv_88, zok_88, by_88, trivial, trivial, trivial, trivial, isPtr_88, trivial, uns_88, trivial⟩
theorem uns_89 : (Try.prog.underlying 89).isSome = true := by kernel_rfl
theorem tok_89 : TOk Try.prog 89 { ti := some (true, 2), fi := [some (0, (false, 1)), some (1, (false, 1))], si := some [(0, 1), (1, 1)], zv := some (.agg [.str [], .bool false]), zok := some 2, by' := some 24, un := true } := ⟨ti_89, trivial, trivial, ⟨fi_89_0, fi_89_1, trivial⟩, si_89, zv_89, zok_89, by_89, trivial, trivial, trivial, trivial, trivial, trivial, uns_89, trivial⟩
theorem sq_90 : SQ Try.prog 90 = some [.s, .b] := by kernel_rfl
theorem uns_90 : (Try.prog.underlying 90).isSome = true := by kernel_rfl
theorem tok_90 : TOk Try.prog 90 { ti := some (true, 2), fi := [some (0, (false, 1)), some (1, (false, 1))], si := some [(0, 1), (1, 1)], zv := some (.agg [.str [], .bool false]), zok := some 2, by' := some 24, un := true, sq := some [.s, .b] } := ⟨ti_90, trivial, trivial, ⟨fi_90_0, fi_90_1, trivial⟩, si_90, zv_90, zok_90, by_90, trivial, trivial, trivial, trivial, trivial, trivial, uns_90, sq_90⟩
theorem uns_91 : (Try.prog.underlying 91).isSome = true := by kernel_rfl
theorem tok_91 : TOk Try.prog 91 { ti := some (false, 1), zv := some (.any), zok := some 1, by' := some 8, un := true } := ⟨ti_91, trivial, trivial, trivial, trivial, zv_91, zok_91, by_91, trivial, trivial, trivial, trivial, trivial, trivial, uns_91, trivial⟩
theorem uns_93 : (Try.prog.underlying 93).isSome = true := by kernel_rfl
theorem tok_93 : TOk Try.prog 93 { ti := some (false, 1), zv := some (.any), zok := some 1, by' := some 8, un := true } := ⟨ti_93, trivial, trivial, trivial, trivial, zv_93, zok_93, by_93, trivial, trivial, trivial, trivial, trivial, trivial, uns_93, trivial⟩
theorem uns_95 : (Try.prog.underlying 95).isSome = true := by kernel_rfl
theorem tok_95 : TOk Try.prog 95 { ti := some (false, 1), zv := some (.any), zok := some 1, by' := some 8, un := true } := ⟨ti_95, trivial, trivial, trivial, trivial, zv_95, zok_95, by_95, trivial, trivial, trivial, trivial, trivial, trivial, uns_95, trivial⟩
theorem uns_96 : (Try.prog.underlying 96).isSome = true := by kernel_rfl
theorem tok_96 : TOk Try.prog 96 { ti := some (false, 1), ei := some (36, 1), zv := some (.nils), zok := some 1, by' := some 24, sli := true, ni := true, un := true } := ⟨ti_96, ei_96, trivial, trivial, trivial, zv_96, zok_96, by_96, trivial, trivial, isSli_96, trivial, trivial, notInt_96, uns_96, trivial⟩
theorem uns_98 : (Try.prog.underlying 98).isSome = true := by kernel_rfl
theorem tok_98 : TOk Try.prog 98 { ti := some (false, 1), zv := some (.any), zok := some 1, by' := some 8, un := true } := ⟨ti_98, trivial, trivial, trivial, trivial, zv_98, zok_98, by_98, trivial, trivial, trivial, trivial, trivial, trivial, uns_98, trivial⟩
theorem uns_99 : (Try.prog.underlying 99).isSome = true := by kernel_rfl
theorem tok_99 : TOk Try.prog 99 { ti := some (false, 1), zv := some (.any), zok := some 1, by' := some 8, un := true } := ⟨ti_99, trivial, trivial, trivial, trivial, zv_99, zok_99, by_99, trivial, trivial, trivial, trivial, trivial, trivial, uns_99, trivial⟩
theorem uns_100 : (Try.prog.underlying 100).isSome = true := by kernel_rfl
theorem tok_100 : TOk Try.prog 100 { ti := some (false, 1), zv := some (.any), zok := some 1, by' := some 8, un := true } := ⟨ti_100, trivial, trivial, trivial, trivial, zv_100, zok_100, by_100, trivial, trivial, trivial, trivial, trivial, trivial, uns_100, trivial⟩
theorem uns_101 : (Try.prog.underlying 101).isSome = true := by kernel_rfl
theorem tok_101 : TOk Try.prog 101 { ti := some (true, 6), fi := [some (0, (false, 1)), some (1, (false, 1)), some (2, (true, 4))], si := some [(0, 1), (1, 1), (2, 4)], zv := some (.agg [.int .i64 0, .nils, .str [], .nils, .str [], .nils]), zok := some 6, by' := some 112, un := true } := ⟨ti_101, trivial, trivial, ⟨fi_101_0, fi_101_1, fi_101_2, trivial⟩, si_101, zv_101, zok_101, by_101, trivial, trivial, trivial, trivial, trivial, trivial, uns_101, trivial⟩
theorem uns_102 : (Try.prog.underlying 102).isSome = true := by kernel_rfl
theorem tok_102 : TOk Try.prog 102 { ti := some (true, 6), fi := [some (0, (false, 1)), some (1, (false, 1)), some (2, (true, 4))], si := some [(0, 1), (1, 1), (2, 4)], zv := some (.agg [.int .i64 0, .nils, .str [], .nils, .str [], .nils]), zok := some 6, by' := some 112, un := true } := ⟨ti_102, trivial, trivial, ⟨fi_102_0, fi_102_1, fi_102_2, trivial⟩, si_102, zv_102, zok_102, by_102, trivial, trivial, trivial, trivial, trivial, trivial, uns_102, trivial⟩
theorem uns_104 : (Try.prog.underlying 104).isSome = true := by kernel_rfl
theorem tok_104 : TOk Try.prog 104 { ti := some (false, 1), zv := some (.any), zok := some 1, by' := some 8, un := true } := ⟨ti_104, trivial, trivial, trivial, trivial, zv_104, zok_104, by_104, trivial, trivial, trivial, trivial, trivial, trivial, uns_104, trivial⟩
theorem uns_105 : (Try.prog.underlying 105).isSome = true := by kernel_rfl
theorem tok_105 : TOk Try.prog 105 { ti := some (false, 1), zv := some (.any), zok := some 1, by' := some 8, un := true } := ⟨ti_105, trivial, trivial, trivial, trivial, zv_105, zok_105, by_105, trivial, trivial, trivial, trivial, trivial, trivial, uns_105, trivial⟩
theorem uns_106 : (Try.prog.underlying 106).isSome = true := by kernel_rfl
theorem tok_106 : TOk Try.prog 106 { ti := some (false, 1), zv := some (.any), zok := some 1, by' := some 8, un := true } := ⟨ti_106, trivial, trivial, trivial, trivial, zv_106, zok_106, by_106, trivial, trivial, trivial, trivial, trivial, trivial, uns_106, trivial⟩
theorem uns_107 : (Try.prog.underlying 107).isSome = true := by kernel_rfl
theorem tok_107 : TOk Try.prog 107 { ti := some (false, 1), zv := some (.any), zok := some 1, by' := some 8, un := true } := ⟨ti_107, trivial, trivial, trivial, trivial, zv_107, zok_107, by_107, trivial, trivial, trivial, trivial, trivial, trivial, uns_107, trivial⟩
theorem uns_108 : (Try.prog.underlying 108).isSome = true := by kernel_rfl
theorem tok_108 : TOk Try.prog 108 { ti := some (false, 1), zv := some (.any), zok := some 1, by' := some 8, un := true } := ⟨ti_108, trivial, trivial, trivial, trivial, zv_108, zok_108, by_108, trivial, trivial, trivial, trivial, trivial, trivial, uns_108, trivial⟩
theorem uns_109 : (Try.prog.underlying 109).isSome = true := by kernel_rfl
theorem tok_109 : TOk Try.prog 109 { ti := some (false, 1), zv := some (.any), zok := some 1, by' := some 8, un := true } := ⟨ti_109, trivial, trivial, trivial, trivial, zv_109, zok_109, by_109, trivial, trivial, trivial, trivial, trivial, trivial, uns_109, trivial⟩
theorem uns_110 : (Try.prog.underlying 110).isSome = true := by kernel_rfl
theorem tok_110 : TOk Try.prog 110 { ti := some (true, 8), ai := some (8, (false, 1)), zv := some (.agg [.int .i64 0, .int .i64 0, .int .i64 0, .int .i64 0, .int .i64 0, .int .i64 0, .int .i64 0, .int .i64 0]), zok := some 8, by' := some 64, un := true } := ⟨ti_110, trivial, ai_110, trivial, trivial, zv_110, zok_110, by_110, trivial, trivial, trivial, trivial, trivial, trivial, uns_110, trivial⟩
theorem uns_111 : (Try.prog.underlying 111).isSome = true := by kernel_rfl
theorem tok_111 : TOk Try.prog 111 { ti := some (false, 1), zv := some (.any), zok := some 1, by' := some 8, un := true } := ⟨ti_111, trivial, trivial, trivial, trivial, zv_111, zok_111, by_111, trivial, trivial, trivial, trivial, trivial, trivial, uns_111, trivial⟩
theorem uns_113 : (Try.prog.underlying 113).isSome = true := by kernel_rfl
theorem tok_113 : TOk Try.prog 113 { ti := some (false, 1), zv := some (.any), zok := some 1, by' := some 8, un := true } := ⟨ti_113, trivial, trivial, trivial, trivial, zv_113, zok_113, by_113, trivial, trivial, trivial, trivial, trivial, trivial, uns_113, trivial⟩
theorem uns_114 : (Try.prog.underlying 114).isSome = true := by kernel_rfl
theorem tok_114 : TOk Try.prog 114 { ti := some (false, 1), zv := some (.any), zok := some 1, by' := some 8, un := true } := ⟨ti_114, trivial, trivial, trivial, trivial, zv_114, zok_114, by_114, trivial, trivial, trivial, trivial, trivial, trivial, uns_114, trivial⟩
theorem uns_115 : (Try.prog.underlying 115).isSome = true := by kernel_rfl
theorem tok_115 : TOk Try.prog 115 { ti := some (true, 3), fi := [some (0, (false, 1)), some (1, (false, 1)), some (2, (false, 1))], si := some [(0, 1), (1, 1), (2, 1)], zv := some (.agg [.str [], .str [], .bool false]), zok := some 3, by' := some 40, un := true } := ⟨ti_115, trivial, trivial, ⟨fi_115_0, fi_115_1, fi_115_2, trivial⟩, si_115, zv_115, zok_115, by_115, trivial, trivial, trivial, trivial, trivial, trivial, uns_115, trivial⟩
theorem sq_116 : SQ Try.prog 116 = some [.s, .s, .b] := by kernel_rfl
theorem uns_116 : (Try.prog.underlying 116).isSome = true := by kernel_rfl
theorem tok_116 : TOk Try.prog 116 { ti := some (true, 3), fi := [some (0, (false, 1)), some (1, (false, 1)), some (2, (false, 1))], si := some [(0, 1), (1, 1), (2, 1)], zv := some (.agg [.str [], .str [], .bool false]), zok := some 3, by' := some 40, un := true, sq := some [.s, .s, .b] } := ⟨ti_116, trivial, trivial, ⟨fi_116_0, fi_116_1, fi_116_2, trivial⟩, si_116, zv_116, zok_116, by_116, trivial, trivial, trivial, trivial, trivial, trivial, uns_116, sq_116⟩
theorem uns_117 : (Try.prog.underlying 117).isSome = true := by kernel_rfl
theorem tok_117 : TOk Try.prog 117 { ti := some (false, 1), zv := some (.any), zok := some 1, by' := some 8, un := true } := ⟨ti_117, trivial, trivial, trivial, trivial, zv_117, zok_117, by_117, trivial, trivial, trivial, trivial, trivial, trivial, uns_117, trivial⟩
theorem uns_118 : (Try.prog.underlying 118).isSome = true := by kernel_rfl
theorem tok_118 : TOk Try.prog 118 { ti := some (false, 1), zv := some (.any), zok := some 1, by' := some 8, un := true } := ⟨ti_118, trivial, trivial, trivial, trivial, zv_118, zok_118, by_118, trivial, trivial, trivial, trivial, trivial, trivial, uns_118, trivial⟩
theorem uns_119 : (Try.prog.underlying 119).isSome = true := by kernel_rfl
theorem tok_119 : TOk Try.prog 119 { ti := some (false, 1), zv := some (.any), zok := some 1, by' := some 8, un := true } := ⟨ti_119, trivial, trivial, trivial, trivial, zv_119, zok_119, by_119, trivial, trivial, trivial, trivial, trivial, trivial, uns_119, trivial⟩
theorem uns_120 : (Try.prog.underlying 120).isSome = true := by kernel_rfl
theorem tok_120 : TOk Try.prog 120 { ti := some (false, 1), ei := some (9, 1), zv := some (.nils), zok := some 1, by' := some 24, sli := true, ni := true, un := true } := ⟨ti_120, ei_120, trivial, trivial, trivial, zv_120, zok_120, by_120, trivial, trivial, isSli_120, trivial, trivial, notInt_120, uns_120, trivial⟩
theorem uns_121 : (Try.prog.underlying 121).isSome = true := by kernel_rfl
theorem tok_121 : TOk Try.prog 121 { ti := some (true, 2), fi := [some (0, (false, 1)), some (1, (false, 1))], si := some [(0, 1), (1, 1)], zv := some (.agg [.str [], .str []]), zok := some 2, by' := some 32, un := true } := ⟨ti_121, trivial, trivial, ⟨fi_121_0, fi_121_1, trivial⟩, si_121, zv_121, zok_121, by_121, trivial, trivial, trivial, trivial, trivial, trivial, uns_121, trivial⟩
theorem sq_122 : SQ Try.prog 122 = some [.s, .s] := by kernel_rfl
theorem uns_122 : (Try.prog.underlying 122).isSome = true := by kernel_rfl
theorem tok_122 : TOk Try.prog 122 { ti := some (true, 2), fi := [some (0, (false, 1)), some (1, (false, 1))], si := some [(0, 1), (1, 1)], zv := some (.agg [.str [], .str []]), zok := some 2, by' := some 32, un := true, sq := some [.s, .s] } := ⟨ti_122, trivial, trivial, ⟨fi_122_0, fi_122_1, trivial⟩, si_122, zv_122, zok_122, by_122, trivial, trivial, trivial, trivial, trivial, trivial, uns_122, sq_122⟩
theorem uns_123 : (Try.prog.underlying 123).isSome = true := by kernel_rfl
theorem tok_123 : TOk Try.prog 123 { ti := some (false, 1), zv := some (.any), zok := some 1, by' := some 8, un := true } := ⟨ti_123, trivial, trivial, trivial, trivial, zv_123, zok_123, by_123, trivial, trivial, trivial, trivial, trivial, trivial, uns_123, trivial⟩
theorem uns_124 : (Try.prog.underlying 124).isSome = true := by kernel_rfl
theorem tok_124 : TOk Try.prog 124 { ti := some (false, 1), zv := some (.any), zok := some 1, by' := some 8, un := true } := ⟨ti_124, trivial, trivial, trivial, trivial, zv_124, zok_124, by_124, trivial, trivial, trivial, trivial, trivial, trivial, uns_124, trivial⟩
theorem uns_125 : (Try.prog.underlying 125).isSome = true := by kernel_rfl
theorem tok_125 : TOk Try.prog 125 { ti := some (false, 1), ei := some (5, 1), zv := some (.nils), zok := some 1, by' := some 24, sli := true, ni := true, un := true } := ⟨ti_125, ei_125, trivial, trivial, trivial, zv_125, zok_125, by_125, trivial, trivial, isSli_125, trivial, trivial, notInt_125, uns_125, trivial⟩
theorem uns_126 : (Try.prog.underlying 126).isSome = true := by kernel_rfl
theorem tok_126 : TOk Try.prog 126 { ti := some (false, 1), zv := some (.any), zok := some 1, by' := some 8, un := true } := ⟨ti_126, trivial, trivial, trivial, trivial, zv_126, zok_126, by_126, trivial, trivial, trivial, trivial, trivial, trivial, uns_126, trivial⟩
theorem uns_127 : (Try.prog.underlying 127).isSome = true := by kernel_rfl
theorem tok_127 : TOk Try.prog 127 { ti := some (false, 1), zv := some (.any), zok := some 1, by' := some 8, un := true } := ⟨ti_127, trivial, trivial, trivial, trivial, zv_127, zok_127, by_127, trivial, trivial, trivial, trivial, trivial, trivial, uns_127, trivial⟩
theorem uns_128 : (Try.prog.underlying 128).isSome = true := by kernel_rfl
theorem tok_128 : TOk Try.prog 128 { ti := some (false, 1), zv := some (.nilp), zok := some 1, by' := some 8, ptr := true, un := true } := ⟨ti_128, trivial, trivial, trivial, trivial, zv_128, zok_128, by_128, trivial, trivial, trivial, trivial, isPtr_128, trivial, uns_128, trivial⟩
theorem uns_129 : (Try.prog.underlying 129).isSome = true := by kernel_rfl
theorem tok_129 : TOk Try.prog 129 { ti := some (false, 1), zv := some (.any), zok := some 1, by' := some 8, un := true } := ⟨ti_129, trivial, trivial, trivial, trivial, zv_129, zok_129, by_129, trivial, trivial, trivial, trivial, trivial, trivial, uns_129, trivial⟩
theorem uns_130 : (Try.prog.underlying 130).isSome = true := by kernel_rfl
theorem tok_130 : TOk Try.prog 130 { ti := some (false, 1), zv := some (.any), zok := some 1, by' := some 8, un := true } := ⟨ti_130, trivial, trivial, trivial, trivial, zv_130, zok_130, by_130, trivial, trivial, trivial, trivial, trivial, trivial, uns_130, trivial⟩
theorem uns_132 : (Try.prog.underlying 132).isSome = true := by kernel_rfl
theorem tok_132 : TOk Try.prog 132 { ti := some (false, 1), zv := some (.any), zok := some 1, by' := some 8, un := true } := ⟨ti_132, trivial, trivial, trivial, trivial, zv_132, zok_132, by_132, trivial, trivial, trivial, trivial, trivial, trivial, uns_132, trivial⟩
theorem uns_133 : (Try.prog.underlying 133).isSome = true := by kernel_rfl
theorem tok_133 : TOk Try.prog 133 { ti := some (false, 1), zv := some (.any), zok := some 1, by' := some 8, un := true } := ⟨ti_133, trivial, trivial, trivial, trivial, zv_133, zok_133, by_133, trivial, trivial, trivial, trivial, trivial, trivial, uns_133, trivial⟩
theorem uns_135 : (Try.prog.underlying 135).isSome = true := by kernel_rfl
theorem tok_135 : TOk Try.prog 135 { ti := some (false, 1), zv := some (.any), zok := some 1, by' := some 8, un := true } := ⟨ti_135, trivial, trivial, trivial, trivial, zv_135, zok_135, by_135, trivial, trivial, trivial, trivial, trivial, trivial, uns_135, trivial⟩
theorem uns_136 : (Try.prog.underlying 136).isSome = true := by kernel_rfl
theorem tok_136 : TOk Try.prog 136 { ti := some (false, 1), zv := some (.any), zok := some 1, by' := some 8, un := true } := ⟨ti_136, trivial, trivial, trivial, trivial, zv_136, zok_136, by_136, trivial, trivial, trivial, trivial, trivial, trivial, uns_136, trivial⟩
theorem uns_137 : (Try.prog.underlying 137).isSome = true := by kernel_rfl
theorem tok_137 : TOk Try.prog 137 { ti := some (false, 1), zv := some (.any), zok := some 1, by' := some 8, un := true } := ⟨ti_137, trivial, trivial, trivial, trivial, zv_137, zok_137, by_137, trivial, trivial, trivial, trivial, trivial, trivial, uns_137, trivial⟩
theorem uns_138 : (Try.prog.underlying 138).isSome = true := by kernel_rfl
theorem tok_138 : TOk Try.prog 138 { ti := some (false, 1), zv := some (.any), zok := some 1, by' := some 8, un := true } := ⟨ti_138, trivial, trivial, trivial, trivial, zv_138, zok_138, by_138, trivial, trivial, trivial, trivial, trivial, trivial, uns_138, trivial⟩
theorem uns_139 : (Try.prog.underlying 139).isSome = true := by kernel_rfl
theorem tok_139 : TOk Try.prog 139 { ti := some (false, 1), zv := some (.any), zok := some 1, by' := some 8, un := true } := ⟨ti_139, trivial, trivial, trivial, trivial, zv_139, zok_139, by_139, trivial, trivial, trivial, trivial, trivial, trivial, uns_139, trivial⟩
theorem uns_140 : (Try.prog.underlying 140).isSome = true := by kernel_rfl
theorem tok_140 : TOk Try.prog 140 { ti := some (false, 1), zv := some (.any), zok := some 1, by' := some 8, un := true } := ⟨ti_140, trivial, trivial, trivial, trivial, zv_140, zok_140, by_140, trivial, trivial, trivial, trivial, trivial, trivial, uns_140, trivial⟩
theorem uns_141 : (Try.prog.underlying 141).isSome = true := by kernel_rfl
theorem tok_141 : TOk Try.prog 141 { ti := some (false, 1), zv := some (.any), zok := some 1, by' := some 8, un := true } := ⟨ti_141, trivial, trivial, trivial, trivial, zv_141, zok_141, by_141, trivial, trivial, trivial, trivial, trivial, trivial, uns_141, trivial⟩
theorem uns_142 : (Try.prog.underlying 142).isSome = true := by kernel_rfl
theorem tok_142 : TOk Try.prog 142 { ti := some (false, 1), zv := some (.any), zok := some 1, by' := some 8, un := true } := ⟨ti_142, trivial, trivial, trivial, trivial, zv_142, zok_142, by_142, trivial, trivial, trivial, trivial, trivial, trivial, uns_142, trivial⟩
theorem uns_143 : (Try.prog.underlying 143).isSome = true := by kernel_rfl
theorem tok_143 : TOk Try.prog 143 { ti := some (false, 1), zv := some (.any), zok := some 1, by' := some 8, un := true } := ⟨ti_143, trivial, trivial, trivial, trivial, zv_143, zok_143, by_143, trivial, trivial, trivial, trivial, trivial, trivial, uns_143, trivial⟩
theorem uns_144 : (Try.prog.underlying 144).isSome = true := by kernel_rfl
theorem tok_144 : TOk Try.prog 144 { ti := some (false, 1), zv := some (.any), zok := some 1, by' := some 8, un := true } := ⟨ti_144, trivial, trivial, trivial, trivial, zv_144, zok_144, by_144, trivial, trivial, trivial, trivial, trivial, trivial, uns_144, trivial⟩
theorem uns_145 : (Try.prog.underlying 145).isSome = true := by kernel_rfl
theorem tok_145 : TOk Try.prog 145 { ti := some (false, 1), zv := some (.nilp), zok := some 1, by' := some 8, ptr := true, un := true } := ⟨ti_145, trivial, trivial, trivial, trivial, zv_145, zok_145, by_145, trivial, trivial, trivial, trivial, isPtr_145, trivial, uns_145, trivial⟩
theorem uns_146 : (Try.prog.underlying 146).isSome = true := by kernel_rfl
theorem tok_146 : TOk Try.prog 146 { ti := some (true, 2), fi := [some (0, (false, 1)), some (1, (false, 1))], si := some [(0, 1), (1, 1)], zv := some (.agg [.nilp, .nils]), zok := some 2, by' := some 32, un := true } := ⟨ti_146, trivial, trivial, ⟨fi_146_0, fi_146_1, trivial⟩, si_146, zv_146, zok_146, by_146, trivial, trivial, trivial, trivial, trivial, trivial, uns_146, trivial⟩
theorem uns_147 : (Try.prog.underlying 147).isSome = true := by kernel_rfl
theorem tok_147 : TOk Try.prog 147 { ti := some (true, 2), fi := [some (0, (false, 1)), some (1, (false, 1))], si := some [(0, 1), (1, 1)], zv := some (.agg [.nilp, .nils]), zok := some 2, by' := some 32, un := true } := ⟨ti_147, trivial, trivial, ⟨fi_147_0, fi_147_1, trivial⟩, si_147, zv_147, zok_147, by_147, trivial, trivial, trivial, trivial, trivial, trivial, uns_147, trivial⟩
theorem uns_148 : (Try.prog.underlying 148).isSome = true := by kernel_rfl
theorem tok_148 : TOk Try.prog 148 { ti := some (false, 1), zv := some (.any), zok := some 1, by' := some 8, un := true } := ⟨ti_148, trivial, trivial, trivial, trivial, zv_148, zok_148, by_148, trivial, trivial, trivial, trivial, trivial, trivial, uns_148, trivial⟩
theorem uns_152 : (Try.prog.underlying 152).isSome = true := by kernel_rfl
theorem tok_152 : TOk Try.prog 152 { ti := some (false, 1), zv := some (.any), zok := some 1, by' := some 8, un := true } := ⟨ti_152, trivial, trivial, trivial, trivial, zv_152, zok_152, by_152, trivial, trivial, trivial, trivial, trivial, trivial, uns_152, trivial⟩
theorem uns_153 : (Try.prog.underlying 153).isSome = true := by kernel_rfl
theorem tok_153 : TOk Try.prog 153 { ti := some (false, 1), zv := some (.any), zok := some 1, by' := some 8, un := true } := ⟨ti_153, trivial, trivial, trivial, trivial, zv_153, zok_153, by_153, trivial, trivial, trivial, trivial, trivial, trivial, uns_153, trivial⟩
theorem uns_154 : (Try.prog.underlying 154).isSome = true := by kernel_rfl
theorem tok_154 : TOk Try.prog 154 { ti := some (false, 1), zv := some (.any), zok := some 1, by' := some 8, un := true } := ⟨ti_154, trivial, trivial, trivial, trivial, zv_154, zok_154, by_154, trivial, trivial, trivial, trivial, trivial, trivial, uns_154, trivial⟩
theorem uns_155 : (Try.prog.underlying 155).isSome = true := by kernel_rfl
theorem tok_155 : TOk Try.prog 155 { ti := some (false, 1), zv := some (.any), zok := some 1, by' := some 8, un := true } := ⟨ti_155, trivial, trivial, trivial, trivial, zv_155, zok_155, by_155, trivial, trivial, trivial, trivial, trivial, trivial, uns_155, trivial⟩
theorem uns_156 : (Try.prog.underlying 156).isSome = true := by kernel_rfl
theorem tok_156 : TOk Try.prog 156 { ti := some (false, 1), zv := some (.any), zok := some 1, by' := some 8, un := true } := ⟨ti_156, trivial, trivial, trivial, trivial, zv_156, zok_156, by_156, trivial, trivial, trivial, trivial, trivial, trivial, uns_156, trivial⟩
theorem uns_157 : (Try.prog.underlying 157).isSome = true := by kernel_rfl
theorem tok_157 : TOk Try.prog 157 { ti := some (false, 1), zv := some (.any), zok := some 1, by' := some 8, un := true } := ⟨ti_157, trivial, trivial, trivial, trivial, zv_157, zok_157, by_157, trivial, trivial, trivial, trivial, trivial, trivial, uns_157, trivial⟩
theorem uns_158 : (Try.prog.underlying 158).isSome = true := by kernel_rfl
theorem tok_158 : TOk Try.prog 158 { ti := some (false, 1), zv := some (.any), zok := some 1, by' := some 8, un := true } := ⟨ti_158, trivial, trivial, trivial, trivial, zv_158, zok_158, by_158, trivial, trivial, trivial, trivial, trivial, trivial, uns_158, trivial⟩
theorem uns_159 : (Try.prog.underlying 159).isSome = true := by kernel_rfl
theorem tok_159 : TOk Try.prog 159 { ti := some (false, 1), zv := some (.any), zok := some 1, by' := some 8, un := true } := ⟨ti_159, trivial, trivial, trivial, trivial, zv_159, zok_159, by_159, trivial, trivial, trivial, trivial, trivial, trivial, uns_159, trivial⟩
theorem uns_160 : (Try.prog.underlying 160).isSome = true := by kernel_rfl
theorem tok_160 : TOk Try.prog 160 { ti := some (false, 1), zv := some (.nilp), zok := some 1, by' := some 8, ptr := true, un := true } := ⟨ti_160, trivial, trivial, trivial, trivial, zv_160, zok_160, by_160, trivial, trivial, trivial, trivial, isPtr_160, trivial, uns_160, trivial⟩
theorem uns_161 : (Try.prog.underlying 161).isSome = true := by kernel_rfl
theorem tok_161 : TOk Try.prog 161 { ti := some (false, 1), zv := some (.any), zok := some 1, by' := some 8, un := true } := ⟨ti_161, trivial, trivial, trivial, trivial, zv_161, zok_161, by_161, trivial, trivial, trivial, trivial, trivial, trivial, uns_161, trivial⟩
theorem uns_162 : (Try.prog.underlying 162).isSome = true := by kernel_rfl
theorem tok_162 : TOk Try.prog 162 { ti := some (false, 1), zv := some (.any), zok := some 1, by' := some 8, un := true } := ⟨ti_162, trivial, trivial, trivial, trivial, zv_162, zok_162, by_162, trivial, trivial, trivial, trivial, trivial, trivial, uns_162, trivial⟩
theorem uns_163 : (Try.prog.underlying 163).isSome = true := by kernel_rfl
theorem tok_163 : TOk Try.prog 163 { ti := some (false, 1), zv := some (.any), zok := some 1, by' := some 8, un := true } := ⟨ti_163, trivial, trivial, trivial, trivial, zv_163, zok_163, by_163, trivial, trivial, trivial, trivial, trivial, trivial, uns_163, trivial⟩
theorem uns_164 : (Try.prog.underlying 164).isSome = true := by kernel_rfl
theorem tok_164 : TOk Try.prog 164 { ti := some (false, 1), zv := some (.any), zok := some 1, by' := some 8, un := true } := ⟨ti_164, trivial, trivial, trivial, trivial, zv_164, zok_164, by_164, trivial, trivial, trivial, trivial, trivial, trivial, uns_164, trivial⟩
theorem uns_167 : (Try.prog.underlying 167).isSome = true := by kernel_rfl
theorem tok_167 : TOk Try.prog 167 { ti := some (false, 1), zv := some (.any), zok := some 1, by' := some 8, un := true } := ⟨ti_167, trivial, trivial, trivial, trivial, zv_167, zok_167, by_167, trivial, trivial, trivial, trivial, trivial, trivial, uns_167, trivial⟩
theorem uns_168 : (Try.prog.underlying 168).isSome = true := by kernel_rfl
theorem tok_168 : TOk Try.prog 168 { ti := some (false, 1), zv := some (.any), zok := some 1, by' := some 8, un := true } := ⟨ti_168, trivial, trivial, trivial, trivial, zv_168, zok_168, by_168, trivial, trivial, trivial, trivial, trivial, trivial, uns_168, trivial⟩
theorem uns_174 : (Try.prog.underlying 174).isSome = true := by kernel_rfl
theorem tok_174 : TOk Try.prog 174 { ti := some (false, 1), zv := some (.any), zok := some 1, by' := some 8, un := true } := ⟨ti_174, trivial, trivial, trivial, trivial, zv_174, zok_174, by_174, trivial, trivial, trivial, trivial, trivial, trivial, uns_174, trivial⟩
theorem uns_175 : (Try.prog.underlying 175).isSome = true := by kernel_rfl
theorem tok_175 : TOk Try.prog 175 { ti := some (false, 1), zv := some (.int .u32 0), zok := some 1, by' := some 4, ik := some .u32, un := true } := ⟨ti_175, trivial, trivial, trivial, trivial, zv_175, zok_175, by_175, intK_175, trivial, trivial, trivial, trivial, trivial, uns_175, trivial⟩
def Try.tt : TT := (.node (.node (.node (.node (.node (.node (.node (.node .leaf 1 { ti := some (false, 1), zv := some (.any), zok := some 1, by' := some 8, un := true } .leaf) 2 { ti := some (false, 1), zv := some (.int .i64 0), zok := some 1, by' := some 8, ik := some .i64, un := true } .leaf) 3 { ti := some (false, 1), zv := some (.int .i64 0), zok := some 1, by' := some 8, ik := some .i64, un := true } (.node .leaf 4 { ti := some (false, 1), zv := some (.bool false), zok := some 1, by' := some 1, boo := true, un := true } .leaf)) 5 { ti := some (false, 1), zv := some (.int .u8 0), zok := some 1, by' := some 1, ik := some .u8, un := true } (.node (.node .leaf 9 { ti := some (false, 1), zv := some (.str []), zok := some 1, by' := some 16, str := true, ni := true, un := true } .leaf) 12 { ti := some (false, 1), zv := some (.int .u64 0), zok := some 1, by' := some 8, ik := some .u64, un := true } (.node .leaf 13 { ti := some (true, 2), fi := [some (0, (false, 1)), some (1, (false, 1))], si := some [(0, 1), (1, 1)], zv := some (.agg [.str [], .int .u64 0]), zok := some 2, by' := some 24, un := true } .leaf))) 21 { ti := some (false, 1), zv := some (.int .i32 0), zok := some 1, by' := some 4, ik := some .i32, un := true } (.node (.node (.node (.node .leaf 22 { ti := some (false, 1), ei := some (26, 1), zv := some (.nils), zok := some 1, by' := some 24, sli := true, ni := true, un := true } .leaf) 23 { ti := some (false, 1), ei := some (4, 1), zv := some (.nils), zok := some 1, by' := some 24, sli := true, ni := true, un := true } .leaf) 24 { ti := some (true, 2), fi := [some (0, (false, 1)), some (1, (false, 1))], si := some [(0, 1), (1, 1)], zv := some (.agg [.nils, .nils]), zok := some 2, by' := some 48, un := true } (.node .leaf 25 { ti := some (true, 2), fi := [some (0, (false, 1)), some (1, (false, 1))], si := some [(0, 1), (1, 1)], zv := some (.agg [.nils, .nils]), zok := some 2, by' := some 48, un := true } .leaf)) 26 { ti := some (false, 1), ei := some (3, 1), zv := some (.nils), zok := some 1, by' := some 24, sli := true, ni := true, un := true } (.node (.node .leaf 27 { ti := some (false, 1), zv := some (.int .i64 0), zok := some 1, by' := some 8, ik := some .i64, un := true } .leaf) 29 { ti := some (false, 1), zv := some (.any), zok := some 1, by' := some 8, un := true } (.node .leaf 30 { ti := some (false, 1), zv := some (.any), zok := some 1, by' := some 8, un := true } .leaf)))) 31 { ti := some (false, 1), zv := some (.any), zok := some 1, by' := some 8, un := true } (.node (.node (.node (.node (.node .leaf 33 { ti := some (false, 1), zv := some (.any), zok := some 1, by' := some 8, un := true } .leaf) 34 { ti := some (false, 1), zv := some (.any), zok := some 1, by' := some 8, un := true } .leaf) 35 { ti := some (false, 1), ei := some (116, 3), zv := some (.nils), zok := some 1, by' := some 24, sli := true, ni := true, un := true } (.node .leaf 36 { ti := some (false, 1), ei := some (85, 4), zv := some (.nils), zok := some 1, by' := some 24, sli := true, ni := true, un := true } .leaf)) 38 { ti := some (false, 1), zv := some (.any), zok := some 1, by' := some 8, un := true } (.node (.node .leaf 39 { ti := some (false, 1), zv := some (.any), zok := some 1, by' := some 8, un := true } .leaf) 40 { ti := some (false, 1), ei := some (42, 3), zv := some (.nils), zok := some 1, by' := some 24, sli := true, ni := true, un := true } (.node .leaf 41 { ti := some (true, 3), fi := [some (0, (false, 1)), some (1, (false, 1)), some (2, (false, 1))], si := some [(0, 1), (1, 1), (2, 1)], zv := some (.agg [.int .i64 0, .int .i64 0, .nils]), zok := some 3, by' := some 40, un := true } .leaf))) 42 { ti := some (true, 3), fi := [some (0, (false, 1)), some (1, (false, 1)), some (2, (false, 1))], si := some [(0, 1), (1, 1), (2, 1)], zv := some (.agg [.int .i64 0, .int .i64 0, .nils]), zok := some 3, by' := some 40, un := true } (.node (.node (.node .leaf 43 { ti := some (false, 1), zv := some (.any), zok := some 1, by' := some 8, un := true } .leaf) 44 { ti := some (false, 1), zv := some (.any), zok := some 1, by' := some 8, un := true } (.node .leaf 46 { ti := some (false, 1), zv := some (.any), zok := some 1, by' := some 8, un := true } .leaf)) 48 { ti := some (false, 1), zv := some (.any), zok := some 1, by' := some 8, un := true } (.node (.node .leaf 49 { ti := some (false, 1), zv := some (.any), zok := some 1, by' := some 8, un := true } .leaf) 50 { ti := some (false, 1), zv := some (.any), zok := some 1, by' := some 8, un := true } (.node .leaf 51 { ti := some (false, 1), ei := some (102, 6), zv := some (.nils), zok := some 1, by' := some 24, sli := true, ni := true, un := true } .leaf))))) 53 { ti := some (false, 1), zv := some (.any), zok := some 1, by' := some 8, un := true } (.node (.node (.node (.node (.node (.node .leaf 54 { ti := some (false, 1), zv := some (.any), zok := some 1, by' := some 8, un := true } .leaf) 55 { ti := some (false, 1), zv := some (.any), zok := some 1, by' := some 8, un := true } .leaf) 57 { ti := some (false, 1), zv := some (.any), zok := some 1, by' := some 8, un := true } (.node .leaf 58 { ti := some (false, 1), zv := some (.any), zok := some 1, by' := some 8, un := true } .leaf)) 59 { ti := some (true, 2), fi := [some (0, (false, 1)), some (1, (false, 1))], si := some [(0, 1), (1, 1)], zv := some (.agg [.int .i64 0, .nils]), zok := some 2, by' := some 32, un := true } (.node (.node .leaf 60 { ti := some (true, 2), fi := [some (0, (false, 1)), some (1, (false, 1))], si := some [(0, 1), (1, 1)], zv := some (.agg [.int .i64 0, .nils]), zok := some 2, by' := some 32, un := true } .leaf) 61 { ti := some (false, 1), ei := some (60, 2), zv := some (.nils), zok := some 1, by' := some 24, sli := true, ni := true, un := true } (.node .leaf 62 { ti := some (false, 1), zv := some (.any), zok := some 1, by' := some 8, un := true } .leaf))) 63 { ti := some (false, 1), ei := some (69, 2), zv := some (.nils), zok := some 1, by' := some 24, sli := true, ni := true, un := true } (.node (.node (.node (.node .leaf 64 { ti := some (false, 1), ei := some (110, 8), zv := some (.nils), zok := some 1, by' := some 24, sli := true, ni := true, un := true } .leaf) 66 { ti := some (false, 1), zv := some (.any), zok := some 1, by' := some 8, un := true } .leaf) 67 { ti := some (false, 1), zv := some (.any), zok := some 1, by' := some 8, un := true } (.node .leaf 68 { ti := some (true, 2), fi := [some (0, (false, 1)), some (1, (false, 1))], si := some [(0, 1), (1, 1)], zv := some (.agg [.int .i64 0, .int .i64 0]), zok := some 2, by' := some 16, un := true } .leaf)) 69 { ti := some (true, 2), fi := [some (0, (false, 1)), some (1, (false, 1))], si := some [(0, 1), (1, 1)], zv := some (.agg [.int .i64 0, .int .i64 0]), zok := some 2, by' := some 16, un := true, sq := some [.i .i64, .i .i64] } (.node (.node .leaf 70 { ti := some (false, 1), zv := some (.any), zok := some 1, by' := some 8, un := true } .leaf) 71 { ti := some (false, 1), zv := some (.any), zok := some 1, by' := some 8, un := true } (.node .leaf 72 { ti := some (true, 2), fi := [some (0, (false, 1)), some (1, (false, 1))], si := some [(0, 1), (1, 1)], zv := some (.agg [.nils, .nils]), zok := some 2, by' := some 48, un := true } .leaf)))) 73 { ti := some (true, 2), fi := [some (0, (false, 1)), some (1, (false, 1))], si := some [(0, 1), (1, 1)], zv := some (.agg [.nils, .nils]), zok := some 2, by' := some 48, un := true } (.node (.node (.node (.node (.node .leaf 74 { ti := some (false, 1), zv := some (.any), zok := some 1, by' := some 8, un := true } .leaf) 75 { ti := some (false, 1), ei := some (23, 1), zv := some (.nils), zok := some 1, by' := some 24, sli := true, ni := true, un := true } .leaf) 76 { ti := some (false, 1), zv := some (.any), zok := some 1, by' := some 8, un := true } (.node .leaf 77 { ti := some (false, 1), zv := some (.any), zok := some 1, by' := some 8, un := true } .leaf)) 78 { ti := some (false, 1), zv := some (.nilp), zok := some 1, by' := some 8, ptr := true, un := true } (.node (.node .leaf 79 { ti := some (true, 2), fi := [some (0, (false, 1)), some (1, (false, 1))], si := some [(0, 1), (1, 1)], zv := some (.agg [.nils, .nils]), zok := some 2, by' := some 48, un := true } .leaf) 80 { ti := some (true, 2), fi := [some (0, (false, 1)), some (1, (false, 1))], si := some [(0, 1), (1, 1)], zv := some (.agg [.nils, .nils]), zok := some 2, by' := some 48, un := true } (.node .leaf 81 { ti := some (false, 1), zv := some (.any), zok := some 1, by' := some 8, un := true } .leaf))) 82 { ti := some (false, 1), zv := some (.any), zok := some 1, by' := some 8, un := true } (.node (.node (.node .leaf 83 { ti := some (false, 1), ei := some (122, 2), zv := some (.nils), zok := some 1, by' := some 24, sli := true, ni := true, un := true } .leaf) 84 { ti := some (true, 4), fi := [some (0, (false, 1)), some (1, (false, 1)), some (2, (false, 1)), some (3, (false, 1))], si := some [(0, 1), (1, 1), (2, 1), (3, 1)], zv := some (.agg [.str [], .nils, .str [], .nils]), zok := some 4, by' := some 80, un := true } (.node .leaf 85 { ti := some (true, 4), fi := [some (0, (false, 1)), some (1, (false, 1)), some (2, (false, 1)), some (3, (false, 1))], si := some [(0, 1), (1, 1), (2, 1), (3, 1)], zv := some (.agg [.str [], .nils, .str [], .nils]), zok := some 4, by' := some 80, un := true } .leaf)) 86 { ti := some (false, 1), zv := some (.any), zok := some 1, by' := some 8, un := true } (.node (.node .leaf 87 { ti := some (false, 1), zv := some (.any), zok := some 1, by' := some 8, un := true } .leaf) 88 { ti := some (false, 1), zv := some (.nilp), zok := some 1, by' := some 8, ptr := true, un := true } (.node .leaf 89 { ti := some (true, 2), fi := [some (0, (false, 1)), some (1, (false, 1))], si := some [(0, 1), (1, 1)], zv := some (.agg [.str [], .bool false]), zok := some 2, by' := some 24, un := true } .leaf)))))) 90 { ti := some (true, 2), fi := [some (0, (false, 1)), some (1, (false, 1))], si := some [(0, 1), (1, 1)], zv := some (.agg [.str [], .bool false]), zok := some 2, by' := some 24, un := true, sq := some [.s, .b] } (.node (.node (.node (.node (.node (.node (.node .leaf 91 { ti := some (false, 1), zv := some (.any), zok := some 1, by' := some 8, un := true } .leaf) 93 { ti := some (false, 1), zv := some (.any), zok := some 1, by' := some 8, un := true } .leaf) 95 { ti := some (false, 1), zv := some (.any), zok := some 1, by' := some 8, un := true } (.node .leaf 96 { ti := some (false, 1), ei := some (36, 1), zv := some (.nils), zok := some 1, by' := some 24, sli := true, ni := true, un := true } .leaf)) 98 { ti := some (false, 1), zv := some (.any), zok := some 1, by' := some 8, un := true } (.node (.node .leaf 99 { ti := some (false, 1), zv := some (.any), zok := some 1, by' := some 8, un := true } .leaf) 100 { ti := some (false, 1), zv := some (.any), zok := some 1, by' := some 8, un := true } (.node .leaf 101 { ti := some (true, 6), fi := [some (0, (false, 1)), some (1, (false, 1)), some (2, (true, 4))], si := some [(0, 1), (1, 1), (2, 4)], zv := some (.agg [.int .i64 0, .nils, .str [], .nils, .str [], .nils]), zok := some 6, by' := some 112, un := true } .leaf))) 102 { ti := some (true, 6), fi := [some (0, (false, 1)), some (1, (false, 1)), some (2, (true, 4))], si := some [(0, 1), (1, 1), (2, 4)], zv := some (.agg [.int .i64 0, .nils, .str [], .nils, .str [], .nils]), zok := some 6, by' := some 112, un := true } (.node (.node (.node (.node .leaf 104 { ti := some (false, 1), zv := some (.any), zok := some 1, by' := some 8, un := true } .leaf) 105 { ti := some (false, 1), zv := some (.any), zok := some 1, by' := some 8, un := true } .leaf) 106 { ti := some (false, 1), zv := some (.any), zok := some 1, by' := some 8, un := true } (.node .leaf 107 { ti := some (false, 1), zv := some (.any), zok := some 1, by' := some 8, un := true } .leaf)) 108 { ti := some (false, 1), zv := some (.any), zok := some 1, by' := some 8, un := true } (.node (.node .leaf 109 { ti := some (false, 1), zv := some (.any), zok := some 1, by' := some 8, un := true } .leaf) 110 { ti := some (true, 8), ai := some (8, (false, 1)), zv := some (.agg [.int .i64 0, .int .i64 0, .int .i64 0, .int .i64 0, .int .i64 0, .int .i64 0, .int .i64 0, .int .i64 0]), zok := some 8, by' := some 64, un := true } (.node .leaf 111 { ti := some (false, 1), zv := some (.any), zok := some 1, by' := some 8, un := true } .leaf)))) 113 { ti := some (false, 1), zv := some (.any), zok := some 1, by' := some 8, un := true } (.node (.node (.node (.node (.node .leaf 114 { ti := some (false, 1), zv := some (.any), zok := some 1, by' := some 8, un := true } .leaf) 115 { ti := some (true, 3), fi := [some (0, (false, 1)), some (1, (false, 1)), some (2, (false, 1))], si := some [(0, 1), (1, 1), (2, 1)], zv := some (.agg [.str [], .str [], .bool false]), zok := some 3, by' := some 40, un := true } .leaf) 116 { ti := some (true, 3), fi := [some (0, (false, 1)), some (1, (false, 1)), some (2, (false, 1))], si := some [(0, 1), (1, 1), (2, 1)], zv := some (.agg [.str [], .str [], .bool false]), zok := some 3, by' := some 40, un := true, sq := some [.s, .s, .b] } (.node .leaf 117 { ti := some (false, 1), zv := some (.any), zok := some 1, by' := some 8, un := true } .leaf)) 118 { ti := some (false, 1), zv := some (.any), zok := some 1, by' := some 8, un := true } (.node (.node .leaf 119 { ti := some (false, 1), zv := some (.any), zok := some 1, by' := some 8, un := true } .leaf) 120 { ti := some (false, 1), ei := some (9, 1), zv := some (.nils), zok := some 1, by' := some 24, sli := true, ni := true, un := true } (.node .leaf 121 { ti := some (true, 2), fi := [some (0, (false, 1)), some (1, (false, 1))], si := some [(0, 1), (1, 1)], zv := some (.agg [.str [], .str []]), zok := some 2, by' := some 32, un := true } .leaf))) 122 { ti := some (true, 2), fi := [some (0, (false, 1)), some (1, (false, 1))], si := some [(0, 1), (1, 1)], zv := some (.agg [.str [], .str []]), zok := some 2, by' := some 32, un := true, sq := some [.s, .s] } (.node (.node (.node .leaf 123 { ti := some (false, 1), zv := some (.any), zok := some 1, by' := some 8, un := true } .leaf) 124 { ti := some (false, 1), zv := some (.any), zok := some 1, by' := some 8, un := true } (.node .leaf 125 { ti := some (false, 1), ei := some (5, 1), zv := some (.nils), zok := some 1, by' := some 24, sli := true, ni := true, un := true } .leaf)) 126 { ti := some (false, 1), zv := some (.any), zok := some 1, by' := some 8, un := true } (.node (.node .leaf 127 { ti := some (false, 1), zv := some (.any), zok := some 1, by' := some 8, un := true } .leaf) 128 { ti := some (false, 1), zv := some (.nilp), zok := some 1, by' := some 8, ptr := true, un := true } (.node .leaf 129 { ti := some (false, 1), zv := some (.any), zok := some 1, by' := some 8, un := true } .leaf))))) 130 { ti := some (false, 1), zv := some (.any), zok := some 1, by' := some 8, un := true } (.node (.node (.node (.node (.node (.node .leaf 132 { ti := some (false, 1), zv := some (.any), zok := some 1, by' := some 8, un := true } .leaf) 133 { ti := some (false, 1), zv := some (.any), zok := some 1, by' := some 8, un := true } .leaf) 135 { ti := some (false, 1), zv := some (.any), zok := some 1, by' := some 8, un := true } (.node .leaf 136 { ti := some (false, 1), zv := some (.any), zok := some 1, by' := some 8, un := true } .leaf)) 137 { ti := some (false, 1), zv := some (.any), zok := some 1, by' := some 8, un := true } (.node (.node .leaf 138 { ti := some (false, 1), zv := some (.any), zok := some 1, by' := some 8, un := true } .leaf) 139 { ti := some (false, 1), zv := some (.any), zok := some 1, by' := some 8, un := true } (.node .leaf 140 { ti := some (false, 1), zv := some (.any), zok := some 1, by' := some 8, un := true } .leaf))) 141 { ti := some (false, 1), zv := some (.any), zok := some 1, by' := some 8, un := true } (.node (.node (.node .leaf 142 { ti := some (false, 1), zv := some (.any), zok := some 1, by' := some 8, un := true } .leaf) 143 { ti := some (false, 1), zv := some (.any), zok := some 1, by' := some 8, un := true } (.node .leaf 144 { ti := some (false, 1), zv := some (.any), zok := some 1, by' := some 8, un := true } .leaf)) 145 { ti := some (false, 1), zv := some (.nilp), zok := some 1, by' := some 8, ptr := true, un := true } (.node (.node .leaf 146 { ti := some (true, 2), fi := [some (0, (false, 1)), some (1, (false, 1))], si := some [(0, 1), (1, 1)], zv := some (.agg [.nilp, .nils]), zok := some 2, by' := some 32, un := true } .leaf) 147 { ti := some (true, 2), fi := [some (0, (false, 1)), some (1, (false, 1))], si := some [(0, 1), (1, 1)], zv := some (.agg [.nilp, .nils]), zok := some 2, by' := some 32, un := true } (.node .leaf 148 { ti := some (false, 1), zv := some (.any), zok := some 1, by' := some 8, un := true } .leaf)))) 152 { ti := some (false, 1), zv := some (.any), zok := some 1, by' := some 8, un := true } (.node (.node (.node (.node (.node .leaf 153 { ti := some (false, 1), zv := some (.any), zok := some 1, by' := some 8, un := true } .leaf) 154 { ti := some (false, 1), zv := some (.any), zok := some 1, by' := some 8, un := true } .leaf) 155 { ti := some (false, 1), zv := some (.any), zok := some 1, by' := some 8, un := true } (.node .leaf 156 { ti := some (false, 1), zv := some (.any), zok := some 1, by' := some 8, un := true } .leaf)) 157 { ti := some (false, 1), zv := some (.any), zok := some 1, by' := some 8, un := true } (.node (.node .leaf 158 { ti := some (false, 1), zv := some (.any), zok := some 1, by' := some 8, un := true } .leaf) 159 { ti := some (false, 1), zv := some (.any), zok := some 1, by' := some 8, un := true } (.node .leaf 160 { ti := some (false, 1), zv := some (.nilp), zok := some 1, by' := some 8, ptr := true, un := true } .leaf))) 161 { ti := some (false, 1), zv := some (.any), zok := some 1, by' := some 8, un := true } (.node (.node (.node .leaf 162 { ti := some (false, 1), zv := some (.any), zok := some 1, by' := some 8, un := true } .leaf) 163 { ti := some (false, 1), zv := some (.any), zok := some 1, by' := some 8, un := true } (.node .leaf 164 { ti := some (false, 1), zv := some (.any), zok := some 1, by' := some 8, un := true } .leaf)) 167 { ti := some (false, 1), zv := some (.any), zok := some 1, by' := some 8, un := true } (.node (.node .leaf 168 { ti := some (false, 1), zv := some (.any), zok := some 1, by' := some 8, un := true } .leaf) 174 { ti := some (false, 1), zv := some (.any), zok := some 1, by' := some 8, un := true } (.node .leaf 175 { ti := some (false, 1), zv := some (.int .u32 0), zok := some 1, by' := some 4, ik := some .u32, un := true } .leaf)))))))
theorem tt_all : TT.All Try.prog Try.tt := ⟨⟨⟨⟨⟨⟨⟨⟨trivial, tok_1, trivial⟩, tok_2, trivial⟩, tok_3, ⟨trivial, tok_4, trivial⟩⟩, tok_5, ⟨⟨trivial, tok_9, trivial⟩, tok_12, ⟨trivial, tok_13, trivial⟩⟩⟩, tok_21, ⟨⟨⟨⟨trivial, tok_22, trivial⟩, tok_23, trivial⟩, tok_24, ⟨trivial, tok_25, trivial⟩⟩, tok_26, ⟨⟨trivial, tok_27, trivial⟩, tok_29, ⟨trivial, tok_30, trivial⟩⟩⟩⟩, tok_31, ⟨⟨⟨⟨⟨trivial, tok_33, trivial⟩, tok_34, trivial⟩, tok_35, ⟨trivial, tok_36, trivial⟩⟩, tok_38, ⟨⟨trivial, tok_39, trivial⟩, tok_40, ⟨trivial, tok_41, trivial⟩⟩⟩, tok_42, ⟨⟨⟨trivial, tok_43, trivial⟩, tok_44, ⟨trivial, tok_46, trivial⟩⟩, tok_48, ⟨⟨trivial, tok_49, trivial⟩, tok_50, ⟨trivial, tok_51, trivial⟩⟩⟩⟩⟩, tok_53, ⟨⟨⟨⟨⟨⟨trivial, tok_54, trivial⟩, tok_55, trivial⟩, tok_57, ⟨trivial, tok_58, trivial⟩⟩, tok_59, ⟨⟨trivial, tok_60, trivial⟩, tok_61, ⟨trivial, tok_62, trivial⟩⟩⟩, tok_63, ⟨⟨⟨⟨trivial, tok_64, trivial⟩, tok_66, trivial⟩, tok_67, ⟨trivial, tok_68, trivial⟩⟩, tok_69, ⟨⟨trivial, tok_70, trivial⟩, tok_71, ⟨trivial, tok_72, trivial⟩⟩⟩⟩, tok_73, ⟨⟨⟨⟨⟨trivial, tok_74, trivial⟩, tok_75, trivial⟩, tok_76, ⟨trivial, tok_77, trivial⟩⟩, tok_78, ⟨⟨trivial, tok_79, trivial⟩, tok_80, ⟨trivial, tok_81, trivial⟩⟩⟩, tok_82, ⟨⟨⟨trivial, tok_83, trivial⟩, tok_84, ⟨trivial, tok_85, trivial⟩⟩, tok_86, ⟨⟨trivial, tok_87, trivial⟩, tok_88, ⟨trivial, tok_89, trivial⟩⟩⟩⟩⟩⟩, tok_90, ⟨⟨⟨⟨⟨⟨⟨trivial, tok_91, trivial⟩, tok_93, trivial⟩, tok_95, ⟨trivial, tok_96, trivial⟩⟩, tok_98, ⟨⟨trivial, tok_99, trivial⟩, tok_100, ⟨trivial, tok_101, trivial⟩⟩⟩, tok_102, ⟨⟨⟨⟨trivial, tok_104, trivial⟩, tok_105, trivial⟩, tok_106, ⟨trivial, tok_107, trivial⟩⟩, tok_108, ⟨⟨trivial, tok_109, trivial⟩, tok_110, ⟨trivial, tok_111, trivial⟩⟩⟩⟩, tok_113, ⟨⟨⟨⟨⟨trivial, tok_114, trivial⟩, tok_115, trivial⟩, tok_116, ⟨trivial, tok_117, trivial⟩⟩, tok_118, ⟨⟨trivial, tok_119, trivial⟩, tok_120, ⟨trivial, tok_121, trivial⟩⟩⟩, tok_122, ⟨⟨⟨trivial, tok_123, trivial⟩, tok_124, ⟨trivial, tok_125, trivial⟩⟩, tok_126, ⟨⟨trivial, tok_127, trivial⟩, tok_128, ⟨trivial, tok_129, trivial⟩⟩⟩⟩⟩, tok_130, ⟨⟨⟨⟨⟨⟨trivial, tok_132, trivial⟩, tok_133, trivial⟩, tok_135, ⟨trivial, tok_136, trivial⟩⟩, tok_137, ⟨⟨trivial, tok_138, trivial⟩, tok_139, ⟨trivial, tok_140, trivial⟩⟩⟩, tok_141, ⟨⟨⟨trivial, tok_142, trivial⟩, tok_143, ⟨trivial, tok_144, trivial⟩⟩, tok_145, ⟨⟨trivial, tok_146, trivial⟩, tok_147, ⟨trivial, tok_148, trivial⟩⟩⟩⟩, tok_152, ⟨⟨⟨⟨⟨trivial, tok_153, trivial⟩, tok_154, trivial⟩, tok_155, ⟨trivial, tok_156, trivial⟩⟩, tok_157, ⟨⟨trivial, tok_158, trivial⟩, tok_159, ⟨trivial, tok_160, trivial⟩⟩⟩, tok_161, ⟨⟨⟨trivial, tok_162, trivial⟩, tok_163, ⟨trivial, tok_164, trivial⟩⟩, tok_167, ⟨⟨trivial, tok_168, trivial⟩, tok_174, ⟨trivial, tok_175, trivial⟩⟩⟩⟩⟩⟩⟩
theorem hasBody_3 : hasBody Try.prog 3 = true := by kernel_rfl
theorem hasBody_4 : hasBody Try.prog 4 = true := by kernel_rfl
theorem hasBody_5 : hasBody Try.prog 5 = true := by kernel_rfl
theorem hasBody_6 : hasBody Try.prog 6 = true := by kernel_rfl
theorem hasBody_7 : hasBody Try.prog 7 = true := by kernel_rfl
theorem hasBody_8 : hasBody Try.prog 8 = true := by kernel_rfl
theorem hasBody_9 : hasBody Try.prog 9 = true := by kernel_rfl
theorem hasBody_10 : hasBody Try.prog 10 = true := by kernel_rfl
theorem hasBody_11 : hasBody Try.prog 11 = true := by kernel_rfl
theorem hasBody_12 : hasBody Try.prog 12 = true := by kernel_rfl
theorem hasBody_13 : hasBody Try.prog 13 = true := by kernel_rfl
theorem hasBody_14 : hasBody Try.prog 14 = true := by kernel_rfl
theorem hasBody_15 : hasBody Try.prog 15 = true := by kernel_rfl
theorem hasBody_16 : hasBody Try.prog 16 = true := by kernel_rfl
theorem hasBody_17 : hasBody Try.prog 17 = true := by kernel_rfl
theorem hasBody_18 : hasBody Try.prog 18 = true := by kernel_rfl
theorem hasBody_19 : hasBody Try.prog 19 = true := by kernel_rfl
theorem hasBody_20 : hasBody Try.prog 20 = true := by kernel_rfl
theorem hasBody_21 : hasBody Try.prog 21 = true := by kernel_rfl
theorem hasBody_22 : hasBody Try.prog 22 = true := by kernel_rfl
theorem hasBody_23 : hasBody Try.prog 23 = true := by kernel_rfl
theorem hasBody_24 : hasBody Try.prog 24 = true := by kernel_rfl
theorem hasBody_25 : hasBody Try.prog 25 = true := by kernel_rfl
theorem hasBody_26 : hasBody Try.prog 26 = true := by kernel_rfl
theorem hasBody_27 : hasBody Try.prog 27 = true := by kernel_rfl
theorem hasBody_28 : hasBody Try.prog 28 = true := by kernel_rfl
theorem hasBody_29 : hasBody Try.prog 29 = true := by kernel_rfl
theorem hasBody_30 : hasBody Try.prog 30 = true := by kernel_rfl
theorem hasBody_31 : hasBody Try.prog 31 = true := by kernel_rfl
theorem hasBody_32 : hasBody Try.prog 32 = true := by kernel_rfl
theorem hasBody_33 : hasBody Try.prog 33 = true := by kernel_rfl
theorem hasBody_34 : hasBody Try.prog 34 = true := by kernel_rfl
theorem hasBody_35 : hasBody Try.prog 35 = true := by kernel_rfl
theorem hasBody_36 : hasBody Try.prog 36 = true := by kernel_rfl
theorem hasBody_37 : hasBody Try.prog 37 = true := by kernel_rfl
theorem hasBody_38 : hasBody Try.prog 38 = true := by kernel_rfl
theorem hasBody_39 : hasBody Try.prog 39 = true := by kernel_rfl
theorem hasBody_40 : hasBody Try.prog 40 = true := by kernel_rfl
theorem hasBody_41 : hasBody Try.prog 41 = true := by kernel_rfl
theorem hasBody_42 : hasBody Try.prog 42 = true := by kernel_rfl
theorem hasBody_43 : hasBody Try.prog 43 = true := by kernel_rfl
theorem hasBody_44 : hasBody Try.prog 44 = true := by kernel_rfl
theorem hasBody_45 : hasBody Try.prog 45 = true := by kernel_rfl
theorem hasBody_46 : hasBody Try.prog 46 = true := by kernel_rfl
theorem hasBody_47 : hasBody Try.prog 47 = true := by kernel_rfl
theorem hasBody_48 : hasBody Try.prog 48 = true := by kernel_rfl
theorem hasBody_49 : hasBody Try.prog 49 = true := by kernel_rfl
theorem hasBody_50 : hasBody Try.prog 50 = true := by kernel_rfl
theorem hasBody_51 : hasBody Try.prog 51 = true := by kernel_rfl
theorem hasBody_52 : hasBody Try.prog 52 = true := by kernel_rfl
theorem hasBody_53 : hasBody Try.prog 53 = true := by kernel_rfl
theorem hasBody_54 : hasBody Try.prog 54 = true := by kernel_rfl
theorem hasBody_55 : hasBody Try.prog 55 = true := by kernel_rfl
theorem hasBody_56 : hasBody Try.prog 56 = true := by kernel_rfl
theorem hasBody_57 : hasBody Try.prog 57 = true := by kernel_rfl
theorem hasBody_58 : hasBody Try.prog 58 = true := by kernel_rfl
theorem hasBody_59 : hasBody Try.prog 59 = true := by kernel_rfl
theorem hasBody_60 : hasBody Try.prog 60 = true := by kernel_rfl
theorem hasBody_61 : hasBody Try.prog 61 = true := by kernel_rfl
theorem hasBody_62 : hasBody Try.prog 62 = true := by kernel_rfl
theorem hasBody_63 : hasBody Try.prog 63 = true := by kernel_rfl
theorem hasBody_64 : hasBody Try.prog 64 = true := by kernel_rfl
theorem hasBody_65 : hasBody Try.prog 65 = true := by kernel_rfl
theorem hasBody_66 : hasBody Try.prog 66 = true := by kernel_rfl
theorem hasBody_67 : hasBody Try.prog 67 = true := by kernel_rfl
theorem hasBody_68 : hasBody Try.prog 68 = true := by kernel_rfl
theorem hasBody_69 : hasBody Try.prog 69 = true := by kernel_rfl
theorem hasBody_70 : hasBody Try.prog 70 = true := by kernel_rfl
theorem hasBody_71 : hasBody Try.prog 71 = true := by kernel_rfl
theorem hasBody_72 : hasBody Try.prog 72 = true := by kernel_rfl
theorem hasBody_73 : hasBody Try.prog 73 = true := by kernel_rfl
theorem hasBody_74 : hasBody Try.prog 74 = true := by kernel_rfl
theorem hasBody_75 : hasBody Try.prog 75 = true := by kernel_rfl
theorem hasBody_76 : hasBody Try.prog 76 = true := by kernel_rfl
theorem hasBody_77 : hasBody Try.prog 77 = true := by kernel_rfl
theorem hasBody_78 : hasBody Try.prog 78 = true := by kernel_rfl
theorem hasBody_79 : hasBody Try.prog 79 = true := by kernel_rfl
theorem hasBody_80 : hasBody Try.prog 80 = true := by kernel_rfl
theorem hasBody_81 : hasBody Try.prog 81 = true := by kernel_rfl
theorem hasBody_82 : hasBody Try.prog 82 = true := by kernel_rfl
theorem hasBody_83 : hasBody Try.prog 83 = true := by kernel_rfl
theorem hasBody_84 : hasBody Try.prog 84 = true := by kernel_rfl
theorem hasBody_85 : hasBody Try.prog 85 = true := by kernel_rfl
theorem hasBody_86 : hasBody Try.prog 86 = true := by kernel_rfl
theorem hasBody_87 : hasBody Try.prog 87 = true := by kernel_rfl
theorem hasBody_88 : hasBody Try.prog 88 = true := by kernel_rfl
theorem hasBody_89 : hasBody Try.prog 89 = true := by kernel_rfl
theorem hasBody_90 : hasBody Try.prog 90 = true := by kernel_rfl
theorem hasBody_91 : hasBody Try.prog 91 = true := by kernel_rfl
theorem hasBody_92 : hasBody Try.prog 92 = true := by kernel_rfl
theorem hasBody_93 : hasBody Try.prog 93 = true := by kernel_rfl
theorem hasBody_94 : hasBody Try.prog 94 = true := by kernel_rfl
theorem hasBody_95 : hasBody Try.prog 95 = true := by kernel_rfl
theorem hasBody_96 : hasBody Try.prog 96 = true := by kernel_rfl
theorem hasBody_97 : hasBody Try.prog 97 = true := by kernel_rfl
theorem hasBody_98 : hasBody Try.prog 98 = true := by kernel_rfl
theorem hasBody_99 : hasBody Try.prog 99 = true := by kernel_rfl
theorem hasBody_100 : hasBody Try.prog 100 = true := by kernel_rfl
theorem hasBody_101 : hasBody Try.prog 101 = true := by kernel_rfl
theorem hasBody_102 : hasBody Try.prog 102 = true := by kernel_rfl
theorem hasBody_103 : hasBody Try.prog 103 = true := by kernel_rfl
theorem hasBody_104 : hasBody Try.prog 104 = true := by kernel_rfl
theorem hasBody_106 : hasBody Try.prog 106 = true := by kernel_rfl
theorem hasBody_107 : hasBody Try.prog 107 = true := by kernel_rfl
theorem hasBody_108 : hasBody Try.prog 108 = true := by kernel_rfl
theorem hasBody_112 : hasBody Try.prog 112 = true := by kernel_rfl
theorem hasBody_114 : hasBody Try.prog 114 = true := by kernel_rfl
theorem follows_all : Try.prog.follows .mixedOrders = true := by kernel_rfl
end Go.Proofs.Ytaapdbcbefnhgaa
