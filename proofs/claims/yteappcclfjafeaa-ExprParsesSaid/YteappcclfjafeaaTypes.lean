/- Facts of this seat's types and functions, each by the kernel's reckoning; written by program. No conditions. -/
import Derived.Test.YteappcclfjafeaaAwx
import Derived.Test.YteappcclfjafeaaRows
set_option linter.unusedSimpArgs false
set_option linter.unusedVariables false
namespace Go.Proofs.Yteappcclfjafeaa

theorem cells_1 : Try.prog.cellsOf 1 = 1 := by kernel_rfl
theorem ti_1 : TI Try.prog 1 = some (false, 1) := by kernel_rfl
theorem zv_1 : ZV Try.prog 1 = some (.any) := by kernel_rfl
theorem zok_1 : ZOk Try.prog 1 1 = true := by kernel_rfl
theorem by_1 : byOf Try.prog 1 = 8 := by kernel_rfl
theorem cells_2 : Try.prog.cellsOf 2 = 1 := by kernel_rfl
theorem ti_2 : TI Try.prog 2 = some (false, 1) := by kernel_rfl
theorem intK_2 : intK Try.prog 2 = some .i64 := by kernel_rfl
theorem un_2 : Try.prog.underlying 2 = some (.int .i64) := by kernel_rfl
theorem zv_2 : ZV Try.prog 2 = some (.int .i64 0) := by kernel_rfl
theorem zok_2 : ZOk Try.prog 2 1 = true := by kernel_rfl
theorem by_2 : byOf Try.prog 2 = 8 := by kernel_rfl
theorem cells_3 : Try.prog.cellsOf 3 = 1 := by kernel_rfl
theorem ti_3 : TI Try.prog 3 = some (false, 1) := by kernel_rfl
theorem intK_3 : intK Try.prog 3 = some .i64 := by kernel_rfl
theorem un_3 : Try.prog.underlying 3 = some (.int .i64) := by kernel_rfl
theorem zv_3 : ZV Try.prog 3 = some (.int .i64 0) := by kernel_rfl
theorem zok_3 : ZOk Try.prog 3 1 = true := by kernel_rfl
theorem by_3 : byOf Try.prog 3 = 8 := by kernel_rfl
theorem cells_4 : Try.prog.cellsOf 4 = 1 := by kernel_rfl
theorem ti_4 : TI Try.prog 4 = some (false, 1) := by kernel_rfl
theorem isBoo_4 : isBoo Try.prog 4 = true := by kernel_rfl
theorem zv_4 : ZV Try.prog 4 = some (.bool false) := by kernel_rfl
theorem zok_4 : ZOk Try.prog 4 1 = true := by kernel_rfl
theorem by_4 : byOf Try.prog 4 = 1 := by kernel_rfl
theorem cells_5 : Try.prog.cellsOf 5 = 1 := by kernel_rfl
theorem ti_5 : TI Try.prog 5 = some (false, 1) := by kernel_rfl
theorem intK_5 : intK Try.prog 5 = some .u8 := by kernel_rfl
theorem un_5 : Try.prog.underlying 5 = some (.int .u8) := by kernel_rfl
theorem zv_5 : ZV Try.prog 5 = some (.int .u8 0) := by kernel_rfl
theorem zok_5 : ZOk Try.prog 5 1 = true := by kernel_rfl
theorem by_5 : byOf Try.prog 5 = 1 := by kernel_rfl
theorem cells_9 : Try.prog.cellsOf 9 = 1 := by kernel_rfl
theorem ti_9 : TI Try.prog 9 = some (false, 1) := by kernel_rfl
theorem isStr_9 : isStr Try.prog 9 = true := by kernel_rfl
theorem notInt_9 : notInt Try.prog 9 = true := by kernel_rfl
theorem zv_9 : ZV Try.prog 9 = some (.str []) := by kernel_rfl
theorem zok_9 : ZOk Try.prog 9 1 = true := by kernel_rfl
theorem by_9 : byOf Try.prog 9 = 16 := by kernel_rfl
theorem cells_12 : Try.prog.cellsOf 12 = 1 := by kernel_rfl
theorem ti_12 : TI Try.prog 12 = some (false, 1) := by kernel_rfl
theorem intK_12 : intK Try.prog 12 = some .u64 := by kernel_rfl
theorem un_12 : Try.prog.underlying 12 = some (.int .u64) := by kernel_rfl
theorem zv_12 : ZV Try.prog 12 = some (.int .u64 0) := by kernel_rfl
theorem zok_12 : ZOk Try.prog 12 1 = true := by kernel_rfl
theorem by_12 : byOf Try.prog 12 = 8 := by kernel_rfl
theorem cells_13 : Try.prog.cellsOf 13 = 2 := by kernel_rfl
theorem ti_13 : TI Try.prog 13 = some (true, 2) := by kernel_rfl
theorem fi_13_0 : FI Try.prog 13 0 = some (0, (false, 1)) := by kernel_rfl
theorem fi_13_1 : FI Try.prog 13 1 = some (1, (false, 1)) := by kernel_rfl
theorem si_13 : SI Try.prog 13 = some [(0, 1), (1, 1)] := by kernel_rfl
theorem zv_13 : ZV Try.prog 13 = some (.agg [.str [], .int .u64 0]) := by kernel_rfl
theorem zok_13 : ZOk Try.prog 13 2 = true := by kernel_rfl
theorem by_13 : byOf Try.prog 13 = 24 := by kernel_rfl
theorem cells_21 : Try.prog.cellsOf 21 = 1 := by kernel_rfl
theorem ti_21 : TI Try.prog 21 = some (false, 1) := by kernel_rfl
theorem intK_21 : intK Try.prog 21 = some .i32 := by kernel_rfl
theorem un_21 : Try.prog.underlying 21 = some (.int .i32) := by kernel_rfl
theorem zv_21 : ZV Try.prog 21 = some (.int .i32 0) := by kernel_rfl
theorem zok_21 : ZOk Try.prog 21 1 = true := by kernel_rfl
theorem by_21 : byOf Try.prog 21 = 4 := by kernel_rfl
theorem cells_22 : Try.prog.cellsOf 22 = 1 := by kernel_rfl
theorem ti_22 : TI Try.prog 22 = some (false, 1) := by kernel_rfl
theorem ei_22 : EI Try.prog 22 = some (59, 1) := by kernel_rfl
theorem isSli_22 : isSli Try.prog 22 = true := by kernel_rfl
theorem notInt_22 : notInt Try.prog 22 = true := by kernel_rfl
theorem zv_22 : ZV Try.prog 22 = some (.nils) := by kernel_rfl
theorem zok_22 : ZOk Try.prog 22 1 = true := by kernel_rfl
theorem by_22 : byOf Try.prog 22 = 24 := by kernel_rfl
theorem cells_23 : Try.prog.cellsOf 23 = 1 := by kernel_rfl
theorem ti_23 : TI Try.prog 23 = some (false, 1) := by kernel_rfl
theorem ei_23 : EI Try.prog 23 = some (4, 1) := by kernel_rfl
theorem isSli_23 : isSli Try.prog 23 = true := by kernel_rfl
theorem notInt_23 : notInt Try.prog 23 = true := by kernel_rfl
theorem zv_23 : ZV Try.prog 23 = some (.nils) := by kernel_rfl
theorem zok_23 : ZOk Try.prog 23 1 = true := by kernel_rfl
theorem by_23 : byOf Try.prog 23 = 24 := by kernel_rfl
theorem cells_24 : Try.prog.cellsOf 24 = 2 := by kernel_rfl
theorem ti_24 : TI Try.prog 24 = some (true, 2) := by kernel_rfl
theorem fi_24_0 : FI Try.prog 24 0 = some (0, (false, 1)) := by kernel_rfl
theorem fi_24_1 : FI Try.prog 24 1 = some (1, (false, 1)) := by kernel_rfl
theorem si_24 : SI Try.prog 24 = some [(0, 1), (1, 1)] := by kernel_rfl
theorem zv_24 : ZV Try.prog 24 = some (.agg [.nils, .nils]) := by kernel_rfl
theorem zok_24 : ZOk Try.prog 24 2 = true := by kernel_rfl
theorem by_24 : byOf Try.prog 24 = 48 := by kernel_rfl
theorem cells_25 : Try.prog.cellsOf 25 = 2 := by kernel_rfl
theorem ti_25 : TI Try.prog 25 = some (true, 2) := by kernel_rfl
theorem fi_25_0 : FI Try.prog 25 0 = some (0, (false, 1)) := by kernel_rfl
theorem fi_25_1 : FI Try.prog 25 1 = some (1, (false, 1)) := by kernel_rfl
theorem si_25 : SI Try.prog 25 = some [(0, 1), (1, 1)] := by kernel_rfl
theorem zv_25 : ZV Try.prog 25 = some (.agg [.nils, .nils]) := by kernel_rfl
theorem zok_25 : ZOk Try.prog 25 2 = true := by kernel_rfl
theorem by_25 : byOf Try.prog 25 = 48 := by kernel_rfl
theorem cells_26 : Try.prog.cellsOf 26 = 1 := by kernel_rfl
theorem ti_26 : TI Try.prog 26 = some (false, 1) := by kernel_rfl
theorem intK_26 : intK Try.prog 26 = some .i64 := by kernel_rfl
theorem un_26 : Try.prog.underlying 26 = some (.int .i64) := by kernel_rfl
theorem zv_26 : ZV Try.prog 26 = some (.int .i64 0) := by kernel_rfl
theorem zok_26 : ZOk Try.prog 26 1 = true := by kernel_rfl
theorem by_26 : byOf Try.prog 26 = 8 := by kernel_rfl
theorem cells_28 : Try.prog.cellsOf 28 = 1 := by kernel_rfl
theorem ti_28 : TI Try.prog 28 = some (false, 1) := by kernel_rfl
theorem zv_28 : ZV Try.prog 28 = some (.any) := by kernel_rfl
theorem zok_28 : ZOk Try.prog 28 1 = true := by kernel_rfl
theorem by_28 : byOf Try.prog 28 = 8 := by kernel_rfl
theorem cells_29 : Try.prog.cellsOf 29 = 1 := by kernel_rfl
theorem ti_29 : TI Try.prog 29 = some (false, 1) := by kernel_rfl
theorem zv_29 : ZV Try.prog 29 = some (.any) := by kernel_rfl
theorem zok_29 : ZOk Try.prog 29 1 = true := by kernel_rfl
theorem by_29 : byOf Try.prog 29 = 8 := by kernel_rfl
theorem cells_30 : Try.prog.cellsOf 30 = 1 := by kernel_rfl
theorem ti_30 : TI Try.prog 30 = some (false, 1) := by kernel_rfl
theorem ei_30 : EI Try.prog 30 = some (32, 3) := by kernel_rfl
theorem isSli_30 : isSli Try.prog 30 = true := by kernel_rfl
theorem notInt_30 : notInt Try.prog 30 = true := by kernel_rfl
theorem zv_30 : ZV Try.prog 30 = some (.nils) := by kernel_rfl
theorem zok_30 : ZOk Try.prog 30 1 = true := by kernel_rfl
theorem by_30 : byOf Try.prog 30 = 24 := by kernel_rfl
theorem cells_31 : Try.prog.cellsOf 31 = 3 := by kernel_rfl
theorem ti_31 : TI Try.prog 31 = some (true, 3) := by kernel_rfl
theorem fi_31_0 : FI Try.prog 31 0 = some (0, (false, 1)) := by kernel_rfl
theorem fi_31_1 : FI Try.prog 31 1 = some (1, (false, 1)) := by kernel_rfl
theorem fi_31_2 : FI Try.prog 31 2 = some (2, (false, 1)) := by kernel_rfl
theorem si_31 : SI Try.prog 31 = some [(0, 1), (1, 1), (2, 1)] := by kernel_rfl
theorem zv_31 : ZV Try.prog 31 = some (.agg [.int .i64 0, .int .i64 0, .nils]) := by kernel_rfl
theorem zok_31 : ZOk Try.prog 31 3 = true := by kernel_rfl
theorem by_31 : byOf Try.prog 31 = 40 := by kernel_rfl
theorem cells_32 : Try.prog.cellsOf 32 = 3 := by kernel_rfl
theorem ti_32 : TI Try.prog 32 = some (true, 3) := by kernel_rfl
theorem fi_32_0 : FI Try.prog 32 0 = some (0, (false, 1)) := by kernel_rfl
theorem fi_32_1 : FI Try.prog 32 1 = some (1, (false, 1)) := by kernel_rfl
theorem fi_32_2 : FI Try.prog 32 2 = some (2, (false, 1)) := by kernel_rfl
theorem si_32 : SI Try.prog 32 = some [(0, 1), (1, 1), (2, 1)] := by kernel_rfl
theorem zv_32 : ZV Try.prog 32 = some (.agg [.int .i64 0, .int .i64 0, .nils]) := by kernel_rfl
theorem zok_32 : ZOk Try.prog 32 3 = true := by kernel_rfl
theorem by_32 : byOf Try.prog 32 = 40 := by kernel_rfl
theorem cells_34 : Try.prog.cellsOf 34 = 1 := by kernel_rfl
theorem ti_34 : TI Try.prog 34 = some (false, 1) := by kernel_rfl
theorem zv_34 : ZV Try.prog 34 = some (.any) := by kernel_rfl
theorem zok_34 : ZOk Try.prog 34 1 = true := by kernel_rfl
theorem by_34 : byOf Try.prog 34 = 8 := by kernel_rfl
theorem cells_35 : Try.prog.cellsOf 35 = 1 := by kernel_rfl
theorem ti_35 : TI Try.prog 35 = some (false, 1) := by kernel_rfl
theorem zv_35 : ZV Try.prog 35 = some (.any) := by kernel_rfl
theorem zok_35 : ZOk Try.prog 35 1 = true := by kernel_rfl
theorem by_35 : byOf Try.prog 35 = 8 := by kernel_rfl
theorem cells_36 : Try.prog.cellsOf 36 = 1 := by kernel_rfl
theorem ti_36 : TI Try.prog 36 = some (false, 1) := by kernel_rfl
theorem zv_36 : ZV Try.prog 36 = some (.any) := by kernel_rfl
theorem zok_36 : ZOk Try.prog 36 1 = true := by kernel_rfl
theorem by_36 : byOf Try.prog 36 = 8 := by kernel_rfl
theorem cells_37 : Try.prog.cellsOf 37 = 1 := by kernel_rfl
theorem ti_37 : TI Try.prog 37 = some (false, 1) := by kernel_rfl
theorem ei_37 : EI Try.prog 37 = some (76, 4) := by kernel_rfl
theorem isSli_37 : isSli Try.prog 37 = true := by kernel_rfl
theorem notInt_37 : notInt Try.prog 37 = true := by kernel_rfl
theorem zv_37 : ZV Try.prog 37 = some (.nils) := by kernel_rfl
theorem zok_37 : ZOk Try.prog 37 1 = true := by kernel_rfl
theorem by_37 : byOf Try.prog 37 = 24 := by kernel_rfl
theorem cells_38 : Try.prog.cellsOf 38 = 1 := by kernel_rfl
theorem ti_38 : TI Try.prog 38 = some (false, 1) := by kernel_rfl
theorem ei_38 : EI Try.prog 38 = some (80, 6) := by kernel_rfl
theorem isSli_38 : isSli Try.prog 38 = true := by kernel_rfl
theorem notInt_38 : notInt Try.prog 38 = true := by kernel_rfl
theorem zv_38 : ZV Try.prog 38 = some (.nils) := by kernel_rfl
theorem zok_38 : ZOk Try.prog 38 1 = true := by kernel_rfl
theorem by_38 : byOf Try.prog 38 = 24 := by kernel_rfl
theorem cells_40 : Try.prog.cellsOf 40 = 1 := by kernel_rfl
theorem ti_40 : TI Try.prog 40 = some (false, 1) := by kernel_rfl
theorem zv_40 : ZV Try.prog 40 = some (.any) := by kernel_rfl
theorem zok_40 : ZOk Try.prog 40 1 = true := by kernel_rfl
theorem by_40 : byOf Try.prog 40 = 8 := by kernel_rfl
theorem cells_41 : Try.prog.cellsOf 41 = 1 := by kernel_rfl
theorem ti_41 : TI Try.prog 41 = some (false, 1) := by kernel_rfl
theorem zv_41 : ZV Try.prog 41 = some (.any) := by kernel_rfl
theorem zok_41 : ZOk Try.prog 41 1 = true := by kernel_rfl
theorem by_41 : byOf Try.prog 41 = 8 := by kernel_rfl
theorem cells_42 : Try.prog.cellsOf 42 = 1 := by kernel_rfl
theorem ti_42 : TI Try.prog 42 = some (false, 1) := by kernel_rfl
theorem zv_42 : ZV Try.prog 42 = some (.any) := by kernel_rfl
theorem zok_42 : ZOk Try.prog 42 1 = true := by kernel_rfl
theorem by_42 : byOf Try.prog 42 = 8 := by kernel_rfl
theorem cells_44 : Try.prog.cellsOf 44 = 1 := by kernel_rfl
theorem ti_44 : TI Try.prog 44 = some (false, 1) := by kernel_rfl
theorem zv_44 : ZV Try.prog 44 = some (.any) := by kernel_rfl
theorem zok_44 : ZOk Try.prog 44 1 = true := by kernel_rfl
theorem by_44 : byOf Try.prog 44 = 8 := by kernel_rfl
theorem cells_45 : Try.prog.cellsOf 45 = 1 := by kernel_rfl
theorem ti_45 : TI Try.prog 45 = some (false, 1) := by kernel_rfl
theorem zv_45 : ZV Try.prog 45 = some (.any) := by kernel_rfl
theorem zok_45 : ZOk Try.prog 45 1 = true := by kernel_rfl
theorem by_45 : byOf Try.prog 45 = 8 := by kernel_rfl
theorem cells_46 : Try.prog.cellsOf 46 = 1 := by kernel_rfl
theorem ti_46 : TI Try.prog 46 = some (false, 1) := by kernel_rfl
theorem zv_46 : ZV Try.prog 46 = some (.any) := by kernel_rfl
theorem zok_46 : ZOk Try.prog 46 1 = true := by kernel_rfl
theorem by_46 : byOf Try.prog 46 = 8 := by kernel_rfl
theorem cells_47 : Try.prog.cellsOf 47 = 1 := by kernel_rfl
theorem ti_47 : TI Try.prog 47 = some (false, 1) := by kernel_rfl
theorem ei_47 : EI Try.prog 47 = some (53, 2) := by kernel_rfl
theorem isSli_47 : isSli Try.prog 47 = true := by kernel_rfl
theorem notInt_47 : notInt Try.prog 47 = true := by kernel_rfl
theorem zv_47 : ZV Try.prog 47 = some (.nils) := by kernel_rfl
theorem zok_47 : ZOk Try.prog 47 1 = true := by kernel_rfl
theorem by_47 : byOf Try.prog 47 = 24 := by kernel_rfl
theorem cells_48 : Try.prog.cellsOf 48 = 1 := by kernel_rfl
theorem ti_48 : TI Try.prog 48 = some (false, 1) := by kernel_rfl
theorem ei_48 : EI Try.prog 48 = some (88, 8) := by kernel_rfl
theorem isSli_48 : isSli Try.prog 48 = true := by kernel_rfl
theorem notInt_48 : notInt Try.prog 48 = true := by kernel_rfl
theorem zv_48 : ZV Try.prog 48 = some (.nils) := by kernel_rfl
theorem zok_48 : ZOk Try.prog 48 1 = true := by kernel_rfl
theorem by_48 : byOf Try.prog 48 = 24 := by kernel_rfl
theorem cells_50 : Try.prog.cellsOf 50 = 1 := by kernel_rfl
theorem ti_50 : TI Try.prog 50 = some (false, 1) := by kernel_rfl
theorem zv_50 : ZV Try.prog 50 = some (.any) := by kernel_rfl
theorem zok_50 : ZOk Try.prog 50 1 = true := by kernel_rfl
theorem by_50 : byOf Try.prog 50 = 8 := by kernel_rfl
theorem cells_51 : Try.prog.cellsOf 51 = 1 := by kernel_rfl
theorem ti_51 : TI Try.prog 51 = some (false, 1) := by kernel_rfl
theorem zv_51 : ZV Try.prog 51 = some (.any) := by kernel_rfl
theorem zok_51 : ZOk Try.prog 51 1 = true := by kernel_rfl
theorem by_51 : byOf Try.prog 51 = 8 := by kernel_rfl
theorem cells_52 : Try.prog.cellsOf 52 = 2 := by kernel_rfl
theorem ti_52 : TI Try.prog 52 = some (true, 2) := by kernel_rfl
theorem fi_52_0 : FI Try.prog 52 0 = some (0, (false, 1)) := by kernel_rfl
theorem fi_52_1 : FI Try.prog 52 1 = some (1, (false, 1)) := by kernel_rfl
theorem si_52 : SI Try.prog 52 = some [(0, 1), (1, 1)] := by kernel_rfl
theorem zv_52 : ZV Try.prog 52 = some (.agg [.int .i64 0, .int .i64 0]) := by kernel_rfl
theorem zok_52 : ZOk Try.prog 52 2 = true := by kernel_rfl
theorem by_52 : byOf Try.prog 52 = 16 := by kernel_rfl
theorem cells_53 : Try.prog.cellsOf 53 = 2 := by kernel_rfl
theorem ti_53 : TI Try.prog 53 = some (true, 2) := by kernel_rfl
theorem fi_53_0 : FI Try.prog 53 0 = some (0, (false, 1)) := by kernel_rfl
theorem fi_53_1 : FI Try.prog 53 1 = some (1, (false, 1)) := by kernel_rfl
theorem si_53 : SI Try.prog 53 = some [(0, 1), (1, 1)] := by kernel_rfl
theorem zv_53 : ZV Try.prog 53 = some (.agg [.int .i64 0, .int .i64 0]) := by kernel_rfl
theorem zok_53 : ZOk Try.prog 53 2 = true := by kernel_rfl
theorem by_53 : byOf Try.prog 53 = 16 := by kernel_rfl
theorem cells_54 : Try.prog.cellsOf 54 = 1 := by kernel_rfl
theorem ti_54 : TI Try.prog 54 = some (false, 1) := by kernel_rfl
theorem zv_54 : ZV Try.prog 54 = some (.any) := by kernel_rfl
theorem zok_54 : ZOk Try.prog 54 1 = true := by kernel_rfl
theorem by_54 : byOf Try.prog 54 = 8 := by kernel_rfl
theorem cells_55 : Try.prog.cellsOf 55 = 1 := by kernel_rfl
theorem ti_55 : TI Try.prog 55 = some (false, 1) := by kernel_rfl
theorem zv_55 : ZV Try.prog 55 = some (.any) := by kernel_rfl
theorem zok_55 : ZOk Try.prog 55 1 = true := by kernel_rfl
theorem by_55 : byOf Try.prog 55 = 8 := by kernel_rfl
theorem cells_56 : Try.prog.cellsOf 56 = 2 := by kernel_rfl
theorem ti_56 : TI Try.prog 56 = some (true, 2) := by kernel_rfl
theorem fi_56_0 : FI Try.prog 56 0 = some (0, (false, 1)) := by kernel_rfl
theorem fi_56_1 : FI Try.prog 56 1 = some (1, (false, 1)) := by kernel_rfl
theorem si_56 : SI Try.prog 56 = some [(0, 1), (1, 1)] := by kernel_rfl
theorem zv_56 : ZV Try.prog 56 = some (.agg [.nils, .nils]) := by kernel_rfl
theorem zok_56 : ZOk Try.prog 56 2 = true := by kernel_rfl
theorem by_56 : byOf Try.prog 56 = 48 := by kernel_rfl
theorem cells_57 : Try.prog.cellsOf 57 = 2 := by kernel_rfl
theorem ti_57 : TI Try.prog 57 = some (true, 2) := by kernel_rfl
theorem fi_57_0 : FI Try.prog 57 0 = some (0, (false, 1)) := by kernel_rfl
theorem fi_57_1 : FI Try.prog 57 1 = some (1, (false, 1)) := by kernel_rfl
theorem si_57 : SI Try.prog 57 = some [(0, 1), (1, 1)] := by kernel_rfl
theorem zv_57 : ZV Try.prog 57 = some (.agg [.nils, .nils]) := by kernel_rfl
theorem zok_57 : ZOk Try.prog 57 2 = true := by kernel_rfl
theorem by_57 : byOf Try.prog 57 = 48 := by kernel_rfl
theorem cells_58 : Try.prog.cellsOf 58 = 1 := by kernel_rfl
theorem ti_58 : TI Try.prog 58 = some (false, 1) := by kernel_rfl
theorem zv_58 : ZV Try.prog 58 = some (.any) := by kernel_rfl
theorem zok_58 : ZOk Try.prog 58 1 = true := by kernel_rfl
theorem by_58 : byOf Try.prog 58 = 8 := by kernel_rfl
theorem cells_59 : Try.prog.cellsOf 59 = 1 := by kernel_rfl
theorem ti_59 : TI Try.prog 59 = some (false, 1) := by kernel_rfl
theorem ei_59 : EI Try.prog 59 = some (3, 1) := by kernel_rfl
theorem isSli_59 : isSli Try.prog 59 = true := by kernel_rfl
theorem notInt_59 : notInt Try.prog 59 = true := by kernel_rfl
theorem zv_59 : ZV Try.prog 59 = some (.nils) := by kernel_rfl
theorem zok_59 : ZOk Try.prog 59 1 = true := by kernel_rfl
theorem by_59 : byOf Try.prog 59 = 24 := by kernel_rfl
theorem cells_60 : Try.prog.cellsOf 60 = 1 := by kernel_rfl
theorem ti_60 : TI Try.prog 60 = some (false, 1) := by kernel_rfl
theorem ei_60 : EI Try.prog 60 = some (23, 1) := by kernel_rfl
theorem isSli_60 : isSli Try.prog 60 = true := by kernel_rfl
theorem notInt_60 : notInt Try.prog 60 = true := by kernel_rfl
theorem zv_60 : ZV Try.prog 60 = some (.nils) := by kernel_rfl
theorem zok_60 : ZOk Try.prog 60 1 = true := by kernel_rfl
theorem by_60 : byOf Try.prog 60 = 24 := by kernel_rfl
theorem cells_61 : Try.prog.cellsOf 61 = 1 := by kernel_rfl
theorem ti_61 : TI Try.prog 61 = some (false, 1) := by kernel_rfl
theorem zv_61 : ZV Try.prog 61 = some (.any) := by kernel_rfl
theorem zok_61 : ZOk Try.prog 61 1 = true := by kernel_rfl
theorem by_61 : byOf Try.prog 61 = 8 := by kernel_rfl
theorem cells_62 : Try.prog.cellsOf 62 = 1 := by kernel_rfl
theorem ti_62 : TI Try.prog 62 = some (false, 1) := by kernel_rfl
theorem isPtr_62 : isPtr Try.prog 62 = true := by kernel_rfl
theorem zv_62 : ZV Try.prog 62 = some (.nilp) := by kernel_rfl
theorem zok_62 : ZOk Try.prog 62 1 = true := by kernel_rfl
theorem by_62 : byOf Try.prog 62 = 8 := by kernel_rfl
theorem cells_63 : Try.prog.cellsOf 63 = 2 := by kernel_rfl
theorem ti_63 : TI Try.prog 63 = some (true, 2) := by kernel_rfl
theorem fi_63_0 : FI Try.prog 63 0 = some (0, (false, 1)) := by kernel_rfl
theorem fi_63_1 : FI Try.prog 63 1 = some (1, (false, 1)) := by kernel_rfl
theorem si_63 : SI Try.prog 63 = some [(0, 1), (1, 1)] := by kernel_rfl
theorem zv_63 : ZV Try.prog 63 = some (.agg [.str [], .bool false]) := by kernel_rfl
theorem zok_63 : ZOk Try.prog 63 2 = true := by kernel_rfl
theorem by_63 : byOf Try.prog 63 = 24 := by kernel_rfl
theorem cells_64 : Try.prog.cellsOf 64 = 2 := by kernel_rfl
theorem ti_64 : TI Try.prog 64 = some (true, 2) := by kernel_rfl
theorem fi_64_0 : FI Try.prog 64 0 = some (0, (false, 1)) := by kernel_rfl
theorem fi_64_1 : FI Try.prog 64 1 = some (1, (false, 1)) := by kernel_rfl
theorem si_64 : SI Try.prog 64 = some [(0, 1), (1, 1)] := by kernel_rfl
theorem zv_64 : ZV Try.prog 64 = some (.agg [.str [], .bool false]) := by kernel_rfl
theorem zok_64 : ZOk Try.prog 64 2 = true := by kernel_rfl
theorem by_64 : byOf Try.prog 64 = 24 := by kernel_rfl
theorem cells_65 : Try.prog.cellsOf 65 = 1 := by kernel_rfl
theorem ti_65 : TI Try.prog 65 = some (false, 1) := by kernel_rfl
theorem zv_65 : ZV Try.prog 65 = some (.any) := by kernel_rfl
theorem zok_65 : ZOk Try.prog 65 1 = true := by kernel_rfl
theorem by_65 : byOf Try.prog 65 = 8 := by kernel_rfl
theorem cells_66 : Try.prog.cellsOf 66 = 1 := by kernel_rfl
theorem ti_66 : TI Try.prog 66 = some (false, 1) := by kernel_rfl
theorem zv_66 : ZV Try.prog 66 = some (.any) := by kernel_rfl
theorem zok_66 : ZOk Try.prog 66 1 = true := by kernel_rfl
theorem by_66 : byOf Try.prog 66 = 8 := by kernel_rfl
theorem cells_68 : Try.prog.cellsOf 68 = 1 := by kernel_rfl
theorem ti_68 : TI Try.prog 68 = some (false, 1) := by kernel_rfl
theorem zv_68 : ZV Try.prog 68 = some (.any) := by kernel_rfl
theorem zok_68 : ZOk Try.prog 68 1 = true := by kernel_rfl
theorem by_68 : byOf Try.prog 68 = 8 := by kernel_rfl
theorem cells_70 : Try.prog.cellsOf 70 = 1 := by kernel_rfl
theorem ti_70 : TI Try.prog 70 = some (false, 1) := by kernel_rfl
theorem zv_70 : ZV Try.prog 70 = some (.any) := by kernel_rfl
theorem zok_70 : ZOk Try.prog 70 1 = true := by kernel_rfl
theorem by_70 : byOf Try.prog 70 = 8 := by kernel_rfl
theorem cells_71 : Try.prog.cellsOf 71 = 1 := by kernel_rfl
theorem ti_71 : TI Try.prog 71 = some (false, 1) := by kernel_rfl
theorem ei_71 : EI Try.prog 71 = some (37, 1) := by kernel_rfl
theorem isSli_71 : isSli Try.prog 71 = true := by kernel_rfl
theorem notInt_71 : notInt Try.prog 71 = true := by kernel_rfl
theorem zv_71 : ZV Try.prog 71 = some (.nils) := by kernel_rfl
theorem zok_71 : ZOk Try.prog 71 1 = true := by kernel_rfl
theorem by_71 : byOf Try.prog 71 = 24 := by kernel_rfl
theorem cells_73 : Try.prog.cellsOf 73 = 1 := by kernel_rfl
theorem ti_73 : TI Try.prog 73 = some (false, 1) := by kernel_rfl
theorem zv_73 : ZV Try.prog 73 = some (.any) := by kernel_rfl
theorem zok_73 : ZOk Try.prog 73 1 = true := by kernel_rfl
theorem by_73 : byOf Try.prog 73 = 8 := by kernel_rfl
theorem cells_74 : Try.prog.cellsOf 74 = 1 := by kernel_rfl
theorem ti_74 : TI Try.prog 74 = some (false, 1) := by kernel_rfl
theorem ei_74 : EI Try.prog 74 = some (106, 2) := by kernel_rfl
theorem isSli_74 : isSli Try.prog 74 = true := by kernel_rfl
theorem notInt_74 : notInt Try.prog 74 = true := by kernel_rfl
theorem zv_74 : ZV Try.prog 74 = some (.nils) := by kernel_rfl
theorem zok_74 : ZOk Try.prog 74 1 = true := by kernel_rfl
theorem by_74 : byOf Try.prog 74 = 24 := by kernel_rfl
theorem cells_75 : Try.prog.cellsOf 75 = 4 := by kernel_rfl
theorem ti_75 : TI Try.prog 75 = some (true, 4) := by kernel_rfl
theorem fi_75_0 : FI Try.prog 75 0 = some (0, (false, 1)) := by kernel_rfl
theorem fi_75_1 : FI Try.prog 75 1 = some (1, (false, 1)) := by kernel_rfl
theorem fi_75_2 : FI Try.prog 75 2 = some (2, (false, 1)) := by kernel_rfl
theorem fi_75_3 : FI Try.prog 75 3 = some (3, (false, 1)) := by kernel_rfl
theorem si_75 : SI Try.prog 75 = some [(0, 1), (1, 1), (2, 1), (3, 1)] := by kernel_rfl
theorem zv_75 : ZV Try.prog 75 = some (.agg [.str [], .nils, .str [], .nils]) := by kernel_rfl
theorem zok_75 : ZOk Try.prog 75 4 = true := by kernel_rfl
theorem by_75 : byOf Try.prog 75 = 80 := by kernel_rfl
theorem cells_76 : Try.prog.cellsOf 76 = 4 := by kernel_rfl
theorem ti_76 : TI Try.prog 76 = some (true, 4) := by kernel_rfl
theorem fi_76_0 : FI Try.prog 76 0 = some (0, (false, 1)) := by kernel_rfl
theorem fi_76_1 : FI Try.prog 76 1 = some (1, (false, 1)) := by kernel_rfl
theorem fi_76_2 : FI Try.prog 76 2 = some (2, (false, 1)) := by kernel_rfl
theorem fi_76_3 : FI Try.prog 76 3 = some (3, (false, 1)) := by kernel_rfl
theorem si_76 : SI Try.prog 76 = some [(0, 1), (1, 1), (2, 1), (3, 1)] := by kernel_rfl
theorem zv_76 : ZV Try.prog 76 = some (.agg [.str [], .nils, .str [], .nils]) := by kernel_rfl
theorem zok_76 : ZOk Try.prog 76 4 = true := by kernel_rfl
theorem by_76 : byOf Try.prog 76 = 80 := by kernel_rfl
theorem cells_77 : Try.prog.cellsOf 77 = 1 := by kernel_rfl
theorem ti_77 : TI Try.prog 77 = some (false, 1) := by kernel_rfl
theorem zv_77 : ZV Try.prog 77 = some (.any) := by kernel_rfl
theorem zok_77 : ZOk Try.prog 77 1 = true := by kernel_rfl
theorem by_77 : byOf Try.prog 77 = 8 := by kernel_rfl
theorem cells_78 : Try.prog.cellsOf 78 = 1 := by kernel_rfl
theorem ti_78 : TI Try.prog 78 = some (false, 1) := by kernel_rfl
theorem zv_78 : ZV Try.prog 78 = some (.any) := by kernel_rfl
theorem zok_78 : ZOk Try.prog 78 1 = true := by kernel_rfl
theorem by_78 : byOf Try.prog 78 = 8 := by kernel_rfl
theorem cells_79 : Try.prog.cellsOf 79 = 6 := by kernel_rfl
theorem ti_79 : TI Try.prog 79 = some (true, 6) := by kernel_rfl
theorem fi_79_0 : FI Try.prog 79 0 = some (0, (false, 1)) := by kernel_rfl
theorem fi_79_1 : FI Try.prog 79 1 = some (1, (false, 1)) := by kernel_rfl
theorem fi_79_2 : FI Try.prog 79 2 = some (2, (true, 4)) := by kernel_rfl
theorem si_79 : SI Try.prog 79 = some [(0, 1), (1, 1), (2, 4)] := by kernel_rfl
theorem zv_79 : ZV Try.prog 79 = some (.agg [.int .i64 0, .nils, .str [], .nils, .str [], .nils]) := by kernel_rfl
theorem zok_79 : ZOk Try.prog 79 6 = true := by kernel_rfl
theorem by_79 : byOf Try.prog 79 = 112 := by kernel_rfl
theorem cells_80 : Try.prog.cellsOf 80 = 6 := by kernel_rfl
theorem ti_80 : TI Try.prog 80 = some (true, 6) := by kernel_rfl
theorem fi_80_0 : FI Try.prog 80 0 = some (0, (false, 1)) := by kernel_rfl
theorem fi_80_1 : FI Try.prog 80 1 = some (1, (false, 1)) := by kernel_rfl
theorem fi_80_2 : FI Try.prog 80 2 = some (2, (true, 4)) := by kernel_rfl
theorem si_80 : SI Try.prog 80 = some [(0, 1), (1, 1), (2, 4)] := by kernel_rfl
theorem zv_80 : ZV Try.prog 80 = some (.agg [.int .i64 0, .nils, .str [], .nils, .str [], .nils]) := by kernel_rfl
theorem zok_80 : ZOk Try.prog 80 6 = true := by kernel_rfl
theorem by_80 : byOf Try.prog 80 = 112 := by kernel_rfl
theorem cells_82 : Try.prog.cellsOf 82 = 1 := by kernel_rfl
theorem ti_82 : TI Try.prog 82 = some (false, 1) := by kernel_rfl
theorem zv_82 : ZV Try.prog 82 = some (.any) := by kernel_rfl
theorem zok_82 : ZOk Try.prog 82 1 = true := by kernel_rfl
theorem by_82 : byOf Try.prog 82 = 8 := by kernel_rfl
theorem cells_83 : Try.prog.cellsOf 83 = 1 := by kernel_rfl
theorem ti_83 : TI Try.prog 83 = some (false, 1) := by kernel_rfl
theorem zv_83 : ZV Try.prog 83 = some (.any) := by kernel_rfl
theorem zok_83 : ZOk Try.prog 83 1 = true := by kernel_rfl
theorem by_83 : byOf Try.prog 83 = 8 := by kernel_rfl
theorem cells_84 : Try.prog.cellsOf 84 = 1 := by kernel_rfl
theorem ti_84 : TI Try.prog 84 = some (false, 1) := by kernel_rfl
theorem zv_84 : ZV Try.prog 84 = some (.any) := by kernel_rfl
theorem zok_84 : ZOk Try.prog 84 1 = true := by kernel_rfl
theorem by_84 : byOf Try.prog 84 = 8 := by kernel_rfl
theorem cells_85 : Try.prog.cellsOf 85 = 1 := by kernel_rfl
theorem ti_85 : TI Try.prog 85 = some (false, 1) := by kernel_rfl
theorem zv_85 : ZV Try.prog 85 = some (.any) := by kernel_rfl
theorem zok_85 : ZOk Try.prog 85 1 = true := by kernel_rfl
theorem by_85 : byOf Try.prog 85 = 8 := by kernel_rfl
theorem cells_86 : Try.prog.cellsOf 86 = 1 := by kernel_rfl
theorem ti_86 : TI Try.prog 86 = some (false, 1) := by kernel_rfl
theorem zv_86 : ZV Try.prog 86 = some (.any) := by kernel_rfl
theorem zok_86 : ZOk Try.prog 86 1 = true := by kernel_rfl
theorem by_86 : byOf Try.prog 86 = 8 := by kernel_rfl
theorem cells_87 : Try.prog.cellsOf 87 = 1 := by kernel_rfl
theorem ti_87 : TI Try.prog 87 = some (false, 1) := by kernel_rfl
theorem zv_87 : ZV Try.prog 87 = some (.any) := by kernel_rfl
theorem zok_87 : ZOk Try.prog 87 1 = true := by kernel_rfl
theorem by_87 : byOf Try.prog 87 = 8 := by kernel_rfl
theorem cells_88 : Try.prog.cellsOf 88 = 8 := by kernel_rfl
theorem ti_88 : TI Try.prog 88 = some (true, 8) := by kernel_rfl
theorem ai_88 : AI Try.prog 88 = some (8, (false, 1)) := by kernel_rfl
theorem zv_88 : ZV Try.prog 88 = some (.agg [.int .i64 0, .int .i64 0, .int .i64 0, .int .i64 0, .int .i64 0, .int .i64 0, .int .i64 0, .int .i64 0]) := by kernel_rfl
theorem zok_88 : ZOk Try.prog 88 8 = true := by kernel_rfl
theorem by_88 : byOf Try.prog 88 = 64 := by kernel_rfl
theorem cells_89 : Try.prog.cellsOf 89 = 1 := by kernel_rfl
theorem ti_89 : TI Try.prog 89 = some (false, 1) := by kernel_rfl
theorem zv_89 : ZV Try.prog 89 = some (.any) := by kernel_rfl
theorem zok_89 : ZOk Try.prog 89 1 = true := by kernel_rfl
theorem by_89 : byOf Try.prog 89 = 8 := by kernel_rfl
theorem cells_91 : Try.prog.cellsOf 91 = 1 := by kernel_rfl
theorem ti_91 : TI Try.prog 91 = some (false, 1) := by kernel_rfl
theorem zv_91 : ZV Try.prog 91 = some (.any) := by kernel_rfl
theorem zok_91 : ZOk Try.prog 91 1 = true := by kernel_rfl
theorem by_91 : byOf Try.prog 91 = 8 := by kernel_rfl
theorem cells_92 : Try.prog.cellsOf 92 = 1 := by kernel_rfl
theorem ti_92 : TI Try.prog 92 = some (false, 1) := by kernel_rfl
theorem zv_92 : ZV Try.prog 92 = some (.any) := by kernel_rfl
theorem zok_92 : ZOk Try.prog 92 1 = true := by kernel_rfl
theorem by_92 : byOf Try.prog 92 = 8 := by kernel_rfl
theorem cells_93 : Try.prog.cellsOf 93 = 1 := by kernel_rfl
theorem ti_93 : TI Try.prog 93 = some (false, 1) := by kernel_rfl
theorem zv_93 : ZV Try.prog 93 = some (.any) := by kernel_rfl
theorem zok_93 : ZOk Try.prog 93 1 = true := by kernel_rfl
theorem by_93 : byOf Try.prog 93 = 8 := by kernel_rfl
theorem cells_94 : Try.prog.cellsOf 94 = 1 := by kernel_rfl
theorem ti_94 : TI Try.prog 94 = some (false, 1) := by kernel_rfl
theorem zv_94 : ZV Try.prog 94 = some (.any) := by kernel_rfl
theorem zok_94 : ZOk Try.prog 94 1 = true := by kernel_rfl
theorem by_94 : byOf Try.prog 94 = 8 := by kernel_rfl
theorem cells_95 : Try.prog.cellsOf 95 = 1 := by kernel_rfl
theorem ti_95 : TI Try.prog 95 = some (false, 1) := by kernel_rfl
theorem isPtr_95 : isPtr Try.prog 95 = true := by kernel_rfl
theorem zv_95 : ZV Try.prog 95 = some (.nilp) := by kernel_rfl
theorem zok_95 : ZOk Try.prog 95 1 = true := by kernel_rfl
theorem by_95 : byOf Try.prog 95 = 8 := by kernel_rfl
theorem cells_96 : Try.prog.cellsOf 96 = 1 := by kernel_rfl
theorem ti_96 : TI Try.prog 96 = some (false, 1) := by kernel_rfl
theorem zv_96 : ZV Try.prog 96 = some (.any) := by kernel_rfl
theorem zok_96 : ZOk Try.prog 96 1 = true := by kernel_rfl
theorem by_96 : byOf Try.prog 96 = 8 := by kernel_rfl
theorem cells_97 : Try.prog.cellsOf 97 = 1 := by kernel_rfl
theorem ti_97 : TI Try.prog 97 = some (false, 1) := by kernel_rfl
theorem zv_97 : ZV Try.prog 97 = some (.any) := by kernel_rfl
theorem zok_97 : ZOk Try.prog 97 1 = true := by kernel_rfl
theorem by_97 : byOf Try.prog 97 = 8 := by kernel_rfl
theorem cells_98 : Try.prog.cellsOf 98 = 1 := by kernel_rfl
theorem ti_98 : TI Try.prog 98 = some (false, 1) := by kernel_rfl
theorem zv_98 : ZV Try.prog 98 = some (.any) := by kernel_rfl
theorem zok_98 : ZOk Try.prog 98 1 = true := by kernel_rfl
theorem by_98 : byOf Try.prog 98 = 8 := by kernel_rfl
theorem cells_100 : Try.prog.cellsOf 100 = 1 := by kernel_rfl
theorem ti_100 : TI Try.prog 100 = some (false, 1) := by kernel_rfl
theorem zv_100 : ZV Try.prog 100 = some (.any) := by kernel_rfl
theorem zok_100 : ZOk Try.prog 100 1 = true := by kernel_rfl
theorem by_100 : byOf Try.prog 100 = 8 := by kernel_rfl
theorem cells_101 : Try.prog.cellsOf 101 = 1 := by kernel_rfl
theorem ti_101 : TI Try.prog 101 = some (false, 1) := by kernel_rfl
theorem zv_101 : ZV Try.prog 101 = some (.any) := by kernel_rfl
theorem zok_101 : ZOk Try.prog 101 1 = true := by kernel_rfl
theorem by_101 : byOf Try.prog 101 = 8 := by kernel_rfl
theorem cells_103 : Try.prog.cellsOf 103 = 1 := by kernel_rfl
theorem ti_103 : TI Try.prog 103 = some (false, 1) := by kernel_rfl
theorem zv_103 : ZV Try.prog 103 = some (.any) := by kernel_rfl
theorem zok_103 : ZOk Try.prog 103 1 = true := by kernel_rfl
theorem by_103 : byOf Try.prog 103 = 8 := by kernel_rfl
theorem cells_104 : Try.prog.cellsOf 104 = 1 := by kernel_rfl
theorem ti_104 : TI Try.prog 104 = some (false, 1) := by kernel_rfl
theorem zv_104 : ZV Try.prog 104 = some (.any) := by kernel_rfl
theorem zok_104 : ZOk Try.prog 104 1 = true := by kernel_rfl
theorem by_104 : byOf Try.prog 104 = 8 := by kernel_rfl
theorem cells_105 : Try.prog.cellsOf 105 = 2 := by kernel_rfl
theorem ti_105 : TI Try.prog 105 = some (true, 2) := by kernel_rfl
theorem fi_105_0 : FI Try.prog 105 0 = some (0, (false, 1)) := by kernel_rfl
theorem fi_105_1 : FI Try.prog 105 1 = some (1, (false, 1)) := by kernel_rfl
theorem si_105 : SI Try.prog 105 = some [(0, 1), (1, 1)] := by kernel_rfl
theorem zv_105 : ZV Try.prog 105 = some (.agg [.str [], .str []]) := by kernel_rfl
theorem zok_105 : ZOk Try.prog 105 2 = true := by kernel_rfl
theorem by_105 : byOf Try.prog 105 = 32 := by kernel_rfl
theorem cells_106 : Try.prog.cellsOf 106 = 2 := by kernel_rfl
theorem ti_106 : TI Try.prog 106 = some (true, 2) := by kernel_rfl
theorem fi_106_0 : FI Try.prog 106 0 = some (0, (false, 1)) := by kernel_rfl
theorem fi_106_1 : FI Try.prog 106 1 = some (1, (false, 1)) := by kernel_rfl
theorem si_106 : SI Try.prog 106 = some [(0, 1), (1, 1)] := by kernel_rfl
theorem zv_106 : ZV Try.prog 106 = some (.agg [.str [], .str []]) := by kernel_rfl
theorem zok_106 : ZOk Try.prog 106 2 = true := by kernel_rfl
theorem by_106 : byOf Try.prog 106 = 32 := by kernel_rfl
theorem cells_107 : Try.prog.cellsOf 107 = 1 := by kernel_rfl
theorem ti_107 : TI Try.prog 107 = some (false, 1) := by kernel_rfl
theorem zv_107 : ZV Try.prog 107 = some (.any) := by kernel_rfl
theorem zok_107 : ZOk Try.prog 107 1 = true := by kernel_rfl
theorem by_107 : byOf Try.prog 107 = 8 := by kernel_rfl
theorem cells_108 : Try.prog.cellsOf 108 = 1 := by kernel_rfl
theorem ti_108 : TI Try.prog 108 = some (false, 1) := by kernel_rfl
theorem zv_108 : ZV Try.prog 108 = some (.any) := by kernel_rfl
theorem zok_108 : ZOk Try.prog 108 1 = true := by kernel_rfl
theorem by_108 : byOf Try.prog 108 = 8 := by kernel_rfl
theorem cells_109 : Try.prog.cellsOf 109 = 1 := by kernel_rfl
theorem ti_109 : TI Try.prog 109 = some (false, 1) := by kernel_rfl
theorem zv_109 : ZV Try.prog 109 = some (.any) := by kernel_rfl
theorem zok_109 : ZOk Try.prog 109 1 = true := by kernel_rfl
theorem by_109 : byOf Try.prog 109 = 8 := by kernel_rfl
theorem cells_110 : Try.prog.cellsOf 110 = 1 := by kernel_rfl
theorem ti_110 : TI Try.prog 110 = some (false, 1) := by kernel_rfl
theorem zv_110 : ZV Try.prog 110 = some (.any) := by kernel_rfl
theorem zok_110 : ZOk Try.prog 110 1 = true := by kernel_rfl
theorem by_110 : byOf Try.prog 110 = 8 := by kernel_rfl
theorem cells_111 : Try.prog.cellsOf 111 = 1 := by kernel_rfl
theorem ti_111 : TI Try.prog 111 = some (false, 1) := by kernel_rfl
theorem ei_111 : EI Try.prog 111 = some (9, 1) := by kernel_rfl
theorem isSli_111 : isSli Try.prog 111 = true := by kernel_rfl
theorem notInt_111 : notInt Try.prog 111 = true := by kernel_rfl
theorem zv_111 : ZV Try.prog 111 = some (.nils) := by kernel_rfl
theorem zok_111 : ZOk Try.prog 111 1 = true := by kernel_rfl
theorem by_111 : byOf Try.prog 111 = 24 := by kernel_rfl
theorem cells_112 : Try.prog.cellsOf 112 = 1 := by kernel_rfl
theorem ti_112 : TI Try.prog 112 = some (false, 1) := by kernel_rfl
theorem zv_112 : ZV Try.prog 112 = some (.any) := by kernel_rfl
theorem zok_112 : ZOk Try.prog 112 1 = true := by kernel_rfl
theorem by_112 : byOf Try.prog 112 = 8 := by kernel_rfl
theorem cells_113 : Try.prog.cellsOf 113 = 1 := by kernel_rfl
theorem ti_113 : TI Try.prog 113 = some (false, 1) := by kernel_rfl
theorem zv_113 : ZV Try.prog 113 = some (.any) := by kernel_rfl
theorem zok_113 : ZOk Try.prog 113 1 = true := by kernel_rfl
theorem by_113 : byOf Try.prog 113 = 8 := by kernel_rfl
theorem cells_114 : Try.prog.cellsOf 114 = 1 := by kernel_rfl
theorem ti_114 : TI Try.prog 114 = some (false, 1) := by kernel_rfl
theorem ei_114 : EI Try.prog 114 = some (5, 1) := by kernel_rfl
theorem isSli_114 : isSli Try.prog 114 = true := by kernel_rfl
theorem notInt_114 : notInt Try.prog 114 = true := by kernel_rfl
theorem zv_114 : ZV Try.prog 114 = some (.nils) := by kernel_rfl
theorem zok_114 : ZOk Try.prog 114 1 = true := by kernel_rfl
theorem by_114 : byOf Try.prog 114 = 24 := by kernel_rfl
theorem cells_115 : Try.prog.cellsOf 115 = 1 := by kernel_rfl
theorem ti_115 : TI Try.prog 115 = some (false, 1) := by kernel_rfl
theorem zv_115 : ZV Try.prog 115 = some (.any) := by kernel_rfl
theorem zok_115 : ZOk Try.prog 115 1 = true := by kernel_rfl
theorem by_115 : byOf Try.prog 115 = 8 := by kernel_rfl
theorem cells_116 : Try.prog.cellsOf 116 = 1 := by kernel_rfl
theorem ti_116 : TI Try.prog 116 = some (false, 1) := by kernel_rfl
theorem zv_116 : ZV Try.prog 116 = some (.any) := by kernel_rfl
theorem zok_116 : ZOk Try.prog 116 1 = true := by kernel_rfl
theorem by_116 : byOf Try.prog 116 = 8 := by kernel_rfl
theorem cells_117 : Try.prog.cellsOf 117 = 1 := by kernel_rfl
theorem ti_117 : TI Try.prog 117 = some (false, 1) := by kernel_rfl
theorem zv_117 : ZV Try.prog 117 = some (.any) := by kernel_rfl
theorem zok_117 : ZOk Try.prog 117 1 = true := by kernel_rfl
theorem by_117 : byOf Try.prog 117 = 8 := by kernel_rfl
theorem cells_118 : Try.prog.cellsOf 118 = 1 := by kernel_rfl
theorem ti_118 : TI Try.prog 118 = some (false, 1) := by kernel_rfl
theorem zv_118 : ZV Try.prog 118 = some (.any) := by kernel_rfl
theorem zok_118 : ZOk Try.prog 118 1 = true := by kernel_rfl
theorem by_118 : byOf Try.prog 118 = 8 := by kernel_rfl
theorem cells_119 : Try.prog.cellsOf 119 = 1 := by kernel_rfl
theorem ti_119 : TI Try.prog 119 = some (false, 1) := by kernel_rfl
theorem zv_119 : ZV Try.prog 119 = some (.any) := by kernel_rfl
theorem zok_119 : ZOk Try.prog 119 1 = true := by kernel_rfl
theorem by_119 : byOf Try.prog 119 = 8 := by kernel_rfl
theorem cells_120 : Try.prog.cellsOf 120 = 1 := by kernel_rfl
theorem ti_120 : TI Try.prog 120 = some (false, 1) := by kernel_rfl
theorem zv_120 : ZV Try.prog 120 = some (.any) := by kernel_rfl
theorem zok_120 : ZOk Try.prog 120 1 = true := by kernel_rfl
theorem by_120 : byOf Try.prog 120 = 8 := by kernel_rfl
theorem cells_121 : Try.prog.cellsOf 121 = 1 := by kernel_rfl
theorem ti_121 : TI Try.prog 121 = some (false, 1) := by kernel_rfl
theorem isPtr_121 : isPtr Try.prog 121 = true := by kernel_rfl
theorem zv_121 : ZV Try.prog 121 = some (.nilp) := by kernel_rfl
theorem zok_121 : ZOk Try.prog 121 1 = true := by kernel_rfl
theorem by_121 : byOf Try.prog 121 = 8 := by kernel_rfl
theorem cells_122 : Try.prog.cellsOf 122 = 2 := by kernel_rfl
theorem ti_122 : TI Try.prog 122 = some (true, 2) := by kernel_rfl
theorem fi_122_0 : FI Try.prog 122 0 = some (0, (false, 1)) := by kernel_rfl
theorem fi_122_1 : FI Try.prog 122 1 = some (1, (false, 1)) := by kernel_rfl
theorem si_122 : SI Try.prog 122 = some [(0, 1), (1, 1)] := by kernel_rfl
theorem zv_122 : ZV Try.prog 122 = some (.agg [.nilp, .nils]) := by kernel_rfl
theorem zok_122 : ZOk Try.prog 122 2 = true := by kernel_rfl
theorem by_122 : byOf Try.prog 122 = 32 := by kernel_rfl
theorem cells_123 : Try.prog.cellsOf 123 = 2 := by kernel_rfl
theorem ti_123 : TI Try.prog 123 = some (true, 2) := by kernel_rfl
theorem fi_123_0 : FI Try.prog 123 0 = some (0, (false, 1)) := by kernel_rfl
theorem fi_123_1 : FI Try.prog 123 1 = some (1, (false, 1)) := by kernel_rfl
theorem si_123 : SI Try.prog 123 = some [(0, 1), (1, 1)] := by kernel_rfl
theorem zv_123 : ZV Try.prog 123 = some (.agg [.nilp, .nils]) := by kernel_rfl
theorem zok_123 : ZOk Try.prog 123 2 = true := by kernel_rfl
theorem by_123 : byOf Try.prog 123 = 32 := by kernel_rfl
theorem cells_124 : Try.prog.cellsOf 124 = 1 := by kernel_rfl
theorem ti_124 : TI Try.prog 124 = some (false, 1) := by kernel_rfl
theorem zv_124 : ZV Try.prog 124 = some (.any) := by kernel_rfl
theorem zok_124 : ZOk Try.prog 124 1 = true := by kernel_rfl
theorem by_124 : byOf Try.prog 124 = 8 := by kernel_rfl
theorem cells_128 : Try.prog.cellsOf 128 = 1 := by kernel_rfl
theorem ti_128 : TI Try.prog 128 = some (false, 1) := by kernel_rfl
theorem zv_128 : ZV Try.prog 128 = some (.any) := by kernel_rfl
theorem zok_128 : ZOk Try.prog 128 1 = true := by kernel_rfl
theorem by_128 : byOf Try.prog 128 = 8 := by kernel_rfl
theorem cells_129 : Try.prog.cellsOf 129 = 1 := by kernel_rfl
theorem ti_129 : TI Try.prog 129 = some (false, 1) := by kernel_rfl
theorem zv_129 : ZV Try.prog 129 = some (.any) := by kernel_rfl
theorem zok_129 : ZOk Try.prog 129 1 = true := by kernel_rfl
theorem by_129 : byOf Try.prog 129 = 8 := by kernel_rfl
theorem cells_130 : Try.prog.cellsOf 130 = 1 := by kernel_rfl
theorem ti_130 : TI Try.prog 130 = some (false, 1) := by kernel_rfl
theorem zv_130 : ZV Try.prog 130 = some (.any) := by kernel_rfl
theorem zok_130 : ZOk Try.prog 130 1 = true := by kernel_rfl
theorem by_130 : byOf Try.prog 130 = 8 := by kernel_rfl
theorem cells_131 : Try.prog.cellsOf 131 = 1 := by kernel_rfl
theorem ti_131 : TI Try.prog 131 = some (false, 1) := by kernel_rfl
theorem zv_131 : ZV Try.prog 131 = some (.any) := by kernel_rfl
theorem zok_131 : ZOk Try.prog 131 1 = true := by kernel_rfl
theorem by_131 : byOf Try.prog 131 = 8 := by kernel_rfl
theorem cells_132 : Try.prog.cellsOf 132 = 1 := by kernel_rfl
theorem ti_132 : TI Try.prog 132 = some (false, 1) := by kernel_rfl
theorem isPtr_132 : isPtr Try.prog 132 = true := by kernel_rfl
theorem zv_132 : ZV Try.prog 132 = some (.nilp) := by kernel_rfl
theorem zok_132 : ZOk Try.prog 132 1 = true := by kernel_rfl
theorem by_132 : byOf Try.prog 132 = 8 := by kernel_rfl
theorem cells_135 : Try.prog.cellsOf 135 = 1 := by kernel_rfl
theorem ti_135 : TI Try.prog 135 = some (false, 1) := by kernel_rfl
theorem zv_135 : ZV Try.prog 135 = some (.any) := by kernel_rfl
theorem zok_135 : ZOk Try.prog 135 1 = true := by kernel_rfl
theorem by_135 : byOf Try.prog 135 = 8 := by kernel_rfl
theorem cells_136 : Try.prog.cellsOf 136 = 1 := by kernel_rfl
theorem ti_136 : TI Try.prog 136 = some (false, 1) := by kernel_rfl
theorem zv_136 : ZV Try.prog 136 = some (.any) := by kernel_rfl
theorem zok_136 : ZOk Try.prog 136 1 = true := by kernel_rfl
theorem by_136 : byOf Try.prog 136 = 8 := by kernel_rfl
theorem cells_142 : Try.prog.cellsOf 142 = 1 := by kernel_rfl
theorem ti_142 : TI Try.prog 142 = some (false, 1) := by kernel_rfl
theorem zv_142 : ZV Try.prog 142 = some (.any) := by kernel_rfl
theorem zok_142 : ZOk Try.prog 142 1 = true := by kernel_rfl
theorem by_142 : byOf Try.prog 142 = 8 := by kernel_rfl
theorem cells_143 : Try.prog.cellsOf 143 = 1 := by kernel_rfl
theorem ti_143 : TI Try.prog 143 = some (false, 1) := by kernel_rfl
theorem intK_143 : intK Try.prog 143 = some .u32 := by kernel_rfl
theorem un_143 : Try.prog.underlying 143 = some (.int .u32) := by kernel_rfl
theorem zv_143 : ZV Try.prog 143 = some (.int .u32 0) := by kernel_rfl
theorem zok_143 : ZOk Try.prog 143 1 = true := by kernel_rfl
theorem by_143 : byOf Try.prog 143 = 4 := by kernel_rfl
theorem uns_1 : (Try.prog.underlying 1).isSome = true := by kernel_rfl
theorem tok_1 : TOk Try.prog 1 { ti := some (false, 1), zv := some (.any), zok := some 1, by' := some 8, un := true } := ⟨ti_1, trivial, trivial, trivial, trivial, zv_1, zok_1, by_1, trivial, trivial, trivial, trivial, trivial, trivial, uns_1, trivial⟩
theorem uns_2 : (Try.prog.underlying 2).isSome = true := by kernel_rfl
theorem tok_2 : TOk Try.prog 2 { ti := some (false, 1), zv := some (.int .i64 0), zok := some 1, by' := some 8, ik := some .i64, un := true } := ⟨ti_2, trivial, trivial, trivial, trivial, zv_2, zok_2, by_2, intK_2, trivial, trivial, trivial, trivial, trivial, uns_2, trivial⟩
theorem uns_3 : (Try.prog.underlying 3).isSome = true := by kernel_rfl
theorem tok_3 : TOk Try.prog 3 { ti := some (false, 1), zv := some (.int .i64 0), zok := some 1, by' := some 8, ik := some .i64, un := true } := ⟨ti_3, trivial, trivial, trivial, trivial, zv_3, zok_3, by_3, intK_3, trivial, trivial, trivial, trivial, trivial, uns_3, trivial⟩
theorem uns_4 : (Try.prog.underlying 4).isSome = true := by kernel_rfl
theorem tok_4 : TOk Try.prog 4 { ti := some (false, 1), zv := some (.bool false), zok := some 1, by' := some 1, boo := true, un := true } := ⟨ti_4, trivial, trivial, trivial, trivial, zv_4, zok_4, by_4, trivial, trivial, trivial, isBoo_4, trivial, trivial, uns_4, trivial⟩
theorem uns_5 : (Try.prog.underlying 5).isSome = true := by kernel_rfl
theorem tok_5 : TOk Try.prog 5 { ti := some (false, 1), zv := some (.int .u8 0), zok := some 1, by' := some 1, ik := some .u8, un := true } := ⟨ti_5, trivial, trivial, trivial, trivial, zv_5, zok_5, by_5, intK_5, trivial, trivial, trivial, trivial, trivial, uns_5, trivial⟩
theorem uns_9 : (Try.prog.underlying 9).isSome = true := by kernel_rfl
theorem tok_9 : TOk Try.prog 9 { ti := some (false, 1), zv := some (.str []), zok := some 1, by' := some 16, str := true, ni := true, un := true } := ⟨ti_9, trivial, trivial, trivial, trivial, zv_9, zok_9, by_9, trivial, isStr_9, trivial, trivial, trivial, notInt_9, uns_9, trivial⟩
theorem uns_12 : (Try.prog.underlying 12).isSome = true := by kernel_rfl
theorem tok_12 : TOk Try.prog 12 { ti := some (false, 1), zv := some (.int .u64 0), zok := some 1, by' := some 8, ik := some .u64, un := true } := ⟨ti_12, trivial, trivial, trivial, trivial, zv_12, zok_12, by_12, intK_12, trivial, trivial, trivial, trivial, trivial, uns_12, trivial⟩
theorem uns_13 : (Try.prog.underlying 13).isSome = true := by kernel_rfl
theorem tok_13 : TOk Try.prog 13 { ti := some (true, 2), fi := [some (0, (false, 1)), some (1, (false, 1))], si := some [(0, 1), (1, 1)], zv := some (.agg [.str [], .int .u64 0]), zok := some 2, by' := some 24, un := true } := ⟨ti_13, trivial, trivial, ⟨fi_13_0, fi_13_1, trivial⟩, si_13, zv_13, zok_13, by_13, trivial, trivial, trivial, trivial, trivial, trivial, uns_13, trivial⟩
theorem uns_21 : (Try.prog.underlying 21).isSome = true := by kernel_rfl
theorem tok_21 : TOk Try.prog 21 { ti := some (false, 1), zv := some (.int .i32 0), zok := some 1, by' := some 4, ik := some .i32, un := true } := ⟨ti_21, trivial, trivial, trivial, trivial, zv_21, zok_21, by_21, intK_21, trivial, trivial, trivial, trivial, trivial, uns_21, trivial⟩
theorem uns_22 : (Try.prog.underlying 22).isSome = true := by kernel_rfl
theorem tok_22 : TOk Try.prog 22 { ti := some (false, 1), ei := some (59, 1), zv := some (.nils), zok := some 1, by' := some 24, sli := true, ni := true, un := true } := ⟨ti_22, ei_22, trivial, trivial, trivial, zv_22, zok_22, by_22, trivial, trivial, isSli_22, trivial, trivial, notInt_22, uns_22, trivial⟩
theorem uns_23 : (Try.prog.underlying 23).isSome = true := by kernel_rfl
theorem tok_23 : TOk Try.prog 23 { ti := some (false, 1), ei := some (4, 1), zv := some (.nils), zok := some 1, by' := some 24, sli := true, ni := true, un := true } := ⟨ti_23, ei_23, trivial, trivial, trivial, zv_23, zok_23, by_23, trivial, trivial, isSli_23, trivial, trivial, notInt_23, uns_23, trivial⟩
theorem uns_24 : (Try.prog.underlying 24).isSome = true := by kernel_rfl
theorem tok_24 : TOk Try.prog 24 { ti := some (true, 2), fi := [some (0, (false, 1)), some (1, (false, 1))], si := some [(0, 1), (1, 1)], zv := some (.agg [.nils, .nils]), zok := some 2, by' := some 48, un := true } := ⟨ti_24, trivial, trivial, ⟨fi_24_0, fi_24_1, trivial⟩, si_24, zv_24, zok_24, by_24, trivial, trivial, trivial, trivial, trivial, trivial, uns_24, trivial⟩
theorem uns_25 : (Try.prog.underlying 25).isSome = true := by kernel_rfl
theorem tok_25 : TOk Try.prog 25 { ti := some (true, 2), fi := [some (0, (false, 1)), some (1, (false, 1))], si := some [(0, 1), (1, 1)], zv := some (.agg [.nils, .nils]), zok := some 2, by' := some 48, un := true } := ⟨ti_25, trivial, trivial, ⟨fi_25_0, fi_25_1, trivial⟩, si_25, zv_25, zok_25, by_25, trivial, trivial, trivial, trivial, trivial, trivial, uns_25, trivial⟩
theorem uns_26 : (Try.prog.underlying 26).isSome = true := by kernel_rfl
theorem tok_26 : TOk Try.prog 26 { ti := some (false, 1), zv := some (.int .i64 0), zok := some 1, by' := some 8, ik := some .i64, un := true } := ⟨ti_26, trivial, trivial, trivial, trivial, zv_26, zok_26, by_26, intK_26, trivial, trivial, trivial, trivial, trivial, uns_26, trivial⟩
theorem uns_28 : (Try.prog.underlying 28).isSome = true := by kernel_rfl
theorem tok_28 : TOk Try.prog 28 { ti := some (false, 1), zv := some (.any), zok := some 1, by' := some 8, un := true } := ⟨ti_28, trivial, trivial, trivial, trivial, zv_28, zok_28, by_28, trivial, trivial, trivial, trivial, trivial, trivial, uns_28, trivial⟩
theorem uns_29 : (Try.prog.underlying 29).isSome = true := by kernel_rfl
theorem tok_29 : TOk Try.prog 29 { ti := some (false, 1), zv := some (.any), zok := some 1, by' := some 8, un := true } := ⟨ti_29, trivial, trivial, trivial, trivial, zv_29, zok_29, by_29, trivial, trivial, trivial, trivial, trivial, trivial, uns_29, trivial⟩
theorem uns_30 : (Try.prog.underlying 30).isSome = true := by kernel_rfl
theorem tok_30 : TOk Try.prog 30 { ti := some (false, 1), ei := some (32, 3), zv := some (.nils), zok := some 1, by' := some 24, sli := true, ni := true, un := true } := ⟨ti_30, ei_30, trivial, trivial, trivial, zv_30, zok_30, by_30, trivial, trivial, isSli_30, trivial, trivial, notInt_30, uns_30, trivial⟩
theorem uns_31 : (Try.prog.underlying 31).isSome = true := by kernel_rfl
theorem tok_31 : TOk Try.prog 31 { ti := some (true, 3), fi := [some (0, (false, 1)), some (1, (false, 1)), some (2, (false, 1))], si := some [(0, 1), (1, 1), (2, 1)], zv := some (.agg [.int .i64 0, .int .i64 0, .nils]), zok := some 3, by' := some 40, un := true } := ⟨ti_31, trivial, trivial, ⟨fi_31_0, fi_31_1, fi_31_2, trivial⟩, si_31, zv_31, zok_31, by_31, trivial, trivial, trivial, trivial, trivial, trivial, uns_31, trivial⟩
theorem uns_32 : (Try.prog.underlying 32).isSome = true := by kernel_rfl
theorem tok_32 : TOk Try.prog 32 { ti := some (true, 3), fi := [some (0, (false, 1)), some (1, (false, 1)), some (2, (false, 1))], si := some [(0, 1), (1, 1), (2, 1)], zv := some (.agg [.int .i64 0, .int .i64 0, .nils]), zok := some 3, by' := some 40, un := true } := ⟨ti_32, trivial, trivial, ⟨fi_32_0, fi_32_1, fi_32_2, trivial⟩, si_32, zv_32, zok_32, by_32, trivial, trivial, trivial, trivial, trivial, trivial, uns_32, trivial⟩
theorem uns_34 : (Try.prog.underlying 34).isSome = true := by kernel_rfl
theorem tok_34 : TOk Try.prog 34 { ti := some (false, 1), zv := some (.any), zok := some 1, by' := some 8, un := true } := ⟨ti_34, trivial, trivial, trivial, trivial, zv_34, zok_34, by_34, trivial, trivial, trivial, trivial, trivial, trivial, uns_34, trivial⟩
theorem uns_35 : (Try.prog.underlying 35).isSome = true := by kernel_rfl
theorem tok_35 : TOk Try.prog 35 { ti := some (false, 1), zv := some (.any), zok := some 1, by' := some 8, un := true } := ⟨ti_35, trivial, trivial, trivial, trivial, zv_35, zok_35, by_35, trivial, trivial, trivial, trivial, trivial, trivial, uns_35, trivial⟩
theorem uns_36 : (Try.prog.underlying 36).isSome = true := by kernel_rfl
theorem tok_36 : TOk Try.prog 36 { ti := some (false, 1), zv := some (.any), zok := some 1, by' := some 8, un := true } := ⟨ti_36, trivial, trivial, trivial, trivial, zv_36, zok_36, by_36, trivial, trivial, trivial, trivial, trivial, trivial, uns_36, trivial⟩
theorem uns_37 : (Try.prog.underlying 37).isSome = true := by kernel_rfl
theorem tok_37 : TOk Try.prog 37 { ti := some (false, 1), ei := some (76, 4), zv := some (.nils), zok := some 1, by' := some 24, sli := true, ni := true, un := true } := ⟨ti_37, ei_37, trivial, trivial, trivial, zv_37, zok_37, by_37, trivial, trivial, isSli_37, trivial, trivial, notInt_37, uns_37, trivial⟩
theorem uns_38 : (Try.prog.underlying 38).isSome = true := by kernel_rfl
theorem tok_38 : TOk Try.prog 38 { ti := some (false, 1), ei := some (80, 6), zv := some (.nils), zok := some 1, by' := some 24, sli := true, ni := true, un := true } := ⟨ti_38, ei_38, trivial, trivial, trivial, zv_38, zok_38, by_38, trivial, trivial, isSli_38, trivial, trivial, notInt_38, uns_38, trivial⟩
theorem uns_40 : (Try.prog.underlying 40).isSome = true := by kernel_rfl
theorem tok_40 : TOk Try.prog 40 { ti := some (false, 1), zv := some (.any), zok := some 1, by' := some 8, un := true } := ⟨ti_40, trivial, trivial, trivial, trivial, zv_40, zok_40, by_40, trivial, trivial, trivial, trivial, trivial, trivial, uns_40, trivial⟩
theorem uns_41 : (Try.prog.underlying 41).isSome = true := by kernel_rfl
theorem tok_41 : TOk Try.prog 41 { ti := some (false, 1), zv := some (.any), zok := some 1, by' := some 8, un := true } := ⟨ti_41, trivial, trivial, trivial, trivial, zv_41, zok_41, by_41, trivial, trivial, trivial, trivial, trivial, trivial, uns_41, trivial⟩
theorem uns_42 : (Try.prog.underlying 42).isSome = true := by kernel_rfl
theorem tok_42 : TOk Try.prog 42 { ti := some (false, 1), zv := some (.any), zok := some 1, by' := some 8, un := true } := ⟨ti_42, trivial, trivial, trivial, trivial, zv_42, zok_42, by_42, trivial, trivial, trivial, trivial, trivial, trivial, uns_42, trivial⟩
theorem uns_44 : (Try.prog.underlying 44).isSome = true := by kernel_rfl
theorem tok_44 : TOk Try.prog 44 { ti := some (false, 1), zv := some (.any), zok := some 1, by' := some 8, un := true } := ⟨ti_44, trivial, trivial, trivial, trivial, zv_44, zok_44, by_44, trivial, trivial, trivial, trivial, trivial, trivial, uns_44, trivial⟩
theorem uns_45 : (Try.prog.underlying 45).isSome = true := by kernel_rfl
theorem tok_45 : TOk Try.prog 45 { ti := some (false, 1), zv := some (.any), zok := some 1, by' := some 8, un := true } := ⟨ti_45, trivial, trivial, trivial, trivial, zv_45, zok_45, by_45, trivial, trivial, trivial, trivial, trivial, trivial, uns_45, trivial⟩
theorem uns_46 : (Try.prog.underlying 46).isSome = true := by kernel_rfl
theorem tok_46 : TOk Try.prog 46 { ti := some (false, 1), zv := some (.any), zok := some 1, by' := some 8, un := true } := ⟨ti_46, trivial, trivial, trivial, trivial, zv_46, zok_46, by_46, trivial, trivial, trivial, trivial, trivial, trivial, uns_46, trivial⟩
theorem uns_47 : (Try.prog.underlying 47).isSome = true := by kernel_rfl
theorem tok_47 : TOk Try.prog 47 { ti := some (false, 1), ei := some (53, 2), zv := some (.nils), zok := some 1, by' := some 24, sli := true, ni := true, un := true } := ⟨ti_47, ei_47, trivial, trivial, trivial, zv_47, zok_47, by_47, trivial, trivial, isSli_47, trivial, trivial, notInt_47, uns_47, trivial⟩
theorem uns_48 : (Try.prog.underlying 48).isSome = true := by kernel_rfl
theorem tok_48 : TOk Try.prog 48 { ti := some (false, 1), ei := some (88, 8), zv := some (.nils), zok := some 1, by' := some 24, sli := true, ni := true, un := true } := ⟨ti_48, ei_48, trivial, trivial, trivial, zv_48, zok_48, by_48, trivial, trivial, isSli_48, trivial, trivial, notInt_48, uns_48, trivial⟩
theorem uns_50 : (Try.prog.underlying 50).isSome = true := by kernel_rfl
theorem tok_50 : TOk Try.prog 50 { ti := some (false, 1), zv := some (.any), zok := some 1, by' := some 8, un := true } := ⟨ti_50, trivial, trivial, trivial, trivial, zv_50, zok_50, by_50, trivial, trivial, trivial, trivial, trivial, trivial, uns_50, trivial⟩
theorem uns_51 : (Try.prog.underlying 51).isSome = true := by kernel_rfl
theorem tok_51 : TOk Try.prog 51 { ti := some (false, 1), zv := some (.any), zok := some 1, by' := some 8, un := true } := ⟨ti_51, trivial, trivial, trivial, trivial, zv_51, zok_51, by_51, trivial, trivial, trivial, trivial, trivial, trivial, uns_51, trivial⟩
theorem uns_52 : (Try.prog.underlying 52).isSome = true := by kernel_rfl
theorem tok_52 : TOk Try.prog 52 { ti := some (true, 2), fi := [some (0, (false, 1)), some (1, (false, 1))], si := some [(0, 1), (1, 1)], zv := some (.agg [.int .i64 0, .int .i64 0]), zok := some 2, by' := some 16, un := true } := ⟨ti_52, trivial, trivial, ⟨fi_52_0, fi_52_1, trivial⟩, si_52, zv_52, zok_52, by_52, trivial, trivial, trivial, trivial, trivial, trivial, uns_52, trivial⟩
theorem sq_53 : SQ Try.prog 53 = some [.i .i64, .i .i64] := by kernel_rfl
theorem uns_53 : (Try.prog.underlying 53).isSome = true := by kernel_rfl
theorem tok_53 : TOk Try.prog 53 { ti := some (true, 2), fi := [some (0, (false, 1)), some (1, (false, 1))], si := some [(0, 1), (1, 1)], zv := some (.agg [.int .i64 0, .int .i64 0]), zok := some 2, by' := some 16, un := true, sq := some [.i .i64, .i .i64] } := ⟨ti_53, trivial, trivial, ⟨fi_53_0, fi_53_1, trivial⟩, si_53, zv_53, zok_53, by_53, trivial, trivial, trivial, trivial, trivial, trivial, uns_53, sq_53⟩
theorem uns_54 : (Try.prog.underlying 54).isSome = true := by kernel_rfl
theorem tok_54 : TOk Try.prog 54 { ti := some (false, 1), zv := some (.any), zok := some 1, by' := some 8, un := true } := ⟨ti_54, trivial, trivial, trivial, trivial, zv_54, zok_54, by_54, trivial, trivial, trivial, trivial, trivial, trivial, uns_54, trivial⟩
theorem uns_55 : (Try.prog.underlying 55).isSome = true := by kernel_rfl
theorem tok_55 : TOk Try.prog 55 { ti := some (false, 1), zv := some (.any), zok := some 1, by' := some 8, un := true } := ⟨ti_55, trivial, trivial, trivial, trivial, zv_55, zok_55, by_55, trivial, trivial, trivial, trivial, trivial, trivial, uns_55, trivial⟩
theorem uns_56 : (Try.prog.underlying 56).isSome = true := by kernel_rfl
theorem tok_56 : TOk Try.prog 56 { ti := some (true, 2), fi := [some (0, (false, 1)), some (1, (false, 1))], si := some [(0, 1), (1, 1)], zv := some (.agg [.nils, .nils]), zok := some 2, by' := some 48, un := true } := ⟨ti_56, trivial, trivial, ⟨fi_56_0, fi_56_1, trivial⟩, si_56, zv_56, zok_56, by_56, trivial, trivial, trivial, trivial, trivial, trivial, uns_56, trivial⟩
theorem uns_57 : (Try.prog.underlying 57).isSome = true := by kernel_rfl
theorem tok_57 : TOk Try.prog 57 { ti := some (true, 2), fi := [some (0, (false, 1)), some (1, (false, 1))], si := some [(0, 1), (1, 1)], zv := some (.agg [.nils, .nils]), zok := some 2, by' := some 48, un := true } := ⟨ti_57, trivial, trivial, ⟨fi_57_0, fi_57_1, trivial⟩, si_57, zv_57, zok_57, by_57, trivial, trivial, trivial, trivial, trivial, trivial, uns_57, trivial⟩
theorem uns_58 : (Try.prog.underlying 58).isSome = true := by kernel_rfl
theorem tok_58 : TOk Try.prog 58 { ti := some (false, 1), zv := some (.any), zok := some 1, by' := some 8, un := true } := ⟨ti_58, trivial, trivial, trivial, trivial, zv_58, zok_58, by_58, trivial, trivial, trivial, trivial, trivial, trivial, uns_58, trivial⟩
theorem uns_59 : (Try.prog.underlying 59).isSome = true := by kernel_rfl
theorem tok_59 : TOk Try.prog 59 { ti := some (false, 1), ei := some (3, 1), zv := some (.nils), zok := some 1, by' := some 24, sli := true, ni := true, un := true } := ⟨ti_59, ei_59, trivial, trivial, trivial, zv_59, zok_59, by_59, trivial, trivial, isSli_59, trivial, trivial, notInt_59, uns_59, trivial⟩
theorem uns_60 : (Try.prog.underlying 60).isSome = true := by kernel_rfl
theorem tok_60 : TOk Try.prog 60 { ti := some (false, 1), ei := some (23, 1), zv := some (.nils), zok := some 1, by' := some 24, sli := true, ni := true, un := true } := ⟨ti_60, ei_60, trivial, trivial, trivial, zv_60, zok_60, by_60, trivial, trivial, isSli_60, trivial, trivial, notInt_60, uns_60, trivial⟩
theorem uns_61 : (Try.prog.underlying 61).isSome = true := by kernel_rfl
theorem tok_61 : TOk Try.prog 61 { ti := some (false, 1), zv := some (.any), zok := some 1, by' := some 8, un := true } := ⟨ti_61, trivial, trivial, trivial, trivial, zv_61, zok_61, by_61, trivial, trivial, trivial, trivial, trivial, trivial, uns_61, trivial⟩
theorem uns_62 : (Try.prog.underlying 62).isSome = true := by kernel_rfl
theorem tok_62 : TOk Try.prog 62 { ti := some (false, 1), zv := some (.nilp), zok := some 1, by' := some 8, ptr := true, un := true } := ⟨ti_62, trivial, trivial, trivial, trivial, zv_62, zok_62, by_62, trivial, trivial, trivial, trivial, isPtr_62, trivial, uns_62, trivial⟩
theorem uns_63 : (Try.prog.underlying 63).isSome = true := by kernel_rfl
theorem tok_63 : TOk Try.prog 63 { ti := some (true, 2), fi := [some (0, (false, 1)), some (1, (false, 1))], si := some [(0, 1), (1, 1)], zv := some (.agg [.str [], .bool false]), zok := some 2, by' := some 24, un := true } := ⟨ti_63, trivial, trivial, ⟨fi_63_0, fi_63_1, trivial⟩, si_63, zv_63, zok_63, by_63, trivial, trivial, trivial, trivial, trivial, trivial, uns_63, trivial⟩
theorem sq_64 : SQ Try.prog 64 = some [.s, .b] := by kernel_rfl
theorem uns_64 : (Try.prog.underlying 64).isSome = true := by kernel_rfl
theorem tok_64 : TOk Try.prog 64 { ti := some (true, 2), fi := [some (0, (false, 1)), some (1, (false, 1))], si := some [(0, 1), (1, 1)], zv := some (.agg [.str [], .bool false]), zok := some 2, by' := some 24, un := true, sq := some [.s, .b] } := ⟨ti_64, trivial, trivial, ⟨fi_64_0, fi_64_1, trivial⟩, si_64, zv_64, zok_64, by_64, trivial, trivial, trivial, trivial, trivial, trivial, uns_64, sq_64⟩
theorem uns_65 : (Try.prog.underlying 65).isSome = true := by kernel_rfl
theorem tok_65 : TOk Try.prog 65 { ti := some (false, 1), zv := some (.any), zok := some 1, by' := some 8, un := true } := ⟨ti_65, trivial, trivial, trivial, trivial, zv_65, zok_65, by_65, trivial, trivial, trivial, trivial, trivial, trivial, uns_65, trivial⟩
theorem uns_66 : (Try.prog.underlying 66).isSome = true := by kernel_rfl
theorem tok_66 : TOk Try.prog 66 { ti := some (false, 1), zv := some (.any), zok := some 1, by' := some 8, un := true } := ⟨ti_66, trivial, trivial, trivial, trivial, zv_66, zok_66, by_66, trivial, trivial, trivial, trivial, trivial, trivial, uns_66, trivial⟩
theorem uns_68 : (Try.prog.underlying 68).isSome = true := by kernel_rfl
theorem tok_68 : TOk Try.prog 68 { ti := some (false, 1), zv := some (.any), zok := some 1, by' := some 8, un := true } := ⟨ti_68, trivial, trivial, trivial, trivial, zv_68, zok_68, by_68, trivial, trivial, trivial, trivial, trivial, trivial, uns_68, trivial⟩
theorem uns_70 : (Try.prog.underlying 70).isSome = true := by kernel_rfl
theorem tok_70 : TOk Try.prog 70 { ti := some (false, 1), zv := some (.any), zok := some 1, by' := some 8, un := true } := ⟨ti_70, trivial, trivial, trivial, trivial, zv_70, zok_70, by_70, trivial, trivial, trivial, trivial, trivial, trivial, uns_70, trivial⟩
theorem uns_71 : (Try.prog.underlying 71).isSome = true := by kernel_rfl
theorem tok_71 : TOk Try.prog 71 { ti := some (false, 1), ei := some (37, 1), zv := some (.nils), zok := some 1, by' := some 24, sli := true, ni := true, un := true } := ⟨ti_71, ei_71, trivial, trivial, trivial, zv_71, zok_71, by_71, trivial, trivial, isSli_71, trivial, trivial, notInt_71, uns_71, trivial⟩
theorem uns_73 : (Try.prog.underlying 73).isSome = true := by kernel_rfl
theorem tok_73 : TOk Try.prog 73 { ti := some (false, 1), zv := some (.any), zok := some 1, by' := some 8, un := true } := ⟨ti_73, trivial, trivial, trivial, trivial, zv_73, zok_73, by_73, trivial, trivial, trivial, trivial, trivial, trivial, uns_73, trivial⟩
theorem uns_74 : (Try.prog.underlying 74).isSome = true := by kernel_rfl
theorem tok_74 : TOk Try.prog 74 { ti := some (false, 1), ei := some (106, 2), zv := some (.nils), zok := some 1, by' := some 24, sli := true, ni := true, un := true } := ⟨ti_74, ei_74, trivial, trivial, trivial, zv_74, zok_74, by_74, trivial, trivial, isSli_74, trivial, trivial, notInt_74, uns_74, trivial⟩
theorem uns_75 : (Try.prog.underlying 75).isSome = true := by kernel_rfl
theorem tok_75 : TOk Try.prog 75 { ti := some (true, 4), fi := [some (0, (false, 1)), some (1, (false, 1)), some (2, (false, 1)), some (3, (false, 1))], si := some [(0, 1), (1, 1), (2, 1), (3, 1)], zv := some (.agg [.str [], .nils, .str [], .nils]), zok := some 4, by' := some 80, un := true } := ⟨ti_75, trivial, trivial, ⟨fi_75_0, fi_75_1, fi_75_2, fi_75_3, trivial⟩, si_75, zv_75, zok_75, by_75, trivial, trivial, trivial, trivial, trivial, trivial, uns_75, trivial⟩
theorem uns_76 : (Try.prog.underlying 76).isSome = true := by kernel_rfl
theorem tok_76 : TOk Try.prog 76 { ti := some (true, 4), fi := [some (0, (false, 1)), some (1, (false, 1)), some (2, (false, 1)), some (3, (false, 1))], si := some [(0, 1), (1, 1), (2, 1), (3, 1)], zv := some (.agg [.str [], .nils, .str [], .nils]), zok := some 4, by' := some 80, un := true } := ⟨ti_76, trivial, trivial, ⟨fi_76_0, fi_76_1, fi_76_2, fi_76_3, trivial⟩, si_76, zv_76, zok_76, by_76, trivial, trivial, trivial, trivial, trivial, trivial, uns_76, trivial⟩
theorem uns_77 : (Try.prog.underlying 77).isSome = true := by kernel_rfl
theorem tok_77 : TOk Try.prog 77 { ti := some (false, 1), zv := some (.any), zok := some 1, by' := some 8, un := true } := ⟨ti_77, trivial, trivial, trivial, trivial, zv_77, zok_77, by_77, trivial, trivial, trivial, trivial, trivial, trivial, uns_77, trivial⟩
theorem uns_78 : (Try.prog.underlying 78).isSome = true := by kernel_rfl
theorem tok_78 : TOk Try.prog 78 { ti := some (false, 1), zv := some (.any), zok := some 1, by' := some 8, un := true } := ⟨ti_78, trivial, trivial, trivial, trivial, zv_78, zok_78, by_78, trivial, trivial, trivial, trivial, trivial, trivial, uns_78, trivial⟩
theorem uns_79 : (Try.prog.underlying 79).isSome = true := by kernel_rfl
theorem tok_79 : TOk Try.prog 79 { ti := some (true, 6), fi := [some (0, (false, 1)), some (1, (false, 1)), some (2, (true, 4))], si := some [(0, 1), (1, 1), (2, 4)], zv := some (.agg [.int .i64 0, .nils, .str [], .nils, .str [], .nils]), zok := some 6, by' := some 112, un := true } := ⟨ti_79, trivial, trivial, ⟨fi_79_0, fi_79_1, fi_79_2, trivial⟩, si_79, zv_79, zok_79, by_79, trivial, trivial, trivial, trivial, trivial, trivial, uns_79, trivial⟩
theorem uns_80 : (Try.prog.underlying 80).isSome = true := by kernel_rfl
theorem tok_80 : TOk Try.prog 80 { ti := some (true, 6), fi := [some (0, (false, 1)), some (1, (false, 1)), some (2, (true, 4))], si := some [(0, 1), (1, 1), (2, 4)], zv := some (.agg [.int .i64 0, .nils, .str [], .nils, .str [], .nils]), zok := some 6, by' := some 112, un := true } := ⟨ti_80, trivial, trivial, ⟨fi_80_0, fi_80_1, fi_80_2, trivial⟩, si_80, zv_80, zok_80, by_80, trivial, trivial, trivial, trivial, trivial, trivial, uns_80, trivial⟩
theorem uns_82 : (Try.prog.underlying 82).isSome = true := by kernel_rfl
theorem tok_82 : TOk Try.prog 82 { ti := some (false, 1), zv := some (.any), zok := some 1, by' := some 8, un := true } := ⟨ti_82, trivial, trivial, trivial, trivial, zv_82, zok_82, by_82, trivial, trivial, trivial, trivial, trivial, trivial, uns_82, trivial⟩
theorem uns_83 : (Try.prog.underlying 83).isSome = true := by kernel_rfl
theorem tok_83 : TOk Try.prog 83 { ti := some (false, 1), zv := some (.any), zok := some 1, by' := some 8, un := true } := ⟨ti_83, trivial, trivial, trivial, trivial, zv_83, zok_83, by_83, trivial, trivial, trivial, trivial, trivial, trivial, uns_83, trivial⟩
theorem uns_84 : (Try.prog.underlying 84).isSome = true := by kernel_rfl
theorem tok_84 : TOk Try.prog 84 { ti := some (false, 1), zv := some (.any), zok := some 1, by' := some 8, un := true } := ⟨ti_84, trivial, trivial, trivial, trivial, zv_84, zok_84, by_84, trivial, trivial, trivial, trivial, trivial, trivial, uns_84, trivial⟩
theorem uns_85 : (Try.prog.underlying 85).isSome = true := by kernel_rfl
theorem tok_85 : TOk Try.prog 85 { ti := some (false, 1), zv := some (.any), zok := some 1, by' := some 8, un := true } := ⟨ti_85, trivial, trivial, trivial, trivial, zv_85, zok_85, by_85, trivial, trivial, trivial, trivial, trivial, trivial, uns_85, trivial⟩
theorem uns_86 : (Try.prog.underlying 86).isSome = true := by kernel_rfl
theorem tok_86 : TOk Try.prog 86 { ti := some (false, 1), zv := some (.any), zok := some 1, by' := some 8, un := true } := ⟨ti_86, trivial, trivial, trivial, trivial, zv_86, zok_86, by_86, trivial, trivial, trivial, trivial, trivial, trivial, uns_86, trivial⟩
theorem uns_87 : (Try.prog.underlying 87).isSome = true := by kernel_rfl
theorem tok_87 : TOk Try.prog 87 { ti := some (false, 1), zv := some (.any), zok := some 1, by' := some 8, un := true } := ⟨ti_87, trivial, trivial, trivial, trivial, zv_87, zok_87, by_87, trivial, trivial, trivial, trivial, trivial, trivial, uns_87, trivial⟩
theorem uns_88 : (Try.prog.underlying 88).isSome = true := by kernel_rfl
theorem tok_88 : TOk Try.prog 88 { ti := some (true, 8), ai := some (8, (false, 1)), zv := some (.agg [.int .i64 0, .int .i64 0, .int .i64 0, .int .i64 0, .int .i64 0, .int .i64 0, .int .i64 0, .int .i64 0]), zok := some 8, by' := some 64, un := true } := ⟨ti_88, trivial, ai_88, trivial, trivial, zv_88, zok_88, by_88, trivial, trivial, trivial, trivial, trivial, trivial, uns_88, trivial⟩
theorem uns_89 : (Try.prog.underlying 89).isSome = true := by kernel_rfl
theorem tok_89 : TOk Try.prog 89 { ti := some (false, 1), zv := some (.any), zok := some 1, by' := some 8, un := true } := ⟨ti_89, trivial, trivial, trivial, trivial, zv_89, zok_89, by_89, trivial, trivial, trivial, trivial, trivial, trivial, uns_89, trivial⟩
theorem uns_91 : (Try.prog.underlying 91).isSome = true := by kernel_rfl
theorem tok_91 : TOk Try.prog 91 { ti := some (false, 1), zv := some (.any), zok := some 1, by' := some 8, un := true } := ⟨ti_91, trivial, trivial, trivial, trivial, zv_91, zok_91, by_91, trivial, trivial, trivial, trivial, trivial, trivial, uns_91, trivial⟩
theorem uns_92 : (Try.prog.underlying 92).isSome = true := by kernel_rfl
theorem tok_92 : TOk Try.prog 92 { ti := some (false, 1), zv := some (.any), zok := some 1, by' := some 8, un := true } := ⟨ti_92, trivial, trivial, trivial, trivial, zv_92, zok_92, by_92, trivial, trivial, trivial, trivial, trivial, trivial, uns_92, trivial⟩
theorem uns_93 : (Try.prog.underlying 93).isSome = true := by kernel_rfl
theorem tok_93 : TOk Try.prog 93 { ti := some (false, 1), zv := some (.any), zok := some 1, by' := some 8, un := true } := ⟨ti_93, trivial, trivial, trivial, trivial, zv_93, zok_93, by_93, trivial, trivial, trivial, trivial, trivial, trivial, uns_93, trivial⟩
theorem uns_94 : (Try.prog.underlying 94).isSome = true := by kernel_rfl
theorem tok_94 : TOk Try.prog 94 { ti := some (false, 1), zv := some (.any), zok := some 1, by' := some 8, un := true } := ⟨ti_94, trivial, trivial, trivial, trivial, zv_94, zok_94, by_94, trivial, trivial, trivial, trivial, trivial, trivial, uns_94, trivial⟩
theorem uns_95 : (Try.prog.underlying 95).isSome = true := by kernel_rfl
theorem tok_95 : TOk Try.prog 95 { ti := some (false, 1), zv := some (.nilp), zok := some 1, by' := some 8, ptr := true, un := true } := ⟨ti_95, trivial, trivial, trivial, trivial, zv_95, zok_95, by_95, trivial, trivial, trivial, trivial, isPtr_95, trivial, uns_95, trivial⟩
theorem uns_96 : (Try.prog.underlying 96).isSome = true := by kernel_rfl
theorem tok_96 : TOk Try.prog 96 { ti := some (false, 1), zv := some (.any), zok := some 1, by' := some 8, un := true } := ⟨ti_96, trivial, trivial, trivial, trivial, zv_96, zok_96, by_96, trivial, trivial, trivial, trivial, trivial, trivial, uns_96, trivial⟩
theorem uns_97 : (Try.prog.underlying 97).isSome = true := by kernel_rfl
theorem tok_97 : TOk Try.prog 97 { ti := some (false, 1), zv := some (.any), zok := some 1, by' := some 8, un := true } := ⟨ti_97, trivial, trivial, trivial, trivial, zv_97, zok_97, by_97, trivial, trivial, trivial, trivial, trivial, trivial, uns_97, trivial⟩
theorem uns_98 : (Try.prog.underlying 98).isSome = true := by kernel_rfl
theorem tok_98 : TOk Try.prog 98 { ti := some (false, 1), zv := some (.any), zok := some 1, by' := some 8, un := true } := ⟨ti_98, trivial, trivial, trivial, trivial, zv_98, zok_98, by_98, trivial, trivial, trivial, trivial, trivial, trivial, uns_98, trivial⟩
theorem uns_100 : (Try.prog.underlying 100).isSome = true := by kernel_rfl
theorem tok_100 : TOk Try.prog 100 { ti := some (false, 1), zv := some (.any), zok := some 1, by' := some 8, un := true } := ⟨ti_100, trivial, trivial, trivial, trivial, zv_100, zok_100, by_100, trivial, trivial, trivial, trivial, trivial, trivial, uns_100, trivial⟩
theorem uns_101 : (Try.prog.underlying 101).isSome = true := by kernel_rfl
theorem tok_101 : TOk Try.prog 101 { ti := some (false, 1), zv := some (.any), zok := some 1, by' := some 8, un := true } := ⟨ti_101, trivial, trivial, trivial, trivial, zv_101, zok_101, by_101, trivial, trivial, trivial, trivial, trivial, trivial, uns_101, trivial⟩
theorem uns_103 : (Try.prog.underlying 103).isSome = true := by kernel_rfl
theorem tok_103 : TOk Try.prog 103 { ti := some (false, 1), zv := some (.any), zok := some 1, by' := some 8, un := true } := ⟨ti_103, trivial, trivial, trivial, trivial, zv_103, zok_103, by_103, trivial, trivial, trivial, trivial, trivial, trivial, uns_103, trivial⟩
theorem uns_104 : (Try.prog.underlying 104).isSome = true := by kernel_rfl
theorem tok_104 : TOk Try.prog 104 { ti := some (false, 1), zv := some (.any), zok := some 1, by' := some 8, un := true } := ⟨ti_104, trivial, trivial, trivial, trivial, zv_104, zok_104, by_104, trivial, trivial, trivial, trivial, trivial, trivial, uns_104, trivial⟩
theorem uns_105 : (Try.prog.underlying 105).isSome = true := by kernel_rfl
theorem tok_105 : TOk Try.prog 105 { ti := some (true, 2), fi := [some (0, (false, 1)), some (1, (false, 1))], si := some [(0, 1), (1, 1)], zv := some (.agg [.str [], .str []]), zok := some 2, by' := some 32, un := true } := ⟨ti_105, trivial, trivial, ⟨fi_105_0, fi_105_1, trivial⟩, si_105, zv_105, zok_105, by_105, trivial, trivial, trivial, trivial, trivial, trivial, uns_105, trivial⟩
theorem sq_106 : SQ Try.prog 106 = some [.s, .s] := by kernel_rfl
theorem uns_106 : (Try.prog.underlying 106).isSome = true := by kernel_rfl
theorem tok_106 : TOk Try.prog 106 { ti := some (true, 2), fi := [some (0, (false, 1)), some (1, (false, 1))], si := some [(0, 1), (1, 1)], zv := some (.agg [.str [], .str []]), zok := some 2, by' := some 32, un := true, sq := some [.s, .s] } := ⟨ti_106, trivial, trivial, ⟨fi_106_0, fi_106_1, trivial⟩, si_106, zv_106, zok_106, by_106, trivial, trivial, trivial, trivial, trivial, trivial, uns_106, sq_106⟩
theorem uns_107 : (Try.prog.underlying 107).isSome = true := by kernel_rfl
theorem tok_107 : TOk Try.prog 107 { ti := some (false, 1), zv := some (.any), zok := some 1, by' := some 8, un := true } := ⟨ti_107, trivial, trivial, trivial, trivial, zv_107, zok_107, by_107, trivial, trivial, trivial, trivial, trivial, trivial, uns_107, trivial⟩
theorem uns_108 : (Try.prog.underlying 108).isSome = true := by kernel_rfl
theorem tok_108 : TOk Try.prog 108 { ti := some (false, 1), zv := some (.any), zok := some 1, by' := some 8, un := true } := ⟨ti_108, trivial, trivial, trivial, trivial, zv_108, zok_108, by_108, trivial, trivial, trivial, trivial, trivial, trivial, uns_108, trivial⟩
theorem uns_109 : (Try.prog.underlying 109).isSome = true := by kernel_rfl
theorem tok_109 : TOk Try.prog 109 { ti := some (false, 1), zv := some (.any), zok := some 1, by' := some 8, un := true } := ⟨ti_109, trivial, trivial, trivial, trivial, zv_109, zok_109, by_109, trivial, trivial, trivial, trivial, trivial, trivial, uns_109, trivial⟩
theorem uns_110 : (Try.prog.underlying 110).isSome = true := by kernel_rfl
theorem tok_110 : TOk Try.prog 110 { ti := some (false, 1), zv := some (.any), zok := some 1, by' := some 8, un := true } := ⟨ti_110, trivial, trivial, trivial, trivial, zv_110, zok_110, by_110, trivial, trivial, trivial, trivial, trivial, trivial, uns_110, trivial⟩
theorem uns_111 : (Try.prog.underlying 111).isSome = true := by kernel_rfl
theorem tok_111 : TOk Try.prog 111 { ti := some (false, 1), ei := some (9, 1), zv := some (.nils), zok := some 1, by' := some 24, sli := true, ni := true, un := true } := ⟨ti_111, ei_111, trivial, trivial, trivial, zv_111, zok_111, by_111, trivial, trivial, isSli_111, trivial, trivial, notInt_111, uns_111, trivial⟩
theorem uns_112 : (Try.prog.underlying 112).isSome = true := by kernel_rfl
theorem tok_112 : TOk Try.prog 112 { ti := some (false, 1), zv := some (.any), zok := some 1, by' := some 8, un := true } := ⟨ti_112, trivial, trivial, trivial, trivial, zv_112, zok_112, by_112, trivial, trivial, trivial, trivial, trivial, trivial, uns_112, trivial⟩
theorem uns_113 : (Try.prog.underlying 113).isSome = true := by kernel_rfl
theorem tok_113 : TOk Try.prog 113 { ti := some (false, 1), zv := some (.any), zok := some 1, by' := some 8, un := true } := ⟨ti_113, trivial, trivial, trivial, trivial, zv_113, zok_113, by_113, trivial, trivial, trivial, trivial, trivial, trivial, uns_113, trivial⟩
theorem uns_114 : (Try.prog.underlying 114).isSome = true := by kernel_rfl
theorem tok_114 : TOk Try.prog 114 { ti := some (false, 1), ei := some (5, 1), zv := some (.nils), zok := some 1, by' := some 24, sli := true, ni := true, un := true } := ⟨ti_114, ei_114, trivial, trivial, trivial, zv_114, zok_114, by_114, trivial, trivial, isSli_114, trivial, trivial, notInt_114, uns_114, trivial⟩
theorem uns_115 : (Try.prog.underlying 115).isSome = true := by kernel_rfl
theorem tok_115 : TOk Try.prog 115 { ti := some (false, 1), zv := some (.any), zok := some 1, by' := some 8, un := true } := ⟨ti_115, trivial, trivial, trivial, trivial, zv_115, zok_115, by_115, trivial, trivial, trivial, trivial, trivial, trivial, uns_115, trivial⟩
theorem uns_116 : (Try.prog.underlying 116).isSome = true := by kernel_rfl
theorem tok_116 : TOk Try.prog 116 { ti := some (false, 1), zv := some (.any), zok := some 1, by' := some 8, un := true } := ⟨ti_116, trivial, trivial, trivial, trivial, zv_116, zok_116, by_116, trivial, trivial, trivial, trivial, trivial, trivial, uns_116, trivial⟩
theorem uns_117 : (Try.prog.underlying 117).isSome = true := by kernel_rfl
theorem tok_117 : TOk Try.prog 117 { ti := some (false, 1), zv := some (.any), zok := some 1, by' := some 8, un := true } := ⟨ti_117, trivial, trivial, trivial, trivial, zv_117, zok_117, by_117, trivial, trivial, trivial, trivial, trivial, trivial, uns_117, trivial⟩
theorem uns_118 : (Try.prog.underlying 118).isSome = true := by kernel_rfl
theorem tok_118 : TOk Try.prog 118 { ti := some (false, 1), zv := some (.any), zok := some 1, by' := some 8, un := true } := ⟨ti_118, trivial, trivial, trivial, trivial, zv_118, zok_118, by_118, trivial, trivial, trivial, trivial, trivial, trivial, uns_118, trivial⟩
theorem uns_119 : (Try.prog.underlying 119).isSome = true := by kernel_rfl
theorem tok_119 : TOk Try.prog 119 { ti := some (false, 1), zv := some (.any), zok := some 1, by' := some 8, un := true } := ⟨ti_119, trivial, trivial, trivial, trivial, zv_119, zok_119, by_119, trivial, trivial, trivial, trivial, trivial, trivial, uns_119, trivial⟩
theorem uns_120 : (Try.prog.underlying 120).isSome = true := by kernel_rfl
theorem tok_120 : TOk Try.prog 120 { ti := some (false, 1), zv := some (.any), zok := some 1, by' := some 8, un := true } := ⟨ti_120, trivial, trivial, trivial, trivial, zv_120, zok_120, by_120, trivial, trivial, trivial, trivial, trivial, trivial, uns_120, trivial⟩
theorem uns_121 : (Try.prog.underlying 121).isSome = true := by kernel_rfl
theorem tok_121 : TOk Try.prog 121 { ti := some (false, 1), zv := some (.nilp), zok := some 1, by' := some 8, ptr := true, un := true } := ⟨ti_121, trivial, trivial, trivial, trivial, zv_121, zok_121, by_121, trivial, trivial, trivial, trivial, isPtr_121, trivial, uns_121, trivial⟩
theorem uns_122 : (Try.prog.underlying 122).isSome = true := by kernel_rfl
theorem tok_122 : TOk Try.prog 122 { ti := some (true, 2), fi := [some (0, (false, 1)), some (1, (false, 1))], si := some [(0, 1), (1, 1)], zv := some (.agg [.nilp, .nils]), zok := some 2, by' := some 32, un := true } := ⟨ti_122, trivial, trivial, ⟨fi_122_0, fi_122_1, trivial⟩, si_122, zv_122, zok_122, by_122, trivial, trivial, trivial, trivial, trivial, trivial, uns_122, trivial⟩
theorem uns_123 : (Try.prog.underlying 123).isSome = true := by kernel_rfl
theorem tok_123 : TOk Try.prog 123 { ti := some (true, 2), fi := [some (0, (false, 1)), some (1, (false, 1))], si := some [(0, 1), (1, 1)], zv := some (.agg [.nilp, .nils]), zok := some 2, by' := some 32, un := true } := ⟨ti_123, trivial, trivial, ⟨fi_123_0, fi_123_1, trivial⟩, si_123, zv_123, zok_123, by_123, trivial, trivial, trivial, trivial, trivial, trivial, uns_123, trivial⟩
theorem uns_124 : (Try.prog.underlying 124).isSome = true := by kernel_rfl
theorem tok_124 : TOk Try.prog 124 { ti := some (false, 1), zv := some (.any), zok := some 1, by' := some 8, un := true } := ⟨ti_124, trivial, trivial, trivial, trivial, zv_124, zok_124, by_124, trivial, trivial, trivial, trivial, trivial, trivial, uns_124, trivial⟩
theorem uns_128 : (Try.prog.underlying 128).isSome = true := by kernel_rfl
theorem tok_128 : TOk Try.prog 128 { ti := some (false, 1), zv := some (.any), zok := some 1, by' := some 8, un := true } := ⟨ti_128, trivial, trivial, trivial, trivial, zv_128, zok_128, by_128, trivial, trivial, trivial, trivial, trivial, trivial, uns_128, trivial⟩
theorem uns_129 : (Try.prog.underlying 129).isSome = true := by kernel_rfl
theorem tok_129 : TOk Try.prog 129 { ti := some (false, 1), zv := some (.any), zok := some 1, by' := some 8, un := true } := ⟨ti_129, trivial, trivial, trivial, trivial, zv_129, zok_129, by_129, trivial, trivial, trivial, trivial, trivial, trivial, uns_129, trivial⟩
theorem uns_130 : (Try.prog.underlying 130).isSome = true := by kernel_rfl
theorem tok_130 : TOk Try.prog 130 { ti := some (false, 1), zv := some (.any), zok := some 1, by' := some 8, un := true } := ⟨ti_130, trivial, trivial, trivial, trivial, zv_130, zok_130, by_130, trivial, trivial, trivial, trivial, trivial, trivial, uns_130, trivial⟩
theorem uns_131 : (Try.prog.underlying 131).isSome = true := by kernel_rfl
theorem tok_131 : TOk Try.prog 131 { ti := some (false, 1), zv := some (.any), zok := some 1, by' := some 8, un := true } := ⟨ti_131, trivial, trivial, trivial, trivial, zv_131, zok_131, by_131, trivial, trivial, trivial, trivial, trivial, trivial, uns_131, trivial⟩
theorem uns_132 : (Try.prog.underlying 132).isSome = true := by kernel_rfl
theorem tok_132 : TOk Try.prog 132 { ti := some (false, 1), zv := some (.nilp), zok := some 1, by' := some 8, ptr := true, un := true } := ⟨ti_132, trivial, trivial, trivial, trivial, zv_132, zok_132, by_132, trivial, trivial, trivial, trivial, isPtr_132, trivial, uns_132, trivial⟩
theorem uns_135 : (Try.prog.underlying 135).isSome = true := by kernel_rfl
theorem tok_135 : TOk Try.prog 135 { ti := some (false, 1), zv := some (.any), zok := some 1, by' := some 8, un := true } := ⟨ti_135, trivial, trivial, trivial, trivial, zv_135, zok_135, by_135, trivial, trivial, trivial, trivial, trivial, trivial, uns_135, trivial⟩
theorem uns_136 : (Try.prog.underlying 136).isSome = true := by kernel_rfl
theorem tok_136 : TOk Try.prog 136 { ti := some (false, 1), zv := some (.any), zok := some 1, by' := some 8, un := true } := ⟨ti_136, trivial, trivial, trivial, trivial, zv_136, zok_136, by_136, trivial, trivial, trivial, trivial, trivial, trivial, uns_136, trivial⟩
theorem uns_142 : (Try.prog.underlying 142).isSome = true := by kernel_rfl
theorem tok_142 : TOk Try.prog 142 { ti := some (false, 1), zv := some (.any), zok := some 1, by' := some 8, un := true } := ⟨ti_142, trivial, trivial, trivial, trivial, zv_142, zok_142, by_142, trivial, trivial, trivial, trivial, trivial, trivial, uns_142, trivial⟩
theorem uns_143 : (Try.prog.underlying 143).isSome = true := by kernel_rfl
theorem tok_143 : TOk Try.prog 143 { ti := some (false, 1), zv := some (.int .u32 0), zok := some 1, by' := some 4, ik := some .u32, un := true } := ⟨ti_143, trivial, trivial, trivial, trivial, zv_143, zok_143, by_143, intK_143, trivial, trivial, trivial, trivial, trivial, uns_143, trivial⟩
def Try.tt : TT := (.node (.node (.node (.node (.node (.node (.node .leaf 1 { ti := some (false, 1), zv := some (.any), zok := some 1, by' := some 8, un := true } .leaf) 2 { ti := some (false, 1), zv := some (.int .i64 0), zok := some 1, by' := some 8, ik := some .i64, un := true } (.node .leaf 3 { ti := some (false, 1), zv := some (.int .i64 0), zok := some 1, by' := some 8, ik := some .i64, un := true } .leaf)) 4 { ti := some (false, 1), zv := some (.bool false), zok := some 1, by' := some 1, boo := true, un := true } (.node (.node .leaf 5 { ti := some (false, 1), zv := some (.int .u8 0), zok := some 1, by' := some 1, ik := some .u8, un := true } .leaf) 9 { ti := some (false, 1), zv := some (.str []), zok := some 1, by' := some 16, str := true, ni := true, un := true } .leaf)) 12 { ti := some (false, 1), zv := some (.int .u64 0), zok := some 1, by' := some 8, ik := some .u64, un := true } (.node (.node (.node .leaf 13 { ti := some (true, 2), fi := [some (0, (false, 1)), some (1, (false, 1))], si := some [(0, 1), (1, 1)], zv := some (.agg [.str [], .int .u64 0]), zok := some 2, by' := some 24, un := true } .leaf) 21 { ti := some (false, 1), zv := some (.int .i32 0), zok := some 1, by' := some 4, ik := some .i32, un := true } (.node .leaf 22 { ti := some (false, 1), ei := some (59, 1), zv := some (.nils), zok := some 1, by' := some 24, sli := true, ni := true, un := true } .leaf)) 23 { ti := some (false, 1), ei := some (4, 1), zv := some (.nils), zok := some 1, by' := some 24, sli := true, ni := true, un := true } (.node (.node .leaf 24 { ti := some (true, 2), fi := [some (0, (false, 1)), some (1, (false, 1))], si := some [(0, 1), (1, 1)], zv := some (.agg [.nils, .nils]), zok := some 2, by' := some 48, un := true } .leaf) 25 { ti := some (true, 2), fi := [some (0, (false, 1)), some (1, (false, 1))], si := some [(0, 1), (1, 1)], zv := some (.agg [.nils, .nils]), zok := some 2, by' := some 48, un := true } .leaf))) 26 { ti := some (false, 1), zv := some (.int .i64 0), zok := some 1, by' := some 8, ik := some .i64, un := true } (.node (.node (.node (.node .leaf 28 { ti := some (false, 1), zv := some (.any), zok := some 1, by' := some 8, un := true } .leaf) 29 { ti := some (false, 1), zv := some (.any), zok := some 1, by' := some 8, un := true } (.node .leaf 30 { ti := some (false, 1), ei := some (32, 3), zv := some (.nils), zok := some 1, by' := some 24, sli := true, ni := true, un := true } .leaf)) 31 { ti := some (true, 3), fi := [some (0, (false, 1)), some (1, (false, 1)), some (2, (false, 1))], si := some [(0, 1), (1, 1), (2, 1)], zv := some (.agg [.int .i64 0, .int .i64 0, .nils]), zok := some 3, by' := some 40, un := true } (.node (.node .leaf 32 { ti := some (true, 3), fi := [some (0, (false, 1)), some (1, (false, 1)), some (2, (false, 1))], si := some [(0, 1), (1, 1), (2, 1)], zv := some (.agg [.int .i64 0, .int .i64 0, .nils]), zok := some 3, by' := some 40, un := true } .leaf) 34 { ti := some (false, 1), zv := some (.any), zok := some 1, by' := some 8, un := true } .leaf)) 35 { ti := some (false, 1), zv := some (.any), zok := some 1, by' := some 8, un := true } (.node (.node (.node .leaf 36 { ti := some (false, 1), zv := some (.any), zok := some 1, by' := some 8, un := true } .leaf) 37 { ti := some (false, 1), ei := some (76, 4), zv := some (.nils), zok := some 1, by' := some 24, sli := true, ni := true, un := true } (.node .leaf 38 { ti := some (false, 1), ei := some (80, 6), zv := some (.nils), zok := some 1, by' := some 24, sli := true, ni := true, un := true } .leaf)) 40 { ti := some (false, 1), zv := some (.any), zok := some 1, by' := some 8, un := true } (.node (.node .leaf 41 { ti := some (false, 1), zv := some (.any), zok := some 1, by' := some 8, un := true } .leaf) 42 { ti := some (false, 1), zv := some (.any), zok := some 1, by' := some 8, un := true } .leaf)))) 44 { ti := some (false, 1), zv := some (.any), zok := some 1, by' := some 8, un := true } (.node (.node (.node (.node (.node .leaf 45 { ti := some (false, 1), zv := some (.any), zok := some 1, by' := some 8, un := true } .leaf) 46 { ti := some (false, 1), zv := some (.any), zok := some 1, by' := some 8, un := true } (.node .leaf 47 { ti := some (false, 1), ei := some (53, 2), zv := some (.nils), zok := some 1, by' := some 24, sli := true, ni := true, un := true } .leaf)) 48 { ti := some (false, 1), ei := some (88, 8), zv := some (.nils), zok := some 1, by' := some 24, sli := true, ni := true, un := true } (.node (.node .leaf 50 { ti := some (false, 1), zv := some (.any), zok := some 1, by' := some 8, un := true } .leaf) 51 { ti := some (false, 1), zv := some (.any), zok := some 1, by' := some 8, un := true } .leaf)) 52 { ti := some (true, 2), fi := [some (0, (false, 1)), some (1, (false, 1))], si := some [(0, 1), (1, 1)], zv := some (.agg [.int .i64 0, .int .i64 0]), zok := some 2, by' := some 16, un := true } (.node (.node (.node .leaf 53 { ti := some (true, 2), fi := [some (0, (false, 1)), some (1, (false, 1))], si := some [(0, 1), (1, 1)], zv := some (.agg [.int .i64 0, .int .i64 0]), zok := some 2, by' := some 16, un := true, sq := some [.i .i64, .i .i64] } .leaf) 54 { ti := some (false, 1), zv := some (.any), zok := some 1, by' := some 8, un := true } (.node .leaf 55 { ti := some (false, 1), zv := some (.any), zok := some 1, by' := some 8, un := true } .leaf)) 56 { ti := some (true, 2), fi := [some (0, (false, 1)), some (1, (false, 1))], si := some [(0, 1), (1, 1)], zv := some (.agg [.nils, .nils]), zok := some 2, by' := some 48, un := true } (.node (.node .leaf 57 { ti := some (true, 2), fi := [some (0, (false, 1)), some (1, (false, 1))], si := some [(0, 1), (1, 1)], zv := some (.agg [.nils, .nils]), zok := some 2, by' := some 48, un := true } .leaf) 58 { ti := some (false, 1), zv := some (.any), zok := some 1, by' := some 8, un := true } .leaf))) 59 { ti := some (false, 1), ei := some (3, 1), zv := some (.nils), zok := some 1, by' := some 24, sli := true, ni := true, un := true } (.node (.node (.node (.node .leaf 60 { ti := some (false, 1), ei := some (23, 1), zv := some (.nils), zok := some 1, by' := some 24, sli := true, ni := true, un := true } .leaf) 61 { ti := some (false, 1), zv := some (.any), zok := some 1, by' := some 8, un := true } (.node .leaf 62 { ti := some (false, 1), zv := some (.nilp), zok := some 1, by' := some 8, ptr := true, un := true } .leaf)) 63 { ti := some (true, 2), fi := [some (0, (false, 1)), some (1, (false, 1))], si := some [(0, 1), (1, 1)], zv := some (.agg [.str [], .bool false]), zok := some 2, by' := some 24, un := true } (.node (.node .leaf 64 { ti := some (true, 2), fi := [some (0, (false, 1)), some (1, (false, 1))], si := some [(0, 1), (1, 1)], zv := some (.agg [.str [], .bool false]), zok := some 2, by' := some 24, un := true, sq := some [.s, .b] } .leaf) 65 { ti := some (false, 1), zv := some (.any), zok := some 1, by' := some 8, un := true } .leaf)) 66 { ti := some (false, 1), zv := some (.any), zok := some 1, by' := some 8, un := true } (.node (.node (.node .leaf 68 { ti := some (false, 1), zv := some (.any), zok := some 1, by' := some 8, un := true } .leaf) 70 { ti := some (false, 1), zv := some (.any), zok := some 1, by' := some 8, un := true } .leaf) 71 { ti := some (false, 1), ei := some (37, 1), zv := some (.nils), zok := some 1, by' := some 24, sli := true, ni := true, un := true } (.node (.node .leaf 73 { ti := some (false, 1), zv := some (.any), zok := some 1, by' := some 8, un := true } .leaf) 74 { ti := some (false, 1), ei := some (106, 2), zv := some (.nils), zok := some 1, by' := some 24, sli := true, ni := true, un := true } .leaf))))) 75 { ti := some (true, 4), fi := [some (0, (false, 1)), some (1, (false, 1)), some (2, (false, 1)), some (3, (false, 1))], si := some [(0, 1), (1, 1), (2, 1), (3, 1)], zv := some (.agg [.str [], .nils, .str [], .nils]), zok := some 4, by' := some 80, un := true } (.node (.node (.node (.node (.node (.node .leaf 76 { ti := some (true, 4), fi := [some (0, (false, 1)), some (1, (false, 1)), some (2, (false, 1)), some (3, (false, 1))], si := some [(0, 1), (1, 1), (2, 1), (3, 1)], zv := some (.agg [.str [], .nils, .str [], .nils]), zok := some 4, by' := some 80, un := true } .leaf) 77 { ti := some (false, 1), zv := some (.any), zok := some 1, by' := some 8, un := true } (.node .leaf 78 { ti := some (false, 1), zv := some (.any), zok := some 1, by' := some 8, un := true } .leaf)) 79 { ti := some (true, 6), fi := [some (0, (false, 1)), some (1, (false, 1)), some (2, (true, 4))], si := some [(0, 1), (1, 1), (2, 4)], zv := some (.agg [.int .i64 0, .nils, .str [], .nils, .str [], .nils]), zok := some 6, by' := some 112, un := true } (.node (.node .leaf 80 { ti := some (true, 6), fi := [some (0, (false, 1)), some (1, (false, 1)), some (2, (true, 4))], si := some [(0, 1), (1, 1), (2, 4)], zv := some (.agg [.int .i64 0, .nils, .str [], .nils, .str [], .nils]), zok := some 6, by' := some 112, un := true } .leaf) 82 { ti := some (false, 1), zv := some (.any), zok := some 1, by' := some 8, un := true } .leaf)) 83 { ti := some (false, 1), zv := some (.any), zok := some 1, by' := some 8, un := true } (.node (.node (.node .leaf 84 { ti := some (false, 1), zv := some (.any), zok := some 1, by' := some 8, un := true } .leaf) 85 { ti := some (false, 1), zv := some (.any), zok := some 1, by' := some 8, un := true } (.node .leaf 86 { ti := some (false, 1), zv := some (.any), zok := some 1, by' := some 8, un := true } .leaf)) 87 { ti := some (false, 1), zv := some (.any), zok := some 1, by' := some 8, un := true } (.node (.node .leaf 88 { ti := some (true, 8), ai := some (8, (false, 1)), zv := some (.agg [.int .i64 0, .int .i64 0, .int .i64 0, .int .i64 0, .int .i64 0, .int .i64 0, .int .i64 0, .int .i64 0]), zok := some 8, by' := some 64, un := true } .leaf) 89 { ti := some (false, 1), zv := some (.any), zok := some 1, by' := some 8, un := true } .leaf))) 91 { ti := some (false, 1), zv := some (.any), zok := some 1, by' := some 8, un := true } (.node (.node (.node (.node .leaf 92 { ti := some (false, 1), zv := some (.any), zok := some 1, by' := some 8, un := true } .leaf) 93 { ti := some (false, 1), zv := some (.any), zok := some 1, by' := some 8, un := true } (.node .leaf 94 { ti := some (false, 1), zv := some (.any), zok := some 1, by' := some 8, un := true } .leaf)) 95 { ti := some (false, 1), zv := some (.nilp), zok := some 1, by' := some 8, ptr := true, un := true } (.node (.node .leaf 96 { ti := some (false, 1), zv := some (.any), zok := some 1, by' := some 8, un := true } .leaf) 97 { ti := some (false, 1), zv := some (.any), zok := some 1, by' := some 8, un := true } .leaf)) 98 { ti := some (false, 1), zv := some (.any), zok := some 1, by' := some 8, un := true } (.node (.node (.node .leaf 100 { ti := some (false, 1), zv := some (.any), zok := some 1, by' := some 8, un := true } .leaf) 101 { ti := some (false, 1), zv := some (.any), zok := some 1, by' := some 8, un := true } (.node .leaf 103 { ti := some (false, 1), zv := some (.any), zok := some 1, by' := some 8, un := true } .leaf)) 104 { ti := some (false, 1), zv := some (.any), zok := some 1, by' := some 8, un := true } (.node (.node .leaf 105 { ti := some (true, 2), fi := [some (0, (false, 1)), some (1, (false, 1))], si := some [(0, 1), (1, 1)], zv := some (.agg [.str [], .str []]), zok := some 2, by' := some 32, un := true } .leaf) 106 { ti := some (true, 2), fi := [some (0, (false, 1)), some (1, (false, 1))], si := some [(0, 1), (1, 1)], zv := some (.agg [.str [], .str []]), zok := some 2, by' := some 32, un := true, sq := some [.s, .s] } .leaf)))) 107 { ti := some (false, 1), zv := some (.any), zok := some 1, by' := some 8, un := true } (.node (.node (.node (.node (.node .leaf 108 { ti := some (false, 1), zv := some (.any), zok := some 1, by' := some 8, un := true } .leaf) 109 { ti := some (false, 1), zv := some (.any), zok := some 1, by' := some 8, un := true } (.node .leaf 110 { ti := some (false, 1), zv := some (.any), zok := some 1, by' := some 8, un := true } .leaf)) 111 { ti := some (false, 1), ei := some (9, 1), zv := some (.nils), zok := some 1, by' := some 24, sli := true, ni := true, un := true } (.node (.node .leaf 112 { ti := some (false, 1), zv := some (.any), zok := some 1, by' := some 8, un := true } .leaf) 113 { ti := some (false, 1), zv := some (.any), zok := some 1, by' := some 8, un := true } .leaf)) 114 { ti := some (false, 1), ei := some (5, 1), zv := some (.nils), zok := some 1, by' := some 24, sli := true, ni := true, un := true } (.node (.node (.node .leaf 115 { ti := some (false, 1), zv := some (.any), zok := some 1, by' := some 8, un := true } .leaf) 116 { ti := some (false, 1), zv := some (.any), zok := some 1, by' := some 8, un := true } (.node .leaf 117 { ti := some (false, 1), zv := some (.any), zok := some 1, by' := some 8, un := true } .leaf)) 118 { ti := some (false, 1), zv := some (.any), zok := some 1, by' := some 8, un := true } (.node (.node .leaf 119 { ti := some (false, 1), zv := some (.any), zok := some 1, by' := some 8, un := true } .leaf) 120 { ti := some (false, 1), zv := some (.any), zok := some 1, by' := some 8, un := true } .leaf))) 121 { ti := some (false, 1), zv := some (.nilp), zok := some 1, by' := some 8, ptr := true, un := true } (.node (.node (.node (.node .leaf 122 { ti := some (true, 2), fi := [some (0, (false, 1)), some (1, (false, 1))], si := some [(0, 1), (1, 1)], zv := some (.agg [.nilp, .nils]), zok := some 2, by' := some 32, un := true } .leaf) 123 { ti := some (true, 2), fi := [some (0, (false, 1)), some (1, (false, 1))], si := some [(0, 1), (1, 1)], zv := some (.agg [.nilp, .nils]), zok := some 2, by' := some 32, un := true } (.node .leaf 124 { ti := some (false, 1), zv := some (.any), zok := some 1, by' := some 8, un := true } .leaf)) 128 { ti := some (false, 1), zv := some (.any), zok := some 1, by' := some 8, un := true } (.node (.node .leaf 129 { ti := some (false, 1), zv := some (.any), zok := some 1, by' := some 8, un := true } .leaf) 130 { ti := some (false, 1), zv := some (.any), zok := some 1, by' := some 8, un := true } .leaf)) 131 { ti := some (false, 1), zv := some (.any), zok := some 1, by' := some 8, un := true } (.node (.node (.node .leaf 132 { ti := some (false, 1), zv := some (.nilp), zok := some 1, by' := some 8, ptr := true, un := true } .leaf) 135 { ti := some (false, 1), zv := some (.any), zok := some 1, by' := some 8, un := true } .leaf) 136 { ti := some (false, 1), zv := some (.any), zok := some 1, by' := some 8, un := true } (.node (.node .leaf 142 { ti := some (false, 1), zv := some (.any), zok := some 1, by' := some 8, un := true } .leaf) 143 { ti := some (false, 1), zv := some (.int .u32 0), zok := some 1, by' := some 4, ik := some .u32, un := true } .leaf))))))
theorem tt_all : TT.All Try.prog Try.tt := ⟨⟨⟨⟨⟨⟨⟨trivial, tok_1, trivial⟩, tok_2, ⟨trivial, tok_3, trivial⟩⟩, tok_4, ⟨⟨trivial, tok_5, trivial⟩, tok_9, trivial⟩⟩, tok_12, ⟨⟨⟨trivial, tok_13, trivial⟩, tok_21, ⟨trivial, tok_22, trivial⟩⟩, tok_23, ⟨⟨trivial, tok_24, trivial⟩, tok_25, trivial⟩⟩⟩, tok_26, ⟨⟨⟨⟨trivial, tok_28, trivial⟩, tok_29, ⟨trivial, tok_30, trivial⟩⟩, tok_31, ⟨⟨trivial, tok_32, trivial⟩, tok_34, trivial⟩⟩, tok_35, ⟨⟨⟨trivial, tok_36, trivial⟩, tok_37, ⟨trivial, tok_38, trivial⟩⟩, tok_40, ⟨⟨trivial, tok_41, trivial⟩, tok_42, trivial⟩⟩⟩⟩, tok_44, ⟨⟨⟨⟨⟨trivial, tok_45, trivial⟩, tok_46, ⟨trivial, tok_47, trivial⟩⟩, tok_48, ⟨⟨trivial, tok_50, trivial⟩, tok_51, trivial⟩⟩, tok_52, ⟨⟨⟨trivial, tok_53, trivial⟩, tok_54, ⟨trivial, tok_55, trivial⟩⟩, tok_56, ⟨⟨trivial, tok_57, trivial⟩, tok_58, trivial⟩⟩⟩, tok_59, ⟨⟨⟨⟨trivial, tok_60, trivial⟩, tok_61, ⟨trivial, tok_62, trivial⟩⟩, tok_63, ⟨⟨trivial, tok_64, trivial⟩, tok_65, trivial⟩⟩, tok_66, ⟨⟨⟨trivial, tok_68, trivial⟩, tok_70, trivial⟩, tok_71, ⟨⟨trivial, tok_73, trivial⟩, tok_74, trivial⟩⟩⟩⟩⟩, tok_75, ⟨⟨⟨⟨⟨⟨trivial, tok_76, trivial⟩, tok_77, ⟨trivial, tok_78, trivial⟩⟩, tok_79, ⟨⟨trivial, tok_80, trivial⟩, tok_82, trivial⟩⟩, tok_83, ⟨⟨⟨trivial, tok_84, trivial⟩, tok_85, ⟨trivial, tok_86, trivial⟩⟩, tok_87, ⟨⟨trivial, tok_88, trivial⟩, tok_89, trivial⟩⟩⟩, tok_91, ⟨⟨⟨⟨trivial, tok_92, trivial⟩, tok_93, ⟨trivial, tok_94, trivial⟩⟩, tok_95, ⟨⟨trivial, tok_96, trivial⟩, tok_97, trivial⟩⟩, tok_98, ⟨⟨⟨trivial, tok_100, trivial⟩, tok_101, ⟨trivial, tok_103, trivial⟩⟩, tok_104, ⟨⟨trivial, tok_105, trivial⟩, tok_106, trivial⟩⟩⟩⟩, tok_107, ⟨⟨⟨⟨⟨trivial, tok_108, trivial⟩, tok_109, ⟨trivial, tok_110, trivial⟩⟩, tok_111, ⟨⟨trivial, tok_112, trivial⟩, tok_113, trivial⟩⟩, tok_114, ⟨⟨⟨trivial, tok_115, trivial⟩, tok_116, ⟨trivial, tok_117, trivial⟩⟩, tok_118, ⟨⟨trivial, tok_119, trivial⟩, tok_120, trivial⟩⟩⟩, tok_121, ⟨⟨⟨⟨trivial, tok_122, trivial⟩, tok_123, ⟨trivial, tok_124, trivial⟩⟩, tok_128, ⟨⟨trivial, tok_129, trivial⟩, tok_130, trivial⟩⟩, tok_131, ⟨⟨⟨trivial, tok_132, trivial⟩, tok_135, trivial⟩, tok_136, ⟨⟨trivial, tok_142, trivial⟩, tok_143, trivial⟩⟩⟩⟩⟩⟩
theorem hasBody_3 : hasBody Try.prog 3 = true := by kernel_rfl
theorem hasBody_4 : hasBody Try.prog 4 = true := by kernel_rfl
theorem hasBody_5 : hasBody Try.prog 5 = true := by kernel_rfl
theorem hasBody_6 : hasBody Try.prog 6 = true := by kernel_rfl
theorem hasBody_7 : hasBody Try.prog 7 = true := by kernel_rfl
theorem hasBody_8 : hasBody Try.prog 8 = true := by kernel_rfl
theorem hasBody_9 : hasBody Try.prog 9 = true := by kernel_rfl
theorem hasBody_10 : hasBody Try.prog 10 = true := by kernel_rfl
theorem hasBody_11 : hasBody Try.prog 11 = true := by kernel_rfl
theorem hasBody_12 : hasBody Try.prog 12 = true := by kernel_rfl
theorem hasBody_13 : hasBody Try.prog 13 = true := by kernel_rfl
theorem hasBody_14 : hasBody Try.prog 14 = true := by kernel_rfl
theorem hasBody_15 : hasBody Try.prog 15 = true := by kernel_rfl
theorem hasBody_16 : hasBody Try.prog 16 = true := by kernel_rfl
theorem hasBody_17 : hasBody Try.prog 17 = true := by kernel_rfl
theorem hasBody_18 : hasBody Try.prog 18 = true := by kernel_rfl
theorem hasBody_19 : hasBody Try.prog 19 = true := by kernel_rfl
theorem hasBody_20 : hasBody Try.prog 20 = true := by kernel_rfl
theorem hasBody_21 : hasBody Try.prog 21 = true := by kernel_rfl
theorem hasBody_22 : hasBody Try.prog 22 = true := by kernel_rfl
theorem hasBody_23 : hasBody Try.prog 23 = true := by kernel_rfl
theorem hasBody_24 : hasBody Try.prog 24 = true := by kernel_rfl
theorem hasBody_25 : hasBody Try.prog 25 = true := by kernel_rfl
theorem hasBody_26 : hasBody Try.prog 26 = true := by kernel_rfl
theorem hasBody_27 : hasBody Try.prog 27 = true := by kernel_rfl
theorem hasBody_28 : hasBody Try.prog 28 = true := by kernel_rfl
theorem hasBody_29 : hasBody Try.prog 29 = true := by kernel_rfl
theorem hasBody_30 : hasBody Try.prog 30 = true := by kernel_rfl
theorem hasBody_31 : hasBody Try.prog 31 = true := by kernel_rfl
theorem hasBody_32 : hasBody Try.prog 32 = true := by kernel_rfl
theorem hasBody_33 : hasBody Try.prog 33 = true := by kernel_rfl
theorem hasBody_34 : hasBody Try.prog 34 = true := by kernel_rfl
theorem hasBody_35 : hasBody Try.prog 35 = true := by kernel_rfl
theorem hasBody_36 : hasBody Try.prog 36 = true := by kernel_rfl
theorem hasBody_37 : hasBody Try.prog 37 = true := by kernel_rfl
theorem hasBody_38 : hasBody Try.prog 38 = true := by kernel_rfl
theorem hasBody_39 : hasBody Try.prog 39 = true := by kernel_rfl
theorem hasBody_40 : hasBody Try.prog 40 = true := by kernel_rfl
theorem hasBody_41 : hasBody Try.prog 41 = true := by kernel_rfl
theorem hasBody_42 : hasBody Try.prog 42 = true := by kernel_rfl
theorem hasBody_43 : hasBody Try.prog 43 = true := by kernel_rfl
theorem hasBody_44 : hasBody Try.prog 44 = true := by kernel_rfl
theorem hasBody_45 : hasBody Try.prog 45 = true := by kernel_rfl
theorem hasBody_46 : hasBody Try.prog 46 = true := by kernel_rfl
theorem hasBody_47 : hasBody Try.prog 47 = true := by kernel_rfl
theorem hasBody_48 : hasBody Try.prog 48 = true := by kernel_rfl
theorem hasBody_49 : hasBody Try.prog 49 = true := by kernel_rfl
theorem hasBody_50 : hasBody Try.prog 50 = true := by kernel_rfl
theorem hasBody_51 : hasBody Try.prog 51 = true := by kernel_rfl
theorem hasBody_52 : hasBody Try.prog 52 = true := by kernel_rfl
theorem hasBody_53 : hasBody Try.prog 53 = true := by kernel_rfl
theorem hasBody_54 : hasBody Try.prog 54 = true := by kernel_rfl
theorem hasBody_55 : hasBody Try.prog 55 = true := by kernel_rfl
theorem hasBody_56 : hasBody Try.prog 56 = true := by kernel_rfl
theorem hasBody_57 : hasBody Try.prog 57 = true := by kernel_rfl
theorem hasBody_58 : hasBody Try.prog 58 = true := by kernel_rfl
theorem hasBody_59 : hasBody Try.prog 59 = true := by kernel_rfl
theorem hasBody_60 : hasBody Try.prog 60 = true := by kernel_rfl
theorem hasBody_61 : hasBody Try.prog 61 = true := by kernel_rfl
theorem hasBody_62 : hasBody Try.prog 62 = true := by kernel_rfl
theorem hasBody_63 : hasBody Try.prog 63 = true := by kernel_rfl
theorem hasBody_64 : hasBody Try.prog 64 = true := by kernel_rfl
theorem hasBody_65 : hasBody Try.prog 65 = true := by kernel_rfl
theorem hasBody_66 : hasBody Try.prog 66 = true := by kernel_rfl
theorem hasBody_67 : hasBody Try.prog 67 = true := by kernel_rfl
theorem hasBody_68 : hasBody Try.prog 68 = true := by kernel_rfl
theorem hasBody_69 : hasBody Try.prog 69 = true := by kernel_rfl
theorem hasBody_70 : hasBody Try.prog 70 = true := by kernel_rfl
theorem hasBody_71 : hasBody Try.prog 71 = true := by kernel_rfl
theorem hasBody_72 : hasBody Try.prog 72 = true := by kernel_rfl
theorem hasBody_74 : hasBody Try.prog 74 = true := by kernel_rfl
theorem hasBody_75 : hasBody Try.prog 75 = true := by kernel_rfl
theorem hasBody_77 : hasBody Try.prog 77 = true := by kernel_rfl
theorem hasBody_78 : hasBody Try.prog 78 = true := by kernel_rfl
theorem hasBody_79 : hasBody Try.prog 79 = true := by kernel_rfl
theorem hasBody_83 : hasBody Try.prog 83 = true := by kernel_rfl
theorem follows_all : Try.prog.follows .mixedOrders = true := by kernel_rfl
end Go.Proofs.Yteappcclfjafeaa
