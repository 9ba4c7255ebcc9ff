/- Facts of this seat's types and functions, each by the kernel's reckoning; written by program. No conditions. -/
import Derived.Test.YtkkcmobnhiiacaaAwx
import Derived.Test.YtkkcmobnhiiacaaRows
set_option linter.unusedSimpArgs false
set_option linter.unusedVariables false
namespace Go.Proofs.Ytkkcmobnhiiacaa

theorem cells_1 : Try.prog.cellsOf 1 = 1 := by kernel_rfl
theorem ti_1 : TI Try.prog 1 = some (false, 1) := by kernel_rfl
theorem zv_1 : ZV Try.prog 1 = some (.any) := by kernel_rfl
theorem zok_1 : ZOk Try.prog 1 1 = true := by kernel_rfl
theorem by_1 : byOf Try.prog 1 = 8 := by kernel_rfl
theorem cells_2 : Try.prog.cellsOf 2 = 1 := by kernel_rfl
theorem ti_2 : TI Try.prog 2 = some (false, 1) := by kernel_rfl
theorem intK_2 : intK Try.prog 2 = some .i64 := by kernel_rfl
theorem un_2 : Try.prog.underlying 2 = some (.int .i64) := by kernel_rfl
theorem zv_2 : ZV Try.prog 2 = some (.int .i64 0) := by kernel_rfl
theorem zok_2 : ZOk Try.prog 2 1 = true := by kernel_rfl
theorem by_2 : byOf Try.prog 2 = 8 := by kernel_rfl
theorem cells_3 : Try.prog.cellsOf 3 = 1 := by kernel_rfl
theorem ti_3 : TI Try.prog 3 = some (false, 1) := by kernel_rfl
theorem intK_3 : intK Try.prog 3 = some .i64 := by kernel_rfl
theorem un_3 : Try.prog.underlying 3 = some (.int .i64) := by kernel_rfl
theorem zv_3 : ZV Try.prog 3 = some (.int .i64 0) := by kernel_rfl
theorem zok_3 : ZOk Try.prog 3 1 = true := by kernel_rfl
theorem by_3 : byOf Try.prog 3 = 8 := by kernel_rfl
theorem cells_4 : Try.prog.cellsOf 4 = 1 := by kernel_rfl
theorem ti_4 : TI Try.prog 4 = some (false, 1) := by kernel_rfl
theorem isBoo_4 : isBoo Try.prog 4 = true := by kernel_rfl
theorem zv_4 : ZV Try.prog 4 = some (.bool false) := by kernel_rfl
theorem zok_4 : ZOk Try.prog 4 1 = true := by kernel_rfl
theorem by_4 : byOf Try.prog 4 = 1 := by kernel_rfl
theorem cells_5 : Try.prog.cellsOf 5 = 1 := by kernel_rfl
theorem ti_5 : TI Try.prog 5 = some (false, 1) := by kernel_rfl
theorem intK_5 : intK Try.prog 5 = some .u8 := by kernel_rfl
theorem un_5 : Try.prog.underlying 5 = some (.int .u8) := by kernel_rfl
theorem zv_5 : ZV Try.prog 5 = some (.int .u8 0) := by kernel_rfl
theorem zok_5 : ZOk Try.prog 5 1 = true := by kernel_rfl
theorem by_5 : byOf Try.prog 5 = 1 := by kernel_rfl
theorem cells_9 : Try.prog.cellsOf 9 = 1 := by kernel_rfl
theorem ti_9 : TI Try.prog 9 = some (false, 1) := by kernel_rfl
theorem isStr_9 : isStr Try.prog 9 = true := by kernel_rfl
theorem notInt_9 : notInt Try.prog 9 = true := by kernel_rfl
theorem zv_9 : ZV Try.prog 9 = some (.str []) := by kernel_rfl
theorem zok_9 : ZOk Try.prog 9 1 = true := by kernel_rfl
theorem by_9 : byOf Try.prog 9 = 16 := by kernel_rfl
theorem cells_12 : Try.prog.cellsOf 12 = 1 := by kernel_rfl
theorem ti_12 : TI Try.prog 12 = some (false, 1) := by kernel_rfl
theorem intK_12 : intK Try.prog 12 = some .u64 := by kernel_rfl
theorem un_12 : Try.prog.underlying 12 = some (.int .u64) := by kernel_rfl
theorem zv_12 : ZV Try.prog 12 = some (.int .u64 0) := by kernel_rfl
theorem zok_12 : ZOk Try.prog 12 1 = true := by kernel_rfl
theorem by_12 : byOf Try.prog 12 = 8 := by kernel_rfl
theorem cells_13 : Try.prog.cellsOf 13 = 2 := by kernel_rfl
theorem ti_13 : TI Try.prog 13 = some (true, 2) := by kernel_rfl
theorem fi_13_0 : FI Try.prog 13 0 = some (0, (false, 1)) := by kernel_rfl
theorem fi_13_1 : FI Try.prog 13 1 = some (1, (false, 1)) := by kernel_rfl
theorem si_13 : SI Try.prog 13 = some [(0, 1), (1, 1)] := by kernel_rfl
theorem zv_13 : ZV Try.prog 13 = some (.agg [.str [], .int .u64 0]) := by kernel_rfl
theorem zok_13 : ZOk Try.prog 13 2 = true := by kernel_rfl
theorem by_13 : byOf Try.prog 13 = 24 := by kernel_rfl
theorem cells_21 : Try.prog.cellsOf 21 = 1 := by kernel_rfl
theorem ti_21 : TI Try.prog 21 = some (false, 1) := by kernel_rfl
theorem intK_21 : intK Try.prog 21 = some .i32 := by kernel_rfl
theorem un_21 : Try.prog.underlying 21 = some (.int .i32) := by kernel_rfl
theorem zv_21 : ZV Try.prog 21 = some (.int .i32 0) := by kernel_rfl
theorem zok_21 : ZOk Try.prog 21 1 = true := by kernel_rfl
theorem by_21 : byOf Try.prog 21 = 4 := by kernel_rfl
theorem cells_22 : Try.prog.cellsOf 22 = 1 := by kernel_rfl
theorem ti_22 : TI Try.prog 22 = some (false, 1) := by kernel_rfl
theorem ei_22 : EI Try.prog 22 = some (42, 4) := by kernel_rfl
theorem isSli_22 : isSli Try.prog 22 = true := by kernel_rfl
theorem notInt_22 : notInt Try.prog 22 = true := by kernel_rfl
theorem zv_22 : ZV Try.prog 22 = some (.nils) := by kernel_rfl
theorem zok_22 : ZOk Try.prog 22 1 = true := by kernel_rfl
theorem by_22 : byOf Try.prog 22 = 24 := by kernel_rfl
theorem cells_23 : Try.prog.cellsOf 23 = 1 := by kernel_rfl
theorem ti_23 : TI Try.prog 23 = some (false, 1) := by kernel_rfl
theorem ei_23 : EI Try.prog 23 = some (44, 6) := by kernel_rfl
theorem isSli_23 : isSli Try.prog 23 = true := by kernel_rfl
theorem notInt_23 : notInt Try.prog 23 = true := by kernel_rfl
theorem zv_23 : ZV Try.prog 23 = some (.nils) := by kernel_rfl
theorem zok_23 : ZOk Try.prog 23 1 = true := by kernel_rfl
theorem by_23 : byOf Try.prog 23 = 24 := by kernel_rfl
theorem cells_24 : Try.prog.cellsOf 24 = 1 := by kernel_rfl
theorem ti_24 : TI Try.prog 24 = some (false, 1) := by kernel_rfl
theorem intK_24 : intK Try.prog 24 = some .i64 := by kernel_rfl
theorem un_24 : Try.prog.underlying 24 = some (.int .i64) := by kernel_rfl
theorem zv_24 : ZV Try.prog 24 = some (.int .i64 0) := by kernel_rfl
theorem zok_24 : ZOk Try.prog 24 1 = true := by kernel_rfl
theorem by_24 : byOf Try.prog 24 = 8 := by kernel_rfl
theorem cells_26 : Try.prog.cellsOf 26 = 1 := by kernel_rfl
theorem ti_26 : TI Try.prog 26 = some (false, 1) := by kernel_rfl
theorem zv_26 : ZV Try.prog 26 = some (.any) := by kernel_rfl
theorem zok_26 : ZOk Try.prog 26 1 = true := by kernel_rfl
theorem by_26 : byOf Try.prog 26 = 8 := by kernel_rfl
theorem cells_27 : Try.prog.cellsOf 27 = 1 := by kernel_rfl
theorem ti_27 : TI Try.prog 27 = some (false, 1) := by kernel_rfl
theorem zv_27 : ZV Try.prog 27 = some (.any) := by kernel_rfl
theorem zok_27 : ZOk Try.prog 27 1 = true := by kernel_rfl
theorem by_27 : byOf Try.prog 27 = 8 := by kernel_rfl
theorem cells_28 : Try.prog.cellsOf 28 = 1 := by kernel_rfl
theorem ti_28 : TI Try.prog 28 = some (false, 1) := by kernel_rfl
theorem zv_28 : ZV Try.prog 28 = some (.any) := by kernel_rfl
theorem zok_28 : ZOk Try.prog 28 1 = true := by kernel_rfl
theorem by_28 : byOf Try.prog 28 = 8 := by kernel_rfl
theorem cells_29 : Try.prog.cellsOf 29 = 1 := by kernel_rfl
theorem ti_29 : TI Try.prog 29 = some (false, 1) := by kernel_rfl
theorem ei_29 : EI Try.prog 29 = some (39, 1) := by kernel_rfl
theorem isSli_29 : isSli Try.prog 29 = true := by kernel_rfl
theorem notInt_29 : notInt Try.prog 29 = true := by kernel_rfl
theorem zv_29 : ZV Try.prog 29 = some (.nils) := by kernel_rfl
theorem zok_29 : ZOk Try.prog 29 1 = true := by kernel_rfl
theorem by_29 : byOf Try.prog 29 = 24 := by kernel_rfl
theorem cells_30 : Try.prog.cellsOf 30 = 1 := by kernel_rfl
theorem ti_30 : TI Try.prog 30 = some (false, 1) := by kernel_rfl
theorem ei_30 : EI Try.prog 30 = some (4, 1) := by kernel_rfl
theorem isSli_30 : isSli Try.prog 30 = true := by kernel_rfl
theorem notInt_30 : notInt Try.prog 30 = true := by kernel_rfl
theorem zv_30 : ZV Try.prog 30 = some (.nils) := by kernel_rfl
theorem zok_30 : ZOk Try.prog 30 1 = true := by kernel_rfl
theorem by_30 : byOf Try.prog 30 = 24 := by kernel_rfl
theorem cells_31 : Try.prog.cellsOf 31 = 2 := by kernel_rfl
theorem ti_31 : TI Try.prog 31 = some (true, 2) := by kernel_rfl
theorem fi_31_0 : FI Try.prog 31 0 = some (0, (false, 1)) := by kernel_rfl
theorem fi_31_1 : FI Try.prog 31 1 = some (1, (false, 1)) := by kernel_rfl
theorem si_31 : SI Try.prog 31 = some [(0, 1), (1, 1)] := by kernel_rfl
theorem zv_31 : ZV Try.prog 31 = some (.agg [.nils, .nils]) := by kernel_rfl
theorem zok_31 : ZOk Try.prog 31 2 = true := by kernel_rfl
theorem by_31 : byOf Try.prog 31 = 48 := by kernel_rfl
theorem cells_32 : Try.prog.cellsOf 32 = 2 := by kernel_rfl
theorem ti_32 : TI Try.prog 32 = some (true, 2) := by kernel_rfl
theorem fi_32_0 : FI Try.prog 32 0 = some (0, (false, 1)) := by kernel_rfl
theorem fi_32_1 : FI Try.prog 32 1 = some (1, (false, 1)) := by kernel_rfl
theorem si_32 : SI Try.prog 32 = some [(0, 1), (1, 1)] := by kernel_rfl
theorem zv_32 : ZV Try.prog 32 = some (.agg [.nils, .nils]) := by kernel_rfl
theorem zok_32 : ZOk Try.prog 32 2 = true := by kernel_rfl
theorem by_32 : byOf Try.prog 32 = 48 := by kernel_rfl
theorem cells_34 : Try.prog.cellsOf 34 = 1 := by kernel_rfl
theorem ti_34 : TI Try.prog 34 = some (false, 1) := by kernel_rfl
theorem zv_34 : ZV Try.prog 34 = some (.any) := by kernel_rfl
theorem zok_34 : ZOk Try.prog 34 1 = true := by kernel_rfl
theorem by_34 : byOf Try.prog 34 = 8 := by kernel_rfl
theorem cells_35 : Try.prog.cellsOf 35 = 1 := by kernel_rfl
theorem ti_35 : TI Try.prog 35 = some (false, 1) := by kernel_rfl
theorem zv_35 : ZV Try.prog 35 = some (.any) := by kernel_rfl
theorem zok_35 : ZOk Try.prog 35 1 = true := by kernel_rfl
theorem by_35 : byOf Try.prog 35 = 8 := by kernel_rfl
theorem cells_37 : Try.prog.cellsOf 37 = 1 := by kernel_rfl
theorem ti_37 : TI Try.prog 37 = some (false, 1) := by kernel_rfl
theorem zv_37 : ZV Try.prog 37 = some (.any) := by kernel_rfl
theorem zok_37 : ZOk Try.prog 37 1 = true := by kernel_rfl
theorem by_37 : byOf Try.prog 37 = 8 := by kernel_rfl
theorem cells_38 : Try.prog.cellsOf 38 = 1 := by kernel_rfl
theorem ti_38 : TI Try.prog 38 = some (false, 1) := by kernel_rfl
theorem zv_38 : ZV Try.prog 38 = some (.any) := by kernel_rfl
theorem zok_38 : ZOk Try.prog 38 1 = true := by kernel_rfl
theorem by_38 : byOf Try.prog 38 = 8 := by kernel_rfl
theorem cells_39 : Try.prog.cellsOf 39 = 1 := by kernel_rfl
theorem ti_39 : TI Try.prog 39 = some (false, 1) := by kernel_rfl
theorem ei_39 : EI Try.prog 39 = some (3, 1) := by kernel_rfl
theorem isSli_39 : isSli Try.prog 39 = true := by kernel_rfl
theorem notInt_39 : notInt Try.prog 39 = true := by kernel_rfl
theorem zv_39 : ZV Try.prog 39 = some (.nils) := by kernel_rfl
theorem zok_39 : ZOk Try.prog 39 1 = true := by kernel_rfl
theorem by_39 : byOf Try.prog 39 = 24 := by kernel_rfl
theorem cells_40 : Try.prog.cellsOf 40 = 1 := by kernel_rfl
theorem ti_40 : TI Try.prog 40 = some (false, 1) := by kernel_rfl
theorem ei_40 : EI Try.prog 40 = some (88, 2) := by kernel_rfl
theorem isSli_40 : isSli Try.prog 40 = true := by kernel_rfl
theorem notInt_40 : notInt Try.prog 40 = true := by kernel_rfl
theorem zv_40 : ZV Try.prog 40 = some (.nils) := by kernel_rfl
theorem zok_40 : ZOk Try.prog 40 1 = true := by kernel_rfl
theorem by_40 : byOf Try.prog 40 = 24 := by kernel_rfl
theorem cells_41 : Try.prog.cellsOf 41 = 4 := by kernel_rfl
theorem ti_41 : TI Try.prog 41 = some (true, 4) := by kernel_rfl
theorem fi_41_0 : FI Try.prog 41 0 = some (0, (false, 1)) := by kernel_rfl
theorem fi_41_1 : FI Try.prog 41 1 = some (1, (false, 1)) := by kernel_rfl
theorem fi_41_2 : FI Try.prog 41 2 = some (2, (false, 1)) := by kernel_rfl
theorem fi_41_3 : FI Try.prog 41 3 = some (3, (false, 1)) := by kernel_rfl
theorem si_41 : SI Try.prog 41 = some [(0, 1), (1, 1), (2, 1), (3, 1)] := by kernel_rfl
theorem zv_41 : ZV Try.prog 41 = some (.agg [.str [], .nils, .str [], .nils]) := by kernel_rfl
theorem zok_41 : ZOk Try.prog 41 4 = true := by kernel_rfl
theorem by_41 : byOf Try.prog 41 = 80 := by kernel_rfl
theorem cells_42 : Try.prog.cellsOf 42 = 4 := by kernel_rfl
theorem ti_42 : TI Try.prog 42 = some (true, 4) := by kernel_rfl
theorem fi_42_0 : FI Try.prog 42 0 = some (0, (false, 1)) := by kernel_rfl
theorem fi_42_1 : FI Try.prog 42 1 = some (1, (false, 1)) := by kernel_rfl
theorem fi_42_2 : FI Try.prog 42 2 = some (2, (false, 1)) := by kernel_rfl
theorem fi_42_3 : FI Try.prog 42 3 = some (3, (false, 1)) := by kernel_rfl
theorem si_42 : SI Try.prog 42 = some [(0, 1), (1, 1), (2, 1), (3, 1)] := by kernel_rfl
theorem zv_42 : ZV Try.prog 42 = some (.agg [.str [], .nils, .str [], .nils]) := by kernel_rfl
theorem zok_42 : ZOk Try.prog 42 4 = true := by kernel_rfl
theorem by_42 : byOf Try.prog 42 = 80 := by kernel_rfl
theorem cells_43 : Try.prog.cellsOf 43 = 6 := by kernel_rfl
theorem ti_43 : TI Try.prog 43 = some (true, 6) := by kernel_rfl
theorem fi_43_0 : FI Try.prog 43 0 = some (0, (false, 1)) := by kernel_rfl
theorem fi_43_1 : FI Try.prog 43 1 = some (1, (false, 1)) := by kernel_rfl
theorem fi_43_2 : FI Try.prog 43 2 = some (2, (true, 4)) := by kernel_rfl
theorem si_43 : SI Try.prog 43 = some [(0, 1), (1, 1), (2, 4)] := by kernel_rfl
theorem zv_43 : ZV Try.prog 43 = some (.agg [.int .i64 0, .nils, .str [], .nils, .str [], .nils]) := by kernel_rfl
theorem zok_43 : ZOk Try.prog 43 6 = true := by kernel_rfl
theorem by_43 : byOf Try.prog 43 = 112 := by kernel_rfl
theorem cells_44 : Try.prog.cellsOf 44 = 6 := by kernel_rfl
theorem ti_44 : TI Try.prog 44 = some (true, 6) := by kernel_rfl
theorem fi_44_0 : FI Try.prog 44 0 = some (0, (false, 1)) := by kernel_rfl
theorem fi_44_1 : FI Try.prog 44 1 = some (1, (false, 1)) := by kernel_rfl
theorem fi_44_2 : FI Try.prog 44 2 = some (2, (true, 4)) := by kernel_rfl
theorem si_44 : SI Try.prog 44 = some [(0, 1), (1, 1), (2, 4)] := by kernel_rfl
theorem zv_44 : ZV Try.prog 44 = some (.agg [.int .i64 0, .nils, .str [], .nils, .str [], .nils]) := by kernel_rfl
theorem zok_44 : ZOk Try.prog 44 6 = true := by kernel_rfl
theorem by_44 : byOf Try.prog 44 = 112 := by kernel_rfl
theorem cells_45 : Try.prog.cellsOf 45 = 1 := by kernel_rfl
theorem ti_45 : TI Try.prog 45 = some (false, 1) := by kernel_rfl
theorem ei_45 : EI Try.prog 45 = some (22, 1) := by kernel_rfl
theorem isSli_45 : isSli Try.prog 45 = true := by kernel_rfl
theorem notInt_45 : notInt Try.prog 45 = true := by kernel_rfl
theorem zv_45 : ZV Try.prog 45 = some (.nils) := by kernel_rfl
theorem zok_45 : ZOk Try.prog 45 1 = true := by kernel_rfl
theorem by_45 : byOf Try.prog 45 = 24 := by kernel_rfl
theorem cells_47 : Try.prog.cellsOf 47 = 1 := by kernel_rfl
theorem ti_47 : TI Try.prog 47 = some (false, 1) := by kernel_rfl
theorem zv_47 : ZV Try.prog 47 = some (.any) := by kernel_rfl
theorem zok_47 : ZOk Try.prog 47 1 = true := by kernel_rfl
theorem by_47 : byOf Try.prog 47 = 8 := by kernel_rfl
theorem cells_49 : Try.prog.cellsOf 49 = 1 := by kernel_rfl
theorem ti_49 : TI Try.prog 49 = some (false, 1) := by kernel_rfl
theorem zv_49 : ZV Try.prog 49 = some (.any) := by kernel_rfl
theorem zok_49 : ZOk Try.prog 49 1 = true := by kernel_rfl
theorem by_49 : byOf Try.prog 49 = 8 := by kernel_rfl
theorem cells_50 : Try.prog.cellsOf 50 = 1 := by kernel_rfl
theorem ti_50 : TI Try.prog 50 = some (false, 1) := by kernel_rfl
theorem zv_50 : ZV Try.prog 50 = some (.any) := by kernel_rfl
theorem zok_50 : ZOk Try.prog 50 1 = true := by kernel_rfl
theorem by_50 : byOf Try.prog 50 = 8 := by kernel_rfl
theorem cells_51 : Try.prog.cellsOf 51 = 1 := by kernel_rfl
theorem ti_51 : TI Try.prog 51 = some (false, 1) := by kernel_rfl
theorem zv_51 : ZV Try.prog 51 = some (.any) := by kernel_rfl
theorem zok_51 : ZOk Try.prog 51 1 = true := by kernel_rfl
theorem by_51 : byOf Try.prog 51 = 8 := by kernel_rfl
theorem cells_52 : Try.prog.cellsOf 52 = 1 := by kernel_rfl
theorem ti_52 : TI Try.prog 52 = some (false, 1) := by kernel_rfl
theorem ei_52 : EI Try.prog 52 = some (58, 2) := by kernel_rfl
theorem isSli_52 : isSli Try.prog 52 = true := by kernel_rfl
theorem notInt_52 : notInt Try.prog 52 = true := by kernel_rfl
theorem zv_52 : ZV Try.prog 52 = some (.nils) := by kernel_rfl
theorem zok_52 : ZOk Try.prog 52 1 = true := by kernel_rfl
theorem by_52 : byOf Try.prog 52 = 24 := by kernel_rfl
theorem cells_53 : Try.prog.cellsOf 53 = 1 := by kernel_rfl
theorem ti_53 : TI Try.prog 53 = some (false, 1) := by kernel_rfl
theorem ei_53 : EI Try.prog 53 = some (79, 8) := by kernel_rfl
theorem isSli_53 : isSli Try.prog 53 = true := by kernel_rfl
theorem notInt_53 : notInt Try.prog 53 = true := by kernel_rfl
theorem zv_53 : ZV Try.prog 53 = some (.nils) := by kernel_rfl
theorem zok_53 : ZOk Try.prog 53 1 = true := by kernel_rfl
theorem by_53 : byOf Try.prog 53 = 24 := by kernel_rfl
theorem cells_55 : Try.prog.cellsOf 55 = 1 := by kernel_rfl
theorem ti_55 : TI Try.prog 55 = some (false, 1) := by kernel_rfl
theorem zv_55 : ZV Try.prog 55 = some (.any) := by kernel_rfl
theorem zok_55 : ZOk Try.prog 55 1 = true := by kernel_rfl
theorem by_55 : byOf Try.prog 55 = 8 := by kernel_rfl
theorem cells_56 : Try.prog.cellsOf 56 = 1 := by kernel_rfl
theorem ti_56 : TI Try.prog 56 = some (false, 1) := by kernel_rfl
theorem zv_56 : ZV Try.prog 56 = some (.any) := by kernel_rfl
theorem zok_56 : ZOk Try.prog 56 1 = true := by kernel_rfl
theorem by_56 : byOf Try.prog 56 = 8 := by kernel_rfl
theorem cells_57 : Try.prog.cellsOf 57 = 2 := by kernel_rfl
theorem ti_57 : TI Try.prog 57 = some (true, 2) := by kernel_rfl
theorem fi_57_0 : FI Try.prog 57 0 = some (0, (false, 1)) := by kernel_rfl
theorem fi_57_1 : FI Try.prog 57 1 = some (1, (false, 1)) := by kernel_rfl
theorem si_57 : SI Try.prog 57 = some [(0, 1), (1, 1)] := by kernel_rfl
theorem zv_57 : ZV Try.prog 57 = some (.agg [.int .i64 0, .int .i64 0]) := by kernel_rfl
theorem zok_57 : ZOk Try.prog 57 2 = true := by kernel_rfl
theorem by_57 : byOf Try.prog 57 = 16 := by kernel_rfl
theorem cells_58 : Try.prog.cellsOf 58 = 2 := by kernel_rfl
theorem ti_58 : TI Try.prog 58 = some (true, 2) := by kernel_rfl
theorem fi_58_0 : FI Try.prog 58 0 = some (0, (false, 1)) := by kernel_rfl
theorem fi_58_1 : FI Try.prog 58 1 = some (1, (false, 1)) := by kernel_rfl
theorem si_58 : SI Try.prog 58 = some [(0, 1), (1, 1)] := by kernel_rfl
theorem zv_58 : ZV Try.prog 58 = some (.agg [.int .i64 0, .int .i64 0]) := by kernel_rfl
theorem zok_58 : ZOk Try.prog 58 2 = true := by kernel_rfl
theorem by_58 : byOf Try.prog 58 = 16 := by kernel_rfl
theorem cells_59 : Try.prog.cellsOf 59 = 1 := by kernel_rfl
theorem ti_59 : TI Try.prog 59 = some (false, 1) := by kernel_rfl
theorem zv_59 : ZV Try.prog 59 = some (.any) := by kernel_rfl
theorem zok_59 : ZOk Try.prog 59 1 = true := by kernel_rfl
theorem by_59 : byOf Try.prog 59 = 8 := by kernel_rfl
theorem cells_60 : Try.prog.cellsOf 60 = 1 := by kernel_rfl
theorem ti_60 : TI Try.prog 60 = some (false, 1) := by kernel_rfl
theorem zv_60 : ZV Try.prog 60 = some (.any) := by kernel_rfl
theorem zok_60 : ZOk Try.prog 60 1 = true := by kernel_rfl
theorem by_60 : byOf Try.prog 60 = 8 := by kernel_rfl
theorem cells_61 : Try.prog.cellsOf 61 = 2 := by kernel_rfl
theorem ti_61 : TI Try.prog 61 = some (true, 2) := by kernel_rfl
theorem fi_61_0 : FI Try.prog 61 0 = some (0, (false, 1)) := by kernel_rfl
theorem fi_61_1 : FI Try.prog 61 1 = some (1, (false, 1)) := by kernel_rfl
theorem si_61 : SI Try.prog 61 = some [(0, 1), (1, 1)] := by kernel_rfl
theorem zv_61 : ZV Try.prog 61 = some (.agg [.nils, .nils]) := by kernel_rfl
theorem zok_61 : ZOk Try.prog 61 2 = true := by kernel_rfl
theorem by_61 : byOf Try.prog 61 = 48 := by kernel_rfl
theorem cells_62 : Try.prog.cellsOf 62 = 2 := by kernel_rfl
theorem ti_62 : TI Try.prog 62 = some (true, 2) := by kernel_rfl
theorem fi_62_0 : FI Try.prog 62 0 = some (0, (false, 1)) := by kernel_rfl
theorem fi_62_1 : FI Try.prog 62 1 = some (1, (false, 1)) := by kernel_rfl
theorem si_62 : SI Try.prog 62 = some [(0, 1), (1, 1)] := by kernel_rfl
theorem zv_62 : ZV Try.prog 62 = some (.agg [.nils, .nils]) := by kernel_rfl
theorem zok_62 : ZOk Try.prog 62 2 = true := by kernel_rfl
theorem by_62 : byOf Try.prog 62 = 48 := by kernel_rfl
theorem cells_63 : Try.prog.cellsOf 63 = 1 := by kernel_rfl
theorem ti_63 : TI Try.prog 63 = some (false, 1) := by kernel_rfl
theorem zv_63 : ZV Try.prog 63 = some (.any) := by kernel_rfl
theorem zok_63 : ZOk Try.prog 63 1 = true := by kernel_rfl
theorem by_63 : byOf Try.prog 63 = 8 := by kernel_rfl
theorem cells_64 : Try.prog.cellsOf 64 = 1 := by kernel_rfl
theorem ti_64 : TI Try.prog 64 = some (false, 1) := by kernel_rfl
theorem ei_64 : EI Try.prog 64 = some (30, 1) := by kernel_rfl
theorem isSli_64 : isSli Try.prog 64 = true := by kernel_rfl
theorem notInt_64 : notInt Try.prog 64 = true := by kernel_rfl
theorem zv_64 : ZV Try.prog 64 = some (.nils) := by kernel_rfl
theorem zok_64 : ZOk Try.prog 64 1 = true := by kernel_rfl
theorem by_64 : byOf Try.prog 64 = 24 := by kernel_rfl
theorem cells_65 : Try.prog.cellsOf 65 = 1 := by kernel_rfl
theorem ti_65 : TI Try.prog 65 = some (false, 1) := by kernel_rfl
theorem zv_65 : ZV Try.prog 65 = some (.any) := by kernel_rfl
theorem zok_65 : ZOk Try.prog 65 1 = true := by kernel_rfl
theorem by_65 : byOf Try.prog 65 = 8 := by kernel_rfl
theorem cells_66 : Try.prog.cellsOf 66 = 1 := by kernel_rfl
theorem ti_66 : TI Try.prog 66 = some (false, 1) := by kernel_rfl
theorem zv_66 : ZV Try.prog 66 = some (.any) := by kernel_rfl
theorem zok_66 : ZOk Try.prog 66 1 = true := by kernel_rfl
theorem by_66 : byOf Try.prog 66 = 8 := by kernel_rfl
theorem cells_68 : Try.prog.cellsOf 68 = 1 := by kernel_rfl
theorem ti_68 : TI Try.prog 68 = some (false, 1) := by kernel_rfl
theorem zv_68 : ZV Try.prog 68 = some (.any) := by kernel_rfl
theorem zok_68 : ZOk Try.prog 68 1 = true := by kernel_rfl
theorem by_68 : byOf Try.prog 68 = 8 := by kernel_rfl
theorem cells_69 : Try.prog.cellsOf 69 = 1 := by kernel_rfl
theorem ti_69 : TI Try.prog 69 = some (false, 1) := by kernel_rfl
theorem zv_69 : ZV Try.prog 69 = some (.any) := by kernel_rfl
theorem zok_69 : ZOk Try.prog 69 1 = true := by kernel_rfl
theorem by_69 : byOf Try.prog 69 = 8 := by kernel_rfl
theorem cells_71 : Try.prog.cellsOf 71 = 1 := by kernel_rfl
theorem ti_71 : TI Try.prog 71 = some (false, 1) := by kernel_rfl
theorem zv_71 : ZV Try.prog 71 = some (.any) := by kernel_rfl
theorem zok_71 : ZOk Try.prog 71 1 = true := by kernel_rfl
theorem by_71 : byOf Try.prog 71 = 8 := by kernel_rfl
theorem cells_72 : Try.prog.cellsOf 72 = 1 := by kernel_rfl
theorem ti_72 : TI Try.prog 72 = some (false, 1) := by kernel_rfl
theorem zv_72 : ZV Try.prog 72 = some (.any) := by kernel_rfl
theorem zok_72 : ZOk Try.prog 72 1 = true := by kernel_rfl
theorem by_72 : byOf Try.prog 72 = 8 := by kernel_rfl
theorem cells_73 : Try.prog.cellsOf 73 = 1 := by kernel_rfl
theorem ti_73 : TI Try.prog 73 = some (false, 1) := by kernel_rfl
theorem zv_73 : ZV Try.prog 73 = some (.any) := by kernel_rfl
theorem zok_73 : ZOk Try.prog 73 1 = true := by kernel_rfl
theorem by_73 : byOf Try.prog 73 = 8 := by kernel_rfl
theorem cells_74 : Try.prog.cellsOf 74 = 1 := by kernel_rfl
theorem ti_74 : TI Try.prog 74 = some (false, 1) := by kernel_rfl
theorem zv_74 : ZV Try.prog 74 = some (.any) := by kernel_rfl
theorem zok_74 : ZOk Try.prog 74 1 = true := by kernel_rfl
theorem by_74 : byOf Try.prog 74 = 8 := by kernel_rfl
theorem cells_75 : Try.prog.cellsOf 75 = 1 := by kernel_rfl
theorem ti_75 : TI Try.prog 75 = some (false, 1) := by kernel_rfl
theorem zv_75 : ZV Try.prog 75 = some (.any) := by kernel_rfl
theorem zok_75 : ZOk Try.prog 75 1 = true := by kernel_rfl
theorem by_75 : byOf Try.prog 75 = 8 := by kernel_rfl
theorem cells_76 : Try.prog.cellsOf 76 = 1 := by kernel_rfl
theorem ti_76 : TI Try.prog 76 = some (false, 1) := by kernel_rfl
theorem zv_76 : ZV Try.prog 76 = some (.any) := by kernel_rfl
theorem zok_76 : ZOk Try.prog 76 1 = true := by kernel_rfl
theorem by_76 : byOf Try.prog 76 = 8 := by kernel_rfl
theorem cells_77 : Try.prog.cellsOf 77 = 1 := by kernel_rfl
theorem ti_77 : TI Try.prog 77 = some (false, 1) := by kernel_rfl
theorem zv_77 : ZV Try.prog 77 = some (.any) := by kernel_rfl
theorem zok_77 : ZOk Try.prog 77 1 = true := by kernel_rfl
theorem by_77 : byOf Try.prog 77 = 8 := by kernel_rfl
theorem cells_78 : Try.prog.cellsOf 78 = 1 := by kernel_rfl
theorem ti_78 : TI Try.prog 78 = some (false, 1) := by kernel_rfl
theorem zv_78 : ZV Try.prog 78 = some (.any) := by kernel_rfl
theorem zok_78 : ZOk Try.prog 78 1 = true := by kernel_rfl
theorem by_78 : byOf Try.prog 78 = 8 := by kernel_rfl
theorem cells_79 : Try.prog.cellsOf 79 = 8 := by kernel_rfl
theorem ti_79 : TI Try.prog 79 = some (true, 8) := by kernel_rfl
theorem ai_79 : AI Try.prog 79 = some (8, (false, 1)) := by kernel_rfl
theorem zv_79 : ZV Try.prog 79 = some (.agg [.int .i64 0, .int .i64 0, .int .i64 0, .int .i64 0, .int .i64 0, .int .i64 0, .int .i64 0, .int .i64 0]) := by kernel_rfl
theorem zok_79 : ZOk Try.prog 79 8 = true := by kernel_rfl
theorem by_79 : byOf Try.prog 79 = 64 := by kernel_rfl
theorem cells_80 : Try.prog.cellsOf 80 = 1 := by kernel_rfl
theorem ti_80 : TI Try.prog 80 = some (false, 1) := by kernel_rfl
theorem zv_80 : ZV Try.prog 80 = some (.any) := by kernel_rfl
theorem zok_80 : ZOk Try.prog 80 1 = true := by kernel_rfl
theorem by_80 : byOf Try.prog 80 = 8 := by kernel_rfl
theorem cells_82 : Try.prog.cellsOf 82 = 1 := by kernel_rfl
theorem ti_82 : TI Try.prog 82 = some (false, 1) := by kernel_rfl
theorem zv_82 : ZV Try.prog 82 = some (.any) := by kernel_rfl
theorem zok_82 : ZOk Try.prog 82 1 = true := by kernel_rfl
theorem by_82 : byOf Try.prog 82 = 8 := by kernel_rfl
theorem cells_83 : Try.prog.cellsOf 83 = 1 := by kernel_rfl
theorem ti_83 : TI Try.prog 83 = some (false, 1) := by kernel_rfl
theorem zv_83 : ZV Try.prog 83 = some (.any) := by kernel_rfl
theorem zok_83 : ZOk Try.prog 83 1 = true := by kernel_rfl
theorem by_83 : byOf Try.prog 83 = 8 := by kernel_rfl
theorem cells_84 : Try.prog.cellsOf 84 = 1 := by kernel_rfl
theorem ti_84 : TI Try.prog 84 = some (false, 1) := by kernel_rfl
theorem zv_84 : ZV Try.prog 84 = some (.any) := by kernel_rfl
theorem zok_84 : ZOk Try.prog 84 1 = true := by kernel_rfl
theorem by_84 : byOf Try.prog 84 = 8 := by kernel_rfl
theorem cells_85 : Try.prog.cellsOf 85 = 1 := by kernel_rfl
theorem ti_85 : TI Try.prog 85 = some (false, 1) := by kernel_rfl
theorem zv_85 : ZV Try.prog 85 = some (.any) := by kernel_rfl
theorem zok_85 : ZOk Try.prog 85 1 = true := by kernel_rfl
theorem by_85 : byOf Try.prog 85 = 8 := by kernel_rfl
theorem cells_86 : Try.prog.cellsOf 86 = 1 := by kernel_rfl
theorem ti_86 : TI Try.prog 86 = some (false, 1) := by kernel_rfl
theorem zv_86 : ZV Try.prog 86 = some (.any) := by kernel_rfl
theorem zok_86 : ZOk Try.prog 86 1 = true := by kernel_rfl
theorem by_86 : byOf Try.prog 86 = 8 := by kernel_rfl
theorem cells_87 : Try.prog.cellsOf 87 = 2 := by kernel_rfl
theorem ti_87 : TI Try.prog 87 = some (true, 2) := by kernel_rfl
theorem fi_87_0 : FI Try.prog 87 0 = some (0, (false, 1)) := by kernel_rfl
theorem fi_87_1 : FI Try.prog 87 1 = some (1, (false, 1)) := by kernel_rfl
theorem si_87 : SI Try.prog 87 = some [(0, 1), (1, 1)] := by kernel_rfl
theorem zv_87 : ZV Try.prog 87 = some (.agg [.str [], .str []]) := by kernel_rfl
theorem zok_87 : ZOk Try.prog 87 2 = true := by kernel_rfl
theorem by_87 : byOf Try.prog 87 = 32 := by kernel_rfl
theorem cells_88 : Try.prog.cellsOf 88 = 2 := by kernel_rfl
theorem ti_88 : TI Try.prog 88 = some (true, 2) := by kernel_rfl
theorem fi_88_0 : FI Try.prog 88 0 = some (0, (false, 1)) := by kernel_rfl
theorem fi_88_1 : FI Try.prog 88 1 = some (1, (false, 1)) := by kernel_rfl
theorem si_88 : SI Try.prog 88 = some [(0, 1), (1, 1)] := by kernel_rfl
theorem zv_88 : ZV Try.prog 88 = some (.agg [.str [], .str []]) := by kernel_rfl
theorem zok_88 : ZOk Try.prog 88 2 = true := by kernel_rfl
theorem by_88 : byOf Try.prog 88 = 32 := by kernel_rfl
theorem cells_89 : Try.prog.cellsOf 89 = 1 := by kernel_rfl
theorem ti_89 : TI Try.prog 89 = some (false, 1) := by kernel_rfl
theorem zv_89 : ZV Try.prog 89 = some (.any) := by kernel_rfl
theorem zok_89 : ZOk Try.prog 89 1 = true := by kernel_rfl
theorem by_89 : byOf Try.prog 89 = 8 := by kernel_rfl
theorem cells_90 : Try.prog.cellsOf 90 = 1 := by kernel_rfl
theorem ti_90 : TI Try.prog 90 = some (false, 1) := by kernel_rfl
theorem zv_90 : ZV Try.prog 90 = some (.any) := by kernel_rfl
theorem zok_90 : ZOk Try.prog 90 1 = true := by kernel_rfl
theorem by_90 : byOf Try.prog 90 = 8 := by kernel_rfl
theorem cells_91 : Try.prog.cellsOf 91 = 1 := by kernel_rfl
theorem ti_91 : TI Try.prog 91 = some (false, 1) := by kernel_rfl
theorem zv_91 : ZV Try.prog 91 = some (.any) := by kernel_rfl
theorem zok_91 : ZOk Try.prog 91 1 = true := by kernel_rfl
theorem by_91 : byOf Try.prog 91 = 8 := by kernel_rfl
theorem cells_92 : Try.prog.cellsOf 92 = 1 := by kernel_rfl
theorem ti_92 : TI Try.prog 92 = some (false, 1) := by kernel_rfl
theorem zv_92 : ZV Try.prog 92 = some (.any) := by kernel_rfl
theorem zok_92 : ZOk Try.prog 92 1 = true := by kernel_rfl
theorem by_92 : byOf Try.prog 92 = 8 := by kernel_rfl
theorem cells_93 : Try.prog.cellsOf 93 = 1 := by kernel_rfl
theorem ti_93 : TI Try.prog 93 = some (false, 1) := by kernel_rfl
theorem zv_93 : ZV Try.prog 93 = some (.any) := by kernel_rfl
theorem zok_93 : ZOk Try.prog 93 1 = true := by kernel_rfl
theorem by_93 : byOf Try.prog 93 = 8 := by kernel_rfl
theorem cells_94 : Try.prog.cellsOf 94 = 1 := by kernel_rfl
theorem ti_94 : TI Try.prog 94 = some (false, 1) := by kernel_rfl
theorem zv_94 : ZV Try.prog 94 = some (.any) := by kernel_rfl
theorem zok_94 : ZOk Try.prog 94 1 = true := by kernel_rfl
theorem by_94 : byOf Try.prog 94 = 8 := by kernel_rfl
theorem cells_100 : Try.prog.cellsOf 100 = 1 := by kernel_rfl
theorem ti_100 : TI Try.prog 100 = some (false, 1) := by kernel_rfl
theorem zv_100 : ZV Try.prog 100 = some (.any) := by kernel_rfl
theorem zok_100 : ZOk Try.prog 100 1 = true := by kernel_rfl
theorem by_100 : byOf Try.prog 100 = 8 := by kernel_rfl
theorem cells_101 : Try.prog.cellsOf 101 = 1 := by kernel_rfl
theorem ti_101 : TI Try.prog 101 = some (false, 1) := by kernel_rfl
theorem intK_101 : intK Try.prog 101 = some .u32 := by kernel_rfl
theorem un_101 : Try.prog.underlying 101 = some (.int .u32) := by kernel_rfl
theorem zv_101 : ZV Try.prog 101 = some (.int .u32 0) := by kernel_rfl
theorem zok_101 : ZOk Try.prog 101 1 = true := by kernel_rfl
theorem by_101 : byOf Try.prog 101 = 4 := by kernel_rfl
theorem cells_105 : Try.prog.cellsOf 105 = 1 := by kernel_rfl
theorem ti_105 : TI Try.prog 105 = some (false, 1) := by kernel_rfl
theorem isPtr_105 : isPtr Try.prog 105 = true := by kernel_rfl
theorem zv_105 : ZV Try.prog 105 = some (.nilp) := by kernel_rfl
theorem zok_105 : ZOk Try.prog 105 1 = true := by kernel_rfl
theorem by_105 : byOf Try.prog 105 = 8 := by kernel_rfl
theorem uns_1 : (Try.prog.underlying 1).isSome = true := by kernel_rfl
theorem tok_1 : TOk Try.prog 1 { ti := some (false, 1), zv := some (.any), zok := some 1, by' := some 8, un := true } := ⟨ti_1, trivial, trivial, trivial, trivial, zv_1, zok_1, by_1, trivial, trivial, trivial, trivial, trivial, trivial, uns_1, trivial⟩
theorem uns_2 : (Try.prog.underlying 2).isSome = true := by kernel_rfl
theorem tok_2 : TOk Try.prog 2 { ti := some (false, 1), zv := some (.int .i64 0), zok := some 1, by' := some 8, ik := some .i64, un := true } := ⟨ti_2, trivial, trivial, trivial, trivial, zv_2, zok_2, by_2, intK_2, trivial, trivial, trivial, trivial, trivial, uns_2, trivial⟩
theorem uns_3 : (Try.prog.underlying 3).isSome = true := by kernel_rfl
theorem tok_3 : TOk Try.prog 3 { ti := some (false, 1), zv := some (.int .i64 0), zok := some 1, by' := some 8, ik := some .i64, un := true } := ⟨ti_3, trivial, trivial, trivial, trivial, zv_3, zok_3, by_3, intK_3, trivial, trivial, trivial, trivial, trivial, uns_3, trivial⟩
theorem uns_4 : (Try.prog.underlying 4).isSome = true := by kernel_rfl
theorem tok_4 : TOk Try.prog 4 { ti := some (false, 1), zv := some (.bool false), zok := some 1, by' := some 1, boo := true, un := true } := ⟨ti_4, trivial, trivial, trivial, trivial, zv_4, zok_4, by_4, trivial, trivial, trivial, isBoo_4, trivial, trivial, uns_4, trivial⟩
theorem uns_5 : (Try.prog.underlying 5).isSome = true := by kernel_rfl
theorem tok_5 : TOk Try.prog 5 { ti := some (false, 1), zv := some (.int .u8 0), zok := some 1, by' := some 1, ik := some .u8, un := true } := ⟨ti_5, trivial, trivial, trivial, trivial, zv_5, zok_5, by_5, intK_5, trivial, trivial, trivial, trivial, trivial, uns_5, trivial⟩
theorem uns_9 : (Try.prog.underlying 9).isSome = true := by kernel_rfl
theorem tok_9 : TOk Try.prog 9 { ti := some (false, 1), zv := some (.str []), zok := some 1, by' := some 16, str := true, ni := true, un := true } := ⟨ti_9, trivial, trivial, trivial, trivial, zv_9, zok_9, by_9, trivial, isStr_9, trivial, trivial, trivial, notInt_9, uns_9, trivial⟩
theorem uns_12 : (Try.prog.underlying 12).isSome = true := by kernel_rfl
theorem tok_12 : TOk Try.prog 12 { ti := some (false, 1), zv := some (.int .u64 0), zok := some 1, by' := some 8, ik := some .u64, un := true } := ⟨ti_12, trivial, trivial, trivial, trivial, zv_12, zok_12, by_12, intK_12, trivial, trivial, trivial, trivial, trivial, uns_12, trivial⟩
theorem uns_13 : (Try.prog.underlying 13).isSome = true := by kernel_rfl
theorem tok_13 : TOk Try.prog 13 { ti := some (true, 2), fi := [some (0, (false, 1)), some (1, (false, 1))], si := some [(0, 1), (1, 1)], zv := some (.agg [.str [], .int .u64 0]), zok := some 2, by' := some 24, un := true } := ⟨ti_13, trivial, trivial, ⟨fi_13_0, fi_13_1, trivial⟩, si_13, zv_13, zok_13, by_13, trivial, trivial, trivial, trivial, trivial, trivial, uns_13, trivial⟩
theorem uns_21 : (Try.prog.underlying 21).isSome = true := by kernel_rfl
theorem tok_21 : TOk Try.prog 21 { ti := some (false, 1), zv := some (.int .i32 0), zok := some 1, by' := some 4, ik := some .i32, un := true } := ⟨ti_21, trivial, trivial, trivial, trivial, zv_21, zok_21, by_21, intK_21, trivial, trivial, trivial, trivial, trivial, uns_21, trivial⟩
theorem uns_22 : (Try.prog.underlying 22).isSome = true := by kernel_rfl
theorem tok_22 : TOk Try.prog 22 { ti := some (false, 1), ei := some (42, 4), zv := some (.nils), zok := some 1, by' := some 24, sli := true, ni := true, un := true } := ⟨ti_22, ei_22, trivial, trivial, trivial, zv_22, zok_22, by_22, trivial, trivial, isSli_22, trivial, trivial, notInt_22, uns_22, trivial⟩
theorem uns_23 : (Try.prog.underlying 23).isSome = true := by kernel_rfl
theorem tok_23 : TOk Try.prog 23 { ti := some (false, 1), ei := some (44, 6), zv := some (.nils), zok := some 1, by' := some 24, sli := true, ni := true, un := true } := ⟨ti_23, ei_23, trivial, trivial, trivial, zv_23, zok_23, by_23, trivial, trivial, isSli_23, trivial, trivial, notInt_23, uns_23, trivial⟩
theorem uns_24 : (Try.prog.underlying 24).isSome = true := by kernel_rfl
theorem tok_24 : TOk Try.prog 24 { ti := some (false, 1), zv := some (.int .i64 0), zok := some 1, by' := some 8, ik := some .i64, un := true } := ⟨ti_24, trivial, trivial, trivial, trivial, zv_24, zok_24, by_24, intK_24, trivial, trivial, trivial, trivial, trivial, uns_24, trivial⟩
theorem uns_26 : (Try.prog.underlying 26).isSome = true := by kernel_rfl
theorem tok_26 : TOk Try.prog 26 { ti := some (false, 1), zv := some (.any), zok := some 1, by' := some 8, un := true } := ⟨ti_26, trivial, trivial, trivial, trivial, zv_26, zok_26, by_26, trivial, trivial, trivial, trivial, trivial, trivial, uns_26, trivial⟩
theorem uns_27 : (Try.prog.underlying 27).isSome = true := by kernel_rfl
theorem tok_27 : TOk Try.prog 27 { ti := some (false, 1), zv := some (.any), zok := some 1, by' := some 8, un := true } := ⟨ti_27, trivial, trivial, trivial, trivial, zv_27, zok_27, by_27, trivial, trivial, trivial, trivial, trivial, trivial, uns_27, trivial⟩
theorem uns_28 : (Try.prog.underlying 28).isSome = true := by kernel_rfl
theorem tok_28 : TOk Try.prog 28 { ti := some (false, 1), zv := some (.any), zok := some 1, by' := some 8, un := true } := ⟨ti_28, trivial, trivial, trivial, trivial, zv_28, zok_28, by_28, trivial, trivial, trivial, trivial, trivial, trivial, uns_28, trivial⟩
theorem uns_29 : (Try.prog.underlying 29).isSome = true := by kernel_rfl
theorem tok_29 : TOk Try.prog 29 { ti := some (false, 1), ei := some (39, 1), zv := some (.nils), zok := some 1, by' := some 24, sli := true, ni := true, un := true } := ⟨ti_29, ei_29, trivial, trivial, trivial, zv_29, zok_29, by_29, trivial, trivial, isSli_29, trivial, trivial, notInt_29, uns_29, trivial⟩
theorem uns_30 : (Try.prog.underlying 30).isSome = true := by kernel_rfl
theorem tok_30 : TOk Try.prog 30 { ti := some (false, 1), ei := some (4, 1), zv := some (.nils), zok := some 1, by' := some 24, sli := true, ni := true, un := true } := ⟨ti_30, ei_30, trivial, trivial, trivial, zv_30, zok_30, by_30, trivial, trivial, isSli_30, trivial, trivial, notInt_30, uns_30, trivial⟩
theorem uns_31 : (Try.prog.underlying 31).isSome = true := by kernel_rfl
theorem tok_31 : TOk Try.prog 31 { ti := some (true, 2), fi := [some (0, (false, 1)), some (1, (false, 1))], si := some [(0, 1), (1, 1)], zv := some (.agg [.nils, .nils]), zok := some 2, by' := some 48, un := true } := ⟨ti_31, trivial, trivial, ⟨fi_31_0, fi_31_1, trivial⟩, si_31, zv_31, zok_31, by_31, trivial, trivial, trivial, trivial, trivial, trivial, uns_31, trivial⟩
theorem uns_32 : (Try.prog.underlying 32).isSome = true := by kernel_rfl
theorem tok_32 : TOk Try.prog 32 { ti := some (true, 2), fi := [some (0, (false, 1)), some (1, (false, 1))], si := some [(0, 1), (1, 1)], zv := some (.agg [.nils, .nils]), zok := some 2, by' := some 48, un := true } := ⟨ti_32, trivial, trivial, ⟨fi_32_0, fi_32_1, trivial⟩, si_32, zv_32, zok_32, by_32, trivial, trivial, trivial, trivial, trivial, trivial, uns_32, trivial⟩
theorem uns_34 : (Try.prog.underlying 34).isSome = true := by kernel_rfl
theorem tok_34 : TOk Try.prog 34 { ti := some (false, 1), zv := some (.any), zok := some 1, by' := some 8, un := true } := ⟨ti_34, trivial, trivial, trivial, trivial, zv_34, zok_34, by_34, trivial, trivial, trivial, trivial, trivial, trivial, uns_34, trivial⟩
theorem uns_35 : (Try.prog.underlying 35).isSome = true := by kernel_rfl
theorem tok_35 : TOk Try.prog 35 { ti := some (false, 1), zv := some (.any), zok := some 1, by' := some 8, un := true } := ⟨ti_35, trivial, trivial, trivial, trivial, zv_35, zok_35, by_35, trivial, trivial, trivial, trivial, trivial, trivial, uns_35, trivial⟩
theorem uns_37 : (Try.prog.underlying 37).isSome = true := by kernel_rfl
theorem tok_37 : TOk Try.prog 37 { ti := some (false, 1), zv := some (.any), zok := some 1, by' := some 8, un := true } := ⟨ti_37, trivial, trivial, trivial, trivial, zv_37, zok_37, by_37, trivial, trivial, trivial, trivial, trivial, trivial, uns_37, trivial⟩
theorem uns_38 : (Try.prog.underlying 38).isSome = true := by kernel_rfl
theorem tok_38 : TOk Try.prog 38 { ti := some (false, 1), zv := some (.any), zok := some 1, by' := some 8, un := true } := ⟨ti_38, trivial, trivial, trivial, trivial, zv_38, zok_38, by_38, trivial, trivial, trivial, trivial, trivial, trivial, uns_38, trivial⟩
theorem uns_39 : (Try.prog.underlying 39).isSome = true := by kernel_rfl
theorem tok_39 : TOk Try.prog 39 { ti := some (false, 1), ei := some (3, 1), zv := some (.nils), zok := some 1, by' := some 24, sli := true, ni := true, un := true } := ⟨ti_39, ei_39, trivial, trivial, trivial, zv_39, zok_39, by_39, trivial, trivial, isSli_39, trivial, trivial, notInt_39, uns_39, trivial⟩
theorem uns_40 : (Try.prog.underlying 40).isSome = true := by kernel_rfl
theorem tok_40 : TOk Try.prog 40 { ti := some (false, 1), ei := some (88, 2), zv := some (.nils), zok := some 1, by' := some 24, sli := true, ni := true, un := true } := ⟨ti_40, ei_40, trivial, trivial, trivial, zv_40, zok_40, by_40, trivial, trivial, isSli_40, trivial, trivial, notInt_40, uns_40, trivial⟩
theorem uns_41 : (Try.prog.underlying 41).isSome = true := by kernel_rfl
theorem tok_41 : TOk Try.prog 41 { ti := some (true, 4), fi := [some (0, (false, 1)), some (1, (false, 1)), some (2, (false, 1)), some (3, (false, 1))], si := some [(0, 1), (1, 1), (2, 1), (3, 1)], zv := some (.agg [.str [], .nils, .str [], .nils]), zok := some 4, by' := some 80, un := true } := ⟨ti_41, trivial, trivial, ⟨fi_41_0, fi_41_1, fi_41_2, fi_41_3, trivial⟩, si_41, zv_41, zok_41, by_41, trivial, trivial, trivial, trivial, trivial, trivial, uns_41, trivial⟩
theorem uns_42 : (Try.prog.underlying 42).isSome = true := by kernel_rfl
theorem tok_42 : TOk Try.prog 42 { ti := some (true, 4), fi := [some (0, (false, 1)), some (1, (false, 1)), some (2, (false, 1)), some (3, (false, 1))], si := some [(0, 1), (1, 1), (2, 1), (3, 1)], zv := some (.agg [.str [], .nils, .str [], .nils]), zok := some 4, by' := some 80, un := true } := ⟨ti_42, trivial, trivial, ⟨fi_42_0, fi_42_1, fi_42_2, fi_42_3, trivial⟩, si_42, zv_42, zok_42, by_42, trivial, trivial, trivial, trivial, trivial, trivial, uns_42, trivial⟩
theorem uns_43 : (Try.prog.underlying 43).isSome = true := by kernel_rfl
theorem tok_43 : TOk Try.prog 43 { ti := some (true, 6), fi := [some (0, (false, 1)), some (1, (false, 1)), some (2, (true, 4))], si := some [(0, 1), (1, 1), (2, 4)], zv := some (.agg [.int .i64 0, .nils, .str [], .nils, .str [], .nils]), zok := some 6, by' := some 112, un := true } := ⟨ti_43, trivial, trivial, ⟨fi_43_0, fi_43_1, fi_43_2, trivial⟩, si_43, zv_43, zok_43, by_43, trivial, trivial, trivial, trivial, trivial, trivial, uns_43, trivial⟩
theorem uns_44 : (Try.prog.underlying 44).isSome = true := by kernel_rfl
theorem tok_44 : TOk Try.prog 44 { ti := some (true, 6), fi := [some (0, (false, 1)), some (1, (false, 1)), some (2, (true, 4))], si := some [(0, 1), (1, 1), (2, 4)], zv := some (.agg [.int .i64 0, .nils, .str [], .nils, .str [], .nils]), zok := some 6, by' := some 112, un := true } := ⟨ti_44, trivial, trivial, ⟨fi_44_0, fi_44_1, fi_44_2, trivial⟩, si_44, zv_44, zok_44, by_44, trivial, trivial, trivial, trivial, trivial, trivial, uns_44, trivial⟩
theorem uns_45 : (Try.prog.underlying 45).isSome = true := by kernel_rfl
theorem tok_45 : TOk Try.prog 45 { ti := some (false, 1), ei := some (22, 1), zv := some (.nils), zok := some 1, by' := some 24, sli := true, ni := true, un := true } := ⟨ti_45, ei_45, trivial, trivial, trivial, zv_45, zok_45, by_45, trivial, trivial, isSli_45, trivial, trivial, notInt_45, uns_45, trivial⟩
theorem uns_47 : (Try.prog.underlying 47).isSome = true := by kernel_rfl
theorem tok_47 : TOk Try.prog 47 { ti := some (false, 1), zv := some (.any), zok := some 1, by' := some 8, un := true } := ⟨ti_47, trivial, trivial, trivial, trivial, zv_47, zok_47, by_47, trivial, trivial, trivial, trivial, trivial, trivial, uns_47, trivial⟩
theorem uns_49 : (Try.prog.underlying 49).isSome = true := by kernel_rfl
theorem tok_49 : TOk Try.prog 49 { ti := some (false, 1), zv := some (.any), zok := some 1, by' := some 8, un := true } := ⟨ti_49, trivial, trivial, trivial, trivial, zv_49, zok_49, by_49, trivial, trivial, trivial, trivial, trivial, trivial, uns_49, trivial⟩
theorem uns_50 : (Try.prog.underlying 50).isSome = true := by kernel_rfl
theorem tok_50 : TOk Try.prog 50 { ti := some (false, 1), zv := some (.any), zok := some 1, by' := some 8, un := true } := ⟨ti_50, trivial, trivial, trivial, trivial, zv_50, zok_50, by_50, trivial, trivial, trivial, trivial, trivial, trivial, uns_50, trivial⟩
theorem uns_51 : (Try.prog.underlying 51).isSome = true := by kernel_rfl
theorem tok_51 : TOk Try.prog 51 { ti := some (false, 1), zv := some (.any), zok := some 1, by' := some 8, un := true } := ⟨ti_51, trivial, trivial, trivial, trivial, zv_51, zok_51, by_51, trivial, trivial, trivial, trivial, trivial, trivial, uns_51, trivial⟩
theorem uns_52 : (Try.prog.underlying 52).isSome = true := by kernel_rfl
theorem tok_52 : TOk Try.prog 52 { ti := some (false, 1), ei := some (58, 2), zv := some (.nils), zok := some 1, by' := some 24, sli := true, ni := true, un := true } := ⟨ti_52, ei_52, trivial, trivial, trivial, zv_52, zok_52, by_52, trivial, trivial, isSli_52, trivial, trivial, notInt_52, uns_52, trivial⟩
theorem uns_53 : (Try.prog.underlying 53).isSome = true := by kernel_rfl
theorem tok_53 : TOk Try.prog 53 { ti := some (false, 1), ei := some (79, 8), zv := some (.nils), zok := some 1, by' := some 24, sli := true, ni := true, un := true } := ⟨ti_53, ei_53, trivial, trivial, trivial, zv_53, zok_53, by_53, trivial, trivial, isSli_53, trivial, trivial, notInt_53, uns_53, trivial⟩
theorem uns_55 : (Try.prog.underlying 55).isSome = true := by kernel_rfl
theorem tok_55 : TOk Try.prog 55 { ti := some (false, 1), zv := some (.any), zok := some 1, by' := some 8, un := true } := ⟨ti_55, trivial, trivial, trivial, trivial, zv_55, zok_55, by_55, trivial, trivial, trivial, trivial, trivial, trivial, uns_55, trivial⟩
theorem uns_56 : (Try.prog.underlying 56).isSome = true := by kernel_rfl
theorem tok_56 : TOk Try.prog 56 { ti := some (false, 1), zv := some (.any), zok := some 1, by' := some 8, un := true } := ⟨ti_56, trivial, trivial, trivial, trivial, zv_56, zok_56, by_56, trivial, trivial, trivial, trivial, trivial, trivial, uns_56, trivial⟩
theorem uns_57 : (Try.prog.underlying 57).isSome = true := by kernel_rfl
theorem tok_57 : TOk Try.prog 57 { ti := some (true, 2), fi := [some (0, (false, 1)), some (1, (false, 1))], si := some [(0, 1), (1, 1)], zv := some (.agg [.int .i64 0, .int .i64 0]), zok := some 2, by' := some 16, un := true } := ⟨ti_57, trivial, trivial, ⟨fi_57_0, fi_57_1, trivial⟩, si_57, zv_57, zok_57, by_57, trivial, trivial, trivial, trivial, trivial, trivial, uns_57, trivial⟩
theorem sq_58 : SQ Try.prog 58 = some [.i .i64, .i .i64] := by kernel_rfl
theorem uns_58 : (Try.prog.underlying 58).isSome = true := by kernel_rfl
theorem tok_58 : TOk Try.prog 58 { ti := some (true, 2), fi := [some (0, (false, 1)), some (1, (false, 1))], si := some [(0, 1), (1, 1)], zv := some (.agg [.int .i64 0, .int .i64 0]), zok := some 2, by' := some 16, un := true, sq := some [.i .i64, .i .i64] } := ⟨ti_58, trivial, trivial, ⟨fi_58_0, fi_58_1, trivial⟩, si_58, zv_58, zok_58, by_58, trivial, trivial, trivial, trivial, trivial, trivial, uns_58, sq_58⟩
theorem uns_59 : (Try.prog.underlying 59).isSome = true := by kernel_rfl
theorem tok_59 : TOk Try.prog 59 { ti := some (false, 1), zv := some (.any), zok := some 1, by' := some 8, un := true } := ⟨ti_59, trivial, trivial, trivial, trivial, zv_59, zok_59, by_59, trivial, trivial, trivial, trivial, trivial, trivial, uns_59, trivial⟩
theorem uns_60 : (Try.prog.underlying 60).isSome = true := by kernel_rfl
theorem tok_60 : TOk Try.prog 60 { ti := some (false, 1), zv := some (.any), zok := some 1, by' := some 8, un := true } := ⟨ti_60, trivial, trivial, trivial, trivial, zv_60, zok_60, by_60, trivial, trivial, trivial, trivial, trivial, trivial, uns_60, trivial⟩
theorem uns_61 : (Try.prog.underlying 61).isSome = true := by kernel_rfl
theorem tok_61 : TOk Try.prog 61 { ti := some (true, 2), fi := [some (0, (false, 1)), some (1, (false, 1))], si := some [(0, 1), (1, 1)], zv := some (.agg [.nils, .nils]), zok := some 2, by' := some 48, un := true } := ⟨ti_61, trivial, trivial, ⟨fi_61_0, fi_61_1, trivial⟩, si_61, zv_61, zok_61, by_61, trivial, trivial, trivial, trivial, trivial, trivial, uns_61, trivial⟩
theorem uns_62 : (Try.prog.underlying 62).isSome = true := by kernel_rfl
theorem tok_62 : TOk Try.prog 62 { ti := some (true, 2), fi := [some (0, (false, 1)), some (1, (false, 1))], si := some [(0, 1), (1, 1)], zv := some (.agg [.nils, .nils]), zok := some 2, by' := some 48, un := true } := ⟨ti_62, trivial, trivial, ⟨fi_62_0, fi_62_1, trivial⟩, si_62, zv_62, zok_62, by_62, trivial, trivial, trivial, trivial, trivial, trivial, uns_62, trivial⟩
theorem uns_63 : (Try.prog.underlying 63).isSome = true := by kernel_rfl
theorem tok_63 : TOk Try.prog 63 { ti := some (false, 1), zv := some (.any), zok := some 1, by' := some 8, un := true } := ⟨ti_63, trivial, trivial, trivial, trivial, zv_63, zok_63, by_63, trivial, trivial, trivial, trivial, trivial, trivial, uns_63, trivial⟩
theorem uns_64 : (Try.prog.underlying 64).isSome = true := by kernel_rfl
theorem tok_64 : TOk Try.prog 64 { ti := some (false, 1), ei := some (30, 1), zv := some (.nils), zok := some 1, by' := some 24, sli := true, ni := true, un := true } := ⟨ti_64, ei_64, trivial, trivial, trivial, zv_64, zok_64, by_64, trivial, trivial, isSli_64, trivial, trivial, notInt_64, uns_64, trivial⟩
theorem uns_65 : (Try.prog.underlying 65).isSome = true := by kernel_rfl
theorem tok_65 : TOk Try.prog 65 { ti := some (false, 1), zv := some (.any), zok := some 1, by' := some 8, un := true } := ⟨ti_65, trivial, trivial, trivial, trivial, zv_65, zok_65, by_65, trivial, trivial, trivial, trivial, trivial, trivial, uns_65, trivial⟩
theorem uns_66 : (Try.prog.underlying 66).isSome = true := by kernel_rfl
theorem tok_66 : TOk Try.prog 66 { ti := some (false, 1), zv := some (.any), zok := some 1, by' := some 8, un := true } := ⟨ti_66, trivial, trivial, trivial, trivial, zv_66, zok_66, by_66, trivial, trivial, trivial, trivial, trivial, trivial, uns_66, trivial⟩
theorem uns_68 : (Try.prog.underlying 68).isSome = true := by kernel_rfl
theorem tok_68 : TOk Try.prog 68 { ti := some (false, 1), zv := some (.any), zok := some 1, by' := some 8, un := true } := ⟨ti_68, trivial, trivial, trivial, trivial, zv_68, zok_68, by_68, trivial, trivial, trivial, trivial, trivial, trivial, uns_68, trivial⟩
theorem uns_69 : (Try.prog.underlying 69).isSome = true := by kernel_rfl
theorem tok_69 : TOk Try.prog 69 { ti := some (false, 1), zv := some (.any), zok := some 1, by' := some 8, un := true } := ⟨ti_69, trivial, trivial, trivial, trivial, zv_69, zok_69, by_69, trivial, trivial, trivial, trivial, trivial, trivial, uns_69, trivial⟩
theorem uns_71 : (Try.prog.underlying 71).isSome = true := by kernel_rfl
theorem tok_71 : TOk Try.prog 71 { ti := some (false, 1), zv := some (.any), zok := some 1, by' := some 8, un := true } := ⟨ti_71, trivial, trivial, trivial, trivial, zv_71, zok_71, by_71, trivial, trivial, trivial, trivial, trivial, trivial, uns_71, trivial⟩
theorem uns_72 : (Try.prog.underlying 72).isSome = true := by kernel_rfl
theorem tok_72 : TOk Try.prog 72 { ti := some (false, 1), zv := some (.any), zok := some 1, by' := some 8, un := true } := ⟨ti_72, trivial, trivial, trivial, trivial, zv_72, zok_72, by_72, trivial, trivial, trivial, trivial, trivial, trivial, uns_72, trivial⟩
theorem uns_73 : (Try.prog.underlying 73).isSome = true := by kernel_rfl
theorem tok_73 : TOk Try.prog 73 { ti := some (false, 1), zv := some (.any), zok := some 1, by' := some 8, un := true } := ⟨ti_73, trivial, trivial, trivial, trivial, zv_73, zok_73, by_73, trivial, trivial, trivial, trivial, trivial, trivial, uns_73, trivial⟩
theorem uns_74 : (Try.prog.underlying 74).isSome = true := by kernel_rfl
theorem tok_74 : TOk Try.prog 74 { ti := some (false, 1), zv := some (.any), zok := some 1, by' := some 8, un := true } := ⟨ti_74, trivial, trivial, trivial, trivial, zv_74, zok_74, by_74, trivial, trivial, trivial, trivial, trivial, trivial, uns_74, trivial⟩
theorem uns_75 : (Try.prog.underlying 75).isSome = true := by kernel_rfl
theorem tok_75 : TOk Try.prog 75 { ti := some (false, 1), zv := some (.any), zok := some 1, by' := some 8, un := true } := ⟨ti_75, trivial, trivial, trivial, trivial, zv_75, zok_75, by_75, trivial, trivial, trivial, trivial, trivial, trivial, uns_75, trivial⟩
theorem uns_76 : (Try.prog.underlying 76).isSome = true := by kernel_rfl
theorem tok_76 : TOk Try.prog 76 { ti := some (false, 1), zv := some (.any), zok := some 1, by' := some 8, un := true } := ⟨ti_76, trivial, trivial, trivial, trivial, zv_76, zok_76, by_76, trivial, trivial, trivial, trivial, trivial, trivial, uns_76, trivial⟩
theorem uns_77 : (Try.prog.underlying 77).isSome = true := by kernel_rfl
theorem tok_77 : TOk Try.prog 77 { ti := some (false, 1), zv := some (.any), zok := some 1, by' := some 8, un := true } := ⟨ti_77, trivial, trivial, trivial, trivial, zv_77, zok_77, by_77, trivial, trivial, trivial, trivial, trivial, trivial, uns_77, trivial⟩
theorem uns_78 : (Try.prog.underlying 78).isSome = true := by kernel_rfl
theorem tok_78 : TOk Try.prog 78 { ti := some (false, 1), zv := some (.any), zok := some 1, by' := some 8, un := true } := ⟨ti_78, trivial, trivial, trivial, trivial, zv_78, zok_78, by_78, trivial, trivial, trivial, trivial, trivial, trivial, uns_78, trivial⟩
theorem uns_79 : (Try.prog.underlying 79).isSome = true := by kernel_rfl
theorem tok_79 : TOk Try.prog 79 { ti := some (true, 8), ai := some (8, (false, 1)), zv := some (.agg [.int .i64 0, .int .i64 0, .int .i64 0, .int .i64 0, .int .i64 0, .int .i64 0, .int .i64 0, .int .i64 0]), zok := some 8, by' := some 64, un := true } := ⟨ti_79, trivial, ai_79, trivial, trivial, zv_79, zok_79, by_79, trivial, trivial, trivial, trivial, trivial, trivial, uns_79, trivial⟩
theorem uns_80 : (Try.prog.underlying 80).isSome = true := by kernel_rfl
theorem tok_80 : TOk Try.prog 80 { ti := some (false, 1), zv := some (.any), zok := some 1, by' := some 8, un := true } := ⟨ti_80, trivial, trivial, trivial, trivial, zv_80, zok_80, by_80, trivial, trivial, trivial, trivial, trivial, trivial, uns_80, trivial⟩
theorem uns_82 : (Try.prog.underlying 82).isSome = true := by kernel_rfl
theorem tok_82 : TOk Try.prog 82 { ti := some (false, 1), zv := some (.any), zok := some 1, by' := some 8, un := true } := ⟨ti_82, trivial, trivial, trivial, trivial, zv_82, zok_82, by_82, trivial, trivial, trivial, trivial, trivial, trivial, uns_82, trivial⟩
theorem uns_83 : (Try.prog.underlying 83).isSome = true := by kernel_rfl
theorem tok_83 : TOk Try.prog 83 { ti := some (false, 1), zv := some (.any), zok := some 1, by' := some 8, un := true } := ⟨ti_83, trivial, trivial, trivial, trivial, zv_83, zok_83, by_83, trivial, trivial, trivial, trivial, trivial, trivial, uns_83, trivial⟩
theorem uns_84 : (Try.prog.underlying 84).isSome = true := by kernel_rfl
theorem tok_84 : TOk Try.prog 84 { ti := some (false, 1), zv := some (.any), zok := some 1, by' := some 8, un := true } := ⟨ti_84, trivial, trivial, trivial, trivial, zv_84, zok_84, by_84, trivial, trivial, trivial, trivial, trivial, trivial, uns_84, trivial⟩
theorem uns_85 : (Try.prog.underlying 85).isSome = true := by kernel_rfl
theorem tok_85 : TOk Try.prog 85 { ti := some (false, 1), zv := some (.any), zok := some 1, by' := some 8, un := true } := ⟨ti_85, trivial, trivial, trivial, trivial, zv_85, zok_85, by_85, trivial, trivial, trivial, trivial, trivial, trivial, uns_85, trivial⟩
theorem uns_86 : (Try.prog.underlying 86).isSome = true := by kernel_rfl
theorem tok_86 : TOk Try.prog 86 { ti := some (false, 1), zv := some (.any), zok := some 1, by' := some 8, un := true } := ⟨ti_86, trivial, trivial, trivial, trivial, zv_86, zok_86, by_86, trivial, trivial, trivial, trivial, trivial, trivial, uns_86, trivial⟩
theorem uns_87 : (Try.prog.underlying 87).isSome = true := by kernel_rfl
theorem tok_87 : TOk Try.prog 87 { ti := some (true, 2), fi := [some (0, (false, 1)), some (1, (false, 1))], si := some [(0, 1), (1, 1)], zv := some (.agg [.str [], .str []]), zok := some 2, by' := some 32, un := true } := ⟨ti_87, trivial, trivial, ⟨fi_87_0, fi_87_1, trivial⟩, si_87, zv_87, zok_87, by_87, trivial, trivial, trivial, trivial, trivial, trivial, uns_87, trivial⟩
theorem sq_88 : SQ Try.prog 88 = some [.s, .s] := by kernel_rfl
theorem uns_88 : (Try.prog.underlying 88).isSome = true := by kernel_rfl
theorem tok_88 : TOk Try.prog 88 { ti := some (true, 2), fi := [some (0, (false, 1)), some (1, (false, 1))], si := some [(0, 1), (1, 1)], zv := some (.agg [.str [], .str []]), zok := some 2, by' := some 32, un := true, sq := some [.s, .s] } := ⟨ti_88, trivial, trivial, ⟨fi_88_0, fi_88_1, trivial⟩, si_88, zv_88, zok_88, by_88, trivial, trivial, trivial, trivial, trivial, trivial, uns_88, sq_88⟩
theorem uns_89 : (Try.prog.underlying 89).isSome = true := by kernel_rfl
theorem tok_89 : TOk Try.prog 89 { ti := some (false, 1), zv := some (.any), zok := some 1, by' := some 8, un := true } := ⟨ti_89, trivial, trivial, trivial, trivial, zv_89, zok_89, by_89, trivial, trivial, trivial, trivial, trivial, trivial, uns_89, trivial⟩
theorem uns_90 : (Try.prog.underlying 90).isSome = true := by kernel_rfl
theorem tok_90 : TOk Try.prog 90 { ti := some (false, 1), zv := some (.any), zok := some 1, by' := some 8, un := true } := ⟨ti_90, trivial, trivial, trivial, trivial, zv_90, zok_90, by_90, trivial, trivial, trivial, trivial, trivial, trivial, uns_90, trivial⟩
theorem uns_91 : (Try.prog.underlying 91).isSome = true := by kernel_rfl
theorem tok_91 : TOk Try.prog 91 { ti := some (false, 1), zv := some (.any), zok := some 1, by' := some 8, un := true } := ⟨ti_91, trivial, trivial, trivial, trivial, zv_91, zok_91, by_91, trivial, trivial, trivial, trivial, trivial, trivial, uns_91, trivial⟩
theorem uns_92 : (Try.prog.underlying 92).isSome = true := by kernel_rfl
theorem tok_92 : TOk Try.prog 92 { ti := some (false, 1), zv := some (.any), zok := some 1, by' := some 8, un := true } := ⟨ti_92, trivial, trivial, trivial, trivial, zv_92, zok_92, by_92, trivial, trivial, trivial, trivial, trivial, trivial, uns_92, trivial⟩
theorem uns_93 : (Try.prog.underlying 93).isSome = true := by kernel_rfl
theorem tok_93 : TOk Try.prog 93 { ti := some (false, 1), zv := some (.any), zok := some 1, by' := some 8, un := true } := ⟨ti_93, trivial, trivial, trivial, trivial, zv_93, zok_93, by_93, trivial, trivial, trivial, trivial, trivial, trivial, uns_93, trivial⟩
theorem uns_94 : (Try.prog.underlying 94).isSome = true := by kernel_rfl
theorem tok_94 : TOk Try.prog 94 { ti := some (false, 1), zv := some (.any), zok := some 1, by' := some 8, un := true } := ⟨ti_94, trivial, trivial, trivial, trivial, zv_94, zok_94, by_94, trivial, trivial, trivial, trivial, trivial, trivial, uns_94, trivial⟩
theorem uns_100 : (Try.prog.underlying 100).isSome = true := by kernel_rfl
theorem tok_100 : TOk Try.prog 100 { ti := some (false, 1), zv := some (.any), zok := some 1, by' := some 8, un := true } := ⟨ti_100, trivial, trivial, trivial, trivial, zv_100, zok_100, by_100, trivial, trivial, trivial, trivial, trivial, trivial, uns_100, trivial⟩
theorem uns_101 : (Try.prog.underlying 101).isSome = true := by kernel_rfl
theorem tok_101 : TOk Try.prog 101 { ti := some (false, 1), zv := some (.int .u32 0), zok := some 1, by' := some 4, ik := some .u32, un := true } := ⟨ti_101, trivial, trivial, trivial, trivial, zv_101, zok_101, by_101, intK_101, trivial, trivial, trivial, trivial, trivial, uns_101, trivial⟩
theorem uns_105 : (Try.prog.underlying 105).isSome = true := by kernel_rfl
theorem tok_105 : TOk Try.prog 105 { ti := some (false, 1), zv := some (.nilp), zok := some 1, by' := some 8, ptr := true, un := true } := ⟨ti_105, trivial, trivial, trivial, trivial, zv_105, zok_105, by_105, trivial, trivial, trivial, trivial, isPtr_105, trivial, uns_105, trivial⟩
def Try.tt : TT := (.node (.node (.node (.node (.node (.node (.node .leaf 1 { ti := some (false, 1), zv := some (.any), zok := some 1, by' := some 8, un := true } .leaf) 2 { ti := some (false, 1), zv := some (.int .i64 0), zok := some 1, by' := some 8, ik := some .i64, un := true } .leaf) 3 { ti := some (false, 1), zv := some (.int .i64 0), zok := some 1, by' := some 8, ik := some .i64, un := true } (.node .leaf 4 { ti := some (false, 1), zv := some (.bool false), zok := some 1, by' := some 1, boo := true, un := true } .leaf)) 5 { ti := some (false, 1), zv := some (.int .u8 0), zok := some 1, by' := some 1, ik := some .u8, un := true } (.node (.node (.node .leaf 9 { ti := some (false, 1), zv := some (.str []), zok := some 1, by' := some 16, str := true, ni := true, un := true } .leaf) 12 { ti := some (false, 1), zv := some (.int .u64 0), zok := some 1, by' := some 8, ik := some .u64, un := true } .leaf) 13 { ti := some (true, 2), fi := [some (0, (false, 1)), some (1, (false, 1))], si := some [(0, 1), (1, 1)], zv := some (.agg [.str [], .int .u64 0]), zok := some 2, by' := some 24, un := true } (.node .leaf 21 { ti := some (false, 1), zv := some (.int .i32 0), zok := some 1, by' := some 4, ik := some .i32, un := true } .leaf))) 22 { ti := some (false, 1), ei := some (42, 4), zv := some (.nils), zok := some 1, by' := some 24, sli := true, ni := true, un := true } (.node (.node (.node (.node .leaf 23 { ti := some (false, 1), ei := some (44, 6), zv := some (.nils), zok := some 1, by' := some 24, sli := true, ni := true, un := true } .leaf) 24 { ti := some (false, 1), zv := some (.int .i64 0), zok := some 1, by' := some 8, ik := some .i64, un := true } .leaf) 26 { ti := some (false, 1), zv := some (.any), zok := some 1, by' := some 8, un := true } (.node .leaf 27 { ti := some (false, 1), zv := some (.any), zok := some 1, by' := some 8, un := true } .leaf)) 28 { ti := some (false, 1), zv := some (.any), zok := some 1, by' := some 8, un := true } (.node (.node (.node .leaf 29 { ti := some (false, 1), ei := some (39, 1), zv := some (.nils), zok := some 1, by' := some 24, sli := true, ni := true, un := true } .leaf) 30 { ti := some (false, 1), ei := some (4, 1), zv := some (.nils), zok := some 1, by' := some 24, sli := true, ni := true, un := true } .leaf) 31 { ti := some (true, 2), fi := [some (0, (false, 1)), some (1, (false, 1))], si := some [(0, 1), (1, 1)], zv := some (.agg [.nils, .nils]), zok := some 2, by' := some 48, un := true } (.node .leaf 32 { ti := some (true, 2), fi := [some (0, (false, 1)), some (1, (false, 1))], si := some [(0, 1), (1, 1)], zv := some (.agg [.nils, .nils]), zok := some 2, by' := some 48, un := true } .leaf)))) 34 { ti := some (false, 1), zv := some (.any), zok := some 1, by' := some 8, un := true } (.node (.node (.node (.node (.node .leaf 35 { ti := some (false, 1), zv := some (.any), zok := some 1, by' := some 8, un := true } .leaf) 37 { ti := some (false, 1), zv := some (.any), zok := some 1, by' := some 8, un := true } .leaf) 38 { ti := some (false, 1), zv := some (.any), zok := some 1, by' := some 8, un := true } (.node .leaf 39 { ti := some (false, 1), ei := some (3, 1), zv := some (.nils), zok := some 1, by' := some 24, sli := true, ni := true, un := true } .leaf)) 40 { ti := some (false, 1), ei := some (88, 2), zv := some (.nils), zok := some 1, by' := some 24, sli := true, ni := true, un := true } (.node (.node (.node .leaf 41 { ti := some (true, 4), fi := [some (0, (false, 1)), some (1, (false, 1)), some (2, (false, 1)), some (3, (false, 1))], si := some [(0, 1), (1, 1), (2, 1), (3, 1)], zv := some (.agg [.str [], .nils, .str [], .nils]), zok := some 4, by' := some 80, un := true } .leaf) 42 { ti := some (true, 4), fi := [some (0, (false, 1)), some (1, (false, 1)), some (2, (false, 1)), some (3, (false, 1))], si := some [(0, 1), (1, 1), (2, 1), (3, 1)], zv := some (.agg [.str [], .nils, .str [], .nils]), zok := some 4, by' := some 80, un := true } .leaf) 43 { ti := some (true, 6), fi := [some (0, (false, 1)), some (1, (false, 1)), some (2, (true, 4))], si := some [(0, 1), (1, 1), (2, 4)], zv := some (.agg [.int .i64 0, .nils, .str [], .nils, .str [], .nils]), zok := some 6, by' := some 112, un := true } (.node .leaf 44 { ti := some (true, 6), fi := [some (0, (false, 1)), some (1, (false, 1)), some (2, (true, 4))], si := some [(0, 1), (1, 1), (2, 4)], zv := some (.agg [.int .i64 0, .nils, .str [], .nils, .str [], .nils]), zok := some 6, by' := some 112, un := true } .leaf))) 45 { ti := some (false, 1), ei := some (22, 1), zv := some (.nils), zok := some 1, by' := some 24, sli := true, ni := true, un := true } (.node (.node (.node (.node .leaf 47 { ti := some (false, 1), zv := some (.any), zok := some 1, by' := some 8, un := true } .leaf) 49 { ti := some (false, 1), zv := some (.any), zok := some 1, by' := some 8, un := true } .leaf) 50 { ti := some (false, 1), zv := some (.any), zok := some 1, by' := some 8, un := true } (.node .leaf 51 { ti := some (false, 1), zv := some (.any), zok := some 1, by' := some 8, un := true } .leaf)) 52 { ti := some (false, 1), ei := some (58, 2), zv := some (.nils), zok := some 1, by' := some 24, sli := true, ni := true, un := true } (.node (.node .leaf 53 { ti := some (false, 1), ei := some (79, 8), zv := some (.nils), zok := some 1, by' := some 24, sli := true, ni := true, un := true } .leaf) 55 { ti := some (false, 1), zv := some (.any), zok := some 1, by' := some 8, un := true } (.node .leaf 56 { ti := some (false, 1), zv := some (.any), zok := some 1, by' := some 8, un := true } .leaf))))) 57 { ti := some (true, 2), fi := [some (0, (false, 1)), some (1, (false, 1))], si := some [(0, 1), (1, 1)], zv := some (.agg [.int .i64 0, .int .i64 0]), zok := some 2, by' := some 16, un := true } (.node (.node (.node (.node (.node (.node .leaf 58 { ti := some (true, 2), fi := [some (0, (false, 1)), some (1, (false, 1))], si := some [(0, 1), (1, 1)], zv := some (.agg [.int .i64 0, .int .i64 0]), zok := some 2, by' := some 16, un := true, sq := some [.i .i64, .i .i64] } .leaf) 59 { ti := some (false, 1), zv := some (.any), zok := some 1, by' := some 8, un := true } .leaf) 60 { ti := some (false, 1), zv := some (.any), zok := some 1, by' := some 8, un := true } (.node .leaf 61 { ti := some (true, 2), fi := [some (0, (false, 1)), some (1, (false, 1))], si := some [(0, 1), (1, 1)], zv := some (.agg [.nils, .nils]), zok := some 2, by' := some 48, un := true } .leaf)) 62 { ti := some (true, 2), fi := [some (0, (false, 1)), some (1, (false, 1))], si := some [(0, 1), (1, 1)], zv := some (.agg [.nils, .nils]), zok := some 2, by' := some 48, un := true } (.node (.node (.node .leaf 63 { ti := some (false, 1), zv := some (.any), zok := some 1, by' := some 8, un := true } .leaf) 64 { ti := some (false, 1), ei := some (30, 1), zv := some (.nils), zok := some 1, by' := some 24, sli := true, ni := true, un := true } .leaf) 65 { ti := some (false, 1), zv := some (.any), zok := some 1, by' := some 8, un := true } (.node .leaf 66 { ti := some (false, 1), zv := some (.any), zok := some 1, by' := some 8, un := true } .leaf))) 68 { ti := some (false, 1), zv := some (.any), zok := some 1, by' := some 8, un := true } (.node (.node (.node (.node .leaf 69 { ti := some (false, 1), zv := some (.any), zok := some 1, by' := some 8, un := true } .leaf) 71 { ti := some (false, 1), zv := some (.any), zok := some 1, by' := some 8, un := true } .leaf) 72 { ti := some (false, 1), zv := some (.any), zok := some 1, by' := some 8, un := true } (.node .leaf 73 { ti := some (false, 1), zv := some (.any), zok := some 1, by' := some 8, un := true } .leaf)) 74 { ti := some (false, 1), zv := some (.any), zok := some 1, by' := some 8, un := true } (.node (.node .leaf 75 { ti := some (false, 1), zv := some (.any), zok := some 1, by' := some 8, un := true } .leaf) 76 { ti := some (false, 1), zv := some (.any), zok := some 1, by' := some 8, un := true } (.node .leaf 77 { ti := some (false, 1), zv := some (.any), zok := some 1, by' := some 8, un := true } .leaf)))) 78 { ti := some (false, 1), zv := some (.any), zok := some 1, by' := some 8, un := true } (.node (.node (.node (.node (.node .leaf 79 { ti := some (true, 8), ai := some (8, (false, 1)), zv := some (.agg [.int .i64 0, .int .i64 0, .int .i64 0, .int .i64 0, .int .i64 0, .int .i64 0, .int .i64 0, .int .i64 0]), zok := some 8, by' := some 64, un := true } .leaf) 80 { ti := some (false, 1), zv := some (.any), zok := some 1, by' := some 8, un := true } .leaf) 82 { ti := some (false, 1), zv := some (.any), zok := some 1, by' := some 8, un := true } (.node .leaf 83 { ti := some (false, 1), zv := some (.any), zok := some 1, by' := some 8, un := true } .leaf)) 84 { ti := some (false, 1), zv := some (.any), zok := some 1, by' := some 8, un := true } (.node (.node (.node .leaf 85 { ti := some (false, 1), zv := some (.any), zok := some 1, by' := some 8, un := true } .leaf) 86 { ti := some (false, 1), zv := some (.any), zok := some 1, by' := some 8, un := true } .leaf) 87 { ti := some (true, 2), fi := [some (0, (false, 1)), some (1, (false, 1))], si := some [(0, 1), (1, 1)], zv := some (.agg [.str [], .str []]), zok := some 2, by' := some 32, un := true } (.node .leaf 88 { ti := some (true, 2), fi := [some (0, (false, 1)), some (1, (false, 1))], si := some [(0, 1), (1, 1)], zv := some (.agg [.str [], .str []]), zok := some 2, by' := some 32, un := true, sq := some [.s, .s] } .leaf))) 89 { ti := some (false, 1), zv := some (.any), zok := some 1, by' := some 8, un := true } (.node (.node (.node (.node .leaf 90 { ti := some (false, 1), zv := some (.any), zok := some 1, by' := some 8, un := true } .leaf) 91 { ti := some (false, 1), zv := some (.any), zok := some 1, by' := some 8, un := true } .leaf) 92 { ti := some (false, 1), zv := some (.any), zok := some 1, by' := some 8, un := true } (.node .leaf 93 { ti := some (false, 1), zv := some (.any), zok := some 1, by' := some 8, un := true } .leaf)) 94 { ti := some (false, 1), zv := some (.any), zok := some 1, by' := some 8, un := true } (.node (.node .leaf 100 { ti := some (false, 1), zv := some (.any), zok := some 1, by' := some 8, un := true } .leaf) 101 { ti := some (false, 1), zv := some (.int .u32 0), zok := some 1, by' := some 4, ik := some .u32, un := true } (.node .leaf 105 { ti := some (false, 1), zv := some (.nilp), zok := some 1, by' := some 8, ptr := true, un := true } .leaf))))))
theorem tt_all : TT.All Try.prog Try.tt := ⟨⟨⟨⟨⟨⟨⟨trivial, tok_1, trivial⟩, tok_2, trivial⟩, tok_3, ⟨trivial, tok_4, trivial⟩⟩, tok_5, ⟨⟨⟨trivial, tok_9, trivial⟩, tok_12, trivial⟩, tok_13, ⟨trivial, tok_21, trivial⟩⟩⟩, tok_22, ⟨⟨⟨⟨trivial, tok_23, trivial⟩, tok_24, trivial⟩, tok_26, ⟨trivial, tok_27, trivial⟩⟩, tok_28, ⟨⟨⟨trivial, tok_29, trivial⟩, tok_30, trivial⟩, tok_31, ⟨trivial, tok_32, trivial⟩⟩⟩⟩, tok_34, ⟨⟨⟨⟨⟨trivial, tok_35, trivial⟩, tok_37, trivial⟩, tok_38, ⟨trivial, tok_39, trivial⟩⟩, tok_40, ⟨⟨⟨trivial, tok_41, trivial⟩, tok_42, trivial⟩, tok_43, ⟨trivial, tok_44, trivial⟩⟩⟩, tok_45, ⟨⟨⟨⟨trivial, tok_47, trivial⟩, tok_49, trivial⟩, tok_50, ⟨trivial, tok_51, trivial⟩⟩, tok_52, ⟨⟨trivial, tok_53, trivial⟩, tok_55, ⟨trivial, tok_56, trivial⟩⟩⟩⟩⟩, tok_57, ⟨⟨⟨⟨⟨⟨trivial, tok_58, trivial⟩, tok_59, trivial⟩, tok_60, ⟨trivial, tok_61, trivial⟩⟩, tok_62, ⟨⟨⟨trivial, tok_63, trivial⟩, tok_64, trivial⟩, tok_65, ⟨trivial, tok_66, trivial⟩⟩⟩, tok_68, ⟨⟨⟨⟨trivial, tok_69, trivial⟩, tok_71, trivial⟩, tok_72, ⟨trivial, tok_73, trivial⟩⟩, tok_74, ⟨⟨trivial, tok_75, trivial⟩, tok_76, ⟨trivial, tok_77, trivial⟩⟩⟩⟩, tok_78, ⟨⟨⟨⟨⟨trivial, tok_79, trivial⟩, tok_80, trivial⟩, tok_82, ⟨trivial, tok_83, trivial⟩⟩, tok_84, ⟨⟨⟨trivial, tok_85, trivial⟩, tok_86, trivial⟩, tok_87, ⟨trivial, tok_88, trivial⟩⟩⟩, tok_89, ⟨⟨⟨⟨trivial, tok_90, trivial⟩, tok_91, trivial⟩, tok_92, ⟨trivial, tok_93, trivial⟩⟩, tok_94, ⟨⟨trivial, tok_100, trivial⟩, tok_101, ⟨trivial, tok_105, trivial⟩⟩⟩⟩⟩⟩
theorem hasBody_3 : hasBody Try.prog 3 = true := by kernel_rfl
theorem hasBody_4 : hasBody Try.prog 4 = true := by kernel_rfl
theorem hasBody_5 : hasBody Try.prog 5 = true := by kernel_rfl
theorem hasBody_6 : hasBody Try.prog 6 = true := by kernel_rfl
theorem hasBody_7 : hasBody Try.prog 7 = true := by kernel_rfl
theorem hasBody_8 : hasBody Try.prog 8 = true := by kernel_rfl
theorem hasBody_9 : hasBody Try.prog 9 = true := by kernel_rfl
theorem hasBody_10 : hasBody Try.prog 10 = true := by kernel_rfl
theorem hasBody_11 : hasBody Try.prog 11 = true := by kernel_rfl
theorem hasBody_12 : hasBody Try.prog 12 = true := by kernel_rfl
theorem hasBody_13 : hasBody Try.prog 13 = true := by kernel_rfl
theorem hasBody_14 : hasBody Try.prog 14 = true := by kernel_rfl
theorem hasBody_15 : hasBody Try.prog 15 = true := by kernel_rfl
theorem hasBody_16 : hasBody Try.prog 16 = true := by kernel_rfl
theorem hasBody_17 : hasBody Try.prog 17 = true := by kernel_rfl
theorem hasBody_18 : hasBody Try.prog 18 = true := by kernel_rfl
theorem hasBody_19 : hasBody Try.prog 19 = true := by kernel_rfl
theorem hasBody_20 : hasBody Try.prog 20 = true := by kernel_rfl
theorem hasBody_21 : hasBody Try.prog 21 = true := by kernel_rfl
theorem hasBody_22 : hasBody Try.prog 22 = true := by kernel_rfl
theorem hasBody_23 : hasBody Try.prog 23 = true := by kernel_rfl
theorem hasBody_24 : hasBody Try.prog 24 = true := by kernel_rfl
theorem hasBody_25 : hasBody Try.prog 25 = true := by kernel_rfl
theorem hasBody_26 : hasBody Try.prog 26 = true := by kernel_rfl
theorem hasBody_27 : hasBody Try.prog 27 = true := by kernel_rfl
theorem hasBody_28 : hasBody Try.prog 28 = true := by kernel_rfl
theorem hasBody_29 : hasBody Try.prog 29 = true := by kernel_rfl
theorem hasBody_30 : hasBody Try.prog 30 = true := by kernel_rfl
theorem hasBody_31 : hasBody Try.prog 31 = true := by kernel_rfl
theorem hasBody_32 : hasBody Try.prog 32 = true := by kernel_rfl
theorem hasBody_33 : hasBody Try.prog 33 = true := by kernel_rfl
theorem hasBody_34 : hasBody Try.prog 34 = true := by kernel_rfl
theorem hasBody_35 : hasBody Try.prog 35 = true := by kernel_rfl
theorem hasBody_36 : hasBody Try.prog 36 = true := by kernel_rfl
theorem hasBody_37 : hasBody Try.prog 37 = true := by kernel_rfl
theorem hasBody_38 : hasBody Try.prog 38 = true := by kernel_rfl
theorem hasBody_39 : hasBody Try.prog 39 = true := by kernel_rfl
theorem hasBody_40 : hasBody Try.prog 40 = true := by kernel_rfl
theorem hasBody_41 : hasBody Try.prog 41 = true := by kernel_rfl
theorem hasBody_42 : hasBody Try.prog 42 = true := by kernel_rfl
theorem hasBody_44 : hasBody Try.prog 44 = true := by kernel_rfl
theorem hasBody_45 : hasBody Try.prog 45 = true := by kernel_rfl
theorem hasBody_46 : hasBody Try.prog 46 = true := by kernel_rfl
theorem hasBody_47 : hasBody Try.prog 47 = true := by kernel_rfl
theorem follows_all : Try.prog.follows .mixedOrders = true := by kernel_rfl
end Go.Proofs.Ytkkcmobnhiiacaa
