/- Facts of this seat's types and functions, each by the kernel's reckoning; written by program. No conditions. -/
import Derived.Test.YteabokphchpifaaAwk
import Derived.Test.YteabokphchpifaaRows
set_option linter.unusedSimpArgs false
set_option linter.unusedVariables false
namespace Go.Proofs.Yteabokphchpifaa

theorem cells_1 : Try.prog.cellsOf 1 = 1 := by kernel_rfl
theorem ti_1 : TI Try.prog 1 = some (false, 1) := by kernel_rfl
theorem zv_1 : ZV Try.prog 1 = some (.any) := by kernel_rfl
theorem zok_1 : ZOk Try.prog 1 1 = true := by kernel_rfl
theorem by_1 : byOf Try.prog 1 = 8 := by kernel_rfl
theorem cells_2 : Try.prog.cellsOf 2 = 1 := by kernel_rfl
theorem ti_2 : TI Try.prog 2 = some (false, 1) := by kernel_rfl
theorem intK_2 : intK Try.prog 2 = some .i64 := by kernel_rfl
theorem un_2 : Try.prog.underlying 2 = some (.int .i64) := by kernel_rfl
theorem zv_2 : ZV Try.prog 2 = some (.int .i64 0) := by kernel_rfl
theorem zok_2 : ZOk Try.prog 2 1 = true := by kernel_rfl
theorem by_2 : byOf Try.prog 2 = 8 := by kernel_rfl
theorem cells_3 : Try.prog.cellsOf 3 = 1 := by kernel_rfl
theorem ti_3 : TI Try.prog 3 = some (false, 1) := by kernel_rfl
theorem intK_3 : intK Try.prog 3 = some .i64 := by kernel_rfl
theorem un_3 : Try.prog.underlying 3 = some (.int .i64) := by kernel_rfl
theorem zv_3 : ZV Try.prog 3 = some (.int .i64 0) := by kernel_rfl
theorem zok_3 : ZOk Try.prog 3 1 = true := by kernel_rfl
theorem by_3 : byOf Try.prog 3 = 8 := by kernel_rfl
theorem cells_4 : Try.prog.cellsOf 4 = 1 := by kernel_rfl
theorem ti_4 : TI Try.prog 4 = some (false, 1) := by kernel_rfl
theorem isBoo_4 : isBoo Try.prog 4 = true := by kernel_rfl
theorem zv_4 : ZV Try.prog 4 = some (.bool false) := by kernel_rfl
theorem zok_4 : ZOk Try.prog 4 1 = true := by kernel_rfl
theorem by_4 : byOf Try.prog 4 = 1 := by kernel_rfl
theorem cells_5 : Try.prog.cellsOf 5 = 1 := by kernel_rfl
theorem ti_5 : TI Try.prog 5 = some (false, 1) := by kernel_rfl
theorem intK_5 : intK Try.prog 5 = some .u8 := by kernel_rfl
theorem un_5 : Try.prog.underlying 5 = some (.int .u8) := by kernel_rfl
theorem zv_5 : ZV Try.prog 5 = some (.int .u8 0) := by kernel_rfl
theorem zok_5 : ZOk Try.prog 5 1 = true := by kernel_rfl
theorem by_5 : byOf Try.prog 5 = 1 := by kernel_rfl
theorem cells_9 : Try.prog.cellsOf 9 = 1 := by kernel_rfl
theorem ti_9 : TI Try.prog 9 = some (false, 1) := by kernel_rfl
theorem isStr_9 : isStr Try.prog 9 = true := by kernel_rfl
theorem notInt_9 : notInt Try.prog 9 = true := by kernel_rfl
theorem zv_9 : ZV Try.prog 9 = some (.str []) := by kernel_rfl
theorem zok_9 : ZOk Try.prog 9 1 = true := by kernel_rfl
theorem by_9 : byOf Try.prog 9 = 16 := by kernel_rfl
theorem cells_12 : Try.prog.cellsOf 12 = 1 := by kernel_rfl
theorem ti_12 : TI Try.prog 12 = some (false, 1) := by kernel_rfl
theorem intK_12 : intK Try.prog 12 = some .u64 := by kernel_rfl
theorem un_12 : Try.prog.underlying 12 = some (.int .u64) := by kernel_rfl
theorem zv_12 : ZV Try.prog 12 = some (.int .u64 0) := by kernel_rfl
theorem zok_12 : ZOk Try.prog 12 1 = true := by kernel_rfl
theorem by_12 : byOf Try.prog 12 = 8 := by kernel_rfl
theorem cells_13 : Try.prog.cellsOf 13 = 2 := by kernel_rfl
theorem ti_13 : TI Try.prog 13 = some (true, 2) := by kernel_rfl
theorem fi_13_0 : FI Try.prog 13 0 = some (0, (false, 1)) := by kernel_rfl
theorem fi_13_1 : FI Try.prog 13 1 = some (1, (false, 1)) := by kernel_rfl
theorem si_13 : SI Try.prog 13 = some [(0, 1), (1, 1)] := by kernel_rfl
theorem zv_13 : ZV Try.prog 13 = some (.agg [.str [], .int .u64 0]) := by kernel_rfl
theorem zok_13 : ZOk Try.prog 13 2 = true := by kernel_rfl
theorem by_13 : byOf Try.prog 13 = 24 := by kernel_rfl
theorem cells_21 : Try.prog.cellsOf 21 = 1 := by kernel_rfl
theorem ti_21 : TI Try.prog 21 = some (false, 1) := by kernel_rfl
theorem intK_21 : intK Try.prog 21 = some .i32 := by kernel_rfl
theorem un_21 : Try.prog.underlying 21 = some (.int .i32) := by kernel_rfl
theorem zv_21 : ZV Try.prog 21 = some (.int .i32 0) := by kernel_rfl
theorem zok_21 : ZOk Try.prog 21 1 = true := by kernel_rfl
theorem by_21 : byOf Try.prog 21 = 4 := by kernel_rfl
theorem cells_22 : Try.prog.cellsOf 22 = 1 := by kernel_rfl
theorem ti_22 : TI Try.prog 22 = some (false, 1) := by kernel_rfl
theorem intK_22 : intK Try.prog 22 = some .i64 := by kernel_rfl
theorem un_22 : Try.prog.underlying 22 = some (.int .i64) := by kernel_rfl
theorem zv_22 : ZV Try.prog 22 = some (.int .i64 0) := by kernel_rfl
theorem zok_22 : ZOk Try.prog 22 1 = true := by kernel_rfl
theorem by_22 : byOf Try.prog 22 = 8 := by kernel_rfl
theorem cells_23 : Try.prog.cellsOf 23 = 1 := by kernel_rfl
theorem ti_23 : TI Try.prog 23 = some (false, 1) := by kernel_rfl
theorem ei_23 : EI Try.prog 23 = some (22, 1) := by kernel_rfl
theorem isSli_23 : isSli Try.prog 23 = true := by kernel_rfl
theorem notInt_23 : notInt Try.prog 23 = true := by kernel_rfl
theorem zv_23 : ZV Try.prog 23 = some (.nils) := by kernel_rfl
theorem zok_23 : ZOk Try.prog 23 1 = true := by kernel_rfl
theorem by_23 : byOf Try.prog 23 = 24 := by kernel_rfl
theorem cells_24 : Try.prog.cellsOf 24 = 1 := by kernel_rfl
theorem ti_24 : TI Try.prog 24 = some (false, 1) := by kernel_rfl
theorem ei_24 : EI Try.prog 24 = some (3, 1) := by kernel_rfl
theorem isSli_24 : isSli Try.prog 24 = true := by kernel_rfl
theorem notInt_24 : notInt Try.prog 24 = true := by kernel_rfl
theorem zv_24 : ZV Try.prog 24 = some (.nils) := by kernel_rfl
theorem zok_24 : ZOk Try.prog 24 1 = true := by kernel_rfl
theorem by_24 : byOf Try.prog 24 = 24 := by kernel_rfl
theorem cells_25 : Try.prog.cellsOf 25 = 1 := by kernel_rfl
theorem ti_25 : TI Try.prog 25 = some (false, 1) := by kernel_rfl
theorem zv_25 : ZV Try.prog 25 = some (.any) := by kernel_rfl
theorem zok_25 : ZOk Try.prog 25 1 = true := by kernel_rfl
theorem by_25 : byOf Try.prog 25 = 8 := by kernel_rfl
theorem cells_26 : Try.prog.cellsOf 26 = 1 := by kernel_rfl
theorem ti_26 : TI Try.prog 26 = some (false, 1) := by kernel_rfl
theorem zv_26 : ZV Try.prog 26 = some (.any) := by kernel_rfl
theorem zok_26 : ZOk Try.prog 26 1 = true := by kernel_rfl
theorem by_26 : byOf Try.prog 26 = 8 := by kernel_rfl
theorem cells_27 : Try.prog.cellsOf 27 = 1 := by kernel_rfl
theorem ti_27 : TI Try.prog 27 = some (false, 1) := by kernel_rfl
theorem zv_27 : ZV Try.prog 27 = some (.any) := by kernel_rfl
theorem zok_27 : ZOk Try.prog 27 1 = true := by kernel_rfl
theorem by_27 : byOf Try.prog 27 = 8 := by kernel_rfl
theorem cells_28 : Try.prog.cellsOf 28 = 1 := by kernel_rfl
theorem ti_28 : TI Try.prog 28 = some (false, 1) := by kernel_rfl
theorem zv_28 : ZV Try.prog 28 = some (.any) := by kernel_rfl
theorem zok_28 : ZOk Try.prog 28 1 = true := by kernel_rfl
theorem by_28 : byOf Try.prog 28 = 8 := by kernel_rfl
theorem cells_29 : Try.prog.cellsOf 29 = 1 := by kernel_rfl
theorem ti_29 : TI Try.prog 29 = some (false, 1) := by kernel_rfl
theorem ei_29 : EI Try.prog 29 = some (41, 4) := by kernel_rfl
theorem isSli_29 : isSli Try.prog 29 = true := by kernel_rfl
theorem notInt_29 : notInt Try.prog 29 = true := by kernel_rfl
theorem zv_29 : ZV Try.prog 29 = some (.nils) := by kernel_rfl
theorem zok_29 : ZOk Try.prog 29 1 = true := by kernel_rfl
theorem by_29 : byOf Try.prog 29 = 24 := by kernel_rfl
theorem cells_31 : Try.prog.cellsOf 31 = 1 := by kernel_rfl
theorem ti_31 : TI Try.prog 31 = some (false, 1) := by kernel_rfl
theorem zv_31 : ZV Try.prog 31 = some (.any) := by kernel_rfl
theorem zok_31 : ZOk Try.prog 31 1 = true := by kernel_rfl
theorem by_31 : byOf Try.prog 31 = 8 := by kernel_rfl
theorem cells_32 : Try.prog.cellsOf 32 = 1 := by kernel_rfl
theorem ti_32 : TI Try.prog 32 = some (false, 1) := by kernel_rfl
theorem zv_32 : ZV Try.prog 32 = some (.any) := by kernel_rfl
theorem zok_32 : ZOk Try.prog 32 1 = true := by kernel_rfl
theorem by_32 : byOf Try.prog 32 = 8 := by kernel_rfl
theorem cells_33 : Try.prog.cellsOf 33 = 1 := by kernel_rfl
theorem ti_33 : TI Try.prog 33 = some (false, 1) := by kernel_rfl
theorem ei_33 : EI Try.prog 33 = some (24, 1) := by kernel_rfl
theorem isSli_33 : isSli Try.prog 33 = true := by kernel_rfl
theorem notInt_33 : notInt Try.prog 33 = true := by kernel_rfl
theorem zv_33 : ZV Try.prog 33 = some (.nils) := by kernel_rfl
theorem zok_33 : ZOk Try.prog 33 1 = true := by kernel_rfl
theorem by_33 : byOf Try.prog 33 = 24 := by kernel_rfl
theorem cells_34 : Try.prog.cellsOf 34 = 1 := by kernel_rfl
theorem ti_34 : TI Try.prog 34 = some (false, 1) := by kernel_rfl
theorem zv_34 : ZV Try.prog 34 = some (.any) := by kernel_rfl
theorem zok_34 : ZOk Try.prog 34 1 = true := by kernel_rfl
theorem by_34 : byOf Try.prog 34 = 8 := by kernel_rfl
theorem cells_35 : Try.prog.cellsOf 35 = 1 := by kernel_rfl
theorem ti_35 : TI Try.prog 35 = some (false, 1) := by kernel_rfl
theorem ei_35 : EI Try.prog 35 = some (4, 1) := by kernel_rfl
theorem isSli_35 : isSli Try.prog 35 = true := by kernel_rfl
theorem notInt_35 : notInt Try.prog 35 = true := by kernel_rfl
theorem zv_35 : ZV Try.prog 35 = some (.nils) := by kernel_rfl
theorem zok_35 : ZOk Try.prog 35 1 = true := by kernel_rfl
theorem by_35 : byOf Try.prog 35 = 24 := by kernel_rfl
theorem cells_36 : Try.prog.cellsOf 36 = 2 := by kernel_rfl
theorem ti_36 : TI Try.prog 36 = some (true, 2) := by kernel_rfl
theorem fi_36_0 : FI Try.prog 36 0 = some (0, (false, 1)) := by kernel_rfl
theorem fi_36_1 : FI Try.prog 36 1 = some (1, (false, 1)) := by kernel_rfl
theorem si_36 : SI Try.prog 36 = some [(0, 1), (1, 1)] := by kernel_rfl
theorem zv_36 : ZV Try.prog 36 = some (.agg [.nils, .nils]) := by kernel_rfl
theorem zok_36 : ZOk Try.prog 36 2 = true := by kernel_rfl
theorem by_36 : byOf Try.prog 36 = 48 := by kernel_rfl
theorem cells_37 : Try.prog.cellsOf 37 = 2 := by kernel_rfl
theorem ti_37 : TI Try.prog 37 = some (true, 2) := by kernel_rfl
theorem fi_37_0 : FI Try.prog 37 0 = some (0, (false, 1)) := by kernel_rfl
theorem fi_37_1 : FI Try.prog 37 1 = some (1, (false, 1)) := by kernel_rfl
theorem si_37 : SI Try.prog 37 = some [(0, 1), (1, 1)] := by kernel_rfl
theorem zv_37 : ZV Try.prog 37 = some (.agg [.nils, .nils]) := by kernel_rfl
theorem zok_37 : ZOk Try.prog 37 2 = true := by kernel_rfl
theorem by_37 : byOf Try.prog 37 = 48 := by kernel_rfl
theorem cells_38 : Try.prog.cellsOf 38 = 1 := by kernel_rfl
theorem ti_38 : TI Try.prog 38 = some (false, 1) := by kernel_rfl
theorem zv_38 : ZV Try.prog 38 = some (.any) := by kernel_rfl
theorem zok_38 : ZOk Try.prog 38 1 = true := by kernel_rfl
theorem by_38 : byOf Try.prog 38 = 8 := by kernel_rfl
theorem cells_39 : Try.prog.cellsOf 39 = 1 := by kernel_rfl
theorem ti_39 : TI Try.prog 39 = some (false, 1) := by kernel_rfl
theorem ei_39 : EI Try.prog 39 = some (92, 2) := by kernel_rfl
theorem isSli_39 : isSli Try.prog 39 = true := by kernel_rfl
theorem notInt_39 : notInt Try.prog 39 = true := by kernel_rfl
theorem zv_39 : ZV Try.prog 39 = some (.nils) := by kernel_rfl
theorem zok_39 : ZOk Try.prog 39 1 = true := by kernel_rfl
theorem by_39 : byOf Try.prog 39 = 24 := by kernel_rfl
theorem cells_40 : Try.prog.cellsOf 40 = 4 := by kernel_rfl
theorem ti_40 : TI Try.prog 40 = some (true, 4) := by kernel_rfl
theorem fi_40_0 : FI Try.prog 40 0 = some (0, (false, 1)) := by kernel_rfl
theorem fi_40_1 : FI Try.prog 40 1 = some (1, (false, 1)) := by kernel_rfl
theorem fi_40_2 : FI Try.prog 40 2 = some (2, (false, 1)) := by kernel_rfl
theorem fi_40_3 : FI Try.prog 40 3 = some (3, (false, 1)) := by kernel_rfl
theorem si_40 : SI Try.prog 40 = some [(0, 1), (1, 1), (2, 1), (3, 1)] := by kernel_rfl
theorem zv_40 : ZV Try.prog 40 = some (.agg [.str [], .nils, .str [], .nils]) := by kernel_rfl
theorem zok_40 : ZOk Try.prog 40 4 = true := by kernel_rfl
theorem by_40 : byOf Try.prog 40 = 80 := by kernel_rfl
theorem cells_41 : Try.prog.cellsOf 41 = 4 := by kernel_rfl
theorem ti_41 : TI Try.prog 41 = some (true, 4) := by kernel_rfl
theorem fi_41_0 : FI Try.prog 41 0 = some (0, (false, 1)) := by kernel_rfl
theorem fi_41_1 : FI Try.prog 41 1 = some (1, (false, 1)) := by kernel_rfl
theorem fi_41_2 : FI Try.prog 41 2 = some (2, (false, 1)) := by kernel_rfl
theorem fi_41_3 : FI Try.prog 41 3 = some (3, (false, 1)) := by kernel_rfl
theorem si_41 : SI Try.prog 41 = some [(0, 1), (1, 1), (2, 1), (3, 1)] := by kernel_rfl
theorem zv_41 : ZV Try.prog 41 = some (.agg [.str [], .nils, .str [], .nils]) := by kernel_rfl
theorem zok_41 : ZOk Try.prog 41 4 = true := by kernel_rfl
theorem by_41 : byOf Try.prog 41 = 80 := by kernel_rfl
theorem cells_43 : Try.prog.cellsOf 43 = 1 := by kernel_rfl
theorem ti_43 : TI Try.prog 43 = some (false, 1) := by kernel_rfl
theorem zv_43 : ZV Try.prog 43 = some (.any) := by kernel_rfl
theorem zok_43 : ZOk Try.prog 43 1 = true := by kernel_rfl
theorem by_43 : byOf Try.prog 43 = 8 := by kernel_rfl
theorem cells_44 : Try.prog.cellsOf 44 = 1 := by kernel_rfl
theorem ti_44 : TI Try.prog 44 = some (false, 1) := by kernel_rfl
theorem zv_44 : ZV Try.prog 44 = some (.any) := by kernel_rfl
theorem zok_44 : ZOk Try.prog 44 1 = true := by kernel_rfl
theorem by_44 : byOf Try.prog 44 = 8 := by kernel_rfl
theorem cells_45 : Try.prog.cellsOf 45 = 1 := by kernel_rfl
theorem ti_45 : TI Try.prog 45 = some (false, 1) := by kernel_rfl
theorem zv_45 : ZV Try.prog 45 = some (.any) := by kernel_rfl
theorem zok_45 : ZOk Try.prog 45 1 = true := by kernel_rfl
theorem by_45 : byOf Try.prog 45 = 8 := by kernel_rfl
theorem cells_46 : Try.prog.cellsOf 46 = 1 := by kernel_rfl
theorem ti_46 : TI Try.prog 46 = some (false, 1) := by kernel_rfl
theorem zv_46 : ZV Try.prog 46 = some (.any) := by kernel_rfl
theorem zok_46 : ZOk Try.prog 46 1 = true := by kernel_rfl
theorem by_46 : byOf Try.prog 46 = 8 := by kernel_rfl
theorem cells_47 : Try.prog.cellsOf 47 = 1 := by kernel_rfl
theorem ti_47 : TI Try.prog 47 = some (false, 1) := by kernel_rfl
theorem ei_47 : EI Try.prog 47 = some (72, 2) := by kernel_rfl
theorem isSli_47 : isSli Try.prog 47 = true := by kernel_rfl
theorem notInt_47 : notInt Try.prog 47 = true := by kernel_rfl
theorem zv_47 : ZV Try.prog 47 = some (.nils) := by kernel_rfl
theorem zok_47 : ZOk Try.prog 47 1 = true := by kernel_rfl
theorem by_47 : byOf Try.prog 47 = 24 := by kernel_rfl
theorem cells_48 : Try.prog.cellsOf 48 = 1 := by kernel_rfl
theorem ti_48 : TI Try.prog 48 = some (false, 1) := by kernel_rfl
theorem ei_48 : EI Try.prog 48 = some (9, 1) := by kernel_rfl
theorem isSli_48 : isSli Try.prog 48 = true := by kernel_rfl
theorem notInt_48 : notInt Try.prog 48 = true := by kernel_rfl
theorem zv_48 : ZV Try.prog 48 = some (.nils) := by kernel_rfl
theorem zok_48 : ZOk Try.prog 48 1 = true := by kernel_rfl
theorem by_48 : byOf Try.prog 48 = 24 := by kernel_rfl
theorem cells_50 : Try.prog.cellsOf 50 = 1 := by kernel_rfl
theorem ti_50 : TI Try.prog 50 = some (false, 1) := by kernel_rfl
theorem zv_50 : ZV Try.prog 50 = some (.any) := by kernel_rfl
theorem zok_50 : ZOk Try.prog 50 1 = true := by kernel_rfl
theorem by_50 : byOf Try.prog 50 = 8 := by kernel_rfl
theorem cells_51 : Try.prog.cellsOf 51 = 1 := by kernel_rfl
theorem ti_51 : TI Try.prog 51 = some (false, 1) := by kernel_rfl
theorem zv_51 : ZV Try.prog 51 = some (.any) := by kernel_rfl
theorem zok_51 : ZOk Try.prog 51 1 = true := by kernel_rfl
theorem by_51 : byOf Try.prog 51 = 8 := by kernel_rfl
theorem cells_52 : Try.prog.cellsOf 52 = 1 := by kernel_rfl
theorem ti_52 : TI Try.prog 52 = some (false, 1) := by kernel_rfl
theorem zv_52 : ZV Try.prog 52 = some (.any) := by kernel_rfl
theorem zok_52 : ZOk Try.prog 52 1 = true := by kernel_rfl
theorem by_52 : byOf Try.prog 52 = 8 := by kernel_rfl
theorem cells_54 : Try.prog.cellsOf 54 = 1 := by kernel_rfl
theorem ti_54 : TI Try.prog 54 = some (false, 1) := by kernel_rfl
theorem zv_54 : ZV Try.prog 54 = some (.any) := by kernel_rfl
theorem zok_54 : ZOk Try.prog 54 1 = true := by kernel_rfl
theorem by_54 : byOf Try.prog 54 = 8 := by kernel_rfl
theorem cells_55 : Try.prog.cellsOf 55 = 1 := by kernel_rfl
theorem ti_55 : TI Try.prog 55 = some (false, 1) := by kernel_rfl
theorem zv_55 : ZV Try.prog 55 = some (.any) := by kernel_rfl
theorem zok_55 : ZOk Try.prog 55 1 = true := by kernel_rfl
theorem by_55 : byOf Try.prog 55 = 8 := by kernel_rfl
theorem cells_56 : Try.prog.cellsOf 56 = 1 := by kernel_rfl
theorem ti_56 : TI Try.prog 56 = some (false, 1) := by kernel_rfl
theorem zv_56 : ZV Try.prog 56 = some (.any) := by kernel_rfl
theorem zok_56 : ZOk Try.prog 56 1 = true := by kernel_rfl
theorem by_56 : byOf Try.prog 56 = 8 := by kernel_rfl
theorem cells_57 : Try.prog.cellsOf 57 = 1 := by kernel_rfl
theorem ti_57 : TI Try.prog 57 = some (false, 1) := by kernel_rfl
theorem zv_57 : ZV Try.prog 57 = some (.any) := by kernel_rfl
theorem zok_57 : ZOk Try.prog 57 1 = true := by kernel_rfl
theorem by_57 : byOf Try.prog 57 = 8 := by kernel_rfl
theorem cells_59 : Try.prog.cellsOf 59 = 1 := by kernel_rfl
theorem ti_59 : TI Try.prog 59 = some (false, 1) := by kernel_rfl
theorem zv_59 : ZV Try.prog 59 = some (.any) := by kernel_rfl
theorem zok_59 : ZOk Try.prog 59 1 = true := by kernel_rfl
theorem by_59 : byOf Try.prog 59 = 8 := by kernel_rfl
theorem cells_60 : Try.prog.cellsOf 60 = 1 := by kernel_rfl
theorem ti_60 : TI Try.prog 60 = some (false, 1) := by kernel_rfl
theorem zv_60 : ZV Try.prog 60 = some (.any) := by kernel_rfl
theorem zok_60 : ZOk Try.prog 60 1 = true := by kernel_rfl
theorem by_60 : byOf Try.prog 60 = 8 := by kernel_rfl
theorem cells_61 : Try.prog.cellsOf 61 = 1 := by kernel_rfl
theorem ti_61 : TI Try.prog 61 = some (false, 1) := by kernel_rfl
theorem zv_61 : ZV Try.prog 61 = some (.any) := by kernel_rfl
theorem zok_61 : ZOk Try.prog 61 1 = true := by kernel_rfl
theorem by_61 : byOf Try.prog 61 = 8 := by kernel_rfl
theorem cells_62 : Try.prog.cellsOf 62 = 1 := by kernel_rfl
theorem ti_62 : TI Try.prog 62 = some (false, 1) := by kernel_rfl
theorem zv_62 : ZV Try.prog 62 = some (.any) := by kernel_rfl
theorem zok_62 : ZOk Try.prog 62 1 = true := by kernel_rfl
theorem by_62 : byOf Try.prog 62 = 8 := by kernel_rfl
theorem cells_63 : Try.prog.cellsOf 63 = 1 := by kernel_rfl
theorem ti_63 : TI Try.prog 63 = some (false, 1) := by kernel_rfl
theorem zv_63 : ZV Try.prog 63 = some (.any) := by kernel_rfl
theorem zok_63 : ZOk Try.prog 63 1 = true := by kernel_rfl
theorem by_63 : byOf Try.prog 63 = 8 := by kernel_rfl
theorem cells_64 : Try.prog.cellsOf 64 = 1 := by kernel_rfl
theorem ti_64 : TI Try.prog 64 = some (false, 1) := by kernel_rfl
theorem zv_64 : ZV Try.prog 64 = some (.any) := by kernel_rfl
theorem zok_64 : ZOk Try.prog 64 1 = true := by kernel_rfl
theorem by_64 : byOf Try.prog 64 = 8 := by kernel_rfl
theorem cells_65 : Try.prog.cellsOf 65 = 1 := by kernel_rfl
theorem ti_65 : TI Try.prog 65 = some (false, 1) := by kernel_rfl
theorem zv_65 : ZV Try.prog 65 = some (.any) := by kernel_rfl
theorem zok_65 : ZOk Try.prog 65 1 = true := by kernel_rfl
theorem by_65 : byOf Try.prog 65 = 8 := by kernel_rfl
theorem cells_66 : Try.prog.cellsOf 66 = 1 := by kernel_rfl
theorem ti_66 : TI Try.prog 66 = some (false, 1) := by kernel_rfl
theorem zv_66 : ZV Try.prog 66 = some (.any) := by kernel_rfl
theorem zok_66 : ZOk Try.prog 66 1 = true := by kernel_rfl
theorem by_66 : byOf Try.prog 66 = 8 := by kernel_rfl
theorem cells_67 : Try.prog.cellsOf 67 = 1 := by kernel_rfl
theorem ti_67 : TI Try.prog 67 = some (false, 1) := by kernel_rfl
theorem zv_67 : ZV Try.prog 67 = some (.any) := by kernel_rfl
theorem zok_67 : ZOk Try.prog 67 1 = true := by kernel_rfl
theorem by_67 : byOf Try.prog 67 = 8 := by kernel_rfl
theorem cells_68 : Try.prog.cellsOf 68 = 1 := by kernel_rfl
theorem ti_68 : TI Try.prog 68 = some (false, 1) := by kernel_rfl
theorem ei_68 : EI Try.prog 68 = some (5, 1) := by kernel_rfl
theorem isSli_68 : isSli Try.prog 68 = true := by kernel_rfl
theorem notInt_68 : notInt Try.prog 68 = true := by kernel_rfl
theorem zv_68 : ZV Try.prog 68 = some (.nils) := by kernel_rfl
theorem zok_68 : ZOk Try.prog 68 1 = true := by kernel_rfl
theorem by_68 : byOf Try.prog 68 = 24 := by kernel_rfl
theorem cells_69 : Try.prog.cellsOf 69 = 1 := by kernel_rfl
theorem ti_69 : TI Try.prog 69 = some (false, 1) := by kernel_rfl
theorem zv_69 : ZV Try.prog 69 = some (.any) := by kernel_rfl
theorem zok_69 : ZOk Try.prog 69 1 = true := by kernel_rfl
theorem by_69 : byOf Try.prog 69 = 8 := by kernel_rfl
theorem cells_70 : Try.prog.cellsOf 70 = 1 := by kernel_rfl
theorem ti_70 : TI Try.prog 70 = some (false, 1) := by kernel_rfl
theorem zv_70 : ZV Try.prog 70 = some (.any) := by kernel_rfl
theorem zok_70 : ZOk Try.prog 70 1 = true := by kernel_rfl
theorem by_70 : byOf Try.prog 70 = 8 := by kernel_rfl
theorem cells_71 : Try.prog.cellsOf 71 = 2 := by kernel_rfl
theorem ti_71 : TI Try.prog 71 = some (true, 2) := by kernel_rfl
theorem fi_71_0 : FI Try.prog 71 0 = some (0, (false, 1)) := by kernel_rfl
theorem fi_71_1 : FI Try.prog 71 1 = some (1, (false, 1)) := by kernel_rfl
theorem si_71 : SI Try.prog 71 = some [(0, 1), (1, 1)] := by kernel_rfl
theorem zv_71 : ZV Try.prog 71 = some (.agg [.str [], .str []]) := by kernel_rfl
theorem zok_71 : ZOk Try.prog 71 2 = true := by kernel_rfl
theorem by_71 : byOf Try.prog 71 = 32 := by kernel_rfl
theorem cells_72 : Try.prog.cellsOf 72 = 2 := by kernel_rfl
theorem ti_72 : TI Try.prog 72 = some (true, 2) := by kernel_rfl
theorem fi_72_0 : FI Try.prog 72 0 = some (0, (false, 1)) := by kernel_rfl
theorem fi_72_1 : FI Try.prog 72 1 = some (1, (false, 1)) := by kernel_rfl
theorem si_72 : SI Try.prog 72 = some [(0, 1), (1, 1)] := by kernel_rfl
theorem zv_72 : ZV Try.prog 72 = some (.agg [.str [], .str []]) := by kernel_rfl
theorem zok_72 : ZOk Try.prog 72 2 = true := by kernel_rfl
theorem by_72 : byOf Try.prog 72 = 32 := by kernel_rfl
theorem cells_73 : Try.prog.cellsOf 73 = 1 := by kernel_rfl
theorem ti_73 : TI Try.prog 73 = some (false, 1) := by kernel_rfl
theorem zv_73 : ZV Try.prog 73 = some (.any) := by kernel_rfl
theorem zok_73 : ZOk Try.prog 73 1 = true := by kernel_rfl
theorem by_73 : byOf Try.prog 73 = 8 := by kernel_rfl
theorem cells_74 : Try.prog.cellsOf 74 = 1 := by kernel_rfl
theorem ti_74 : TI Try.prog 74 = some (false, 1) := by kernel_rfl
theorem zv_74 : ZV Try.prog 74 = some (.any) := by kernel_rfl
theorem zok_74 : ZOk Try.prog 74 1 = true := by kernel_rfl
theorem by_74 : byOf Try.prog 74 = 8 := by kernel_rfl
theorem cells_75 : Try.prog.cellsOf 75 = 1 := by kernel_rfl
theorem ti_75 : TI Try.prog 75 = some (false, 1) := by kernel_rfl
theorem zv_75 : ZV Try.prog 75 = some (.any) := by kernel_rfl
theorem zok_75 : ZOk Try.prog 75 1 = true := by kernel_rfl
theorem by_75 : byOf Try.prog 75 = 8 := by kernel_rfl
theorem cells_76 : Try.prog.cellsOf 76 = 1 := by kernel_rfl
theorem ti_76 : TI Try.prog 76 = some (false, 1) := by kernel_rfl
theorem zv_76 : ZV Try.prog 76 = some (.any) := by kernel_rfl
theorem zok_76 : ZOk Try.prog 76 1 = true := by kernel_rfl
theorem by_76 : byOf Try.prog 76 = 8 := by kernel_rfl
theorem cells_77 : Try.prog.cellsOf 77 = 1 := by kernel_rfl
theorem ti_77 : TI Try.prog 77 = some (false, 1) := by kernel_rfl
theorem zv_77 : ZV Try.prog 77 = some (.any) := by kernel_rfl
theorem zok_77 : ZOk Try.prog 77 1 = true := by kernel_rfl
theorem by_77 : byOf Try.prog 77 = 8 := by kernel_rfl
theorem cells_78 : Try.prog.cellsOf 78 = 1 := by kernel_rfl
theorem ti_78 : TI Try.prog 78 = some (false, 1) := by kernel_rfl
theorem isPtr_78 : isPtr Try.prog 78 = true := by kernel_rfl
theorem zv_78 : ZV Try.prog 78 = some (.nilp) := by kernel_rfl
theorem zok_78 : ZOk Try.prog 78 1 = true := by kernel_rfl
theorem by_78 : byOf Try.prog 78 = 8 := by kernel_rfl
theorem cells_79 : Try.prog.cellsOf 79 = 2 := by kernel_rfl
theorem ti_79 : TI Try.prog 79 = some (true, 2) := by kernel_rfl
theorem fi_79_0 : FI Try.prog 79 0 = some (0, (false, 1)) := by kernel_rfl
theorem fi_79_1 : FI Try.prog 79 1 = some (1, (false, 1)) := by kernel_rfl
theorem si_79 : SI Try.prog 79 = some [(0, 1), (1, 1)] := by kernel_rfl
theorem zv_79 : ZV Try.prog 79 = some (.agg [.nilp, .nils]) := by kernel_rfl
theorem zok_79 : ZOk Try.prog 79 2 = true := by kernel_rfl
theorem by_79 : byOf Try.prog 79 = 32 := by kernel_rfl
theorem cells_80 : Try.prog.cellsOf 80 = 2 := by kernel_rfl
theorem ti_80 : TI Try.prog 80 = some (true, 2) := by kernel_rfl
theorem fi_80_0 : FI Try.prog 80 0 = some (0, (false, 1)) := by kernel_rfl
theorem fi_80_1 : FI Try.prog 80 1 = some (1, (false, 1)) := by kernel_rfl
theorem si_80 : SI Try.prog 80 = some [(0, 1), (1, 1)] := by kernel_rfl
theorem zv_80 : ZV Try.prog 80 = some (.agg [.nilp, .nils]) := by kernel_rfl
theorem zok_80 : ZOk Try.prog 80 2 = true := by kernel_rfl
theorem by_80 : byOf Try.prog 80 = 32 := by kernel_rfl
theorem cells_81 : Try.prog.cellsOf 81 = 1 := by kernel_rfl
theorem ti_81 : TI Try.prog 81 = some (false, 1) := by kernel_rfl
theorem zv_81 : ZV Try.prog 81 = some (.any) := by kernel_rfl
theorem zok_81 : ZOk Try.prog 81 1 = true := by kernel_rfl
theorem by_81 : byOf Try.prog 81 = 8 := by kernel_rfl
theorem cells_84 : Try.prog.cellsOf 84 = 1 := by kernel_rfl
theorem ti_84 : TI Try.prog 84 = some (false, 1) := by kernel_rfl
theorem zv_84 : ZV Try.prog 84 = some (.any) := by kernel_rfl
theorem zok_84 : ZOk Try.prog 84 1 = true := by kernel_rfl
theorem by_84 : byOf Try.prog 84 = 8 := by kernel_rfl
theorem cells_85 : Try.prog.cellsOf 85 = 1 := by kernel_rfl
theorem ti_85 : TI Try.prog 85 = some (false, 1) := by kernel_rfl
theorem zv_85 : ZV Try.prog 85 = some (.any) := by kernel_rfl
theorem zok_85 : ZOk Try.prog 85 1 = true := by kernel_rfl
theorem by_85 : byOf Try.prog 85 = 8 := by kernel_rfl
theorem cells_86 : Try.prog.cellsOf 86 = 1 := by kernel_rfl
theorem ti_86 : TI Try.prog 86 = some (false, 1) := by kernel_rfl
theorem zv_86 : ZV Try.prog 86 = some (.any) := by kernel_rfl
theorem zok_86 : ZOk Try.prog 86 1 = true := by kernel_rfl
theorem by_86 : byOf Try.prog 86 = 8 := by kernel_rfl
theorem cells_88 : Try.prog.cellsOf 88 = 1 := by kernel_rfl
theorem ti_88 : TI Try.prog 88 = some (false, 1) := by kernel_rfl
theorem zv_88 : ZV Try.prog 88 = some (.any) := by kernel_rfl
theorem zok_88 : ZOk Try.prog 88 1 = true := by kernel_rfl
theorem by_88 : byOf Try.prog 88 = 8 := by kernel_rfl
theorem cells_89 : Try.prog.cellsOf 89 = 1 := by kernel_rfl
theorem ti_89 : TI Try.prog 89 = some (false, 1) := by kernel_rfl
theorem zv_89 : ZV Try.prog 89 = some (.any) := by kernel_rfl
theorem zok_89 : ZOk Try.prog 89 1 = true := by kernel_rfl
theorem by_89 : byOf Try.prog 89 = 8 := by kernel_rfl
theorem cells_90 : Try.prog.cellsOf 90 = 1 := by kernel_rfl
theorem ti_90 : TI Try.prog 90 = some (false, 1) := by kernel_rfl
theorem zv_90 : ZV Try.prog 90 = some (.any) := by kernel_rfl
theorem zok_90 : ZOk Try.prog 90 1 = true := by kernel_rfl
theorem by_90 : byOf Try.prog 90 = 8 := by kernel_rfl
theorem cells_91 : Try.prog.cellsOf 91 = 1 := by kernel_rfl
theorem ti_91 : TI Try.prog 91 = some (false, 1) := by kernel_rfl
theorem zv_91 : ZV Try.prog 91 = some (.any) := by kernel_rfl
theorem zok_91 : ZOk Try.prog 91 1 = true := by kernel_rfl
theorem by_91 : byOf Try.prog 91 = 8 := by kernel_rfl
theorem cells_92 : Try.prog.cellsOf 92 = 2 := by kernel_rfl
theorem ti_92 : TI Try.prog 92 = some (true, 2) := by kernel_rfl
theorem fi_92_0 : FI Try.prog 92 0 = some (0, (false, 1)) := by kernel_rfl
theorem fi_92_1 : FI Try.prog 92 1 = some (1, (false, 1)) := by kernel_rfl
theorem si_92 : SI Try.prog 92 = some [(0, 1), (1, 1)] := by kernel_rfl
theorem zv_92 : ZV Try.prog 92 = some (.agg [.str [], .str []]) := by kernel_rfl
theorem zok_92 : ZOk Try.prog 92 2 = true := by kernel_rfl
theorem by_92 : byOf Try.prog 92 = 32 := by kernel_rfl
theorem cells_93 : Try.prog.cellsOf 93 = 1 := by kernel_rfl
theorem ti_93 : TI Try.prog 93 = some (false, 1) := by kernel_rfl
theorem zv_93 : ZV Try.prog 93 = some (.any) := by kernel_rfl
theorem zok_93 : ZOk Try.prog 93 1 = true := by kernel_rfl
theorem by_93 : byOf Try.prog 93 = 8 := by kernel_rfl
theorem cells_94 : Try.prog.cellsOf 94 = 1 := by kernel_rfl
theorem ti_94 : TI Try.prog 94 = some (false, 1) := by kernel_rfl
theorem intK_94 : intK Try.prog 94 = some .u32 := by kernel_rfl
theorem un_94 : Try.prog.underlying 94 = some (.int .u32) := by kernel_rfl
theorem zv_94 : ZV Try.prog 94 = some (.int .u32 0) := by kernel_rfl
theorem zok_94 : ZOk Try.prog 94 1 = true := by kernel_rfl
theorem by_94 : byOf Try.prog 94 = 4 := by kernel_rfl
theorem cells_95 : Try.prog.cellsOf 95 = 1 := by kernel_rfl
theorem ti_95 : TI Try.prog 95 = some (false, 1) := by kernel_rfl
theorem zv_95 : ZV Try.prog 95 = some (.any) := by kernel_rfl
theorem zok_95 : ZOk Try.prog 95 1 = true := by kernel_rfl
theorem by_95 : byOf Try.prog 95 = 8 := by kernel_rfl
theorem cells_96 : Try.prog.cellsOf 96 = 1 := by kernel_rfl
theorem ti_96 : TI Try.prog 96 = some (false, 1) := by kernel_rfl
theorem zv_96 : ZV Try.prog 96 = some (.any) := by kernel_rfl
theorem zok_96 : ZOk Try.prog 96 1 = true := by kernel_rfl
theorem by_96 : byOf Try.prog 96 = 8 := by kernel_rfl
theorem cells_97 : Try.prog.cellsOf 97 = 1 := by kernel_rfl
theorem ti_97 : TI Try.prog 97 = some (false, 1) := by kernel_rfl
theorem zv_97 : ZV Try.prog 97 = some (.any) := by kernel_rfl
theorem zok_97 : ZOk Try.prog 97 1 = true := by kernel_rfl
theorem by_97 : byOf Try.prog 97 = 8 := by kernel_rfl
theorem cells_98 : Try.prog.cellsOf 98 = 1 := by kernel_rfl
theorem ti_98 : TI Try.prog 98 = some (false, 1) := by kernel_rfl
theorem isPtr_98 : isPtr Try.prog 98 = true := by kernel_rfl
theorem zv_98 : ZV Try.prog 98 = some (.nilp) := by kernel_rfl
theorem zok_98 : ZOk Try.prog 98 1 = true := by kernel_rfl
theorem by_98 : byOf Try.prog 98 = 8 := by kernel_rfl
theorem cells_99 : Try.prog.cellsOf 99 = 1 := by kernel_rfl
theorem ti_99 : TI Try.prog 99 = some (false, 1) := by kernel_rfl
theorem intK_99 : intK Try.prog 99 = some .u64 := by kernel_rfl
theorem un_99 : Try.prog.underlying 99 = some (.int .u64) := by kernel_rfl
theorem zv_99 : ZV Try.prog 99 = some (.int .u64 0) := by kernel_rfl
theorem zok_99 : ZOk Try.prog 99 1 = true := by kernel_rfl
theorem by_99 : byOf Try.prog 99 = 8 := by kernel_rfl
theorem cells_107 : Try.prog.cellsOf 107 = 1 := by kernel_rfl
theorem ti_107 : TI Try.prog 107 = some (false, 1) := by kernel_rfl
theorem zv_107 : ZV Try.prog 107 = some (.any) := by kernel_rfl
theorem zok_107 : ZOk Try.prog 107 1 = true := by kernel_rfl
theorem by_107 : byOf Try.prog 107 = 8 := by kernel_rfl
theorem hasBody_3 : hasBody Try.prog 3 = true := by kernel_rfl
theorem hasBody_4 : hasBody Try.prog 4 = true := by kernel_rfl
theorem hasBody_5 : hasBody Try.prog 5 = true := by kernel_rfl
theorem hasBody_6 : hasBody Try.prog 6 = true := by kernel_rfl
theorem hasBody_7 : hasBody Try.prog 7 = true := by kernel_rfl
theorem hasBody_8 : hasBody Try.prog 8 = true := by kernel_rfl
theorem hasBody_9 : hasBody Try.prog 9 = true := by kernel_rfl
theorem hasBody_10 : hasBody Try.prog 10 = true := by kernel_rfl
theorem hasBody_11 : hasBody Try.prog 11 = true := by kernel_rfl
theorem hasBody_12 : hasBody Try.prog 12 = true := by kernel_rfl
theorem hasBody_13 : hasBody Try.prog 13 = true := by kernel_rfl
theorem hasBody_14 : hasBody Try.prog 14 = true := by kernel_rfl
theorem hasBody_15 : hasBody Try.prog 15 = true := by kernel_rfl
theorem hasBody_16 : hasBody Try.prog 16 = true := by kernel_rfl
theorem hasBody_17 : hasBody Try.prog 17 = true := by kernel_rfl
theorem hasBody_18 : hasBody Try.prog 18 = true := by kernel_rfl
theorem hasBody_19 : hasBody Try.prog 19 = true := by kernel_rfl
theorem hasBody_20 : hasBody Try.prog 20 = true := by kernel_rfl
theorem hasBody_21 : hasBody Try.prog 21 = true := by kernel_rfl
theorem hasBody_22 : hasBody Try.prog 22 = true := by kernel_rfl
theorem hasBody_23 : hasBody Try.prog 23 = true := by kernel_rfl
theorem hasBody_24 : hasBody Try.prog 24 = true := by kernel_rfl
theorem hasBody_25 : hasBody Try.prog 25 = true := by kernel_rfl
theorem hasBody_26 : hasBody Try.prog 26 = true := by kernel_rfl
theorem hasBody_27 : hasBody Try.prog 27 = true := by kernel_rfl
theorem hasBody_28 : hasBody Try.prog 28 = true := by kernel_rfl
theorem hasBody_29 : hasBody Try.prog 29 = true := by kernel_rfl
theorem hasBody_30 : hasBody Try.prog 30 = true := by kernel_rfl
theorem hasBody_31 : hasBody Try.prog 31 = true := by kernel_rfl
theorem hasBody_32 : hasBody Try.prog 32 = true := by kernel_rfl
theorem hasBody_33 : hasBody Try.prog 33 = true := by kernel_rfl
theorem hasBody_34 : hasBody Try.prog 34 = true := by kernel_rfl
theorem hasBody_35 : hasBody Try.prog 35 = true := by kernel_rfl
theorem hasBody_36 : hasBody Try.prog 36 = true := by kernel_rfl
theorem hasBody_37 : hasBody Try.prog 37 = true := by kernel_rfl
theorem hasBody_38 : hasBody Try.prog 38 = true := by kernel_rfl
theorem hasBody_39 : hasBody Try.prog 39 = true := by kernel_rfl
theorem hasBody_40 : hasBody Try.prog 40 = true := by kernel_rfl
theorem hasBody_41 : hasBody Try.prog 41 = true := by kernel_rfl
theorem hasBody_42 : hasBody Try.prog 42 = true := by kernel_rfl
theorem hasBody_43 : hasBody Try.prog 43 = true := by kernel_rfl
theorem hasBody_44 : hasBody Try.prog 44 = true := by kernel_rfl
theorem hasBody_45 : hasBody Try.prog 45 = true := by kernel_rfl
theorem hasBody_46 : hasBody Try.prog 46 = true := by kernel_rfl
theorem hasBody_47 : hasBody Try.prog 47 = true := by kernel_rfl
theorem hasBody_48 : hasBody Try.prog 48 = true := by kernel_rfl
theorem hasBody_49 : hasBody Try.prog 49 = true := by kernel_rfl
theorem hasBody_50 : hasBody Try.prog 50 = true := by kernel_rfl
theorem hasBody_51 : hasBody Try.prog 51 = true := by kernel_rfl
theorem hasBody_52 : hasBody Try.prog 52 = true := by kernel_rfl
theorem hasBody_53 : hasBody Try.prog 53 = true := by kernel_rfl
theorem hasBody_54 : hasBody Try.prog 54 = true := by kernel_rfl
theorem hasBody_55 : hasBody Try.prog 55 = true := by kernel_rfl
theorem hasBody_56 : hasBody Try.prog 56 = true := by kernel_rfl
theorem hasBody_57 : hasBody Try.prog 57 = true := by kernel_rfl
theorem hasBody_58 : hasBody Try.prog 58 = true := by kernel_rfl
theorem hasBody_59 : hasBody Try.prog 59 = true := by kernel_rfl
theorem hasBody_60 : hasBody Try.prog 60 = true := by kernel_rfl
theorem hasBody_61 : hasBody Try.prog 61 = true := by kernel_rfl
theorem hasBody_62 : hasBody Try.prog 62 = true := by kernel_rfl
theorem hasBody_63 : hasBody Try.prog 63 = true := by kernel_rfl
theorem hasBody_64 : hasBody Try.prog 64 = true := by kernel_rfl
theorem hasBody_65 : hasBody Try.prog 65 = true := by kernel_rfl
theorem hasBody_66 : hasBody Try.prog 66 = true := by kernel_rfl
theorem hasBody_67 : hasBody Try.prog 67 = true := by kernel_rfl
theorem hasBody_68 : hasBody Try.prog 68 = true := by kernel_rfl
theorem hasBody_69 : hasBody Try.prog 69 = true := by kernel_rfl
theorem hasBody_70 : hasBody Try.prog 70 = true := by kernel_rfl
theorem hasBody_71 : hasBody Try.prog 71 = true := by kernel_rfl
theorem follows_all : Try.prog.follows .mixedOrders = true := by kernel_rfl
end Go.Proofs.Yteabokphchpifaa
