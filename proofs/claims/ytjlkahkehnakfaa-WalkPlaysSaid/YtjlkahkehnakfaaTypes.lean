/- Facts of this seat's types and functions, each by the kernel's reckoning; written by program. No conditions. -/
import Derived.Test.YtjlkahkehnakfaaAwx
import Derived.Test.YtjlkahkehnakfaaRows
set_option linter.unusedSimpArgs false
set_option linter.unusedVariables false
namespace Go.Proofs.Ytjlkahkehnakfaa

theorem cells_1 : Try.prog.cellsOf 1 = 1 := by kernel_rfl
theorem ti_1 : TI Try.prog 1 = some (false, 1) := by kernel_rfl
theorem zv_1 : ZV Try.prog 1 = some (.any) := by kernel_rfl
theorem zok_1 : ZOk Try.prog 1 1 = true := by kernel_rfl
theorem by_1 : byOf Try.prog 1 = 8 := by kernel_rfl
theorem cells_2 : Try.prog.cellsOf 2 = 1 := by kernel_rfl
theorem ti_2 : TI Try.prog 2 = some (false, 1) := by kernel_rfl
theorem intK_2 : intK Try.prog 2 = some .i64 := by kernel_rfl
theorem un_2 : Try.prog.underlying 2 = some (.int .i64) := by kernel_rfl
theorem zv_2 : ZV Try.prog 2 = some (.int .i64 0) := by kernel_rfl
theorem zok_2 : ZOk Try.prog 2 1 = true := by kernel_rfl
theorem by_2 : byOf Try.prog 2 = 8 := by kernel_rfl
theorem cells_3 : Try.prog.cellsOf 3 = 1 := by kernel_rfl
theorem ti_3 : TI Try.prog 3 = some (false, 1) := by kernel_rfl
theorem intK_3 : intK Try.prog 3 = some .i64 := by kernel_rfl
theorem un_3 : Try.prog.underlying 3 = some (.int .i64) := by kernel_rfl
theorem zv_3 : ZV Try.prog 3 = some (.int .i64 0) := by kernel_rfl
theorem zok_3 : ZOk Try.prog 3 1 = true := by kernel_rfl
theorem by_3 : byOf Try.prog 3 = 8 := by kernel_rfl
theorem cells_4 : Try.prog.cellsOf 4 = 1 := by kernel_rfl
theorem ti_4 : TI Try.prog 4 = some (false, 1) := by kernel_rfl
theorem isBoo_4 : isBoo Try.prog 4 = true := by kernel_rfl
theorem zv_4 : ZV Try.prog 4 = some (.bool false) := by kernel_rfl
theorem zok_4 : ZOk Try.prog 4 1 = true := by kernel_rfl
theorem by_4 : byOf Try.prog 4 = 1 := by kernel_rfl
theorem cells_5 : Try.prog.cellsOf 5 = 1 := by kernel_rfl
theorem ti_5 : TI Try.prog 5 = some (false, 1) := by kernel_rfl
theorem intK_5 : intK Try.prog 5 = some .u8 := by kernel_rfl
theorem un_5 : Try.prog.underlying 5 = some (.int .u8) := by kernel_rfl
theorem zv_5 : ZV Try.prog 5 = some (.int .u8 0) := by kernel_rfl
theorem zok_5 : ZOk Try.prog 5 1 = true := by kernel_rfl
theorem by_5 : byOf Try.prog 5 = 1 := by kernel_rfl
theorem cells_9 : Try.prog.cellsOf 9 = 1 := by kernel_rfl
theorem ti_9 : TI Try.prog 9 = some (false, 1) := by kernel_rfl
theorem isStr_9 : isStr Try.prog 9 = true := by kernel_rfl
theorem notInt_9 : notInt Try.prog 9 = true := by kernel_rfl
theorem zv_9 : ZV Try.prog 9 = some (.str []) := by kernel_rfl
theorem zok_9 : ZOk Try.prog 9 1 = true := by kernel_rfl
theorem by_9 : byOf Try.prog 9 = 16 := by kernel_rfl
theorem cells_12 : Try.prog.cellsOf 12 = 1 := by kernel_rfl
theorem ti_12 : TI Try.prog 12 = some (false, 1) := by kernel_rfl
theorem intK_12 : intK Try.prog 12 = some .u64 := by kernel_rfl
theorem un_12 : Try.prog.underlying 12 = some (.int .u64) := by kernel_rfl
theorem zv_12 : ZV Try.prog 12 = some (.int .u64 0) := by kernel_rfl
theorem zok_12 : ZOk Try.prog 12 1 = true := by kernel_rfl
theorem by_12 : byOf Try.prog 12 = 8 := by kernel_rfl
theorem cells_13 : Try.prog.cellsOf 13 = 2 := by kernel_rfl
theorem ti_13 : TI Try.prog 13 = some (true, 2) := by kernel_rfl
theorem fi_13_0 : FI Try.prog 13 0 = some (0, (false, 1)) := by kernel_rfl
theorem fi_13_1 : FI Try.prog 13 1 = some (1, (false, 1)) := by kernel_rfl
theorem si_13 : SI Try.prog 13 = some [(0, 1), (1, 1)] := by kernel_rfl
theorem zv_13 : ZV Try.prog 13 = some (.agg [.str [], .int .u64 0]) := by kernel_rfl
theorem zok_13 : ZOk Try.prog 13 2 = true := by kernel_rfl
theorem by_13 : byOf Try.prog 13 = 24 := by kernel_rfl
theorem cells_21 : Try.prog.cellsOf 21 = 1 := by kernel_rfl
theorem ti_21 : TI Try.prog 21 = some (false, 1) := by kernel_rfl
theorem intK_21 : intK Try.prog 21 = some .i32 := by kernel_rfl
theorem un_21 : Try.prog.underlying 21 = some (.int .i32) := by kernel_rfl
theorem zv_21 : ZV Try.prog 21 = some (.int .i32 0) := by kernel_rfl
theorem zok_21 : ZOk Try.prog 21 1 = true := by kernel_rfl
theorem by_21 : byOf Try.prog 21 = 4 := by kernel_rfl
theorem cells_22 : Try.prog.cellsOf 22 = 1 := by kernel_rfl
theorem ti_22 : TI Try.prog 22 = some (false, 1) := by kernel_rfl
theorem ei_22 : EI Try.prog 22 = some (39, 4) := by kernel_rfl
theorem isSli_22 : isSli Try.prog 22 = true := by kernel_rfl
theorem notInt_22 : notInt Try.prog 22 = true := by kernel_rfl
theorem zv_22 : ZV Try.prog 22 = some (.nils) := by kernel_rfl
theorem zok_22 : ZOk Try.prog 22 1 = true := by kernel_rfl
theorem by_22 : byOf Try.prog 22 = 24 := by kernel_rfl
theorem cells_23 : Try.prog.cellsOf 23 = 1 := by kernel_rfl
theorem ti_23 : TI Try.prog 23 = some (false, 1) := by kernel_rfl
theorem ei_23 : EI Try.prog 23 = some (44, 6) := by kernel_rfl
theorem isSli_23 : isSli Try.prog 23 = true := by kernel_rfl
theorem notInt_23 : notInt Try.prog 23 = true := by kernel_rfl
theorem zv_23 : ZV Try.prog 23 = some (.nils) := by kernel_rfl
theorem zok_23 : ZOk Try.prog 23 1 = true := by kernel_rfl
theorem by_23 : byOf Try.prog 23 = 24 := by kernel_rfl
theorem cells_24 : Try.prog.cellsOf 24 = 1 := by kernel_rfl
theorem ti_24 : TI Try.prog 24 = some (false, 1) := by kernel_rfl
theorem intK_24 : intK Try.prog 24 = some .i64 := by kernel_rfl
theorem un_24 : Try.prog.underlying 24 = some (.int .i64) := by kernel_rfl
theorem zv_24 : ZV Try.prog 24 = some (.int .i64 0) := by kernel_rfl
theorem zok_24 : ZOk Try.prog 24 1 = true := by kernel_rfl
theorem by_24 : byOf Try.prog 24 = 8 := by kernel_rfl
theorem cells_26 : Try.prog.cellsOf 26 = 1 := by kernel_rfl
theorem ti_26 : TI Try.prog 26 = some (false, 1) := by kernel_rfl
theorem zv_26 : ZV Try.prog 26 = some (.any) := by kernel_rfl
theorem zok_26 : ZOk Try.prog 26 1 = true := by kernel_rfl
theorem by_26 : byOf Try.prog 26 = 8 := by kernel_rfl
theorem cells_27 : Try.prog.cellsOf 27 = 1 := by kernel_rfl
theorem ti_27 : TI Try.prog 27 = some (false, 1) := by kernel_rfl
theorem zv_27 : ZV Try.prog 27 = some (.any) := by kernel_rfl
theorem zok_27 : ZOk Try.prog 27 1 = true := by kernel_rfl
theorem by_27 : byOf Try.prog 27 = 8 := by kernel_rfl
theorem cells_28 : Try.prog.cellsOf 28 = 1 := by kernel_rfl
theorem ti_28 : TI Try.prog 28 = some (false, 1) := by kernel_rfl
theorem zv_28 : ZV Try.prog 28 = some (.any) := by kernel_rfl
theorem zok_28 : ZOk Try.prog 28 1 = true := by kernel_rfl
theorem by_28 : byOf Try.prog 28 = 8 := by kernel_rfl
theorem cells_30 : Try.prog.cellsOf 30 = 1 := by kernel_rfl
theorem ti_30 : TI Try.prog 30 = some (false, 1) := by kernel_rfl
theorem zv_30 : ZV Try.prog 30 = some (.any) := by kernel_rfl
theorem zok_30 : ZOk Try.prog 30 1 = true := by kernel_rfl
theorem by_30 : byOf Try.prog 30 = 8 := by kernel_rfl
theorem cells_31 : Try.prog.cellsOf 31 = 1 := by kernel_rfl
theorem ti_31 : TI Try.prog 31 = some (false, 1) := by kernel_rfl
theorem zv_31 : ZV Try.prog 31 = some (.any) := by kernel_rfl
theorem zok_31 : ZOk Try.prog 31 1 = true := by kernel_rfl
theorem by_31 : byOf Try.prog 31 = 8 := by kernel_rfl
theorem cells_33 : Try.prog.cellsOf 33 = 1 := by kernel_rfl
theorem ti_33 : TI Try.prog 33 = some (false, 1) := by kernel_rfl
theorem zv_33 : ZV Try.prog 33 = some (.any) := by kernel_rfl
theorem zok_33 : ZOk Try.prog 33 1 = true := by kernel_rfl
theorem by_33 : byOf Try.prog 33 = 8 := by kernel_rfl
theorem cells_34 : Try.prog.cellsOf 34 = 1 := by kernel_rfl
theorem ti_34 : TI Try.prog 34 = some (false, 1) := by kernel_rfl
theorem ei_34 : EI Try.prog 34 = some (22, 1) := by kernel_rfl
theorem isSli_34 : isSli Try.prog 34 = true := by kernel_rfl
theorem notInt_34 : notInt Try.prog 34 = true := by kernel_rfl
theorem zv_34 : ZV Try.prog 34 = some (.nils) := by kernel_rfl
theorem zok_34 : ZOk Try.prog 34 1 = true := by kernel_rfl
theorem by_34 : byOf Try.prog 34 = 24 := by kernel_rfl
theorem cells_36 : Try.prog.cellsOf 36 = 1 := by kernel_rfl
theorem ti_36 : TI Try.prog 36 = some (false, 1) := by kernel_rfl
theorem zv_36 : ZV Try.prog 36 = some (.any) := by kernel_rfl
theorem zok_36 : ZOk Try.prog 36 1 = true := by kernel_rfl
theorem by_36 : byOf Try.prog 36 = 8 := by kernel_rfl
theorem cells_37 : Try.prog.cellsOf 37 = 1 := by kernel_rfl
theorem ti_37 : TI Try.prog 37 = some (false, 1) := by kernel_rfl
theorem ei_37 : EI Try.prog 37 = some (55, 2) := by kernel_rfl
theorem isSli_37 : isSli Try.prog 37 = true := by kernel_rfl
theorem notInt_37 : notInt Try.prog 37 = true := by kernel_rfl
theorem zv_37 : ZV Try.prog 37 = some (.nils) := by kernel_rfl
theorem zok_37 : ZOk Try.prog 37 1 = true := by kernel_rfl
theorem by_37 : byOf Try.prog 37 = 24 := by kernel_rfl
theorem cells_38 : Try.prog.cellsOf 38 = 4 := by kernel_rfl
theorem ti_38 : TI Try.prog 38 = some (true, 4) := by kernel_rfl
theorem fi_38_0 : FI Try.prog 38 0 = some (0, (false, 1)) := by kernel_rfl
theorem fi_38_1 : FI Try.prog 38 1 = some (1, (false, 1)) := by kernel_rfl
theorem fi_38_2 : FI Try.prog 38 2 = some (2, (false, 1)) := by kernel_rfl
theorem fi_38_3 : FI Try.prog 38 3 = some (3, (false, 1)) := by kernel_rfl
theorem si_38 : SI Try.prog 38 = some [(0, 1), (1, 1), (2, 1), (3, 1)] := by kernel_rfl
theorem zv_38 : ZV Try.prog 38 = some (.agg [.str [], .nils, .str [], .nils]) := by kernel_rfl
theorem zok_38 : ZOk Try.prog 38 4 = true := by kernel_rfl
theorem by_38 : byOf Try.prog 38 = 80 := by kernel_rfl
theorem cells_39 : Try.prog.cellsOf 39 = 4 := by kernel_rfl
theorem ti_39 : TI Try.prog 39 = some (true, 4) := by kernel_rfl
theorem fi_39_0 : FI Try.prog 39 0 = some (0, (false, 1)) := by kernel_rfl
theorem fi_39_1 : FI Try.prog 39 1 = some (1, (false, 1)) := by kernel_rfl
theorem fi_39_2 : FI Try.prog 39 2 = some (2, (false, 1)) := by kernel_rfl
theorem fi_39_3 : FI Try.prog 39 3 = some (3, (false, 1)) := by kernel_rfl
theorem si_39 : SI Try.prog 39 = some [(0, 1), (1, 1), (2, 1), (3, 1)] := by kernel_rfl
theorem zv_39 : ZV Try.prog 39 = some (.agg [.str [], .nils, .str [], .nils]) := by kernel_rfl
theorem zok_39 : ZOk Try.prog 39 4 = true := by kernel_rfl
theorem by_39 : byOf Try.prog 39 = 80 := by kernel_rfl
theorem cells_40 : Try.prog.cellsOf 40 = 1 := by kernel_rfl
theorem ti_40 : TI Try.prog 40 = some (false, 1) := by kernel_rfl
theorem zv_40 : ZV Try.prog 40 = some (.any) := by kernel_rfl
theorem zok_40 : ZOk Try.prog 40 1 = true := by kernel_rfl
theorem by_40 : byOf Try.prog 40 = 8 := by kernel_rfl
theorem cells_41 : Try.prog.cellsOf 41 = 1 := by kernel_rfl
theorem ti_41 : TI Try.prog 41 = some (false, 1) := by kernel_rfl
theorem zv_41 : ZV Try.prog 41 = some (.any) := by kernel_rfl
theorem zok_41 : ZOk Try.prog 41 1 = true := by kernel_rfl
theorem by_41 : byOf Try.prog 41 = 8 := by kernel_rfl
theorem cells_42 : Try.prog.cellsOf 42 = 1 := by kernel_rfl
theorem ti_42 : TI Try.prog 42 = some (false, 1) := by kernel_rfl
theorem ei_42 : EI Try.prog 42 = some (3, 1) := by kernel_rfl
theorem isSli_42 : isSli Try.prog 42 = true := by kernel_rfl
theorem notInt_42 : notInt Try.prog 42 = true := by kernel_rfl
theorem zv_42 : ZV Try.prog 42 = some (.nils) := by kernel_rfl
theorem zok_42 : ZOk Try.prog 42 1 = true := by kernel_rfl
theorem by_42 : byOf Try.prog 42 = 24 := by kernel_rfl
theorem cells_43 : Try.prog.cellsOf 43 = 6 := by kernel_rfl
theorem ti_43 : TI Try.prog 43 = some (true, 6) := by kernel_rfl
theorem fi_43_0 : FI Try.prog 43 0 = some (0, (false, 1)) := by kernel_rfl
theorem fi_43_1 : FI Try.prog 43 1 = some (1, (false, 1)) := by kernel_rfl
theorem fi_43_2 : FI Try.prog 43 2 = some (2, (true, 4)) := by kernel_rfl
theorem si_43 : SI Try.prog 43 = some [(0, 1), (1, 1), (2, 4)] := by kernel_rfl
theorem zv_43 : ZV Try.prog 43 = some (.agg [.int .i64 0, .nils, .str [], .nils, .str [], .nils]) := by kernel_rfl
theorem zok_43 : ZOk Try.prog 43 6 = true := by kernel_rfl
theorem by_43 : byOf Try.prog 43 = 112 := by kernel_rfl
theorem cells_44 : Try.prog.cellsOf 44 = 6 := by kernel_rfl
theorem ti_44 : TI Try.prog 44 = some (true, 6) := by kernel_rfl
theorem fi_44_0 : FI Try.prog 44 0 = some (0, (false, 1)) := by kernel_rfl
theorem fi_44_1 : FI Try.prog 44 1 = some (1, (false, 1)) := by kernel_rfl
theorem fi_44_2 : FI Try.prog 44 2 = some (2, (true, 4)) := by kernel_rfl
theorem si_44 : SI Try.prog 44 = some [(0, 1), (1, 1), (2, 4)] := by kernel_rfl
theorem zv_44 : ZV Try.prog 44 = some (.agg [.int .i64 0, .nils, .str [], .nils, .str [], .nils]) := by kernel_rfl
theorem zok_44 : ZOk Try.prog 44 6 = true := by kernel_rfl
theorem by_44 : byOf Try.prog 44 = 112 := by kernel_rfl
theorem cells_46 : Try.prog.cellsOf 46 = 1 := by kernel_rfl
theorem ti_46 : TI Try.prog 46 = some (false, 1) := by kernel_rfl
theorem zv_46 : ZV Try.prog 46 = some (.any) := by kernel_rfl
theorem zok_46 : ZOk Try.prog 46 1 = true := by kernel_rfl
theorem by_46 : byOf Try.prog 46 = 8 := by kernel_rfl
theorem cells_47 : Try.prog.cellsOf 47 = 1 := by kernel_rfl
theorem ti_47 : TI Try.prog 47 = some (false, 1) := by kernel_rfl
theorem zv_47 : ZV Try.prog 47 = some (.any) := by kernel_rfl
theorem zok_47 : ZOk Try.prog 47 1 = true := by kernel_rfl
theorem by_47 : byOf Try.prog 47 = 8 := by kernel_rfl
theorem cells_49 : Try.prog.cellsOf 49 = 1 := by kernel_rfl
theorem ti_49 : TI Try.prog 49 = some (false, 1) := by kernel_rfl
theorem zv_49 : ZV Try.prog 49 = some (.any) := by kernel_rfl
theorem zok_49 : ZOk Try.prog 49 1 = true := by kernel_rfl
theorem by_49 : byOf Try.prog 49 = 8 := by kernel_rfl
theorem cells_50 : Try.prog.cellsOf 50 = 1 := by kernel_rfl
theorem ti_50 : TI Try.prog 50 = some (false, 1) := by kernel_rfl
theorem zv_50 : ZV Try.prog 50 = some (.any) := by kernel_rfl
theorem zok_50 : ZOk Try.prog 50 1 = true := by kernel_rfl
theorem by_50 : byOf Try.prog 50 = 8 := by kernel_rfl
theorem cells_52 : Try.prog.cellsOf 52 = 1 := by kernel_rfl
theorem ti_52 : TI Try.prog 52 = some (false, 1) := by kernel_rfl
theorem zv_52 : ZV Try.prog 52 = some (.any) := by kernel_rfl
theorem zok_52 : ZOk Try.prog 52 1 = true := by kernel_rfl
theorem by_52 : byOf Try.prog 52 = 8 := by kernel_rfl
theorem cells_53 : Try.prog.cellsOf 53 = 1 := by kernel_rfl
theorem ti_53 : TI Try.prog 53 = some (false, 1) := by kernel_rfl
theorem zv_53 : ZV Try.prog 53 = some (.any) := by kernel_rfl
theorem zok_53 : ZOk Try.prog 53 1 = true := by kernel_rfl
theorem by_53 : byOf Try.prog 53 = 8 := by kernel_rfl
theorem cells_54 : Try.prog.cellsOf 54 = 2 := by kernel_rfl
theorem ti_54 : TI Try.prog 54 = some (true, 2) := by kernel_rfl
theorem fi_54_0 : FI Try.prog 54 0 = some (0, (false, 1)) := by kernel_rfl
theorem fi_54_1 : FI Try.prog 54 1 = some (1, (false, 1)) := by kernel_rfl
theorem si_54 : SI Try.prog 54 = some [(0, 1), (1, 1)] := by kernel_rfl
theorem zv_54 : ZV Try.prog 54 = some (.agg [.str [], .str []]) := by kernel_rfl
theorem zok_54 : ZOk Try.prog 54 2 = true := by kernel_rfl
theorem by_54 : byOf Try.prog 54 = 32 := by kernel_rfl
theorem cells_55 : Try.prog.cellsOf 55 = 2 := by kernel_rfl
theorem ti_55 : TI Try.prog 55 = some (true, 2) := by kernel_rfl
theorem fi_55_0 : FI Try.prog 55 0 = some (0, (false, 1)) := by kernel_rfl
theorem fi_55_1 : FI Try.prog 55 1 = some (1, (false, 1)) := by kernel_rfl
theorem si_55 : SI Try.prog 55 = some [(0, 1), (1, 1)] := by kernel_rfl
theorem zv_55 : ZV Try.prog 55 = some (.agg [.str [], .str []]) := by kernel_rfl
theorem zok_55 : ZOk Try.prog 55 2 = true := by kernel_rfl
theorem by_55 : byOf Try.prog 55 = 32 := by kernel_rfl
theorem cells_56 : Try.prog.cellsOf 56 = 1 := by kernel_rfl
theorem ti_56 : TI Try.prog 56 = some (false, 1) := by kernel_rfl
theorem zv_56 : ZV Try.prog 56 = some (.any) := by kernel_rfl
theorem zok_56 : ZOk Try.prog 56 1 = true := by kernel_rfl
theorem by_56 : byOf Try.prog 56 = 8 := by kernel_rfl
theorem cells_57 : Try.prog.cellsOf 57 = 1 := by kernel_rfl
theorem ti_57 : TI Try.prog 57 = some (false, 1) := by kernel_rfl
theorem zv_57 : ZV Try.prog 57 = some (.any) := by kernel_rfl
theorem zok_57 : ZOk Try.prog 57 1 = true := by kernel_rfl
theorem by_57 : byOf Try.prog 57 = 8 := by kernel_rfl
theorem cells_58 : Try.prog.cellsOf 58 = 1 := by kernel_rfl
theorem ti_58 : TI Try.prog 58 = some (false, 1) := by kernel_rfl
theorem zv_58 : ZV Try.prog 58 = some (.any) := by kernel_rfl
theorem zok_58 : ZOk Try.prog 58 1 = true := by kernel_rfl
theorem by_58 : byOf Try.prog 58 = 8 := by kernel_rfl
theorem cells_59 : Try.prog.cellsOf 59 = 1 := by kernel_rfl
theorem ti_59 : TI Try.prog 59 = some (false, 1) := by kernel_rfl
theorem zv_59 : ZV Try.prog 59 = some (.any) := by kernel_rfl
theorem zok_59 : ZOk Try.prog 59 1 = true := by kernel_rfl
theorem by_59 : byOf Try.prog 59 = 8 := by kernel_rfl
theorem cells_60 : Try.prog.cellsOf 60 = 1 := by kernel_rfl
theorem ti_60 : TI Try.prog 60 = some (false, 1) := by kernel_rfl
theorem zv_60 : ZV Try.prog 60 = some (.any) := by kernel_rfl
theorem zok_60 : ZOk Try.prog 60 1 = true := by kernel_rfl
theorem by_60 : byOf Try.prog 60 = 8 := by kernel_rfl
theorem cells_61 : Try.prog.cellsOf 61 = 1 := by kernel_rfl
theorem ti_61 : TI Try.prog 61 = some (false, 1) := by kernel_rfl
theorem zv_61 : ZV Try.prog 61 = some (.any) := by kernel_rfl
theorem zok_61 : ZOk Try.prog 61 1 = true := by kernel_rfl
theorem by_61 : byOf Try.prog 61 = 8 := by kernel_rfl
theorem cells_62 : Try.prog.cellsOf 62 = 1 := by kernel_rfl
theorem ti_62 : TI Try.prog 62 = some (false, 1) := by kernel_rfl
theorem zv_62 : ZV Try.prog 62 = some (.any) := by kernel_rfl
theorem zok_62 : ZOk Try.prog 62 1 = true := by kernel_rfl
theorem by_62 : byOf Try.prog 62 = 8 := by kernel_rfl
theorem cells_63 : Try.prog.cellsOf 63 = 1 := by kernel_rfl
theorem ti_63 : TI Try.prog 63 = some (false, 1) := by kernel_rfl
theorem zv_63 : ZV Try.prog 63 = some (.any) := by kernel_rfl
theorem zok_63 : ZOk Try.prog 63 1 = true := by kernel_rfl
theorem by_63 : byOf Try.prog 63 = 8 := by kernel_rfl
theorem cells_69 : Try.prog.cellsOf 69 = 1 := by kernel_rfl
theorem ti_69 : TI Try.prog 69 = some (false, 1) := by kernel_rfl
theorem zv_69 : ZV Try.prog 69 = some (.any) := by kernel_rfl
theorem zok_69 : ZOk Try.prog 69 1 = true := by kernel_rfl
theorem by_69 : byOf Try.prog 69 = 8 := by kernel_rfl
theorem cells_70 : Try.prog.cellsOf 70 = 1 := by kernel_rfl
theorem ti_70 : TI Try.prog 70 = some (false, 1) := by kernel_rfl
theorem intK_70 : intK Try.prog 70 = some .u32 := by kernel_rfl
theorem un_70 : Try.prog.underlying 70 = some (.int .u32) := by kernel_rfl
theorem zv_70 : ZV Try.prog 70 = some (.int .u32 0) := by kernel_rfl
theorem zok_70 : ZOk Try.prog 70 1 = true := by kernel_rfl
theorem by_70 : byOf Try.prog 70 = 4 := by kernel_rfl
theorem cells_74 : Try.prog.cellsOf 74 = 1 := by kernel_rfl
theorem ti_74 : TI Try.prog 74 = some (false, 1) := by kernel_rfl
theorem isPtr_74 : isPtr Try.prog 74 = true := by kernel_rfl
theorem zv_74 : ZV Try.prog 74 = some (.nilp) := by kernel_rfl
theorem zok_74 : ZOk Try.prog 74 1 = true := by kernel_rfl
theorem by_74 : byOf Try.prog 74 = 8 := by kernel_rfl
theorem uns_1 : (Try.prog.underlying 1).isSome = true := by kernel_rfl
theorem tok_1 : TOk Try.prog 1 { ti := some (false, 1), zv := some (.any), zok := some 1, by' := some 8, un := true } := ⟨ti_1, trivial, trivial, trivial, trivial, zv_1, zok_1, by_1, trivial, trivial, trivial, trivial, trivial, trivial, uns_1, trivial⟩
theorem uns_2 : (Try.prog.underlying 2).isSome = true := by kernel_rfl
theorem tok_2 : TOk Try.prog 2 { ti := some (false, 1), zv := some (.int .i64 0), zok := some 1, by' := some 8, ik := some .i64, un := true } := ⟨ti_2, trivial, trivial, trivial, trivial, zv_2, zok_2, by_2, intK_2, trivial, trivial, trivial, trivial, trivial, uns_2, trivial⟩
theorem uns_3 : (Try.prog.underlying 3).isSome = true := by kernel_rfl
theorem tok_3 : TOk Try.prog 3 { ti := some (false, 1), zv := some (.int .i64 0), zok := some 1, by' := some 8, ik := some .i64, un := true } := ⟨ti_3, trivial, trivial, trivial, trivial, zv_3, zok_3, by_3, intK_3, trivial, trivial, trivial, trivial, trivial, uns_3, trivial⟩
theorem uns_4 : (Try.prog.underlying 4).isSome = true := by kernel_rfl
theorem tok_4 : TOk Try.prog 4 { ti := some (false, 1), zv := some (.bool false), zok := some 1, by' := some 1, boo := true, un := true } := ⟨ti_4, trivial, trivial, trivial, trivial, zv_4, zok_4, by_4, trivial, trivial, trivial, isBoo_4, trivial, trivial, uns_4, trivial⟩
theorem uns_5 : (Try.prog.underlying 5).isSome = true := by kernel_rfl
theorem tok_5 : TOk Try.prog 5 { ti := some (false, 1), zv := some (.int .u8 0), zok := some 1, by' := some 1, ik := some .u8, un := true } := ⟨ti_5, trivial, trivial, trivial, trivial, zv_5, zok_5, by_5, intK_5, trivial, trivial, trivial, trivial, trivial, uns_5, trivial⟩
theorem uns_9 : (Try.prog.underlying 9).isSome = true := by kernel_rfl
theorem tok_9 : TOk Try.prog 9 { ti := some (false, 1), zv := some (.str []), zok := some 1, by' := some 16, str := true, ni := true, un := true } := ⟨ti_9, trivial, trivial, trivial, trivial, zv_9, zok_9, by_9, trivial, isStr_9, trivial, trivial, trivial, notInt_9, uns_9, trivial⟩
theorem uns_12 : (Try.prog.underlying 12).isSome = true := by kernel_rfl
theorem tok_12 : TOk Try.prog 12 { ti := some (false, 1), zv := some (.int .u64 0), zok := some 1, by' := some 8, ik := some .u64, un := true } := ⟨ti_12, trivial, trivial, trivial, trivial, zv_12, zok_12, by_12, intK_12, trivial, trivial, trivial, trivial, trivial, uns_12, trivial⟩
theorem uns_13 : (Try.prog.underlying 13).isSome = true := by kernel_rfl
theorem tok_13 : TOk Try.prog 13 { ti := some (true, 2), fi := [some (0, (false, 1)), some (1, (false, 1))], si := some [(0, 1), (1, 1)], zv := some (.agg [.str [], .int .u64 0]), zok := some 2, by' := some 24, un := true } := ⟨ti_13, trivial, trivial, ⟨fi_13_0, fi_13_1, trivial⟩, si_13, zv_13, zok_13, by_13, trivial, trivial, trivial, trivial, trivial, trivial, uns_13, trivial⟩
theorem uns_21 : (Try.prog.underlying 21).isSome = true := by kernel_rfl
theorem tok_21 : TOk Try.prog 21 { ti := some (false, 1), zv := some (.int .i32 0), zok := some 1, by' := some 4, ik := some .i32, un := true } := ⟨ti_21, trivial, trivial, trivial, trivial, zv_21, zok_21, by_21, intK_21, trivial, trivial, trivial, trivial, trivial, uns_21, trivial⟩
theorem uns_22 : (Try.prog.underlying 22).isSome = true := by kernel_rfl
theorem tok_22 : TOk Try.prog 22 { ti := some (false, 1), ei := some (39, 4), zv := some (.nils), zok := some 1, by' := some 24, sli := true, ni := true, un := true } := ⟨ti_22, ei_22, trivial, trivial, trivial, zv_22, zok_22, by_22, trivial, trivial, isSli_22, trivial, trivial, notInt_22, uns_22, trivial⟩
theorem uns_23 : (Try.prog.underlying 23).isSome = true := by kernel_rfl
theorem tok_23 : TOk Try.prog 23 { ti := some (false, 1), ei := some (44, 6), zv := some (.nils), zok := some 1, by' := some 24, sli := true, ni := true, un := true } := ⟨ti_23, ei_23, trivial, trivial, trivial, zv_23, zok_23, by_23, trivial, trivial, isSli_23, trivial, trivial, notInt_23, uns_23, trivial⟩
theorem uns_24 : (Try.prog.underlying 24).isSome = true := by kernel_rfl
theorem tok_24 : TOk Try.prog 24 { ti := some (false, 1), zv := some (.int .i64 0), zok := some 1, by' := some 8, ik := some .i64, un := true } := ⟨ti_24, trivial, trivial, trivial, trivial, zv_24, zok_24, by_24, intK_24, trivial, trivial, trivial, trivial, trivial, uns_24, trivial⟩
theorem uns_26 : (Try.prog.underlying 26).isSome = true := by kernel_rfl
theorem tok_26 : TOk Try.prog 26 { ti := some (false, 1), zv := some (.any), zok := some 1, by' := some 8, un := true } := ⟨ti_26, trivial, trivial, trivial, trivial, zv_26, zok_26, by_26, trivial, trivial, trivial, trivial, trivial, trivial, uns_26, trivial⟩
theorem uns_27 : (Try.prog.underlying 27).isSome = true := by kernel_rfl
theorem tok_27 : TOk Try.prog 27 { ti := some (false, 1), zv := some (.any), zok := some 1, by' := some 8, un := true } := ⟨ti_27, trivial, trivial, trivial, trivial, zv_27, zok_27, by_27, trivial, trivial, trivial, trivial, trivial, trivial, uns_27, trivial⟩
theorem uns_28 : (Try.prog.underlying 28).isSome = true := by kernel_rfl
theorem tok_28 : TOk Try.prog 28 { ti := some (false, 1), zv := some (.any), zok := some 1, by' := some 8, un := true } := ⟨ti_28, trivial, trivial, trivial, trivial, zv_28, zok_28, by_28, trivial, trivial, trivial, trivial, trivial, trivial, uns_28, trivial⟩
theorem uns_30 : (Try.prog.underlying 30).isSome = true := by kernel_rfl
theorem tok_30 : TOk Try.prog 30 { ti := some (false, 1), zv := some (.any), zok := some 1, by' := some 8, un := true } := ⟨ti_30, trivial, trivial, trivial, trivial, zv_30, zok_30, by_30, trivial, trivial, trivial, trivial, trivial, trivial, uns_30, trivial⟩
theorem uns_31 : (Try.prog.underlying 31).isSome = true := by kernel_rfl
theorem tok_31 : TOk Try.prog 31 { ti := some (false, 1), zv := some (.any), zok := some 1, by' := some 8, un := true } := ⟨ti_31, trivial, trivial, trivial, trivial, zv_31, zok_31, by_31, trivial, trivial, trivial, trivial, trivial, trivial, uns_31, trivial⟩
theorem uns_33 : (Try.prog.underlying 33).isSome = true := by kernel_rfl
theorem tok_33 : TOk Try.prog 33 { ti := some (false, 1), zv := some (.any), zok := some 1, by' := some 8, un := true } := ⟨ti_33, trivial, trivial, trivial, trivial, zv_33, zok_33, by_33, trivial, trivial, trivial, trivial, trivial, trivial, uns_33, trivial⟩
theorem uns_34 : (Try.prog.underlying 34).isSome = true := by kernel_rfl
theorem tok_34 : TOk Try.prog 34 { ti := some (false, 1), ei := some (22, 1), zv := some (.nils), zok := some 1, by' := some 24, sli := true, ni := true, un := true } := ⟨ti_34, ei_34, trivial, trivial, trivial, zv_34, zok_34, by_34, trivial, trivial, isSli_34, trivial, trivial, notInt_34, uns_34, trivial⟩
theorem uns_36 : (Try.prog.underlying 36).isSome = true := by kernel_rfl
theorem tok_36 : TOk Try.prog 36 { ti := some (false, 1), zv := some (.any), zok := some 1, by' := some 8, un := true } := ⟨ti_36, trivial, trivial, trivial, trivial, zv_36, zok_36, by_36, trivial, trivial, trivial, trivial, trivial, trivial, uns_36, trivial⟩
theorem uns_37 : (Try.prog.underlying 37).isSome = true := by kernel_rfl
theorem tok_37 : TOk Try.prog 37 { ti := some (false, 1), ei := some (55, 2), zv := some (.nils), zok := some 1, by' := some 24, sli := true, ni := true, un := true } := ⟨ti_37, ei_37, trivial, trivial, trivial, zv_37, zok_37, by_37, trivial, trivial, isSli_37, trivial, trivial, notInt_37, uns_37, trivial⟩
theorem uns_38 : (Try.prog.underlying 38).isSome = true := by kernel_rfl
theorem tok_38 : TOk Try.prog 38 { ti := some (true, 4), fi := [some (0, (false, 1)), some (1, (false, 1)), some (2, (false, 1)), some (3, (false, 1))], si := some [(0, 1), (1, 1), (2, 1), (3, 1)], zv := some (.agg [.str [], .nils, .str [], .nils]), zok := some 4, by' := some 80, un := true } := ⟨ti_38, trivial, trivial, ⟨fi_38_0, fi_38_1, fi_38_2, fi_38_3, trivial⟩, si_38, zv_38, zok_38, by_38, trivial, trivial, trivial, trivial, trivial, trivial, uns_38, trivial⟩
theorem uns_39 : (Try.prog.underlying 39).isSome = true := by kernel_rfl
theorem tok_39 : TOk Try.prog 39 { ti := some (true, 4), fi := [some (0, (false, 1)), some (1, (false, 1)), some (2, (false, 1)), some (3, (false, 1))], si := some [(0, 1), (1, 1), (2, 1), (3, 1)], zv := some (.agg [.str [], .nils, .str [], .nils]), zok := some 4, by' := some 80, un := true } := ⟨ti_39, trivial, trivial, ⟨fi_39_0, fi_39_1, fi_39_2, fi_39_3, trivial⟩, si_39, zv_39, zok_39, by_39, trivial, trivial, trivial, trivial, trivial, trivial, uns_39, trivial⟩
theorem uns_40 : (Try.prog.underlying 40).isSome = true := by kernel_rfl
theorem tok_40 : TOk Try.prog 40 { ti := some (false, 1), zv := some (.any), zok := some 1, by' := some 8, un := true } := ⟨ti_40, trivial, trivial, trivial, trivial, zv_40, zok_40, by_40, trivial, trivial, trivial, trivial, trivial, trivial, uns_40, trivial⟩
theorem uns_41 : (Try.prog.underlying 41).isSome = true := by kernel_rfl
theorem tok_41 : TOk Try.prog 41 { ti := some (false, 1), zv := some (.any), zok := some 1, by' := some 8, un := true } := ⟨ti_41, trivial, trivial, trivial, trivial, zv_41, zok_41, by_41, trivial, trivial, trivial, trivial, trivial, trivial, uns_41, trivial⟩
theorem uns_42 : (Try.prog.underlying 42).isSome = true := by kernel_rfl
theorem tok_42 : TOk Try.prog 42 { ti := some (false, 1), ei := some (3, 1), zv := some (.nils), zok := some 1, by' := some 24, sli := true, ni := true, un := true } := ⟨ti_42, ei_42, trivial, trivial, trivial, zv_42, zok_42, by_42, trivial, trivial, isSli_42, trivial, trivial, notInt_42, uns_42, trivial⟩
theorem uns_43 : (Try.prog.underlying 43).isSome = true := by kernel_rfl
theorem tok_43 : TOk Try.prog 43 { ti := some (true, 6), fi := [some (0, (false, 1)), some (1, (false, 1)), some (2, (true, 4))], si := some [(0, 1), (1, 1), (2, 4)], zv := some (.agg [.int .i64 0, .nils, .str [], .nils, .str [], .nils]), zok := some 6, by' := some 112, un := true } := ⟨ti_43, trivial, trivial, ⟨fi_43_0, fi_43_1, fi_43_2, trivial⟩, si_43, zv_43, zok_43, by_43, trivial, trivial, trivial, trivial, trivial, trivial, uns_43, trivial⟩
theorem uns_44 : (Try.prog.underlying 44).isSome = true := by kernel_rfl
theorem tok_44 : TOk Try.prog 44 { ti := some (true, 6), fi := [some (0, (false, 1)), some (1, (false, 1)), some (2, (true, 4))], si := some [(0, 1), (1, 1), (2, 4)], zv := some (.agg [.int .i64 0, .nils, .str [], .nils, .str [], .nils]), zok := some 6, by' := some 112, un := true } := ⟨ti_44, trivial, trivial, ⟨fi_44_0, fi_44_1, fi_44_2, trivial⟩, si_44, zv_44, zok_44, by_44, trivial, trivial, trivial, trivial, trivial, trivial, uns_44, trivial⟩
theorem uns_46 : (Try.prog.underlying 46).isSome = true := by kernel_rfl
theorem tok_46 : TOk Try.prog 46 { ti := some (false, 1), zv := some (.any), zok := some 1, by' := some 8, un := true } := ⟨ti_46, trivial, trivial, trivial, trivial, zv_46, zok_46, by_46, trivial, trivial, trivial, trivial, trivial, trivial, uns_46, trivial⟩
theorem uns_47 : (Try.prog.underlying 47).isSome = true := by kernel_rfl
theorem tok_47 : TOk Try.prog 47 { ti := some (false, 1), zv := some (.any), zok := some 1, by' := some 8, un := true } := ⟨ti_47, trivial, trivial, trivial, trivial, zv_47, zok_47, by_47, trivial, trivial, trivial, trivial, trivial, trivial, uns_47, trivial⟩
theorem uns_49 : (Try.prog.underlying 49).isSome = true := by kernel_rfl
theorem tok_49 : TOk Try.prog 49 { ti := some (false, 1), zv := some (.any), zok := some 1, by' := some 8, un := true } := ⟨ti_49, trivial, trivial, trivial, trivial, zv_49, zok_49, by_49, trivial, trivial, trivial, trivial, trivial, trivial, uns_49, trivial⟩
theorem uns_50 : (Try.prog.underlying 50).isSome = true := by kernel_rfl
theorem tok_50 : TOk Try.prog 50 { ti := some (false, 1), zv := some (.any), zok := some 1, by' := some 8, un := true } := ⟨ti_50, trivial, trivial, trivial, trivial, zv_50, zok_50, by_50, trivial, trivial, trivial, trivial, trivial, trivial, uns_50, trivial⟩
theorem uns_52 : (Try.prog.underlying 52).isSome = true := by kernel_rfl
theorem tok_52 : TOk Try.prog 52 { ti := some (false, 1), zv := some (.any), zok := some 1, by' := some 8, un := true } := ⟨ti_52, trivial, trivial, trivial, trivial, zv_52, zok_52, by_52, trivial, trivial, trivial, trivial, trivial, trivial, uns_52, trivial⟩
theorem uns_53 : (Try.prog.underlying 53).isSome = true := by kernel_rfl
theorem tok_53 : TOk Try.prog 53 { ti := some (false, 1), zv := some (.any), zok := some 1, by' := some 8, un := true } := ⟨ti_53, trivial, trivial, trivial, trivial, zv_53, zok_53, by_53, trivial, trivial, trivial, trivial, trivial, trivial, uns_53, trivial⟩
theorem uns_54 : (Try.prog.underlying 54).isSome = true := by kernel_rfl
theorem tok_54 : TOk Try.prog 54 { ti := some (true, 2), fi := [some (0, (false, 1)), some (1, (false, 1))], si := some [(0, 1), (1, 1)], zv := some (.agg [.str [], .str []]), zok := some 2, by' := some 32, un := true } := ⟨ti_54, trivial, trivial, ⟨fi_54_0, fi_54_1, trivial⟩, si_54, zv_54, zok_54, by_54, trivial, trivial, trivial, trivial, trivial, trivial, uns_54, trivial⟩
theorem sq_55 : SQ Try.prog 55 = some [.s, .s] := by kernel_rfl
theorem uns_55 : (Try.prog.underlying 55).isSome = true := by kernel_rfl
theorem tok_55 : TOk Try.prog 55 { ti := some (true, 2), fi := [some (0, (false, 1)), some (1, (false, 1))], si := some [(0, 1), (1, 1)], zv := some (.agg [.str [], .str []]), zok := some 2, by' := some 32, un := true, sq := some [.s, .s] } := ⟨ti_55, trivial, trivial, ⟨fi_55_0, fi_55_1, trivial⟩, si_55, zv_55, zok_55, by_55, trivial, trivial, trivial, trivial, trivial, trivial, uns_55, sq_55⟩
theorem uns_56 : (Try.prog.underlying 56).isSome = true := by kernel_rfl
theorem tok_56 : TOk Try.prog 56 { ti := some (false, 1), zv := some (.any), zok := some 1, by' := some 8, un := true } := ⟨ti_56, trivial, trivial, trivial, trivial, zv_56, zok_56, by_56, trivial, trivial, trivial, trivial, trivial, trivial, uns_56, trivial⟩
theorem uns_57 : (Try.prog.underlying 57).isSome = true := by kernel_rfl
theorem tok_57 : TOk Try.prog 57 { ti := some (false, 1), zv := some (.any), zok := some 1, by' := some 8, un := true } := ⟨ti_57, trivial, trivial, trivial, trivial, zv_57, zok_57, by_57, trivial, trivial, trivial, trivial, trivial, trivial, uns_57, trivial⟩
theorem uns_58 : (Try.prog.underlying 58).isSome = true := by kernel_rfl
theorem tok_58 : TOk Try.prog 58 { ti := some (false, 1), zv := some (.any), zok := some 1, by' := some 8, un := true } := ⟨ti_58, trivial, trivial, trivial, trivial, zv_58, zok_58, by_58, trivial, trivial, trivial, trivial, trivial, trivial, uns_58, trivial⟩
theorem uns_59 : (Try.prog.underlying 59).isSome = true := by kernel_rfl
theorem tok_59 : TOk Try.prog 59 { ti := some (false, 1), zv := some (.any), zok := some 1, by' := some 8, un := true } := ⟨ti_59, trivial, trivial, trivial, trivial, zv_59, zok_59, by_59, trivial, trivial, trivial, trivial, trivial, trivial, uns_59, trivial⟩
theorem uns_60 : (Try.prog.underlying 60).isSome = true := by kernel_rfl
theorem tok_60 : TOk Try.prog 60 { ti := some (false, 1), zv := some (.any), zok := some 1, by' := some 8, un := true } := ⟨ti_60, trivial, trivial, trivial, trivial, zv_60, zok_60, by_60, trivial, trivial, trivial, trivial, trivial, trivial, uns_60, trivial⟩
theorem uns_61 : (Try.prog.underlying 61).isSome = true := by kernel_rfl
theorem tok_61 : TOk Try.prog 61 { ti := some (false, 1), zv := some (.any), zok := some 1, by' := some 8, un := true } := ⟨ti_61, trivial, trivial, trivial, trivial, zv_61, zok_61, by_61, trivial, trivial, trivial, trivial, trivial, trivial, uns_61, trivial⟩
theorem uns_62 : (Try.prog.underlying 62).isSome = true := by kernel_rfl
theorem tok_62 : TOk Try.prog 62 { ti := some (false, 1), zv := some (.any), zok := some 1, by' := some 8, un := true } := ⟨ti_62, trivial, trivial, trivial, trivial, zv_62, zok_62, by_62, trivial, trivial, trivial, trivial, trivial, trivial, uns_62, trivial⟩
theorem uns_63 : (Try.prog.underlying 63).isSome = true := by kernel_rfl
theorem tok_63 : TOk Try.prog 63 { ti := some (false, 1), zv := some (.any), zok := some 1, by' := some 8, un := true } := ⟨ti_63, trivial, trivial, trivial, trivial, zv_63, zok_63, by_63, trivial, trivial, trivial, trivial, trivial, trivial, uns_63, trivial⟩
theorem uns_69 : (Try.prog.underlying 69).isSome = true := by kernel_rfl
theorem tok_69 : TOk Try.prog 69 { ti := some (false, 1), zv := some (.any), zok := some 1, by' := some 8, un := true } := ⟨ti_69, trivial, trivial, trivial, trivial, zv_69, zok_69, by_69, trivial, trivial, trivial, trivial, trivial, trivial, uns_69, trivial⟩
theorem uns_70 : (Try.prog.underlying 70).isSome = true := by kernel_rfl
theorem tok_70 : TOk Try.prog 70 { ti := some (false, 1), zv := some (.int .u32 0), zok := some 1, by' := some 4, ik := some .u32, un := true } := ⟨ti_70, trivial, trivial, trivial, trivial, zv_70, zok_70, by_70, intK_70, trivial, trivial, trivial, trivial, trivial, uns_70, trivial⟩
theorem uns_74 : (Try.prog.underlying 74).isSome = true := by kernel_rfl
theorem tok_74 : TOk Try.prog 74 { ti := some (false, 1), zv := some (.nilp), zok := some 1, by' := some 8, ptr := true, un := true } := ⟨ti_74, trivial, trivial, trivial, trivial, zv_74, zok_74, by_74, trivial, trivial, trivial, trivial, isPtr_74, trivial, uns_74, trivial⟩
def Try.tt : TT := (.node (.node (.node (.node (.node (.node .leaf 1 { ti := some (false, 1), zv := some (.any), zok := some 1, by' := some 8, un := true } .leaf) 2 { ti := some (false, 1), zv := some (.int .i64 0), zok := some 1, by' := some 8, ik := some .i64, un := true } .leaf) 3 { ti := some (false, 1), zv := some (.int .i64 0), zok := some 1, by' := some 8, ik := some .i64, un := true } (.node (.node .leaf 4 { ti := some (false, 1), zv := some (.bool false), zok := some 1, by' := some 1, boo := true, un := true } .leaf) 5 { ti := some (false, 1), zv := some (.int .u8 0), zok := some 1, by' := some 1, ik := some .u8, un := true } .leaf)) 9 { ti := some (false, 1), zv := some (.str []), zok := some 1, by' := some 16, str := true, ni := true, un := true } (.node (.node (.node .leaf 12 { ti := some (false, 1), zv := some (.int .u64 0), zok := some 1, by' := some 8, ik := some .u64, un := true } .leaf) 13 { ti := some (true, 2), fi := [some (0, (false, 1)), some (1, (false, 1))], si := some [(0, 1), (1, 1)], zv := some (.agg [.str [], .int .u64 0]), zok := some 2, by' := some 24, un := true } .leaf) 21 { ti := some (false, 1), zv := some (.int .i32 0), zok := some 1, by' := some 4, ik := some .i32, un := true } (.node (.node .leaf 22 { ti := some (false, 1), ei := some (39, 4), zv := some (.nils), zok := some 1, by' := some 24, sli := true, ni := true, un := true } .leaf) 23 { ti := some (false, 1), ei := some (44, 6), zv := some (.nils), zok := some 1, by' := some 24, sli := true, ni := true, un := true } .leaf))) 24 { ti := some (false, 1), zv := some (.int .i64 0), zok := some 1, by' := some 8, ik := some .i64, un := true } (.node (.node (.node (.node .leaf 26 { ti := some (false, 1), zv := some (.any), zok := some 1, by' := some 8, un := true } .leaf) 27 { ti := some (false, 1), zv := some (.any), zok := some 1, by' := some 8, un := true } .leaf) 28 { ti := some (false, 1), zv := some (.any), zok := some 1, by' := some 8, un := true } (.node (.node .leaf 30 { ti := some (false, 1), zv := some (.any), zok := some 1, by' := some 8, un := true } .leaf) 31 { ti := some (false, 1), zv := some (.any), zok := some 1, by' := some 8, un := true } .leaf)) 33 { ti := some (false, 1), zv := some (.any), zok := some 1, by' := some 8, un := true } (.node (.node (.node .leaf 34 { ti := some (false, 1), ei := some (22, 1), zv := some (.nils), zok := some 1, by' := some 24, sli := true, ni := true, un := true } .leaf) 36 { ti := some (false, 1), zv := some (.any), zok := some 1, by' := some 8, un := true } .leaf) 37 { ti := some (false, 1), ei := some (55, 2), zv := some (.nils), zok := some 1, by' := some 24, sli := true, ni := true, un := true } (.node (.node .leaf 38 { ti := some (true, 4), fi := [some (0, (false, 1)), some (1, (false, 1)), some (2, (false, 1)), some (3, (false, 1))], si := some [(0, 1), (1, 1), (2, 1), (3, 1)], zv := some (.agg [.str [], .nils, .str [], .nils]), zok := some 4, by' := some 80, un := true } .leaf) 39 { ti := some (true, 4), fi := [some (0, (false, 1)), some (1, (false, 1)), some (2, (false, 1)), some (3, (false, 1))], si := some [(0, 1), (1, 1), (2, 1), (3, 1)], zv := some (.agg [.str [], .nils, .str [], .nils]), zok := some 4, by' := some 80, un := true } .leaf)))) 40 { ti := some (false, 1), zv := some (.any), zok := some 1, by' := some 8, un := true } (.node (.node (.node (.node (.node .leaf 41 { ti := some (false, 1), zv := some (.any), zok := some 1, by' := some 8, un := true } .leaf) 42 { ti := some (false, 1), ei := some (3, 1), zv := some (.nils), zok := some 1, by' := some 24, sli := true, ni := true, un := true } .leaf) 43 { ti := some (true, 6), fi := [some (0, (false, 1)), some (1, (false, 1)), some (2, (true, 4))], si := some [(0, 1), (1, 1), (2, 4)], zv := some (.agg [.int .i64 0, .nils, .str [], .nils, .str [], .nils]), zok := some 6, by' := some 112, un := true } (.node (.node .leaf 44 { ti := some (true, 6), fi := [some (0, (false, 1)), some (1, (false, 1)), some (2, (true, 4))], si := some [(0, 1), (1, 1), (2, 4)], zv := some (.agg [.int .i64 0, .nils, .str [], .nils, .str [], .nils]), zok := some 6, by' := some 112, un := true } .leaf) 46 { ti := some (false, 1), zv := some (.any), zok := some 1, by' := some 8, un := true } .leaf)) 47 { ti := some (false, 1), zv := some (.any), zok := some 1, by' := some 8, un := true } (.node (.node (.node .leaf 49 { ti := some (false, 1), zv := some (.any), zok := some 1, by' := some 8, un := true } .leaf) 50 { ti := some (false, 1), zv := some (.any), zok := some 1, by' := some 8, un := true } .leaf) 52 { ti := some (false, 1), zv := some (.any), zok := some 1, by' := some 8, un := true } (.node (.node .leaf 53 { ti := some (false, 1), zv := some (.any), zok := some 1, by' := some 8, un := true } .leaf) 54 { ti := some (true, 2), fi := [some (0, (false, 1)), some (1, (false, 1))], si := some [(0, 1), (1, 1)], zv := some (.agg [.str [], .str []]), zok := some 2, by' := some 32, un := true } .leaf))) 55 { ti := some (true, 2), fi := [some (0, (false, 1)), some (1, (false, 1))], si := some [(0, 1), (1, 1)], zv := some (.agg [.str [], .str []]), zok := some 2, by' := some 32, un := true, sq := some [.s, .s] } (.node (.node (.node (.node .leaf 56 { ti := some (false, 1), zv := some (.any), zok := some 1, by' := some 8, un := true } .leaf) 57 { ti := some (false, 1), zv := some (.any), zok := some 1, by' := some 8, un := true } .leaf) 58 { ti := some (false, 1), zv := some (.any), zok := some 1, by' := some 8, un := true } (.node (.node .leaf 59 { ti := some (false, 1), zv := some (.any), zok := some 1, by' := some 8, un := true } .leaf) 60 { ti := some (false, 1), zv := some (.any), zok := some 1, by' := some 8, un := true } .leaf)) 61 { ti := some (false, 1), zv := some (.any), zok := some 1, by' := some 8, un := true } (.node (.node (.node .leaf 62 { ti := some (false, 1), zv := some (.any), zok := some 1, by' := some 8, un := true } .leaf) 63 { ti := some (false, 1), zv := some (.any), zok := some 1, by' := some 8, un := true } .leaf) 69 { ti := some (false, 1), zv := some (.any), zok := some 1, by' := some 8, un := true } (.node (.node .leaf 70 { ti := some (false, 1), zv := some (.int .u32 0), zok := some 1, by' := some 4, ik := some .u32, un := true } .leaf) 74 { ti := some (false, 1), zv := some (.nilp), zok := some 1, by' := some 8, ptr := true, un := true } .leaf)))))
theorem tt_all : TT.All Try.prog Try.tt := ⟨⟨⟨⟨⟨⟨trivial, tok_1, trivial⟩, tok_2, trivial⟩, tok_3, ⟨⟨trivial, tok_4, trivial⟩, tok_5, trivial⟩⟩, tok_9, ⟨⟨⟨trivial, tok_12, trivial⟩, tok_13, trivial⟩, tok_21, ⟨⟨trivial, tok_22, trivial⟩, tok_23, trivial⟩⟩⟩, tok_24, ⟨⟨⟨⟨trivial, tok_26, trivial⟩, tok_27, trivial⟩, tok_28, ⟨⟨trivial, tok_30, trivial⟩, tok_31, trivial⟩⟩, tok_33, ⟨⟨⟨trivial, tok_34, trivial⟩, tok_36, trivial⟩, tok_37, ⟨⟨trivial, tok_38, trivial⟩, tok_39, trivial⟩⟩⟩⟩, tok_40, ⟨⟨⟨⟨⟨trivial, tok_41, trivial⟩, tok_42, trivial⟩, tok_43, ⟨⟨trivial, tok_44, trivial⟩, tok_46, trivial⟩⟩, tok_47, ⟨⟨⟨trivial, tok_49, trivial⟩, tok_50, trivial⟩, tok_52, ⟨⟨trivial, tok_53, trivial⟩, tok_54, trivial⟩⟩⟩, tok_55, ⟨⟨⟨⟨trivial, tok_56, trivial⟩, tok_57, trivial⟩, tok_58, ⟨⟨trivial, tok_59, trivial⟩, tok_60, trivial⟩⟩, tok_61, ⟨⟨⟨trivial, tok_62, trivial⟩, tok_63, trivial⟩, tok_69, ⟨⟨trivial, tok_70, trivial⟩, tok_74, trivial⟩⟩⟩⟩⟩
theorem hasBody_3 : hasBody Try.prog 3 = true := by kernel_rfl
theorem hasBody_4 : hasBody Try.prog 4 = true := by kernel_rfl
theorem hasBody_5 : hasBody Try.prog 5 = true := by kernel_rfl
theorem hasBody_6 : hasBody Try.prog 6 = true := by kernel_rfl
theorem hasBody_7 : hasBody Try.prog 7 = true := by kernel_rfl
theorem hasBody_8 : hasBody Try.prog 8 = true := by kernel_rfl
theorem hasBody_9 : hasBody Try.prog 9 = true := by kernel_rfl
theorem hasBody_10 : hasBody Try.prog 10 = true := by kernel_rfl
theorem hasBody_11 : hasBody Try.prog 11 = true := by kernel_rfl
theorem hasBody_12 : hasBody Try.prog 12 = true := by kernel_rfl
theorem hasBody_13 : hasBody Try.prog 13 = true := by kernel_rfl
theorem hasBody_14 : hasBody Try.prog 14 = true := by kernel_rfl
theorem hasBody_15 : hasBody Try.prog 15 = true := by kernel_rfl
theorem hasBody_16 : hasBody Try.prog 16 = true := by kernel_rfl
theorem hasBody_17 : hasBody Try.prog 17 = true := by kernel_rfl
theorem hasBody_18 : hasBody Try.prog 18 = true := by kernel_rfl
theorem hasBody_19 : hasBody Try.prog 19 = true := by kernel_rfl
theorem hasBody_20 : hasBody Try.prog 20 = true := by kernel_rfl
theorem hasBody_21 : hasBody Try.prog 21 = true := by kernel_rfl
theorem hasBody_22 : hasBody Try.prog 22 = true := by kernel_rfl
theorem hasBody_23 : hasBody Try.prog 23 = true := by kernel_rfl
theorem hasBody_24 : hasBody Try.prog 24 = true := by kernel_rfl
theorem hasBody_25 : hasBody Try.prog 25 = true := by kernel_rfl
theorem hasBody_26 : hasBody Try.prog 26 = true := by kernel_rfl
theorem hasBody_28 : hasBody Try.prog 28 = true := by kernel_rfl
theorem hasBody_29 : hasBody Try.prog 29 = true := by kernel_rfl
theorem hasBody_30 : hasBody Try.prog 30 = true := by kernel_rfl
theorem hasBody_31 : hasBody Try.prog 31 = true := by kernel_rfl
theorem follows_all : Try.prog.follows .mixedOrders = true := by kernel_rfl
end Go.Proofs.Ytjlkahkehnakfaa
