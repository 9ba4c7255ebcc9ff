/- Facts of this seat's types and functions, each by the kernel's reckoning; written by program. No conditions. -/
import Derived.Test.YtmjglpdfkkmcoaaAwx
import Derived.Test.YtmjglpdfkkmcoaaRows
set_option linter.unusedSimpArgs false
set_option linter.unusedVariables false
namespace Go.Proofs.Ytmjglpdfkkmcoaa

theorem cells_1 : Try.prog.cellsOf 1 = 1 := by kernel_rfl
theorem ti_1 : TI Try.prog 1 = some (false, 1) := by kernel_rfl
theorem zv_1 : ZV Try.prog 1 = some (.any) := by kernel_rfl
theorem zok_1 : ZOk Try.prog 1 1 = true := by kernel_rfl
theorem by_1 : byOf Try.prog 1 = 8 := by kernel_rfl
theorem cells_2 : Try.prog.cellsOf 2 = 1 := by kernel_rfl
theorem ti_2 : TI Try.prog 2 = some (false, 1) := by kernel_rfl
theorem intK_2 : intK Try.prog 2 = some .i64 := by kernel_rfl
theorem un_2 : Try.prog.underlying 2 = some (.int .i64) := by kernel_rfl
theorem zv_2 : ZV Try.prog 2 = some (.int .i64 0) := by kernel_rfl
theorem zok_2 : ZOk Try.prog 2 1 = true := by kernel_rfl
theorem by_2 : byOf Try.prog 2 = 8 := by kernel_rfl
theorem cells_3 : Try.prog.cellsOf 3 = 1 := by kernel_rfl
theorem ti_3 : TI Try.prog 3 = some (false, 1) := by kernel_rfl
theorem intK_3 : intK Try.prog 3 = some .i64 := by kernel_rfl
theorem un_3 : Try.prog.underlying 3 = some (.int .i64) := by kernel_rfl
theorem zv_3 : ZV Try.prog 3 = some (.int .i64 0) := by kernel_rfl
theorem zok_3 : ZOk Try.prog 3 1 = true := by kernel_rfl
theorem by_3 : byOf Try.prog 3 = 8 := by kernel_rfl
theorem cells_4 : Try.prog.cellsOf 4 = 1 := by kernel_rfl
theorem ti_4 : TI Try.prog 4 = some (false, 1) := by kernel_rfl
theorem isBoo_4 : isBoo Try.prog 4 = true := by kernel_rfl
theorem zv_4 : ZV Try.prog 4 = some (.bool false) := by kernel_rfl
theorem zok_4 : ZOk Try.prog 4 1 = true := by kernel_rfl
theorem by_4 : byOf Try.prog 4 = 1 := by kernel_rfl
theorem cells_5 : Try.prog.cellsOf 5 = 1 := by kernel_rfl
theorem ti_5 : TI Try.prog 5 = some (false, 1) := by kernel_rfl
theorem intK_5 : intK Try.prog 5 = some .u8 := by kernel_rfl
theorem un_5 : Try.prog.underlying 5 = some (.int .u8) := by kernel_rfl
theorem zv_5 : ZV Try.prog 5 = some (.int .u8 0) := by kernel_rfl
theorem zok_5 : ZOk Try.prog 5 1 = true := by kernel_rfl
theorem by_5 : byOf Try.prog 5 = 1 := by kernel_rfl
theorem cells_9 : Try.prog.cellsOf 9 = 1 := by kernel_rfl
theorem ti_9 : TI Try.prog 9 = some (false, 1) := by kernel_rfl
theorem isStr_9 : isStr Try.prog 9 = true := by kernel_rfl
theorem notInt_9 : notInt Try.prog 9 = true := by kernel_rfl
theorem zv_9 : ZV Try.prog 9 = some (.str []) := by kernel_rfl
theorem zok_9 : ZOk Try.prog 9 1 = true := by kernel_rfl
theorem by_9 : byOf Try.prog 9 = 16 := by kernel_rfl
theorem cells_12 : Try.prog.cellsOf 12 = 1 := by kernel_rfl
theorem ti_12 : TI Try.prog 12 = some (false, 1) := by kernel_rfl
theorem intK_12 : intK Try.prog 12 = some .u64 := by kernel_rfl
theorem un_12 : Try.prog.underlying 12 = some (.int .u64) := by kernel_rfl
theorem zv_12 : ZV Try.prog 12 = some (.int .u64 0) := by kernel_rfl
theorem zok_12 : ZOk Try.prog 12 1 = true := by kernel_rfl
theorem by_12 : byOf Try.prog 12 = 8 := by kernel_rfl
theorem cells_13 : Try.prog.cellsOf 13 = 2 := by kernel_rfl
theorem ti_13 : TI Try.prog 13 = some (true, 2) := by kernel_rfl
theorem fi_13_0 : FI Try.prog 13 0 = some (0, (false, 1)) := by kernel_rfl
theorem fi_13_1 : FI Try.prog 13 1 = some (1, (false, 1)) := by kernel_rfl
theorem si_13 : SI Try.prog 13 = some [(0, 1), (1, 1)] := by kernel_rfl
theorem zv_13 : ZV Try.prog 13 = some (.agg [.str [], .int .u64 0]) := by kernel_rfl
theorem zok_13 : ZOk Try.prog 13 2 = true := by kernel_rfl
theorem by_13 : byOf Try.prog 13 = 24 := by kernel_rfl
theorem cells_21 : Try.prog.cellsOf 21 = 1 := by kernel_rfl
theorem ti_21 : TI Try.prog 21 = some (false, 1) := by kernel_rfl
theorem intK_21 : intK Try.prog 21 = some .i32 := by kernel_rfl
theorem un_21 : Try.prog.underlying 21 = some (.int .i32) := by kernel_rfl
theorem zv_21 : ZV Try.prog 21 = some (.int .i32 0) := by kernel_rfl
theorem zok_21 : ZOk Try.prog 21 1 = true := by kernel_rfl
theorem by_21 : byOf Try.prog 21 = 4 := by kernel_rfl
theorem cells_22 : Try.prog.cellsOf 22 = 1 := by kernel_rfl
theorem ti_22 : TI Try.prog 22 = some (false, 1) := by kernel_rfl
theorem ei_22 : EI Try.prog 22 = some (43, 1) := by kernel_rfl
theorem isSli_22 : isSli Try.prog 22 = true := by kernel_rfl
theorem notInt_22 : notInt Try.prog 22 = true := by kernel_rfl
theorem zv_22 : ZV Try.prog 22 = some (.nils) := by kernel_rfl
theorem zok_22 : ZOk Try.prog 22 1 = true := by kernel_rfl
theorem by_22 : byOf Try.prog 22 = 24 := by kernel_rfl
theorem cells_23 : Try.prog.cellsOf 23 = 1 := by kernel_rfl
theorem ti_23 : TI Try.prog 23 = some (false, 1) := by kernel_rfl
theorem ei_23 : EI Try.prog 23 = some (4, 1) := by kernel_rfl
theorem isSli_23 : isSli Try.prog 23 = true := by kernel_rfl
theorem notInt_23 : notInt Try.prog 23 = true := by kernel_rfl
theorem zv_23 : ZV Try.prog 23 = some (.nils) := by kernel_rfl
theorem zok_23 : ZOk Try.prog 23 1 = true := by kernel_rfl
theorem by_23 : byOf Try.prog 23 = 24 := by kernel_rfl
theorem cells_24 : Try.prog.cellsOf 24 = 2 := by kernel_rfl
theorem ti_24 : TI Try.prog 24 = some (true, 2) := by kernel_rfl
theorem fi_24_0 : FI Try.prog 24 0 = some (0, (false, 1)) := by kernel_rfl
theorem fi_24_1 : FI Try.prog 24 1 = some (1, (false, 1)) := by kernel_rfl
theorem si_24 : SI Try.prog 24 = some [(0, 1), (1, 1)] := by kernel_rfl
theorem zv_24 : ZV Try.prog 24 = some (.agg [.nils, .nils]) := by kernel_rfl
theorem zok_24 : ZOk Try.prog 24 2 = true := by kernel_rfl
theorem by_24 : byOf Try.prog 24 = 48 := by kernel_rfl
theorem cells_25 : Try.prog.cellsOf 25 = 2 := by kernel_rfl
theorem ti_25 : TI Try.prog 25 = some (true, 2) := by kernel_rfl
theorem fi_25_0 : FI Try.prog 25 0 = some (0, (false, 1)) := by kernel_rfl
theorem fi_25_1 : FI Try.prog 25 1 = some (1, (false, 1)) := by kernel_rfl
theorem si_25 : SI Try.prog 25 = some [(0, 1), (1, 1)] := by kernel_rfl
theorem zv_25 : ZV Try.prog 25 = some (.agg [.nils, .nils]) := by kernel_rfl
theorem zok_25 : ZOk Try.prog 25 2 = true := by kernel_rfl
theorem by_25 : byOf Try.prog 25 = 48 := by kernel_rfl
theorem cells_26 : Try.prog.cellsOf 26 = 1 := by kernel_rfl
theorem ti_26 : TI Try.prog 26 = some (false, 1) := by kernel_rfl
theorem intK_26 : intK Try.prog 26 = some .i64 := by kernel_rfl
theorem un_26 : Try.prog.underlying 26 = some (.int .i64) := by kernel_rfl
theorem zv_26 : ZV Try.prog 26 = some (.int .i64 0) := by kernel_rfl
theorem zok_26 : ZOk Try.prog 26 1 = true := by kernel_rfl
theorem by_26 : byOf Try.prog 26 = 8 := by kernel_rfl
theorem cells_28 : Try.prog.cellsOf 28 = 1 := by kernel_rfl
theorem ti_28 : TI Try.prog 28 = some (false, 1) := by kernel_rfl
theorem zv_28 : ZV Try.prog 28 = some (.any) := by kernel_rfl
theorem zok_28 : ZOk Try.prog 28 1 = true := by kernel_rfl
theorem by_28 : byOf Try.prog 28 = 8 := by kernel_rfl
theorem cells_29 : Try.prog.cellsOf 29 = 1 := by kernel_rfl
theorem ti_29 : TI Try.prog 29 = some (false, 1) := by kernel_rfl
theorem zv_29 : ZV Try.prog 29 = some (.any) := by kernel_rfl
theorem zok_29 : ZOk Try.prog 29 1 = true := by kernel_rfl
theorem by_29 : byOf Try.prog 29 = 8 := by kernel_rfl
theorem cells_30 : Try.prog.cellsOf 30 = 1 := by kernel_rfl
theorem ti_30 : TI Try.prog 30 = some (false, 1) := by kernel_rfl
theorem zv_30 : ZV Try.prog 30 = some (.any) := by kernel_rfl
theorem zok_30 : ZOk Try.prog 30 1 = true := by kernel_rfl
theorem by_30 : byOf Try.prog 30 = 8 := by kernel_rfl
theorem cells_31 : Try.prog.cellsOf 31 = 1 := by kernel_rfl
theorem ti_31 : TI Try.prog 31 = some (false, 1) := by kernel_rfl
theorem ei_31 : EI Try.prog 31 = some (37, 2) := by kernel_rfl
theorem isSli_31 : isSli Try.prog 31 = true := by kernel_rfl
theorem notInt_31 : notInt Try.prog 31 = true := by kernel_rfl
theorem zv_31 : ZV Try.prog 31 = some (.nils) := by kernel_rfl
theorem zok_31 : ZOk Try.prog 31 1 = true := by kernel_rfl
theorem by_31 : byOf Try.prog 31 = 24 := by kernel_rfl
theorem cells_32 : Try.prog.cellsOf 32 = 1 := by kernel_rfl
theorem ti_32 : TI Try.prog 32 = some (false, 1) := by kernel_rfl
theorem ei_32 : EI Try.prog 32 = some (51, 8) := by kernel_rfl
theorem isSli_32 : isSli Try.prog 32 = true := by kernel_rfl
theorem notInt_32 : notInt Try.prog 32 = true := by kernel_rfl
theorem zv_32 : ZV Try.prog 32 = some (.nils) := by kernel_rfl
theorem zok_32 : ZOk Try.prog 32 1 = true := by kernel_rfl
theorem by_32 : byOf Try.prog 32 = 24 := by kernel_rfl
theorem cells_34 : Try.prog.cellsOf 34 = 1 := by kernel_rfl
theorem ti_34 : TI Try.prog 34 = some (false, 1) := by kernel_rfl
theorem zv_34 : ZV Try.prog 34 = some (.any) := by kernel_rfl
theorem zok_34 : ZOk Try.prog 34 1 = true := by kernel_rfl
theorem by_34 : byOf Try.prog 34 = 8 := by kernel_rfl
theorem cells_35 : Try.prog.cellsOf 35 = 1 := by kernel_rfl
theorem ti_35 : TI Try.prog 35 = some (false, 1) := by kernel_rfl
theorem zv_35 : ZV Try.prog 35 = some (.any) := by kernel_rfl
theorem zok_35 : ZOk Try.prog 35 1 = true := by kernel_rfl
theorem by_35 : byOf Try.prog 35 = 8 := by kernel_rfl
theorem cells_36 : Try.prog.cellsOf 36 = 2 := by kernel_rfl
theorem ti_36 : TI Try.prog 36 = some (true, 2) := by kernel_rfl
theorem fi_36_0 : FI Try.prog 36 0 = some (0, (false, 1)) := by kernel_rfl
theorem fi_36_1 : FI Try.prog 36 1 = some (1, (false, 1)) := by kernel_rfl
theorem si_36 : SI Try.prog 36 = some [(0, 1), (1, 1)] := by kernel_rfl
theorem zv_36 : ZV Try.prog 36 = some (.agg [.int .i64 0, .int .i64 0]) := by kernel_rfl
theorem zok_36 : ZOk Try.prog 36 2 = true := by kernel_rfl
theorem by_36 : byOf Try.prog 36 = 16 := by kernel_rfl
theorem cells_37 : Try.prog.cellsOf 37 = 2 := by kernel_rfl
theorem ti_37 : TI Try.prog 37 = some (true, 2) := by kernel_rfl
theorem fi_37_0 : FI Try.prog 37 0 = some (0, (false, 1)) := by kernel_rfl
theorem fi_37_1 : FI Try.prog 37 1 = some (1, (false, 1)) := by kernel_rfl
theorem si_37 : SI Try.prog 37 = some [(0, 1), (1, 1)] := by kernel_rfl
theorem zv_37 : ZV Try.prog 37 = some (.agg [.int .i64 0, .int .i64 0]) := by kernel_rfl
theorem zok_37 : ZOk Try.prog 37 2 = true := by kernel_rfl
theorem by_37 : byOf Try.prog 37 = 16 := by kernel_rfl
theorem cells_38 : Try.prog.cellsOf 38 = 1 := by kernel_rfl
theorem ti_38 : TI Try.prog 38 = some (false, 1) := by kernel_rfl
theorem zv_38 : ZV Try.prog 38 = some (.any) := by kernel_rfl
theorem zok_38 : ZOk Try.prog 38 1 = true := by kernel_rfl
theorem by_38 : byOf Try.prog 38 = 8 := by kernel_rfl
theorem cells_39 : Try.prog.cellsOf 39 = 1 := by kernel_rfl
theorem ti_39 : TI Try.prog 39 = some (false, 1) := by kernel_rfl
theorem zv_39 : ZV Try.prog 39 = some (.any) := by kernel_rfl
theorem zok_39 : ZOk Try.prog 39 1 = true := by kernel_rfl
theorem by_39 : byOf Try.prog 39 = 8 := by kernel_rfl
theorem cells_40 : Try.prog.cellsOf 40 = 2 := by kernel_rfl
theorem ti_40 : TI Try.prog 40 = some (true, 2) := by kernel_rfl
theorem fi_40_0 : FI Try.prog 40 0 = some (0, (false, 1)) := by kernel_rfl
theorem fi_40_1 : FI Try.prog 40 1 = some (1, (false, 1)) := by kernel_rfl
theorem si_40 : SI Try.prog 40 = some [(0, 1), (1, 1)] := by kernel_rfl
theorem zv_40 : ZV Try.prog 40 = some (.agg [.nils, .nils]) := by kernel_rfl
theorem zok_40 : ZOk Try.prog 40 2 = true := by kernel_rfl
theorem by_40 : byOf Try.prog 40 = 48 := by kernel_rfl
theorem cells_41 : Try.prog.cellsOf 41 = 2 := by kernel_rfl
theorem ti_41 : TI Try.prog 41 = some (true, 2) := by kernel_rfl
theorem fi_41_0 : FI Try.prog 41 0 = some (0, (false, 1)) := by kernel_rfl
theorem fi_41_1 : FI Try.prog 41 1 = some (1, (false, 1)) := by kernel_rfl
theorem si_41 : SI Try.prog 41 = some [(0, 1), (1, 1)] := by kernel_rfl
theorem zv_41 : ZV Try.prog 41 = some (.agg [.nils, .nils]) := by kernel_rfl
theorem zok_41 : ZOk Try.prog 41 2 = true := by kernel_rfl
theorem by_41 : byOf Try.prog 41 = 48 := by kernel_rfl
theorem cells_42 : Try.prog.cellsOf 42 = 1 := by kernel_rfl
theorem ti_42 : TI Try.prog 42 = some (false, 1) := by kernel_rfl
theorem zv_42 : ZV Try.prog 42 = some (.any) := by kernel_rfl
theorem zok_42 : ZOk Try.prog 42 1 = true := by kernel_rfl
theorem by_42 : byOf Try.prog 42 = 8 := by kernel_rfl
theorem cells_43 : Try.prog.cellsOf 43 = 1 := by kernel_rfl
theorem ti_43 : TI Try.prog 43 = some (false, 1) := by kernel_rfl
theorem ei_43 : EI Try.prog 43 = some (3, 1) := by kernel_rfl
theorem isSli_43 : isSli Try.prog 43 = true := by kernel_rfl
theorem notInt_43 : notInt Try.prog 43 = true := by kernel_rfl
theorem zv_43 : ZV Try.prog 43 = some (.nils) := by kernel_rfl
theorem zok_43 : ZOk Try.prog 43 1 = true := by kernel_rfl
theorem by_43 : byOf Try.prog 43 = 24 := by kernel_rfl
theorem cells_44 : Try.prog.cellsOf 44 = 1 := by kernel_rfl
theorem ti_44 : TI Try.prog 44 = some (false, 1) := by kernel_rfl
theorem ei_44 : EI Try.prog 44 = some (23, 1) := by kernel_rfl
theorem isSli_44 : isSli Try.prog 44 = true := by kernel_rfl
theorem notInt_44 : notInt Try.prog 44 = true := by kernel_rfl
theorem zv_44 : ZV Try.prog 44 = some (.nils) := by kernel_rfl
theorem zok_44 : ZOk Try.prog 44 1 = true := by kernel_rfl
theorem by_44 : byOf Try.prog 44 = 24 := by kernel_rfl
theorem cells_45 : Try.prog.cellsOf 45 = 1 := by kernel_rfl
theorem ti_45 : TI Try.prog 45 = some (false, 1) := by kernel_rfl
theorem zv_45 : ZV Try.prog 45 = some (.any) := by kernel_rfl
theorem zok_45 : ZOk Try.prog 45 1 = true := by kernel_rfl
theorem by_45 : byOf Try.prog 45 = 8 := by kernel_rfl
theorem cells_46 : Try.prog.cellsOf 46 = 1 := by kernel_rfl
theorem ti_46 : TI Try.prog 46 = some (false, 1) := by kernel_rfl
theorem zv_46 : ZV Try.prog 46 = some (.any) := by kernel_rfl
theorem zok_46 : ZOk Try.prog 46 1 = true := by kernel_rfl
theorem by_46 : byOf Try.prog 46 = 8 := by kernel_rfl
theorem cells_47 : Try.prog.cellsOf 47 = 1 := by kernel_rfl
theorem ti_47 : TI Try.prog 47 = some (false, 1) := by kernel_rfl
theorem zv_47 : ZV Try.prog 47 = some (.any) := by kernel_rfl
theorem zok_47 : ZOk Try.prog 47 1 = true := by kernel_rfl
theorem by_47 : byOf Try.prog 47 = 8 := by kernel_rfl
theorem cells_48 : Try.prog.cellsOf 48 = 1 := by kernel_rfl
theorem ti_48 : TI Try.prog 48 = some (false, 1) := by kernel_rfl
theorem zv_48 : ZV Try.prog 48 = some (.any) := by kernel_rfl
theorem zok_48 : ZOk Try.prog 48 1 = true := by kernel_rfl
theorem by_48 : byOf Try.prog 48 = 8 := by kernel_rfl
theorem cells_49 : Try.prog.cellsOf 49 = 1 := by kernel_rfl
theorem ti_49 : TI Try.prog 49 = some (false, 1) := by kernel_rfl
theorem zv_49 : ZV Try.prog 49 = some (.any) := by kernel_rfl
theorem zok_49 : ZOk Try.prog 49 1 = true := by kernel_rfl
theorem by_49 : byOf Try.prog 49 = 8 := by kernel_rfl
theorem cells_50 : Try.prog.cellsOf 50 = 1 := by kernel_rfl
theorem ti_50 : TI Try.prog 50 = some (false, 1) := by kernel_rfl
theorem zv_50 : ZV Try.prog 50 = some (.any) := by kernel_rfl
theorem zok_50 : ZOk Try.prog 50 1 = true := by kernel_rfl
theorem by_50 : byOf Try.prog 50 = 8 := by kernel_rfl
theorem cells_51 : Try.prog.cellsOf 51 = 8 := by kernel_rfl
theorem ti_51 : TI Try.prog 51 = some (true, 8) := by kernel_rfl
theorem ai_51 : AI Try.prog 51 = some (8, (false, 1)) := by kernel_rfl
theorem zv_51 : ZV Try.prog 51 = some (.agg [.int .i64 0, .int .i64 0, .int .i64 0, .int .i64 0, .int .i64 0, .int .i64 0, .int .i64 0, .int .i64 0]) := by kernel_rfl
theorem zok_51 : ZOk Try.prog 51 8 = true := by kernel_rfl
theorem by_51 : byOf Try.prog 51 = 64 := by kernel_rfl
theorem cells_52 : Try.prog.cellsOf 52 = 1 := by kernel_rfl
theorem ti_52 : TI Try.prog 52 = some (false, 1) := by kernel_rfl
theorem zv_52 : ZV Try.prog 52 = some (.any) := by kernel_rfl
theorem zok_52 : ZOk Try.prog 52 1 = true := by kernel_rfl
theorem by_52 : byOf Try.prog 52 = 8 := by kernel_rfl
theorem cells_54 : Try.prog.cellsOf 54 = 1 := by kernel_rfl
theorem ti_54 : TI Try.prog 54 = some (false, 1) := by kernel_rfl
theorem zv_54 : ZV Try.prog 54 = some (.any) := by kernel_rfl
theorem zok_54 : ZOk Try.prog 54 1 = true := by kernel_rfl
theorem by_54 : byOf Try.prog 54 = 8 := by kernel_rfl
theorem cells_55 : Try.prog.cellsOf 55 = 1 := by kernel_rfl
theorem ti_55 : TI Try.prog 55 = some (false, 1) := by kernel_rfl
theorem zv_55 : ZV Try.prog 55 = some (.any) := by kernel_rfl
theorem zok_55 : ZOk Try.prog 55 1 = true := by kernel_rfl
theorem by_55 : byOf Try.prog 55 = 8 := by kernel_rfl
theorem cells_56 : Try.prog.cellsOf 56 = 1 := by kernel_rfl
theorem ti_56 : TI Try.prog 56 = some (false, 1) := by kernel_rfl
theorem zv_56 : ZV Try.prog 56 = some (.any) := by kernel_rfl
theorem zok_56 : ZOk Try.prog 56 1 = true := by kernel_rfl
theorem by_56 : byOf Try.prog 56 = 8 := by kernel_rfl
theorem cells_57 : Try.prog.cellsOf 57 = 1 := by kernel_rfl
theorem ti_57 : TI Try.prog 57 = some (false, 1) := by kernel_rfl
theorem zv_57 : ZV Try.prog 57 = some (.any) := by kernel_rfl
theorem zok_57 : ZOk Try.prog 57 1 = true := by kernel_rfl
theorem by_57 : byOf Try.prog 57 = 8 := by kernel_rfl
theorem cells_63 : Try.prog.cellsOf 63 = 1 := by kernel_rfl
theorem ti_63 : TI Try.prog 63 = some (false, 1) := by kernel_rfl
theorem zv_63 : ZV Try.prog 63 = some (.any) := by kernel_rfl
theorem zok_63 : ZOk Try.prog 63 1 = true := by kernel_rfl
theorem by_63 : byOf Try.prog 63 = 8 := by kernel_rfl
theorem cells_64 : Try.prog.cellsOf 64 = 1 := by kernel_rfl
theorem ti_64 : TI Try.prog 64 = some (false, 1) := by kernel_rfl
theorem intK_64 : intK Try.prog 64 = some .u32 := by kernel_rfl
theorem un_64 : Try.prog.underlying 64 = some (.int .u32) := by kernel_rfl
theorem zv_64 : ZV Try.prog 64 = some (.int .u32 0) := by kernel_rfl
theorem zok_64 : ZOk Try.prog 64 1 = true := by kernel_rfl
theorem by_64 : byOf Try.prog 64 = 4 := by kernel_rfl
theorem cells_68 : Try.prog.cellsOf 68 = 1 := by kernel_rfl
theorem ti_68 : TI Try.prog 68 = some (false, 1) := by kernel_rfl
theorem isPtr_68 : isPtr Try.prog 68 = true := by kernel_rfl
theorem zv_68 : ZV Try.prog 68 = some (.nilp) := by kernel_rfl
theorem zok_68 : ZOk Try.prog 68 1 = true := by kernel_rfl
theorem by_68 : byOf Try.prog 68 = 8 := by kernel_rfl
theorem uns_1 : (Try.prog.underlying 1).isSome = true := by kernel_rfl
theorem tok_1 : TOk Try.prog 1 { ti := some (false, 1), zv := some (.any), zok := some 1, by' := some 8, un := true } := ⟨ti_1, trivial, trivial, trivial, trivial, zv_1, zok_1, by_1, trivial, trivial, trivial, trivial, trivial, trivial, uns_1, trivial⟩
theorem uns_2 : (Try.prog.underlying 2).isSome = true := by kernel_rfl
theorem tok_2 : TOk Try.prog 2 { ti := some (false, 1), zv := some (.int .i64 0), zok := some 1, by' := some 8, ik := some .i64, un := true } := ⟨ti_2, trivial, trivial, trivial, trivial, zv_2, zok_2, by_2, intK_2, trivial, trivial, trivial, trivial, trivial, uns_2, trivial⟩
theorem uns_3 : (Try.prog.underlying 3).isSome = true := by kernel_rfl
theorem tok_3 : TOk Try.prog 3 { ti := some (false, 1), zv := some (.int .i64 0), zok := some 1, by' := some 8, ik := some .i64, un := true } := ⟨ti_3, trivial, trivial, trivial, trivial, zv_3, zok_3, by_3, intK_3, trivial, trivial, trivial, trivial, trivial, uns_3, trivial⟩
theorem uns_4 : (Try.prog.underlying 4).isSome = true := by kernel_rfl
theorem tok_4 : TOk Try.prog 4 { ti := some (false, 1), zv := some (.bool false), zok := some 1, by' := some 1, boo := true, un := true } := ⟨ti_4, trivial, trivial, trivial, trivial, zv_4, zok_4, by_4, trivial, trivial, trivial, isBoo_4, trivial, trivial, uns_4, trivial⟩
theorem uns_5 : (Try.prog.underlying 5).isSome = true := by kernel_rfl
theorem tok_5 : TOk Try.prog 5 { ti := some (false, 1), zv := some (.int .u8 0), zok := some 1, by' := some 1, ik := some .u8, un := true } := ⟨ti_5, trivial, trivial, trivial, trivial, zv_5, zok_5, by_5, intK_5, trivial, trivial, trivial, trivial, trivial, uns_5, trivial⟩
theorem uns_9 : (Try.prog.underlying 9).isSome = true := by kernel_rfl
theorem tok_9 : TOk Try.prog 9 { ti := some (false, 1), zv := some (.str []), zok := some 1, by' := some 16, str := true, ni := true, un := true } := ⟨ti_9, trivial, trivial, trivial, trivial, zv_9, zok_9, by_9, trivial, isStr_9, trivial, trivial, trivial, notInt_9, uns_9, trivial⟩
theorem uns_12 : (Try.prog.underlying 12).isSome = true := by kernel_rfl
theorem tok_12 : TOk Try.prog 12 { ti := some (false, 1), zv := some (.int .u64 0), zok := some 1, by' := some 8, ik := some .u64, un := true } := ⟨ti_12, trivial, trivial, trivial, trivial, zv_12, zok_12, by_12, intK_12, trivial, trivial, trivial, trivial, trivial, uns_12, trivial⟩
theorem uns_13 : (Try.prog.underlying 13).isSome = true := by kernel_rfl
theorem tok_13 : TOk Try.prog 13 { ti := some (true, 2), fi := [some (0, (false, 1)), some (1, (false, 1))], si := some [(0, 1), (1, 1)], zv := some (.agg [.str [], .int .u64 0]), zok := some 2, by' := some 24, un := true } := ⟨ti_13, trivial, trivial, ⟨fi_13_0, fi_13_1, trivial⟩, si_13, zv_13, zok_13, by_13, trivial, trivial, trivial, trivial, trivial, trivial, uns_13, trivial⟩
theorem uns_21 : (Try.prog.underlying 21).isSome = true := by kernel_rfl
theorem tok_21 : TOk Try.prog 21 { ti := some (false, 1), zv := some (.int .i32 0), zok := some 1, by' := some 4, ik := some .i32, un := true } := ⟨ti_21, trivial, trivial, trivial, trivial, zv_21, zok_21, by_21, intK_21, trivial, trivial, trivial, trivial, trivial, uns_21, trivial⟩
theorem uns_22 : (Try.prog.underlying 22).isSome = true := by kernel_rfl
theorem tok_22 : TOk Try.prog 22 { ti := some (false, 1), ei := some (43, 1), zv := some (.nils), zok := some 1, by' := some 24, sli := true, ni := true, un := true } := ⟨ti_22, ei_22, trivial, trivial, trivial, zv_22, zok_22, by_22, trivial, trivial, isSli_22, trivial, trivial, notInt_22, uns_22, trivial⟩
theorem uns_23 : (Try.prog.underlying 23).isSome = true := by kernel_rfl
theorem tok_23 : TOk Try.prog 23 { ti := some (false, 1), ei := some (4, 1), zv := some (.nils), zok := some 1, by' := some 24, sli := true, ni := true, un := true } := ⟨ti_23, ei_23, trivial, trivial, trivial, zv_23, zok_23, by_23, trivial, trivial, isSli_23, trivial, trivial, notInt_23, uns_23, trivial⟩
theorem uns_24 : (Try.prog.underlying 24).isSome = true := by kernel_rfl
theorem tok_24 : TOk Try.prog 24 { ti := some (true, 2), fi := [some (0, (false, 1)), some (1, (false, 1))], si := some [(0, 1), (1, 1)], zv := some (.agg [.nils, .nils]), zok := some 2, by' := some 48, un := true } := ⟨ti_24, trivial, trivial, ⟨fi_24_0, fi_24_1, trivial⟩, si_24, zv_24, zok_24, by_24, trivial, trivial, trivial, trivial, trivial, trivial, uns_24, trivial⟩
theorem uns_25 : (Try.prog.underlying 25).isSome = true := by kernel_rfl
theorem tok_25 : TOk Try.prog 25 { ti := some (true, 2), fi := [some (0, (false, 1)), some (1, (false, 1))], si := some [(0, 1), (1, 1)], zv := some (.agg [.nils, .nils]), zok := some 2, by' := some 48, un := true } := ⟨ti_25, trivial, trivial, ⟨fi_25_0, fi_25_1, trivial⟩, si_25, zv_25, zok_25, by_25, trivial, trivial, trivial, trivial, trivial, trivial, uns_25, trivial⟩
theorem uns_26 : (Try.prog.underlying 26).isSome = true := by kernel_rfl
theorem tok_26 : TOk Try.prog 26 { ti := some (false, 1), zv := some (.int .i64 0), zok := some 1, by' := some 8, ik := some .i64, un := true } := ⟨ti_26, trivial, trivial, trivial, trivial, zv_26, zok_26, by_26, intK_26, trivial, trivial, trivial, trivial, trivial, uns_26, trivial⟩
theorem uns_28 : (Try.prog.underlying 28).isSome = true := by kernel_rfl
theorem tok_28 : TOk Try.prog 28 { ti := some (false, 1), zv := some (.any), zok := some 1, by' := some 8, un := true } := ⟨ti_28, trivial, trivial, trivial, trivial, zv_28, zok_28, by_28, trivial, trivial, trivial, trivial, trivial, trivial, uns_28, trivial⟩
theorem uns_29 : (Try.prog.underlying 29).isSome = true := by kernel_rfl
theorem tok_29 : TOk Try.prog 29 { ti := some (false, 1), zv := some (.any), zok := some 1, by' := some 8, un := true } := ⟨ti_29, trivial, trivial, trivial, trivial, zv_29, zok_29, by_29, trivial, trivial, trivial, trivial, trivial, trivial, uns_29, trivial⟩
theorem uns_30 : (Try.prog.underlying 30).isSome = true := by kernel_rfl
theorem tok_30 : TOk Try.prog 30 { ti := some (false, 1), zv := some (.any), zok := some 1, by' := some 8, un := true } := ⟨ti_30, trivial, trivial, trivial, trivial, zv_30, zok_30, by_30, trivial, trivial, trivial, trivial, trivial, trivial, uns_30, trivial⟩
theorem uns_31 : (Try.prog.underlying 31).isSome = true := by kernel_rfl
theorem tok_31 : TOk Try.prog 31 { ti := some (false, 1), ei := some (37, 2), zv := some (.nils), zok := some 1, by' := some 24, sli := true, ni := true, un := true } := ⟨ti_31, ei_31, trivial, trivial, trivial, zv_31, zok_31, by_31, trivial, trivial, isSli_31, trivial, trivial, notInt_31, uns_31, trivial⟩
theorem uns_32 : (Try.prog.underlying 32).isSome = true := by kernel_rfl
theorem tok_32 : TOk Try.prog 32 { ti := some (false, 1), ei := some (51, 8), zv := some (.nils), zok := some 1, by' := some 24, sli := true, ni := true, un := true } := ⟨ti_32, ei_32, trivial, trivial, trivial, zv_32, zok_32, by_32, trivial, trivial, isSli_32, trivial, trivial, notInt_32, uns_32, trivial⟩
theorem uns_34 : (Try.prog.underlying 34).isSome = true := by kernel_rfl
theorem tok_34 : TOk Try.prog 34 { ti := some (false, 1), zv := some (.any), zok := some 1, by' := some 8, un := true } := ⟨ti_34, trivial, trivial, trivial, trivial, zv_34, zok_34, by_34, trivial, trivial, trivial, trivial, trivial, trivial, uns_34, trivial⟩
theorem uns_35 : (Try.prog.underlying 35).isSome = true := by kernel_rfl
theorem tok_35 : TOk Try.prog 35 { ti := some (false, 1), zv := some (.any), zok := some 1, by' := some 8, un := true } := ⟨ti_35, trivial, trivial, trivial, trivial, zv_35, zok_35, by_35, trivial, trivial, trivial, trivial, trivial, trivial, uns_35, trivial⟩
theorem uns_36 : (Try.prog.underlying 36).isSome = true := by kernel_rfl
theorem tok_36 : TOk Try.prog 36 { ti := some (true, 2), fi := [some (0, (false, 1)), some (1, (false, 1))], si := some [(0, 1), (1, 1)], zv := some (.agg [.int .i64 0, .int .i64 0]), zok := some 2, by' := some 16, un := true } := ⟨ti_36, trivial, trivial, ⟨fi_36_0, fi_36_1, trivial⟩, si_36, zv_36, zok_36, by_36, trivial, trivial, trivial, trivial, trivial, trivial, uns_36, trivial⟩
theorem sq_37 : SQ Try.prog 37 = some [.i .i64, .i .i64] := by kernel_rfl
theorem uns_37 : (Try.prog.underlying 37).isSome = true := by kernel_rfl
theorem tok_37 : TOk Try.prog 37 { ti := some (true, 2), fi := [some (0, (false, 1)), some (1, (false, 1))], si := some [(0, 1), (1, 1)], zv := some (.agg [.int .i64 0, .int .i64 0]), zok := some 2, by' := some 16, un := true, sq := some [.i .i64, .i .i64] } := ⟨ti_37, trivial, trivial, ⟨fi_37_0, fi_37_1, trivial⟩, si_37, zv_37, zok_37, by_37, trivial, trivial, trivial, trivial, trivial, trivial, uns_37, sq_37⟩
theorem uns_38 : (Try.prog.underlying 38).isSome = true := by kernel_rfl
theorem tok_38 : TOk Try.prog 38 { ti := some (false, 1), zv := some (.any), zok := some 1, by' := some 8, un := true } := ⟨ti_38, trivial, trivial, trivial, trivial, zv_38, zok_38, by_38, trivial, trivial, trivial, trivial, trivial, trivial, uns_38, trivial⟩
theorem uns_39 : (Try.prog.underlying 39).isSome = true := by kernel_rfl
theorem tok_39 : TOk Try.prog 39 { ti := some (false, 1), zv := some (.any), zok := some 1, by' := some 8, un := true } := ⟨ti_39, trivial, trivial, trivial, trivial, zv_39, zok_39, by_39, trivial, trivial, trivial, trivial, trivial, trivial, uns_39, trivial⟩
theorem uns_40 : (Try.prog.underlying 40).isSome = true := by kernel_rfl
theorem tok_40 : TOk Try.prog 40 { ti := some (true, 2), fi := [some (0, (false, 1)), some (1, (false, 1))], si := some [(0, 1), (1, 1)], zv := some (.agg [.nils, .nils]), zok := some 2, by' := some 48, un := true } := ⟨ti_40, trivial, trivial, ⟨fi_40_0, fi_40_1, trivial⟩, si_40, zv_40, zok_40, by_40, trivial, trivial, trivial, trivial, trivial, trivial, uns_40, trivial⟩
theorem uns_41 : (Try.prog.underlying 41).isSome = true := by kernel_rfl
theorem tok_41 : TOk Try.prog 41 { ti := some (true, 2), fi := [some (0, (false, 1)), some (1, (false, 1))], si := some [(0, 1), (1, 1)], zv := some (.agg [.nils, .nils]), zok := some 2, by' := some 48, un := true } := ⟨ti_41, trivial, trivial, ⟨fi_41_0, fi_41_1, trivial⟩, si_41, zv_41, zok_41, by_41, trivial, trivial, trivial, trivial, trivial, trivial, uns_41, trivial⟩
theorem uns_42 : (Try.prog.underlying 42).isSome = true := by kernel_rfl
theorem tok_42 : TOk Try.prog 42 { ti := some (false, 1), zv := some (.any), zok := some 1, by' := some 8, un := true } := ⟨ti_42, trivial, trivial, trivial, trivial, zv_42, zok_42, by_42, trivial, trivial, trivial, trivial, trivial, trivial, uns_42, trivial⟩
theorem uns_43 : (Try.prog.underlying 43).isSome = true := by kernel_rfl
theorem tok_43 : TOk Try.prog 43 { ti := some (false, 1), ei := some (3, 1), zv := some (.nils), zok := some 1, by' := some 24, sli := true, ni := true, un := true } := ⟨ti_43, ei_43, trivial, trivial, trivial, zv_43, zok_43, by_43, trivial, trivial, isSli_43, trivial, trivial, notInt_43, uns_43, trivial⟩
theorem uns_44 : (Try.prog.underlying 44).isSome = true := by kernel_rfl
theorem tok_44 : TOk Try.prog 44 { ti := some (false, 1), ei := some (23, 1), zv := some (.nils), zok := some 1, by' := some 24, sli := true, ni := true, un := true } := ⟨ti_44, ei_44, trivial, trivial, trivial, zv_44, zok_44, by_44, trivial, trivial, isSli_44, trivial, trivial, notInt_44, uns_44, trivial⟩
theorem uns_45 : (Try.prog.underlying 45).isSome = true := by kernel_rfl
theorem tok_45 : TOk Try.prog 45 { ti := some (false, 1), zv := some (.any), zok := some 1, by' := some 8, un := true } := ⟨ti_45, trivial, trivial, trivial, trivial, zv_45, zok_45, by_45, trivial, trivial, trivial, trivial, trivial, trivial, uns_45, trivial⟩
theorem uns_46 : (Try.prog.underlying 46).isSome = true := by kernel_rfl
theorem tok_46 : TOk Try.prog 46 { ti := some (false, 1), zv := some (.any), zok := some 1, by' := some 8, un := true } := ⟨ti_46, trivial, trivial, trivial, trivial, zv_46, zok_46, by_46, trivial, trivial, trivial, trivial, trivial, trivial, uns_46, trivial⟩
theorem uns_47 : (Try.prog.underlying 47).isSome = true := by kernel_rfl
theorem tok_47 : TOk Try.prog 47 { ti := some (false, 1), zv := some (.any), zok := some 1, by' := some 8, un := true } := ⟨ti_47, trivial, trivial, trivial, trivial, zv_47, zok_47, by_47, trivial, trivial, trivial, trivial, trivial, trivial, uns_47, trivial⟩
theorem uns_48 : (Try.prog.underlying 48).isSome = true := by kernel_rfl
theorem tok_48 : TOk Try.prog 48 { ti := some (false, 1), zv := some (.any), zok := some 1, by' := some 8, un := true } := ⟨ti_48, trivial, trivial, trivial, trivial, zv_48, zok_48, by_48, trivial, trivial, trivial, trivial, trivial, trivial, uns_48, trivial⟩
theorem uns_49 : (Try.prog.underlying 49).isSome = true := by kernel_rfl
theorem tok_49 : TOk Try.prog 49 { ti := some (false, 1), zv := some (.any), zok := some 1, by' := some 8, un := true } := ⟨ti_49, trivial, trivial, trivial, trivial, zv_49, zok_49, by_49, trivial, trivial, trivial, trivial, trivial, trivial, uns_49, trivial⟩
theorem uns_50 : (Try.prog.underlying 50).isSome = true := by kernel_rfl
theorem tok_50 : TOk Try.prog 50 { ti := some (false, 1), zv := some (.any), zok := some 1, by' := some 8, un := true } := ⟨ti_50, trivial, trivial, trivial, trivial, zv_50, zok_50, by_50, trivial, trivial, trivial, trivial, trivial, trivial, uns_50, trivial⟩
theorem uns_51 : (Try.prog.underlying 51).isSome = true := by kernel_rfl
theorem tok_51 : TOk Try.prog 51 { ti := some (true, 8), ai := some (8, (false, 1)), zv := some (.agg [.int .i64 0, .int .i64 0, .int .i64 0, .int .i64 0, .int .i64 0, .int .i64 0, .int .i64 0, .int .i64 0]), zok := some 8, by' := some 64, un := true } := ⟨ti_51, trivial, ai_51, trivial, trivial, zv_51, zok_51, by_51, trivial, trivial, trivial, trivial, trivial, trivial, uns_51, trivial⟩
theorem uns_52 : (Try.prog.underlying 52).isSome = true := by kernel_rfl
theorem tok_52 : TOk Try.prog 52 { ti := some (false, 1), zv := some (.any), zok := some 1, by' := some 8, un := true } := ⟨ti_52, trivial, trivial, trivial, trivial, zv_52, zok_52, by_52, trivial, trivial, trivial, trivial, trivial, trivial, uns_52, trivial⟩
theorem uns_54 : (Try.prog.underlying 54).isSome = true := by kernel_rfl
theorem tok_54 : TOk Try.prog 54 { ti := some (false, 1), zv := some (.any), zok := some 1, by' := some 8, un := true } := ⟨ti_54, trivial, trivial, trivial, trivial, zv_54, zok_54, by_54, trivial, trivial, trivial, trivial, trivial, trivial, uns_54, trivial⟩
theorem uns_55 : (Try.prog.underlying 55).isSome = true := by kernel_rfl
theorem tok_55 : TOk Try.prog 55 { ti := some (false, 1), zv := some (.any), zok := some 1, by' := some 8, un := true } := ⟨ti_55, trivial, trivial, trivial, trivial, zv_55, zok_55, by_55, trivial, trivial, trivial, trivial, trivial, trivial, uns_55, trivial⟩
theorem uns_56 : (Try.prog.underlying 56).isSome = true := by kernel_rfl
theorem tok_56 : TOk Try.prog 56 { ti := some (false, 1), zv := some (.any), zok := some 1, by' := some 8, un := true } := ⟨ti_56, trivial, trivial, trivial, trivial, zv_56, zok_56, by_56, trivial, trivial, trivial, trivial, trivial, trivial, uns_56, trivial⟩
theorem uns_57 : (Try.prog.underlying 57).isSome = true := by kernel_rfl
theorem tok_57 : TOk Try.prog 57 { ti := some (false, 1), zv := some (.any), zok := some 1, by' := some 8, un := true } := ⟨ti_57, trivial, trivial, trivial, trivial, zv_57, zok_57, by_57, trivial, trivial, trivial, trivial, trivial, trivial, uns_57, trivial⟩
theorem uns_63 : (Try.prog.underlying 63).isSome = true := by kernel_rfl
theorem tok_63 : TOk Try.prog 63 { ti := some (false, 1), zv := some (.any), zok := some 1, by' := some 8, un := true } := ⟨ti_63, trivial, trivial, trivial, trivial, zv_63, zok_63, by_63, trivial, trivial, trivial, trivial, trivial, trivial, uns_63, trivial⟩
theorem uns_64 : (Try.prog.underlying 64).isSome = true := by kernel_rfl
theorem tok_64 : TOk Try.prog 64 { ti := some (false, 1), zv := some (.int .u32 0), zok := some 1, by' := some 4, ik := some .u32, un := true } := ⟨ti_64, trivial, trivial, trivial, trivial, zv_64, zok_64, by_64, intK_64, trivial, trivial, trivial, trivial, trivial, uns_64, trivial⟩
theorem uns_68 : (Try.prog.underlying 68).isSome = true := by kernel_rfl
theorem tok_68 : TOk Try.prog 68 { ti := some (false, 1), zv := some (.nilp), zok := some 1, by' := some 8, ptr := true, un := true } := ⟨ti_68, trivial, trivial, trivial, trivial, zv_68, zok_68, by_68, trivial, trivial, trivial, trivial, isPtr_68, trivial, uns_68, trivial⟩
def Try.tt : TT := (.node (.node (.node (.node (.node (.node .leaf 1 { ti := some (false, 1), zv := some (.any), zok := some 1, by' := some 8, un := true } .leaf) 2 { ti := some (false, 1), zv := some (.int .i64 0), zok := some 1, by' := some 8, ik := some .i64, un := true } .leaf) 3 { ti := some (false, 1), zv := some (.int .i64 0), zok := some 1, by' := some 8, ik := some .i64, un := true } (.node (.node .leaf 4 { ti := some (false, 1), zv := some (.bool false), zok := some 1, by' := some 1, boo := true, un := true } .leaf) 5 { ti := some (false, 1), zv := some (.int .u8 0), zok := some 1, by' := some 1, ik := some .u8, un := true } .leaf)) 9 { ti := some (false, 1), zv := some (.str []), zok := some 1, by' := some 16, str := true, ni := true, un := true } (.node (.node (.node .leaf 12 { ti := some (false, 1), zv := some (.int .u64 0), zok := some 1, by' := some 8, ik := some .u64, un := true } .leaf) 13 { ti := some (true, 2), fi := [some (0, (false, 1)), some (1, (false, 1))], si := some [(0, 1), (1, 1)], zv := some (.agg [.str [], .int .u64 0]), zok := some 2, by' := some 24, un := true } .leaf) 21 { ti := some (false, 1), zv := some (.int .i32 0), zok := some 1, by' := some 4, ik := some .i32, un := true } (.node (.node .leaf 22 { ti := some (false, 1), ei := some (43, 1), zv := some (.nils), zok := some 1, by' := some 24, sli := true, ni := true, un := true } .leaf) 23 { ti := some (false, 1), ei := some (4, 1), zv := some (.nils), zok := some 1, by' := some 24, sli := true, ni := true, un := true } .leaf))) 24 { ti := some (true, 2), fi := [some (0, (false, 1)), some (1, (false, 1))], si := some [(0, 1), (1, 1)], zv := some (.agg [.nils, .nils]), zok := some 2, by' := some 48, un := true } (.node (.node (.node (.node .leaf 25 { ti := some (true, 2), fi := [some (0, (false, 1)), some (1, (false, 1))], si := some [(0, 1), (1, 1)], zv := some (.agg [.nils, .nils]), zok := some 2, by' := some 48, un := true } .leaf) 26 { ti := some (false, 1), zv := some (.int .i64 0), zok := some 1, by' := some 8, ik := some .i64, un := true } .leaf) 28 { ti := some (false, 1), zv := some (.any), zok := some 1, by' := some 8, un := true } (.node (.node .leaf 29 { ti := some (false, 1), zv := some (.any), zok := some 1, by' := some 8, un := true } .leaf) 30 { ti := some (false, 1), zv := some (.any), zok := some 1, by' := some 8, un := true } .leaf)) 31 { ti := some (false, 1), ei := some (37, 2), zv := some (.nils), zok := some 1, by' := some 24, sli := true, ni := true, un := true } (.node (.node (.node .leaf 32 { ti := some (false, 1), ei := some (51, 8), zv := some (.nils), zok := some 1, by' := some 24, sli := true, ni := true, un := true } .leaf) 34 { ti := some (false, 1), zv := some (.any), zok := some 1, by' := some 8, un := true } .leaf) 35 { ti := some (false, 1), zv := some (.any), zok := some 1, by' := some 8, un := true } (.node .leaf 36 { ti := some (true, 2), fi := [some (0, (false, 1)), some (1, (false, 1))], si := some [(0, 1), (1, 1)], zv := some (.agg [.int .i64 0, .int .i64 0]), zok := some 2, by' := some 16, un := true } .leaf)))) 37 { ti := some (true, 2), fi := [some (0, (false, 1)), some (1, (false, 1))], si := some [(0, 1), (1, 1)], zv := some (.agg [.int .i64 0, .int .i64 0]), zok := some 2, by' := some 16, un := true, sq := some [.i .i64, .i .i64] } (.node (.node (.node (.node (.node .leaf 38 { ti := some (false, 1), zv := some (.any), zok := some 1, by' := some 8, un := true } .leaf) 39 { ti := some (false, 1), zv := some (.any), zok := some 1, by' := some 8, un := true } .leaf) 40 { ti := some (true, 2), fi := [some (0, (false, 1)), some (1, (false, 1))], si := some [(0, 1), (1, 1)], zv := some (.agg [.nils, .nils]), zok := some 2, by' := some 48, un := true } (.node (.node .leaf 41 { ti := some (true, 2), fi := [some (0, (false, 1)), some (1, (false, 1))], si := some [(0, 1), (1, 1)], zv := some (.agg [.nils, .nils]), zok := some 2, by' := some 48, un := true } .leaf) 42 { ti := some (false, 1), zv := some (.any), zok := some 1, by' := some 8, un := true } .leaf)) 43 { ti := some (false, 1), ei := some (3, 1), zv := some (.nils), zok := some 1, by' := some 24, sli := true, ni := true, un := true } (.node (.node (.node .leaf 44 { ti := some (false, 1), ei := some (23, 1), zv := some (.nils), zok := some 1, by' := some 24, sli := true, ni := true, un := true } .leaf) 45 { ti := some (false, 1), zv := some (.any), zok := some 1, by' := some 8, un := true } .leaf) 46 { ti := some (false, 1), zv := some (.any), zok := some 1, by' := some 8, un := true } (.node (.node .leaf 47 { ti := some (false, 1), zv := some (.any), zok := some 1, by' := some 8, un := true } .leaf) 48 { ti := some (false, 1), zv := some (.any), zok := some 1, by' := some 8, un := true } .leaf))) 49 { ti := some (false, 1), zv := some (.any), zok := some 1, by' := some 8, un := true } (.node (.node (.node (.node .leaf 50 { ti := some (false, 1), zv := some (.any), zok := some 1, by' := some 8, un := true } .leaf) 51 { ti := some (true, 8), ai := some (8, (false, 1)), zv := some (.agg [.int .i64 0, .int .i64 0, .int .i64 0, .int .i64 0, .int .i64 0, .int .i64 0, .int .i64 0, .int .i64 0]), zok := some 8, by' := some 64, un := true } .leaf) 52 { ti := some (false, 1), zv := some (.any), zok := some 1, by' := some 8, un := true } (.node (.node .leaf 54 { ti := some (false, 1), zv := some (.any), zok := some 1, by' := some 8, un := true } .leaf) 55 { ti := some (false, 1), zv := some (.any), zok := some 1, by' := some 8, un := true } .leaf)) 56 { ti := some (false, 1), zv := some (.any), zok := some 1, by' := some 8, un := true } (.node (.node (.node .leaf 57 { ti := some (false, 1), zv := some (.any), zok := some 1, by' := some 8, un := true } .leaf) 63 { ti := some (false, 1), zv := some (.any), zok := some 1, by' := some 8, un := true } .leaf) 64 { ti := some (false, 1), zv := some (.int .u32 0), zok := some 1, by' := some 4, ik := some .u32, un := true } (.node .leaf 68 { ti := some (false, 1), zv := some (.nilp), zok := some 1, by' := some 8, ptr := true, un := true } .leaf)))))
theorem tt_all : TT.All Try.prog Try.tt := ⟨⟨⟨⟨⟨⟨trivial, tok_1, trivial⟩, tok_2, trivial⟩, tok_3, ⟨⟨trivial, tok_4, trivial⟩, tok_5, trivial⟩⟩, tok_9, ⟨⟨⟨trivial, tok_12, trivial⟩, tok_13, trivial⟩, tok_21, ⟨⟨trivial, tok_22, trivial⟩, tok_23, trivial⟩⟩⟩, tok_24, ⟨⟨⟨⟨trivial, tok_25, trivial⟩, tok_26, trivial⟩, tok_28, ⟨⟨trivial, tok_29, trivial⟩, tok_30, trivial⟩⟩, tok_31, ⟨⟨⟨trivial, tok_32, trivial⟩, tok_34, trivial⟩, tok_35, ⟨trivial, tok_36, trivial⟩⟩⟩⟩, tok_37, ⟨⟨⟨⟨⟨trivial, tok_38, trivial⟩, tok_39, trivial⟩, tok_40, ⟨⟨trivial, tok_41, trivial⟩, tok_42, trivial⟩⟩, tok_43, ⟨⟨⟨trivial, tok_44, trivial⟩, tok_45, trivial⟩, tok_46, ⟨⟨trivial, tok_47, trivial⟩, tok_48, trivial⟩⟩⟩, tok_49, ⟨⟨⟨⟨trivial, tok_50, trivial⟩, tok_51, trivial⟩, tok_52, ⟨⟨trivial, tok_54, trivial⟩, tok_55, trivial⟩⟩, tok_56, ⟨⟨⟨trivial, tok_57, trivial⟩, tok_63, trivial⟩, tok_64, ⟨trivial, tok_68, trivial⟩⟩⟩⟩⟩
theorem hasBody_3 : hasBody Try.prog 3 = true := by kernel_rfl
theorem hasBody_4 : hasBody Try.prog 4 = true := by kernel_rfl
theorem hasBody_5 : hasBody Try.prog 5 = true := by kernel_rfl
theorem hasBody_6 : hasBody Try.prog 6 = true := by kernel_rfl
theorem hasBody_7 : hasBody Try.prog 7 = true := by kernel_rfl
theorem hasBody_8 : hasBody Try.prog 8 = true := by kernel_rfl
theorem hasBody_9 : hasBody Try.prog 9 = true := by kernel_rfl
theorem hasBody_10 : hasBody Try.prog 10 = true := by kernel_rfl
theorem hasBody_11 : hasBody Try.prog 11 = true := by kernel_rfl
theorem hasBody_12 : hasBody Try.prog 12 = true := by kernel_rfl
theorem hasBody_13 : hasBody Try.prog 13 = true := by kernel_rfl
theorem hasBody_14 : hasBody Try.prog 14 = true := by kernel_rfl
theorem hasBody_15 : hasBody Try.prog 15 = true := by kernel_rfl
theorem hasBody_16 : hasBody Try.prog 16 = true := by kernel_rfl
theorem hasBody_17 : hasBody Try.prog 17 = true := by kernel_rfl
theorem hasBody_18 : hasBody Try.prog 18 = true := by kernel_rfl
theorem hasBody_19 : hasBody Try.prog 19 = true := by kernel_rfl
theorem hasBody_20 : hasBody Try.prog 20 = true := by kernel_rfl
theorem hasBody_21 : hasBody Try.prog 21 = true := by kernel_rfl
theorem follows_all : Try.prog.follows .mixedOrders = true := by kernel_rfl
end Go.Proofs.Ytmjglpdfkkmcoaa
