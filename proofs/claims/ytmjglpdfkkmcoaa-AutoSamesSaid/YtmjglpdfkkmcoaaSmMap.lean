/- A map whose keys are two ints. No conditions. -/
import Derived.Test.YtmjglpdfkkmcoaaSmLaw
import Derived.Test.YtmjglpdfkkmcoaaMps
set_option linter.unusedSimpArgs false
set_option linter.unusedVariables false
set_option maxRecDepth 100000
namespace Go.Proofs.Ytmjglpdfkkmcoaa
open Go.RowKit

def pkV (p : Int × Int) : Value := .agg #[.int .i64 p.1, .int .i64 p.2]
def pairA (p : Int × Int) : V := .agg [.int .i64 p.1, .int .i64 p.2]
theorem equal_pair (p q : Int × Int) (w : World) : (Op.equal 37 (pkV p) (pkV q)).run Try.prog w = .ok (decide (p = q)) w := by
  have hu : Try.prog.underlying 37 = some (.struct (Try.prog.fieldsOf 37)) := by kernel_rfl
  unfold Op.equal pkV
  have := run_equalIn_struct (P := Try.prog) w 9999 37 #[.int .i64 p.1, .int .i64 p.2] #[.int .i64 q.1, .int .i64 q.2] hu (by kernel_rfl)
  refine this.trans ?_
  have hf : ((Try.prog.fieldsOf 37).toList.map fun f => (f.name == "_", f.type, f.offset)) = [(false, 3, 0), (false, 3, 1)] := by kernel_rfl
  generalize (Try.prog.fieldsOf 37).toList = l at hf
  match l, hf with
  | [f, g], hf =>
    simp only [List.map_cons, List.map_nil, List.cons.injEq, Prod.mk.injEq, and_true, beq_eq_false_iff_ne] at hf
    obtain ⟨⟨e1, e2, e3⟩, e4, e5, e6⟩ := hf
    have hi := Try.underlying3
    have hz : ∀ w, (sizeOf 3).run Try.prog w = .ok 1 w := fun w => Try.sizeOf3 w
    have ha : ∀ w, (isAgg 3).run Try.prog w = .ok false w := fun w => Try.isAgg3 w
    have h1 := fun w a b => run_equalIn_int (P := Try.prog) w 9998 3 .i64 .i64 a b hi
    simp [Op.eqFields, e1, e2, e3, e4, e5, e6, h1, hz, ha, part, go_sem]
    obtain ⟨a, b⟩ := p
    obtain ⟨c, d⟩ := q
    by_cases h1 : a = c
    · by_cases h2 : b = d
      · simp [h1, h2]
      · simp [h1, h2]
    · simp [h1]
  | [], hf => simp at hf
  | [_], hf => simp at hf
  | _ :: _ :: _ :: _, hf => simp at hf
theorem check_pair (e : Bool) (p : Int × Int) (w : World) : (Instr.checkKey e 10000 37 (pkV p)).run Try.prog w = .ok () w := by
  have hu : Try.prog.underlying 37 = some (.struct (Try.prog.fieldsOf 37)) := by kernel_rfl
  have hf : ((Try.prog.fieldsOf 37).toList.map fun f => (f.name == "_", f.type, f.offset)) = [(false, 3, 0), (false, 3, 1)] := by kernel_rfl
  have hi := Try.underlying3
  have hz : ∀ w, (sizeOf 3).run Try.prog w = .ok 1 w := fun w => Try.sizeOf3 w
  have ha : ∀ w, (isAgg 3).run Try.prog w = .ok false w := fun w => Try.isAgg3 w
  have hc : ∀ (w : World) (a : Int), (Instr.checkKey e 9999 3 (.int .i64 a)).run Try.prog w = .ok () w := fun w a => by
    unfold Instr.checkKey
    simp [run_underlying hi, go_sem]
  unfold pkV Instr.checkKey
  simp only [Sem.run_bind, run_underlying hu, Result.andThen_ok]
  rw [← Array.forIn_toList]
  generalize (Try.prog.fieldsOf 37).toList = l at hf
  match l, hf with
  | [f, g], hf =>
    simp only [List.map_cons, List.map_nil, List.cons.injEq, Prod.mk.injEq, and_true, beq_eq_false_iff_ne] at hf
    obtain ⟨⟨e1, e2, e3⟩, e4, e5, e6⟩ := hf
    simp [e1, e2, e3, e4, e5, e6, hc, hz, ha, part, go_sem]
  | [], hf => simp at hf
  | [_], hf => simp at hf
  | _ :: _ :: _ :: _, hf => simp at hf
theorem pair_key : KeyOk Try.prog 50 pkV pairA where
  map := ⟨37, 3, by kernel_rfl, fun w => Try.zeroValue3 w, check_pair, fun a w L es h => find_by_asking (d := .struct (Try.prog.fieldsOf 37)) (by kernel_rfl) (fun _ _ => rfl) equal_pair a w L es h⟩
  rep := fun w I bl v a h => by
    obtain ⟨vs, rfl, hl, _, hr⟩ := h.inv_agg
    match vs, hl with
    | [x, y], _ =>
      rw [(hr 0 x _ rfl rfl).inv_int, (hr 1 y _ rfl rfl).inv_int]
      rfl
end Go.Proofs.Ytmjglpdfkkmcoaa
