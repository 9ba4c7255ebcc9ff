/- strings.IndexByte by the kit's contract. No conditions. -/
import Derived.Test.YtaeeceabnkgnnaaDoorJoin
import Derived.Shelf.Small.Strs
set_option linter.unusedSimpArgs false
set_option linter.unusedVariables false
set_option maxRecDepth 100000
namespace Go.Proofs.YtaeeceabnkgnnaaDoor
open Go.RowKit Go.Shelf

def renIdx : Ren := {
  f := fun x => match x with | 137 => 33 | 217 => 58 | 266 => 78 | n => n
  t := fun x => match x with | 9 => 9 | 5 => 5 | 3 => 3 | n => n
  g := fun x => x }
theorem laysIdx : Lays.n137 Tryd.prog renIdx := {
  mixed := by kernel_rfl
  f137 := Tryd.func33.trans (congrArg some (by kernel_rfl))
  f217 := Tryd.func58.trans (congrArg some (by kernel_rfl))
  f266 := Tryd.func78.trans (congrArg some (by kernel_rfl))
  t3 := Tryd.underlying3
  a3 := Tryd.isAgg3
  z3 := Tryd.sizeOf3
  v3 := Tryd.zeroValue3
  t5 := Tryd.underlying5
  a5 := Tryd.isAgg5
  z5 := Tryd.sizeOf5
  v5 := Tryd.zeroValue5
  t9 := Tryd.underlying9
  a9 := Tryd.isAgg9
  z9 := Tryd.sizeOf9
  v9 := Tryd.zeroValue9 }
/-- A call that answers with a scalar and leaves the world as it is. -/
theorem fn1_same {P : Program} {f : FuncId} {w : World} {I : Nat → Prop} {vs : List Value} {v0 : Value} {r0 : V} (hI : ∀ b, I b → b < w.heap.size) (hp : Pr w I v0 r0)
    (h : Calls P f vs.toArray w fun e w' => e = .returned v0 ∧ w' = w) :
    Calls P f vs.toArray w fun e w' => ∃ v r I', e = .returned v ∧ r = r0 ∧ Pr w' I' v r ∧ (∀ b, I' b → b < w'.heap.size ∧ (I b ∨ w.heap.size ≤ b)) ∧ Kept (fun _ => False) w w' := by
  refine h.mono ?_
  rintro e w' ⟨rfl, rfl⟩
  exact ⟨_, _, I, rfl, rfl, hp, fun b hIb => ⟨hI b hIb, .inl hIb⟩, Kept.refl _ _⟩
theorem pr_int_inv {w : World} {I : Nat → Prop} {v : Value} {k : IntKind} {n : Int} (h : Pr w I v (.int k n)) : v = .int k n := by
  generalize hx : V.int k n = x at h
  cases h with
  | int k' n' => cases hx; rfl
  | _ => cases hx
theorem idx_byte (s : List UInt8) (c : UInt8) : Fn1 Tryd.prog 33 [.str s, .int .u8 c.toNat] (fun r => r = .int .i64 (Lib.indexByte s c)) := by
  intro w I vs hl hv hI
  obtain ⟨v0, v1, rfl⟩ : ∃ v0 v1, vs = [v0, v1] := by
    match vs, hl with
    | [a, b], _ => exact ⟨a, b, rfl⟩
  obtain ⟨rfl, hs⟩ := pr_str_inv (hv 0 v0 _ rfl rfl)
  obtain rfl := pr_int_inv (hv 1 v1 _ rfl rfl)
  refine fn1_same hI (.int .i64 (Lib.indexByte s c)) ?_
  have h := Any.strings_IndexByte laysIdx ⟨s.toArray⟩ (c.toNat : Int) w
  rw [show ((c.toNat : Int)).toNat.toUInt8 = c by simp] at h
  exact h
end Go.Proofs.YtaeeceabnkgnnaaDoor
