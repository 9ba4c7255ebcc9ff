/- Abstract walk: the equations by which a walk unfolds. No conditions. -/
import Derived.Test.YteabokphchpifaaAwj
set_option linter.unusedSimpArgs false
set_option linter.unusedVariables false
namespace Go.Proofs.Yteabokphchpifaa
open Go.RowKit

def CondK (v : V) (A B : Prop) : Prop := match v with | .bool t => (t = true → A) ∧ (t = false → B) | _ => False
theorem CondK_bool (t : Bool) (A B : Prop) : CondK (.bool t) A B = ((t = true → A) ∧ (t = false → B)) := rfl
theorem CondK_true (A B : Prop) : CondK (.bool true) A B = A := by simp [CondK]
theorem CondK_false (A B : Prop) : CondK (.bool false) A B = B := by simp [CondK]
def GuardK (v : V) (want : Bool) (A B : Prop) : Prop := match v with | .bool b => (b = want → A) ∧ (b ≠ want → B) | .tup _ => B | _ => False
theorem GuardK_u (l : List V) (want : Bool) (A B : Prop) : GuardK (.tup l) want A B = B := rfl
theorem GuardK_tt (A B : Prop) : GuardK (.bool true) true A B = A := by simp [GuardK]
theorem GuardK_ff (A B : Prop) : GuardK (.bool false) false A B = A := by simp [GuardK]
theorem GuardK_tf (A B : Prop) : GuardK (.bool true) false A B = B := by simp [GuardK]
theorem GuardK_ft (A B : Prop) : GuardK (.bool false) true A B = B := by simp [GuardK]
theorem GuardK_t (b : Bool) (A B : Prop) : GuardK (.bool b) true A B = ((b = true → A) ∧ (b = false → B)) := by simp [GuardK]
theorem GuardK_f (b : Bool) (A B : Prop) : GuardK (.bool b) false A B = ((b = false → A) ∧ (b = true → B)) := by simp [GuardK]

section
variable {C : Ctx} {Q : Exit → St → Prop} {σ : St} {K : V → St → Prop}
theorem W_condK (c : Operand) (x y : Code) : W C (.cond c x y) Q σ = CondK (σ.val c) (W C x Q σ) (W C y Q σ) := rfl
theorem W_reg (id : Nat) (l : List Oper) : W C (.region id l.toArray false) Q σ = AOps C (Step C) l.toArray (Q .normal) l σ := by
  simp [W_region]
theorem InB_exit_same (id : Nat) : InB id Q (.exit id) σ = Q .normal σ := if_pos rfl
theorem InB_exit_other (id id' : Nat) (h : (id' == id) = false) : InB id Q (.exit id') σ = Q (.exit id') σ := if_neg (by simpa using h)

variable {step : Oper → St → (V → St → Prop) → Prop} {ops : Array Oper} {k : St → Prop} {rest : List Oper} {d : Option Tmp} {ty : TypeId} {pos : String} {after : Array Edge} {g : Option (Nat × Bool)}
theorem AOps_nil : AOps C step ops k [] σ = k σ := rfl
theorem AOps_plain (op : Op) : AOps C step ops k ({ dst := d, op := op, type := ty, pos := pos, after := after, guard := none } :: rest) σ = step { dst := d, op := op, type := ty, pos := pos, after := after, guard := none } σ (PutK d (AOps C step ops k rest)) := rfl
theorem AOps_guard (op : Op) (j : Nat) (want : Bool) : AOps C step ops k ({ dst := d, op := op, type := ty, pos := pos, after := after, guard := some (j, want) } :: rest) σ =
    GuardK (guardOf ops σ j) want (step { dst := d, op := op, type := ty, pos := pos, after := after, guard := some (j, want) } σ (PutK d (AOps C step ops k rest))) (AOps C step ops k rest (σ.put d (.tup []))) := rfl
theorem guardOf_zero (t : Tmp) (op : Op) (r : List Oper) : guardOf ({ dst := some t, op := op, type := ty, pos := pos, after := after, guard := g } :: r).toArray σ 0 = σ.env.getD t .any := by simp [guardOf]
theorem guardOf_succ (o : Oper) (r : List Oper) (j : Nat) : guardOf (o :: r).toArray σ (j + 1) = guardOf r.toArray σ j := by simp [guardOf]
theorem QOps_nil : QOps C ops k [] σ = k σ := rfl
theorem QOps_plain (op : Op) : QOps C ops k ({ dst := d, op := op, type := ty, pos := pos, after := after, guard := none } :: rest) σ = QX C ops rest.length { dst := d, op := op, type := ty, pos := pos, after := after, guard := none } σ (PutK d (QOps C ops k rest)) := rfl
theorem QOps_guard (op : Op) (j : Nat) (want : Bool) : QOps C ops k ({ dst := d, op := op, type := ty, pos := pos, after := after, guard := some (j, want) } :: rest) σ =
    GuardK (guardOf ops σ j) want (QStep C { dst := d, op := op, type := ty, pos := pos, after := after, guard := some (j, want) } σ (PutK d (QOps C ops k rest))) (QOps C ops k rest (σ.put d (.tup []))) := rfl

theorem S_move (x : Operand) : Step C ⟨d, .move x, ty, pos, after, g⟩ σ K = K (σ.val x) σ := rfl
theorem S_assign (x : Operand) : Step C ⟨d, .assign x, ty, pos, after, g⟩ σ K = K (σ.val x) σ := rfl
theorem S_pick (c a b : Operand) : Step C ⟨d, .pick c a b, ty, pos, after, g⟩ σ K = PickK (σ.val c) (σ.val a) (σ.val b) K σ := rfl
theorem S_bin (op : BinOp) (t t' : TypeId) (x y : Operand) : Step C ⟨d, .binOp op t x y t', ty, pos, after, g⟩ σ K = BinX C.P t op (σ.val x) (σ.val y) K σ := rfl
theorem S_un (op : UnOp) (t : TypeId) (x : Operand) : Step C ⟨d, .unOp op t x, ty, pos, after, g⟩ σ K = UnK op (σ.val x) K σ := rfl
theorem S_conv (s t : TypeId) (x : Operand) : Step C ⟨d, .convert s t x, ty, pos, after, g⟩ σ K = ConvX C s t (σ.val x) K σ := rfl
theorem S_range (t : TypeId) (x : Operand) : Step C ⟨d, .range t x, ty, pos, after, g⟩ σ K = RangeK C t (σ.val x) K σ := rfl
theorem S_next (x : Operand) (b : Bool) : Step C ⟨d, .next x b, ty, pos, after, g⟩ σ K = NextK (σ.val x) b K σ := rfl
theorem S_max (x y : Operand) (ts : Array TypeId) : Step C ⟨d, .call ⟨.builtin .max, #[x, y], ts⟩, ty, pos, after, g⟩ σ K = MaxK maxI (σ.val x) (σ.val y) K σ := rfl
theorem S_min (x y : Operand) (ts : Array TypeId) : Step C ⟨d, .call ⟨.builtin .min, #[x, y], ts⟩, ty, pos, after, g⟩ σ K = MaxK minI (σ.val x) (σ.val y) K σ := rfl
theorem S_extr (x : Operand) (i : Nat) : Step C ⟨d, .extract x i, ty, pos, after, g⟩ σ K = ExtrK (σ.val x) i K σ := rfl
theorem S_fld (s : TypeId) (x : Operand) (f : Nat) : Step C ⟨d, .field s x f, ty, pos, after, g⟩ σ K = FldK C s (σ.val x) f K σ := rfl
theorem S_idx (t : TypeId) (x i : Operand) : Step C ⟨d, .index t x i, ty, pos, after, g⟩ σ K = IdxK C t (σ.val x) (σ.val i) K σ := rfl
theorem S_slice (t : TypeId) (x : Operand) (lo hi : Option Operand) : Step C ⟨d, .slice t x lo hi none, ty, pos, after, g⟩ σ K = SliceK C.P t (σ.val x) (lo.map σ.val) (hi.map σ.val) K σ := rfl
theorem S_idxAddr (t : TypeId) (x i : Operand) : Step C ⟨d, .indexAddr t x i, ty, pos, after, g⟩ σ K = IdxAddrK C t (σ.val x) (σ.val i) K σ := rfl
theorem S_fldAddr (s : TypeId) (x : Operand) (f : Nat) : Step C ⟨d, .fieldAddr s x f, ty, pos, after, g⟩ σ K = FldAddrK C s (σ.val x) f K σ := rfl
theorem S_load (t : TypeId) (x : Operand) : Step C ⟨d, .load t x, ty, pos, after, g⟩ σ K = LoadK C t (σ.val x) K σ := rfl
theorem S_store (t : TypeId) (x y : Operand) : Step C ⟨d, .store t x y, ty, pos, after, g⟩ σ K = StoreK C t (σ.val x) (σ.val y) K σ := rfl
theorem S_box (t : TypeId) (x : Operand) : Step C ⟨d, .box t x, ty, pos, after, g⟩ σ K = BoxK C t (σ.val x) K σ := rfl
theorem S_alloc (t : TypeId) : Step C ⟨d, .alloc t, ty, pos, after, g⟩ σ K = AllocK C t K σ := rfl
theorem S_build (t : TypeId) (ps : List (Nat × Operand)) : Step C ⟨d, .build t ps.toArray, ty, pos, after, g⟩ σ K = BuildK C t (ps.map fun p => (p.1, σ.val p.2)) K σ := by simp [Step]
theorem S_fn (fn : Fn) (first cap : List Operand) : Step C ⟨d, .makeFunc fn first.toArray cap.toArray, ty, pos, after, g⟩ σ K = FnK fn (first.map σ.val) (cap.map σ.val) K σ := by simp [Step]
theorem S_bslice (t : TypeId) (n : Nat) (ps : List (Nat × Operand)) : Step C ⟨d, .buildSlice t n ps.toArray, ty, pos, after, g⟩ σ K = BSliceK C t n (ps.map fun p => (p.1, σ.val p.2)) K σ := by simp [Step]
theorem S_nilck (x : Operand) : Step C ⟨d, .nilCheck x, ty, pos, after, g⟩ σ K = NilCkK (σ.val x) K σ := rfl
theorem S_len (x : Operand) (t : TypeId) : Step C ⟨d, .call ⟨.builtin .len, #[x], #[t]⟩, ty, pos, after, g⟩ σ K = LenK C.P t (σ.val x) K σ := rfl
theorem S_app (s x : Operand) (t t' : TypeId) : Step C ⟨d, .call ⟨.builtin .append, #[s, x], #[t, t']⟩, ty, pos, after, g⟩ σ K = AppK C t t' (σ.val s) (σ.val x) K σ := rfl
theorem S_call (f : Operand) (args : List Operand) (ts : Array TypeId) : Step C ⟨d, .call ⟨.value f, args.toArray, ts⟩, ty, pos, after, g⟩ σ K = CallK C f args K σ := by
  unfold Step
  simp

theorem Q_move (x : Operand) : QStep C ⟨d, .move x, ty, pos, after, g⟩ σ K = K (σ.val x) σ := rfl
theorem Q_assign (x : Operand) : QStep C ⟨d, .assign x, ty, pos, after, g⟩ σ K = K (σ.val x) σ := rfl
theorem Q_pick (c a b : Operand) : QStep C ⟨d, .pick c a b, ty, pos, after, g⟩ σ K = PickK (σ.val c) (σ.val a) (σ.val b) K σ := rfl
theorem Q_bin (op : BinOp) (t t' : TypeId) (x y : Operand) : QStep C ⟨d, .binOp op t x y t', ty, pos, after, g⟩ σ K = BinQ C.P t op (σ.val x) (σ.val y) K σ := rfl
theorem Q_un (op : UnOp) (t : TypeId) (x : Operand) : QStep C ⟨d, .unOp op t x, ty, pos, after, g⟩ σ K = UnK op (σ.val x) K σ := rfl
theorem Q_conv (s t : TypeId) (x : Operand) : QStep C ⟨d, .convert s t x, ty, pos, after, g⟩ σ K = ConvQ C s t (σ.val x) K σ := rfl
theorem Q_extr (x : Operand) (i : Nat) : QStep C ⟨d, .extract x i, ty, pos, after, g⟩ σ K = ExtrK (σ.val x) i K σ := rfl
theorem Q_fld (s : TypeId) (x : Operand) (f : Nat) : QStep C ⟨d, .field s x f, ty, pos, after, g⟩ σ K = FldK C s (σ.val x) f K σ := rfl
theorem Q_idx (t : TypeId) (x i : Operand) : QStep C ⟨d, .index t x i, ty, pos, after, g⟩ σ K = IdxK C t (σ.val x) (σ.val i) K σ := rfl
theorem Q_slice (t : TypeId) (x : Operand) (lo hi : Option Operand) : QStep C ⟨d, .slice t x lo hi none, ty, pos, after, g⟩ σ K = SliceK C.P t (σ.val x) (lo.map σ.val) (hi.map σ.val) K σ := rfl
theorem Q_idxAddr (t : TypeId) (x i : Operand) : QStep C ⟨d, .indexAddr t x i, ty, pos, after, g⟩ σ K = IdxAddrK C t (σ.val x) (σ.val i) K σ := rfl
theorem Q_fldAddr (s : TypeId) (x : Operand) (f : Nat) : QStep C ⟨d, .fieldAddr s x f, ty, pos, after, g⟩ σ K = FldAddrK C s (σ.val x) f K σ := rfl
theorem Q_load (t : TypeId) (x : Operand) : QStep C ⟨d, .load t x, ty, pos, after, g⟩ σ K = LoadK C t (σ.val x) K σ := rfl
theorem Q_fn (fn : Fn) (first cap : List Operand) : QStep C ⟨d, .makeFunc fn first.toArray cap.toArray, ty, pos, after, g⟩ σ K = FnK fn (first.map σ.val) (cap.map σ.val) K σ := by simp [QStep]
theorem Q_nilck (x : Operand) : QStep C ⟨d, .nilCheck x, ty, pos, after, g⟩ σ K = NilCkK (σ.val x) K σ := rfl
theorem Q_len (x : Operand) (t : TypeId) : QStep C ⟨d, .call ⟨.builtin .len, #[x], #[t]⟩, ty, pos, after, g⟩ σ K = LenQ C.P t (σ.val x) K σ := rfl
theorem Q_call (f : Operand) (args : List Operand) (ts : Array TypeId) : QStep C ⟨d, .call ⟨.value f, args.toArray, ts⟩, ty, pos, after, g⟩ σ K = CallQ C f args K σ := by
  unfold QStep
  simp
variable {nn : Nat}
theorem X_move (x : Operand) : QX C ops nn ⟨d, .move x, ty, pos, after, g⟩ σ K = K (σ.val x) σ := rfl
theorem X_assign (x : Operand) : QX C ops nn ⟨d, .assign x, ty, pos, after, g⟩ σ K = K (σ.val x) σ := rfl
theorem X_pick (c a b : Operand) : QX C ops nn ⟨d, .pick c a b, ty, pos, after, g⟩ σ K = PickK (σ.val c) (σ.val a) (σ.val b) K σ := rfl
theorem X_bin (op : BinOp) (t t' : TypeId) (x y : Operand) : QX C ops nn ⟨d, .binOp op t x y t', ty, pos, after, g⟩ σ K = BinQ C.P t op (σ.val x) (σ.val y) K σ := rfl
theorem X_un (op : UnOp) (t : TypeId) (x : Operand) : QX C ops nn ⟨d, .unOp op t x, ty, pos, after, g⟩ σ K = UnK op (σ.val x) K σ := rfl
theorem X_conv (s t : TypeId) (x : Operand) : QX C ops nn ⟨d, .convert s t x, ty, pos, after, g⟩ σ K = ConvQ C s t (σ.val x) K σ := rfl
theorem X_extr (x : Operand) (i : Nat) : QX C ops nn ⟨d, .extract x i, ty, pos, after, g⟩ σ K = ExtrK (σ.val x) i K σ := rfl
theorem X_fld (s : TypeId) (x : Operand) (f : Nat) : QX C ops nn ⟨d, .field s x f, ty, pos, after, g⟩ σ K = FldK C s (σ.val x) f K σ := rfl
theorem X_idx (t : TypeId) (x i : Operand) : QX C ops nn ⟨d, .index t x i, ty, pos, after, g⟩ σ K = IdxK C t (σ.val x) (σ.val i) K σ := rfl
theorem X_slice (t : TypeId) (x : Operand) (lo hi : Option Operand) : QX C ops nn ⟨d, .slice t x lo hi none, ty, pos, after, g⟩ σ K = SliceK C.P t (σ.val x) (lo.map σ.val) (hi.map σ.val) K σ := rfl
theorem X_idxAddr (t : TypeId) (x i : Operand) : QX C ops nn ⟨d, .indexAddr t x i, ty, pos, after, g⟩ σ K = IdxAddrK C t (σ.val x) (σ.val i) K σ := rfl
theorem X_fldAddr (s : TypeId) (x : Operand) (f : Nat) : QX C ops nn ⟨d, .fieldAddr s x f, ty, pos, after, g⟩ σ K = FldAddrK C s (σ.val x) f K σ := rfl
theorem X_load (t : TypeId) (x : Operand) : QX C ops nn ⟨d, .load t x, ty, pos, after, g⟩ σ K = LoadK C t (σ.val x) K σ := rfl
theorem X_fn (fn : Fn) (first cap : List Operand) : QX C ops nn ⟨d, .makeFunc fn first.toArray cap.toArray, ty, pos, after, g⟩ σ K = FnK fn (first.map σ.val) (cap.map σ.val) K σ := by unfold QX; simp only [Q_fn]
theorem X_nilck (x : Operand) : QX C ops nn ⟨d, .nilCheck x, ty, pos, after, g⟩ σ K = NilCkK (σ.val x) K σ := rfl
theorem X_len (x : Operand) (t : TypeId) : QX C ops nn ⟨d, .call ⟨.builtin .len, #[x], #[t]⟩, ty, pos, after, g⟩ σ K = LenQ C.P t (σ.val x) K σ := rfl
theorem X_call (f : Operand) (args : List Operand) (ts : Array TypeId) : QX C ops nn ⟨d, .call ⟨.value f, args.toArray, ts⟩, ty, pos, after, g⟩ σ K = CallQ C f args K σ := by unfold QX; simp only [Q_call]
theorem X_store (t : TypeId) (x y : Operand) : QX C ops nn ⟨d, .store t x y, ty, pos, after, g⟩ σ K = (barB .any ops (ops.size - (nn + 1)) = true ∧ StoreK C t (σ.val x) (σ.val y) K σ) := rfl
theorem X_box (t : TypeId) (x : Operand) : QX C ops nn ⟨d, .box t x, ty, pos, after, g⟩ σ K = (barB .any ops (ops.size - (nn + 1)) = true ∧ BoxK C t (σ.val x) K σ) := rfl
theorem X_alloc (t : TypeId) : QX C ops nn ⟨d, .alloc t, ty, pos, after, g⟩ σ K = (barB .any ops (ops.size - (nn + 1)) = true ∧ AllocK C t K σ) := rfl
theorem X_build (t : TypeId) (ps : List (Nat × Operand)) : QX C ops nn ⟨d, .build t ps.toArray, ty, pos, after, g⟩ σ K = (barB .any ops (ops.size - (nn + 1)) = true ∧ BuildK C t (ps.map fun p => (p.1, σ.val p.2)) K σ) := by unfold QX; simp only [S_build]
theorem X_bslice (t : TypeId) (n : Nat) (ps : List (Nat × Operand)) : QX C ops nn ⟨d, .buildSlice t n ps.toArray, ty, pos, after, g⟩ σ K = (barB .any ops (ops.size - (nn + 1)) = true ∧ BSliceK C t n (ps.map fun p => (p.1, σ.val p.2)) K σ) := by unfold QX; simp only [S_bslice]
theorem X_app (s x : Operand) (t t' : TypeId) : QX C ops nn ⟨d, .call ⟨.builtin .append, #[s, x], #[t, t']⟩, ty, pos, after, g⟩ σ K = (barB .any ops (ops.size - (nn + 1)) = true ∧ AppK C t t' (σ.val s) (σ.val x) K σ) := rfl
end

/-! ### Slots -/
theorem val_tmp (env : List V) (h : List (Option Ob)) (t : Nat) : St.val ⟨env, h⟩ (.tmp t) = env.getD t .any := rfl
theorem val_func (σ : St) (f : FuncId) : σ.val (.func f) = .fn f [] := rfl
theorem val_cbool (σ : St) (b : Bool) : σ.val (.const (.bool b)) = .bool b := rfl
theorem val_cint (σ : St) (k : IntKind) (n : Int) : σ.val (.const (.int k n)) = .int k n := rfl
theorem val_cnil (σ : St) : σ.val (.const (.slice none 0 0)) = .nils := rfl
theorem val_cnilp (σ : St) : σ.val (.const (.pointer none)) = .nilp := rfl
theorem val_cstr (σ : St) (a : Array UInt8) (h : decide (a.size ≤ 1000) = true) : σ.val (.const (.string ⟨a⟩)) = .str a.toList := by
  have : (⟨a⟩ : ByteArray).size ≤ maxLen := by
    have h' : a.size ≤ 1000 := by simpa using h
    show a.size ≤ maxLen
    simp only [maxLen]
    omega
  show (if (⟨a⟩ : ByteArray).size ≤ maxLen then V.str _ else V.any) = _
  rw [if_pos this]
theorem val_cagg (σ : St) (cs : List Value) (h : cs.all (·.oneCell') = true) : σ.val (.const (.agg cs.toArray)) = .agg (cs.map V.ofCell) := by
  show (if cs.toArray.toList.all (·.oneCell') = true then V.agg (cs.toArray.toList.map V.ofCell) else V.any) = _
  rw [if_pos (by simpa using h)]
theorem ofCell_bool (b : Bool) : V.ofCell (.bool b) = .bool b := rfl
theorem ofCell_int (k : IntKind) (n : Int) : V.ofCell (.int k n) = .int k n := rfl
theorem ofCell_nil : V.ofCell (.slice none 0 0) = .nils := rfl
theorem ofCell_nilp : V.ofCell (.pointer none) = .nilp := rfl
theorem ofCell_str (a : Array UInt8) (h : decide (a.size ≤ 1000) = true) : V.ofCell (.string ⟨a⟩) = .str a.toList := by
  have : (⟨a⟩ : ByteArray).size ≤ maxLen := by
    have h' : a.size ≤ 1000 := by simpa using h
    show a.size ≤ maxLen
    simp only [maxLen]
    omega
  show (if (⟨a⟩ : ByteArray).size ≤ maxLen then V.str _ else V.any) = _
  rw [if_pos this]
theorem put_some (env : List V) (h : List (Option Ob)) (t : Nat) (x : V) : St.put ⟨env, h⟩ (some t) x = ⟨env.set t x, h⟩ := rfl
theorem put_none (σ : St) (x : V) : σ.put none x = σ := rfl
theorem row_eq (env : List V) (h : List (Option Ob)) (id : Nat) : St.row ⟨env, h⟩ id = match h[id]? with | some (some (.row z els)) => some (z, els) | _ => none := rfl

/-! ### The steps at values that are known -/
section
variable {C : Ctx} {P : Program} {t : TypeId} {K : V → St → Prop} {σ : St}
theorem LenK_str (s : List UInt8) : LenK P t (.str s) K σ = (isStr P t = true ∧ (s.length ≤ maxLen → K (.int .i64 s.length) σ)) := rfl
theorem LenK_lst (l : List V) : LenK P t (.lst l) K σ = (isSli P t = true ∧ (l.length ≤ maxLen → K (.int .i64 l.length) σ)) := rfl
theorem LenK_nils : LenK P t .nils K σ = (isSli P t = true ∧ K (.int .i64 0) σ) := rfl
theorem LenK_sl (id off n : Nat) : LenK P t (.sl id off n) K σ = (isSli P t = true ∧ (n ≤ maxLen → K (.int .i64 n) σ)) := rfl
theorem LenQ_str (s : List UInt8) : LenQ P t (.str s) K σ = (isStr P t = true ∧ K (.int .i64 s.length) σ) := rfl
theorem LenQ_lst (l : List V) : LenQ P t (.lst l) K σ = (isSli P t = true ∧ K (.int .i64 l.length) σ) := rfl
theorem LenQ_nils : LenQ P t .nils K σ = (isSli P t = true ∧ K (.int .i64 0) σ) := rfl
theorem LenQ_sl (id off n : Nat) : LenQ P t (.sl id off n) K σ = (isSli P t = true ∧ K (.int .i64 n) σ) := rfl
theorem Bin_add (k k' : IntKind) (a b : Int) : BinK P t .add (.int k a) (.int k' b) K σ = (k = k' ∧ K (.int k (k.wrap (a + b))) σ) := rfl
theorem Bin_sub (k k' : IntKind) (a b : Int) : BinK P t .sub (.int k a) (.int k' b) K σ = (k = k' ∧ K (.int k (k.wrap (a - b))) σ) := rfl
theorem Bin_mul (k k' : IntKind) (a b : Int) : BinK P t .mul (.int k a) (.int k' b) K σ = (k = k' ∧ K (.int k (k.wrap (a * b))) σ) := rfl
theorem Bin_quo (k k' : IntKind) (a b : Int) : BinK P t .quo (.int k a) (.int k' b) K σ = (k = k' ∧ b ≠ 0 ∧ K (.int k (k.wrap (a.tdiv b))) σ) := rfl
theorem Bin_rem (k k' : IntKind) (a b : Int) : BinK P t .rem (.int k a) (.int k' b) K σ = (k = k' ∧ b ≠ 0 ∧ K (.int k (a.tmod b)) σ) := rfl
theorem Bin_eql (k k' : IntKind) (a b : Int) : BinK P t .eql (.int k a) (.int k' b) K σ = (k = k' ∧ K (.bool (decide (a = b))) σ) := rfl
theorem Bin_neq (k k' : IntKind) (a b : Int) : BinK P t .neq (.int k a) (.int k' b) K σ = (k = k' ∧ K (.bool (decide (a ≠ b))) σ) := rfl
theorem Bin_lss (k k' : IntKind) (a b : Int) : BinK P t .lss (.int k a) (.int k' b) K σ = (k = k' ∧ K (.bool (decide (a < b))) σ) := rfl
theorem Bin_leq (k k' : IntKind) (a b : Int) : BinK P t .leq (.int k a) (.int k' b) K σ = (k = k' ∧ K (.bool (decide (a ≤ b))) σ) := rfl
theorem Bin_gtr (k k' : IntKind) (a b : Int) : BinK P t .gtr (.int k a) (.int k' b) K σ = (k = k' ∧ K (.bool (decide (b < a))) σ) := rfl
theorem Bin_geq (k k' : IntKind) (a b : Int) : BinK P t .geq (.int k a) (.int k' b) K σ = (k = k' ∧ K (.bool (decide (b ≤ a))) σ) := rfl
theorem Bin_cat (s s' : List UInt8) : BinK P t .add (.str s) (.str s') K σ = (s.length + s'.length ≤ 9223372036854775807 ∧ K (.str (s ++ s')) σ) := rfl
theorem Bin_seq (s s' : List UInt8) : BinK P t .eql (.str s) (.str s') K σ = K (.bool (decide (s = s'))) σ := rfl
theorem Bin_sne (s s' : List UInt8) : BinK P t .neq (.str s) (.str s') K σ = K (.bool (decide (s ≠ s'))) σ := rfl
theorem Bin_beq (a b : Bool) : BinK P t .eql (.bool a) (.bool b) K σ = (isBoo P t = true ∧ K (.bool (a == b)) σ) := rfl
theorem Bin_bne (a b : Bool) : BinK P t .neq (.bool a) (.bool b) K σ = (isBoo P t = true ∧ K (.bool (a != b)) σ) := rfl
theorem BinX_add (k k' : IntKind) (a b : Int) : BinX P t .add (.int k a) (.int k' b) K σ = (k = k' ∧ K (.int k (k.wrap (a + b))) σ) := rfl
theorem BinX_sub (k k' : IntKind) (a b : Int) : BinX P t .sub (.int k a) (.int k' b) K σ = (k = k' ∧ K (.int k (k.wrap (a - b))) σ) := rfl
theorem BinX_mul (k k' : IntKind) (a b : Int) : BinX P t .mul (.int k a) (.int k' b) K σ = (k = k' ∧ K (.int k (k.wrap (a * b))) σ) := rfl
theorem BinX_quo (k k' : IntKind) (a b : Int) : BinX P t .quo (.int k a) (.int k' b) K σ = (k = k' ∧ b ≠ 0 ∧ K (.int k (k.wrap (a.tdiv b))) σ) := rfl
theorem BinX_rem (k k' : IntKind) (a b : Int) : BinX P t .rem (.int k a) (.int k' b) K σ = (k = k' ∧ b ≠ 0 ∧ K (.int k (a.tmod b)) σ) := rfl
theorem BinX_eql (k k' : IntKind) (a b : Int) : BinX P t .eql (.int k a) (.int k' b) K σ = (k = k' ∧ K (.bool (decide (a = b))) σ) := rfl
theorem BinX_neq (k k' : IntKind) (a b : Int) : BinX P t .neq (.int k a) (.int k' b) K σ = (k = k' ∧ K (.bool (decide (a ≠ b))) σ) := rfl
theorem BinX_lss (k k' : IntKind) (a b : Int) : BinX P t .lss (.int k a) (.int k' b) K σ = (k = k' ∧ K (.bool (decide (a < b))) σ) := rfl
theorem BinX_leq (k k' : IntKind) (a b : Int) : BinX P t .leq (.int k a) (.int k' b) K σ = (k = k' ∧ K (.bool (decide (a ≤ b))) σ) := rfl
theorem BinX_gtr (k k' : IntKind) (a b : Int) : BinX P t .gtr (.int k a) (.int k' b) K σ = (k = k' ∧ K (.bool (decide (b < a))) σ) := rfl
theorem BinX_geq (k k' : IntKind) (a b : Int) : BinX P t .geq (.int k a) (.int k' b) K σ = (k = k' ∧ K (.bool (decide (b ≤ a))) σ) := rfl
theorem BinX_cat (s s' : List UInt8) : BinX P t .add (.str s) (.str s') K σ = (s.length + s'.length ≤ 9223372036854775807 ∧ K (.str (s ++ s')) σ) := rfl
theorem BinX_seq (s s' : List UInt8) : BinX P t .eql (.str s) (.str s') K σ = K (.bool (decide (s = s'))) σ := rfl
theorem BinX_sne (s s' : List UInt8) : BinX P t .neq (.str s) (.str s') K σ = K (.bool (decide (s ≠ s'))) σ := rfl
theorem BinX_beq (a b : Bool) : BinX P t .eql (.bool a) (.bool b) K σ = (isBoo P t = true ∧ K (.bool (a == b)) σ) := rfl
theorem BinX_bne (a b : Bool) : BinX P t .neq (.bool a) (.bool b) K σ = (isBoo P t = true ∧ K (.bool (a != b)) σ) := rfl
theorem BinX_shl (k k' : IntKind) (a b : Int) : BinX P t .shl (.int k a) (.int k' b) K σ = (0 ≤ b ∧ K (.int k (k.wrap (a * 2 ^ (min b.toNat k.bits)))) σ) := rfl
theorem BinX_shr (k k' : IntKind) (a b : Int) : BinX P t .shr (.int k a) (.int k' b) K σ = (0 ≤ b ∧ K (.int k (a.fdiv (2 ^ (min b.toNat k.bits)))) σ) := rfl
theorem BinX_and (k k' : IntKind) (a b : Int) : BinX P t .and (.int k a) (.int k' b) K σ = (k = k' ∧ K (.int k (bitAnd k a b)) σ) := rfl
theorem BinX_or (k k' : IntKind) (a b : Int) : BinX P t .or (.int k a) (.int k' b) K σ = (k = k' ∧ K (.int k (bitOr k a b)) σ) := rfl
theorem BinX_xor (k k' : IntKind) (a b : Int) : BinX P t .xor (.int k a) (.int k' b) K σ = (k = k' ∧ K (.int k (bitXor k a b)) σ) := rfl
theorem BinX_nn (op : BinOp) : BinX P t op .nils .nils K σ = (isSli P t = true ∧ eqK op true K σ) := rfl
theorem BinX_ln (op : BinOp) (l : List V) : BinX P t op (.lst l) .nils K σ = (isSli P t = true ∧ ∀ b, (b = true → l = []) → eqK op b K σ) := rfl
theorem BinX_nl (op : BinOp) (l : List V) : BinX P t op .nils (.lst l) K σ = (isSli P t = true ∧ ∀ b, (b = true → l = []) → eqK op b K σ) := rfl
theorem BinX_sn (op : BinOp) (id off n : Nat) : BinX P t op (.sl id off n) .nils K σ = (isSli P t = true ∧ ∀ b, (b = true → n = 0) → eqK op b K σ) := rfl
theorem BinX_pp (op : BinOp) : BinX P t op .nilp .nilp K σ = (isPtr P t = true ∧ eqK op true K σ) := rfl
theorem BinX_pn (op : BinOp) (id i j : Nat) : BinX P t op (.ptr id i j) .nilp K σ = (isPtr P t = true ∧ eqK op false K σ) := rfl
theorem BinX_rn (op : BinOp) (l : List V) : BinX P t op (.rp l) .nilp K σ = (isPtr P t = true ∧ eqK op false K σ) := rfl
theorem eqK_eql (b : Bool) : eqK .eql b K σ = K (.bool b) σ := rfl
theorem eqK_neq (b : Bool) : eqK .neq b K σ = K (.bool (!b)) σ := rfl
theorem BSlice_eq (n : Nat) (ps : List (Nat × V)) : BSliceK C t n ps K σ = match EI C.P t with
  | some (e, z) => ZOk C.P e z = true ∧ ps.map (·.1) = List.range n ∧ n * z ≤ 16777216 ∧ (∀ v ∈ ps.map (·.2), v.one = true ∧ v.cells.length = z) ∧
      K (.sl (freshIn σ.heap) 0 n) ⟨σ.env, putOb σ.heap (.row z (ps.map (·.2)))⟩
  | none => False := rfl
theorem range_0 : List.range 0 = [] := rfl
theorem range_1 : List.range 1 = [0] := rfl
theorem range_2 : List.range 2 = [0, 1] := rfl
theorem range_3 : List.range 3 = [0, 1, 2] := rfl
theorem range_4 : List.range 4 = [0, 1, 2, 3] := rfl
theorem range_5 : List.range 5 = [0, 1, 2, 3, 4] := rfl
theorem BinQ_add (k k' : IntKind) (a b : Int) : BinQ P t .add (.int k a) (.int k' b) K σ = (k = k' ∧ K (.int k (k.wrap (a + b))) σ) := rfl
theorem BinQ_sub (k k' : IntKind) (a b : Int) : BinQ P t .sub (.int k a) (.int k' b) K σ = (k = k' ∧ K (.int k (k.wrap (a - b))) σ) := rfl
theorem BinQ_mul (k k' : IntKind) (a b : Int) : BinQ P t .mul (.int k a) (.int k' b) K σ = (k = k' ∧ K (.int k (k.wrap (a * b))) σ) := rfl
theorem BinQ_quo (k k' : IntKind) (a b : Int) : BinQ P t .quo (.int k a) (.int k' b) K σ = (k = k' ∧ b ≠ 0 ∧ K (.int k (k.wrap (a.tdiv b))) σ) := rfl
theorem BinQ_rem (k k' : IntKind) (a b : Int) : BinQ P t .rem (.int k a) (.int k' b) K σ = (k = k' ∧ b ≠ 0 ∧ K (.int k (a.tmod b)) σ) := rfl
theorem BinQ_eql (k k' : IntKind) (a b : Int) : BinQ P t .eql (.int k a) (.int k' b) K σ = (k = k' ∧ K (.bool (decide (a = b))) σ) := rfl
theorem BinQ_neq (k k' : IntKind) (a b : Int) : BinQ P t .neq (.int k a) (.int k' b) K σ = (k = k' ∧ K (.bool (decide (a ≠ b))) σ) := rfl
theorem BinQ_lss (k k' : IntKind) (a b : Int) : BinQ P t .lss (.int k a) (.int k' b) K σ = (k = k' ∧ K (.bool (decide (a < b))) σ) := rfl
theorem BinQ_leq (k k' : IntKind) (a b : Int) : BinQ P t .leq (.int k a) (.int k' b) K σ = (k = k' ∧ K (.bool (decide (a ≤ b))) σ) := rfl
theorem BinQ_gtr (k k' : IntKind) (a b : Int) : BinQ P t .gtr (.int k a) (.int k' b) K σ = (k = k' ∧ K (.bool (decide (b < a))) σ) := rfl
theorem BinQ_geq (k k' : IntKind) (a b : Int) : BinQ P t .geq (.int k a) (.int k' b) K σ = (k = k' ∧ K (.bool (decide (b ≤ a))) σ) := rfl
theorem BinQ_cat (s s' : List UInt8) : BinQ P t .add (.str s) (.str s') K σ = (s.length + s'.length ≤ 9223372036854775807 ∧ K (.str (s ++ s')) σ) := rfl
theorem BinQ_seq (s s' : List UInt8) : BinQ P t .eql (.str s) (.str s') K σ = K (.bool (decide (s = s'))) σ := rfl
theorem BinQ_sne (s s' : List UInt8) : BinQ P t .neq (.str s) (.str s') K σ = K (.bool (decide (s ≠ s'))) σ := rfl
theorem BinQ_beq (a b : Bool) : BinQ P t .eql (.bool a) (.bool b) K σ = (isBoo P t = true ∧ K (.bool (a == b)) σ) := rfl
theorem BinQ_bne (a b : Bool) : BinQ P t .neq (.bool a) (.bool b) K σ = (isBoo P t = true ∧ K (.bool (a != b)) σ) := rfl
theorem BinQ_shl (k k' : IntKind) (a b : Int) : BinQ P t .shl (.int k a) (.int k' b) K σ = (0 ≤ b ∧ K (.int k (k.wrap (a * 2 ^ (min b.toNat k.bits)))) σ) := rfl
theorem BinQ_shr (k k' : IntKind) (a b : Int) : BinQ P t .shr (.int k a) (.int k' b) K σ = (0 ≤ b ∧ K (.int k (a.fdiv (2 ^ (min b.toNat k.bits)))) σ) := rfl
theorem BinQ_and (k k' : IntKind) (a b : Int) : BinQ P t .and (.int k a) (.int k' b) K σ = (k = k' ∧ K (.int k (bitAnd k a b)) σ) := rfl
theorem BinQ_or (k k' : IntKind) (a b : Int) : BinQ P t .or (.int k a) (.int k' b) K σ = (k = k' ∧ K (.int k (bitOr k a b)) σ) := rfl
theorem BinQ_xor (k k' : IntKind) (a b : Int) : BinQ P t .xor (.int k a) (.int k' b) K σ = (k = k' ∧ K (.int k (bitXor k a b)) σ) := rfl
theorem ConvX_int (s : TypeId) (k' : IntKind) (n : Int) : ConvX C s t (.int k' n) K σ = match intK C.P t, C.P.underlying s with | some k, some _ => K (.int k (k.wrap n)) σ | _, _ => False := rfl
theorem ConvX_str (s : TypeId) (x : List UInt8) : ConvX C s t (.str x) K σ = match isStr C.P t, isStr C.P s with | true, true => K (.str x) σ | _, _ => False := rfl
theorem ConvX_lst (s : TypeId) (l : List V) : ConvX C s t (.lst l) K σ = BytesK C s t (.lst l) K σ := rfl
theorem ConvX_sl (s : TypeId) (a b c : Nat) : ConvX C s t (.sl a b c) K σ = BytesK C s t (.sl a b c) K σ := rfl
theorem ConvX_nils (s : TypeId) : ConvX C s t .nils K σ = BytesK C s t .nils K σ := rfl
theorem ConvQ_int (s : TypeId) (k' : IntKind) (n : Int) : ConvQ C s t (.int k' n) K σ = match intK C.P t, C.P.underlying s with | some k, some _ => K (.int k (k.wrap n)) σ | _, _ => False := rfl
theorem ConvQ_str (s : TypeId) (x : List UInt8) : ConvQ C s t (.str x) K σ = match isStr C.P t, isStr C.P s with | true, true => K (.str x) σ | _, _ => False := rfl
theorem ConvQ_lst (s : TypeId) (l : List V) : ConvQ C s t (.lst l) K σ = BytesK C s t (.lst l) K σ := rfl
theorem Range_str (s : List UInt8) : RangeK C t (.str s) K σ = (isStr C.P t = true ∧ K (.it (freshIn σ.heap)) ⟨σ.env, putOb σ.heap (.iter s 0)⟩) := rfl
theorem Next_it (id : Nat) (b : Bool) : NextK (.it id) b K σ = (b = true ∧ match σ.heap[id]? with
    | some (some (.iter s pos)) => (pos < s.length → K (.tup [.bool true, .int .i64 pos, .int .i32 (dec s pos).1]) ⟨σ.env, σ.heap.set id (some (.iter s (pos + (dec s pos).2)))⟩) ∧ (¬ pos < s.length → K (.tup [.bool false]) σ)
    | _ => False) := rfl
theorem Max_int (f : Int → Int → Int) (k k' : IntKind) (a b : Int) : MaxK f (.int k a) (.int k' b) K σ = K (.int k (f a b)) σ := rfl
theorem killO_iter (id : Nat) (s : List UInt8) (p : Nat) : (Ob.iter s p).kill id = .iter s p := by simp [Ob.kill]
theorem Pick_t (a b : V) : PickK (.bool true) a b K σ = K a σ := by simp [PickK]
theorem Pick_f (a b : V) : PickK (.bool false) a b K σ = K b σ := by simp [PickK]
theorem Pick_b (c : Bool) (a b : V) : PickK (.bool c) a b K σ = ((c = true → K a σ) ∧ (c = false → K b σ)) := rfl
theorem Un_not (b : Bool) : UnK .not (.bool b) K σ = K (.bool (!b)) σ := rfl
theorem Un_neg (k : IntKind) (n : Int) : UnK .neg (.int k n) K σ = K (.int k (k.wrap (0 - n))) σ := rfl
theorem Extr_tup (l : List V) (i : Nat) : ExtrK (.tup l) i K σ = ∃ y, l[i]? = some y ∧ K y σ := rfl
theorem Conv_int (s : TypeId) (k' : IntKind) (n : Int) : ConvK P s t (.int k' n) K σ = match intK P t, P.underlying s with | some k, some _ => K (.int k (k.wrap n)) σ | _, _ => False := rfl
theorem Conv_str (s : TypeId) (x : List UInt8) : ConvK P s t (.str x) K σ = match isStr P t, isStr P s with | true, true => K (.str x) σ | _, _ => False := rfl
theorem Fld_agg (s : TypeId) (f : Nat) (cs : List V) : FldK C s (.agg cs) f K σ = match FI C.P s f with | some (off, b, n) => (b = false → n = 1) ∧ off + n ≤ cs.length ∧ K (mkV b ((cs.drop off).take n)) σ | none => False := rfl
theorem Idx_str (k : IntKind) (n : Int) (s : List UInt8) : IdxK C t (.str s) (.int k n) K σ = (0 ≤ n ∧ isStr C.P t = true ∧ ∃ c, s[n.toNat]? = some c ∧ K (.int .u8 c.toNat) σ) := rfl
theorem Idx_agg (k : IntKind) (n : Int) (cs : List V) : IdxK C t (.agg cs) (.int k n) K σ = (0 ≤ n ∧ match AI C.P t with | some (m, b, z) => (b = false → z = 1) ∧ n.toNat < m ∧ n.toNat * z + z ≤ cs.length ∧ K (mkV b ((cs.drop (n.toNat * z)).take z)) σ | none => False) := rfl
theorem IdxAddr_lst (k : IntKind) (n : Int) (l : List V) : IdxAddrK C t (.lst l) (.int k n) K σ = (0 ≤ n ∧ match EI C.P t with | some (_, z) => ∃ y, l[n.toNat]? = some y ∧ y.cells.length = z ∧ K (.rp y.cells) σ | none => False) := rfl
theorem IdxAddr_sl (k : IntKind) (n : Int) (id off len : Nat) : IdxAddrK C t (.sl id off len) (.int k n) K σ = (0 ≤ n ∧ match EI C.P t with | some (_, z) => (match σ.row id with | some (z', _) => z = z' ∧ n.toNat < len ∧ K (.ptr id (off + n.toNat) 0) σ | none => False) | none => False) := rfl
theorem IdxAddr_ptr (k : IntKind) (n : Int) (id i j : Nat) : IdxAddrK C t (.ptr id i j) (.int k n) K σ = (0 ≤ n ∧ match AI C.P t with | some (m, _, z) => n.toNat < m ∧ K (.ptr id i (j + n.toNat * z)) σ | none => False) := rfl
theorem IdxAddr_rp (k : IntKind) (n : Int) (l : List V) : IdxAddrK C t (.rp l) (.int k n) K σ = (0 ≤ n ∧ match AI C.P t with | some (m, _, z) => n.toNat < m ∧ K (.rp (l.drop (n.toNat * z))) σ | none => False) := rfl
theorem FldAddr_rp (s : TypeId) (f : Nat) (l : List V) : FldAddrK C s (.rp l) f K σ = match FI C.P s f with | some (off, _, _) => K (.rp (l.drop off)) σ | none => False := rfl
theorem FldAddr_ptr (s : TypeId) (f id i j : Nat) : FldAddrK C s (.ptr id i j) f K σ = match FI C.P s f with | some (off, _, _) => K (.ptr id i (j + off)) σ | none => False := rfl
theorem Load_rp (l : List V) : LoadK C t (.rp l) K σ = match TI C.P t with | some (b, n) => (b = false → n = 1) ∧ n ≤ l.length ∧ K (mkV b (l.take n)) σ | none => False := rfl
theorem Load_ptr (id i j : Nat) : LoadK C t (.ptr id i j) K σ = match TI C.P t with | some (b, n) => (b = false → n = 1) ∧ (match σ.row id with | some (_, els) => ∃ x, els[i]? = some x ∧ j + n ≤ x.cells.length ∧ K (mkV b ((x.cells.drop j).take n)) σ | none => False) | none => False := rfl
theorem Store_ptr (id i j : Nat) (v : V) : StoreK C t (.ptr id i j) v K σ = match TI C.P t with | some (_, n) => v.one = true ∧ v.cells.length = n ∧ n ≠ 0 ∧ (match σ.row id with | some (z, els) => ∃ x, els[i]? = some x ∧ j + n ≤ x.cells.length ∧ K .any ⟨σ.env, σ.heap.set id (some (.row z (els.set i (x.setCells j v.cells))))⟩ | none => False) | none => False := rfl
theorem Box_eq (v : V) : BoxK C t v K σ = match TI C.P t with | some (_, n) => v.one = true ∧ v.cells.length = n ∧ K (.ptr (freshIn σ.heap) 0 0) ⟨σ.env, putOb σ.heap (.row n [v])⟩ | none => False := rfl
theorem Alloc_eq : AllocK C t K σ = match ZV C.P t with | some x => K (.ptr (freshIn σ.heap) 0 0) ⟨σ.env, putOb σ.heap (.row x.cells.length [x])⟩ | none => False := rfl
theorem Build_eq (ps : List (Nat × V)) : BuildK C t ps K σ = match SI C.P t, ZV C.P t with
  | some pl, some (.agg c0) => (match fillA (fun i => pl[i]?) c0 ps with | some cs => K (.agg cs) σ | none => False)
  | _, _ => False := rfl
theorem fillA_nil (p : Nat → Option (Nat × Nat)) (cs : List V) : fillA p cs [] = some cs := rfl
theorem fillA_cons (p : Nat → Option (Nat × Nat)) (cs : List V) (i : Nat) (v : V) (rest : List (Nat × V)) : fillA p cs ((i, v) :: rest) = match p i with
    | none => none
    | some (off, size) => if v.one = true ∧ v.cells.length = size ∧ off + size ≤ cs.length then fillA p (cs.take off ++ v.cells ++ cs.drop (off + size)) rest else none := rfl
theorem setCells_int (k : IntKind) (n : Int) (j : Nat) (c : V) (r : List V) : (V.int k n).setCells j (c :: r) = c := rfl
theorem setCells_bool (b : Bool) (j : Nat) (c : V) (r : List V) : (V.bool b).setCells j (c :: r) = c := rfl
theorem setCells_str (s : List UInt8) (j : Nat) (c : V) (r : List V) : (V.str s).setCells j (c :: r) = c := rfl
theorem setCells_any (j : Nat) (c : V) (r : List V) : V.any.setCells j (c :: r) = c := rfl
theorem setCells_nils (j : Nat) (c : V) (r : List V) : V.nils.setCells j (c :: r) = c := rfl
theorem setCells_nilp (j : Nat) (c : V) (r : List V) : V.nilp.setCells j (c :: r) = c := rfl
theorem setCells_lst (l : List V) (j : Nat) (c : V) (r : List V) : (V.lst l).setCells j (c :: r) = c := rfl
theorem setCells_sl (id o n : Nat) (j : Nat) (c : V) (r : List V) : (V.sl id o n).setCells j (c :: r) = c := rfl
theorem setCells_ptr (id o n : Nat) (j : Nat) (c : V) (r : List V) : (V.ptr id o n).setCells j (c :: r) = c := rfl
theorem setCells_rp (l : List V) (j : Nat) (c : V) (r : List V) : (V.rp l).setCells j (c :: r) = c := rfl
theorem setCells_fn (f : FuncId) (l : List V) (j : Nat) (c : V) (r : List V) : (V.fn f l).setCells j (c :: r) = c := rfl
theorem setCells_agg (l : List V) (j : Nat) (cs : List V) : (V.agg l).setCells j cs = .agg (l.take j ++ cs ++ l.drop (j + cs.length)) := rfl
theorem cells_any : V.any.cells = [.any] := rfl
theorem cells_rp (l : List V) : (V.rp l).cells = [.rp l] := rfl
theorem cells_nilp : V.nilp.cells = [.nilp] := rfl
theorem Fn_eq (f : FuncId) (cap : List V) : FnK (.func f) [] cap K σ = K (.fn f cap) σ := rfl
theorem Nilck_ptr (id i j : Nat) : NilCkK (.ptr id i j) K σ = K (.ptr id i j) σ := rfl
theorem Nilck_rp (l : List V) : NilCkK (.rp l) K σ = K (.rp l) σ := rfl
theorem Nilck_fn (f : FuncId) (l : List V) : NilCkK (.fn f l) K σ = K (.fn f l) σ := rfl
theorem Slice_str (s : List UInt8) (lo hi : Option V) : SliceK P t (.str s) lo hi K σ = (isStr P t = true ∧ match loOf lo, hiOf s.length hi with | some l, some h => l ≤ h ∧ h ≤ s.length ∧ K (.str ((s.take h).drop l)) σ | _, _ => False) := rfl
theorem Slice_lst (s : List V) (lo hi : Option V) : SliceK P t (.lst s) lo hi K σ = match EI P t with
  | some (_, z) => (∀ y ∈ s, y.cells.length = z) ∧ (match loOf lo, hiOf s.length hi with | some l, some h => l ≤ h ∧ h ≤ s.length ∧ K (.lst ((s.take h).drop l)) σ | _, _ => False)
  | _ => False := rfl
theorem Slice_sl (id off n : Nat) (lo hi : Option V) : SliceK P t (.sl id off n) lo hi K σ = match EI P t, σ.row id with
  | some (_, z), some (z', _) => z = z' ∧ (match loOf lo, hiOf n hi with | some l, some h => l ≤ h ∧ h ≤ n ∧ K (.sl id (off + l) (h - l)) σ | _, _ => False)
  | _, _ => False := rfl
theorem lo_none : loOf none = some 0 := rfl
theorem lo_int (k : IntKind) (n : Int) : loOf (some (.int k n)) = if 0 ≤ n then some n.toNat else none := rfl
theorem hi_none (d : Nat) : hiOf d none = some d := rfl
theorem hi_int (d : Nat) (k : IntKind) (n : Int) : hiOf d (some (.int k n)) = if 0 ≤ n then some n.toNat else none := rfl
theorem App_eq (t' : TypeId) (s x : V) : AppK C t t' s x K σ = match EI C.P t with | some (e, z) => ZOk C.P e z = true ∧ notInt C.P t' = true ∧ SrcK σ z x (AppTo C e z s K σ) | none => False := rfl
theorem Src_lst (z : Nat) (l : List V) (k : List V → Prop) : SrcK σ z (.lst l) k = ((∀ y ∈ l, y.cells.length = z) ∧ k l) := rfl
theorem Src_nils (z : Nat) (k : List V → Prop) : SrcK σ z .nils k = k [] := rfl
theorem Src_sl (z id off n : Nat) (k : List V → Prop) : SrcK σ z (.sl id off n) k = match σ.row id with | some (z', els) => z' = z ∧ off + n ≤ els.length ∧ k ((els.drop off).take n) | none => False := rfl
theorem Src_str (z : Nat) (b : List UInt8) (k : List V → Prop) : SrcK σ z (.str b) k = (z = 1 ∧ k (b.map fun c => .int .u8 c.toNat)) := rfl
theorem AppTo_nils (e : TypeId) (z : Nat) (news : List V) : AppTo C e z .nils K σ news = (news.length ≤ maxLen ∧ news.length * byOf C.P e ≤ 140737488355328 ∧ K (.sl (freshIn σ.heap) 0 news.length) ⟨σ.env, putOb σ.heap (.row z news)⟩) := rfl
theorem AppTo_sl (e : TypeId) (z id off n : Nat) (news : List V) : AppTo C e z (.sl id off n) K σ news = match σ.row id with
  | some (z', els) => z' = z ∧ off + n ≤ els.length ∧ n + news.length ≤ maxLen ∧ (n + news.length) * byOf C.P e ≤ 140737488355328 ∧
      K (.sl id 0 (n + news.length)) ⟨killL id σ.env, (killH id σ.heap).set id (some (.row z (killL id ((els.drop off).take n ++ news))))⟩
  | none => False := rfl
theorem call_up (f : Operand) (args : List Operand) : CallK C f args K σ = Up C (CallAt C f args K) σ := rfl
end

/-! ### Slots that are set stay as they were set: they are looked up, not written out -/
/-- The slots l, with those of u set, the newest ahead. -/
def ups (l : List V) : List (Nat × V) → List V
  | [] => l
  | (d, x) :: u => (ups l u).set d x
def look (l : List V) (t : Nat) : List (Nat × V) → V
  | [] => l.getD t .any
  | (d, x) :: u => if t = d then (if d < l.length then x else .any) else look l t u
theorem ups_length (l : List V) : ∀ u, (ups l u).length = l.length
  | [] => rfl
  | (d, x) :: u => by simp [ups, ups_length l u]
theorem ups_get (l : List V) (t : Nat) : ∀ u, (ups l u).getD t .any = look l t u
  | [] => rfl
  | (d, x) :: u => by
    have ih := ups_get l t u
    unfold ups look
    by_cases h : t = d
    · subst h
      rw [if_pos rfl]
      by_cases hl : t < l.length
      · rw [if_pos hl, List.getD_eq_getElem?_getD, List.getElem?_set_self (by rw [ups_length]; exact hl)]; rfl
      · rw [if_neg hl, List.getD_eq_getElem?_getD, List.getElem?_eq_none (by simp [ups_length]; omega)]; rfl
    · rw [if_neg h, ← ih, List.getD_eq_getElem?_getD, List.getD_eq_getElem?_getD, List.getElem?_set_ne (fun e => h e.symm)]
theorem put_ups (l : List V) (u : List (Nat × V)) (h : List (Option Ob)) (d : Nat) (x : V) : St.put ⟨ups l u, h⟩ (some d) x = ⟨ups l ((d, x) :: u), h⟩ := rfl
theorem put_cons (a : V) (l : List V) (h : List (Option Ob)) (d : Nat) (x : V) : St.put ⟨a :: l, h⟩ (some d) x = ⟨ups (a :: l) [(d, x)], h⟩ := rfl
theorem val_ups (l : List V) (u : List (Nat × V)) (h : List (Option Ob)) (t : Nat) : St.val ⟨ups l u, h⟩ (.tmp t) = look l t u := ups_get l t u
theorem look_nil (l : List V) (t : Nat) : look l t [] = l.getD t .any := rfl
theorem look_cons (l : List V) (t d : Nat) (x : V) (u : List (Nat × V)) : look l t ((d, x) :: u) = if t = d then (if d < l.length then x else .any) else look l t u := rfl
def killU (id : Nat) : List (Nat × V) → List (Nat × V)
  | [] => []
  | (d, x) :: u => (d, x.kill id) :: killU id u
theorem killU_nil (id : Nat) : killU id [] = [] := rfl
theorem killU_cons (id d : Nat) (x : V) (u : List (Nat × V)) : killU id ((d, x) :: u) = (d, x.kill id) :: killU id u := rfl
theorem killL_set (id : Nat) : ∀ (l : List V) (d : Nat) (x : V), killL id (l.set d x) = (killL id l).set d (x.kill id)
  | [], _, _ => by simp [killL]
  | y :: l, 0, x => by simp [killL]
  | y :: l, d + 1, x => by simp [killL, killL_set id l d x]
theorem killL_ups (id : Nat) (l : List V) : ∀ u, killL id (ups l u) = ups (killL id l) (killU id u)
  | [] => rfl
  | (d, x) :: u => by rw [ups, killL_set, killL_ups id l u]; rfl
theorem hset_zero (o x : Option Ob) (r : List (Option Ob)) : (o :: r).set 0 x = x :: r := rfl
theorem hset_succ (o x : Option Ob) (r : List (Option Ob)) (i : Nat) : (o :: r).set (i + 1) x = o :: r.set i x := rfl
theorem single_set (a x : V) : [a].set 0 x = [x] := rfl
theorem killL_nil (id : Nat) : killL id [] = [] := by simp [killL]
theorem killL_cons (id : Nat) (x : V) (l : List V) : killL id (x :: l) = x.kill id :: killL id l := by simp [killL]
theorem kill_any (id : Nat) : V.any.kill id = .any := by simp [V.kill]
theorem kill_bool (id : Nat) (b : Bool) : (V.bool b).kill id = .bool b := by simp [V.kill]
theorem kill_int (id : Nat) (k : IntKind) (n : Int) : (V.int k n).kill id = .int k n := by simp [V.kill]
theorem kill_str (id : Nat) (s : List UInt8) : (V.str s).kill id = .str s := by simp [V.kill]
theorem kill_nils (id : Nat) : V.nils.kill id = .nils := by simp [V.kill]
theorem kill_nilp (id : Nat) : V.nilp.kill id = .nilp := by simp [V.kill]
theorem kill_lst (id : Nat) (l : List V) : (V.lst l).kill id = .lst l := by simp [V.kill]
theorem kill_rp (id : Nat) (l : List V) : (V.rp l).kill id = .rp l := by simp [V.kill]
theorem kill_agg (id : Nat) (l : List V) : (V.agg l).kill id = .agg (killL id l) := by simp [V.kill]
theorem kill_fn (id : Nat) (f : FuncId) (l : List V) : (V.fn f l).kill id = .fn f (killL id l) := by simp [V.kill]
theorem kill_tup (id : Nat) (l : List V) : (V.tup l).kill id = .tup (killL id l) := by simp [V.kill]
theorem kill_sl (id i off n : Nat) : (V.sl i off n).kill id = if i = id then .any else .sl i off n := by simp [V.kill]
theorem kill_ptr (id i a b : Nat) : (V.ptr i a b).kill id = if i = id then .any else .ptr i a b := by simp [V.kill]
theorem kill_it (id i : Nat) : (V.it i).kill id = if i = id then .any else .it i := by simp [V.kill]
theorem killH_nil (id : Nat) : killH id [] = [] := by simp [killH]
theorem killH_none (id : Nat) (r : List (Option Ob)) : killH id (none :: r) = none :: killH id r := by simp [killH]
theorem killH_some (id : Nat) (o : Ob) (r : List (Option Ob)) : killH id (some o :: r) = some (o.kill id) :: killH id r := by simp [killH]
theorem killO_row (id z : Nat) (l : List V) : (Ob.row z l).kill id = .row z (killL id l) := by simp [Ob.kill]

/-! ### Small rules -/
theorem ex_map_get {α β : Type} (f : α → β) (l : List α) (i : Nat) (p : β → Prop) : (∃ y, (l.map f)[i]? = some y ∧ p y) = ∃ x, l[i]? = some x ∧ p (f x) := by
  apply propext
  rw [List.getElem?_map]
  constructor
  · rintro ⟨y, h, hp⟩
    cases hx : l[i]? with
    | none => simp [hx] at h
    | some x => simp [hx] at h; subst h; exact ⟨x, rfl, hp⟩
  · rintro ⟨x, h, hp⟩
    exact ⟨f x, by simp [h], hp⟩
theorem cells_agg (l : List V) : (V.agg l).cells = l := rfl
theorem cells_int (k : IntKind) (n : Int) : (V.int k n).cells = [.int k n] := rfl
theorem cells_bool (b : Bool) : (V.bool b).cells = [.bool b] := rfl
theorem cells_str (s : List UInt8) : (V.str s).cells = [.str s] := rfl
theorem cells_lst (l : List V) : (V.lst l).cells = [.lst l] := rfl
theorem cells_nils : V.nils.cells = [.nils] := rfl
theorem cells_sl (id off n : Nat) : (V.sl id off n).cells = [.sl id off n] := rfl
theorem cells_ptr (id i j : Nat) : (V.ptr id i j).cells = [.ptr id i j] := rfl
theorem cells_fn (f : FuncId) (l : List V) : (V.fn f l).cells = [.fn f l] := rfl
theorem mkV_one (c : V) : mkV false [c] = c := rfl
theorem mkV_agg (l : List V) : mkV true l = .agg l := rfl
theorem keepFrom_nil (ks : List Nat) (k : Nat) : keepFrom ks k [] = [] := rfl
theorem keepFrom_cons (ks : List Nat) (k : Nat) (x : V) (l : List V) : keepFrom ks k (x :: l) = (if ks.contains k then x else .any) :: keepFrom ks (k + 1) l := rfl
theorem wrap_in (n : Int) (h0 : -9223372036854775808 ≤ n) (h1 : n ≤ 9223372036854775807) : IntKind.i64.wrap n = n := by rw [IntKind.wrap_i64]; omega
/-- The number in a slot. -/
def slotI (i : Nat) (σ : St) : Nat := match σ.env.getD i .any with | .int _ n => n.toNat | _ => 0
theorem slotI_eq (i : Nat) (env : List V) (h : List (Option Ob)) : slotI i ⟨env, h⟩ = match env.getD i .any with | .int _ n => n.toNat | _ => 0 := rfl
theorem fresh_nil : freshIn [] = 0 := rfl
theorem fresh_none (r : List (Option Ob)) : freshIn (none :: r) = 0 := rfl
theorem fresh_some (o : Ob) (r : List (Option Ob)) : freshIn (some o :: r) = freshIn r + 1 := rfl
theorem putOb_nil (o : Ob) : putOb [] o = [some o] := rfl
theorem putOb_none (o : Ob) (r : List (Option Ob)) : putOb (none :: r) o = some o :: r := rfl
theorem putOb_some (x o : Ob) (r : List (Option Ob)) : putOb (some x :: r) o = some x :: putOb r o := rfl
theorem one_int (k : IntKind) (n : Int) : (V.int k n).one = true := rfl
theorem one_bool (b : Bool) : (V.bool b).one = true := rfl
theorem one_str (s : List UInt8) : (V.str s).one = true := rfl
theorem one_lst (l : List V) : (V.lst l).one = true := rfl
theorem one_nils : V.nils.one = true := rfl
theorem one_agg (l : List V) : (V.agg l).one = true := rfl
theorem one_sl (id off n : Nat) : (V.sl id off n).one = true := rfl
theorem one_ptr (id i j : Nat) : (V.ptr id i j).one = true := rfl
theorem one_rp (l : List V) : (V.rp l).one = true := rfl
theorem one_nilp : V.nilp.one = true := rfl
theorem one_fn (f : FuncId) (l : List V) : (V.fn f l).one = true := rfl
end Go.Proofs.Yteabokphchpifaa
