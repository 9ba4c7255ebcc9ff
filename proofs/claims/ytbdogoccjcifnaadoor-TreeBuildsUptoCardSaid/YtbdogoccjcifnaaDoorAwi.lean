/- Abstract walk: all steps under one name; regions that draw their order. No conditions. -/
import Derived.Test.YtbdogoccjcifnaaDoorAwh
import Derived.Still
set_option linter.unusedSimpArgs false
set_option linter.unusedVariables false
set_option maxRecDepth 100000
namespace Go.Proofs.YtbdogoccjcifnaaDoor
open Go.RowKit

def Step (C : Ctx) (o : Oper) (σ : St) (K : V → St → Prop) : Prop :=
  match o.op with
  | .move x => K (σ.val x) σ
  | .assign x => K (σ.val x) σ
  | .pick c a b => PickK (σ.val c) (σ.val a) (σ.val b) K σ
  | .binOp op t x y _ => BinY C.P t op (σ.val x) (σ.val y) K σ ∨ OpOk C o σ K
  | .unOp op _ x => UnK op (σ.val x) K σ
  | .convert s d x => ConvX C s d (σ.val x) K σ ∨ OpOk C o σ K
  | .extract x i => ExtrK (σ.val x) i K σ
  | .field s x f => FldK C s (σ.val x) f K σ
  | .index t x i => IdxK C t (σ.val x) (σ.val i) K σ
  | .slice t x lo hi mx => match mx with
    | none => SliceK C.P t (σ.val x) (lo.map σ.val) (hi.map σ.val) K σ
    | some m => match lo, hi with
      | none, some h => Cut0K C t (σ.val x) (σ.val h) (σ.val m) K σ
      | _, _ => False
  | .makeSlice t l c => MakeK C t (σ.val l) (σ.val c) K σ
  | .indexAddr t x i => IdxAddrK C t (σ.val x) (σ.val i) K σ
  | .fieldAddr s x f => FldAddrK C s (σ.val x) f K σ
  | .load t x => LoadK C t (σ.val x) K σ
  | .store t x y => StoreK C t (σ.val x) (σ.val y) K σ
  | .box t x => BoxK C t (σ.val x) K σ
  | .alloc t => AllocQ C t K σ
  | .build t ps => BuildK C t (ps.toList.map fun p => (p.1, σ.val p.2)) K σ
  | .makeFunc fn first cap => FnK fn (first.toList.map σ.val) (cap.toList.map σ.val) K σ
  | .nilCheck x => NilCkK (σ.val x) K σ
  | .range t x => RangeK C t (σ.val x) K σ
  | .next x b => NextK (σ.val x) b K σ
  | .buildSlice t n ps => BSliceK C t n (ps.toList.map fun p => (p.1, σ.val p.2)) K σ
  | .call c => match c.callee, c.args.toList, c.argTypes.toList with
    | .builtin .len, [x], [t] => LenK C.P t (σ.val x) K σ ∨ OpOk C o σ K
    | .builtin .max, [x, y], _ => MaxK maxI (σ.val x) (σ.val y) K σ
    | .builtin .min, [x, y], _ => MaxK minI (σ.val x) (σ.val y) K σ
    | .builtin .append, [s, x], [t, t'] => AppK C t t' (σ.val s) (σ.val x) K σ
    | .value f, args, _ => CallK C f args K σ
    | _, _, _ => OpOk C o σ K
  | _ => OpOk C o σ K

theorem arr1 {α : Type} {a : Array α} {x : α} (h : a.toList = [x]) : a = #[x] := by rw [← Array.toArray_toList (xs := a), h]
theorem arr2 {α : Type} {a : Array α} {x y : α} (h : a.toList = [x, y]) : a = #[x, y] := by rw [← Array.toArray_toList (xs := a), h]

theorem step_sound {C : Ctx} (o : Oper) (σ : St) (K : V → St → Prop) (h : Step C o σ K) : OpOk C o σ K := by
  unfold Step at h
  split at h
  · exact move_ok ‹_› h
  · exact assign_ok ‹_› h
  · exact pick_ok ‹_› h
  · exact h.elim (biny_ok ‹_›) id
  · exact un_ok ‹_› h
  · exact h.elim (convx_ok ‹_›) id
  · exact extr_ok ‹_› h
  · exact fld_ok ‹_› h
  · exact idx_ok ‹_› h
  · rename_i ho
    split at h
    · exact slice_ok ho h
    · split at h
      · exact cut0_ok ho h
      · exact h.elim
  · exact make_ok ‹_› h
  · exact idxAddr_ok ‹_› h
  · exact fldAddr_ok ‹_› h
  · exact load_ok ‹_› h
  · exact store_ok ‹_› h
  · exact box_ok ‹_› h
  · exact allocq_ok ‹_› h
  · exact build_ok ‹_› h
  · exact fn_ok ‹_› h
  · exact nilck_ok ‹_› h
  · exact range_ok ‹_› h
  · exact next_ok ‹_› h
  · exact bslice_ok ‹_› h
  · rename_i c ho
    obtain ⟨callee, args, ts⟩ := c
    simp only at h
    split at h
    · rename_i x t h2 h3
      rw [arr1 h2, arr1 h3] at ho
      exact h.elim (len_ok ho) id
    · rename_i x y h2
      rw [arr2 h2] at ho
      exact max_ok ho h
    · rename_i x y h2
      rw [arr2 h2] at ho
      exact min_ok ho h
    · rename_i s x t t' h2 h3
      rw [arr2 h2, arr2 h3] at ho
      exact app_ok ho h
    · rename_i f
      exact call_ok ho h
    · exact h
  · exact h

/-! ### Regions that draw their order: operations that only look, and calls upon read-only data -/
/-- What an operation that only looks leaves. -/
def RowExt (σ σ2 : St) : Prop := ∀ id z els, σ.row id = some (z, els) → σ2.row id = some (z, els)
theorem rowExt_heap {σ σ2 : St} (h : σ2.heap = σ.heap) : RowExt σ σ2 := fun id z els e => by simpa [St.row, h] using e
def Looks (X : (V → St → Prop) → St → Prop) : Prop :=
  ∀ K σ, X K σ → ∃ r, K r σ ∧ ∀ (K2 : V → St → Prop) (σ2 : St), RowExt σ σ2 → K2 r σ2 → X K2 σ2
theorem looks_const (r : V) : Looks fun K σ => K r σ := fun _ _ h => ⟨r, h, fun _ _ _ h => h⟩
theorem looks_false : Looks fun _ _ => False := fun _ _ h => h.elim
theorem looks_and {p : Prop} {X : (V → St → Prop) → St → Prop} (h : Looks X) : Looks fun K σ => p ∧ X K σ :=
  fun K σ hx => let ⟨r, h1, h2⟩ := h K σ hx.2; ⟨r, h1, fun K2 σ2 e k => ⟨hx.1, h2 K2 σ2 e k⟩⟩
theorem looks_ex {α : Type} {X : α → (V → St → Prop) → St → Prop} (h : ∀ a, Looks (X a)) : Looks fun K σ => ∃ a, X a K σ :=
  fun K σ ⟨a, hx⟩ => let ⟨r, h1, h2⟩ := h a K σ hx; ⟨r, h1, fun K2 σ2 e k => ⟨a, h2 K2 σ2 e k⟩⟩
theorem looks_row (id : Nat) {X : Nat → List V → (V → St → Prop) → St → Prop} (h : ∀ z els, Looks (X z els)) : Looks fun K σ => match σ.row id with | some (z, els) => X z els K σ | none => False := by
  intro K σ hx
  cases hr : σ.row id with
  | none => simp only [hr] at hx
  | some p =>
    obtain ⟨z, els⟩ := p
    simp only [hr] at hx
    obtain ⟨r, h1, h2⟩ := h z els K σ hx
    refine ⟨r, h1, fun K2 σ2 e k => ?_⟩
    have : σ2.row id = some (z, els) := e id z els hr
    simp only [this]
    exact h2 K2 σ2 e k

theorem looks_pick (c a b : V) : Looks (PickK c a b) := by
  intro K σ h
  unfold PickK at h
  split at h
  · rename_i t
    cases t with
    | true => exact ⟨a, h.1 rfl, fun K2 σ2 _ k => ⟨fun _ => k, fun e => (by cases e)⟩⟩
    | false => exact ⟨b, h.2 rfl, fun K2 σ2 _ k => ⟨fun e => (by cases e), fun _ => k⟩⟩
  · exact h.elim
theorem looks_bin (P : Program) (t : TypeId) (op : BinOp) (x y : V) : Looks (BinK P t op x y) := by
  unfold BinK
  split
  · refine looks_and ?_
    split
    all_goals first | exact looks_const _ | exact looks_and (looks_const _) | exact looks_false
  · split
    all_goals first | exact looks_const _ | exact looks_and (looks_const _) | exact looks_false
  · refine looks_and ?_
    split
    all_goals first | exact looks_const _ | exact looks_and (looks_const _) | exact looks_false
  · exact looks_false
theorem looks_binq (P : Program) (t : TypeId) (op : BinOp) (x y : V) : Looks (BinQ P t op x y) := by
  unfold BinQ
  split
  · unfold BinX
    simp only
    split
    all_goals first | exact looks_and (looks_const _) | exact looks_bin _ _ _ _ _
  · exact looks_bin _ _ _ _ _
theorem looks_eqK (op : BinOp) (b : Bool) : Looks (eqK op b) := by
  unfold eqK
  split
  all_goals first | exact looks_const _ | exact looks_false
theorem looks_if {p : Prop} {X Y : (V → St → Prop) → St → Prop} (h1 : Looks X) (h2 : Looks Y) : Looks fun K σ => (p → X K σ) ∧ (¬ p → Y K σ) := by
  intro K σ h
  by_cases hp : p
  · obtain ⟨r, g1, g2⟩ := h1 K σ (h.1 hp)
    exact ⟨r, g1, fun K2 σ2 e k => ⟨fun _ => g2 K2 σ2 e k, fun n => absurd hp n⟩⟩
  · obtain ⟨r, g1, g2⟩ := h2 K σ (h.2 hp)
    exact ⟨r, g1, fun K2 σ2 e k => ⟨fun n => absurd n hp, fun _ => g2 K2 σ2 e k⟩⟩
theorem looks_eqf (op : BinOp) : ∀ (ks : List Kd) (l r : List V), Looks (EqF op ks l r) := by
  intro ks
  induction ks with
  | nil =>
    intro l r
    cases l with
    | nil => cases r with
      | nil => exact looks_eqK op true
      | cons _ _ => exact fun _ _ h => by simp [EqF] at h
    | cons _ _ => exact fun _ _ h => by simp [EqF] at h
  | cons d ks ih =>
    intro l r
    cases l with
    | nil => exact fun _ _ h => by cases d <;> simp [EqF] at h
    | cons x l =>
      cases r with
      | nil => exact fun _ _ h => by cases d <;> cases x <;> simp [EqF] at h
      | cons y r =>
        cases d <;> cases x <;> cases y <;> first
          | exact looks_if (ih l r) (looks_eqK op false)
          | exact looks_and (looks_if (ih l r) (looks_eqK op false))
          | exact fun _ _ h => by simp [EqF] at h
theorem looks_binz (P : Program) (t : TypeId) (op : BinOp) (x y : V) : Looks (BinZ P t op x y) := by
  unfold BinZ
  split
  · split
    · exact looks_eqf _ _ _ _
    · exact looks_false
  · exact looks_binq _ _ _ _ _
theorem looks_un (op : UnOp) (x : V) : Looks (UnK op x) := by
  unfold UnK
  split
  all_goals first | exact looks_const _ | exact looks_false
theorem looks_conv (P : Program) (s d : TypeId) (x : V) : Looks (ConvK P s d x) := by
  unfold ConvK
  split
  · split
    all_goals first | exact looks_const _ | exact looks_false
  · split
    all_goals first | exact looks_const _ | exact looks_false
  · exact looks_false
theorem looks_convq (C : Ctx) (s d : TypeId) (x : V) : Looks (ConvQ C s d x) := by
  unfold ConvQ
  split
  · unfold BytesK SrcK
    exact looks_and (looks_and (looks_and (looks_ex fun bs => looks_and (looks_and (looks_const _)))))
  · exact looks_conv _ _ _ _
theorem looks_extr (x : V) (i : Nat) : Looks (ExtrK x i) := by
  unfold ExtrK
  split
  · exact looks_ex fun y => looks_and (looks_const y)
  · exact looks_false
theorem looks_fld (C : Ctx) (s : TypeId) (x : V) (f : Nat) : Looks (FldK C s x f) := by
  unfold FldK
  split
  · refine looks_and ?_
    split
    · exact looks_and (looks_const _)
    · exact looks_false
  · exact looks_false
theorem looks_idx (C : Ctx) (t : TypeId) (x i : V) : Looks (IdxK C t x i) := by
  unfold IdxK
  split
  · refine looks_and ?_
    split
    · exact looks_and (looks_ex fun c => looks_and (looks_const _))
    · split
      · exact looks_and (looks_and (looks_and (looks_const _)))
      · exact looks_false
    · exact looks_false
  · exact looks_false
theorem looks_slice (P : Program) (t : TypeId) (x : V) (lo hi : Option V) : Looks (SliceK P t x lo hi) := by
  intro K σ h
  unfold SliceK at h ⊢
  split at h
  · obtain ⟨h1, h⟩ := h
    split at h
    · exact ⟨_, h.2.2, fun K2 σ2 _ k => by simp [*]⟩
    · exact h.elim
  · split at h
    · obtain ⟨h1, h⟩ := h
      split at h
      · exact ⟨_, h.2.2, fun K2 σ2 _ k => by simp only [*]; exact ⟨h1, trivial, trivial, trivial⟩⟩
      · exact h.elim
    · exact h.elim
  · split at h
    · rename_i hr
      obtain ⟨h1, h⟩ := h
      split at h
      · refine ⟨_, h.2.2, fun K2 σ2 e k => ?_⟩
        have e2 := e _ _ _ hr
        simp [*]
      · exact h.elim
    · exact h.elim
  · split at h
    · exact ⟨_, h.2.2.2, fun K2 σ2 _ k => ⟨h.1, h.2.1, h.2.2.1, k⟩⟩
    · exact h.elim
  · exact h.elim
theorem looks_idxAddr (C : Ctx) (t : TypeId) (x i : V) : Looks (IdxAddrK C t x i) := by
  unfold IdxAddrK
  split
  · refine looks_and ?_
    split
    · split
      · exact looks_ex fun y => looks_and (looks_and (looks_const _))
      · exact looks_false
    · split
      · exact looks_row _ fun z els => looks_and (looks_and (looks_const _))
      · exact looks_false
    · split
      · exact looks_and (looks_const _)
      · exact looks_false
    · split
      · exact looks_and (looks_const _)
      · exact looks_false
    · exact looks_false
  · exact looks_false
theorem looks_fldAddr (C : Ctx) (s : TypeId) (x : V) (f : Nat) : Looks (FldAddrK C s x f) := by
  unfold FldAddrK
  split
  · split
    all_goals first | exact looks_const _ | exact looks_false
  · exact looks_false
theorem looks_load (C : Ctx) (t : TypeId) (x : V) : Looks (LoadK C t x) := by
  unfold LoadK
  split
  · refine looks_and ?_
    split
    · exact looks_and (looks_const _)
    · exact looks_row _ fun z els => looks_ex fun y => looks_and (looks_and (looks_const _))
    · exact looks_false
  · exact looks_false
theorem looks_fn (fn : Fn) (a b : List V) : Looks (FnK fn a b) := by
  unfold FnK
  split
  all_goals first | exact looks_const _ | exact looks_false
theorem looks_max (f : Int → Int → Int) (x y : V) : Looks (MaxK f x y) := by
  unfold MaxK
  split
  · exact looks_const _
  · exact looks_false
theorem looks_build (C : Ctx) (t : TypeId) (ps : List (Nat × V)) : Looks (BuildK C t ps) := by
  unfold BuildK
  split
  · split
    · exact looks_const _
    · exact looks_false
  · exact looks_false
theorem looks_nilck (x : V) : Looks (NilCkK x) := by
  unfold NilCkK
  split
  all_goals first | exact looks_const _ | exact looks_false
def LenQ (P : Program) (t : TypeId) (x : V) (K : V → St → Prop) (σ : St) : Prop :=
  match x with
  | .str s => isStr P t = true ∧ K (.int .i64 s.length) σ
  | .lst l => isSli P t = true ∧ K (.int .i64 l.length) σ
  | .nils => isSli P t = true ∧ K (.int .i64 0) σ
  | .sl _ _ n => isSli P t = true ∧ K (.int .i64 n) σ
  | _ => False
theorem looks_len (P : Program) (t : TypeId) (x : V) : Looks (LenQ P t x) := by
  unfold LenQ
  split
  all_goals first | exact looks_and (looks_const _) | exact looks_false
theorem len_of_q {P : Program} {t : TypeId} {x : V} {K : V → St → Prop} {σ : St} (h : LenQ P t x K σ) : LenK P t x K σ := by
  unfold LenQ at h
  unfold LenK
  split at h
  · exact ⟨h.1, fun _ => h.2⟩
  · exact ⟨h.1, fun _ => h.2⟩
  · exact h
  · exact ⟨h.1, fun _ => h.2⟩
  · exact h.elim

/-- A call by its contract, its result named. -/
def CallQ (C : Ctx) (fop : Operand) (args : List Operand) (K : V → St → Prop) (σ : St) : Prop :=
  match σ.val fop with
  | .fn f caps => hasBody C.P f = true ∧ ((nrL (args.map σ.val ++ caps) ∧ ∃ r, FnC C f (args.map σ.val ++ caps) (fun r' => r' = r) ∧ K r σ) ∨
      (∃ id z els r, σ.row id = some (z, els) ∧ nrL els ∧ nrL (frzL id els (args.map σ.val ++ caps)) ∧ scV r = true ∧ Fn1 C.P f (frzL id els (args.map σ.val ++ caps)) (fun r' => r' = r) ∧ K r σ) ∨
      ∃ id z els id2 z2 els2 r, id2 ≠ id ∧ σ.row id = some (z, els) ∧ σ.row id2 = some (z2, els2) ∧ nrL els ∧ nrL els2 ∧ nrL (frzL id2 els2 (frzL id els (args.map σ.val ++ caps))) ∧ scV r = true ∧ Fn1 C.P f (frzL id2 els2 (frzL id els (args.map σ.val ++ caps))) (fun r' => r' = r) ∧ K r σ)
  | _ => False

def QStep (C : Ctx) (o : Oper) (σ : St) (K : V → St → Prop) : Prop :=
  match o.op with
  | .move x => K (σ.val x) σ
  | .assign x => K (σ.val x) σ
  | .pick c a b => PickK (σ.val c) (σ.val a) (σ.val b) K σ
  | .binOp op t x y _ => BinZ C.P t op (σ.val x) (σ.val y) K σ
  | .unOp op _ x => UnK op (σ.val x) K σ
  | .convert s d x => ConvQ C s d (σ.val x) K σ
  | .extract x i => ExtrK (σ.val x) i K σ
  | .field s x f => FldK C s (σ.val x) f K σ
  | .index t x i => IdxK C t (σ.val x) (σ.val i) K σ
  | .slice t x lo hi mx => match mx with
    | none => SliceK C.P t (σ.val x) (lo.map σ.val) (hi.map σ.val) K σ
    | some _ => False
  | .indexAddr t x i => IdxAddrK C t (σ.val x) (σ.val i) K σ
  | .fieldAddr s x f => FldAddrK C s (σ.val x) f K σ
  | .load t x => LoadK C t (σ.val x) K σ
  | .makeFunc fn first cap => FnK fn (first.toList.map σ.val) (cap.toList.map σ.val) K σ
  | .nilCheck x => NilCkK (σ.val x) K σ
  | .build t ps => BuildK C t (ps.toList.map fun p => (p.1, σ.val p.2)) K σ
  | .call c => match c.callee, c.args.toList, c.argTypes.toList with
    | .builtin .len, [x], [t] => LenQ C.P t (σ.val x) K σ
    | .builtin .max, [x, y], _ => MaxK maxI (σ.val x) (σ.val y) K σ
    | .builtin .min, [x, y], _ => MaxK minI (σ.val x) (σ.val y) K σ
    | .value f, args, _ => CallQ C f args K σ
    | _, _, _ => False
  | _ => False

/-- At a state, the operation leaves r and turns nothing: and so at every state that agrees where it looks. -/
theorem qstep_looks' {C : Ctx} {o : Oper} {σ : St} {K : V → St → Prop} (h : QStep C o σ K) :
    ∃ r, K r σ ∧ ∀ (K2 : V → St → Prop) (σ2 : St), (∀ x ∈ o.op.operands.toList, σ2.val x = σ.val x) → RowExt σ σ2 → K2 r σ2 → QStep C o σ2 K2 := by
  have use : ∀ {X : (V → St → Prop) → St → Prop}, Looks X → X K σ → (∀ (K2 : V → St → Prop) (σ2 : St), (∀ x ∈ o.op.operands.toList, σ2.val x = σ.val x) → X K2 σ2 → QStep C o σ2 K2) →
      ∃ r, K r σ ∧ ∀ (K2 : V → St → Prop) (σ2 : St), (∀ x ∈ o.op.operands.toList, σ2.val x = σ.val x) → RowExt σ σ2 → K2 r σ2 → QStep C o σ2 K2 := by
    intro X hX hx hq
    obtain ⟨r, h1, h2⟩ := hX K σ hx
    exact ⟨r, h1, fun K2 σ2 hv he k => hq K2 σ2 hv (h2 K2 σ2 he k)⟩
  unfold QStep at h
  split at h
  · rename_i x ho
    exact use (looks_const (σ.val x)) h fun K2 σ2 hv k => by unfold QStep; simp only [ho]; rw [hv x (by simp [ho, Op.operands])]; exact k
  · rename_i x ho
    exact use (looks_const (σ.val x)) h fun K2 σ2 hv k => by unfold QStep; simp only [ho]; rw [hv x (by simp [ho, Op.operands])]; exact k
  · rename_i c a b ho
    exact use (looks_pick _ _ _) h fun K2 σ2 hv k => by unfold QStep; simp only [ho]; rw [hv c (by simp [ho, Op.operands]), hv a (by simp [ho, Op.operands]), hv b (by simp [ho, Op.operands])]; exact k
  · rename_i op t x y t' ho
    exact use (looks_binz _ _ _ _ _) h fun K2 σ2 hv k => by unfold QStep; simp only [ho]; rw [hv x (by simp [ho, Op.operands]), hv y (by simp [ho, Op.operands])]; exact k
  · rename_i op t x ho
    exact use (looks_un _ _) h fun K2 σ2 hv k => by unfold QStep; simp only [ho]; rw [hv x (by simp [ho, Op.operands])]; exact k
  · rename_i s d x ho
    exact use (looks_convq _ _ _ _) h fun K2 σ2 hv k => by unfold QStep; simp only [ho]; rw [hv x (by simp [ho, Op.operands])]; exact k
  · rename_i x i ho
    exact use (looks_extr _ _) h fun K2 σ2 hv k => by unfold QStep; simp only [ho]; rw [hv x (by simp [ho, Op.operands])]; exact k
  · rename_i s x f ho
    exact use (looks_fld _ _ _ _) h fun K2 σ2 hv k => by unfold QStep; simp only [ho]; rw [hv x (by simp [ho, Op.operands])]; exact k
  · rename_i t x i ho
    exact use (looks_idx _ _ _ _) h fun K2 σ2 hv k => by unfold QStep; simp only [ho]; rw [hv x (by simp [ho, Op.operands]), hv i (by simp [ho, Op.operands])]; exact k
  · rename_i t x lo hi mx ho
    cases mx with
    | some m => exact h.elim
    | none =>
      refine use (looks_slice _ _ _ _ _) h fun K2 σ2 hv k => ?_
      unfold QStep
      simp only [ho]
      have e1 : lo.map σ2.val = lo.map σ.val := by
        cases lo with
        | none => rfl
        | some l => simp only [Option.map_some]; rw [hv l (by simp [ho, Op.operands])]
      have e2 : hi.map σ2.val = hi.map σ.val := by
        cases hi with
        | none => rfl
        | some l => simp only [Option.map_some]; rw [hv l (by simp [ho, Op.operands])]
      rw [hv x (by simp [ho, Op.operands]), e1, e2]
      exact k
  · rename_i t x i ho
    exact use (looks_idxAddr _ _ _ _) h fun K2 σ2 hv k => by unfold QStep; simp only [ho]; rw [hv x (by simp [ho, Op.operands]), hv i (by simp [ho, Op.operands])]; exact k
  · rename_i s x f ho
    exact use (looks_fldAddr _ _ _ _) h fun K2 σ2 hv k => by unfold QStep; simp only [ho]; rw [hv x (by simp [ho, Op.operands])]; exact k
  · rename_i t x ho
    exact use (looks_load _ _ _) h fun K2 σ2 hv k => by unfold QStep; simp only [ho]; rw [hv x (by simp [ho, Op.operands])]; exact k
  · rename_i fn first cap ho
    refine use (looks_fn _ _ _) h fun K2 σ2 hv k => ?_
    unfold QStep
    simp only [ho]
    have e1 : first.toList.map σ2.val = first.toList.map σ.val := List.map_congr_left fun x hx => hv x (by simp [ho, Op.operands]; left; simpa using hx)
    have e2 : cap.toList.map σ2.val = cap.toList.map σ.val := List.map_congr_left fun x hx => hv x (by simp [ho, Op.operands]; right; simpa using hx)
    rw [e1, e2]
    exact k
  · rename_i x ho
    exact use (looks_nilck _) h fun K2 σ2 hv k => by unfold QStep; simp only [ho]; rw [hv x (by simp [ho, Op.operands])]; exact k
  · rename_i t ps ho
    refine use (looks_build _ _ _) h fun K2 σ2 hv k => ?_
    unfold QStep
    simp only [ho]
    have e1 : ps.toList.map (fun p => (p.1, σ2.val p.2)) = ps.toList.map (fun p => (p.1, σ.val p.2)) := List.map_congr_left fun p hp => by
      rw [hv p.2 (by rw [ho]; simp [Op.operands]; exact ⟨p.1, by simpa using hp⟩)]
    rw [e1]
    exact k
  · rename_i c ho
    obtain ⟨callee, args, ts⟩ := c
    simp only at h
    split at h
    · rename_i x t h2 h3
      refine use (looks_len _ _ _) h fun K2 σ2 hv k => ?_
      unfold QStep
      simp only [ho, h2, h3]
      rw [hv x (by simp [ho, Op.operands, Call.operands, arr1 h2])]
      exact k
    · rename_i x y h2
      refine use (looks_max _ _ _) h fun K2 σ2 hv k => ?_
      unfold QStep
      simp only [ho, h2]
      rw [hv x (by simp [ho, Op.operands, Call.operands, arr2 h2]), hv y (by simp [ho, Op.operands, Call.operands, arr2 h2])]
      exact k
    · rename_i x y h2
      refine use (looks_max _ _ _) h fun K2 σ2 hv k => ?_
      unfold QStep
      simp only [ho, h2]
      rw [hv x (by simp [ho, Op.operands, Call.operands, arr2 h2]), hv y (by simp [ho, Op.operands, Call.operands, arr2 h2])]
      exact k
    · rename_i f
      unfold CallQ at h
      split at h
      · rename_i g caps hf
        have e1 : ∀ σ2 : St, (∀ x ∈ o.op.operands.toList, σ2.val x = σ.val x) → args.toList.map σ2.val = args.toList.map σ.val := fun σ2 hv => List.map_congr_left fun x hx => hv x (by simp [ho, Op.operands, Call.operands]; right; simpa using hx)
        have e2 : ∀ σ2 : St, (∀ x ∈ o.op.operands.toList, σ2.val x = σ.val x) → σ2.val f = .fn g caps := fun σ2 hv => by rw [hv f (by simp [ho, Op.operands, Call.operands])]; exact hf
        rcases h with ⟨h1, ⟨h2, r, h3, h4⟩ | ⟨id, z, els, r, g1, g2, g3, g4, g5, g6⟩ | ⟨id, z, els, id2, z2, els2, r, gn, g1, g1', g2, g2', g3, g4, g5, g6⟩⟩
        · refine ⟨r, h4, fun K2 σ2 hv he k => ?_⟩
          unfold QStep
          simp only [ho]
          unfold CallQ
          simp only [e2 σ2 hv, e1 σ2 hv]
          exact ⟨h1, .inl ⟨h2, r, h3, k⟩⟩
        · refine ⟨r, g6, fun K2 σ2 hv he k => ?_⟩
          unfold QStep
          simp only [ho]
          unfold CallQ
          simp only [e2 σ2 hv, e1 σ2 hv]
          exact ⟨h1, .inr (.inl ⟨id, z, els, r, he _ _ _ g1, g2, g3, g4, g5, k⟩)⟩
        · refine ⟨r, g6, fun K2 σ2 hv he k => ?_⟩
          unfold QStep
          simp only [ho]
          unfold CallQ
          simp only [e2 σ2 hv, e1 σ2 hv]
          exact ⟨h1, .inr (.inr ⟨id, z, els, id2, z2, els2, r, gn, he _ _ _ g1, he _ _ _ g1', g2, g2', g3, g4, g5, k⟩)⟩
      · exact h.elim
    · exact h.elim
  · exact h.elim

theorem qstep_looks {C : Ctx} {o : Oper} {σ : St} {K : V → St → Prop} (h : QStep C o σ K) :
    ∃ r, K r σ ∧ ∀ (K2 : V → St → Prop) (σ2 : St), (∀ x ∈ o.op.operands.toList, σ2.val x = σ.val x) → σ2.heap = σ.heap → K2 r σ2 → QStep C o σ2 K2 := by
  obtain ⟨r, h1, h2⟩ := qstep_looks' h
  exact ⟨r, h1, fun K2 σ2 hv he k => h2 K2 σ2 hv (rowExt_heap he) k⟩

theorem qstep_step {C : Ctx} {o : Oper} {σ : St} {K : V → St → Prop} (h : QStep C o σ K) : Step C o σ K := by
  unfold QStep at h
  unfold Step
  split at h
  all_goals first | exact h.elim | (rename_i ho; simp only [ho]; exact h) | (rename_i mx ho; simp only [ho]; cases mx with | none => exact h | some m => exact h.elim) | (rename_i ho; simp only [ho]; exact .inl (biny_of_z h)) | (rename_i ho; simp only [ho]; exact .inl (convx_of_q h)) | skip
  · rename_i c ho
    simp only [ho]
    obtain ⟨callee, args, ts⟩ := c
    simp only at h ⊢
    split at h
    · rename_i h2 h3
      simp only [h2, h3]
      exact Or.inl (len_of_q h)
    · rename_i h2
      simp only [h2]
      exact h
    · rename_i h2
      simp only [h2]
      exact h
    · rename_i f
      refine up_intro ?_
      unfold CallQ at h
      unfold CallAt
      split at h
      · rename_i g caps hf
        rw [hf]
        rcases h with ⟨h1, ⟨h2, r, h3, h4⟩ | ⟨id, z, els, r, g1, g2, g3, g4, g5, g6⟩ | ⟨id, z, els, id2, z2, els2, r, gn, g1, g1', g2, g2', g3, g4, g5, g6⟩⟩
        · exact ⟨h1, acall_fnC h3 h2 (fun r' e => e ▸ h4)⟩
        · exact ⟨h1, acall_lend id g1 g2 g5 g3 g4 g6⟩
        · exact ⟨h1, acall_lend2 id id2 gn g1 g1' g2 g2' g5 g3 g4 g6⟩
      · exact h.elim
    · exact h.elim

/-! ### An operation that stands alone: all ahead of it is done, all behind it waits -/
section bar
variable {ops : Array Oper} {md : Region.Mode}
def onB (md : Region.Mode) (ops : Array Oper) (j : Nat) (p : Nat → Bool) : Bool := match ops[j]? with
  | some o => o.after.toList.any fun e => Region.binds md e && p e.on
  | none => false
/-- A move that waits for none; an operation that makes something new and looks at nothing but its operands. -/
def isFloat (o : Oper) : Bool := match o.op with
  | .move _ => o.guard.isNone && o.after.isEmpty
  | _ => false
def floatAt (ops : Array Oper) (i : Nat) : Bool := match ops[i]? with
  | some o => isFloat o
  | none => false
def calmOp : Op → Bool
  | .build _ _ | .buildSlice _ _ _ => true
  | _ => false
def calmAt (ops : Array Oper) (i : Nat) : Bool := match ops[i]? with
  | some o => calmOp o.op
  | none => false
def barB (md : Region.Mode) (ops : Array Oper) (k : Nat) : Bool :=
  ((List.range k).all fun i => (calmAt ops k && floatAt ops i) || (List.range (k - i)).any fun d => onB md ops (i + 1 + d) fun t => decide (t = i)) &&
  ((List.range (ops.size - (k + 1))).all fun d => onB md ops (k + 1 + d) fun t => decide (k ≤ t) && decide (t < k + 1 + d))
def ClosedL (md : Region.Mode) (ops : Array Oper) (listed : Array Bool) : Prop :=
  ∀ j o, ops[j]? = some o → listed.getD j false = true → ∀ e ∈ o.after, Region.binds md e = true → listed.getD e.on false = true
theorem onB_spec {j : Nat} {p : Nat → Bool} (h : onB md ops j p = true) : ∃ o, ops[j]? = some o ∧ ∃ e ∈ o.after, Region.binds md e = true ∧ p e.on = true := by
  unfold onB at h
  split at h
  · rename_i o ho
    obtain ⟨e, he, h⟩ := List.any_eq_true.1 h
    simp only [Bool.and_eq_true] at h
    exact ⟨o, ho, e, by simpa using he, h.1, h.2⟩
  · cases h
theorem closed_none : ClosedL md ops (Array.replicate ops.size false) := fun j o ho h => by
  have hj : j < ops.size := (Array.getElem?_eq_some_iff.1 ho).1
  simp [hj] at h
theorem closed_set {listed : Array Bool} {i : Nat} (hc : ClosedL md ops listed) (hi : i ∈ Region.ready md ops listed) : ClosedL md ops (listed.setIfInBounds i true) := by
  intro j o ho hj e he hb
  by_cases hji : i = j
  · subst hji
    obtain ⟨_, o', ho', hall⟩ := mem_ready.1 hi
    rw [ho] at ho'
    cases ho'
    exact getD_set_true (hall e he hb)
  · rw [getD_set_ne false hji] at hj
    exact getD_set_true (hc j o ho hj e he hb)
theorem float_none {j : Nat} {o : Oper} (ho : ops[j]? = some o) (h : floatAt ops j = true) : ∀ e ∈ o.after, False := by
  unfold floatAt at h
  simp only [ho] at h
  unfold isFloat at h
  split at h
  · simp only [Bool.and_eq_true, Array.isEmpty_iff] at h
    intro e he
    rw [h.2] at he
    simp at he
  · cases h
theorem bar_low {k : Nat} {listed : Array Bool} (hb : barB md ops k = true) (hc : ClosedL md ops listed) (hk : k ∈ Region.ready md ops listed) (n : Nat) : ∀ i, i + n = k → 0 < n → listed.getD i false = true ∨ (calmAt ops k = true ∧ floatAt ops i = true) := by
  induction n using Nat.strongRecOn with
  | _ n ih =>
    intro i hi hn
    simp only [barB, Bool.and_eq_true, List.all_eq_true, List.mem_range, List.any_eq_true, Bool.or_eq_true] at hb
    rcases hb.1 i (by omega) with h | ⟨d, hd, h⟩
    · exact .inr h
    · obtain ⟨o, ho, e, he, hbi, hp⟩ := onB_spec h
      simp only [decide_eq_true_eq] at hp
      refine .inl ?_
      by_cases hjk : i + 1 + d = k
      · obtain ⟨_, o', ho', hall⟩ := mem_ready.1 hk
        rw [← hjk, ho] at ho'
        cases ho'
        rw [← hp]; exact hall e he hbi
      · rcases ih (n - (1 + d)) (by omega) (i + 1 + d) (by omega) (by omega) with h1 | h1
        · rw [← hp]; exact hc _ o ho h1 e he hbi
        · exact (float_none ho h1.2 e he).elim
theorem bar_high {k : Nat} {listed : Array Bool} (hb : barB md ops k = true) (hc : ClosedL md ops listed) (hk : listed.getD k false = false) (d : Nat) : k + 1 + d < ops.size → listed.getD (k + 1 + d) false = false ∧ k + 1 + d ∉ Region.ready md ops listed := by
  induction d using Nat.strongRecOn with
  | _ d ih =>
    intro hlt
    simp only [barB, Bool.and_eq_true, List.all_eq_true, List.mem_range] at hb
    have h := hb.2 d (by omega)
    obtain ⟨o, ho, e, he, hbi, hp⟩ := onB_spec h
    simp only [decide_eq_true_eq, Bool.and_eq_true] at hp
    have hno : listed.getD e.on false = false := by
      by_cases hek : e.on = k
      · rw [hek]; exact hk
      · have := (ih (e.on - (k + 1)) (by omega) (by omega)).1
        rwa [show k + 1 + (e.on - (k + 1)) = e.on by omega] at this
    refine ⟨?_, fun hr => ?_⟩
    · cases hx : listed.getD (k + 1 + d) false with
      | false => rfl
      | true => have := hc _ o ho hx e he hbi; rw [hno] at this; cases this
    · obtain ⟨_, o', ho', hall⟩ := mem_ready.1 hr
      rw [ho] at ho'
      cases ho'
      have := hall e he hbi
      rw [hno] at this; cases this
theorem getD_two {listed : Array Bool} {i : Nat} (h : listed.getD i true = false) : listed.getD i false = false := by
  rcases Nat.lt_or_ge i listed.size with h' | h'
  · simpa [h'] using h
  · simp [Array.getElem?_eq_none h'] at h
theorem bar_sole' {k i : Nat} {listed : Array Bool} (hb : barB md ops k = true) (hc : ClosedL md ops listed) (hk : k ∈ Region.ready md ops listed) (hi : i ∈ Region.ready md ops listed) : i = k ∨ (i < k ∧ calmAt ops k = true ∧ floatAt ops i = true) := by
  obtain ⟨hu, oi, ho, _⟩ := mem_ready.1 hi
  have hlt : i < ops.size := (Array.getElem?_eq_some_iff.1 ho).1
  rcases Nat.lt_trichotomy i k with h | h | h
  · rcases bar_low hb hc hk (k - i) i (by omega) (by omega) with this | this
    · rw [getD_two hu] at this; cases this
    · exact .inr ⟨h, this⟩
  · exact .inl h
  · have := (bar_high hb hc (getD_two (mem_ready.1 hk).1) (i - (k + 1)) (by omega)).2
    rw [show k + 1 + (i - (k + 1)) = i by omega] at this
    exact absurd hi this
theorem bar_sole {k i : Nat} {listed : Array Bool} (hb : barB md ops k = true) (hc : ClosedL md ops listed) (hpre : ∀ j < k, listed.getD j false = true) (hk : k ∈ Region.ready md ops listed) (hi : i ∈ Region.ready md ops listed) : i = k := by
  rcases bar_sole' hb hc hk hi with h | ⟨h, _⟩
  · exact h
  · have := hpre i h
    rw [getD_two (mem_ready.1 hi).1] at this
    cases this
theorem pre_set {k : Nat} {listed : Array Bool} (hpre : ∀ j < k, listed.getD j false = true) (hs : k < listed.size) : ∀ j < k + 1, (listed.setIfInBounds k true).getD j false = true := fun j hj => by
  by_cases e : j = k
  · subst e
    simp [Array.getD, hs]
  · exact getD_set_true (hpre j (by omega))
end bar

/-! ### Any order -/
section any
variable {C : Ctx} {ops : Array Oper} {md : Region.Mode}

/-- The guard's word: some true: it is carried out; none: not known. -/
def wantA (ops : Array Oper) (o : Oper) (σ : St) : Option Bool :=
  match o.guard with
  | none => some true
  | some (j, want) => match guardOf ops σ j with
    | .bool b => some (b == want)
    | .tup _ => some false
    | _ => none
/-- At σ the operation leaves r. -/
def YA (C : Ctx) (ops : Array Oper) (o : Oper) (r : V) (σ : St) : Prop :=
  (wantA ops o σ = some true ∧ QStep C o σ fun r' σ' => r' = r ∧ σ' = σ) ∨ (wantA ops o σ = some false ∧ r = .tup [])
def qOpA (C : Ctx) (md : Region.Mode) (ops : Array Oper) (i : Nat) (K : St → Prop) (σ : St) : Prop :=
  match ops[i]? with
  | none => K σ
  | some o => (∃ r, YA C ops o r σ ∧ K (σ.put o.dst r)) ∨ (o.guard = none ∧ barB md ops i = true ∧ ∃ K0 : V → St → Prop, Step C o σ K0 ∧ ∀ r σ', K0 r σ' → K (σ'.put o.dst r))
def wpAnyA (C : Ctx) (md : Region.Mode) (ops : Array Oper) (Q : St → Prop) : Nat → Array Bool → St → Prop
  | 0, listed, σ => Region.ready md ops listed = [] ∧ Q σ
  | fuel + 1, listed, σ => (Region.ready md ops listed = [] → Q σ) ∧ ∀ i ∈ Region.ready md ops listed, qOpA C md ops i (wpAnyA C md ops Q fuel (listed.setIfInBounds i true)) σ

theorem want_says {o : Oper} {σ : St} {a : Act} {w : World} {b : Bool} (hr : Rel C σ a w) (h : wantA ops o σ = some b) : Region.wanted o (yielded ops a.tmps) = b := by
  unfold wantA at h
  unfold Region.wanted
  split at h
  · rename_i hg
    simp only [Option.some.injEq] at h
    simp [hg, h]
  · rename_i j want hg
    split at h
    · rename_i b' hb
      simp only [Option.some.injEq] at h
      rw [hg]
      simp only [guard_says hr hb]
      rw [← h]
      cases b' <;> cases want <;> rfl
    · rename_i l hb
      simp only [Option.some.injEq] at h
      rw [hg]
      simp only [guard_none hr hb]
      rw [← h]
      rfl
    · cases h

theorem wpOp_of_qOpA {i : Nat} {σ : St} {a : Act} {w : World} {K : St → Prop} {K' : Act → World → Prop} {Q' : Exit → Act → World → Prop} (hr : Rel C σ a w) (h : ∀ σ a w, Rel C σ a w → K σ → K' a w) (hh : qOpA C md ops i K σ) : wpOp C.P ops Q' i K' a w := by
  unfold qOpA at hh
  unfold wpOp
  split
  · rename_i ho; simp only [ho] at hh; exact h _ _ _ hr hh
  · rename_i o ho
    simp only [ho] at hh
    obtain ⟨r, hy, hk⟩ | ⟨hg, _, K0, hS, hK⟩ := hh
    case inr =>
      rw [want_says (o := o) (b := true) hr (by simp [wantA, hg])]
      refine .inl (step_sound o σ _ hS a w hr _ _ ?_)
      intro v w' r' σ' hk0 hx
      exact h _ _ _ (relx_put o.dst hx) (hK _ _ hk0)
    rcases hy with ⟨hw, hq⟩ | ⟨hw, rfl⟩
    · rw [want_says hr hw]
      refine .inl (step_sound o σ _ (qstep_step hq) a w hr _ _ ?_)
      rintro v w' r' σ' ⟨rfl, rfl⟩ hx
      exact h _ _ _ (relx_put o.dst hx) hk
    · rw [want_says hr hw]
      obtain ⟨I, bl, hp⟩ := hr.parts
      exact h _ _ _ (relx_put o.dst (hp.relx rep_undef)) hk

theorem wpAny_of_A {Q : St → Prop} {Q' : Exit → Act → World → Prop} (hQ : ∀ σ a w, Rel C σ a w → Q σ → Q' .normal a w) : ∀ (fuel : Nat) (listed : Array Bool) (σ : St) (a : Act) (w : World), Rel C σ a w →
    wpAnyA C md ops Q fuel listed σ → wpAny C.P md ops Q' fuel listed a w
  | 0, _, _, _, _, hr, h => ⟨h.1, hQ _ _ _ hr h.2⟩
  | fuel + 1, _, _, _, _, hr, h => ⟨fun h0 => hQ _ _ _ hr (h.1 h0), fun i hi => wpOp_of_qOpA hr (fun σ' a' w' hr' => wpAny_of_A hQ fuel _ σ' a' w' hr') (h.2 i hi)⟩

theorem val_put {σ : St} {d : Option Tmp} {x : V} {y : Operand} (h : ∀ t, d = some t → y ≠ .tmp t) : (σ.put d x).val y = σ.val y := by
  cases d with
  | none => rfl
  | some t =>
    cases y with
    | tmp u =>
      have hne : t ≠ u := fun e => h t rfl (e ▸ rfl)
      simp [St.val, St.put, List.getD, List.getElem?_set_ne hne]
    | _ => rfl
theorem put_comm' (σ : St) {x y : Option Tmp} (v u : V) (h : ∀ d, x = some d → y ≠ some d) : (σ.put x v).put y u = (σ.put y u).put x v := by
  cases x with
  | none => rfl
  | some d =>
    cases y with
    | none => rfl
    | some e =>
      have hne : d ≠ e := fun he => h d rfl (he ▸ rfl)
      simp [St.put, List.set_comm _ _ hne]
theorem heap_put (σ : St) (d : Option Tmp) (x : V) : (σ.put d x).heap = σ.heap := by cases d <;> rfl
theorem looks_at_op {o : Oper} {d : Tmp} (h : d ∉ o.looksAt ops) (x : Operand) (hx : x ∈ o.op.operands.toList) : x ≠ .tmp d := by
  intro e
  subst e
  apply h
  unfold Oper.looksAt
  rw [List.mem_append]
  left
  rw [List.mem_filterMap]
  exact ⟨_, hx, rfl⟩
theorem guard_put {o : Oper} {σ : St} {d : Option Tmp} {x : V} (h : ∀ t, d = some t → t ∉ o.looksAt ops) : wantA ops o (σ.put d x) = wantA ops o σ := by
  unfold wantA
  split
  · rfl
  · rename_i j want hg
    have : guardOf ops (σ.put d x) j = guardOf ops σ j := by
      unfold guardOf
      split
      · rename_i t ht
        cases d with
        | none => rfl
        | some u =>
          have hne : u ≠ t := by
            intro e
            subst e
            apply h u rfl
            unfold Oper.looksAt
            rw [List.mem_append]
            right
            rw [hg]
            simp [ht]
          simp [St.put, List.getD, List.getElem?_set_ne hne]
      · rfl
    rw [this]

theorem ya_put {o : Oper} {r : V} {σ : St} {d : Option Tmp} {x : V} (h : ∀ t, d = some t → t ∉ o.looksAt ops) (hy : YA C ops o r σ) : YA C ops o r (σ.put d x) := by
  rcases hy with ⟨hw, hq⟩ | ⟨hw, rfl⟩
  · refine .inl ⟨by rw [guard_put h]; exact hw, ?_⟩
    obtain ⟨r', ⟨rfl, _⟩, h2⟩ := qstep_looks hq
    exact h2 _ _ (fun y hy => val_put fun t ht => looks_at_op (h t ht) y hy) (heap_put _ _ _) ⟨rfl, rfl⟩
  · exact .inr ⟨by rw [guard_put h]; exact hw, rfl⟩
theorem ya_unput {o : Oper} {r : V} {σ : St} {d : Option Tmp} {x : V} (h : ∀ t, d = some t → t ∉ o.looksAt ops) (hy : YA C ops o r (σ.put d x)) : YA C ops o r σ := by
  rcases hy with ⟨hw, hq⟩ | ⟨hw, rfl⟩
  · refine .inl ⟨by rw [guard_put h] at hw; exact hw, ?_⟩
    obtain ⟨r', ⟨rfl, _⟩, h2⟩ := qstep_looks hq
    exact h2 _ _ (fun y hy => (val_put fun t ht => looks_at_op (h t ht) y hy).symm) (heap_put _ _ _).symm ⟨rfl, rfl⟩
  · exact .inr ⟨by rw [guard_put h] at hw; exact hw, rfl⟩

theorem qOpA_mono {i : Nat} {σ : St} {K K' : St → Prop} (h : ∀ σ, K σ → K' σ) (hh : qOpA C md ops i K σ) : qOpA C md ops i K' σ := by
  unfold qOpA at *
  split
  · rename_i ho; simp only [ho] at hh; exact h _ hh
  · rename_i o ho
    simp only [ho] at hh
    obtain ⟨r, hy, hk⟩ | ⟨hg, hb, K0, hS, hK⟩ := hh
    · exact .inl ⟨r, hy, h _ hk⟩
    · exact .inr ⟨hg, hb, K0, hS, fun r σ' hk => h _ (hK r σ' hk)⟩
theorem YA.qOpA {i : Nat} {o : Oper} {r : V} {σ : St} (hi : ops[i]? = some o) (hy : YA C ops o r σ) {K : St → Prop} (h : K (σ.put o.dst r)) : qOpA C md ops i K σ := by
  unfold Go.Proofs.YtbdogoccjcifnaaDoor.qOpA
  simp only [hi]
  exact .inl ⟨r, hy, h⟩

theorem put_heap (σ : St) (d : Option Tmp) (v : V) (h : List (Option Ob)) : { σ.put d v with heap := h } = ({ σ with heap := h } : St).put d v := by cases d <;> rfl
theorem step_calm {o : Oper} (hcalm : calmOp o.op = true) {d : Option Tmp} {v : V} {σ : St} (h : ∀ t, d = some t → ∀ x ∈ o.op.operands.toList, x ≠ .tmp t) {K0 : V → St → Prop} (hS : Step C o (σ.put d v) K0) : Step C o σ (fun r σ' => σ'.env = σ.env ∧ K0 r (σ'.put d v)) := by
  unfold calmOp at hcalm
  split at hcalm
  · rename_i t ps ho
    unfold Step at hS ⊢
    simp only [ho] at hS ⊢
    have e : ps.toList.map (fun p => (p.1, (σ.put d v).val p.2)) = ps.toList.map (fun p => (p.1, σ.val p.2)) := List.map_congr_left fun p hp => by
      rw [val_put fun t ht => h t ht p.2 (by rw [ho]; simp [Op.operands]; exact ⟨p.1, by simpa using hp⟩)]
    rw [e] at hS
    unfold BuildK at hS ⊢
    split at hS
    · rename_i pl c0 h1 h2
      simp only [h1, h2]
      split at hS
      · exact ⟨trivial, hS⟩
      · exact hS.elim
    · exact hS.elim
  · rename_i t n ps ho
    unfold Step at hS ⊢
    simp only [ho] at hS ⊢
    have e : ps.toList.map (fun p => (p.1, (σ.put d v).val p.2)) = ps.toList.map (fun p => (p.1, σ.val p.2)) := List.map_congr_left fun p hp => by
      rw [val_put fun t ht => h t ht p.2 (by rw [ho]; simp [Op.operands]; exact ⟨p.1, by simpa using hp⟩)]
    rw [e] at hS
    unfold BSliceK at hS ⊢
    split at hS
    · rename_i e z h1
      obtain ⟨a1, a2, a3, a4, a5⟩ := hS
      rw [heap_put, put_heap] at a5
      exact ⟨a1, a2, a3, a4, rfl, a5⟩
    · exact hS.elim
  · cases hcalm
theorem val_env {σ σ' : St} (h : σ'.env = σ.env) (x : Operand) : σ'.val x = σ.val x := by
  cases x <;> simp [St.val, h]
theorem qOpA_put {j i : Nat} {oi oj : Oper} {r : V} (hi : ops[i]? = some oi) (hj : ops[j]? = some oj) (hap : oi.apart ops oj = true) (hnb : barB md ops j = true → calmAt ops j = true ∧ floatAt ops i = true) {K : St → Prop} {σ : St} (hy : YA C ops oi r σ) (h : qOpA C md ops j K (σ.put oi.dst r)) :
    qOpA C md ops j (fun σ' => YA C ops oi r σ' ∧ K (σ'.put oi.dst r)) σ := by
  obtain ⟨h1, h2, h3⟩ := Oper.apart_spec hap
  unfold qOpA at h ⊢
  simp only [hj] at h ⊢
  obtain ⟨u, hu, hk⟩ | ⟨hg, hb, K0, hS, hK⟩ := h
  · refine .inl ⟨u, ya_unput h1 hu, ya_put h3 hy, ?_⟩
    rw [← put_comm' σ r u h2]
    exact hk
  · obtain ⟨hc, hf⟩ := hnb hb
    have hc : calmOp oj.op = true := by unfold calmAt at hc; rw [hj] at hc; exact hc
    have hf : isFloat oi = true := by unfold floatAt at hf; rw [hi] at hf; exact hf
    refine .inr ⟨hg, hb, _, step_calm hc (fun t ht x hx => looks_at_op (h1 t ht) x hx) hS, ?_⟩
    rintro u σ' ⟨he, hk⟩
    have hmv : ∃ x, oi.op = .move x ∧ oi.guard = none := by
      unfold isFloat at hf
      split at hf
      · rename_i x hx
        simp only [Bool.and_eq_true, Option.isNone_iff_eq_none] at hf
        exact ⟨x, hx, hf.1⟩
      · cases hf
    obtain ⟨x, hx, hgi⟩ := hmv
    refine ⟨?_, ?_⟩
    · rcases hy with ⟨hw, hq⟩ | ⟨hw, _⟩
      · refine .inl ⟨by simp [wantA, hgi], ?_⟩
        unfold QStep at hq ⊢
        simp only [hx] at hq ⊢
        refine ⟨?_, trivial⟩
        rw [← hq.1, val_put fun t ht => looks_at_op (h3 t ht) x (by rw [hx]; simp [Op.operands]), val_env he]
      · simp [wantA, hgi] at hw
    · rw [← put_comm' σ' r u h2]
      exact hK _ _ hk

theorem wpAnyA_first {Q : St → Prop} {i : Nat} {oi : Oper} {r : V} (hi : ops[i]? = some oi) :
    ∀ (fuel : Nat) (listed : Array Bool) (σ : St), ClosedL md ops listed →
      (∀ j oj, ops[j]? = some oj → j ≠ i → listed.getD j true = false → (∀ e ∈ oj.after, Region.binds md e = true → e.on ≠ i) → oi.apart ops oj = true) →
      i ∈ Region.ready md ops listed → YA C ops oi r σ → wpAnyA C md ops Q fuel (listed.setIfInBounds i true) (σ.put oi.dst r) → wpAnyA C md ops Q (fuel + 1) listed σ := by
  intro fuel
  induction fuel with
  | zero =>
    intro listed σ _ _ hr hy H
    refine ⟨fun h => (by rw [h] at hr; cases hr), fun j hj => ?_⟩
    by_cases hji : j = i
    · subst hji; exact hy.qOpA hi H
    · have := ready_mono hj hji
      rw [H.1] at this
      cases this
  | succ fuel ih =>
    intro listed σ hc hfree hr hy H
    refine ⟨fun h => (by rw [h] at hr; cases hr), fun j hj => ?_⟩
    by_cases hji : j = i
    · subst hji; exact hy.qOpA hi H
    · have h1 := H.2 j (ready_mono hj hji)
      obtain ⟨hjun, oj, hoj, hall⟩ := mem_ready.1 hj
      have hnot : ∀ e ∈ oj.after, Region.binds md e = true → e.on ≠ i := fun e he hb heq => by
        have h1 := hall e he hb
        have h0 := (mem_ready.1 hr).1
        rw [heq] at h1
        rcases Nat.lt_or_ge i listed.size with h' | h'
        · simp [h'] at h0 h1; rw [h0] at h1; cases h1
        · simp [Array.getElem?_eq_none h'] at h1
      have h2 := qOpA_put hi hoj (hfree j oj hoj hji hjun hnot) (fun hb => by
        rcases bar_sole' hb hc hj hr with h | h
        · exact absurd h.symm hji
        · exact h.2) hy h1
      have hfree' : ∀ k ok, ops[k]? = some ok → k ≠ i → (listed.setIfInBounds j true).getD k true = false →
          (∀ e ∈ ok.after, Region.binds md e = true → e.on ≠ i) → oi.apart ops ok = true := fun k ok hk hki hun hno => by
        refine hfree k ok hk hki ?_ hno
        by_cases hjk : j = k
        · subst hjk; exact hjun
        · rw [getD_set_ne true hjk] at hun; exact hun
      refine qOpA_mono (fun σ' h3 => ih (listed.setIfInBounds j true) σ' (closed_set hc hj) hfree' (ready_mono hr (Ne.symm hji)) h3.1 ?_) h2
      rw [Array.setIfInBounds_comm _ _ hji]
      exact h3.2

/-- An operation that only looks; or one that makes or writes memory and stands alone. -/
def QX (C : Ctx) (ops : Array Oper) (n : Nat) (o : Oper) (σ : St) (K : V → St → Prop) : Prop :=
  match o.op with
  | .buildSlice _ _ _ | .build _ _ | .alloc _ | .box _ _ | .store _ _ _ => barB .any ops (ops.size - (n + 1)) = true ∧ Step C o σ K
  | .call c => match c.callee with
    | .builtin .append => barB .any ops (ops.size - (n + 1)) = true ∧ Step C o σ K
    | _ => QStep C o σ K
  | _ => QStep C o σ K
theorem qx_or {C : Ctx} {ops : Array Oper} {n : Nat} {o : Oper} {σ : St} {K : V → St → Prop} (h : QX C ops n o σ K) : QStep C o σ K ∨ (barB .any ops (ops.size - (n + 1)) = true ∧ Step C o σ K) := by
  unfold QX at h
  split at h
  all_goals first | exact .inr h | exact .inl h | skip
  split at h
  · exact .inr h
  · exact .inl h

/-- The operations in the order of the text. -/
def QOps (C : Ctx) (ops : Array Oper) (K : St → Prop) : List Oper → St → Prop
  | [], σ => K σ
  | o :: rest, σ =>
    match o.guard with
    | none => QX C ops rest.length o σ (PutK o.dst (QOps C ops K rest))
    | some (j, want) => match guardOf ops σ j with
      | .bool b => (b = want → QStep C o σ (PutK o.dst (QOps C ops K rest))) ∧ (b ≠ want → QOps C ops K rest (σ.put o.dst (.tup [])))
      | .tup _ => QOps C ops K rest (σ.put o.dst (.tup []))
      | _ => False

theorem qops_head {K : St → Prop} {o : Oper} {rest : List Oper} {σ : St} (h : QOps C ops K (o :: rest) σ) : (∃ r, YA C ops o r σ ∧ QOps C ops K rest (σ.put o.dst r)) ∨ (o.guard = none ∧ barB .any ops (ops.size - (rest.length + 1)) = true ∧ Step C o σ (PutK o.dst (QOps C ops K rest))) := by
  have go : wantA ops o σ = some true → QStep C o σ (PutK o.dst (QOps C ops K rest)) → ∃ r, YA C ops o r σ ∧ QOps C ops K rest (σ.put o.dst r) := by
    intro hw hq
    obtain ⟨r, h1, h2⟩ := qstep_looks hq
    have h3 := h2 (fun r' σ' => r' = r ∧ σ' = σ) σ (fun _ _ => rfl) rfl ⟨rfl, rfl⟩
    obtain ⟨r', hk, _⟩ := qstep_looks hq
    exact ⟨r, .inl ⟨hw, h3⟩, h1⟩
  simp only [QOps] at h
  cases hg : o.guard with
  | none =>
    simp only [hg] at h
    rcases qx_or h with h | h
    · exact .inl (go (by simp [wantA, hg]) h)
    · exact .inr ⟨rfl, h⟩
  | some jw =>
    obtain ⟨j, want⟩ := jw
    simp only [hg] at h
    split at h
    · rename_i b hb
      by_cases he : b = want
      · exact .inl (go (by simp [wantA, hg, hb, he]) (h.1 he))
      · exact .inl ⟨.tup [], .inr ⟨by simp [wantA, hg, hb, he], rfl⟩, h.2 he⟩
    · rename_i l hb
      exact .inl ⟨.tup [], .inr ⟨by simp [wantA, hg, hb], rfl⟩, h⟩
    · exact h.elim
end any
end Go.Proofs.YtbdogoccjcifnaaDoor
