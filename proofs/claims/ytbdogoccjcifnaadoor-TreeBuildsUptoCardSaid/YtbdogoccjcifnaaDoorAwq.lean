/- Abstract walk by reckoning: one operation. No conditions. -/
import Derived.Test.YtbdogoccjcifnaaDoorAwp
set_option linter.unusedSimpArgs false
set_option linter.unusedVariables false
set_option maxRecDepth 100000
namespace Go.Proofs.YtbdogoccjcifnaaDoor
open Go.RowKit

def kmin : IntKind → Int
  | .i8 => -128 | .i16 => -32768 | .i32 => -2147483648 | .i64 => -9223372036854775808 | _ => 0
def kmax : IntKind → Int
  | .i8 => 127 | .i16 => 32767 | .i32 => 2147483647 | .i64 => 9223372036854775807 | .u8 => 255 | .u16 => 65535 | .u32 => 4294967295 | .u64 => 18446744073709551615
def fits (k : IntKind) (n : Int) : Bool := decide (kmin k ≤ n) && decide (n ≤ kmax k)
theorem fits_of {k : IntKind} {n : Int} (h1 : kmin k ≤ n) (h2 : n ≤ kmax k) : fits k n = true := by simp [fits, h1, h2]
theorem fits_i64 {n : Int} (h1 : -9223372036854775808 ≤ n) (h2 : n ≤ 9223372036854775807) : fits .i64 n = true := fits_of h1 h2
theorem fits_wrap {k : IntKind} {n : Int} (h : fits k n = true) : k.wrap n = n := by
  simp only [fits, Bool.and_eq_true, decide_eq_true_eq] at h
  cases k <;> simp only [kmin, kmax] at h <;> simp only [IntKind.wrap, IntKind.bits, IntKind.signed] <;> simp <;> omega

/-- An integer: in its kind's range as it is, else wrapped. -/
structure FitD (k : IntKind) (n : Int) (A B : Prop) : Prop where
  out : Br (fits k n) A B
def eInt (k : IntKind) (n : Int) (K : V → Prop) : Prop := FitD k n (K (.int k n)) (K (.int k (k.wrap n)))
theorem fit {k : IntKind} {n : Int} {A B : Prop} (h : kmin k ≤ n ∧ n ≤ kmax k) (a : A) : FitD k n A B := ⟨br_t (fits_of h.1 h.2) a⟩
theorem fit_not {k : IntKind} {n : Int} {A B : Prop} (h : n < kmin k ∨ kmax k < n) (b : B) : FitD k n A B := ⟨br_f (by simp only [fits, Bool.and_eq_false_iff, decide_eq_false_iff_not]; omega) b⟩
theorem fit64 {n : Int} {A B : Prop} (h : -9223372036854775808 ≤ n ∧ n ≤ 9223372036854775807) (a : A) : FitD .i64 n A B := fit h a
theorem fit8 {n : Int} {A B : Prop} (h : 0 ≤ n ∧ n ≤ 255) (a : A) : FitD .u8 n A B := fit h a
theorem fit32 {n : Int} {A B : Prop} (h : -2147483648 ≤ n ∧ n ≤ 2147483647) (a : A) : FitD .i32 n A B := fit h a
/-- A comparison's answer. -/
def eDec (p : Prop) (K : V → Prop) : Prop := BrD p (K (.bool true)) (K (.bool false))
def eDecN (p : Prop) (K : V → Prop) : Prop := BrD p (K (.bool false)) (K (.bool true))
theorem eDec_elim {p : Prop} [Decidable p] {K : V → Prop} (h : eDec p K) : K (.bool (decide p)) := by
  by_cases hp : p
  · rw [decide_eq_true hp]; exact h.t hp
  · rw [decide_eq_false hp]; exact h.f hp
theorem eDecN_elim {p : Prop} [Decidable p] {K : V → Prop} (h : eDecN p K) : K (.bool (decide ¬ p)) := by
  by_cases hp : p
  · rw [decide_eq_false (fun n => n hp)]; exact h.t hp
  · rw [decide_eq_true hp]; exact h.f hp
theorem eDec_mono {p : Prop} {K K' : V → Prop} (h : eDec p K) (hk : ∀ r, K r → K' r) : eDec p K' := brd_mono h (hk _) (hk _)
theorem eDecN_mono {p : Prop} {K K' : V → Prop} (h : eDecN p K) (hk : ∀ r, K r → K' r) : eDecN p K' := brd_mono h (hk _) (hk _)
theorem eInt_elim {k : IntKind} {n : Int} {K : V → Prop} (h : eInt k n K) : K (.int k (k.wrap n)) := by
  rcases br_elim h.out with ⟨h1, h2⟩ | ⟨_, h2⟩
  · rw [fits_wrap h1]; exact h2
  · exact h2
def asB (v : V) (K : Bool → Prop) : Prop := match v with | .bool b => K b | _ => False
theorem asB_elim {v : V} {K : Bool → Prop} (h : asB v K) : ∃ b, v = .bool b ∧ K b := by
  cases v <;> first | exact ⟨_, rfl, h⟩ | exact h.elim
def ikB (a b : IntKind) : Bool := decide (a = b)

def eqR (op : BinOp) (b : Bool) (K : V → Prop) : Prop := match op with | .eql => K (.bool b) | .neq => K (.bool (!b)) | _ => False
def eEq (op : BinOp) : List Kd → List V → List V → (V → Prop) → Prop
  | [], [], [], K => eqR op true K
  | .s :: ks, .str a :: l, .str b :: r, K => BrD (a = b) (eEq op ks l r K) (eqR op false K)
  | .b :: ks, .bool a :: l, .bool b :: r, K => BrD (a = b) (eEq op ks l r K) (eqR op false K)
  | .i _ :: ks, .int k a :: l, .int k' b :: r, K => Br (ikB k k') (BrD (a = b) (eEq op ks l r K) (eqR op false K)) False
  | _, _, _, _ => False
def eBin (T : TT) (q : Bool) (t : TypeId) (op : BinOp) (x y : V) (K : V → Prop) : Prop :=
  match x with
  | .int k a => match y with
    | .int k' b => match op with
      | .add => Br (ikB k k') (eInt k (a + b) K) False
      | .sub => Br (ikB k k') (eInt k (a - b) K) False
      | .mul => Br (ikB k k') (eInt k (a * b) K) False
      | .quo => Br (ikB k k') (AskD (b ≠ 0) (eInt k (a.tdiv b) K)) False
      | .rem => Br (ikB k k') (AskD (b ≠ 0) (K (.int k (a.tmod b)))) False
      | .eql => Br (ikB k k') (eDec (a = b) K) False
      | .neq => Br (ikB k k') (eDecN (a = b) K) False
      | .lss => Br (ikB k k') (eDec (a < b) K) False
      | .leq => Br (ikB k k') (eDec (a ≤ b) K) False
      | .gtr => Br (ikB k k') (eDec (b < a) K) False
      | .geq => Br (ikB k k') (eDec (b ≤ a) K) False
      | .shl => AskD (0 ≤ b) (eInt k (a * 2 ^ (min b.toNat k.bits)) K)
      | .shr => AskD (0 ≤ b) (K (.int k (a.fdiv (2 ^ (min b.toNat k.bits)))))
      | .and => Br (ikB k k') (K (.int k (bitAnd k a b))) False
      | .or => Br (ikB k k') (K (.int k (bitOr k a b))) False
      | .xor => Br (ikB k k') (K (.int k (bitXor k a b))) False
      | _ => False
    | _ => False
  | .str s => match y with
    | .str t => match op with
      | .add => AskD (s.length + t.length ≤ 9223372036854775807) (K (.str (s ++ t)))
      | .eql => eDec (s = t) K
      | .neq => eDecN (s = t) K
      | _ => False
    | _ => False
  | .bool a => match y with
    | .bool b => Br (T.get t).boo (match op with
      | .eql => K (.bool (a == b))
      | .neq => K (.bool (a != b))
      | _ => False) False
    | _ => False
  | .agg l => match y with
    | .agg r => match (T.get t).sq with
      | some ks => eEq op ks l r K
      | none => False
    | _ => False
  | .nils => match y with
    | .nils => eNil q (T.get t).sli op (fun k => k true) K
    | .lst l => eNil q (T.get t).sli op (fun k => ∀ b, (b = true → l = []) → k b) K
    | .sl _ _ n => eNil q (T.get t).sli op (fun k => ∀ b, (b = true → n = 0) → k b) K
    | _ => False
  | .lst l => match y with
    | .nils => eNil q (T.get t).sli op (fun k => ∀ b, (b = true → l = []) → k b) K
    | _ => False
  | .sl _ _ n => match y with
    | .nils => eNil q (T.get t).sli op (fun k => ∀ b, (b = true → n = 0) → k b) K
    | _ => False
  | .nilp => match y with
    | .nilp => eNil q (T.get t).ptr op (fun k => k true) K
    | .ptr _ _ _ => eNil q (T.get t).ptr op (fun k => k false) K
    | .rp _ => eNil q (T.get t).ptr op (fun k => k false) K
    | _ => False
  | .ptr _ _ _ => match y with
    | .nilp => eNil q (T.get t).ptr op (fun k => k false) K
    | _ => False
  | .rp _ => match y with
    | .nilp => eNil q (T.get t).ptr op (fun k => k false) K
    | _ => False
  | _ => False
where eNil (q ok : Bool) (op : BinOp) (p : (Bool → Prop) → Prop) (K : V → Prop) : Prop :=
  match q with
  | true => False
  | false => Br ok (match op with
    | .eql => p fun b => K (.bool b)
    | .neq => p fun b => K (.bool (!b))
    | _ => False) False

theorem eqK_of {op : BinOp} {b : Bool} {K : V → St → Prop} {σ : St} (h : match op with | .eql => K (.bool b) σ | .neq => K (.bool (!b)) σ | _ => False) : eqK op b K σ := by
  unfold eqK
  cases op <;> first | exact h | exact h.elim

theorem eBin_int {T : TT} {P : Program} {q : Bool} {t : TypeId} {op : BinOp} {k k' : IntKind} {a b : Int} {σ : St} {K : V → St → Prop} (h : eBin T q t op (.int k a) (.int k' b) fun r => K r σ) : BinX P t op (.int k a) (.int k' b) K σ := by
  have kk : ∀ {A : Prop}, Br (ikB k k') A False → k = k' ∧ A := fun h => by
    have := br_only h
    exact ⟨by simpa [ikB] using this.1, this.2⟩
  unfold BinX
  cases op
  all_goals first
    | (have := kk h; exact ⟨this.1, eInt_elim (K := fun r => K r σ) this.2⟩)
    | (have := kk h; exact ⟨this.1, this.2.1, eInt_elim (K := fun r => K r σ) this.2.2⟩)
    | (have := kk h; exact ⟨this.1, this.2.1, this.2.2⟩)
    | (have := kk h; exact ⟨this.1, eDec_elim (K := fun r => K r σ) this.2⟩)
    | (have := kk h; exact ⟨this.1, eDecN_elim (K := fun r => K r σ) this.2⟩)
    | (have := kk h; exact ⟨this.1, this.2⟩)
    | exact ⟨AskD.p h, eInt_elim (K := fun r => K r σ) (AskD.a h)⟩
    | exact ⟨AskD.p h, AskD.a h⟩
    | exact (h : False).elim

theorem eNil_elim {q ok ok' : Bool} {op : BinOp} {p : (Bool → Prop) → Prop} {σ : St} {K : V → St → Prop} (h : eBin.eNil q ok op p fun r => K r σ) (hok : BEq' ok ok') (hp : ∀ k k' : Bool → Prop, (∀ b, k b → k' b) → p k → p k') :
    ok' = true ∧ p (fun b => eqK op b K σ) ∧ q = false := by
  cases q with
  | true => exact h.elim
  | false =>
    have h := br_only h
    refine ⟨beq_true hok h.1, ?_, rfl⟩
    have h2 := h.2
    cases op
    all_goals first | exact hp _ _ (fun b hb => hb) h2 | exact h2.elim

theorem eqR_ok {op : BinOp} {b : Bool} {K : V → St → Prop} {σ : St} (h : eqR op b fun r => K r σ) : eqK op b K σ := by
  unfold eqK
  cases op <;> first | exact h | exact (h : False).elim
theorem eEq_ok {op : BinOp} {K : V → St → Prop} {σ : St} : ∀ (ks : List Kd) (l r : List V), (eEq op ks l r fun x => K x σ) → EqF op ks l r K σ := by
  intro ks
  induction ks with
  | nil =>
    intro l r h
    match l, r, h with
    | [], [], h => exact eqR_ok h
    | _ :: _, _, h => simp [eEq] at h
    | [], _ :: _, h => simp [eEq] at h
  | cons d ks ih =>
    intro l r h
    cases l with
    | nil => cases d <;> simp [eEq] at h
    | cons x l =>
      cases r with
      | nil => cases d <;> cases x <;> simp [eEq] at h
      | cons y r =>
        cases d <;> cases x <;> cases y <;> first
          | (simp only [eEq] at h; done)
          | exact ⟨fun e => ih l r (BrD.t h e), fun n => eqR_ok (BrD.f h n)⟩
          | (have := br_only h; exact ⟨by simpa [ikB] using this.1, fun e => ih l r (this.2.t e), fun n => eqR_ok (this.2.f n)⟩)
theorem eBin_ok {T : TT} {P : Program} (hT : T.All P) {q : Bool} {t : TypeId} {op : BinOp} {x y : V} {σ : St} {K : V → St → Prop} (h : eBin T q t op x y fun r => K r σ) :
    BinY P t op x y K σ ∧ (q = true → BinZ P t op x y K σ) := by
  have ht := TT.ok hT t
  cases x with
  | int k a =>
    cases y with
    | int k' b => exact ⟨biny_of_x (eBin_int h), fun _ => eBin_int h⟩
    | _ => exact (h : False).elim
  | str s =>
    cases y with
    | str t' =>
      have : BinK P t op (.str s) (.str t') K σ := by
        unfold BinK
        cases op
        all_goals first | exact ⟨AskD.p h, AskD.a h⟩ | exact eDec_elim (K := fun r => K r σ) h | exact eDecN_elim (K := fun r => K r σ) h | exact (h : False).elim
      exact ⟨biny_of_x (binx_of_bin this), fun _ => this⟩
    | _ => exact (h : False).elim
  | bool a =>
    cases y with
    | bool b =>
      have : BinK P t op (.bool a) (.bool b) K σ := by
        unfold BinK
        have h := br_only h
        refine ⟨beq_true ht.boo h.1, ?_⟩
        have h2 := h.2
        cases op
        all_goals first | exact h2 | exact (h2 : False).elim
      exact ⟨biny_of_x (binx_of_bin this), fun _ => this⟩
    | _ => exact (h : False).elim
  | agg l =>
    cases y with
    | agg r =>
      simp only [eBin] at h
      split at h
      · rename_i ks hks
        have hs := oeq_some ht.sq hks
        have := eEq_ok ks l r h
        unfold BinY BinZ
        simp only [hs]
        exact ⟨this, fun _ => this⟩
      · exact h.elim
    | _ => exact (h : False).elim
  | nils =>
    cases y with
    | nils =>
      simp only [eBin] at h
      obtain ⟨h1, h2, rfl⟩ := eNil_elim (σ := σ) (K := K) h ht.sli (fun k k' hk h => hk _ h)
      exact ⟨biny_of_x ⟨h1, h2⟩, fun h => by cases h⟩
    | lst l =>
      simp only [eBin] at h
      obtain ⟨h1, h2, rfl⟩ := eNil_elim (σ := σ) (K := K) h ht.sli (fun k k' hk h b hb => hk _ (h b hb))
      exact ⟨biny_of_x ⟨h1, h2⟩, fun h => by cases h⟩
    | sl _ _ n =>
      simp only [eBin] at h
      obtain ⟨h1, h2, rfl⟩ := eNil_elim (σ := σ) (K := K) h ht.sli (fun k k' hk h b hb => hk _ (h b hb))
      exact ⟨biny_of_x ⟨h1, h2⟩, fun h => by cases h⟩
    | _ => exact (h : False).elim
  | lst l =>
    cases y with
    | nils =>
      simp only [eBin] at h
      obtain ⟨h1, h2, rfl⟩ := eNil_elim (σ := σ) (K := K) h ht.sli (fun k k' hk h b hb => hk _ (h b hb))
      exact ⟨biny_of_x ⟨h1, h2⟩, fun h => by cases h⟩
    | _ => exact (h : False).elim
  | sl _ _ n =>
    cases y with
    | nils =>
      simp only [eBin] at h
      obtain ⟨h1, h2, rfl⟩ := eNil_elim (σ := σ) (K := K) h ht.sli (fun k k' hk h b hb => hk _ (h b hb))
      exact ⟨biny_of_x ⟨h1, h2⟩, fun h => by cases h⟩
    | _ => exact (h : False).elim
  | nilp =>
    cases y with
    | nilp =>
      simp only [eBin] at h
      obtain ⟨h1, h2, rfl⟩ := eNil_elim (σ := σ) (K := K) h ht.ptr (fun k k' hk h => hk _ h)
      exact ⟨biny_of_x ⟨h1, h2⟩, fun h => by cases h⟩
    | ptr _ _ _ =>
      simp only [eBin] at h
      obtain ⟨h1, h2, rfl⟩ := eNil_elim (σ := σ) (K := K) h ht.ptr (fun k k' hk h => hk _ h)
      exact ⟨biny_of_x ⟨h1, h2⟩, fun h => by cases h⟩
    | rp _ =>
      simp only [eBin] at h
      obtain ⟨h1, h2, rfl⟩ := eNil_elim (σ := σ) (K := K) h ht.ptr (fun k k' hk h => hk _ h)
      exact ⟨biny_of_x ⟨h1, h2⟩, fun h => by cases h⟩
    | _ => exact (h : False).elim
  | ptr _ _ _ =>
    cases y with
    | nilp =>
      simp only [eBin] at h
      obtain ⟨h1, h2, rfl⟩ := eNil_elim (σ := σ) (K := K) h ht.ptr (fun k k' hk h => hk _ h)
      exact ⟨biny_of_x ⟨h1, h2⟩, fun h => by cases h⟩
    | _ => exact (h : False).elim
  | rp _ =>
    cases y with
    | nilp =>
      simp only [eBin] at h
      obtain ⟨h1, h2, rfl⟩ := eNil_elim (σ := σ) (K := K) h ht.ptr (fun k k' hk h => hk _ h)
      exact ⟨biny_of_x ⟨h1, h2⟩, fun h => by cases h⟩
    | _ => exact (h : False).elim
  | _ => exact (h : False).elim
theorem br_mono {b : Bool} {A B A' B' : Prop} (h : Br b A B) (ha : A → A') (hb : B → B') : Br b A' B' := by
  cases b
  · exact hb h
  · exact ha h
theorem eInt_mono {k : IntKind} {n : Int} {K K' : V → Prop} (h : eInt k n K) (hk : ∀ r, K r → K' r) : eInt k n K' := ⟨br_mono h.out (hk _) (hk _)⟩
theorem eNil_mono {q ok : Bool} {op : BinOp} {p : (Bool → Prop) → Prop} {K K' : V → Prop} (hp : ∀ k k' : Bool → Prop, (∀ b, k b → k' b) → p k → p k') (h : eBin.eNil q ok op p K) (hk : ∀ r, K r → K' r) : eBin.eNil q ok op p K' := by
  cases q with
  | true => exact h.elim
  | false =>
    refine br_mono h (fun h => ?_) id
    cases op
    all_goals first | exact hp _ _ (fun b hb => hk _ hb) h | exact h.elim
theorem eqR_mono {op : BinOp} {b : Bool} {K K' : V → Prop} (h : eqR op b K) (hk : ∀ r, K r → K' r) : eqR op b K' := by
  cases op <;> first | exact hk _ h | exact (h : False).elim
theorem eEq_mono {op : BinOp} {K K' : V → Prop} (hk : ∀ r, K r → K' r) : ∀ (ks : List Kd) (l r : List V), eEq op ks l r K → eEq op ks l r K' := by
  intro ks
  induction ks with
  | nil =>
    intro l r h
    match l, r, h with
    | [], [], h => exact eqR_mono h hk
    | _ :: _, _, h => simp [eEq] at h
    | [], _ :: _, h => simp [eEq] at h
  | cons d ks ih =>
    intro l r h
    cases l with
    | nil => cases d <;> simp [eEq] at h
    | cons x l =>
      cases r with
      | nil => cases d <;> cases x <;> simp [eEq] at h
      | cons y r =>
        cases d <;> cases x <;> cases y <;> first
          | (simp only [eEq] at h; done)
          | exact brd_mono h (ih l r) (fun h => eqR_mono h hk)
          | exact br_mono h (fun h => brd_mono h (ih l r) (fun h => eqR_mono h hk)) id
theorem eBin_mono {T : TT} {q : Bool} {t : TypeId} {op : BinOp} {x y : V} {K K' : V → Prop} (h : eBin T q t op x y K) (hk : ∀ r, K r → K' r) : eBin T q t op x y K' := by
  cases x with
  | int k a =>
    cases y with
    | int k' b =>
      cases op
      all_goals first
        | exact br_mono h (fun h => eInt_mono h hk) id
        | exact br_mono h (hk _) id
        | exact br_mono h (fun h => ask_mono h (fun h => eInt_mono h hk)) id
        | exact br_mono h (fun h => ask_mono h (hk _)) id
        | exact br_mono h (fun h => eDec_mono h hk) id
        | exact br_mono h (fun h => eDecN_mono h hk) id
        | exact ask_mono h (fun h => eInt_mono h hk)
        | exact ask_mono h (hk _)
        | exact (h : False).elim
    | _ => exact (h : False).elim
  | str s =>
    cases y with
    | str t' =>
      cases op
      all_goals first | exact ask_mono h (hk _) | exact eDec_mono h hk | exact eDecN_mono h hk | exact (h : False).elim
    | _ => exact (h : False).elim
  | bool a =>
    cases y with
    | bool b =>
      refine br_mono h (fun h => ?_) id
      cases op
      all_goals first | exact hk _ h | exact (h : False).elim
    | _ => exact (h : False).elim
  | agg l =>
    cases y with
    | agg r =>
      simp only [eBin] at h ⊢
      split at h
      · exact eEq_mono hk _ _ _ h
      · exact h.elim
    | _ => exact (h : False).elim
  | nils => cases y <;> first | exact (h : False).elim | (simp only [eBin] at h ⊢; refine eNil_mono ?_ h hk; first | exact fun k k' hk h => hk _ h | exact fun k k' hk h b hb => hk _ (h b hb))
  | lst l => cases y <;> first | exact (h : False).elim | (simp only [eBin] at h ⊢; refine eNil_mono ?_ h hk; first | exact fun k k' hk h => hk _ h | exact fun k k' hk h b hb => hk _ (h b hb))
  | sl _ _ n => cases y <;> first | exact (h : False).elim | (simp only [eBin] at h ⊢; refine eNil_mono ?_ h hk; first | exact fun k k' hk h => hk _ h | exact fun k k' hk h b hb => hk _ (h b hb))
  | nilp => cases y <;> first | exact (h : False).elim | (simp only [eBin] at h ⊢; refine eNil_mono ?_ h hk; first | exact fun k k' hk h => hk _ h | exact fun k k' hk h b hb => hk _ (h b hb))
  | ptr _ _ _ => cases y <;> first | exact (h : False).elim | (simp only [eBin] at h ⊢; refine eNil_mono ?_ h hk; first | exact fun k k' hk h => hk _ h | exact fun k k' hk h b hb => hk _ (h b hb))
  | rp _ => cases y <;> first | exact (h : False).elim | (simp only [eBin] at h ⊢; refine eNil_mono ?_ h hk; first | exact fun k k' hk h => hk _ h | exact fun k k' hk h b hb => hk _ (h b hb))
  | _ => exact (h : False).elim
end Go.Proofs.YtbdogoccjcifnaaDoor
