/- Abstract walk by reckoning: regions, code, loops, calls, ends. No conditions. -/
import Derived.Test.YtbdogoccjcifnaaDoorAwsd
import Derived.Scope
set_option linter.unusedSimpArgs false
set_option linter.unusedVariables false
set_option maxRecDepth 100000
namespace Go.Proofs.YtbdogoccjcifnaaDoor
open Go.RowKit

def guardE (ops : List Oper) (σ : ES) (j : Nat) : V := match ops[j]? with
  | some o => (match o.dst with | some t => σ.get t | none => .any)
  | none => .any
theorem guardE_eq (ops : Array Oper) (σ : ES) (j : Nat) : guardE ops.toList σ j = guardOf ops σ.st j := by
  unfold guardE guardOf
  rw [Array.getElem?_toList]
  cases ops[j]? with
  | none => rfl
  | some o =>
    simp only [Option.bind_some]
    cases o.dst with
    | none => rfl
    | some t => exact (es_getD σ t).symm
def putE (σ : ES) (d : Option Tmp) (r : V) (K : ES → Prop) : Prop := match d with
  | none => K σ
  | some d => match σ with | ⟨n, u, h⟩ => K ⟨n, (d, r) :: u, h⟩
theorem putE_eq (σ : ES) (d : Option Tmp) (r : V) (K : ES → Prop) : putE σ d r K = K (σ.put d r) := by cases d <;> rfl
def callOp : Op → Bool
  | .call c => (match c.callee with | .value _ => true | _ => false)
  | _ => false
/-- A call that stands alone (all ahead of it is done, all behind it waits) is carried out as in a region that does not draw. -/
def qAt (q : Bool) (all : List Oper) (n : Nat) (o : Oper) : Bool := match q with
  | false => false
  | true => match callOp o.op with
    | false => true
    | true => match o.guard with
      | none => !barB .any all.toArray (all.length - n)
      | some _ => true
theorem qAt_false {ops : Array Oper} {n k : Nat} {o : Oper} (hk : ops.size - n = k) (h : qAt true ops.toList n o = false) : o.guard = none ∧ barB .any ops k = true := by
  unfold qAt at h
  simp only at h
  split at h
  · cases h
  · split at h
    · rename_i hg
      refine ⟨hg, ?_⟩
      simp only [Array.length_toList, hk] at h
      simpa using h
    · cases h
def eOps (T : TT) (C : Ctx) (q : Bool) (all : List Oper) (K : ES → Prop) : List Oper → ES → Prop
  | [], σ => K σ
  | o :: rest, σ => match o.guard with
    | none => eStep T C (qAt q all (rest.length + 1) o) o.op (fun r σ' => fV r fun r => putE σ' o.dst r fun σ'' => eOps T C q all K rest σ'') σ
    | some (j, want) => match guardE all σ j with
      | .bool b => (match want with
        | true => Br b (eStep T C (qAt q all (rest.length + 1) o) o.op (fun r σ' => fV r fun r => putE σ' o.dst r fun σ'' => eOps T C q all K rest σ'') σ) (putE σ o.dst (.tup []) fun σ'' => eOps T C q all K rest σ'')
        | false => Br b (putE σ o.dst (.tup []) fun σ'' => eOps T C q all K rest σ'') (eStep T C (qAt q all (rest.length + 1) o) o.op (fun r σ' => fV r fun r => putE σ' o.dst r fun σ'' => eOps T C q all K rest σ'') σ))
      | .tup _ => putE σ o.dst (.tup []) fun σ'' => eOps T C q all K rest σ''
      | _ => False

def drawOk (ops : Array Oper) : Bool := Region.lexB .any ops && (List.range ops.size).all fun i => match ops[i]? with
  | some o => !barOp o.op || (o.guard.isNone && barB .any ops i)
  | none => true
def codeOk : Code → Bool
  | .seq x y => codeOk x && codeOk y
  | .cond _ x y => codeOk x && codeOk y
  | .block _ c => codeOk c
  | .loop c => codeOk c
  | .scope c => codeOk c
  | _ => true

def Ks (K : ES → Prop) : St → Prop := fun s => ∃ σ : ES, s = σ.st ∧ K σ
def Qst (Q : Exit → ES → Prop) : Exit → St → Prop := fun e s => ∃ σ : ES, s = σ.st ∧ Q e σ
structure LoopE (T : TT) (C : Ctx) (c : Code) (Q : Exit → ES → Prop) (σ : ES) : Prop where
  out : AWp C (.loop c) (Qst Q) σ.st
/-- A region that draws its order: the proof says in which order it goes through. -/
structure DrawN (T : TT) (C : Ctx) (ops : Array Oper) (Q : ES → Prop) (σ : ES) : Prop where
  out : ∀ id, AWp C (.region id ops true) (fun e s => e = .normal ∧ Ks Q s) σ.st
structure UpE (C : Ctx) (K : ES → Prop) (σ : ES) : Prop where
  out : Up C (Ks K) σ.st
def eCode (T : TT) (C : Ctx) : Code → (Exit → ES → Prop) → ES → Prop
  | .skip, Q, σ => Q .normal σ
  | .label _, Q, σ => Q .normal σ
  | .region _ ops draw, Q, σ => match draw with
    | false => eOps T C false ops.toList (Q .normal) ops.toList σ
    | true => DrawN T C ops (Q .normal) σ
  | .seq x y, Q, σ => eCode T C x (fun e σ' => match e with
    | .normal => eCode T C y Q σ'
    | e => Q e σ') σ
  | .cond c x y, Q, σ => asB (σ.val c) fun b => Br b (eCode T C x Q σ) (eCode T C y Q σ)
  | .block id c, Q, σ => eCode T C c (fun e σ' => match e with
    | .exit id' => (match Nat.beq id' id with | true => Q .normal σ' | false => Q (.exit id') σ')
    | e => Q e σ') σ
  | .loop c, Q, σ => LoopE T C c Q σ
  | .scope c, Q, σ => eCode T C c (fun e σ' => match e with
    | .goto _ => False
    | e => Q e σ') σ
  | .exit id, Q, σ => Q (.exit id) σ
  | .ret, Q, σ => Q .ret σ
  | _, _, _ => False

structure EOk (T : TT) (C : Ctx) : Prop where
  all : T.All C.P
  any : C.P.follows .mixedOrders = true

def StepM (C : Ctx) (o : Oper) (σ : St) (K : V → St → Prop) : Prop := ∃ K0, Step C o σ K0 ∧ ∀ r s, K0 r s → K r s
theorem stepM_sound {C : Ctx} (o : Oper) (σ : St) (K : V → St → Prop) (h : StepM C o σ K) : OpOk C o σ K := by
  obtain ⟨K0, h1, h2⟩ := h
  intro a w hr next Q hn
  exact step_sound o σ K0 h1 a w hr next Q fun v w' r σ' hk hx => hn v w' r σ' (h2 r σ' hk) hx

section
variable {T : TT} {C : Ctx}

theorem eOps_plain (hE : EOk T C) {ops : Array Oper} {q : Bool} {K : ES → Prop} : ∀ (l : List Oper) (σ : ES), eOps T C q ops.toList K l σ → AOps C (StepM C) ops (Ks K) l σ.st
  | [], σ, h => ⟨σ, rfl, h⟩
  | o :: rest, σ, h => by
    have hstep : eStep T C (qAt q ops.toList (rest.length + 1) o) o.op (fun r σ' => fV r fun r => putE σ' o.dst r fun σ'' => eOps T C q ops.toList K rest σ'') σ → StepM C o σ.st (PutK o.dst (AOps C (StepM C) ops (Ks K) rest)) := by
      intro h
      refine ⟨_, (eStep_ok hE.all h).1, ?_⟩
      rintro r s ⟨σ', rfl, h2⟩
      rw [fV_eq, putE_eq] at h2
      unfold PutK
      rw [es_put]
      exact eOps_plain hE rest _ h2
    have hskip : eOps T C q ops.toList K rest (σ.put o.dst (.tup [])) → AOps C (StepM C) ops (Ks K) rest (σ.st.put o.dst (.tup [])) := by
      intro h
      rw [es_put]
      exact eOps_plain hE rest _ h
    simp only [eOps, putE_eq σ] at h
    simp only [AOps]
    split at h
    · rename_i hg
      simp only [hg]
      exact hstep h
    · rename_i j want hg
      simp only [hg]
      rw [guardE_eq] at h
      split at h
      · rename_i b hb
        simp only [hb]
        cases want with
        | true =>
          rcases br_elim h with ⟨rfl, h⟩ | ⟨rfl, h⟩
          · exact ⟨fun _ => hstep h, fun e => absurd rfl e⟩
          · exact ⟨fun e => (by cases e), fun _ => hskip h⟩
        | false =>
          rcases br_elim h with ⟨rfl, h⟩ | ⟨rfl, h⟩
          · exact ⟨fun e => (by cases e), fun _ => hskip h⟩
          · exact ⟨fun _ => hstep h, fun e => absurd rfl e⟩
      · rename_i l hb
        simp only [hb]
        exact hskip h
      · exact h.elim

theorem drawOk_bar {ops : Array Oper} (h : drawOk ops = true) {i : Nat} {o : Oper} (ho : ops[i]? = some o) (hb : barOp o.op = true) : o.guard = none ∧ barB .any ops i = true := by
  simp only [drawOk, Bool.and_eq_true, List.all_eq_true, List.mem_range] at h
  have hlt : i < ops.size := (Array.getElem?_eq_some_iff.1 ho).1
  have := h.2 i hlt
  rw [ho] at this
  simpa [hb] using this

theorem eOps_any (hE : EOk T C) {ops : Array Oper} (hd : drawOk ops = true) {K : ES → Prop} : ∀ (l : List Oper) (k : Nat) (listed : Array Bool) (σ : ES), ClosedL .any ops listed → (∀ j < k, listed.getD j false = true) → listed.size = ops.size → k + l.length = ops.size → (∀ j, l[j]? = ops[k + j]?) →
    Region.lexFrom .any ops l.length k listed = true → eOps T C true ops.toList K l σ → wpAnyA C .any ops (Ks K) l.length listed σ.st
  | [], _, _, σ, hc, _, _, hsz, hl, hB, h => ⟨by simpa [Region.lexFrom] using hB, ⟨σ, rfl, h⟩⟩
  | o :: l, k, listed, σ, hc, hpre, hls, hsz, hl, hB, h => by
    have h0 : ops[k]? = some o := by simpa using (hl 0).symm
    simp only [List.length_cons, Region.lexFrom, Bool.and_eq_true] at hB
    obtain ⟨⟨hr, hf⟩, hB'⟩ := hB
    have hr : k ∈ Region.ready .any ops listed := by simpa using hr
    simp only [List.length_cons] at hsz
    have hl' : ∀ j, l[j]? = ops[k + 1 + j]? := fun j => by have := hl (j + 1); simpa [Nat.add_assoc, Nat.add_comm 1 j] using this
    have hY : ∀ r (σ' : ES), σ.st = σ'.st → YA C ops o r σ.st → eOps T C true ops.toList K l (σ'.put o.dst r) → wpAnyA C .any ops (Ks K) (l.length + 1) listed σ.st := by
      intro r σ' e hy hK
      refine wpAnyA_first h0 l.length listed σ.st hc (Region.free_spec h0 hf) hr hy ?_
      rw [e, es_put]
      exact eOps_any hE hd l (k + 1) _ _ (closed_set hc hr) (pre_set hpre (by rw [hls, ← hsz]; omega)) (by rw [Array.size_setIfInBounds, hls]) (by omega) hl' hB' hK
    have hbar : (barOp o.op = true ∨ qAt true ops.toList (l.length + 1) o = false) → o.guard = none ∧ barB .any ops k = true := fun h => by
      rcases h with h | h
      · exact drawOk_bar hd h0 h
      · exact qAt_false (by omega) h
    have hgo : wantA ops o σ.st = some true → eStep T C (qAt true ops.toList (l.length + 1) o) o.op (fun r σ' => fV r fun r => putE σ' o.dst r fun σ'' => eOps T C true ops.toList K l σ'') σ → wpAnyA C .any ops (Ks K) (l.length + 1) listed σ.st := by
      intro hw hs
      have hok := eStep_ok hE.all hs
      by_cases hb : barOp o.op = true ∨ qAt true ops.toList (l.length + 1) o = false
      · have hbar := hbar hb
        refine ⟨fun h => (by rw [h] at hr; cases hr), fun j hj => ?_⟩
        have hjk := bar_sole hbar.2 hc hpre hr hj
        subst hjk
        unfold qOpA
        simp only [h0]
        refine .inr ⟨hbar.1, hbar.2, _, hok.1, ?_⟩
        rintro r s ⟨σ', rfl, hk⟩
        rw [fV_eq, putE_eq] at hk
        rw [es_put]
        exact eOps_any hE hd l (j + 1) _ _ (closed_set hc hr) (pre_set hpre (by rw [hls, ← hsz]; omega)) (by rw [Array.size_setIfInBounds, hls]) (by omega) hl' hB' hk
      · have hb1 : barOp o.op = false := by
          cases h : barOp o.op with
          | false => rfl
          | true => exact absurd (.inl h) hb
        have hb2 : qAt true ops.toList (l.length + 1) o = true := by
          cases h : qAt true ops.toList (l.length + 1) o with
          | true => rfl
          | false => exact absurd (.inr h) hb
        obtain ⟨r, h1, h2⟩ := qstep_looks (hok.2 hb2 hb1)
        obtain ⟨σ', e, h1⟩ := h1
        rw [fV_eq, putE_eq] at h1
        exact hY r σ' e (.inl ⟨hw, h2 _ σ.st (fun _ _ => rfl) rfl ⟨rfl, rfl⟩⟩) h1
    have hskip : wantA ops o σ.st = some false → eOps T C true ops.toList K l (σ.put o.dst (.tup [])) → wpAnyA C .any ops (Ks K) (l.length + 1) listed σ.st :=
      fun hw hk => hY _ σ rfl (.inr ⟨hw, rfl⟩) hk
    simp only [eOps, putE_eq σ] at h
    split at h
    · rename_i hg
      exact hgo (by simp [wantA, hg]) h
    · rename_i j want hg
      rw [guardE_eq] at h
      split at h
      · rename_i b hb
        cases want with
        | true =>
          rcases br_elim h with ⟨rfl, h⟩ | ⟨rfl, h⟩
          · exact hgo (by simp [wantA, hg, hb]) h
          · exact hskip (by simp [wantA, hg, hb]) h
        | false =>
          rcases br_elim h with ⟨rfl, h⟩ | ⟨rfl, h⟩
          · exact hskip (by simp [wantA, hg, hb]) h
          · exact hgo (by simp [wantA, hg, hb]) h
      · rename_i l' hb
        exact hskip (by simp [wantA, hg, hb]) h
      · exact h.elim

/-- In the order of the text. -/
theorem draw_lex (hE : EOk T C) {ops : Array Oper} {K : ES → Prop} {σ : ES} (hd : drawOk ops = true) (h : eOps T C true ops.toList K ops.toList σ) : DrawN T C ops K σ := by
  refine ⟨fun id a w hr => ?_⟩
  have hB := hd
  simp only [drawOk, Region.lexB, Bool.and_eq_true] at hB
  obtain ⟨I, bl, hp⟩ := hr.parts
  have hp' : RP C σ.st a { w with drawn := w.drawn + 1 } I bl := hp.drew
  refine wp_region_any hE.any (wpAny_of_A (Q := Ks K) (fun s a w h1 h2 => ⟨s, ⟨rfl, h2⟩, h1⟩) _ _ σ.st a _ hp'.rel ?_)
  have := eOps_any hE hd ops.toList 0 (Array.replicate ops.size false) σ closed_none (fun j hj => absurd hj (Nat.not_lt_zero _)) (by simp) (by simp) (by simp) (by simpa using hB.1.2) h
  simpa using this
theorem qst_exit {Q : Exit → ES → Prop} {e : Exit} {σ : ES} (h : Q e σ) : Qst Q e σ.st := ⟨σ, rfl, h⟩
theorem eCode_ok (hE : EOk T C) : ∀ (c : Code), codeOk c = true → ∀ (Q : Exit → ES → Prop) (σ : ES), eCode T C c Q σ → AWp C c (Qst Q) σ.st := by
  intro c
  induction c with
  | skip => exact fun _ Q σ h => awp_skip (qst_exit h)
  | label l => exact fun _ Q σ h a w hr => wp_label ⟨σ.st, qst_exit h, hr⟩
  | region id ops draw =>
    intro hc Q σ h
    cases draw with
    | false =>
      intro a w hr
      refine wp_region ?_
      have := aops_sound (Q := fun e a' w' => ∃ σ', Qst Q e σ' ∧ Rel C σ' a' w') (K := Ks (Q .normal)) stepM_sound (fun s a w h1 h2 => by obtain ⟨σ', rfl, h1⟩ := h1; exact ⟨_, qst_exit h1, h2⟩) ops.toList 0 (fun j => by simp) σ.st a w (eOps_plain hE _ _ h) hr
      simpa [List.range_eq_range'] using this
    | true =>
      refine awp_mono (DrawN.out h id) ?_
      rintro e s ⟨rfl, σ', rfl, h⟩
      exact qst_exit h
  | seq x y ihx ihy =>
    intro hc Q σ h
    simp only [codeOk, Bool.and_eq_true] at hc
    refine awp_seq (awp_mono (ihx hc.1 _ _ h) ?_)
    rintro e s ⟨σ', rfl, h⟩
    cases e with
    | normal => exact ihy hc.2 _ _ h
    | exit id => exact qst_exit h
    | goto l => exact qst_exit h
    | ret => exact qst_exit h
    | panic ch => exact qst_exit h
    | outgrown => exact qst_exit h
  | cond c x y ihx ihy =>
    intro hc Q σ h
    simp only [codeOk, Bool.and_eq_true] at hc
    obtain ⟨t, ht, h⟩ := asB_elim h
    refine awp_cond t ?_ (fun e => ?_) (fun e => ?_)
    · intro a w hr
      obtain ⟨I, bl, hp⟩ := hr.parts
      have := hp.val c
      rw [es_val, ht] at this
      exact this.inv_bool
    · subst e; exact ihx hc.1 _ _ h
    · subst e; exact ihy hc.2 _ _ h
  | block id c ih =>
    intro hc Q σ h
    refine awp_block (awp_mono (ih hc _ _ h) ?_)
    rintro e s ⟨σ', rfl, h⟩
    cases e with
    | normal => exact qst_exit h
    | exit id' =>
      simp only [InB_exit]
      simp only at h
      split at h
      · rename_i hb
        rw [if_pos (nbeq hb)]
        exact qst_exit h
      · rename_i hb
        have : ¬ id' = id := fun e => by subst e; simp at hb
        rw [if_neg this]
        exact qst_exit h
    | goto l => exact qst_exit h
    | ret => exact qst_exit h
    | panic ch => exact qst_exit h
    | outgrown => exact qst_exit h
  | loop c _ => exact fun _ Q σ h => h.out
  | exit id => exact fun _ Q σ h => awp_exit (qst_exit h)
  | ret => exact fun _ Q σ h => awp_ret (qst_exit h)
  | rangeFunc f ps as b _ _ => exact fun _ Q σ h => h.elim
  | scope b ih =>
    intro hc Q σ h a w hr
    refine wp_scope_straight (Code.wp_mono ?_ (ih hc _ _ h a w hr))
    rintro e a' w' ⟨_, ⟨σ', rfl, h⟩, hr'⟩
    cases e with
    | goto l => exact h.elim
    | normal => exact ⟨_, qst_exit h, hr'⟩
    | exit id => exact ⟨_, qst_exit h, hr'⟩
    | ret => exact ⟨_, qst_exit h, hr'⟩
    | panic ch => exact ⟨_, qst_exit h, hr'⟩
    | outgrown => exact ⟨_, qst_exit h, hr'⟩
  | goto l => exact fun _ Q σ h => h.elim
  | refuse s => exact fun _ Q σ h => h.elim

/-! ### In an order of one's own choice -/
def mkOkE (σ : ES) (op : Op) : Bool := match op with
  | .alloc _ => true
  | .makeSlice _ _ _ => true
  | .buildSlice _ _ _ => true
  | .call c => (match c.callee, c.args.toList, c.argTypes.toList with
    | .builtin .append, [s0, _], [_, _] => (match σ.val s0 with | .nils => true | _ => false)
    | _, _, _ => false)
  | _ => false
/-- A call in a region that draws its order, that gives a new object. -/
structure CallNM (C : Ctx) (f : FuncId) (xs : List V) (K : Nat → Nat → List V → Prop) : Prop where
  out : ∃ m z els, hasBody C.P f = true ∧ FreshC C f xs m z els ∧ K m z els
/-- Between two parts of such a region: what only the proof sees. -/
structure SegUp (C : Ctx) (K : ES → Prop) (σ : ES) : Prop where
  out : UpE C K σ
def isCallV (op : Op) : Option (Operand × List Operand) := match op with
  | .call c => (match c.callee with | .value f => some (f, c.args.toList) | _ => none)
  | _ => none
def eRun (T : TT) (C : Ctx) (base : Nat) (o : Oper) (q : Option Nat) (K : ES → Prop) (σ : ES) : Prop :=
  match q with
  | none => (match barOp o.op with
    | false => eStep T C true o.op (fun r σ' => fV r fun r => putE σ' o.dst r K) σ
    | true => False)
  | some p => (match isCallV o.op with
   | some (fop, args) => (match σ.val fop with
    | .fn f caps => fL1 (args.map σ.val) fun xs => nF (base + p) fun id => Get σ.heap[id]? fun x => (match x with
      | none => CallNM C f (xs ++ caps) fun m z els => fH (σ.heap.set id (some (.row z els))) fun h' => withH σ h' fun σ'' => putE σ'' o.dst (.sl id 0 m) K
      | some _ => False)
    | _ => False)
   | none => (match mkOkE σ o.op with
    | true => nF (base + p) fun id => Get σ.heap[id]? fun x => (match x with
      | none => fH (padTo id σ.heap) fun h => withH σ h fun σp => eStep T C false o.op (fun r σ' => fV r fun r => fH (σ.heap.take id ++ σ'.heap.drop id) fun h' => withH σ' h' fun σ'' => putE σ'' o.dst r K) σp
      | some _ => False)
    | false => False))
def eItem (T : TT) (C : Ctx) (all : List Oper) (base i : Nat) (q : Option Nat) (K : ES → Prop) (σ : ES) : Prop :=
  Get all[i]? fun o => match o.guard with
    | none => eRun T C base o q K σ
    | some (j, want) => match guardE all σ j with
      | .bool b => (match want with
        | true => Br b (eRun T C base o q K σ) (putE σ o.dst (.tup []) K)
        | false => Br b (putE σ o.dst (.tup []) K) (eRun T C base o q K σ))
      | .tup _ => putE σ o.dst (.tup []) K
      | _ => False
def eSeg (T : TT) (C : Ctx) (all : List Oper) (base : Nat) (K : ES → Prop) : List (Nat × Option Nat) → ES → Prop
  | [], σ => K σ
  | (i, q) :: r, σ => eItem T C all base i q (fun σ' => eSeg T C all base K r σ') σ
/-- Both must be shown. -/
structure Both (A B : Prop) : Prop where
  l : A
  r : B
def AllU : List (List Nat) → (List Nat → Prop) → Prop
  | [], _ => True
  | [U], P => P U
  | U :: V :: r, P => Both (P U) (AllU (V :: r) P)
theorem allU_mem {P : List Nat → Prop} : ∀ {l : List (List Nat)}, AllU l P → ∀ U ∈ l, P U
  | [], _, U, h => by simp at h
  | [U], h, V, hV => by
    rw [List.mem_singleton] at hV
    subst hV; exact h
  | U :: V :: r, h, W, hW => by
    rcases List.mem_cons.1 hW with rfl | hW
    · exact h.l
    · exact allU_mem h.r W hW
def segNext (C : Ctx) (stop : Bool) (K : ES → Prop) (σ : ES) : Prop := match stop with
  | true => SegUp C K σ
  | false => K σ
def undoUE (all : List Oper) (σ0 : ES) : List Nat → List (Nat × V) → (List (Nat × V) → Prop) → Prop
  | [], u, K => K u
  | i :: U, u, K => match all[i]? with
    | some o => (match o.dst with
      | some d => fV1 (σ0.get d) fun v => undoUE all σ0 U u fun u' => K ((d, v) :: u')
      | none => undoUE all σ0 U u K)
    | none => undoUE all σ0 U u K
def eSegs (T : TT) (C : Ctx) (all : List Oper) (K : ES → Prop) : List Sg → List Nat → ES → Prop
  | [], _, σ => fH (trimH' σ.heap) fun h => withH σ h K
  | g :: r, lf, σ => nF σ.heap.length fun base => fH (σ.heap ++ List.replicate g.M none) fun h => withH σ h fun σ1 => eSeg T C all base (fun σ2 => match g.bar with
    | none => eSegs T C all K r [] σ2
    | some b => Get all[b]? fun o => AllU g.us fun U => undoUE all σ U σ2.u fun u2 => fH (undoHp (segL g.ql lf g.seg) base U σ2.heap) fun h2 => eStep T C false o.op (fun x σ' => fV x fun x => putE σ' o.dst x fun σ'' => segNext C (!(r.isEmpty && U.isEmpty)) (fun σ3 => eSegs T C all K r U σ3) σ'') ⟨σ2.n, u2, h2⟩) (segL g.ql lf g.seg) σ1
where trimH' : List (Option Ob) → List (Option Ob)
  | [] => []
  | some o :: r => some o :: trimH' r
  | none :: r => match trimH' r with
    | [] => []
    | x :: r' => none :: x :: r'
theorem trim'_get : ∀ (h : List (Option Ob)) (i : Nat) (o : Ob), (eSegs.trimH' h)[i]? = some (some o) ↔ h[i]? = some (some o)
  | [], i, o => by simp [eSegs.trimH']
  | some x :: r, 0, o => by simp [eSegs.trimH']
  | some x :: r, i + 1, o => by simpa [eSegs.trimH'] using trim'_get r i o
  | none :: r, i, o => by
    have ih := fun i => trim'_get r i o
    unfold eSegs.trimH'
    cases ht : eSegs.trimH' r with
    | nil =>
      rw [ht] at ih
      cases i with
      | zero => simp
      | succ i => have := ih i; simp at this ⊢; exact this
    | cons x r' =>
      rw [ht] at ih
      cases i with
      | zero => simp
      | succ i => have := ih i; simpa using this
theorem set_split {h : List (Option Ob)} {id : Nat} (hid : h[id]? = some none) (ob : Ob) : h.take id ++ (putOb (padTo id h) ob).drop id = h.set id (some ob) := by
  rw [put_pad hid]
  have hlt := (List.getElem?_eq_some_iff.1 hid).1
  have hl : ((h.take id).map fillO).length = id := by simp; omega
  rw [List.drop_append_of_le_length (by omega), List.drop_eq_nil_of_le (by omega), List.nil_append, List.set_eq_take_append_cons_drop, if_pos hlt]
theorem mkOk_of {σ : ES} {o : Oper} (h : mkOkE σ o.op = true) : MkOk o σ.st := by
  unfold mkOkE at h
  unfold MkOk
  split at h
  · rename_i ho; simp only [ho]
  · rename_i ho; simp only [ho]
  · rename_i ho; simp only [ho]
  · rename_i c ho
    simp only [ho]
    split at h
    · rename_i h1 h2 h3
      simp only [h1, h2, h3]
      rw [es_val]
      split at h
      · assumption
      · cases h
    · cases h
  · cases h
theorem eRun_ok (hE : EOk T C) {ops : Array Oper} {base : Nat} {o : Oper} {q : Option Nat} {K : ES → Prop} {σ : ES} (hw : wantA ops o σ.st = some true) (h : eRun T C base o q K σ) :
    ∃ r ob σ', Yld C ops o r ob (base + q.getD 0) σ.st ∧ (ob ≠ none → q ≠ none) ∧ (q ≠ none → ob ≠ none) ∧ σ'.st = (withOb σ.st (base + q.getD 0) ob).put o.dst r ∧ K σ' := by
  unfold eRun at h
  cases q with
  | none =>
    simp only at h
    split at h
    · rename_i hb
      obtain ⟨r, ⟨σ1, e, h1⟩, h2⟩ := qstep_looks ((eStep_ok hE.all h).2 rfl hb)
      rw [fV_eq, putE_eq] at h1
      exact ⟨r, none, σ1.put o.dst r, .inl ⟨hw, h2 _ σ.st (fun _ _ => rfl) rfl ⟨rfl, rfl⟩⟩, fun h => absurd rfl h, fun h => absurd rfl h, by rw [← es_put, ← e]; rfl, h1⟩
    · exact h.elim
  | some p =>
    simp only at h
    split at h
    · rename_i fop args hcv
      split at h
      · rename_i f caps hf
        rw [fL1_eq, nF_eq] at h
        obtain ⟨x, hx, h⟩ := get_elim h
        split at h
        · obtain ⟨m, z, els, hb, hfr, h⟩ := h.out
          rw [fH_eq, withH_eq, putE_eq] at h
          refine ⟨.sl (base + p) 0 m, some (.row z els), _, ⟨hw, hx, .inr ?_⟩, fun _ => by simp, fun _ => by simp, ?_, h⟩
          · unfold isCallV at hcv
            split at hcv
            · rename_i c ho
              obtain ⟨callee, as, ts⟩ := c
              simp only at hcv
              split at hcv
              · simp only [Option.some.injEq, Prod.mk.injEq] at hcv
                obtain ⟨rfl, rfl⟩ := hcv
                refine ⟨_, as, ts, f, caps, m, z, els, ho, by rw [es_val]; exact hf, hb, ?_, rfl, rfl⟩
                rw [show σ.st.val = σ.val from funext (es_val σ)]
                exact hfr
              · cases hcv
            · cases hcv
          · rw [← es_put]; rfl
        · exact h.elim
      · exact h.elim
    split at h
    · rename_i hm
      rw [nF_eq] at h
      obtain ⟨x, hx, h⟩ := get_elim h
      split at h
      · rw [fH_eq, withH_eq] at h
        have hS := (eStep_ok hE.all h).1
        have hmk := mkOk_of hm
        have hst : (⟨σ.n, σ.u, padTo (base + p) σ.heap⟩ : ES).st = ⟨σ.st.env, padTo (base + p) σ.st.heap⟩ := rfl
        rw [hst] at hS
        obtain ⟨r, ob, ⟨σ1, e, h1⟩, h2⟩ := step_mk (mkok_heap _ (show MkOk o ⟨σ.st.env, σ.st.heap⟩ from hmk)) hS
        rw [fV_eq, fH_eq, withH_eq, putE_eq] at h1
        have e1 : σ.st.env = σ1.env := congrArg (fun s : St => s.env) e
        have e2 : putOb (padTo (base + p) σ.heap) ob = σ1.heap := congrArg (fun s : St => s.heap) e
        refine ⟨r, some ob, _, ⟨hw, hx, .inl ⟨hmk, (h2 (fun r' s' => r' = r ∧ s' = ⟨σ.st.env, putOb (padTo (base + p) σ.st.heap) ob⟩) _ (fun _ _ => rfl) (.inl fun _ _ _ h => h) rfl ⟨rfl, rfl⟩).1⟩⟩, fun _ => by simp, fun _ => by simp, ?_, h1⟩
        rw [← es_put]
        congr 1
        show (⟨σ1.env, _⟩ : St) = ⟨σ.st.env, σ.heap.set (base + p) (some ob)⟩
        rw [e1, ← e2, set_split hx]
      · exact h.elim
    · exact h.elim
theorem eItem_ok (hE : EOk T C) {ops : Array Oper} {base i : Nat} {q : Option Nat} {K : ES → Prop} {σ : ES} (h : eItem T C ops.toList base i q K σ) :
    ∃ o r ob σ', ops[i]? = some o ∧ Yld C ops o r ob (base + q.getD 0) σ.st ∧ (ob ≠ none → q ≠ none) ∧ (q ≠ none → ob = none → wantA ops o σ.st = some false) ∧ σ'.st = (withOb σ.st (base + q.getD 0) ob).put o.dst r ∧ K σ' := by
  obtain ⟨o, ho, h⟩ := get_elim h
  rw [Array.getElem?_toList] at ho
  have run : wantA ops o σ.st = some true → eRun T C base o q K σ → ∃ o r ob σ', ops[i]? = some o ∧ Yld C ops o r ob (base + q.getD 0) σ.st ∧ (ob ≠ none → q ≠ none) ∧ (q ≠ none → ob = none → wantA ops o σ.st = some false) ∧ σ'.st = (withOb σ.st (base + q.getD 0) ob).put o.dst r ∧ K σ' := fun hw h => by
    obtain ⟨r, ob, σ', a, b, c', c, d⟩ := eRun_ok hE (ops := ops) hw h
    exact ⟨o, r, ob, σ', ho, a, b, fun hq hn => absurd hn (c' hq), c, d⟩
  have skip : wantA ops o σ.st = some false → K (σ.put o.dst (.tup [])) → ∃ o r ob σ', ops[i]? = some o ∧ Yld C ops o r ob (base + q.getD 0) σ.st ∧ (ob ≠ none → q ≠ none) ∧ (q ≠ none → ob = none → wantA ops o σ.st = some false) ∧ σ'.st = (withOb σ.st (base + q.getD 0) ob).put o.dst r ∧ K σ' := fun hw h =>
    ⟨o, .tup [], none, _, ho, .inr ⟨hw, rfl⟩, fun h => absurd rfl h, fun _ _ => hw, by rw [← es_put]; rfl, h⟩
  simp only [putE_eq] at h
  split at h
  · rename_i hg
    exact run (by simp [wantA, hg]) h
  · rename_i j want hg
    rw [guardE_eq] at h
    split at h
    · rename_i b hb
      cases want with
      | true =>
        rcases br_elim h with ⟨rfl, h⟩ | ⟨rfl, h⟩
        · exact run (by simp [wantA, hg, hb]) h
        · exact skip (by simp [wantA, hg, hb]) h
      | false =>
        rcases br_elim h with ⟨rfl, h⟩ | ⟨rfl, h⟩
        · exact skip (by simp [wantA, hg, hb]) h
        · exact run (by simp [wantA, hg, hb]) h
    · rename_i l hb
      exact skip (by simp [wantA, hg, hb]) h
    · exact h.elim
theorem eSeg_ok (hE : EOk T C) {ops : Array Oper} {base : Nat} {K : ES → Prop} {K' : St → Prop} (hK : ∀ σ : ES, K σ → K' σ.st) : ∀ (seg : List (Nat × Option Nat)) (σ : ES), eSeg T C ops.toList base K seg σ →
    ∃ ent : List Ent, ent.map (fun e => (e.i, e.q)) = seg ∧ TraceN C ops base ent σ.st K'
  | [], σ, h => ⟨[], rfl, hK σ h⟩
  | (i, q) :: r, σ, h => by
    obtain ⟨o, x, ob, σ', ho, hy, hq, hsk, hst, h2⟩ := eItem_ok hE h
    obtain ⟨ent, h3, h4⟩ := eSeg_ok hE hK r σ' h2
    refine ⟨⟨i, q, x, ob⟩ :: ent, by simp [h3], ⟨o, ho, hy, hq, hsk⟩, ?_⟩
    have : nextE ops base σ.st ⟨i, q, x, ob⟩ = σ'.st := by
      unfold nextE
      have : dstA ops i = o.dst := by unfold dstA; rw [ho]; rfl
      simp only [this]
      exact hst.symm
    rw [this]
    exact h4
theorem undoUE_ok {ops : Array Oper} {σ0 : ES} {n : Nat} {h : List (Option Ob)} : ∀ (U : List Nat) (u : List (Nat × V)) (K : List (Nat × V) → Prop), undoUE ops.toList σ0 U u K → ∃ u', K u' ∧ ES.env ⟨n, u', h⟩ = undoE ops σ0.env U (ES.env ⟨n, u, h⟩)
  | [], u, K, hk => ⟨u, hk, rfl⟩
  | i :: U, u, K, hk => by
    unfold undoUE at hk
    unfold undoE
    split at hk
    · rename_i o ho
      rw [Array.getElem?_toList] at ho
      have hd0 : dstA ops i = o.dst := by unfold dstA; rw [ho]; rfl
      split at hk
      · rename_i d hd
        rw [fV1_eq] at hk
        obtain ⟨u', h1, h2⟩ := undoUE_ok U u _ hk
        refine ⟨_, h1, ?_⟩
        rw [env_cons, h2]
        simp only [hd0, hd, es_getD]
      · rename_i hd
        obtain ⟨u', h1, h2⟩ := undoUE_ok U u _ hk
        refine ⟨u', h1, ?_⟩
        simp only [hd0, hd]
        exact h2
    · rename_i ho
      rw [Array.getElem?_toList] at ho
      have hd0 : dstA ops i = none := by unfold dstA; rw [ho]; rfl
      obtain ⟨u', h1, h2⟩ := undoUE_ok U u _ hk
      refine ⟨u', h1, ?_⟩
      simp only [hd0]
      exact h2
theorem segNext_up {stop : Bool} {K : ES → Prop} {σ : ES} (h : segNext C stop K σ) : UpE C K σ := by
  cases stop with
  | true => exact h.out
  | false => exact ⟨up_intro ⟨σ, rfl, h⟩⟩
theorem eSegs_ok (hE : EOk T C) {ops : Array Oper} {K : ES → Prop} : ∀ (plan : List Sg) (lf : List Nat) (σ : ES), eSegs T C ops.toList K plan lf σ → SemP C ops (fun s => ∃ h : List (Option Ob), (∀ (i : Nat) (o : Ob), h[i]? = some (some o) ↔ s.heap[i]? = some (some o)) ∧ Ks K ⟨s.env, h⟩) plan lf σ.st
  | [], lf, σ, h => by
    simp only [eSegs, fH_eq, withH_eq] at h
    exact ⟨_, trim'_get σ.heap, ⟨_, rfl, h⟩⟩
  | g :: r, lf, σ, h => by
    rw [eSegs, nF_eq, fH_eq, withH_eq] at h
    refine eSeg_ok hE (fun σ2 h2 => ?_) (segL g.ql lf g.seg) _ h
    cases hb : g.bar with
    | none =>
      simp only [hb] at h2
      exact eSegs_ok hE r [] σ2 h2
    | some b =>
      simp only [hb] at h2
      obtain ⟨o, ho, h2⟩ := get_elim h2
      rw [Array.getElem?_toList] at ho
      intro U hU
      obtain ⟨u2, h3, he⟩ := undoUE_ok (n := σ2.n) (h := σ2.heap) U σ2.u _ (allU_mem h2 U hU)
      rw [fH_eq] at h3
      have hst : undoS ops σ.st.env (segL g.ql lf g.seg) σ.st.heap.length U σ2.st = (⟨σ2.n, u2, undoHp (segL g.ql lf g.seg) σ.heap.length U σ2.heap⟩ : ES).st := by
        unfold undoS ES.st
        congr 1
        exact he.symm
      have hS := (eStep_ok hE.all h3).1
      rw [← hst] at hS
      refine ⟨o, _, ho, hS, ?_⟩
      rintro x s'' ⟨σ', rfl, h3⟩
      rw [fV_eq, putE_eq] at h3
      rw [es_put]
      refine up_mono (segNext_up h3).out ?_
      rintro s4 ⟨σ4, rfl, h4⟩
      exact eSegs_ok hE r U σ4 h4
theorem draw_any (hE : EOk T C) {ops : Array Oper} {K : ES → Prop} {σ : ES} (plan : List Sg) (hp : (planOk ops (masks ops) 0 [] plan && Nat.ble (needP plan) ops.size && plan.all (fun g => decide g.opt.Nodup)) = true) (h : eSegs T C ops.toList K plan [] σ) : DrawN T C ops K σ := by
  refine ⟨fun id a w hr => ?_⟩
  obtain ⟨I, bl, hp'⟩ := hr.parts
  have hp'' : RP C σ.st a { w with drawn := w.drawn + 1 } I bl := hp'.drew
  refine wp_region_any hE.any ?_
  rw [Bool.and_eq_true, Bool.and_eq_true, Nat.ble_eq] at hp
  refine plan_any (fun s a w hr hk => ?_) plan 0 [] hp.1.1 hp.2 (fun j o ho h => by simp at h) (fun j h => by simp at h) σ.st (eSegs_ok hE plan [] σ h) ops.size (Array.replicate ops.size false) (by simpa using hp.1.2) closed_none (by simp) (fun j => by
    by_cases hj : j < ops.size <;> simp [Array.getD, hj]) a _ hp''.rel
  obtain ⟨h', he, σ', hs, hk⟩ := hk
  refine ⟨⟨s.env, h'⟩, ⟨rfl, σ', hs, hk⟩, relx_heap hr (fun k x hx => .inl ((he k x).1 hx)) (fun k x hx => .inl ((he k x).2 hx))⟩
end
end Go.Proofs.YtbdogoccjcifnaaDoor
