/- Abstract walk by reckoning: regions, code, loops, calls, ends. No conditions. -/
import Derived.Test.YteabokphchpifaaAws
set_option linter.unusedSimpArgs false
set_option linter.unusedVariables false
set_option maxRecDepth 100000
namespace Go.Proofs.Yteabokphchpifaa
open Go.RowKit

def guardE (ops : List Oper) (σ : ES) (j : Nat) : V := match ops[j]? with
  | some o => (match o.dst with | some t => σ.get t | none => .any)
  | none => .any
theorem guardE_eq (ops : Array Oper) (σ : ES) (j : Nat) : guardE ops.toList σ j = guardOf ops σ.st j := by
  unfold guardE guardOf
  rw [Array.getElem?_toList]
  cases ops[j]? with
  | none => rfl
  | some o =>
    simp only [Option.bind_some]
    cases o.dst with
    | none => rfl
    | some t => exact (es_getD σ t).symm
def putE (σ : ES) (d : Option Tmp) (r : V) (K : ES → Prop) : Prop := match d with
  | none => K σ
  | some d => match σ with | ⟨n, u, h⟩ => K ⟨n, (d, r) :: u, h⟩
theorem putE_eq (σ : ES) (d : Option Tmp) (r : V) (K : ES → Prop) : putE σ d r K = K (σ.put d r) := by cases d <;> rfl
def callOp : Op → Bool
  | .call c => (match c.callee with | .value _ => true | _ => false)
  | _ => false
/-- A call that stands alone (all ahead of it is done, all behind it waits) is carried out as in a region that does not draw. -/
def qAt (q : Bool) (all : List Oper) (n : Nat) (o : Oper) : Bool := match q with
  | false => false
  | true => match callOp o.op with
    | false => true
    | true => match o.guard with
      | none => !barB .any all.toArray (all.length - n)
      | some _ => true
theorem qAt_false {ops : Array Oper} {n k : Nat} {o : Oper} (hk : ops.size - n = k) (h : qAt true ops.toList n o = false) : o.guard = none ∧ barB .any ops k = true := by
  unfold qAt at h
  simp only at h
  split at h
  · cases h
  · split at h
    · rename_i hg
      refine ⟨hg, ?_⟩
      simp only [Array.length_toList, hk] at h
      simpa using h
    · cases h
def eOps (T : TT) (C : Ctx) (q : Bool) (all : List Oper) (K : ES → Prop) : List Oper → ES → Prop
  | [], σ => K σ
  | o :: rest, σ => match o.guard with
    | none => eStep T C (qAt q all (rest.length + 1) o) o.op (fun r σ' => fV r fun r => putE σ' o.dst r fun σ'' => eOps T C q all K rest σ'') σ
    | some (j, want) => match guardE all σ j with
      | .bool b => (match want with
        | true => Br b (eStep T C (qAt q all (rest.length + 1) o) o.op (fun r σ' => fV r fun r => putE σ' o.dst r fun σ'' => eOps T C q all K rest σ'') σ) (putE σ o.dst (.tup []) fun σ'' => eOps T C q all K rest σ'')
        | false => Br b (putE σ o.dst (.tup []) fun σ'' => eOps T C q all K rest σ'') (eStep T C (qAt q all (rest.length + 1) o) o.op (fun r σ' => fV r fun r => putE σ' o.dst r fun σ'' => eOps T C q all K rest σ'') σ))
      | .tup _ => putE σ o.dst (.tup []) fun σ'' => eOps T C q all K rest σ''
      | _ => False

def drawOk (ops : Array Oper) : Bool := Region.lexB .any ops && (List.range ops.size).all fun i => match ops[i]? with
  | some o => !barOp o.op || (o.guard.isNone && barB .any ops i)
  | none => true
def codeOk : Code → Bool
  | .region _ ops draw => !draw || drawOk ops
  | .seq x y => codeOk x && codeOk y
  | .cond _ x y => codeOk x && codeOk y
  | .block _ c => codeOk c
  | .loop c => codeOk c
  | _ => true

def Ks (K : ES → Prop) : St → Prop := fun s => ∃ σ : ES, s = σ.st ∧ K σ
def Qst (Q : Exit → ES → Prop) : Exit → St → Prop := fun e s => ∃ σ : ES, s = σ.st ∧ Q e σ
structure LoopE (T : TT) (C : Ctx) (c : Code) (Q : Exit → ES → Prop) (σ : ES) : Prop where
  out : AWp C (.loop c) (Qst Q) σ.st
structure UpE (C : Ctx) (K : ES → Prop) (σ : ES) : Prop where
  out : Up C (Ks K) σ.st
def eCode (T : TT) (C : Ctx) : Code → (Exit → ES → Prop) → ES → Prop
  | .skip, Q, σ => Q .normal σ
  | .label _, Q, σ => Q .normal σ
  | .region _ ops draw, Q, σ => eOps T C draw ops.toList (Q .normal) ops.toList σ
  | .seq x y, Q, σ => eCode T C x (fun e σ' => match e with
    | .normal => eCode T C y Q σ'
    | e => Q e σ') σ
  | .cond c x y, Q, σ => asB (σ.val c) fun b => Br b (eCode T C x Q σ) (eCode T C y Q σ)
  | .block id c, Q, σ => eCode T C c (fun e σ' => match e with
    | .exit id' => (match Nat.beq id' id with | true => Q .normal σ' | false => Q (.exit id') σ')
    | e => Q e σ') σ
  | .loop c, Q, σ => LoopE T C c Q σ
  | .exit id, Q, σ => Q (.exit id) σ
  | .ret, Q, σ => Q .ret σ
  | _, _, _ => False

structure EOk (T : TT) (C : Ctx) : Prop where
  all : T.All C.P
  any : C.P.follows .mixedOrders = true

def StepM (C : Ctx) (o : Oper) (σ : St) (K : V → St → Prop) : Prop := ∃ K0, Step C o σ K0 ∧ ∀ r s, K0 r s → K r s
theorem stepM_sound {C : Ctx} (o : Oper) (σ : St) (K : V → St → Prop) (h : StepM C o σ K) : OpOk C o σ K := by
  obtain ⟨K0, h1, h2⟩ := h
  intro a w hr next Q hn
  exact step_sound o σ K0 h1 a w hr next Q fun v w' r σ' hk hx => hn v w' r σ' (h2 r σ' hk) hx

section
variable {T : TT} {C : Ctx}

theorem eOps_plain (hE : EOk T C) {ops : Array Oper} {q : Bool} {K : ES → Prop} : ∀ (l : List Oper) (σ : ES), eOps T C q ops.toList K l σ → AOps C (StepM C) ops (Ks K) l σ.st
  | [], σ, h => ⟨σ, rfl, h⟩
  | o :: rest, σ, h => by
    have hstep : eStep T C (qAt q ops.toList (rest.length + 1) o) o.op (fun r σ' => fV r fun r => putE σ' o.dst r fun σ'' => eOps T C q ops.toList K rest σ'') σ → StepM C o σ.st (PutK o.dst (AOps C (StepM C) ops (Ks K) rest)) := by
      intro h
      refine ⟨_, (eStep_ok hE.all h).1, ?_⟩
      rintro r s ⟨σ', rfl, h2⟩
      rw [fV_eq, putE_eq] at h2
      unfold PutK
      rw [es_put]
      exact eOps_plain hE rest _ h2
    have hskip : eOps T C q ops.toList K rest (σ.put o.dst (.tup [])) → AOps C (StepM C) ops (Ks K) rest (σ.st.put o.dst (.tup [])) := by
      intro h
      rw [es_put]
      exact eOps_plain hE rest _ h
    simp only [eOps, putE_eq σ] at h
    simp only [AOps]
    split at h
    · rename_i hg
      simp only [hg]
      exact hstep h
    · rename_i j want hg
      simp only [hg]
      rw [guardE_eq] at h
      split at h
      · rename_i b hb
        simp only [hb]
        cases want with
        | true =>
          rcases br_elim h with ⟨rfl, h⟩ | ⟨rfl, h⟩
          · exact ⟨fun _ => hstep h, fun e => absurd rfl e⟩
          · exact ⟨fun e => (by cases e), fun _ => hskip h⟩
        | false =>
          rcases br_elim h with ⟨rfl, h⟩ | ⟨rfl, h⟩
          · exact ⟨fun e => (by cases e), fun _ => hskip h⟩
          · exact ⟨fun _ => hstep h, fun e => absurd rfl e⟩
      · rename_i l hb
        simp only [hb]
        exact hskip h
      · exact h.elim

theorem drawOk_bar {ops : Array Oper} (h : drawOk ops = true) {i : Nat} {o : Oper} (ho : ops[i]? = some o) (hb : barOp o.op = true) : o.guard = none ∧ barB .any ops i = true := by
  simp only [drawOk, Bool.and_eq_true, List.all_eq_true, List.mem_range] at h
  have hlt : i < ops.size := (Array.getElem?_eq_some_iff.1 ho).1
  have := h.2 i hlt
  rw [ho] at this
  simpa [hb] using this

theorem eOps_any (hE : EOk T C) {ops : Array Oper} (hd : drawOk ops = true) {K : ES → Prop} : ∀ (l : List Oper) (k : Nat) (listed : Array Bool) (σ : ES), ClosedL .any ops listed → (∀ j < k, listed.getD j false = true) → listed.size = ops.size → k + l.length = ops.size → (∀ j, l[j]? = ops[k + j]?) →
    Region.lexFrom .any ops l.length k listed = true → eOps T C true ops.toList K l σ → wpAnyA C .any ops (Ks K) l.length listed σ.st
  | [], _, _, σ, hc, _, _, hsz, hl, hB, h => ⟨by simpa [Region.lexFrom] using hB, ⟨σ, rfl, h⟩⟩
  | o :: l, k, listed, σ, hc, hpre, hls, hsz, hl, hB, h => by
    have h0 : ops[k]? = some o := by simpa using (hl 0).symm
    simp only [List.length_cons, Region.lexFrom, Bool.and_eq_true] at hB
    obtain ⟨⟨hr, hf⟩, hB'⟩ := hB
    have hr : k ∈ Region.ready .any ops listed := by simpa using hr
    simp only [List.length_cons] at hsz
    have hl' : ∀ j, l[j]? = ops[k + 1 + j]? := fun j => by have := hl (j + 1); simpa [Nat.add_assoc, Nat.add_comm 1 j] using this
    have hY : ∀ r (σ' : ES), σ.st = σ'.st → YA C ops o r σ.st → eOps T C true ops.toList K l (σ'.put o.dst r) → wpAnyA C .any ops (Ks K) (l.length + 1) listed σ.st := by
      intro r σ' e hy hK
      refine wpAnyA_first h0 l.length listed σ.st hc (Region.free_spec h0 hf) hr hy ?_
      rw [e, es_put]
      exact eOps_any hE hd l (k + 1) _ _ (closed_set hc hr) (pre_set hpre (by rw [hls, ← hsz]; omega)) (by rw [Array.size_setIfInBounds, hls]) (by omega) hl' hB' hK
    have hbar : (barOp o.op = true ∨ qAt true ops.toList (l.length + 1) o = false) → o.guard = none ∧ barB .any ops k = true := fun h => by
      rcases h with h | h
      · exact drawOk_bar hd h0 h
      · exact qAt_false (by omega) h
    have hgo : wantA ops o σ.st = some true → eStep T C (qAt true ops.toList (l.length + 1) o) o.op (fun r σ' => fV r fun r => putE σ' o.dst r fun σ'' => eOps T C true ops.toList K l σ'') σ → wpAnyA C .any ops (Ks K) (l.length + 1) listed σ.st := by
      intro hw hs
      have hok := eStep_ok hE.all hs
      by_cases hb : barOp o.op = true ∨ qAt true ops.toList (l.length + 1) o = false
      · have hbar := hbar hb
        refine ⟨fun h => (by rw [h] at hr; cases hr), fun j hj => ?_⟩
        have hjk := bar_sole hbar.2 hc hpre hr hj
        subst hjk
        unfold qOpA
        simp only [h0]
        refine .inr ⟨hbar.1, hbar.2, _, hok.1, ?_⟩
        rintro r s ⟨σ', rfl, hk⟩
        rw [fV_eq, putE_eq] at hk
        rw [es_put]
        exact eOps_any hE hd l (j + 1) _ _ (closed_set hc hr) (pre_set hpre (by rw [hls, ← hsz]; omega)) (by rw [Array.size_setIfInBounds, hls]) (by omega) hl' hB' hk
      · have hb1 : barOp o.op = false := by
          cases h : barOp o.op with
          | false => rfl
          | true => exact absurd (.inl h) hb
        have hb2 : qAt true ops.toList (l.length + 1) o = true := by
          cases h : qAt true ops.toList (l.length + 1) o with
          | true => rfl
          | false => exact absurd (.inr h) hb
        obtain ⟨r, h1, h2⟩ := qstep_looks (hok.2 hb2 hb1)
        obtain ⟨σ', e, h1⟩ := h1
        rw [fV_eq, putE_eq] at h1
        exact hY r σ' e (.inl ⟨hw, h2 _ σ.st (fun _ _ => rfl) rfl ⟨rfl, rfl⟩⟩) h1
    have hskip : wantA ops o σ.st = some false → eOps T C true ops.toList K l (σ.put o.dst (.tup [])) → wpAnyA C .any ops (Ks K) (l.length + 1) listed σ.st :=
      fun hw hk => hY _ σ rfl (.inr ⟨hw, rfl⟩) hk
    simp only [eOps, putE_eq σ] at h
    split at h
    · rename_i hg
      exact hgo (by simp [wantA, hg]) h
    · rename_i j want hg
      rw [guardE_eq] at h
      split at h
      · rename_i b hb
        cases want with
        | true =>
          rcases br_elim h with ⟨rfl, h⟩ | ⟨rfl, h⟩
          · exact hgo (by simp [wantA, hg, hb]) h
          · exact hskip (by simp [wantA, hg, hb]) h
        | false =>
          rcases br_elim h with ⟨rfl, h⟩ | ⟨rfl, h⟩
          · exact hskip (by simp [wantA, hg, hb]) h
          · exact hgo (by simp [wantA, hg, hb]) h
      · rename_i l' hb
        exact hskip (by simp [wantA, hg, hb]) h
      · exact h.elim

theorem qst_exit {Q : Exit → ES → Prop} {e : Exit} {σ : ES} (h : Q e σ) : Qst Q e σ.st := ⟨σ, rfl, h⟩
theorem eCode_ok (hE : EOk T C) : ∀ (c : Code), codeOk c = true → ∀ (Q : Exit → ES → Prop) (σ : ES), eCode T C c Q σ → AWp C c (Qst Q) σ.st := by
  intro c
  induction c with
  | skip => exact fun _ Q σ h => awp_skip (qst_exit h)
  | label l => exact fun _ Q σ h a w hr => wp_label ⟨σ.st, qst_exit h, hr⟩
  | region id ops draw =>
    intro hc Q σ h
    cases draw with
    | false =>
      intro a w hr
      refine wp_region ?_
      have := aops_sound (Q := fun e a' w' => ∃ σ', Qst Q e σ' ∧ Rel C σ' a' w') (K := Ks (Q .normal)) stepM_sound (fun s a w h1 h2 => by obtain ⟨σ', rfl, h1⟩ := h1; exact ⟨_, qst_exit h1, h2⟩) ops.toList 0 (fun j => by simp) σ.st a w (eOps_plain hE _ _ h) hr
      simpa [List.range_eq_range'] using this
    | true =>
      have hd : drawOk ops = true := by simpa [codeOk] using hc
      intro a w hr
      have hB := hd
      simp only [drawOk, Region.lexB, Bool.and_eq_true] at hB
      obtain ⟨I, bl, hp⟩ := hr.parts
      have hp' : RP C σ.st a { w with drawn := w.drawn + 1 } I bl := hp.drew
      refine wp_region_any hE.any (wpAny_of_A (Q := Ks (Q .normal)) (fun s a w h1 h2 => by obtain ⟨σ', rfl, h2⟩ := h2; exact ⟨_, qst_exit h2, h1⟩) _ _ σ.st a _ hp'.rel ?_)
      have := eOps_any hE hd ops.toList 0 (Array.replicate ops.size false) σ closed_none (fun j hj => absurd hj (Nat.not_lt_zero _)) (by simp) (by simp) (by simp) (by simpa using hB.1.2) h
      simpa using this
  | seq x y ihx ihy =>
    intro hc Q σ h
    simp only [codeOk, Bool.and_eq_true] at hc
    refine awp_seq (awp_mono (ihx hc.1 _ _ h) ?_)
    rintro e s ⟨σ', rfl, h⟩
    cases e with
    | normal => exact ihy hc.2 _ _ h
    | exit id => exact qst_exit h
    | goto l => exact qst_exit h
    | ret => exact qst_exit h
    | panic ch => exact qst_exit h
    | outgrown => exact qst_exit h
  | cond c x y ihx ihy =>
    intro hc Q σ h
    simp only [codeOk, Bool.and_eq_true] at hc
    obtain ⟨t, ht, h⟩ := asB_elim h
    refine awp_cond t ?_ (fun e => ?_) (fun e => ?_)
    · intro a w hr
      obtain ⟨I, bl, hp⟩ := hr.parts
      have := hp.val c
      rw [es_val, ht] at this
      exact this.inv_bool
    · subst e; exact ihx hc.1 _ _ h
    · subst e; exact ihy hc.2 _ _ h
  | block id c ih =>
    intro hc Q σ h
    refine awp_block (awp_mono (ih hc _ _ h) ?_)
    rintro e s ⟨σ', rfl, h⟩
    cases e with
    | normal => exact qst_exit h
    | exit id' =>
      simp only [InB_exit]
      simp only at h
      split at h
      · rename_i hb
        rw [if_pos (nbeq hb)]
        exact qst_exit h
      · rename_i hb
        have : ¬ id' = id := fun e => by subst e; simp at hb
        rw [if_neg this]
        exact qst_exit h
    | goto l => exact qst_exit h
    | ret => exact qst_exit h
    | panic ch => exact qst_exit h
    | outgrown => exact qst_exit h
  | loop c _ => exact fun _ Q σ h => h.out
  | exit id => exact fun _ Q σ h => awp_exit (qst_exit h)
  | ret => exact fun _ Q σ h => awp_ret (qst_exit h)
  | rangeFunc f ps as b _ _ => exact fun _ Q σ h => h.elim
  | scope b _ => exact fun _ Q σ h => h.elim
  | goto l => exact fun _ Q σ h => h.elim
  | refuse s => exact fun _ Q σ h => h.elim
end
end Go.Proofs.Yteabokphchpifaa
