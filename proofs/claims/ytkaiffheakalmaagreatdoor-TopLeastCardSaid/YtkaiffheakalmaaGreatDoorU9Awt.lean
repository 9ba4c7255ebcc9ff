/- Copied, stripped. No conditions. -/
import Derived.Test.YtkaiffheakalmaaGreatDoorU9Awsd
import Derived.Scope
set_option linter.unusedSimpArgs false
set_option linter.unusedVariables false
set_option maxRecDepth 100000
namespace Go.Proofs.YtkaiffheakalmaaGreatDoor
open Go.RowKit
def OF (ops:List Oper) (σ:ES) (j:Nat):V:=match ops[j]? with
  | some o=>(match o.dst with|some t=>σ.get t|none=>.any)
  | none=>.any
theorem JA (ops:Array Oper) (σ:ES) (j:Nat):OF ops.toList σ j=CW ops σ.st j:=by
  unfold OF CW
  rw [Array.getElem?_toList]
  cases ops[j]? with
  | none=>rfl
  | some o=>
    simp only [Option.bind_some]
    cases o.dst with
    | none=>rfl
    | some t=>exact (Fs σ t).symm
def Gf (σ:ES) (d:Option Tmp) (r:V) (K:ES→Prop):Prop:=match d with
  | none=>K σ
  | some d=>match σ with|⟨n,u,h⟩=>K ⟨n,(d,r)::u,h⟩
theorem DN (σ:ES) (d:Option Tmp) (r:V) (K:ES→Prop):Gf σ d r K=K (σ.put d r):=by cases d<;>rfl
def dP:Op→Bool
  | .call c=>(match c.callee with|.value _=>true|_=>false)
  | _=>false
def Wi (q:Bool) (all:List Oper) (n:Nat) (o:Oper):Bool:=match q with
  | false=>false
  | true=>match dP o.op with
    | false=>true
    | true=>match o.guard with
      | none=>!I5 .any all.toArray (all.length - n)
      | some _=>true
theorem Ud {ops:Array Oper} {n k:Nat} {o:Oper} (hk:ops.size - n=k) (h:Wi true ops.toList n o=false):o.guard=none∧I5 .any ops k=true:=by
  unfold Wi at h
  simp only at h
  split at h
  . cases h
  . split at h
    . rename_i hg
      refine ⟨hg,?_⟩
      simp only [Array.length_toList,hk] at h
      simpa using h
    . cases h
def Gg (T:TT) (C:Ctx) (q:Bool) (all:List Oper) (K:ES→Prop):List Oper→ES→Prop
  | [],σ=>K σ
  | o::rest,σ=>match o.guard with
    | none=>BH T C (Wi q all (rest.length+1) o) o.op (fun r σ'=>fV r fun r=>Gf σ' o.dst r fun σ''=>Gg T C q all K rest σ'') σ
    | some (j,want)=>match OF all σ j with
      | .bool b=>(match want with
        | true=>Br b (BH T C (Wi q all (rest.length+1) o) o.op (fun r σ'=>fV r fun r=>Gf σ' o.dst r fun σ''=>Gg T C q all K rest σ'') σ) (Gf σ o.dst (.tup []) fun σ''=>Gg T C q all K rest σ'')
        | false=>Br b (Gf σ o.dst (.tup []) fun σ''=>Gg T C q all K rest σ'') (BH T C (Wi q all (rest.length+1) o) o.op (fun r σ'=>fV r fun r=>Gf σ' o.dst r fun σ''=>Gg T C q all K rest σ'') σ))
      | .tup _=>Gf σ o.dst (.tup []) fun σ''=>Gg T C q all K rest σ''
      | _=>False
def LQ (ops:Array Oper):Bool:=Region.lexB .any ops&&(List.range ops.size).all fun i=>match ops[i]? with
  | some o=>!Ef o.op || (o.guard.isNone&&I5 .any ops i)
  | none=>true
def C8:Code→Bool
  | .seq x y=>C8 x&&C8 y
  | .cond _ x y=>C8 x&&C8 y
  | .block _ c=>C8 c
  | .loop c=>C8 c
  | .scope c=>C8 c
  | _=>true
def Ks (K:ES→Prop):St→Prop:=fun s=>∃σ:ES,s=σ.st∧K σ
def jE (Q:Exit→ES→Prop):Exit→St→Prop:=fun e s=>∃σ:ES,s=σ.st∧Q e σ
structure LoopE (T:TT) (C:Ctx) (c:Code) (Q:Exit→ES→Prop) (σ:ES):Prop where
  out:O7 C (.loop c) (jE Q) σ.st
structure DrawN (T:TT) (C:Ctx) (ops:Array Oper) (Q:ES→Prop) (σ:ES):Prop where
  out:∀id,O7 C (.region id ops true) (fun e s=>e= .normal∧Ks Q s) σ.st
structure UpE (C:Ctx) (K:ES→Prop) (σ:ES):Prop where
  out:Up C (Ks K) σ.st
def GH (T:TT) (C:Ctx):Code→(Exit→ES→Prop)→ES→Prop
  | .skip,Q,σ=>Q .normal σ
  | .label _,Q,σ=>Q .normal σ
  | .region _ ops draw,Q,σ=>match draw with
    | false=>Gg T C false ops.toList (Q .normal) ops.toList σ
    | true=>DrawN T C ops (Q .normal) σ
  | .seq x y,Q,σ=>GH T C x (fun e σ'=>match e with
    | .normal=>GH T C y Q σ'
    | e=>Q e σ') σ
  | .cond c x y,Q,σ=>jN (σ.val c) fun b=>Br b (GH T C x Q σ) (GH T C y Q σ)
  | .block id c,Q,σ=>GH T C c (fun e σ'=>match e with
    | .exit id'=>(match Nat.beq id' id with|true=>Q .normal σ'|false=>Q (.exit id') σ')
    | e=>Q e σ') σ
  | .loop c,Q,σ=>LoopE T C c Q σ
  | .scope c,Q,σ=>GH T C c (fun e σ'=>match e with
    | .goto _=>False
    | e=>Q e σ') σ
  | .exit id,Q,σ=>Q (.exit id) σ
  | .ret,Q,σ=>Q .ret σ
  | _,_,_=>False
structure EOk (T:TT) (C:Ctx):Prop where
  all:T.All C.P
  any:C.P.follows .mixedOrders=true
def Pk (C:Ctx) (o:Oper) (σ:St) (K:V→St→Prop):Prop:=∃K0,C4 C o σ K0∧∀r s,K0 r s→K r s
theorem Pl {C:Ctx} (o:Oper) (σ:St) (K:V→St→Prop) (h:Pk C o σ K):BR C o σ K:=by
  obtain ⟨K0,h1,h2⟩:=h
  intro a w hr next Q hn
  exact Da o σ K0 h1 a w hr next Q fun v w' r σ' hk hx=>hn v w' r σ' (h2 r σ' hk) hx
section
variable {T:TT} {C:Ctx}
theorem Hj (hE:EOk T C) {ops:Array Oper} {q:Bool} {K:ES→Prop}:∀(l:List Oper) (σ:ES),Gg T C q ops.toList K l σ→J0 C (Pk C) ops (Ks K) l σ.st
  | [],σ,h=>⟨σ,rfl,h⟩
  | o::rest,σ,h=>by
    have hstep:BH T C (Wi q ops.toList (rest.length+1) o) o.op (fun r σ'=>fV r fun r=>Gf σ' o.dst r fun σ''=>Gg T C q ops.toList K rest σ'') σ→Pk C o σ.st (Vr o.dst (J0 C (Pk C) ops (Ks K) rest)):=by
      intro h
      refine ⟨_,(Fg hE.all h).1,?_⟩
      rintro r s ⟨σ',rfl,h2⟩
      rw [HW,DN] at h2
      unfold Vr
      rw [FO]
      exact Hj hE rest _ h2
    have hskip:Gg T C q ops.toList K rest (σ.put o.dst (.tup []))→J0 C (Pk C) ops (Ks K) rest (σ.st.put o.dst (.tup [])):=by
      intro h
      rw [FO]
      exact Hj hE rest _ h
    simp only [Gg,DN σ] at h
    simp only [J0]
    split at h
    . rename_i hg
      simp only [hg]
      exact hstep h
    . rename_i j want hg
      simp only [hg]
      rw [JA] at h
      split at h
      . rename_i b hb
        simp only [hb]
        cases want with
        | true=>
          rcases Dp h with ⟨rfl,h⟩|⟨rfl,h⟩
          . exact ⟨fun _=>hstep h,fun e=>absurd rfl e⟩
          . exact ⟨fun e=>(by cases e),fun _=>hskip h⟩
        | false=>
          rcases Dp h with ⟨rfl,h⟩|⟨rfl,h⟩
          . exact ⟨fun e=>(by cases e),fun _=>hskip h⟩
          . exact ⟨fun _=>hstep h,fun e=>absurd rfl e⟩
      . rename_i l hb
        simp only [hb]
        exact hskip h
      . exact h.elim
theorem RX {ops:Array Oper} (h:LQ ops=true) {i:Nat} {o:Oper} (ho:ops[i]?=some o) (hb:Ef o.op=true):o.guard=none∧I5 .any ops i=true:=by
  simp only [LQ,Bool.and_eq_true,List.all_eq_true,List.mem_range] at h
  have hlt:i < ops.size:=(Array.getElem?_eq_some_iff.1 ho).1
  have:=h.2 i hlt
  rw [ho] at this
  simpa [hb] using this
theorem LR (hE:EOk T C) {ops:Array Oper} (hd:LQ ops=true) {K:ES→Prop}:∀(l:List Oper) (k:Nat) (listed:Array Bool) (σ:ES),B7 .any ops listed→(∀j < k,listed.getD j false=true)→listed.size=ops.size→k+l.length=ops.size→(∀j,l[j]?=ops[k+j]?)→
    Region.lexFrom .any ops l.length k listed=true→Gg T C true ops.toList K l σ→GY C .any ops (Ks K) l.length listed σ.st
  | [],_,_,σ,hc,_,_,hsz,hl,hB,h=>⟨by simpa [Region.lexFrom] using hB,⟨σ,rfl,h⟩⟩
  | o::l,k,listed,σ,hc,hpre,hls,hsz,hl,hB,h=>by
    have h0:ops[k]?=some o:=by simpa using (hl 0).symm
    simp only [List.length_cons,Region.lexFrom,Bool.and_eq_true] at hB
    obtain ⟨⟨hr,hf⟩,hB'⟩:=hB
    have hr:k∈Region.ready .any ops listed:=by simpa using hr
    simp only [List.length_cons] at hsz
    have hl':∀j,l[j]?=ops[k+1+j]?:=fun j=>by have:=hl (j+1);simpa [Nat.add_assoc,Nat.add_comm 1 j] using this
    have hY:∀r (σ':ES),σ.st=σ'.st→YA C ops o r σ.st→Gg T C true ops.toList K l (σ'.put o.dst r)→GY C .any ops (Ks K) (l.length+1) listed σ.st:=by
      intro r σ' e hy hK
      refine N8 h0 l.length listed σ.st hc (Region.free_spec h0 hf) hr hy ?_
      rw [e,FO]
      exact LR hE hd l (k+1) _ _ (Ed hc hr) (S6 hpre (by rw [hls,←hsz];omega)) (by rw [Array.size_setIfInBounds,hls]) (by omega) hl' hB' hK
    have hbar:(Ef o.op=true∨Wi true ops.toList (l.length+1) o=false)→o.guard=none∧I5 .any ops k=true:=fun h=>by
      rcases h with h|h
      . exact RX hd h0 h
      . exact Ud (by omega) h
    have hgo:BJ ops o σ.st=some true→BH T C (Wi true ops.toList (l.length+1) o) o.op (fun r σ'=>fV r fun r=>Gf σ' o.dst r fun σ''=>Gg T C true ops.toList K l σ'') σ→GY C .any ops (Ks K) (l.length+1) listed σ.st:=by
      intro hw hs
      have hok:=Fg hE.all hs
      by_cases hb:Ef o.op=true∨Wi true ops.toList (l.length+1) o=false
      . have hbar:=hbar hb
        refine ⟨fun h=>(by rw [h] at hr;cases hr),fun j hj=>?_⟩
        have hjk:=V8 hbar.2 hc hpre hr hj
        subst hjk
        unfold qOpA
        simp only [h0]
        refine .inr ⟨hbar.1,hbar.2,_,hok.1,?_⟩
        rintro r s ⟨σ',rfl,hk⟩
        rw [HW,DN] at hk
        rw [FO]
        exact LR hE hd l (j+1) _ _ (Ed hc hr) (S6 hpre (by rw [hls,←hsz];omega)) (by rw [Array.size_setIfInBounds,hls]) (by omega) hl' hB' hk
      . have hb1:Ef o.op=false:=by
          cases h:Ef o.op with
          | false=>rfl
          | true=>exact absurd (.inl h) hb
        have hb2:Wi true ops.toList (l.length+1) o=true:=by
          cases h:Wi true ops.toList (l.length+1) o with
          | true=>rfl
          | false=>exact absurd (.inr h) hb
        obtain ⟨r,h1,h2⟩:=E6 (hok.2 hb2 hb1)
        obtain ⟨σ',e,h1⟩:=h1
        rw [HW,DN] at h1
        exact hY r σ' e (.inl ⟨hw,h2 _ σ.st (fun _ _=>rfl) rfl ⟨rfl,rfl⟩⟩) h1
    have hskip:BJ ops o σ.st=some false→Gg T C true ops.toList K l (σ.put o.dst (.tup []))→GY C .any ops (Ks K) (l.length+1) listed σ.st:=
      fun hw hk=>hY _ σ rfl (.inr ⟨hw,rfl⟩) hk
    simp only [Gg,DN σ] at h
    split at h
    . rename_i hg
      exact hgo (by simp [BJ,hg]) h
    . rename_i j want hg
      rw [JA] at h
      split at h
      . rename_i b hb
        cases want with
        | true=>
          rcases Dp h with ⟨rfl,h⟩|⟨rfl,h⟩
          . exact hgo (by simp [BJ,hg,hb]) h
          . exact hskip (by simp [BJ,hg,hb]) h
        | false=>
          rcases Dp h with ⟨rfl,h⟩|⟨rfl,h⟩
          . exact hskip (by simp [BJ,hg,hb]) h
          . exact hgo (by simp [BJ,hg,hb]) h
      . rename_i l' hb
        exact hskip (by simp [BJ,hg,hb]) h
      . exact h.elim
theorem BW (hE:EOk T C) {ops:Array Oper} {K:ES→Prop} {σ:ES} (hd:LQ ops=true) (h:Gg T C true ops.toList K ops.toList σ):DrawN T C ops K σ:=by
  refine ⟨fun id a w hr=>?_⟩
  have hB:=hd
  simp only [LQ,Region.lexB,Bool.and_eq_true] at hB
  obtain ⟨I,bl,hp⟩:=hr.parts
  have hp':RP C σ.st a { w with drawn:=w.drawn+1} I bl:=hp.drew
  refine wp_region_any hE.any (Ku (Q:=Ks K) (fun s a w h1 h2=>⟨s,⟨rfl,h2⟩,h1⟩) _ _ σ.st a _ hp'.rel ?_)
  have:=LR hE hd ops.toList 0 (Array.replicate ops.size false) σ GX (fun j hj=>absurd hj (Nat.not_lt_zero _)) (by simp) (by simp) (by simp) (by simpa using hB.1.2) h
  simpa using this
theorem Ar {Q:Exit→ES→Prop} {e:Exit} {σ:ES} (h:Q e σ):jE Q e σ.st:=⟨σ,rfl,h⟩
theorem IN (hE:EOk T C):∀(c:Code),C8 c=true→∀(Q:Exit→ES→Prop) (σ:ES),GH T C c Q σ→O7 C c (jE Q) σ.st:=by
  intro c
  induction c with
  | skip=>exact fun _ Q σ h=>Vo (Ar h)
  | label l=>exact fun _ Q σ h a w hr=>wp_label ⟨σ.st,Ar h,hr⟩
  | region id ops draw=>
    intro hc Q σ h
    cases draw with
    | false=>
      intro a w hr
      refine wp_region ?_
      have:=Kb (Q:=fun e a' w'=>∃σ',jE Q e σ'∧Rel C σ' a' w') (K:=Ks (Q .normal)) Pl (fun s a w h1 h2=>by obtain ⟨σ',rfl,h1⟩:=h1;exact ⟨_,Ar h1,h2⟩) ops.toList 0 (fun j=>by simp) σ.st a w (Hj hE _ _ h) hr
      simpa [List.range_eq_range'] using this
    | true=>
      refine H4 (DrawN.out h id) ?_
      rintro e s ⟨rfl,σ',rfl,h⟩
      exact Ar h
  | seq x y ihx ihy=>
    intro hc Q σ h
    simp only [C8,Bool.and_eq_true] at hc
    refine Ya (H4 (ihx hc.1 _ _ h) ?_)
    rintro e s ⟨σ',rfl,h⟩
    cases e with
    | normal=>exact ihy hc.2 _ _ h
    | exit id=>exact Ar h
    | goto l=>exact Ar h
    | ret=>exact Ar h
    | panic ch=>exact Ar h
    | outgrown=>exact Ar h
  | cond c x y ihx ihy=>
    intro hc Q σ h
    simp only [C8,Bool.and_eq_true] at hc
    obtain ⟨t,ht,h⟩:=PV h
    refine Vq t ?_ (fun e=>?_) (fun e=>?_)
    . intro a w hr
      obtain ⟨I,bl,hp⟩:=hr.parts
      have:=hp.val c
      rw [Av,ht] at this
      exact this.inv_bool
    . subst e;exact ihx hc.1 _ _ h
    . subst e;exact ihy hc.2 _ _ h
  | block id c ih=>
    intro hc Q σ h
    refine T9 (H4 (ih hc _ _ h) ?_)
    rintro e s ⟨σ',rfl,h⟩
    cases e with
    | normal=>exact Ar h
    | exit id'=>
      simp only [O8]
      simp only at h
      split at h
      . rename_i hb
        rw [if_pos (Dz hb)]
        exact Ar h
      . rename_i hb
        have:¬id'=id:=fun e=>by subst e;simp at hb
        rw [if_neg this]
        exact Ar h
    | goto l=>exact Ar h
    | ret=>exact Ar h
    | panic ch=>exact Ar h
    | outgrown=>exact Ar h
  | loop c _=>exact fun _ Q σ h=>h.out
  | exit id=>exact fun _ Q σ h=>Vp (Ar h)
  | ret=>exact fun _ Q σ h=>YZ (Ar h)
  | rangeFunc f ps as b _ _=>exact fun _ Q σ h=>h.elim
  | scope b ih=>
    intro hc Q σ h a w hr
    refine wp_scope_straight (Code.wp_mono ?_ (ih hc _ _ h a w hr))
    rintro e a' w' ⟨_,⟨σ',rfl,h⟩,hr'⟩
    cases e with
    | goto l=>exact h.elim
    | normal=>exact ⟨_,Ar h,hr'⟩
    | exit id=>exact ⟨_,Ar h,hr'⟩
    | ret=>exact ⟨_,Ar h,hr'⟩
    | panic ch=>exact ⟨_,Ar h,hr'⟩
    | outgrown=>exact ⟨_,Ar h,hr'⟩
  | goto l=>exact fun _ Q σ h=>h.elim
  | refuse s=>exact fun _ Q σ h=>h.elim
def Wj (σ:ES) (op:Op):Bool:=match op with
  | .alloc _=>true
  | .makeSlice _ _ _=>true
  | .buildSlice _ _ _=>true
  | .call c=>(match c.callee,c.args.toList,c.argTypes.toList with
    | .builtin .append,[s0,_],[_,_]=>(match σ.val s0 with|.nils=>true|_=>false)
    | _,_,_=>false)
  | _=>false
structure CallNM (C:Ctx) (f:FuncId) (xs:List V) (K:Nat→Nat→List V→Prop):Prop where
  out:∃m z els,AD C.P f=true∧WZ C f xs m z els∧K m z els
structure SegUp (C:Ctx) (K:ES→Prop) (σ:ES):Prop where
  out:UpE C K σ
def TN (op:Op):Option (Operand×List Operand):=match op with
  | .call c=>(match c.callee with|.value f=>some (f,c.args.toList)|_=>none)
  | _=>none
def Ue (T:TT) (C:Ctx) (base:Nat) (o:Oper) (q:Option Nat) (K:ES→Prop) (σ:ES):Prop:=
  match q with
  | none=>(match Ef o.op with
    | false=>BH T C true o.op (fun r σ'=>fV r fun r=>Gf σ' o.dst r K) σ
    | true=>False)
  | some p=>(match TN o.op with
   | some (fop,args)=>(match σ.val fop with
    | .fn f caps=>dD (args.map σ.val) fun xs=>nF (base+p) fun id=>Qu σ.heap[id]? fun x=>(match x with
      | none=>CallNM C f (xs++caps) fun m z els=>fH (σ.heap.set id (some (.row z els))) fun h'=>Gb σ h' fun σ''=>Gf σ'' o.dst (.sl id 0 m) K
      | some _=>False)
    | _=>False)
   | none=>(match Wj σ o.op with
    | true=>nF (base+p) fun id=>Qu σ.heap[id]? fun x=>(match x with
      | none=>fH (Bn id σ.heap) fun h=>Gb σ h fun σp=>BH T C false o.op (fun r σ'=>fV r fun r=>fH (σ.heap.take id++σ'.heap.drop id) fun h'=>Gb σ' h' fun σ''=>Gf σ'' o.dst r K) σp
      | some _=>False)
    | false=>False))
def cU (T:TT) (C:Ctx) (all:List Oper) (base i:Nat) (q:Option Nat) (K:ES→Prop) (σ:ES):Prop:=
  Qu all[i]? fun o=>match o.guard with
    | none=>Ue T C base o q K σ
    | some (j,want)=>match OF all σ j with
      | .bool b=>(match want with
        | true=>Br b (Ue T C base o q K σ) (Gf σ o.dst (.tup []) K)
        | false=>Br b (Gf σ o.dst (.tup []) K) (Ue T C base o q K σ))
      | .tup _=>Gf σ o.dst (.tup []) K
      | _=>False
def Wk (T:TT) (C:Ctx) (all:List Oper) (base:Nat) (K:ES→Prop):List (Nat×Option Nat)→ES→Prop
  | [],σ=>K σ
  | (i,q)::r,σ=>cU T C all base i q (fun σ'=>Wk T C all base K r σ') σ
structure Both (A B:Prop):Prop where
  l:A
  r:B
def ZB (l:List (List Nat)) (P:List Nat→Prop):Prop:=List.rec (motive:=fun _=>Prop) True (fun U r ih=>List.rec (motive:=fun _=>Prop) (P U) (fun _ _ _=>Both (P U) ih) r) l
theorem LS {P:List Nat→Prop}:∀{l:List (List Nat)},ZB l P→∀U∈l,P U
  | [],_,U,h=>by simp at h
  | [U],h,V,hV=>by
    rw [List.mem_singleton] at hV
    subst hV;exact h
  | U::V::r,h,W,hW=>by
    have h':Both (P U) (ZB (V::r) P):=h
    rcases List.mem_cons.1 hW with rfl|hW
    . exact h'.l
    . exact LS h'.r W hW
def TO (C:Ctx) (stop:Bool) (K:ES→Prop) (σ:ES):Prop:=match stop with
  | true=>SegUp C K σ
  | false=>K σ
def Hk (all:List Oper) (σ0:ES):List Nat→List (Nat×V)→(List (Nat×V)→Prop)→Prop
  | [],u,K=>K u
  | i::U,u,K=>match all[i]? with
    | some o=>(match o.dst with
      | some d=>f5 (σ0.get d) fun v=>Hk all σ0 U u fun u'=>K ((d,v)::u')
      | none=>Hk all σ0 U u K)
    | none=>Hk all σ0 U u K
def jF:List Nat→(List Nat→Prop)→Prop
  | [],K=>K []
  | i::r,K=>nF i fun i=>jF r fun r=>K (i::r)
def ZC:List (List Nat)→(List (List Nat)→Prop)→Prop
  | [],K=>K []
  | U::r,K=>jF U fun U=>ZC r fun r=>K (U::r)
theorem Wl:∀(l:List Nat) (K:List Nat→Prop),jF l K=K l
  | [],K=>rfl
  | i::r,K=>by unfold jF;rw [K7,Wl r]
theorem TP:∀(l:List (List Nat)) (K:List (List Nat)→Prop),ZC l K=K l
  | [],K=>rfl
  | U::r,K=>by unfold ZC;rw [Wl,TP r]
def eSegs (T:TT) (C:Ctx) (all:List Oper) (K:ES→Prop):List Sg→List Nat→ES→Prop
  | [],_,σ=>fH (trimH' σ.heap) fun h=>Gb σ h K
  | g::r,lf,σ=>nF σ.heap.length fun base=>fH (σ.heap++List.replicate g.M none) fun h=>Gb σ h fun σ1=>Wk T C all base (fun σ2=>match g.bar with
    | none=>eSegs T C all K r [] σ2
    | some b=>Qu all[b]? fun o=>ZC (dO g lf) fun us=>ZB us fun U=>Hk all σ U σ2.u fun u2=>fH (Bd (C5 g.ql lf g.seg) base U σ2.heap) fun h2=>BH T C false o.op (fun x σ'=>fV x fun x=>Gf σ' o.dst x fun σ''=>TO C (!(r.isEmpty&&U.isEmpty)) (fun σ3=>eSegs T C all K r U σ3) σ'') ⟨σ2.n,u2,h2⟩) (C5 g.ql lf g.seg) σ1
where trimH':List (Option Ob)→List (Option Ob)
  | []=>[]
  | some o::r=>some o::trimH' r
  | none::r=>match trimH' r with
    | []=>[]
    | x::r'=>none::x::r'
theorem JB:∀(h:List (Option Ob)) (i:Nat) (o:Ob),(eSegs.trimH' h)[i]?=some (some o)↔h[i]?=some (some o)
  | [],i,o=>by simp [eSegs.trimH']
  | some x::r,0,o=>by simp [eSegs.trimH']
  | some x::r,i+1,o=>by simpa [eSegs.trimH'] using JB r i o
  | none::r,i,o=>by
    have ih:=fun i=>JB r i o
    unfold eSegs.trimH'
    cases ht:eSegs.trimH' r with
    | nil=>
      rw [ht] at ih
      cases i with
      | zero=>simp
      | succ i=>have:=ih i;simp at this ⊢;exact this
    | cons x r'=>
      rw [ht] at ih
      cases i with
      | zero=>simp
      | succ i=>have:=ih i;simpa using this
theorem Uf {h:List (Option Ob)} {id:Nat} (hid:h[id]?=some none) (ob:Ob):h.take id++(Aj (Bn id h) ob).drop id=h.set id (some ob):=by
  rw [Y2 hid]
  have hlt:=(List.getElem?_eq_some_iff.1 hid).1
  have hl:((h.take id).map Gc).length=id:=by simp;omega
  rw [List.drop_append_of_le_length (by omega),List.drop_eq_nil_of_le (by omega),List.nil_append,List.set_eq_take_append_cons_drop,if_pos hlt]
theorem ZD {σ:ES} {o:Oper} (h:Wj σ o.op=true):Hf o σ.st:=by
  unfold Wj at h
  unfold Hf
  split at h
  . rename_i ho;simp only [ho]
  . rename_i ho;simp only [ho]
  . rename_i ho;simp only [ho]
  . rename_i c ho
    simp only [ho]
    split at h
    . rename_i h1 h2 h3
      simp only [h1,h2,h3]
      rw [Av]
      split at h
      . assumption
      . cases h
    . cases h
  . cases h
theorem ZE (hE:EOk T C) {ops:Array Oper} {base:Nat} {o:Oper} {q:Option Nat} {K:ES→Prop} {σ:ES} (hw:BJ ops o σ.st=some true) (h:Ue T C base o q K σ):
    ∃r ob σ',Ub C ops o r ob (base+q.getD 0) σ.st∧(ob≠none→q≠none)∧(q≠none→ob≠none)∧σ'.st=(DK σ.st (base+q.getD 0) ob).put o.dst r∧K σ':=by
  unfold Ue at h
  cases q with
  | none=>
    simp only at h
    split at h
    . rename_i hb
      obtain ⟨r,⟨σ1,e,h1⟩,h2⟩:=E6 ((Fg hE.all h).2 rfl hb)
      rw [HW,DN] at h1
      exact ⟨r,none,σ1.put o.dst r,.inl ⟨hw,h2 _ σ.st (fun _ _=>rfl) rfl ⟨rfl,rfl⟩⟩,fun h=>absurd rfl h,fun h=>absurd rfl h,by rw [←FO,←e];rfl,h1⟩
    . exact h.elim
  | some p=>
    simp only at h
    split at h
    . rename_i fop args hcv
      split at h
      . rename_i f caps hf
        rw [K6,K7] at h
        obtain ⟨x,hx,h⟩:=Bx h
        split at h
        . obtain ⟨m,z,els,hb,hfr,h⟩:=h.out
          rw [BB,Cu,DN] at h
          refine ⟨.sl (base+p) 0 m,some (.row z els),_,⟨hw,hx,.inr ?_⟩,fun _=>by simp,fun _=>by simp,?_,h⟩
          . unfold TN at hcv
            split at hcv
            . rename_i c ho
              obtain ⟨callee,as,ts⟩:=c
              simp only at hcv
              split at hcv
              . simp only [Option.some.injEq,Prod.mk.injEq] at hcv
                obtain ⟨rfl,rfl⟩:=hcv
                refine ⟨_,as,ts,f,caps,m,z,els,ho,by rw [Av];exact hf,hb,?_,rfl,rfl⟩
                rw [show σ.st.val=σ.val from funext (Av σ)]
                exact hfr
              . cases hcv
            . cases hcv
          . rw [←FO];rfl
        . exact h.elim
      . exact h.elim
    split at h
    . rename_i hm
      rw [K7] at h
      obtain ⟨x,hx,h⟩:=Bx h
      split at h
      . rw [BB,Cu] at h
        have hS:=(Fg hE.all h).1
        have hmk:=ZD hm
        have hst:(⟨σ.n,σ.u,Bn (base+p) σ.heap⟩:ES).st=⟨σ.st.env,Bn (base+p) σ.st.heap⟩:=rfl
        rw [hst] at hS
        obtain ⟨r,ob,⟨σ1,e,h1⟩,h2⟩:=TF (I9 _ (show Hf o ⟨σ.st.env,σ.st.heap⟩ from hmk)) hS
        rw [HW,BB,Cu,DN] at h1
        have e1:σ.st.env=σ1.env:=congrArg (fun s:St=>s.env) e
        have e2:Aj (Bn (base+p) σ.heap) ob=σ1.heap:=congrArg (fun s:St=>s.heap) e
        refine ⟨r,some ob,_,⟨hw,hx,.inl ⟨hmk,(h2 (fun r' s'=>r'=r∧s'=⟨σ.st.env,Aj (Bn (base+p) σ.st.heap) ob⟩) _ (fun _ _=>rfl) (.inl fun _ _ _ h=>h) rfl ⟨rfl,rfl⟩).1⟩⟩,fun _=>by simp,fun _=>by simp,?_,h1⟩
        rw [←FO]
        congr 1
        show (⟨σ1.env,_⟩:St)=⟨σ.st.env,σ.heap.set (base+p) (some ob)⟩
        rw [e1,←e2,Uf hx]
      . exact h.elim
    . exact h.elim
theorem Wm (hE:EOk T C) {ops:Array Oper} {base i:Nat} {q:Option Nat} {K:ES→Prop} {σ:ES} (h:cU T C ops.toList base i q K σ):
    ∃o r ob σ',ops[i]?=some o∧Ub C ops o r ob (base+q.getD 0) σ.st∧(ob≠none→q≠none)∧(q≠none→ob=none→BJ ops o σ.st=some false)∧σ'.st=(DK σ.st (base+q.getD 0) ob).put o.dst r∧K σ':=by
  obtain ⟨o,ho,h⟩:=Bx h
  rw [Array.getElem?_toList] at ho
  have run:BJ ops o σ.st=some true→Ue T C base o q K σ→∃o r ob σ',ops[i]?=some o∧Ub C ops o r ob (base+q.getD 0) σ.st∧(ob≠none→q≠none)∧(q≠none→ob=none→BJ ops o σ.st=some false)∧σ'.st=(DK σ.st (base+q.getD 0) ob).put o.dst r∧K σ':=fun hw h=>by
    obtain ⟨r,ob,σ',a,b,c',c,d⟩:=ZE hE (ops:=ops) hw h
    exact ⟨o,r,ob,σ',ho,a,b,fun hq hn=>absurd hn (c' hq),c,d⟩
  have skip:BJ ops o σ.st=some false→K (σ.put o.dst (.tup []))→∃o r ob σ',ops[i]?=some o∧Ub C ops o r ob (base+q.getD 0) σ.st∧(ob≠none→q≠none)∧(q≠none→ob=none→BJ ops o σ.st=some false)∧σ'.st=(DK σ.st (base+q.getD 0) ob).put o.dst r∧K σ':=fun hw h=>
    ⟨o,.tup [],none,_,ho,.inr ⟨hw,rfl⟩,fun h=>absurd rfl h,fun _ _=>hw,by rw [←FO];rfl,h⟩
  simp only [DN] at h
  split at h
  . rename_i hg
    exact run (by simp [BJ,hg]) h
  . rename_i j want hg
    rw [JA] at h
    split at h
    . rename_i b hb
      cases want with
      | true=>
        rcases Dp h with ⟨rfl,h⟩|⟨rfl,h⟩
        . exact run (by simp [BJ,hg,hb]) h
        . exact skip (by simp [BJ,hg,hb]) h
      | false=>
        rcases Dp h with ⟨rfl,h⟩|⟨rfl,h⟩
        . exact skip (by simp [BJ,hg,hb]) h
        . exact run (by simp [BJ,hg,hb]) h
    . rename_i l hb
      exact skip (by simp [BJ,hg,hb]) h
    . exact h.elim
theorem Iqz (hE:EOk T C) {ops:Array Oper} {base:Nat} {K:ES→Prop} {K':St→Prop} (hK:∀σ:ES,K σ→K' σ.st):∀(seg:List (Nat×Option Nat)) (σ:ES),Wk T C ops.toList base K seg σ→
    ∃ent:List Ent,ent.map (fun e=>(e.i,e.q))=seg∧C6 C ops base ent σ.st K'
  | [],σ,h=>⟨[],rfl,hK σ h⟩
  | (i,q)::r,σ,h=>by
    obtain ⟨o,x,ob,σ',ho,hy,hq,hsk,hst,h2⟩:=Wm hE h
    obtain ⟨ent,h3,h4⟩:=Iqz hE hK r σ' h2
    refine ⟨⟨i,q,x,ob⟩::ent,by simp [h3],⟨o,ho,hy,hq,hsk⟩,?_⟩
    have:GG ops base σ.st ⟨i,q,x,ob⟩=σ'.st:=by
      unfold GG
      have:BC ops i=o.dst:=by unfold BC;rw [ho];rfl
      simp only [this]
      exact hst.symm
    rw [this]
    exact h4
theorem Fj {ops:Array Oper} {σ0:ES} {n:Nat} {h:List (Option Ob)}:∀(U:List Nat) (u:List (Nat×V)) (K:List (Nat×V)→Prop),Hk ops.toList σ0 U u K→∃u',K u'∧ES.env ⟨n,u',h⟩=CD ops σ0.env U (ES.env ⟨n,u,h⟩)
  | [],u,K,hk=>⟨u,hk,rfl⟩
  | i::U,u,K,hk=>by
    unfold Hk at hk
    unfold CD
    split at hk
    . rename_i o ho
      rw [Array.getElem?_toList] at ho
      have hd0:BC ops i=o.dst:=by unfold BC;rw [ho];rfl
      split at hk
      . rename_i d hd
        rw [OB] at hk
        obtain ⟨u',h1,h2⟩:=Fj U u _ hk
        refine ⟨_,h1,?_⟩
        rw [K4,h2]
        simp only [hd0,hd,Fs]
      . rename_i hd
        obtain ⟨u',h1,h2⟩:=Fj U u _ hk
        refine ⟨u',h1,?_⟩
        simp only [hd0,hd]
        exact h2
    . rename_i ho
      rw [Array.getElem?_toList] at ho
      have hd0:BC ops i=none:=by unfold BC;rw [ho];rfl
      obtain ⟨u',h1,h2⟩:=Fj U u _ hk
      refine ⟨u',h1,?_⟩
      simp only [hd0]
      exact h2
theorem RY {stop:Bool} {K:ES→Prop} {σ:ES} (h:TO C stop K σ):UpE C K σ:=by
  cases stop with
  | true=>exact h.out
  | false=>exact ⟨Bg ⟨σ,rfl,h⟩⟩
theorem IP (hE:EOk T C) {ops:Array Oper} {K:ES→Prop}:∀(plan:List Sg) (lf:List Nat) (σ:ES),eSegs T C ops.toList K plan lf σ→Pi C ops (fun s=>∃h:List (Option Ob),(∀(i:Nat) (o:Ob),h[i]?=some (some o)↔s.heap[i]?=some (some o))∧Ks K ⟨s.env,h⟩) plan lf σ.st
  | [],lf,σ,h=>by
    simp only [eSegs,BB,Cu] at h
    exact ⟨_,JB σ.heap,⟨_,rfl,h⟩⟩
  | g::r,lf,σ,h=>by
    rw [eSegs,K7,BB,Cu] at h
    refine Iqz hE (fun σ2 h2=>?_) (C5 g.ql lf g.seg) _ h
    cases hb:g.bar with
    | none=>
      simp only [hb] at h2
      exact IP hE r [] σ2 h2
    | some b=>
      simp only [hb] at h2
      obtain ⟨o,ho,h2⟩:=Bx h2
      rw [Array.getElem?_toList] at ho
      rw [TP] at h2
      intro U hU
      obtain ⟨u2,h3,he⟩:=Fj (n:=σ2.n) (h:=σ2.heap) U σ2.u _ (LS h2 U hU)
      rw [BB] at h3
      have hst:FA ops σ.st.env (C5 g.ql lf g.seg) σ.st.heap.length U σ2.st=(⟨σ2.n,u2,Bd (C5 g.ql lf g.seg) σ.heap.length U σ2.heap⟩:ES).st:=by
        unfold FA ES.st
        congr 1
        exact he.symm
      have hS:=(Fg hE.all h3).1
      rw [←hst] at hS
      refine ⟨o,_,ho,hS,?_⟩
      rintro x s'' ⟨σ',rfl,h3⟩
      rw [HW,DN] at h3
      rw [FO]
      refine YY (RY h3).out ?_
      rintro s4 ⟨σ4,rfl,h4⟩
      exact IP hE r U σ4 h4
theorem DO (hE:EOk T C) {ops:Array Oper} {K:ES→Prop} {σ:ES} (plan:List Sg) (hp:(Hh ops (Eg ops) 0 [] plan&&Nat.ble (NN plan) ops.size&&plan.all (fun g=>decide g.opt.Nodup))=true) (h:eSegs T C ops.toList K plan [] σ):DrawN T C ops K σ:=by
  refine ⟨fun id a w hr=>?_⟩
  obtain ⟨I,bl,hp'⟩:=hr.parts
  have hp'':RP C σ.st a { w with drawn:=w.drawn+1} I bl:=hp'.drew
  refine wp_region_any hE.any ?_
  rw [Bool.and_eq_true,Bool.and_eq_true,Nat.ble_eq] at hp
  refine IM (fun s a w hr hk=>?_) plan 0 [] hp.1.1 hp.2 (fun j o ho h=>by simp at h) (fun j h=>by simp at h) σ.st (IP hE plan [] σ h) ops.size (Array.replicate ops.size false) (by simpa using hp.1.2) GX (by simp) (fun j=>by
    by_cases hj:j < ops.size<;>simp [Array.getD,hj]) a _ hp''.rel
  obtain ⟨h',he,σ',hs,hk⟩:=hk
  refine ⟨⟨s.env,h'⟩,⟨rfl,σ',hs,hk⟩,Fi hr (fun k x hx=>.inl ((he k x).1 hx)) (fun k x hx=>.inl ((he k x).2 hx))⟩
end
end Go.Proofs.YtkaiffheakalmaaGreatDoor
