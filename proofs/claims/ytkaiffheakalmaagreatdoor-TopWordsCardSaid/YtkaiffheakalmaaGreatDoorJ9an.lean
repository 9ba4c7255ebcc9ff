/- Joined. No conditions. -/
import Derived.Test.YtkaiffheakalmaaGreatDoorJ9am
import Derived.Scope
set_option linter.unusedSimpArgs false
set_option linter.unusedVariables false
set_option maxRecDepth 100000
namespace Go.Proofs.YtkaiffheakalmaaGreatDoor
open Go.RowKit
def J8 (ops:List Oper) (σ:ES) (j:Nat):V:=match ops[j]? with
 | some o=>(match o.dst with|some t=>σ.get t|none=>.any)
 | none=>.any
theorem GF (ops:Array Oper) (σ:ES) (j:Nat):J8 ops.toList σ j=Ct ops σ.st j:=by
 unfold J8 Ct
 rw [Array.getElem?_toList]
 cases ops[j]? with
 | none=>rfl
 | some o=>
   simp only [Option.bind_some]
   cases o.dst with
   | none=>rfl
   | some t=>exact (GW σ t).symm
def E0 (σ:ES) (d:Option Tmp) (r:V) (K:ES→Prop):Prop:=match d with
 | none=>K σ
 | some d=>match σ with|⟨n,u,h⟩=>K ⟨n,(d,r)::u,h⟩
theorem CN (σ:ES) (d:Option Tmp) (r:V) (K:ES→Prop):E0 σ d r K=K (σ.put d r):=by cases d<;>rfl
def en:Op→Bool
 | .call c=>(match c.callee with|.value _=>true|_=>false)
 | _=>false
def Ys (q:Bool) (all:List Oper) (n:Nat) (o:Oper):Bool:=match q with
 | false=>false
 | true=>match en o.op with
   | false=>true
   | true=>match o.guard with
     | none=>!J0 .any all.toArray (all.length - n)
     | some _=>true
theorem Wd {ops:Array Oper} {n k:Nat} {o:Oper} (hk:ops.size - n=k) (h:Ys true ops.toList n o=false):o.guard=none∧J0 .any ops k=true:=by
 unfold Ys at h
 simp only at h
 split at h
 ·cases h
 ·split at h
  ·rename_i hg
   refine ⟨hg,?_⟩
   simp only [Array.length_toList,hk] at h
   simpa using h
  ·cases h
def HL (T:TT) (C:Ctx) (q:Bool) (all:List Oper) (K:ES→Prop):List Oper→ES→Prop
 | [],σ=>K σ
 | o::rest,σ=>match o.guard with
   | none=>BF T C (Ys q all (rest.length+1) o) o.op (fun r σ'=>fV r fun r=>E0 σ' o.dst r fun σ''=>HL T C q all K rest σ'') σ
   | some (j,want)=>match J8 all σ j with
     | .bool b=>(match want with
       | true=>Br b (BF T C (Ys q all (rest.length+1) o) o.op (fun r σ'=>fV r fun r=>E0 σ' o.dst r fun σ''=>HL T C q all K rest σ'') σ) (E0 σ o.dst (.tup []) fun σ''=>HL T C q all K rest σ'')
       | false=>Br b (E0 σ o.dst (.tup []) fun σ''=>HL T C q all K rest σ'') (BF T C (Ys q all (rest.length+1) o) o.op (fun r σ'=>fV r fun r=>E0 σ' o.dst r fun σ''=>HL T C q all K rest σ'') σ))
     | .tup _=>E0 σ o.dst (.tup []) fun σ''=>HL T C q all K rest σ''
     | _=>False
def MR (ops:Array Oper):Bool:=Region.lexB .any ops&&(List.range ops.size).all fun i=>match ops[i]? with
 | some o=>!Es o.op || (o.guard.isNone&&J0 .any ops i)
 | none=>true
def Bl:Code→Bool
 | .seq x y=>Bl x&&Bl y
 | .cond _ x y=>Bl x&&Bl y
 | .block _ c=>Bl c
 | .loop c=>Bl c
 | .scope c=>Bl c
 | _=>true
def Ks (K:ES→Prop):St→Prop:=fun s=>∃σ:ES,s=σ.st∧K σ
def gY (Q:Exit→ES→Prop):Exit→St→Prop:=fun e s=>∃σ:ES,s=σ.st∧Q e σ
structure LoopE (T:TT) (C:Ctx) (c:Code) (Q:Exit→ES→Prop) (σ:ES):Prop where
 out:PP C (.loop c) (gY Q) σ.st
structure DrawN (T:TT) (C:Ctx) (ops:Array Oper) (Q:ES→Prop) (σ:ES):Prop where
 out:∀id,PP C (.region id ops true) (fun e s=>e= .normal∧Ks Q s) σ.st
structure UpE (C:Ctx) (K:ES→Prop) (σ:ES):Prop where
 out:Up C (Ks K) σ.st
def Ea (T:TT) (C:Ctx):Code→(Exit→ES→Prop)→ES→Prop
 | .skip,Q,σ=>Q .normal σ
 | .label _,Q,σ=>Q .normal σ
 | .region _ ops draw,Q,σ=>match draw with
   | false=>HL T C false ops.toList (Q .normal) ops.toList σ
   | true=>DrawN T C ops (Q .normal) σ
 | .seq x y,Q,σ=>Ea T C x (fun e σ'=>match e with
   | .normal=>Ea T C y Q σ'
   | e=>Q e σ') σ
 | .cond c x y,Q,σ=>jr (σ.val c) fun b=>Br b (Ea T C x Q σ) (Ea T C y Q σ)
 | .block id c,Q,σ=>Ea T C c (fun e σ'=>match e with
   | .exit id'=>(match Nat.beq id' id with|true=>Q .normal σ'|false=>Q (.exit id') σ')
   | e=>Q e σ') σ
 | .loop c,Q,σ=>LoopE T C c Q σ
 | .scope c,Q,σ=>Ea T C c (fun e σ'=>match e with
   | .goto _=>False
   | e=>Q e σ') σ
 | .exit id,Q,σ=>Q (.exit id) σ
 | .ret,Q,σ=>Q .ret σ
 | _,_,_=>False
structure EOk (T:TT) (C:Ctx):Prop where
 all:T.All C.P
 any:C.P.follows .mixedOrders=true
def RR (C:Ctx) (o:Oper) (σ:St) (K:V→St→Prop):Prop:=∃K0,DJ C o σ K0∧∀r s,K0 r s→K r s
theorem RS {C:Ctx} (o:Oper) (σ:St) (K:V→St→Prop) (h:RR C o σ K):Bc C o σ K:=by
 obtain ⟨K0,h1,h2⟩:=h
 intro a w hr next Q hn
 exact DT o σ K0 h1 a w hr next Q fun v w' r σ' hk hx=>hn v w' r σ' (h2 r σ' hk) hx
section
variable {T:TT} {C:Ctx}
theorem IZ (hE:EOk T C) {ops:Array Oper} {q:Bool} {K:ES→Prop}:∀(l:List Oper) (σ:ES),HL T C q ops.toList K l σ→LA C (RR C) ops (Ks K) l σ.st
 | [],σ,h=>⟨σ,rfl,h⟩
 | o::rest,σ,h=>by
   have hstep:BF T C (Ys q ops.toList (rest.length+1) o) o.op (fun r σ'=>fV r fun r=>E0 σ' o.dst r fun σ''=>HL T C q ops.toList K rest σ'') σ→RR C o σ.st (X5 o.dst (LA C (RR C) ops (Ks K) rest)):=by
    intro h
    refine ⟨_,(Dj hE.all h).1,?_⟩
    rintro r s ⟨σ',rfl,h2⟩
    rw [GA,CN] at h2
    unfold X5
    rw [DU]
    exact IZ hE rest _ h2
   have hskip:HL T C q ops.toList K rest (σ.put o.dst (.tup []))→LA C (RR C) ops (Ks K) rest (σ.st.put o.dst (.tup [])):=by
    intro h
    rw [DU]
    exact IZ hE rest _ h
   simp only [HL,CN σ] at h
   simp only [LA]
   split at h
   ·rename_i hg
    simp only [hg]
    exact hstep h
   ·rename_i j want hg
    simp only [hg]
    rw [GF] at h
    split at h
    ·rename_i b hb
     simp only [hb]
     cases want with
     | true=>
       rcases Cu h with ⟨rfl,h⟩|⟨rfl,h⟩
       ·exact ⟨fun _=>hstep h,fun e=>absurd rfl e⟩
       ·exact ⟨fun e=>(by cases e),fun _=>hskip h⟩
     | false=>
       rcases Cu h with ⟨rfl,h⟩|⟨rfl,h⟩
       ·exact ⟨fun e=>(by cases e),fun _=>hskip h⟩
       ·exact ⟨fun _=>hstep h,fun e=>absurd rfl e⟩
    ·rename_i l hb
     simp only [hb]
     exact hskip h
    ·exact h.elim
theorem TW {ops:Array Oper} (h:MR ops=true) {i:Nat} {o:Oper} (ho:ops[i]?=some o) (hb:Es o.op=true):o.guard=none∧J0 .any ops i=true:=by
 simp only [MR,Bool.and_eq_true,List.all_eq_true,List.mem_range] at h
 have hlt:i < ops.size:=(Array.getElem?_eq_some_iff.1 ho).1
 have:=h.2 i hlt
 rw [ho] at this
 simpa [hb] using this
theorem MS (hE:EOk T C) {ops:Array Oper} (hd:MR ops=true) {K:ES→Prop}:∀(l:List Oper) (k:Nat) (listed:Array Bool) (σ:ES),CB .any ops listed→(∀j < k,listed.getD j false=true)→listed.size=ops.size→k+l.length=ops.size→(∀j,l[j]?=ops[k+j]?)→
 Region.lexFrom .any ops l.length k listed=true→HL T C true ops.toList K l σ→HD C .any ops (Ks K) l.length listed σ.st
 | [],_,_,σ,hc,_,_,hsz,hl,hB,h=>⟨by simpa [Region.lexFrom] using hB,⟨σ,rfl,h⟩⟩
 | o::l,k,listed,σ,hc,hpre,hls,hsz,hl,hB,h=>by
   have h0:ops[k]?=some o:=by simpa using (hl 0).symm
   simp only [List.length_cons,Region.lexFrom,Bool.and_eq_true] at hB
   obtain ⟨⟨hr,hf⟩,hB'⟩:=hB
   have hr:k∈Region.ready .any ops listed:=by simpa using hr
   simp only [List.length_cons] at hsz
   have hl':∀j,l[j]?=ops[k+1+j]?:=fun j=>by have:=hl (j+1);simpa [Nat.add_assoc,Nat.add_comm 1 j] using this
   have hY:∀r (σ':ES),σ.st=σ'.st→YA C ops o r σ.st→HL T C true ops.toList K l (σ'.put o.dst r)→HD C .any ops (Ks K) (l.length+1) listed σ.st:=by
    intro r σ' e hy hK
    refine PZ h0 l.length listed σ.st hc (Region.free_spec h0 hf) hr hy ?_
    rw [e,DU]
    exact MS hE hd l (k+1) _ _ (D1 hc hr) (U1 hpre (by rw [hls,←hsz];omega)) (by rw [Array.size_setIfInBounds,hls]) (by omega) hl' hB' hK
   have hbar:(Es o.op=true∨Ys true ops.toList (l.length+1) o=false)→o.guard=none∧J0 .any ops k=true:=fun h=>by
    rcases h with h|h
    ·exact TW hd h0 h
    ·exact Wd (by omega) h
   have hgo:As ops o σ.st=some true→BF T C (Ys true ops.toList (l.length+1) o) o.op (fun r σ'=>fV r fun r=>E0 σ' o.dst r fun σ''=>HL T C true ops.toList K l σ'') σ→HD C .any ops (Ks K) (l.length+1) listed σ.st:=by
    intro hw hs
    have hok:=Dj hE.all hs
    by_cases hb:Es o.op=true∨Ys true ops.toList (l.length+1) o=false
    ·have hbar:=hbar hb
     refine ⟨fun h=>(by rw [h] at hr;cases hr),fun j hj=>?_⟩
     have hjk:=YN hbar.2 hc hpre hr hj
     subst hjk
     unfold qOpA
     simp only [h0]
     refine .inr ⟨hbar.1,hbar.2,_,hok.1,?_⟩
     rintro r s ⟨σ',rfl,hk⟩
     rw [GA,CN] at hk
     rw [DU]
     exact MS hE hd l (j+1) _ _ (D1 hc hr) (U1 hpre (by rw [hls,←hsz];omega)) (by rw [Array.size_setIfInBounds,hls]) (by omega) hl' hB' hk
    ·have hb1:Es o.op=false:=by
      cases h:Es o.op with
      | false=>rfl
      | true=>exact absurd (.inl h) hb
     have hb2:Ys true ops.toList (l.length+1) o=true:=by
      cases h:Ys true ops.toList (l.length+1) o with
      | true=>rfl
      | false=>exact absurd (.inr h) hb
     obtain ⟨r,h1,h2⟩:=EY (hok.2 hb2 hb1)
     obtain ⟨σ',e,h1⟩:=h1
     rw [GA,CN] at h1
     exact hY r σ' e (.inl ⟨hw,h2 _ σ.st (fun _ _=>rfl) rfl ⟨rfl,rfl⟩⟩) h1
   have hskip:As ops o σ.st=some false→HL T C true ops.toList K l (σ.put o.dst (.tup []))→HD C .any ops (Ks K) (l.length+1) listed σ.st:=
    fun hw hk=>hY _ σ rfl (.inr ⟨hw,rfl⟩) hk
   simp only [HL,CN σ] at h
   split at h
   ·rename_i hg
    exact hgo (by simp [As,hg]) h
   ·rename_i j want hg
    rw [GF] at h
    split at h
    ·rename_i b hb
     cases want with
     | true=>
       rcases Cu h with ⟨rfl,h⟩|⟨rfl,h⟩
       ·exact hgo (by simp [As,hg,hb]) h
       ·exact hskip (by simp [As,hg,hb]) h
     | false=>
       rcases Cu h with ⟨rfl,h⟩|⟨rfl,h⟩
       ·exact hskip (by simp [As,hg,hb]) h
       ·exact hgo (by simp [As,hg,hb]) h
    ·rename_i l' hb
     exact hskip (by simp [As,hg,hb]) h
    ·exact h.elim
theorem An (hE:EOk T C) {ops:Array Oper} {K:ES→Prop} {σ:ES} (hd:MR ops=true) (h:HL T C true ops.toList K ops.toList σ):DrawN T C ops K σ:=by
 refine ⟨fun id a w hr=>?_⟩
 have hB:=hd
 simp only [MR,Region.lexB,Bool.and_eq_true] at hB
 obtain ⟨I,bl,hp⟩:=hr.parts
 have hp':RP C σ.st a { w with drawn:=w.drawn+1} I bl:=hp.drew
 refine wp_region_any hE.any (L2 (Q:=Ks K) (fun s a w h1 h2=>⟨s,⟨rfl,h2⟩,h1⟩) _ _ σ.st a _ hp'.rel ?_)
 have:=MS hE hd ops.toList 0 (Array.replicate ops.size false) σ Fe (fun j hj=>absurd hj (Nat.not_lt_zero _)) (by simp) (by simp) (by simp) (by simpa using hB.1.2) h
 simpa using this
theorem Aq {Q:Exit→ES→Prop} {e:Exit} {σ:ES} (h:Q e σ):gY Q e σ.st:=⟨σ,rfl,h⟩
theorem HM (hE:EOk T C):∀(c:Code),Bl c=true→∀(Q:Exit→ES→Prop) (σ:ES),Ea T C c Q σ→PP C c (gY Q) σ.st:=by
 intro c
 induction c with
 | skip=>exact fun _ Q σ h=>X2 (Aq h)
 | label l=>exact fun _ Q σ h a w hr=>wp_label ⟨σ.st,Aq h,hr⟩
 | region id ops draw=>
   intro hc Q σ h
   cases draw with
   | false=>
     intro a w hr
     refine wp_region ?_
     have:=Ll (Q:=fun e a' w'=>∃σ',gY Q e σ'∧Rel C σ' a' w') (K:=Ks (Q .normal)) RS (fun s a w h1 h2=>by obtain ⟨σ',rfl,h1⟩:=h1;exact ⟨_,Aq h1,h2⟩) ops.toList 0 (fun j=>by simp) σ.st a w (IZ hE _ _ h) hr
     simpa [List.range_eq_range'] using this
   | true=>
     refine Ix (DrawN.out h id) ?_
     rintro e s ⟨rfl,σ',rfl,h⟩
     exact Aq h
 | seq x y ihx ihy=>
   intro hc Q σ h
   simp only [Bl,Bool.and_eq_true] at hc
   refine bK (Ix (ihx hc.1 _ _ h) ?_)
   rintro e s ⟨σ',rfl,h⟩
   cases e with
   | normal=>exact ihy hc.2 _ _ h
   | exit id=>exact Aq h
   | goto l=>exact Aq h
   | ret=>exact Aq h
   | panic ch=>exact Aq h
   | outgrown=>exact Aq h
 | cond c x y ihx ihy=>
   intro hc Q σ h
   simp only [Bl,Bool.and_eq_true] at hc
   obtain ⟨t,ht,h⟩:=Q9 h
   refine X4 t ?_ (fun e=>?_) (fun e=>?_)
   ·intro a w hr
    obtain ⟨I,bl,hp⟩:=hr.parts
    have:=hp.val c
    rw [Ao,ht] at this
    exact this.inv_bool
   ·subst e;exact ihx hc.1 _ _ h
   ·subst e;exact ihy hc.2 _ _ h
 | block id c ih=>
   intro hc Q σ h
   refine WA (Ix (ih hc _ _ h) ?_)
   rintro e s ⟨σ',rfl,h⟩
   cases e with
   | normal=>exact Aq h
   | exit id'=>
     simp only [Qn]
     simp only at h
     split at h
     ·rename_i hb
      rw [if_pos (D3 hb)]
      exact Aq h
     ·rename_i hb
      have:¬id'=id:=fun e=>by subst e;simp at hb
      rw [if_neg this]
      exact Aq h
   | goto l=>exact Aq h
   | ret=>exact Aq h
   | panic ch=>exact Aq h
   | outgrown=>exact Aq h
 | loop c _=>exact fun _ Q σ h=>h.out
 | exit id=>exact fun _ Q σ h=>X3 (Aq h)
 | ret=>exact fun _ Q σ h=>bJ (Aq h)
 | rangeFunc f ps as b _ _=>exact fun _ Q σ h=>h.elim
 | scope b ih=>
   intro hc Q σ h a w hr
   refine wp_scope_straight (Code.wp_mono ?_ (ih hc _ _ h a w hr))
   rintro e a' w' ⟨_,⟨σ',rfl,h⟩,hr'⟩
   cases e with
   | goto l=>exact h.elim
   | normal=>exact ⟨_,Aq h,hr'⟩
   | exit id=>exact ⟨_,Aq h,hr'⟩
   | ret=>exact ⟨_,Aq h,hr'⟩
   | panic ch=>exact ⟨_,Aq h,hr'⟩
   | outgrown=>exact ⟨_,Aq h,hr'⟩
 | goto l=>exact fun _ Q σ h=>h.elim
 | refuse s=>exact fun _ Q σ h=>h.elim
def VI (σ:ES) (op:Op):Bool:=match op with
 | .alloc _=>true
 | .makeSlice _ _ _=>true
 | .buildSlice _ _ _=>true
 | .call c=>(match c.callee,c.args.toList,c.argTypes.toList with
   | .builtin .append,[s0,_],[_,_]=>(match σ.val s0 with|.nils=>true|_=>false)
   | _,_,_=>false)
 | _=>false
structure CallNM (C:Ctx) (f:FuncId) (xs:List V) (K:Nat→Nat→List V→Prop):Prop where
 out:∃m z els,AB C.P f=true∧Ym C f xs m z els∧K m z els
structure SegUp (C:Ctx) (K:ES→Prop) (σ:ES):Prop where
 out:UpE C K σ
def LT (op:Op):Option (Operand×List Operand):=match op with
 | .call c=>(match c.callee with|.value f=>some (f,c.args.toList)|_=>none)
 | _=>none
def We (T:TT) (C:Ctx) (base:Nat) (o:Oper) (q:Option Nat) (K:ES→Prop) (σ:ES):Prop:=
 match q with
 | none=>(match Es o.op with
   | false=>BF T C true o.op (fun r σ'=>fV r fun r=>E0 σ' o.dst r K) σ
   | true=>False)
 | some p=>(match LT o.op with
  | some (fop,args)=>(match σ.val fop with
   | .fn f caps=>dr (args.map σ.val) fun xs=>nF (base+p) fun id=>Nq σ.heap[id]? fun x=>(match x with
     | none=>CallNM C f (xs++caps) fun m z els=>fH (σ.heap.set id (some (.row z els))) fun h'=>Er σ h' fun σ''=>E0 σ'' o.dst (.sl id 0 m) K
     | some _=>False)
   | _=>False)
  | none=>(match VI σ o.op with
   | true=>nF (base+p) fun id=>Nq σ.heap[id]? fun x=>(match x with
     | none=>fH (Bb id σ.heap) fun h=>Er σ h fun σp=>BF T C false o.op (fun r σ'=>fV r fun r=>fH (σ.heap.take id++σ'.heap.drop id) fun h'=>Er σ' h' fun σ''=>E0 σ'' o.dst r K) σp
     | some _=>False)
   | false=>False))
def dz (T:TT) (C:Ctx) (all:List Oper) (base i:Nat) (q:Option Nat) (K:ES→Prop) (σ:ES):Prop:=
 Nq all[i]? fun o=>match o.guard with
  | none=>We T C base o q K σ
  | some (j,want)=>match J8 all σ j with
    | .bool b=>(match want with
      | true=>Br b (We T C base o q K σ) (E0 σ o.dst (.tup []) K)
      | false=>Br b (E0 σ o.dst (.tup []) K) (We T C base o q K σ))
    | .tup _=>E0 σ o.dst (.tup []) K
    | _=>False
def Yt (T:TT) (C:Ctx) (all:List Oper) (base:Nat) (K:ES→Prop):List (Nat×Option Nat)→ES→Prop
 | [],σ=>K σ
 | (i,q)::r,σ=>dz T C all base i q (fun σ'=>Yt T C all base K r σ') σ
structure Both (A B:Prop):Prop where
 l:A
 r:B
def Yu (l:List (List Nat)) (P:List Nat→Prop):Prop:=List.rec (motive:=fun _=>Prop) True (fun U r ih=>List.rec (motive:=fun _=>Prop) (P U) (fun _ _ _=>Both (P U) ih) r) l
theorem JJ {P:List Nat→Prop}:∀{l:List (List Nat)},Yu l P→∀U∈l,P U
 | [],_,U,h=>by simp at h
 | [U],h,V,hV=>by
   rw [List.mem_singleton] at hV
   subst hV;exact h
 | U::V::r,h,W,hW=>by
   have h':Both (P U) (Yu (V::r) P):=h
   rcases List.mem_cons.1 hW with rfl|hW
   ·exact h'.l
   ·exact JJ h'.r W hW
def Pi (C:Ctx) (stop:Bool) (K:ES→Prop) (σ:ES):Prop:=match stop with
 | true=>SegUp C K σ
 | false=>K σ
def HN (all:List Oper) (σ0:ES):List Nat→List (Nat×V)→(List (Nat×V)→Prop)→Prop
 | [],u,K=>K u
 | i::U,u,K=>match all[i]? with
   | some o=>(match o.dst with
     | some d=>gX (σ0.get d) fun v=>HN all σ0 U u fun u'=>K ((d,v)::u')
     | none=>HN all σ0 U u K)
   | none=>HN all σ0 U u K
def je:List Nat→(List Nat→Prop)→Prop
 | [],K=>K []
 | i::r,K=>nF i fun i=>je r fun r=>K (i::r)
def Yv:List (List Nat)→(List (List Nat)→Prop)→Prop
 | [],K=>K []
 | U::r,K=>je U fun U=>Yv r fun r=>K (U::r)
theorem Yw:∀(l:List Nat) (K:List Nat→Prop),je l K=K l
 | [],K=>rfl
 | i::r,K=>by unfold je;rw [MD,Yw r]
theorem Pj:∀(l:List (List Nat)) (K:List (List Nat)→Prop),Yv l K=K l
 | [],K=>rfl
 | U::r,K=>by unfold Yv;rw [Yw,Pj r]
def eSegs (T:TT) (C:Ctx) (all:List Oper) (K:ES→Prop):List Sg→List Nat→ES→Prop
 | [],_,σ=>fH (trimH' σ.heap) fun h=>Er σ h K
 | g::r,lf,σ=>nF σ.heap.length fun base=>fH (σ.heap++List.replicate g.M none) fun h=>Er σ h fun σ1=>Yt T C all base (fun σ2=>match g.bar with
   | none=>eSegs T C all K r [] σ2
   | some b=>Nq all[b]? fun o=>Yv (X0 g lf) fun us=>Yu us fun U=>HN all σ U σ2.u fun u2=>fH (BZ (B4 g.ql lf g.seg) base U σ2.heap) fun h2=>BF T C false o.op (fun x σ'=>fV x fun x=>E0 σ' o.dst x fun σ''=>Pi C (!(r.isEmpty&&U.isEmpty)) (fun σ3=>eSegs T C all K r U σ3) σ'') ⟨σ2.n,u2,h2⟩) (B4 g.ql lf g.seg) σ1
where trimH':List (Option Ob)→List (Option Ob)
 | []=>[]
 | some o::r=>some o::trimH' r
 | none::r=>match trimH' r with
   | []=>[]
   | x::r'=>none::x::r'
theorem Hq:∀(h:List (Option Ob)) (i:Nat) (o:Ob),(eSegs.trimH' h)[i]?=some (some o)↔h[i]?=some (some o)
 | [],i,o=>by simp [eSegs.trimH']
 | some x::r,0,o=>by simp [eSegs.trimH']
 | some x::r,i+1,o=>by simpa [eSegs.trimH'] using Hq r i o
 | none::r,i,o=>by
   have ih:=fun i=>Hq r i o
   unfold eSegs.trimH'
   cases ht:eSegs.trimH' r with
   | nil=>
     rw [ht] at ih
     cases i with
     | zero=>simp
     | succ i=>have:=ih i;simp at this ⊢;exact this
   | cons x r'=>
     rw [ht] at ih
     cases i with
     | zero=>simp
     | succ i=>have:=ih i;simpa using this
theorem OZ {h:List (Option Ob)} {id:Nat} (hid:h[id]?=some none) (ob:Ob):h.take id++(Ag (Bb id h) ob).drop id=h.set id (some ob):=by
 rw [b7 hid]
 have hlt:=(List.getElem?_eq_some_iff.1 hid).1
 have hl:((h.take id).map HH).length=id:=by simp;omega
 rw [List.drop_append_of_le_length (by omega),List.drop_eq_nil_of_le (by omega),List.nil_append,List.set_eq_take_append_cons_drop,if_pos hlt]
theorem VJ {σ:ES} {o:Oper} (h:VI σ o.op=true):IC o σ.st:=by
 unfold VI at h
 unfold IC
 split at h
 ·rename_i ho;simp only [ho]
 ·rename_i ho;simp only [ho]
 ·rename_i ho;simp only [ho]
 ·rename_i c ho
  simp only [ho]
  split at h
  ·rename_i h1 h2 h3
   simp only [h1,h2,h3]
   rw [Ao]
   split at h
   ·assumption
   ·cases h
  ·cases h
 ·cases h
theorem cE (hE:EOk T C) {ops:Array Oper} {base:Nat} {o:Oper} {q:Option Nat} {K:ES→Prop} {σ:ES} (hw:As ops o σ.st=some true) (h:We T C base o q K σ):
 ∃r ob σ',RK C ops o r ob (base+q.getD 0) σ.st∧(ob≠none→q≠none)∧(q≠none→ob≠none)∧σ'.st=(Cs σ.st (base+q.getD 0) ob).put o.dst r∧K σ':=by
 unfold We at h
 cases q with
 | none=>
   simp only at h
   split at h
   ·rename_i hb
    obtain ⟨r,⟨σ1,e,h1⟩,h2⟩:=EY ((Dj hE.all h).2 rfl hb)
    rw [GA,CN] at h1
    exact ⟨r,none,σ1.put o.dst r,.inl ⟨hw,h2 _ σ.st (fun _ _=>rfl) rfl ⟨rfl,rfl⟩⟩,fun h=>absurd rfl h,fun h=>absurd rfl h,by rw [←DU,←e];rfl,h1⟩
   ·exact h.elim
 | some p=>
   simp only at h
   split at h
   ·rename_i fop args hcv
    split at h
    ·rename_i f caps hf
     rw [J2,MD] at h
     obtain ⟨x,hx,h⟩:=BW h
     split at h
     ·obtain ⟨m,z,els,hb,hfr,h⟩:=h.out
      rw [A7,Bx,CN] at h
      refine ⟨.sl (base+p) 0 m,some (.row z els),_,⟨hw,hx,.inr ?_⟩,fun _=>by simp,fun _=>by simp,?_,h⟩
      ·unfold LT at hcv
       split at hcv
       ·rename_i c ho
        obtain ⟨callee,as,ts⟩:=c
        simp only at hcv
        split at hcv
        ·simp only [Option.some.injEq,Prod.mk.injEq] at hcv
         obtain ⟨rfl,rfl⟩:=hcv
         refine ⟨_,as,ts,f,caps,m,z,els,ho,by rw [Ao];exact hf,hb,?_,rfl,rfl⟩
         rw [show σ.st.val=σ.val from funext (Ao σ)]
         exact hfr
        ·cases hcv
       ·cases hcv
      ·rw [←DU];rfl
     ·exact h.elim
    ·exact h.elim
   split at h
   ·rename_i hm
    rw [MD] at h
    obtain ⟨x,hx,h⟩:=BW h
    split at h
    ·rw [A7,Bx] at h
     have hS:=(Dj hE.all h).1
     have hmk:=VJ hm
     have hst:(⟨σ.n,σ.u,Bb (base+p) σ.heap⟩:ES).st=⟨σ.st.env,Bb (base+p) σ.st.heap⟩:=rfl
     rw [hst] at hS
     obtain ⟨r,ob,⟨σ1,e,h1⟩,h2⟩:=Pf (Hp _ (show IC o ⟨σ.st.env,σ.st.heap⟩ from hmk)) hS
     rw [GA,A7,Bx,CN] at h1
     have e1:σ.st.env=σ1.env:=congrArg (fun s:St=>s.env) e
     have e2:Ag (Bb (base+p) σ.heap) ob=σ1.heap:=congrArg (fun s:St=>s.heap) e
     refine ⟨r,some ob,_,⟨hw,hx,.inl ⟨hmk,(h2 (fun r' s'=>r'=r∧s'=⟨σ.st.env,Ag (Bb (base+p) σ.st.heap) ob⟩) _ (fun _ _=>rfl) (.inl fun _ _ _ h=>h) rfl ⟨rfl,rfl⟩).1⟩⟩,fun _=>by simp,fun _=>by simp,?_,h1⟩
     rw [←DU]
     congr 1
     show (⟨σ1.env,_⟩:St)=⟨σ.st.env,σ.heap.set (base+p) (some ob)⟩
     rw [e1,←e2,OZ hx]
    ·exact h.elim
   ·exact h.elim
theorem Yx (hE:EOk T C) {ops:Array Oper} {base i:Nat} {q:Option Nat} {K:ES→Prop} {σ:ES} (h:dz T C ops.toList base i q K σ):
 ∃o r ob σ',ops[i]?=some o∧RK C ops o r ob (base+q.getD 0) σ.st∧(ob≠none→q≠none)∧(q≠none→ob=none→As ops o σ.st=some false)∧σ'.st=(Cs σ.st (base+q.getD 0) ob).put o.dst r∧K σ':=by
 obtain ⟨o,ho,h⟩:=BW h
 rw [Array.getElem?_toList] at ho
 have run:As ops o σ.st=some true→We T C base o q K σ→∃o r ob σ',ops[i]?=some o∧RK C ops o r ob (base+q.getD 0) σ.st∧(ob≠none→q≠none)∧(q≠none→ob=none→As ops o σ.st=some false)∧σ'.st=(Cs σ.st (base+q.getD 0) ob).put o.dst r∧K σ':=fun hw h=>by
  obtain ⟨r,ob,σ',a,b,c',c,d⟩:=cE hE (ops:=ops) hw h
  exact ⟨o,r,ob,σ',ho,a,b,fun hq hn=>absurd hn (c' hq),c,d⟩
 have skip:As ops o σ.st=some false→K (σ.put o.dst (.tup []))→∃o r ob σ',ops[i]?=some o∧RK C ops o r ob (base+q.getD 0) σ.st∧(ob≠none→q≠none)∧(q≠none→ob=none→As ops o σ.st=some false)∧σ'.st=(Cs σ.st (base+q.getD 0) ob).put o.dst r∧K σ':=fun hw h=>
  ⟨o,.tup [],none,_,ho,.inr ⟨hw,rfl⟩,fun h=>absurd rfl h,fun _ _=>hw,by rw [←DU];rfl,h⟩
 simp only [CN] at h
 split at h
 ·rename_i hg
  exact run (by simp [As,hg]) h
 ·rename_i j want hg
  rw [GF] at h
  split at h
  ·rename_i b hb
   cases want with
   | true=>
     rcases Cu h with ⟨rfl,h⟩|⟨rfl,h⟩
     ·exact run (by simp [As,hg,hb]) h
     ·exact skip (by simp [As,hg,hb]) h
   | false=>
     rcases Cu h with ⟨rfl,h⟩|⟨rfl,h⟩
     ·exact skip (by simp [As,hg,hb]) h
     ·exact run (by simp [As,hg,hb]) h
  ·rename_i l hb
   exact skip (by simp [As,hg,hb]) h
  ·exact h.elim
theorem JK (hE:EOk T C) {ops:Array Oper} {base:Nat} {K:ES→Prop} {K':St→Prop} (hK:∀σ:ES,K σ→K' σ.st):∀(seg:List (Nat×Option Nat)) (σ:ES),Yt T C ops.toList base K seg σ→
 ∃ent:List Ent,ent.map (fun e=>(e.i,e.q))=seg∧C0 C ops base ent σ.st K'
 | [],σ,h=>⟨[],rfl,hK σ h⟩
 | (i,q)::r,σ,h=>by
   obtain ⟨o,x,ob,σ',ho,hy,hq,hsk,hst,h2⟩:=Yx hE h
   obtain ⟨ent,h3,h4⟩:=JK hE hK r σ' h2
   refine ⟨⟨i,q,x,ob⟩::ent,by simp [h3],⟨o,ho,hy,hq,hsk⟩,?_⟩
   have:Fh ops base σ.st ⟨i,q,x,ob⟩=σ'.st:=by
    unfold Fh
    have:BD ops i=o.dst:=by unfold BD;rw [ho];rfl
    simp only [this]
    exact hst.symm
   rw [this]
   exact h4
theorem E9 {ops:Array Oper} {σ0:ES} {n:Nat} {h:List (Option Ob)}:∀(U:List Nat) (u:List (Nat×V)) (K:List (Nat×V)→Prop),HN ops.toList σ0 U u K→∃u',K u'∧ES.env ⟨n,u',h⟩=CW ops σ0.env U (ES.env ⟨n,u,h⟩)
 | [],u,K,hk=>⟨u,hk,rfl⟩
 | i::U,u,K,hk=>by
   unfold HN at hk
   unfold CW
   split at hk
   ·rename_i o ho
    rw [Array.getElem?_toList] at ho
    have hd0:BD ops i=o.dst:=by unfold BD;rw [ho];rfl
    split at hk
    ·rename_i d hd
     rw [Pc] at hk
     obtain ⟨u',h1,h2⟩:=E9 U u _ hk
     refine ⟨_,h1,?_⟩
     rw [MB,h2]
     simp only [hd0,hd,GW]
    ·rename_i hd
     obtain ⟨u',h1,h2⟩:=E9 U u _ hk
     refine ⟨u',h1,?_⟩
     simp only [hd0,hd]
     exact h2
   ·rename_i ho
    rw [Array.getElem?_toList] at ho
    have hd0:BD ops i=none:=by unfold BD;rw [ho];rfl
    obtain ⟨u',h1,h2⟩:=E9 U u _ hk
    refine ⟨u',h1,?_⟩
    simp only [hd0]
    exact h2
theorem MT {stop:Bool} {K:ES→Prop} {σ:ES} (h:Pi C stop K σ):UpE C K σ:=by
 cases stop with
 | true=>exact h.out
 | false=>exact ⟨BM ⟨σ,rfl,h⟩⟩
theorem JL (hE:EOk T C) {ops:Array Oper} {K:ES→Prop}:∀(plan:List Sg) (lf:List Nat) (σ:ES),eSegs T C ops.toList K plan lf σ→RO C ops (fun s=>∃h:List (Option Ob),(∀(i:Nat) (o:Ob),h[i]?=some (some o)↔s.heap[i]?=some (some o))∧Ks K ⟨s.env,h⟩) plan lf σ.st
 | [],lf,σ,h=>by
   simp only [eSegs,A7,Bx] at h
   exact ⟨_,Hq σ.heap,⟨_,rfl,h⟩⟩
 | g::r,lf,σ,h=>by
   rw [eSegs,MD,A7,Bx] at h
   refine JK hE (fun σ2 h2=>?_) (B4 g.ql lf g.seg) _ h
   cases hb:g.bar with
   | none=>
     simp only [hb] at h2
     exact JL hE r [] σ2 h2
   | some b=>
     simp only [hb] at h2
     obtain ⟨o,ho,h2⟩:=BW h2
     rw [Array.getElem?_toList] at ho
     rw [Pj] at h2
     intro U hU
     obtain ⟨u2,h3,he⟩:=E9 (n:=σ2.n) (h:=σ2.heap) U σ2.u _ (JJ h2 U hU)
     rw [A7] at h3
     have hst:Dl ops σ.st.env (B4 g.ql lf g.seg) σ.st.heap.length U σ2.st=(⟨σ2.n,u2,BZ (B4 g.ql lf g.seg) σ.heap.length U σ2.heap⟩:ES).st:=by
      unfold Dl ES.st
      congr 1
      exact he.symm
     have hS:=(Dj hE.all h3).1
     rw [←hst] at hS
     refine ⟨o,_,ho,hS,?_⟩
     rintro x s'' ⟨σ',rfl,h3⟩
     rw [GA,CN] at h3
     rw [DU]
     refine Uw (MT h3).out ?_
     rintro s4 ⟨σ4,rfl,h4⟩
     exact JL hE r U σ4 h4
theorem C1 (hE:EOk T C) {ops:Array Oper} {K:ES→Prop} {σ:ES} (plan:List Sg) (hp:(IW ops (CO ops) 0 [] plan&&Nat.ble (OY plan) ops.size&&plan.all (fun g=>decide g.opt.Nodup))=true) (h:eSegs T C ops.toList K plan [] σ):DrawN T C ops K σ:=by
 refine ⟨fun id a w hr=>?_⟩
 obtain ⟨I,bl,hp'⟩:=hr.parts
 have hp'':RP C σ.st a { w with drawn:=w.drawn+1} I bl:=hp'.drew
 refine wp_region_any hE.any ?_
 rw [Bool.and_eq_true,Bool.and_eq_true,Nat.ble_eq] at hp
 refine JI (fun s a w hr hk=>?_) plan 0 [] hp.1.1 hp.2 (fun j o ho h=>by simp at h) (fun j h=>by simp at h) σ.st (JL hE plan [] σ h) ops.size (Array.replicate ops.size false) (by simpa using hp.1.2) Fe (by simp) (fun j=>by
  by_cases hj:j < ops.size<;>simp [Array.getD,hj]) a _ hp''.rel
 obtain ⟨h',he,σ',hs,hk⟩:=hk
 refine ⟨⟨s.env,h'⟩,⟨rfl,σ',hs,hk⟩,D4 hr (fun k x hx=>.inl ((he k x).1 hx)) (fun k x hx=>.inl ((he k x).2 hx))⟩
end
end Go.Proofs.YtkaiffheakalmaaGreatDoor
