/- Joined. No conditions. -/
import Derived.Test.YtkaiffheakalmaaGreatDoorJ9ao
set_option linter.unusedSimpArgs false
set_option linter.unusedVariables false
set_option maxRecDepth 100000
namespace Go.Proofs.YtkaiffheakalmaaGreatDoor
open Go.RowKit
def Af (bl:Nat→Option BI) (b:Nat):Prop:=∃id i,bl id=some i∧i.blk=some b
def HFn (P:Program) (f:FuncId) (args:List V) (objs:List Ob) (fixed:List Nat) (R:V→List Ob→Prop):Prop:=
 ∀(w:World) (I:Nat→Prop) (bl:Nat→Option BI) (vs:List Value),args.length=vs.length→(∀(i:Nat) (v:Value) (x:V),vs[i]?=some v→args[i]?=some x→Rep w I bl v x)→
   HeapRep ⟨P,w,Af bl,I⟩ (objs.map some) w I bl→
   Calls P f vs.toArray w fun e w'=>∃v r objs' I' bl',e= .returned v∧R r objs'∧objs'.length=objs.length∧Rep w' I' bl' v r∧HeapRep ⟨P,w,Af bl,I⟩ (objs'.map some) w' I' bl'∧∀j∈fixed,bl' j=bl j
theorem HFn.mono {P:Program} {f:FuncId} {args:List V} {objs:List Ob} {fixed:List Nat} {R R':V→List Ob→Prop} (h:HFn P f args objs fixed R) (hr:∀r o,R r o→R' r o):HFn P f args objs fixed R':=
 fun w I bl vs h1 h2 h3=>(h w I bl vs h1 h2 h3).mono fun _ _ ⟨v,r,o,I',bl',a,b,c⟩=>⟨v,r,o,I',bl',a,hr r o b,c⟩
def FH (j:Nat) (x:V):Bool:=match x with|.ptr i a b=>Nat.beq i j&&Nat.beq a 0&&Nat.beq b 0|.sl i a n=>Nat.beq i j&&Nat.beq a 0&&Nat.blt 0 n|_=>false
theorem Hs {w:World} {I:Nat→Prop} {bl:Nat→Option BI} {j:Nat} {v:Value} {x:V} (h:FH j x=true) (hr:Rep w I bl v x):∃b base z,bl j=some ⟨some b,base,z⟩∧(v= .pointer (some ⟨b,base,none⟩)∨∃m cap,v= .slice (some ⟨b,base,none⟩) m cap∧0 < m):=by
 unfold FH at h
 split at h
 ·simp only [Bool.and_eq_true] at h
  rw [D3 h.1.1,D3 h.1.2,D3 h.2] at hr
  obtain ⟨b,base,z,n,e,h1,_,h3⟩:=hr.inv_ptr
  exact ⟨b,base,z,h1,.inl (by rw [h3];simp)⟩
 ·simp only [Bool.and_eq_true] at h
  have h0:=Di.1 h.2
  rw [D3 h.1.1,D3 h.1.2] at hr
  rcases hr.inv_sl with ⟨base,z,_,_,h5,_⟩|⟨a,i,_,h5,_⟩|⟨cap,b,base,z,n,e,h1,_,_,_,_,h3⟩
  ·omega
  ·omega
  ·exact ⟨b,base,z,h1,.inr ⟨_,cap,by rw [h3];simp,h0⟩⟩
 ·cases h
def Sm:Ob→Option Nat
 | .row z _=>some z
 | .bld _ _=>some 2
 | _=>none
theorem LU {w:World} {I:Nat→Prop} {bl:Nat→Option BI} {j z:Nat} {o:Ob} (h:ObRep w I bl j o) (hz:Sm o=some z):∃bi,bl j=some bi∧bi.z=z:=by
 cases o with
 | row z' els=>
   obtain ⟨bi,h1,h2,_⟩:=h
   simp only [Sm,Option.some.injEq] at hz
   exact ⟨bi,h1,h2.trans hz⟩
 | bld T y=>
   obtain ⟨b,p,v,h1,_⟩:=h
   simp only [Sm,Option.some.injEq] at hz
   exact ⟨_,h1,hz⟩
 | buf U s=>simp [Sm] at hz
 | iter s p=>simp [Sm] at hz
 | mp es=>simp [Sm] at hz
 | hid vs l=>simp [Sm] at hz
def DB (objs objs':List Ob) (args args':List V) (j:Nat):Bool:=
 (match objs[j]? with|some o=>(match objs'[j]? with|some o'=>(match Sm o with|some z=>(match Sm o' with|some z'=>Nat.beq z z'|none=>false)|none=>false)|none=>false)|none=>false)&&
 (List.range args.length).any fun i=>(match args[i]? with|some x=>FH j x|none=>false)&&(match args'[i]? with|some x=>FH j x|none=>false)
def Ht:List (Option Ob)→Bool
 | []=>true
 | none::r=>Ht r
 | some _::_=>false
def cM:Nat→List (Option Ob)→(List Ob→List Value→List V→Prop)→Prop
 | 0,h,K=>match h with
   | some o::r=>(match o with|.hid vs l=>Br (Ht r) (K [] vs l) False|_=>False)
   | _=>False
 | n+1,h,K=>match h with
   | some o::r=>cM n r fun l=>K (o::l)
   | _=>False
mutual
/-- Only places below n are named. -/
def V.low (n:Nat):V→Bool
 | .sl i _ _=>Nat.blt i n
 | .ptr i _ _=>Nat.blt i n
 | .it i=>Nat.blt i n
 | .agg l=>CP n l
 | .fn _ l=>CP n l
 | .tup l=>CP n l
 | _=>true
def CP (n:Nat):List V→Bool
 | []=>true
 | x::l=>x.low n&&CP n l
end
theorem FJ (n:Nat):∀(l:List V) (i:Nat) (c:V),CP n l=true→l[i]?=some c→c.low n=true
 | [],i,c,_,hc=>by simp at hc
 | x::l,0,c,h,hc=>by
   simp only [CP,Bool.and_eq_true] at h
   simp only [List.getElem?_cons_zero,Option.some.injEq] at hc
   subst hc;exact h.1
 | x::l,i+1,c,h,hc=>by
   simp only [CP,Bool.and_eq_true] at h
   exact FJ n l i c h.2 (by simpa using hc)
def Ob.low (n:Nat):Ob→Bool
 | .row _ els=>CP n els
 | .iter _ _=>true
 | .mp _=>true
 | .bld _ y=>(yV y).low n
 | .buf _ _=>true
 | .hid _ l=>CP n l
def Cg (n:Nat):List Ob→Bool
 | []=>true
 | o::l=>o.low n&&Cg n l
theorem KB (n:Nat):∀(l:List Ob) (i:Nat) (o:Ob),Cg n l=true→l[i]?=some o→o.low n=true
 | [],i,c,_,hc=>by simp at hc
 | x::l,0,c,h,hc=>by
   simp only [Cg,Bool.and_eq_true] at h
   simp only [List.getElem?_cons_zero,Option.some.injEq] at hc
   subst hc;exact h.1
 | x::l,i+1,c,h,hc=>by
   simp only [Cg,Bool.and_eq_true] at h
   exact KB n l i c h.2 (by simpa using hc)
def TX (n:Nat) (bl:Nat→Option BI) (id:Nat):Option BI:=if id < n then bl id else none
theorem C8 {n:Nat} {bl:Nat→Option BI} {id:Nat} (h:id < n):TX n bl id=bl id:=if_pos h
theorem Db {n:Nat} {bl:Nat→Option BI} {id:Nat} {i:BI} (h:TX n bl id=some i):id < n∧bl id=some i:=by
 unfold TX at h
 split at h
 ·exact ⟨‹_›,h⟩
 ·cases h
theorem Rep.cut {w:World} {I:Nat→Prop} {bl:Nat→Option BI} {v:Value} {x:V} (n:Nat) (h:Rep w I bl v x):x.low n=true→Rep w I (TX n bl) v x:=by
 induction h with
 | pure v x h=>exact fun _=>.pure v x h
 | nsl k base z h=>exact fun e=>.nsl k base z (by rw [C8 (Di.1 (by simpa [V.low] using e))];exact h)
 | sl k off len cap b base z m e h1 h2 h3 h4 h5=>exact fun e'=>.sl k off len cap b base z m e (by rw [C8 (Di.1 (by simpa [V.low] using e'))];exact h1) h2 h3 h4 h5
 | esl k off a i h=>exact fun e=>.esl k off a i (by rw [C8 (Di.1 (by simpa [V.low] using e))];exact h)
 | ptr k i j b base z m e h1 h2=>exact fun e'=>.ptr k i j b base z m e (by rw [C8 (Di.1 (by simpa [V.low] using e'))];exact h1) h2
 | it k b base z h1=>exact fun e=>.it k b base z (by rw [C8 (Di.1 (by simpa [V.low] using e))];exact h1)
 | agg vs l h1 h2 h3 ih=>exact fun e=>.agg vs l h1 h2 fun i v c hv hc=>ih i v c hv hc (FJ n l i c (by simpa [V.low] using e) hc)
 | fn f vs l h1 h2 ih=>exact fun e=>.fn f vs l h1 fun i v c hv hc=>ih i v c hv hc (FJ n l i c (by simpa [V.low] using e) hc)
 | tup vs l h1 h2 ih=>exact fun e=>.tup vs l h1 fun i v c hv hc=>ih i v c hv hc (FJ n l i c (by simpa [V.low] using e) hc)
theorem Yz {n:Nat} {x c:V} {j:Nat} (h:x.low n=true) (hc:x.cells[j]?=some c):c.low n=true:=by
 cases x with
 | agg l=>exact FJ n l j c (by simpa [V.low] using h) hc
 | _=>
   simp only [V.cells] at hc
   cases j with
   | zero=>simp only [List.getElem?_cons_zero,Option.some.injEq] at hc;subst hc;exact h
   | succ j=>simp at hc
theorem ObRep.cut {w:World} {I:Nat→Prop} {bl:Nat→Option BI} {id n:Nat} {o:Ob} (h:ObRep w I bl id o) (hid:id < n) (hl:o.low n=true):ObRep w I (TX n bl) id o:=by
 cases o with
 | row z els=>
   obtain ⟨bi,h1,h2,h3,h4⟩:=h
   refine ⟨bi,by rw [C8 hid];exact h1,h2,h3,?_⟩
   cases hb:bi.blk with
   | none=>rw [hb] at h4;exact h4
   | some b=>
     rw [hb] at h4
     obtain ⟨cur,e,g1,g2,g3⟩:=h4
     refine ⟨cur,e,g1,g2,fun i x j c hx hc=>?_⟩
     obtain ⟨u,k1,k2,k3⟩:=g3 i x j c hx hc
     exact ⟨u,k1,k2,k3.cut n (Yz (FJ n els i x hl hx) hc)⟩
 | iter s pos=>
   obtain ⟨b,base,z,t,h1,h2⟩:=h
   exact ⟨b,base,z,t,by rw [C8 hid];exact h1,h2⟩
 | mp es=>
   obtain ⟨b,base,z,t,h1,h2⟩:=h
   exact ⟨b,base,z,t,by rw [C8 hid];exact h1,h2⟩
 | bld T y=>
   obtain ⟨b,p,v,h1,h2,h3,h4,h5⟩:=h
   exact ⟨b,p,v,by rw [C8 hid];exact h1,h2,h3,h4,h5.cut n hl⟩
 | buf U s=>
   obtain ⟨blk,h1,h2⟩:=h
   exact ⟨blk,by rw [C8 hid];exact h1,h2⟩
 | hid vs l=>
   obtain ⟨h1,h2,h3⟩:=h
   exact ⟨by rw [C8 hid];exact h1,h2,fun i v x hv hx=>(h3 i v x hv hx).cut n (FJ n l i x hl hx)⟩
def TY (rest:List (Option Ob)) (n:Nat) (r:V) (objs:List Ob):Prop:=Ht rest=true∨(r.low n=true∧Cg n objs=true)
def VN:Nat→List (Option Ob)→(List Ob→List Value→List V→Prop)→Prop
 | 0,h,K=>match h with
   | some o::_=>(match o with|.hid vs l=>K [] vs l|_=>False)
   | _=>False
 | n+1,h,K=>match h with
   | some o::r=>VN n r fun l=>K (o::l)
   | _=>False
structure HRetN (T:TT) (C:Ctx) (fn:Func) (args:List V) (objs:List Ob) (vs:List Value) (fixed:List Nat) (R:V→List Ob→Prop) (σ:ES):Prop where
 out:Up C (fun s=>∃objs' args' rest,s.heap=objs'.map some++some (.hid vs args')::rest∧TY rest objs.length (IQ C.P fn.results.toList s) objs'∧objs'.length=objs.length∧(∀r∈fn.results.toList,CM C.P s r)∧R (IQ C.P fn.results.toList s) objs'∧fixed.all (DB objs objs' args args')=true) σ.st
def Y0 (T:TT) (C:Ctx) (fn:Func) (args:List V) (objs:List Ob) (vs:List Value) (fixed:List Nat) (R:V→List Ob→Prop) (e:Exit) (σ:ES):Prop:=
 match e with
 | .normal=>HRetN T C fn args objs vs fixed R σ
 | .ret=>HRetN T C fn args objs vs fixed R σ
 | _=>False
section
variable {T:TT} {C:Ctx} {σ:ES}
theorem Oc:∀{n:Nat} {h:List (Option Ob)} {K:List Ob→List Value→List V→Prop},cM n h K→∃objs' vs l rest,h=objs'.map some++some (.hid vs l)::rest∧Ht rest=true∧objs'.length=n∧K objs' vs l
 | 0,[],K,hh=>hh.elim
 | 0,none::r,K,hh=>hh.elim
 | 0,some (.row _ _)::r,K,hh=>hh.elim
 | 0,some (.iter _ _)::r,K,hh=>hh.elim
 | 0,some (.mp _)::r,K,hh=>hh.elim
 | 0,some (.bld _ _)::r,K,hh=>hh.elim
 | 0,some (.buf _ _)::r,K,hh=>hh.elim
 | 0,some (.hid vs l)::r,K,hh=>by
   have hh:=Am hh
   exact ⟨[],vs,l,r,rfl,hh.1,rfl,hh.2⟩
 | n+1,[],K,hh=>hh.elim
 | n+1,none::r,K,hh=>hh.elim
 | n+1,some o::r,K,hh=>by
   obtain ⟨objs',vs,l,rest,h1,h2,h3,h4⟩:=Oc (n:=n) (h:=r) (K:=fun l=>K (o::l)) hh
   exact ⟨o::objs',vs,l,rest,by rw [h1];rfl,h2,by simp [h3],h4⟩
theorem MX:∀{n:Nat} {h:List (Option Ob)} {K:List Ob→List Value→List V→Prop},VN n h K→∃objs' vs l rest,h=objs'.map some++some (.hid vs l)::rest∧objs'.length=n∧K objs' vs l
 | 0,[],K,hh=>hh.elim
 | 0,none::r,K,hh=>hh.elim
 | 0,some (.row _ _)::r,K,hh=>hh.elim
 | 0,some (.iter _ _)::r,K,hh=>hh.elim
 | 0,some (.mp _)::r,K,hh=>hh.elim
 | 0,some (.bld _ _)::r,K,hh=>hh.elim
 | 0,some (.buf _ _)::r,K,hh=>hh.elim
 | 0,some (.hid vs l)::r,K,hh=>⟨[],vs,l,r,rfl,rfl,hh⟩
 | n+1,[],K,hh=>hh.elim
 | n+1,none::r,K,hh=>hh.elim
 | n+1,some o::r,K,hh=>by
   obtain ⟨objs',vs,l,rest,h1,h3,h4⟩:=MX (n:=n) (h:=r) (K:=fun l=>K (o::l)) hh
   exact ⟨o::objs',vs,l,rest,by rw [h1];rfl,by simp [h3],h4⟩
theorem A5 {fn:Func} {args:List V} {objs:List Ob} {vs:List Value} {fixed:List Nat} {R:V→List Ob→Prop} (hE:EOk T C)
 (h:HS T σ fn.results.toList fun l=>RU l fun r=>VN objs.length σ.heap fun objs' vs' args'=>vs'=vs∧fixed.all (DB objs objs' args args')=true∧r.low objs.length=true∧Cg objs.length objs'=true∧R r objs'):HRetN T C fn args objs vs fixed R σ:=by
 refine ⟨BM ?_⟩
 obtain ⟨h1,h2⟩:=DV hE.all _ _ h
 have key:∀r,(VN objs.length σ.heap fun objs' vs' args'=>vs'=vs∧fixed.all (DB objs objs' args args')=true∧r.low objs.length=true∧Cg objs.length objs'=true∧R r objs')→
  ∃objs' args' rest,σ.heap=objs'.map some++some (.hid vs args')::rest∧TY rest objs.length r objs'∧objs'.length=objs.length∧R r objs'∧fixed.all (DB objs objs' args args')=true:=by
  intro r hr
  obtain ⟨objs',vs',l,rest,g1,g3,rfl,g4,g5,g6,g7⟩:=MX hr
  exact ⟨objs',l,rest,g1,.inr ⟨g5,g6⟩,g3,g7,g4⟩
 unfold IQ
 generalize fn.results.toList=l at h1 h2
 have fin:∀x,(∃objs' args' rest,σ.heap=objs'.map some++some (.hid vs args')::rest∧TY rest objs.length x objs'∧objs'.length=objs.length∧R x objs'∧fixed.all (DB objs objs' args args')=true)→∃objs' args' rest,σ.st.heap=objs'.map some++some (.hid vs args')::rest∧TY rest objs.length x objs'∧objs'.length=objs.length∧(∀r∈l,CM C.P σ.st r)∧R x objs'∧fixed.all (DB objs objs' args args')=true:=
  fun x ⟨o,a,rest,g1,g2,g3,g4,g5⟩=>⟨o,a,rest,g1,g2,g3,h1,g4,g5⟩
 match l,h2,fin with
 | [],h2,fin=>exact fin _ (key _ h2)
 | [r],h2,fin=>exact fin _ (key _ h2)
 | r::r'::l,h2,fin=>exact fin _ (key _ h2)
theorem BP {fn:Func} {args:List V} {objs:List Ob} {vs:List Value} {fixed:List Nat} {R:V→List Ob→Prop} (hE:EOk T C)
 (h:HS T σ fn.results.toList fun l=>RU l fun r=>cM objs.length σ.heap fun objs' vs' args'=>vs'=vs∧fixed.all (DB objs objs' args args')=true∧R r objs'):HRetN T C fn args objs vs fixed R σ:=by
 refine ⟨BM ?_⟩
 obtain ⟨h1,h2⟩:=DV hE.all _ _ h
 have key:∀r,(cM objs.length σ.heap fun objs' vs' args'=>vs'=vs∧fixed.all (DB objs objs' args args')=true∧R r objs')→
  ∃objs' args' rest,σ.heap=objs'.map some++some (.hid vs args')::rest∧TY rest objs.length r objs'∧objs'.length=objs.length∧R r objs'∧fixed.all (DB objs objs' args args')=true:=by
  intro r hr
  obtain ⟨objs',vs',l,rest,g1,g2,g3,rfl,g4,g5⟩:=Oc hr
  exact ⟨objs',l,rest,g1,.inl g2,g3,g5,g4⟩
 unfold IQ
 generalize fn.results.toList=l at h1 h2
 have fin:∀x,(∃objs' args' rest,σ.heap=objs'.map some++some (.hid vs args')::rest∧TY rest objs.length x objs'∧objs'.length=objs.length∧R x objs'∧fixed.all (DB objs objs' args args')=true)→∃objs' args' rest,σ.st.heap=objs'.map some++some (.hid vs args')::rest∧TY rest objs.length x objs'∧objs'.length=objs.length∧(∀r∈l,CM C.P σ.st r)∧R x objs'∧fixed.all (DB objs objs' args args')=true:=
  fun x ⟨o,a,rest,g1,g2,g3,g4,g5⟩=>⟨o,a,rest,g1,g2,g3,h1,g4,g5⟩
 match l,h2,fin with
 | [],h2,fin=>exact fin _ (key _ h2)
 | [r],h2,fin=>exact fin _ (key _ h2)
 | r::r'::l,h2,fin=>exact fin _ (key _ h2)
theorem Ap {fn:Func} {args:List V} {objs:List Ob} {vs:List Value} {fixed:List Nat} {R:V→List Ob→Prop} (h:UpE C (HRetN T C fn args objs vs fixed R) σ):HRetN T C fn args objs vs fixed R σ:=by
 refine ⟨?_⟩
 intro a w hr
 obtain ⟨s,⟨σ',rfl,h1⟩,hr'⟩:=h.out a w hr
 exact h1.out a w hr'
theorem HU:∀(l:List (Option Ob)) (i:Nat) (o:Ob),Ht l=true→l[i]?≠some (some o)
 | [],i,o,_=>by simp
 | none::r,0,o,_=>by simp
 | none::r,i+1,o,h=>by simpa using HU r i o h
 | some _::_,_,_,h=>by simp [Ht] at h
theorem Pl (n:Nat) (args:List V) (h:List (Option Ob)) (hn:args.length≤n):(⟨n,HT 0 args,h⟩:ES).st={ env:=args++List.replicate (n - args.length) .any,heap:=h}:=by
 unfold ES.st ES.env
 congr 1
 apply List.ext_getElem?
 intro i
 rw [List.getElem?_map]
 by_cases hi:i < n
 ·rw [List.getElem?_range hi]
  simp only [Option.map_some]
  have:=Oa args 0 i
  rw [Nat.zero_add] at this
  rw [this]
  by_cases h2:i < args.length
  ·rw [List.getElem?_append_left h2];simp [List.getD,h2]
  ·rw [List.getElem?_append_right (Nat.le_of_not_lt h2),List.getElem?_replicate]
   rw [if_pos (by omega)]
   simp [List.getD,List.getElem?_eq_none (Nat.le_of_not_lt h2)]
 ·rw [List.getElem?_eq_none (by simp;omega)]
  rw [List.getElem?_eq_none (by simp;omega)]
  rfl
theorem ju {P:Program} {f:FuncId} {fn:Func} {c:Code} {args:List V} {objs:List Ob} {fixed:List Nat} {R:V→List Ob→Prop} (hf:P.funcs[f]?=some fn) (hb:fn.body=some c) (hall:T.All P) (hany:P.follows .mixedOrders=true) (hc:Bl c=true) (hn:args.length≤fn.ntmps)
 (h:∀(C:Ctx) (vs:List Value),C.P=P→EOk T C→Ea T C c (Y0 T C fn args objs vs fixed R) ⟨fn.ntmps,HT 0 args,objs.map some++[some (.hid vs args)]⟩):HFn P f args objs fixed R:=by
 intro w I bl vs hl hvs hH
 refine calls_of_wp hf hb ?_
 let C:Ctx:=⟨P,w,Af bl,I⟩
 have hE:EOk T C:=⟨hall,hany⟩
 have hbn:bl objs.length=none:=by
  cases hb:bl objs.length with
  | none=>rfl
  | some i=>
    obtain ⟨o,ho⟩:=hH.live _ _ hb
    have:=(List.getElem?_eq_some_iff.1 ho).1
    simp at this
 have hH2:HeapRep C (objs.map some++[some (.hid vs args)]) w I bl:=by
  refine ⟨fun id o ho=>?_,fun id i hi=>?_,hH.apart,hH.own,hH.imm,hH.kept⟩
  ·rw [List.getElem?_append] at ho
   split at ho
   ·exact hH.obj id o ho
   ·rename_i hlt
    simp only [List.length_map] at hlt ho
    cases hk:id - objs.length with
    | zero=>
      simp [hk] at ho
      subst ho
      have:id=objs.length:=by omega
      subst this
      exact ⟨hbn,hl.symm,hvs⟩
    | succ k=>simp [hk] at ho
  ·obtain ⟨o,ho⟩:=hH.live id i hi
   exact ⟨o,by rw [List.getElem?_append_left (List.getElem?_eq_some_iff.1 ho).1];exact ho⟩
 have hr:Rel C (⟨fn.ntmps,HT 0 args,objs.map some++[some (.hid vs args)]⟩:ES).st { tmps:=vs.toArray++Array.replicate (fn.ntmps - vs.toArray.size) undef,defers:=[]} w:=by
  rw [Pl _ _ _ hn]
  refine RP.rel (I:=I) (bl:=bl) ⟨rfl,⟨by simp [hl],fun i v x hv hx=>?_⟩,hH2⟩
  rw [List.getElem?_append] at hx
  rw [Array.getElem?_append] at hv
  split at hx
  ·rename_i hi
   have hi':i < vs.toArray.size:=by simp;omega
   rw [if_pos hi'] at hv
   exact hvs i v x (by simpa [List.getElem?_eq_getElem (show i < vs.length by omega)] using hv) hx
  ·have:x= .any:=by
    obtain ⟨h1,h2⟩:=List.getElem?_eq_some_iff.1 hx
    rw [←h2];simp
   subst this
   exact .pure _ _ (.any _)
 refine wp_mono (HM hE c hc _ _ (h C vs rfl hE) _ w hr) ?_
 rintro e a' w' ⟨s',⟨σ',rfl,h1⟩,h2⟩
 have fin:HRetN T C fn args objs vs fixed R σ'→a'.defers=[]∧∃v,(results fn a'.tmps).run P w'= .ok v w'∧
  ∃v' r objs' I' bl',Ending.returned v= .returned v'∧R r objs'∧objs'.length=objs.length∧Rep w' I' bl' v' r∧HeapRep ⟨P,w,Af bl,I⟩ (objs'.map some) w' I' bl'∧∀j∈fixed,bl' j=bl j:=by
  intro h1
  obtain ⟨s2,⟨objs',args',rest,g1,g2,g3,g4,g5,g6⟩,hr2⟩:=h1.out a' w' h2
  obtain ⟨I',bl',hp⟩:=hr2.parts
  obtain ⟨v,hv,hrep⟩:=Fd hp g4
  have hhid:ObRep w' I' bl' objs'.length (.hid vs args'):=hp.heap.obj _ _ (by rw [g1,List.getElem?_append_right (by simp)];simp)
  obtain ⟨hn1,hn2,hn3⟩:=hhid
  have hHr:HeapRep C s2.heap w' I' bl':=hp.heap
  have hfix:∀j∈fixed,bl' j=bl j:=by
   intro j hj
   have hfx:=List.all_eq_true.1 g6 j hj
   simp only [DB,Bool.and_eq_true,List.any_eq_true,List.mem_range] at hfx
   obtain ⟨hz,i,hi,hx,hx'⟩:=hfx
   obtain ⟨x,hxa⟩:∃x,args[i]?=some x:=⟨_,List.getElem?_eq_getElem hi⟩
   obtain ⟨u,hu⟩:∃u,vs[i]?=some u:=⟨_,List.getElem?_eq_getElem (by omega)⟩
   obtain ⟨x',hxa'⟩:∃x,args'[i]?=some x:=⟨_,List.getElem?_eq_getElem (by omega)⟩
   simp only [hxa] at hx
   simp only [hxa'] at hx'
   obtain ⟨b1,base1,z1,k1,k3⟩:=Hs hx (hvs i u _ hu hxa)
   obtain ⟨b2,base2,z2,k4,k6⟩:=Hs hx' (hn3 i u _ hu hxa')
   have kk:b1=b2∧base1=base2:=by
    rcases k3 with rfl|⟨m,cap,rfl,_⟩
    ·rcases k6 with k6|⟨m',cap',k6,_⟩
     ·simp only [Value.pointer.injEq,Option.some.injEq,Addr.mk.injEq,and_true] at k6
      exact k6
     ·cases k6
    ·rcases k6 with k6|⟨m',cap',k6,_⟩
     ·cases k6
     ·simp only [Value.slice.injEq,Option.some.injEq,Addr.mk.injEq,and_true] at k6
      exact k6.1
   obtain ⟨rfl,rfl⟩:=kk
   split at hz
   ·rename_i o ho
    split at hz
    ·rename_i o' ho'
     split at hz
     ·rename_i z hoz
      split at hz
      ·rename_i z' hoz'
       obtain ⟨bi,m1,m2⟩:=LU (hH.obj j o (by rw [List.getElem?_map,ho];rfl)) hoz
       obtain ⟨bi',m3,m4⟩:=LU (hHr.obj j o' (by
        have hlt:j < objs'.length:=(List.getElem?_eq_some_iff.1 ho').1
        rw [g1,List.getElem?_append_left (by simpa using hlt),List.getElem?_map,ho'];rfl)) hoz'
       rw [k1] at m1
       rw [k4] at m3
       simp only [Option.some.injEq] at m1 m3
       subst m1;subst m3
       simp only at m2 m4
       have:=D3 hz
       rw [k4,k1]
       subst m2;subst m4
       rw [this]
      ·cases hz
     ·cases hz
    ·cases hz
   ·cases hz
  rcases g2 with g2|⟨gl1,gl2⟩
  rotate_left
  ·refine ⟨hp.defers,v,hv,v,_,objs',I',TX objs'.length bl',rfl,g5,g3,hrep.cut _ (by rw [g3];exact gl1),⟨fun id o ho=>?_,fun id i hi=>?_,fun id id' i i' b hi hi'=>hHr.apart id id' i i' b (Db hi).2 (Db hi').2,fun id i b hi=>hHr.own id i b (Db hi).2,hHr.imm,hHr.kept⟩,fun j hj=>?_⟩
   ·have hlt:id < objs'.length:=by simpa using (List.getElem?_eq_some_iff.1 ho).1
    refine ObRep.cut (hHr.obj id o (by rw [g1,List.getElem?_append_left (by simpa using hlt)];exact ho)) hlt ?_
    rw [g3]
    refine KB _ objs' id o gl2 ?_
    simpa using ho
   ·obtain ⟨hlt,hi⟩:=Db hi
    exact ⟨objs'[id],by simp [hlt]⟩
   ·rw [C8,hfix j hj]
    have hfx:=List.all_eq_true.1 g6 j hj
    simp only [DB,Bool.and_eq_true] at hfx
    obtain ⟨hz,_⟩:=hfx
    split at hz
    ·split at hz
     ·rename_i ho'
      exact (List.getElem?_eq_some_iff.1 ho').1
     ·cases hz
    ·cases hz
  ·refine ⟨hp.defers,v,hv,v,_,objs',I',bl',rfl,g5,g3,hrep,⟨fun id o ho=>?_,fun id i hi=>?_,hHr.apart,hHr.own,hHr.imm,hHr.kept⟩,hfix⟩
   ·exact hHr.obj id o (by rw [g1,List.getElem?_append_left (List.getElem?_eq_some_iff.1 ho).1];exact ho)
   ·obtain ⟨o,ho⟩:=hHr.live id i hi
    rw [g1,List.getElem?_append] at ho
    split at ho
    ·exact ⟨o,ho⟩
    ·rename_i hlt
     simp only [List.length_map] at hlt ho
     cases hk:id - objs'.length with
     | zero=>
       have:id=objs'.length:=by omega
       subst this
       rw [hn1] at hi;cases hi
     | succ k=>
       rw [hk] at ho
       simp only [List.getElem?_cons_succ] at ho
       exact absurd ho (HU rest k o g2)
 cases e with
 | normal=>exact fin h1
 | ret=>exact fin h1
 | exit id=>exact h1.elim
 | goto l=>exact h1.elim
 | panic ch=>exact h1.elim
 | outgrown=>exact h1.elim
end
end Go.Proofs.YtkaiffheakalmaaGreatDoor
