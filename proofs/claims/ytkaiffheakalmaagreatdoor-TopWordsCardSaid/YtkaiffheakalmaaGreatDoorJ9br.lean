/- Joined. No conditions. -/
import Derived.Test.YtkaiffheakalmaaGreatDoorJ9bq
set_option linter.unusedSimpArgs false
set_option linter.unusedVariables false
set_option maxRecDepth 100000
namespace Go.Proofs.YtkaiffheakalmaaGreatDoor
open Go.RowKit
def Wu:List Nat→List V→(List (Nat×V)→Prop)→Prop
 | [],_,K=>K []
 | _::_,[],K=>K []
 | k::ks,x::l,K=>ja x fun x=>Wu ks l fun u=>K ((k,x)::u)
theorem JY:∀(ks:List Nat) (l:List V) (K:List (Nat×V)→Prop),Wu ks l K=K (ks.zip l)
 | [],_,K=>rfl
 | _::_,[],K=>rfl
 | k::ks,x::l,K=>by simp only [Wu,TK,JY ks l,List.zip_cons_cons]
structure InRetN (T:TT) (C:Ctx) (fn:Func) (id n:Nat) (ks:List Nat) (vs:List Value) (K:V→ES→Prop) (σ:ES):Prop where
 out:Up C (fun s=>∃l',s.heap[id]?=some (some (.hid vs l'))∧(∀r∈fn.results.toList,CM C.P s r)∧K (IQ C.P fn.results.toList s) ⟨n,ks.zip l',s.heap.set id none⟩) σ.st
def fF (T:TT) (C:Ctx) (fn:Func) (id n:Nat) (ks:List Nat) (vs:List Value) (K:V→ES→Prop) (e:Exit) (σ:ES):Prop:=
 match e with
 | .normal=>InRetN T C fn id n ks vs K σ
 | .ret=>InRetN T C fn id n ks vs K σ
 | _=>False
def Wv (id:Nat) (h:List (Option Ob)) (K:List Value→List V→Prop):Prop:=match h[id]? with|some (some (.hid vs l))=>K vs l|_=>False
section
variable {T:TT} {C:Ctx} {σ:ES}
theorem gc {fn:Func} {id n:Nat} {ks:List Nat} {vs:List Value} {K:V→ES→Prop} (hE:EOk T C)
 (h:HS T σ fn.results.toList fun l=>RU l fun r=>Wv id σ.heap fun vs' l'=>vs'=vs∧Wu ks l' fun u=>fH (σ.heap.set id none) fun h'=>K r ⟨n,u,h'⟩):InRetN T C fn id n ks vs K σ:=by
 refine ⟨BM ?_⟩
 obtain ⟨h1,h2⟩:=DV hE.all _ _ h
 have key:∀r,(Wv id σ.heap fun vs' l'=>vs'=vs∧Wu ks l' fun u=>fH (σ.heap.set id none) fun h'=>K r ⟨n,u,h'⟩)→∃l',σ.heap[id]?=some (some (.hid vs l'))∧K r ⟨n,ks.zip l',σ.heap.set id none⟩:=by
  intro r hr
  unfold Wv at hr
  split at hr
  ·rename_i vs' l' ho
   obtain ⟨rfl,hr⟩:=hr
   rw [JY,A7] at hr
   exact ⟨l',ho,hr⟩
  ·exact hr.elim
 unfold IQ
 generalize fn.results.toList=l at h1 h2
 have fin:∀x,(∃l',σ.heap[id]?=some (some (.hid vs l'))∧K x ⟨n,ks.zip l',σ.heap.set id none⟩)→∃l',σ.st.heap[id]?=some (some (.hid vs l'))∧(∀r∈l,CM C.P σ.st r)∧K x ⟨n,ks.zip l',σ.st.heap.set id none⟩:=
  fun x ⟨l',g1,g2⟩=>⟨l',g1,h1,g2⟩
 match l,h2,fin with
 | [],h2,fin=>exact fin _ (key _ h2)
 | [r],h2,fin=>exact fin _ (key _ h2)
 | r::r'::l,h2,fin=>exact fin _ (key _ h2)
theorem HZ {fn:Func} {id n:Nat} {ks:List Nat} {vs:List Value} {K:V→ES→Prop} (hE:EOk T C)
 (h:HS T σ fn.results.toList fun l=>RU l fun r=>Wv id σ.heap fun vs' l'=>vs'=vs∧K r ⟨n,ks.zip l',σ.heap.set id none⟩):InRetN T C fn id n ks vs K σ:=by
 refine ⟨BM ?_⟩
 obtain ⟨h1,h2⟩:=DV hE.all _ _ h
 have key:∀r,(Wv id σ.heap fun vs' l'=>vs'=vs∧K r ⟨n,ks.zip l',σ.heap.set id none⟩)→∃l',σ.heap[id]?=some (some (.hid vs l'))∧K r ⟨n,ks.zip l',σ.heap.set id none⟩:=by
  intro r hr
  unfold Wv at hr
  split at hr
  ·rename_i vs' l' ho
   obtain ⟨rfl,hr⟩:=hr
   exact ⟨l',ho,hr⟩
  ·exact hr.elim
 unfold IQ
 generalize fn.results.toList=l at h1 h2
 have fin:∀x,(∃l',σ.heap[id]?=some (some (.hid vs l'))∧K x ⟨n,ks.zip l',σ.heap.set id none⟩)→∃l',σ.st.heap[id]?=some (some (.hid vs l'))∧(∀r∈l,CM C.P σ.st r)∧K x ⟨n,ks.zip l',σ.st.heap.set id none⟩:=
  fun x ⟨l',g1,g2⟩=>⟨l',g1,h1,g2⟩
 match l,h2,fin with
 | [],h2,fin=>exact fin _ (key _ h2)
 | [r],h2,fin=>exact fin _ (key _ h2)
 | r::r'::l,h2,fin=>exact fin _ (key _ h2)
theorem Mn {fn:Func} {id n:Nat} {ks:List Nat} {vs:List Value} {K:V→ES→Prop} (h:UpE C (InRetN T C fn id n ks vs K) σ):InRetN T C fn id n ks vs K σ:=by
 refine ⟨?_⟩
 intro a w hr
 obtain ⟨s,⟨σ',rfl,h1⟩,hr'⟩:=h.out a w hr
 exact h1.out a w hr'
theorem Ww (ks:List Nat):∀(l:List V) (t:Nat),AU (ks.zip l) t= .any∨∃p:Nat,ks[p]?=some t∧l[p]?=some (AU (ks.zip l) t):=by
 induction ks with
 | nil=>intro l t;exact .inl rfl
 | cons k ks ih=>
   intro l t
   cases l with
   | nil=>exact .inl rfl
   | cons x l=>
     simp only [List.zip_cons_cons,AU]
     split
     ·rename_i e
      rw [D3 e]
      exact .inr ⟨0,rfl,rfl⟩
     ·rcases ih l t with h|⟨p,h1,h2⟩
      ·exact .inl h
      ·exact .inr ⟨p+1,h1,h2⟩
theorem C2 (id:Nat):∀l:List V,(∀(i:Nat) (c:V),l[i]?=some c→c.kill id=c)→AF id l=l
 | [],_=>by simp [AF]
 | x::l,h=>by
   simp only [AF]
   rw [h 0 x rfl,C2 id l fun i c hc=>h (i+1) c (by simpa using hc)]
theorem Ed (a b:Nat):∀l:List V,(∀(i:Nat) (c:V),l[i]?=some c→c.mv a b=c)→G3 a b l=l
 | [],_=>by simp [G3]
 | x::l,h=>by
   simp only [G3]
   rw [h 0 x rfl,Ed a b l fun i c hc=>h (i+1) c (by simpa using hc)]
theorem Dd (a:Nat) (els:List V):∀l:List V,(∀(i:Nat) (c:V),l[i]?=some c→c.frz a els=c)→Ai a els l=l
 | [],_=>by simp [Ai]
 | x::l,h=>by
   simp only [Ai]
   rw [h 0 x rfl,Dd a els l fun i c hc=>h (i+1) c (by simpa using hc)]
theorem Pr.free {w:World} {I:Nat→Prop} {v:Value} {x:V} (id b:Nat) (els:List V) (h:Pr w I v x):x.kill id=x∧x.mv id b=x∧x.frz id els=x:=by
 have get:∀(vs:List Value) (l:List V),vs.length=l.length→∀(i:Nat) (c:V),l[i]?=some c→∃v,vs[i]?=some v:=fun vs l hl i c hc=>⟨_,List.getElem?_eq_getElem (by have:=(List.getElem?_eq_some_iff.1 hc).1;omega)⟩
 induction h with
 | agg vs l h1 h2 h3 ih=>
   simp only [V.kill,V.mv,V.frz]
   rw [C2 id l fun i c hc=>by obtain ⟨v,hv⟩:=get vs l h1 i c hc;exact (ih i v c hv hc).1,Ed id b l fun i c hc=>by obtain ⟨v,hv⟩:=get vs l h1 i c hc;exact (ih i v c hv hc).2.1,Dd id els l fun i c hc=>by obtain ⟨v,hv⟩:=get vs l h1 i c hc;exact (ih i v c hv hc).2.2]
   exact ⟨rfl,rfl,rfl⟩
 | fn f vs l h1 h2 ih=>
   simp only [V.kill,V.mv,V.frz]
   rw [C2 id l fun i c hc=>by obtain ⟨v,hv⟩:=get vs l h1 i c hc;exact (ih i v c hv hc).1,Ed id b l fun i c hc=>by obtain ⟨v,hv⟩:=get vs l h1 i c hc;exact (ih i v c hv hc).2.1,Dd id els l fun i c hc=>by obtain ⟨v,hv⟩:=get vs l h1 i c hc;exact (ih i v c hv hc).2.2]
   exact ⟨rfl,rfl,rfl⟩
 | tup vs l h1 h2 ih=>
   simp only [V.kill,V.mv,V.frz]
   rw [C2 id l fun i c hc=>by obtain ⟨v,hv⟩:=get vs l h1 i c hc;exact (ih i v c hv hc).1,Ed id b l fun i c hc=>by obtain ⟨v,hv⟩:=get vs l h1 i c hc;exact (ih i v c hv hc).2.1,Dd id els l fun i c hc=>by obtain ⟨v,hv⟩:=get vs l h1 i c hc;exact (ih i v c hv hc).2.2]
   exact ⟨rfl,rfl,rfl⟩
 | _=>simp [V.kill,V.mv,V.frz]
theorem Rep.free {w:World} {I:Nat→Prop} {bl:Nat→Option BI} {v:Value} {x:V} {id:Nat} (b:Nat) (els:List V) (hn:bl id=none) (h:Rep w I bl v x):x.kill id=x∧x.mv id b=x∧x.frz id els=x:=by
 have get:∀(vs:List Value) (l:List V),vs.length=l.length→∀(i:Nat) (c:V),l[i]?=some c→∃v,vs[i]?=some v:=fun vs l hl i c hc=>⟨_,List.getElem?_eq_getElem (by have:=(List.getElem?_eq_some_iff.1 hc).1;omega)⟩
 have ne:∀{k:Nat} {i:BI},bl k=some i→k≠id:=fun h e=>by rw [e,hn] at h;cases h
 induction h with
 | pure v x h=>exact h.free id b els
 | nsl k base z h=>simp [V.kill,V.mv,V.frz,Oe,ne h]
 | sl k off len cap b' base z m e h1 h2 h3 h4 h5=>simp [V.kill,V.mv,V.frz,Oe,ne h1]
 | esl k off a i h=>simp [V.kill,V.mv,V.frz,Oe,ne h]
 | ptr k i j b' base z m e h1 h2=>simp [V.kill,V.mv,V.frz,Oe,ne h1]
 | it k b' base z h1=>simp [V.kill,V.mv,V.frz,Oe,ne h1]
 | agg vs l h1 h2 h3 ih=>
   simp only [V.kill,V.mv,V.frz]
   rw [C2 id l fun i c hc=>by obtain ⟨v,hv⟩:=get vs l h1 i c hc;exact (ih i v c hv hc).1,Ed id b l fun i c hc=>by obtain ⟨v,hv⟩:=get vs l h1 i c hc;exact (ih i v c hv hc).2.1,Dd id els l fun i c hc=>by obtain ⟨v,hv⟩:=get vs l h1 i c hc;exact (ih i v c hv hc).2.2]
   exact ⟨rfl,rfl,rfl⟩
 | fn f vs l h1 h2 ih=>
   simp only [V.kill,V.mv,V.frz]
   rw [C2 id l fun i c hc=>by obtain ⟨v,hv⟩:=get vs l h1 i c hc;exact (ih i v c hv hc).1,Ed id b l fun i c hc=>by obtain ⟨v,hv⟩:=get vs l h1 i c hc;exact (ih i v c hv hc).2.1,Dd id els l fun i c hc=>by obtain ⟨v,hv⟩:=get vs l h1 i c hc;exact (ih i v c hv hc).2.2]
   exact ⟨rfl,rfl,rfl⟩
 | tup vs l h1 h2 ih=>
   simp only [V.kill,V.mv,V.frz]
   rw [C2 id l fun i c hc=>by obtain ⟨v,hv⟩:=get vs l h1 i c hc;exact (ih i v c hv hc).1,Ed id b l fun i c hc=>by obtain ⟨v,hv⟩:=get vs l h1 i c hc;exact (ih i v c hv hc).2.1,Dd id els l fun i c hc=>by obtain ⟨v,hv⟩:=get vs l h1 i c hc;exact (ih i v c hv hc).2.2]
   exact ⟨rfl,rfl,rfl⟩
theorem Ha {P:Program} {f:FuncId} {fn:Func} {c:Code} {fop:Operand} {args:List Operand} {xs:List V} {K:V→ES→Prop} (hC:C.P=P) (hf:P.funcs[f]?=some fn) (hb:fn.body=some c) (hB:AB P f=true) (he:BO σ fop args=some (f,xs)) (hn:xs.length≤fn.ntmps)
 (id:Nat) (ks:List Nat) (hid:σ.heap[id]?=some none) (hks:(ks.all fun k=>Nat.blt k σ.n)=true)
 (h:∀vs,(∀k,σ.heap[k]?=some none→AF k (ks.map (AU σ.u))=ks.map (AU σ.u)∧(∀b,G3 k b (ks.map (AU σ.u))=ks.map (AU σ.u))∧∀els,Ai k els (ks.map (AU σ.u))=ks.map (AU σ.u))→PP C c (gY (fF T C fn id σ.n ks vs K)) (⟨fn.ntmps,HT 0 xs,σ.heap.set id (some (.hid vs (ks.map (AU σ.u))))⟩:ES).st):CallN C fop args f xs K σ:=by
 subst hC
 obtain ⟨caps,e1,e2⟩:=CI he
 refine ⟨BM ?_⟩
 unfold Dz
 rw [e1]
 simp only
 rw [e2]
 refine ⟨hB,?_⟩
 rintro a w vs ⟨I,bl,hdef,henv,hxs,hH⟩
 have hH:HeapRep C σ.heap w I bl:=hH
 refine calls_of_wp hf hb ?_
 have hsz:a.tmps.size=σ.n:=by
  have:=henv.1
  simpa [ES.st,ES.env] using this.symm
 have hkn:∀k∈ks,k < σ.n:=fun k hk=>Di.1 (List.all_eq_true.1 hks k hk)
 let vs0:List Value:=ks.map fun k=>(a.tmps[k]?).getD undef
 have hv0:∀(i:Nat) (v:Value) (x:V),vs0[i]?=some v→(ks.map (AU σ.u))[i]?=some x→Rep w I bl v x:=by
  intro i v x hv hx
  simp only [vs0,List.getElem?_map,Option.map_eq_some_iff] at hv hx
  obtain ⟨k,hk,rfl⟩:=hv
  obtain ⟨k',hk',rfl⟩:=hx
  rw [hk] at hk'
  simp only [Option.some.injEq] at hk'
  subst hk'
  have hlt:=hkn k (List.mem_of_getElem? hk)
  rw [Array.getElem?_eq_getElem (by omega:k < a.tmps.size)]
  refine henv.2 k _ _ (Array.getElem?_eq_getElem (by omega)) ?_
  show (ES.env σ)[k]?=_
  unfold ES.env
  rw [List.getElem?_map,List.getElem?_range hlt]
  rfl
 have hfree:∀k,σ.heap[k]?=some none→AF k (ks.map (AU σ.u))=ks.map (AU σ.u)∧(∀b,G3 k b (ks.map (AU σ.u))=ks.map (AU σ.u))∧∀els,Ai k els (ks.map (AU σ.u))=ks.map (AU σ.u):=by
  intro k hk
  have hkn:bl k=none:=by
   cases hb:bl k with
   | none=>rfl
   | some i=>
     obtain ⟨o,ho⟩:=hH.live _ _ hb
     rw [hk] at ho
     cases ho
  have key:∀(b:Nat) (els:List V) (i:Nat) (c:V),(ks.map (AU σ.u))[i]?=some c→c.kill k=c∧c.mv k b=c∧c.frz k els=c:=by
   intro b els i c hc
   obtain ⟨v,hv⟩:∃v,vs0[i]?=some v:=⟨_,List.getElem?_eq_getElem (by have:=(List.getElem?_eq_some_iff.1 hc).1;simp only [vs0,List.length_map] at this ⊢;exact this)⟩
   exact (hv0 i v c hv hc).free b els hkn
  exact ⟨C2 k _ fun i c hc=>(key 0 [] i c hc).1,fun b=>Ed k b _ fun i c hc=>(key b [] i c hc).2.1,fun els=>Dd k els _ fun i c hc=>(key 0 els i c hc).2.2⟩
 have hidl:id < σ.heap.length:=(List.getElem?_eq_some_iff.1 hid).1
 have hbn:bl id=none:=by
  cases hb:bl id with
  | none=>rfl
  | some i=>
    obtain ⟨o,ho⟩:=hH.live _ _ hb
    rw [hid] at ho
    cases ho
 have hH2:HeapRep C (σ.heap.set id (some (.hid vs0 (ks.map (AU σ.u))))) w I bl:=by
  refine ⟨fun j o ho=>?_,fun j i hi=>?_,hH.apart,hH.own,hH.imm,hH.kept⟩
  ·by_cases e:j=id
   ·subst e
    rw [List.getElem?_set_self hidl] at ho
    simp only [Option.some.injEq] at ho
    subst ho
    exact ⟨hbn,by simp [vs0],hv0⟩
   ·rw [List.getElem?_set_ne (Ne.symm e)] at ho
    exact hH.obj j o ho
  ·have e:j≠id:=by rintro rfl;rw [hbn] at hi;cases hi
   rw [List.getElem?_set_ne (Ne.symm e)]
   exact hH.live j i hi
 have hr:Rel C (⟨fn.ntmps,HT 0 xs,σ.heap.set id (some (.hid vs0 (ks.map (AU σ.u))))⟩:ES).st { tmps:=vs.toArray++Array.replicate (fn.ntmps - vs.toArray.size) undef,defers:=[]} w:=by
  rw [Pl _ _ _ hn]
  refine RP.rel (I:=I) (bl:=bl) ⟨rfl,⟨by simp [hxs.1],fun i v x hv hx=>?_⟩,hH2⟩
  rw [List.getElem?_append] at hx
  rw [Array.getElem?_append] at hv
  have hl:=hxs.1
  split at hx
  ·rename_i hi
   have hi':i < vs.toArray.size:=by simp;omega
   rw [if_pos hi'] at hv
   exact hxs.2 i v x (by simpa [List.getElem?_eq_getElem (show i < vs.length by omega)] using hv) hx
  ·have:x= .any:=by
    obtain ⟨h1,h2⟩:=List.getElem?_eq_some_iff.1 hx
    rw [←h2];simp
   subst this
   exact .pure _ _ (.any _)
 refine wp_mono (h vs0 hfree _ w hr) ?_
 rintro e a' w' ⟨s',⟨σ',rfl,h1⟩,h2⟩
 have fin:InRetN T C fn id σ.n ks vs0 K σ'→a'.defers=[]∧∃v,(results fn a'.tmps).run C.P w'= .ok v w'∧
  ∃v' r σ'',Ending.returned v= .returned v'∧Fb K r σ''∧IA C σ'' [r] a w' [v']:=by
  intro h1
  obtain ⟨s2,⟨l',g1,g4,g5⟩,hr2⟩:=h1.out a' w' h2
  obtain ⟨I',bl',hp⟩:=hr2.parts
  obtain ⟨v,hv,hrep⟩:=Fd hp g4
  have hHr:HeapRep C s2.heap w' I' bl':=hp.heap
  obtain ⟨hn1,hn2,hn3⟩:ObRep w' I' bl' id (.hid vs0 l'):=hHr.obj _ _ g1
  have hlt2:id < s2.heap.length:=(List.getElem?_eq_some_iff.1 g1).1
  refine ⟨hp.defers,v,hv,v,_,_,rfl,DH g5,I',bl',hdef,⟨?_,fun i u x hu hx=>?_⟩,⟨rfl,fun i u x hu hx=>?_⟩,⟨fun j o ho=>?_,fun j i hi=>?_,hHr.apart,hHr.own,hHr.imm,hHr.kept⟩⟩
  ·simp [ES.st,ES.env,hsz]
  ·have hx:(ES.env ⟨σ.n,ks.zip l',s2.heap.set id none⟩)[i]?=some x:=hx
   unfold ES.env at hx
   rw [List.getElem?_map,Option.map_eq_some_iff] at hx
   obtain ⟨t,ht,rfl⟩:=hx
   have hti:t=i:=by
    have:=(List.getElem?_eq_some_iff.1 ht)
    simpa using this.2.symm
   subst hti
   rcases Ww ks l' t with e|⟨p,hp1,hp2⟩
   ·simp only [e]
    exact .pure _ _ (.any _)
   ·refine hn3 p u _ ?_ hp2
    simp only [vs0,List.getElem?_map,hp1,Option.map_some,Option.some.injEq]
    rw [hu]
    rfl
  ·cases i with
   | succ i=>simp at hu
   | zero=>
     simp at hu hx
     subst hu;subst hx
     exact hrep
  ·have ho:(s2.heap.set id none)[j]?=some (some o):=ho
   by_cases e:j=id
   ·subst e
    rw [List.getElem?_set_self hlt2] at ho
    simp at ho
   ·rw [List.getElem?_set_ne (Ne.symm e)] at ho
    exact hHr.obj j o ho
  ·show ∃o,(s2.heap.set id none)[j]?=some (some o)
   have e:j≠id:=by rintro rfl;rw [hn1] at hi;cases hi
   rw [List.getElem?_set_ne (Ne.symm e)]
   exact hHr.live j i hi
 cases e with
 | normal=>exact fin h1
 | ret=>exact fin h1
 | exit id=>exact h1.elim
 | goto l=>exact h1.elim
 | panic ch=>exact h1.elim
 | outgrown=>exact h1.elim
theorem JZ (hE:EOk T C) {c:Code} {Q:Exit→ES→Prop} (hc:Bl c=true) (h:Ea T C c Q σ):PP C c (gY Q) σ.st:=HM hE c hc _ _ h
end
def C3 (ty au:List V) (Z:List Int) (m:Mc) (w:List Int) (L:Nat):V:=.agg [.rp [.lst ty,.lst au,AL Z],.lst (m.N.map AL),.lst (m.F.map V.bool),AL w,.sl 1 0 L]
def CJ (R:List Ce):Option Ob:=some (.row 3 (R.map G0))
def FB (T:V) (n L:Nat) (o2:Option Ob) (v7:List Value) (G:List (List Ce)):List (Option Ob):=some (.row 5 [T])::some (.row 1 (Dq 8 n L))::o2::none::none::none::none::some (.hid v7 [])::G.map CJ
theorem PE {h:List (Option Ob)} (h':List (Option Ob)) {K:List (Option Ob)→Prop} (e:h=h') (hk:K h'):fH h K:=by rw [A7,e];exact hk
theorem Li (q:Nat):∀R:List Ce,AF q (R.map G0)=R.map G0
 | []=>by simp [AF]
 | c::R=>by simp [AF,G0,V.kill,Li q R]
theorem BR (q:Nat) (o:Ob) (h:List (Option Ob)):BC q (some o::h)=some (o.kill q)::BC q h:=by simp [BC]
theorem DQ (q:Nat) (h:List (Option Ob)):BC q (none::h)=none::BC q h:=by simp [BC]
theorem Js (q:Nat):∀G:List (List Ce),BC q (G.map CJ)=G.map CJ
 | []=>by simp [BC]
 | R::G=>by
   rw [List.map_cons]
   show BC q (some (.row 3 (R.map G0))::G.map CJ)=some (.row 3 (R.map G0))::G.map CJ
   rw [BR,Js q G]
   simp only [Ob.kill,Li]
theorem Io (q:Nat):∀l:List V,AF q l=l.map (V.kill q)
 | []=>by simp [AF]
 | x::l=>by simp [AF,Io q l]
theorem Jt {q p:Nat} (m n:Nat) (h:q < p):AF q (Dq p m n)=Dq p m n:=by
 rw [Io]
 unfold Dq
 rw [List.map_map]
 refine List.map_congr_left fun j _=>?_
 have:¬j+p=q:=by omega
 simp [V.kill,this]
theorem gC {G:List (List Ce)} {kid i:Nat} {R:List Ce} (c:Ce):(G.map CJ).set kid (some (.row 3 ((R.map G0).set i (G0 c))))=(G.set kid (R.set i c)).map CJ:=by
 rw [List.map_set]
 simp only [CJ,List.map_set]
section
variable {C:Ctx} {σ:ES} {fop:Operand} {args:List Operand} {K:V→ES→Prop}
theorem GJ {G:List (List Ce)} {R:List Ce} {kid state:Nat} {d f:Int} {x:V} {o7:Option Ob} {E1:List V} {G1:List (Option Ob)} (hE1:E1=(R.map G0).set (0+Int.toNat (state:Int)) x) (hG1:G1=(G.map CJ).set kid (some (.row 3 E1))):(o7::G1).set (kid+1) (some (.row 3 (E1.set (0+Int.toNat (state:Int)) (.agg [.int .i64 d,.int .i64 f,.bool true]))))=o7::(G.set kid (R.set state ⟨d,f,true⟩)).map CJ:=by
 rw [←gC,hG1,hE1,Nat.zero_add,Int.toNat_natCast]
 simp only [List.set_cons_succ,List.set_set]
 rfl
theorem NU (hE:EOk Tryz.tt C) {ty au:List V} {Z:List Int} {m:Mc} {w:List Int} {n L:Nat} {v7:List Value} {G:List (List Ce)} {R:List Ce} {kid state:Nat} {d f:Int} {b:Bool} {sn:Nat} {ks:List Nat} {vs:List Value} {l1 l2:List V} {a1 a2 a3 a4:Int}
 (hK:K (.bool b) ⟨sn,ks.zip [.ptr 0 0 0,.lst l1,.lst l2,.int .i64 a1,.int .i64 a2,.int .i64 a3,.int .i64 a4],some (.row 5 [.agg [.rp [.lst ty,.lst au,AL Z],.lst (m.N.map AL),.lst (m.F.map V.bool),AL w,.sl 1 0 L]])::some (.row 1 (Dq 8 n L))::none::none::none::none::none::some (.hid v7 [])::(cond b (G.set kid (R.set state ⟨d,f,true⟩)) G).map CJ⟩)
 (u':List (Nat×V)) (X:List (Option Ob)) (hu':AU u' 8= .bool b) (hX:X=some (.hid v7 [])::(cond b (G.set kid (R.set state ⟨d,f,true⟩)) G).map CJ):
 InRetN Tryz.tt C Tryz.f49 2 sn ks vs K ⟨39,u',some (.row 5 [.agg [.rp [.lst ty,.lst au,AL Z],.lst (m.N.map AL),.lst (m.F.map V.bool),AL w,.sl 1 0 L]])::some (.row 1 (Dq 8 n L))::some (.hid vs [.ptr 0 0 0,.lst l1,.lst l2,.int .i64 a1,.int .i64 a2,.int .i64 a3,.int .i64 a4])::some (.row 2 [.agg [.int .i64 d,.int .i64 f]])::none::none::none::X⟩:=by
 subst hX
 refine Mn (Bm [8] (BN 3 (B5 (σ':=⟨39,[(8,.bool b)],some (.row 5 [.agg [.rp [.lst ty,.lst au,AL Z],.lst (m.N.map AL),.lst (m.F.map V.bool),AL w,.sl 1 0 L]])::some (.row 1 (Dq 8 n L))::some (.hid vs [.ptr 0 0 0,.lst l1,.lst l2,.int .i64 a1,.int .i64 a2,.int .i64 a3,.int .i64 a4])::none::none::none::none::some (.hid v7 [])::(cond b (G.set kid (R.set state ⟨d,f,true⟩)) G).map CJ⟩) (AH (HZ hE ?_)) ?_)))
 ·cases b
  all_goals
   conv=>whnf
   exact ⟨rfl,hK⟩
 ·rw [BR,BR,BR,BR,DQ,DQ,DQ,BR,Js]
  simp only [Ob.kill,Az,List.map_cons,List.map_nil,hu',Jt _ _ (show 3 < 8 by decide),and_true]
  simp [AF,V.kill,AL]
theorem NV (hE:EOk Tryz.tt C) {ty au:List V} {Z:List Int} {m:Mc} {w:List Int} {n L:Nat} {v7:List Value} {G:List (List Ce)} {R:List Ce} {kid state:Nat} {d f:Int} {b:Bool} {sn:Nat} {ks:List Nat} {vs:List Value} {v2:List Value} {l1 l2 l3:List V} {a1 a2 a3 a4 a5 a6 a7:Int} {b1 b2:Bool}
 (hK:K (.bool b) ⟨sn,ks.zip [.ptr 0 0 0,.int .i64 a1,.bool b1,.lst l1,.int .i64 a2,.int .i64 a3,.lst l2,.int .i64 a4,.int .i64 a5,.bool b2,.int .i64 a7],some (.row 5 [.agg [.rp [.lst ty,.lst au,AL Z],.lst (m.N.map AL),.lst (m.F.map V.bool),AL w,.sl 1 0 L]])::some (.row 1 (Dq 8 n L))::some (.hid v2 [.ptr 0 0 0,.lst l3,.int .i64 a6])::none::none::none::none::some (.hid v7 [])::(cond b (G.set kid (R.set state ⟨d,f,true⟩)) G).map CJ⟩)
 (u':List (Nat×V)) (X:List (Option Ob)) (hu':AU u' 8= .bool b) (hX:X=some (.hid v7 [])::(cond b (G.set kid (R.set state ⟨d,f,true⟩)) G).map CJ):
 InRetN Tryz.tt C Tryz.f49 3 sn ks vs K ⟨39,u',some (.row 5 [.agg [.rp [.lst ty,.lst au,AL Z],.lst (m.N.map AL),.lst (m.F.map V.bool),AL w,.sl 1 0 L]])::some (.row 1 (Dq 8 n L))::some (.hid v2 [.ptr 0 0 0,.lst l3,.int .i64 a6])::some (.hid vs [.ptr 0 0 0,.int .i64 a1,.bool b1,.lst l1,.int .i64 a2,.int .i64 a3,.lst l2,.int .i64 a4,.int .i64 a5,.bool b2,.int .i64 a7])::some (.row 2 [.agg [.int .i64 d,.int .i64 f]])::none::none::X⟩:=by
 subst hX
 refine Mn (Bm [8] (BN 4 (B5 (σ':=⟨39,[(8,.bool b)],some (.row 5 [.agg [.rp [.lst ty,.lst au,AL Z],.lst (m.N.map AL),.lst (m.F.map V.bool),AL w,.sl 1 0 L]])::some (.row 1 (Dq 8 n L))::some (.hid v2 [.ptr 0 0 0,.lst l3,.int .i64 a6])::some (.hid vs [.ptr 0 0 0,.int .i64 a1,.bool b1,.lst l1,.int .i64 a2,.int .i64 a3,.lst l2,.int .i64 a4,.int .i64 a5,.bool b2,.int .i64 a7])::none::none::none::some (.hid v7 [])::(cond b (G.set kid (R.set state ⟨d,f,true⟩)) G).map CJ⟩) (AH (HZ hE ?_)) ?_)))
 ·cases b
  all_goals
   conv=>whnf
   exact ⟨rfl,hK⟩
 ·rw [BR,BR,BR,BR,BR,DQ,DQ,BR,Js]
  simp only [Ob.kill,Az,List.map_cons,List.map_nil,hu',Jt _ _ (show 4 < 8 by decide),and_true]
  simp [AF,V.kill,AL]
theorem NW (hE:EOk Tryz.tt C) {ty au:List V} {Z:List Int} {m:Mc} {w:List Int} {n L:Nat} {v7:List Value} {G:List (List Ce)} {R:List Ce} {kid state:Nat} {d f:Int} {b:Bool} {sn:Nat} {ks:List Nat} {vs:List Value} {c:Ce} {l1 l2:List V} {a1 a2 a3 a4:Int}
 (hK:K (.bool b) ⟨sn,ks.zip [.ptr 0 0 0,.lst l1,.lst l2,.int .i64 a1,.int .i64 a2,.int .i64 a3,.int .i64 a4],some (.row 5 [.agg [.rp [.lst ty,.lst au,AL Z],.lst (m.N.map AL),.lst (m.F.map V.bool),AL w,.sl 1 0 L]])::some (.row 1 (Dq 8 n L))::some (.row 3 [.agg [.int .i64 c.d,.int .i64 c.f,.bool c.ok]])::none::none::none::none::some (.hid v7 [])::(cond b (G.set kid (R.set state ⟨d,f,true⟩)) G).map CJ⟩)
 (u':List (Nat×V)) (X:List (Option Ob)) (hu':AU u' 8= .bool b) (hX:X=some (.hid v7 [])::(cond b (G.set kid (R.set state ⟨d,f,true⟩)) G).map CJ):
 InRetN Tryz.tt C Tryz.f49 3 sn ks vs K ⟨39,u',some (.row 5 [.agg [.rp [.lst ty,.lst au,AL Z],.lst (m.N.map AL),.lst (m.F.map V.bool),AL w,.sl 1 0 L]])::some (.row 1 (Dq 8 n L))::some (.row 3 [.agg [.int .i64 c.d,.int .i64 c.f,.bool c.ok]])::some (.hid vs [.ptr 0 0 0,.lst l1,.lst l2,.int .i64 a1,.int .i64 a2,.int .i64 a3,.int .i64 a4])::some (.row 2 [.agg [.int .i64 d,.int .i64 f]])::none::none::X⟩:=by
 subst hX
 refine Mn (Bm [8] (BN 4 (B5 (σ':=⟨39,[(8,.bool b)],some (.row 5 [.agg [.rp [.lst ty,.lst au,AL Z],.lst (m.N.map AL),.lst (m.F.map V.bool),AL w,.sl 1 0 L]])::some (.row 1 (Dq 8 n L))::some (.row 3 [.agg [.int .i64 c.d,.int .i64 c.f,.bool c.ok]])::some (.hid vs [.ptr 0 0 0,.lst l1,.lst l2,.int .i64 a1,.int .i64 a2,.int .i64 a3,.int .i64 a4])::none::none::none::some (.hid v7 [])::(cond b (G.set kid (R.set state ⟨d,f,true⟩)) G).map CJ⟩) (AH (HZ hE ?_)) ?_)))
 ·cases b
  all_goals
   conv=>whnf
   exact ⟨rfl,hK⟩
 ·rw [BR,BR,BR,BR,BR,DQ,DQ,BR,Js]
  simp only [Ob.kill,Az,List.map_cons,List.map_nil,hu',Jt _ _ (show 4 < 8 by decide),and_true]
  simp [AF,V.kill,AL]
set_option maxHeartbeats 4000000 in
theorem PF (hE:EOk Tryz.tt C) (hC:C.P=Tryz.prog) {ty au:List V} {Z:List Int} {m:Mc} {w:List Int} {n L:Nat} {v7:List Value} {G:List (List Ce)} {R:List Ce} {kid state:Nat} {a:Ce} {d f:Int} {b:Bool} {l1 l2:List V} {a1 a2 a3 a4:Int}
 (hG:G[kid]?=some R) (hL:G.length=L) (hR:R.length=n) (ha:R[state]?=some a) (hb:Ip a d f=b)
 (ks:List Nat) (hks:(ks.all fun k=>Nat.blt k σ.n)=true) (hL0:ks.map (AU σ.u)=[.ptr 0 0 0,.lst l1,.lst l2,.int .i64 a1,.int .i64 a2,.int .i64 a3,.int .i64 a4]) (he:BO σ fop args=some (49,[.ptr 0 0 0,.int .i64 state,.int .i64 kid,Dx d f]))
 (hh:σ.heap=FB (C3 ty au Z m w L) n L (none) v7 G)
 (hK:K (.bool b) ⟨σ.n,ks.zip [.ptr 0 0 0,.lst l1,.lst l2,.int .i64 a1,.int .i64 a2,.int .i64 a3,.int .i64 a4],FB (C3 ty au Z m w L) n L (none) v7 (cond b (G.set kid (R.set state ⟨d,f,true⟩)) G)⟩):
 CallN C fop args 49 [.ptr 0 0 0,.int .i64 state,.int .i64 kid,Dx d f] K σ:=by
 obtain ⟨sn,u,h⟩:=σ
 simp only at hh hK hks hL0
 subst hh
 have hkl:kid < L:=by rw [←hL];exact (List.getElem?_eq_some_iff.1 hG).1
 have hsl:state < n:=by rw [←hR];exact (List.getElem?_eq_some_iff.1 ha).1
 have hss:(Dq 8 n L).length=L:=FQ 8 n L
 have hRm:(R.map G0).length=R.length:=by simp
 have g1:=P8 (p:=8) (m:=n) hkl
 have g2:(G.map CJ)[kid]?=some (some (.row 3 (R.map G0))):=by rw [List.getElem?_map,hG];rfl
 have g3:(R.map G0)[0+Int.toNat (state:Int)]?=some (.agg [.int .i64 a.d,.int .i64 a.f,.bool a.ok]):=by rw [Nat.zero_add,Int.toNat_natCast,List.getElem?_map,ha];rfl
 have hGm:(G.map CJ).length=G.length:=by simp
 obtain ⟨E1,hE1⟩:∃E1,E1=(R.map G0).set (0+Int.toNat (state:Int)) (.agg [.int .i64 d,.int .i64 f,.bool a.ok]):=⟨_,rfl⟩
 obtain ⟨G1,hG1⟩:∃G1,G1=(G.map CJ).set kid (some (.row 3 E1)):=⟨_,rfl⟩
 have g5:E1[0+Int.toNat (state:Int)]?=some (.agg [.int .i64 d,.int .i64 f,.bool a.ok]):=by rw [hE1];exact List.getElem?_set_self (by omega)
 have g4:G1[kid]?=some (some (.row 3 E1)):=by rw [hG1];exact List.getElem?_set_self (by omega)
 have hG2:(G.map CJ).set kid (some (.row 3 ((R.map G0).set (0+Int.toNat (state:Int)) (.agg [.int .i64 d,.int .i64 f,.bool a.ok]))))=G1:=by rw [hG1,hE1]
 have hls:=Qi d f a.d a.f
 obtain ⟨ad,af,ak⟩:=a
 dsimp only at g3 g5 hE1 hG2 hls hb
 unfold Ip at hb
 dsimp only at hb
 unfold FB at*
 unfold Dx at*
 refine Ha (T:=Tryz.tt) hC Tryz.func49 rfl It he (Nat.le_of_ble_eq_true (by kernel_rfl)) 2 ks rfl hks fun vs hfree=>?_
 have hc0:Bl (((Tryz.f49).body).getD .skip)=true:=by kernel_rfl
 refine JZ hE hc0 ?_
 simp only at*
 rw [hL0]
 generalize hGT:G.map CJ=GT at*
 clear he hfree hL0
 unfold C3 at*
 cases ak with
 | false=>
   obtain rfl:true=b:=hb
   conv=>whnf
   repeat' (first|refine AO ?_|refine Ad ?_|refine PE G1 hG2 ?_|refine B3 ?_|(refine An hE ?_ ?_;decide +kernel))<;>conv=>whnf
   refine NU (b:=true) (G:=G) (kid:=kid) (R:=R) (state:=state) (d:=d) (f:=f) hE hK _ _ ?_ ?_
   rfl
   subst hGT
   exact GJ hE1 hG1
 | true=>
   cases hl:Se d f ad af with
   | true=>
     rw [hl] at hb hls
     obtain rfl:true=b:=hb
     conv=>whnf
     repeat' (first|refine AO ?_|refine Ad ?_|refine PE G1 hG2 ?_|refine B3 ?_|refine Dt hls hC EK ?_|(refine An hE ?_ ?_;decide +kernel))<;>conv=>whnf
     refine NU (b:=true) (G:=G) (kid:=kid) (R:=R) (state:=state) (d:=d) (f:=f) hE hK _ _ ?_ ?_
     rfl
     subst hGT
     exact GJ hE1 hG1
   | false=>
     rw [hl] at hb hls
     obtain rfl:false=b:=hb
     conv=>whnf
     repeat' (first|refine AO ?_|refine Ad ?_|refine B3 ?_|refine Dt hls hC EK ?_|(refine An hE ?_ ?_;decide +kernel))<;>conv=>whnf
     refine NU (b:=false) (G:=G) (kid:=kid) (R:=R) (state:=state) (d:=d) (f:=f) hE hK _ _ ?_ ?_
     rfl
     subst hGT
     exact rfl
set_option maxHeartbeats 4000000 in
theorem PG (hE:EOk Tryz.tt C) (hC:C.P=Tryz.prog) {ty au:List V} {Z:List Int} {m:Mc} {w:List Int} {n L:Nat} {v7:List Value} {G:List (List Ce)} {R:List Ce} {kid state:Nat} {a:Ce} {d f:Int} {b:Bool} {v2:List Value} {l1 l2 l3:List V} {a1 a2 a3 a4 a5 a6 a7:Int} {b1 b2:Bool}
 (hG:G[kid]?=some R) (hL:G.length=L) (hR:R.length=n) (ha:R[state]?=some a) (hb:Ip a d f=b)
 (ks:List Nat) (hks:(ks.all fun k=>Nat.blt k σ.n)=true) (hL0:ks.map (AU σ.u)=[.ptr 0 0 0,.int .i64 a1,.bool b1,.lst l1,.int .i64 a2,.int .i64 a3,.lst l2,.int .i64 a4,.int .i64 a5,.bool b2,.int .i64 a7]) (he:BO σ fop args=some (49,[.ptr 0 0 0,.int .i64 state,.int .i64 kid,Dx d f]))
 (hh:σ.heap=FB (C3 ty au Z m w L) n L (some (.hid v2 [.ptr 0 0 0,.lst l3,.int .i64 a6])) v7 G)
 (hK:K (.bool b) ⟨σ.n,ks.zip [.ptr 0 0 0,.int .i64 a1,.bool b1,.lst l1,.int .i64 a2,.int .i64 a3,.lst l2,.int .i64 a4,.int .i64 a5,.bool b2,.int .i64 a7],FB (C3 ty au Z m w L) n L (some (.hid v2 [.ptr 0 0 0,.lst l3,.int .i64 a6])) v7 (cond b (G.set kid (R.set state ⟨d,f,true⟩)) G)⟩):
 CallN C fop args 49 [.ptr 0 0 0,.int .i64 state,.int .i64 kid,Dx d f] K σ:=by
 obtain ⟨sn,u,h⟩:=σ
 simp only at hh hK hks hL0
 subst hh
 have hkl:kid < L:=by rw [←hL];exact (List.getElem?_eq_some_iff.1 hG).1
 have hsl:state < n:=by rw [←hR];exact (List.getElem?_eq_some_iff.1 ha).1
 have hss:(Dq 8 n L).length=L:=FQ 8 n L
 have hRm:(R.map G0).length=R.length:=by simp
 have g1:=P8 (p:=8) (m:=n) hkl
 have g2:(G.map CJ)[kid]?=some (some (.row 3 (R.map G0))):=by rw [List.getElem?_map,hG];rfl
 have g3:(R.map G0)[0+Int.toNat (state:Int)]?=some (.agg [.int .i64 a.d,.int .i64 a.f,.bool a.ok]):=by rw [Nat.zero_add,Int.toNat_natCast,List.getElem?_map,ha];rfl
 have hGm:(G.map CJ).length=G.length:=by simp
 obtain ⟨E1,hE1⟩:∃E1,E1=(R.map G0).set (0+Int.toNat (state:Int)) (.agg [.int .i64 d,.int .i64 f,.bool a.ok]):=⟨_,rfl⟩
 obtain ⟨G1,hG1⟩:∃G1,G1=(G.map CJ).set kid (some (.row 3 E1)):=⟨_,rfl⟩
 have g5:E1[0+Int.toNat (state:Int)]?=some (.agg [.int .i64 d,.int .i64 f,.bool a.ok]):=by rw [hE1];exact List.getElem?_set_self (by omega)
 have g4:G1[kid]?=some (some (.row 3 E1)):=by rw [hG1];exact List.getElem?_set_self (by omega)
 have hG2:(G.map CJ).set kid (some (.row 3 ((R.map G0).set (0+Int.toNat (state:Int)) (.agg [.int .i64 d,.int .i64 f,.bool a.ok]))))=G1:=by rw [hG1,hE1]
 have hls:=Qi d f a.d a.f
 obtain ⟨ad,af,ak⟩:=a
 dsimp only at g3 g5 hE1 hG2 hls hb
 unfold Ip at hb
 dsimp only at hb
 unfold FB at*
 unfold Dx at*
 refine Ha (T:=Tryz.tt) hC Tryz.func49 rfl It he (Nat.le_of_ble_eq_true (by kernel_rfl)) 3 ks rfl hks fun vs hfree=>?_
 have hc0:Bl (((Tryz.f49).body).getD .skip)=true:=by kernel_rfl
 refine JZ hE hc0 ?_
 simp only at*
 rw [hL0]
 generalize hGT:G.map CJ=GT at*
 clear he hfree hL0
 unfold C3 at*
 cases ak with
 | false=>
   obtain rfl:true=b:=hb
   conv=>whnf
   repeat' (first|refine AO ?_|refine Ad ?_|refine PE G1 hG2 ?_|refine B3 ?_|(refine An hE ?_ ?_;decide +kernel))<;>conv=>whnf
   refine NV (b:=true) (G:=G) (kid:=kid) (R:=R) (state:=state) (d:=d) (f:=f) hE hK _ _ ?_ ?_
   rfl
   subst hGT
   exact GJ hE1 hG1
 | true=>
   cases hl:Se d f ad af with
   | true=>
     rw [hl] at hb hls
     obtain rfl:true=b:=hb
     conv=>whnf
     repeat' (first|refine AO ?_|refine Ad ?_|refine PE G1 hG2 ?_|refine B3 ?_|refine Dt hls hC EK ?_|(refine An hE ?_ ?_;decide +kernel))<;>conv=>whnf
     refine NV (b:=true) (G:=G) (kid:=kid) (R:=R) (state:=state) (d:=d) (f:=f) hE hK _ _ ?_ ?_
     rfl
     subst hGT
     exact GJ hE1 hG1
   | false=>
     rw [hl] at hb hls
     obtain rfl:false=b:=hb
     conv=>whnf
     repeat' (first|refine AO ?_|refine Ad ?_|refine B3 ?_|refine Dt hls hC EK ?_|(refine An hE ?_ ?_;decide +kernel))<;>conv=>whnf
     refine NV (b:=false) (G:=G) (kid:=kid) (R:=R) (state:=state) (d:=d) (f:=f) hE hK _ _ ?_ ?_
     rfl
     subst hGT
     exact rfl
set_option maxHeartbeats 4000000 in
theorem PH (hE:EOk Tryz.tt C) (hC:C.P=Tryz.prog) {ty au:List V} {Z:List Int} {m:Mc} {w:List Int} {n L:Nat} {v7:List Value} {G:List (List Ce)} {R:List Ce} {kid state:Nat} {a:Ce} {d f:Int} {b:Bool} {c:Ce} {l1 l2:List V} {a1 a2 a3 a4:Int}
 (hG:G[kid]?=some R) (hL:G.length=L) (hR:R.length=n) (ha:R[state]?=some a) (hb:Ip a d f=b)
 (ks:List Nat) (hks:(ks.all fun k=>Nat.blt k σ.n)=true) (hL0:ks.map (AU σ.u)=[.ptr 0 0 0,.lst l1,.lst l2,.int .i64 a1,.int .i64 a2,.int .i64 a3,.int .i64 a4]) (he:BO σ fop args=some (49,[.ptr 0 0 0,.int .i64 state,.int .i64 kid,Dx d f]))
 (hh:σ.heap=FB (C3 ty au Z m w L) n L (some (.row 3 [.agg [.int .i64 c.d,.int .i64 c.f,.bool c.ok]])) v7 G)
 (hK:K (.bool b) ⟨σ.n,ks.zip [.ptr 0 0 0,.lst l1,.lst l2,.int .i64 a1,.int .i64 a2,.int .i64 a3,.int .i64 a4],FB (C3 ty au Z m w L) n L (some (.row 3 [.agg [.int .i64 c.d,.int .i64 c.f,.bool c.ok]])) v7 (cond b (G.set kid (R.set state ⟨d,f,true⟩)) G)⟩):
 CallN C fop args 49 [.ptr 0 0 0,.int .i64 state,.int .i64 kid,Dx d f] K σ:=by
 obtain ⟨sn,u,h⟩:=σ
 simp only at hh hK hks hL0
 subst hh
 have hkl:kid < L:=by rw [←hL];exact (List.getElem?_eq_some_iff.1 hG).1
 have hsl:state < n:=by rw [←hR];exact (List.getElem?_eq_some_iff.1 ha).1
 have hss:(Dq 8 n L).length=L:=FQ 8 n L
 have hRm:(R.map G0).length=R.length:=by simp
 have g1:=P8 (p:=8) (m:=n) hkl
 have g2:(G.map CJ)[kid]?=some (some (.row 3 (R.map G0))):=by rw [List.getElem?_map,hG];rfl
 have g3:(R.map G0)[0+Int.toNat (state:Int)]?=some (.agg [.int .i64 a.d,.int .i64 a.f,.bool a.ok]):=by rw [Nat.zero_add,Int.toNat_natCast,List.getElem?_map,ha];rfl
 have hGm:(G.map CJ).length=G.length:=by simp
 obtain ⟨E1,hE1⟩:∃E1,E1=(R.map G0).set (0+Int.toNat (state:Int)) (.agg [.int .i64 d,.int .i64 f,.bool a.ok]):=⟨_,rfl⟩
 obtain ⟨G1,hG1⟩:∃G1,G1=(G.map CJ).set kid (some (.row 3 E1)):=⟨_,rfl⟩
 have g5:E1[0+Int.toNat (state:Int)]?=some (.agg [.int .i64 d,.int .i64 f,.bool a.ok]):=by rw [hE1];exact List.getElem?_set_self (by omega)
 have g4:G1[kid]?=some (some (.row 3 E1)):=by rw [hG1];exact List.getElem?_set_self (by omega)
 have hG2:(G.map CJ).set kid (some (.row 3 ((R.map G0).set (0+Int.toNat (state:Int)) (.agg [.int .i64 d,.int .i64 f,.bool a.ok]))))=G1:=by rw [hG1,hE1]
 have hls:=Qi d f a.d a.f
 obtain ⟨ad,af,ak⟩:=a
 dsimp only at g3 g5 hE1 hG2 hls hb
 unfold Ip at hb
 dsimp only at hb
 unfold FB at*
 unfold Dx at*
 refine Ha (T:=Tryz.tt) hC Tryz.func49 rfl It he (Nat.le_of_ble_eq_true (by kernel_rfl)) 3 ks rfl hks fun vs hfree=>?_
 have hc0:Bl (((Tryz.f49).body).getD .skip)=true:=by kernel_rfl
 refine JZ hE hc0 ?_
 simp only at*
 rw [hL0]
 generalize hGT:G.map CJ=GT at*
 clear he hfree hL0
 unfold C3 at*
 cases ak with
 | false=>
   obtain rfl:true=b:=hb
   conv=>whnf
   repeat' (first|refine AO ?_|refine Ad ?_|refine PE G1 hG2 ?_|refine B3 ?_|(refine An hE ?_ ?_;decide +kernel))<;>conv=>whnf
   refine NW (b:=true) (G:=G) (kid:=kid) (R:=R) (state:=state) (d:=d) (f:=f) hE hK _ _ ?_ ?_
   rfl
   subst hGT
   exact GJ hE1 hG1
 | true=>
   cases hl:Se d f ad af with
   | true=>
     rw [hl] at hb hls
     obtain rfl:true=b:=hb
     conv=>whnf
     repeat' (first|refine AO ?_|refine Ad ?_|refine PE G1 hG2 ?_|refine B3 ?_|refine Dt hls hC EK ?_|(refine An hE ?_ ?_;decide +kernel))<;>conv=>whnf
     refine NW (b:=true) (G:=G) (kid:=kid) (R:=R) (state:=state) (d:=d) (f:=f) hE hK _ _ ?_ ?_
     rfl
     subst hGT
     exact GJ hE1 hG1
   | false=>
     rw [hl] at hb hls
     obtain rfl:false=b:=hb
     conv=>whnf
     repeat' (first|refine AO ?_|refine Ad ?_|refine B3 ?_|refine Dt hls hC EK ?_|(refine An hE ?_ ?_;decide +kernel))<;>conv=>whnf
     refine NW (b:=false) (G:=G) (kid:=kid) (R:=R) (state:=state) (d:=d) (f:=f) hE hK _ _ ?_ ?_
     rfl
     subst hGT
     exact rfl
end
end Go.Proofs.YtkaiffheakalmaaGreatDoor
