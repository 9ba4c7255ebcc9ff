/- Joined. No conditions. -/
import Derived.Test.YtkaiffheakalmaaGreatDoorJ9ak
set_option linter.unusedSimpArgs false
set_option linter.unusedVariables false
set_option maxRecDepth 100000
namespace Go.Proofs.YtkaiffheakalmaaGreatDoor
section
open Go.RowKit
section yld
variable {C:Ctx} {ops:Array Oper}
def RK (C:Ctx) (ops:Array Oper) (o:Oper) (r:V) (ob:Option Ob) (p:Nat) (s:St):Prop:=match ob with
 | none=>YA C ops o r s
 | some x=>As ops o s=some true∧s.heap[p]?=some none∧((IC o s∧DJ C o ⟨s.env,Bb p s.heap⟩ (fun r' s'=>r'=r∧s'=⟨s.env,Ag (Bb p s.heap) x⟩))∨jd C o r x p s)
def Cs (s:St) (p:Nat) (ob:Option Ob):St:=match ob with
 | none=>s
 | some x=>⟨s.env,s.heap.set p (some x)⟩
theorem b9 {o:Oper} {r:V} {ob:Option Ob} {p i:Nat} {s:St} {a:Act} {w:World} {K:Act→World→Prop} {Q':Exit→Act→World→Prop} (hy:RK C ops o r ob p s) (ho:ops[i]?=some o) (hr:Rel C s a w)
 (h:∀a' w',Rel C ((Cs s p ob).put o.dst r) a' w'→K a' w'):wpOp C.P ops Q' i K a w:=by
 unfold wpOp
 simp only [ho]
 cases ob with
 | none=>
   rcases hy with ⟨hw,hq⟩|⟨hw,rfl⟩
   ·rw [DZ hr hw]
    refine .inl (DT o s _ (Ly hq) a w hr _ _ ?_)
    rintro v w' r' σ' ⟨rfl,rfl⟩ hx
    exact h _ _ (DI o.dst hx)
   ·rw [DZ hr hw]
    obtain ⟨I,bl,hp⟩:=hr.parts
    exact h _ _ (DI o.dst (hp.relx Jw))
 | some x=>
   obtain ⟨hw,hp,hS⟩:=hy
   have hS:DJ C o ⟨s.env,Bb p s.heap⟩ (fun r' s'=>r'=r∧s'=⟨s.env,Ag (Bb p s.heap) x⟩):=hS.elim And.right fun h=>Yn h hp
   rw [DZ hr hw]
   refine .inl (DT o _ _ hS a w (b8 p hr) _ _ ?_)
   rintro v w' r' σ' ⟨rfl,rfl⟩ hx
   exact h _ _ (DI o.dst (TS hp hx))
theorem Ho {o:Oper} {s s2:St} (hv:∀t∈o.looksAt ops,s2.env.getD t .any=s.env.getD t .any):As ops o s2=As ops o s:=by
 unfold As
 split
 ·rfl
 ·rename_i j want hg
  have:Ct ops s2 j=Ct ops s j:=by
   unfold Ct
   split
   ·rename_i t ht
    refine hv t ?_
    unfold Oper.looksAt
    rw [List.mem_append]
    right
    rw [hg]
    simp [ht]
   ·rfl
  rw [this]
theorem MN {o:Oper} {s s2:St} (hv:∀t∈o.looksAt ops,s2.env.getD t .any=s.env.getD t .any):∀x∈o.op.operands.toList,s2.val x=s.val x:=by
 intro x hx
 cases x with
 | tmp t=>
   refine hv t ?_
   unfold Oper.looksAt
   rw [List.mem_append]
   left
   rw [List.mem_filterMap]
   exact ⟨_,hx,rfl⟩
 | _=>rfl
theorem MO (env:List V) (h h':List (Option Ob)) (x:Operand):St.val ⟨env,h⟩ x=St.val ⟨env,h'⟩ x:=by cases x<;>rfl
theorem Hp {o:Oper} {env:List V} {h:List (Option Ob)} (h':List (Option Ob)) (hm:IC o ⟨env,h⟩):IC o ⟨env,h'⟩:=by
 have e:St.val ⟨env,h⟩=St.val ⟨env,h'⟩:=funext (MO env h h')
 unfold IC at hm ⊢
 rw [e] at hm
 exact hm
theorem RL {o:Oper} {r:V} {ob:Option Ob} {p:Nat} {s s2:St} (hy:RK C ops o r ob p s) (hv:∀t∈o.looksAt ops,s2.env.getD t .any=s.env.getD t .any) (he:Fu s s2∨(JF o.op=true∧(ob=none→As ops o s=some false))) (hp2:ob≠none→s2.heap[p]?=some none):RK C ops o r ob p s2:=by
 cases ob with
 | none=>
   rcases hy with ⟨hw,hq⟩|⟨hw,rfl⟩
   ·have he:Fu s s2:=he.elim id fun h=>by rw [h.2 rfl] at hw;cases hw
    refine .inl ⟨by rw [Ho hv];exact hw,?_⟩
    obtain ⟨r',⟨rfl,_⟩,h2⟩:=I8 hq
    exact h2 _ _ (MN hv) he ⟨rfl,rfl⟩
   ·exact .inr ⟨by rw [Ho hv];exact hw,rfl⟩
 | some x=>
   obtain ⟨hw,hp,⟨hm,hS⟩|hC⟩:=hy
   rotate_left
   ·exact ⟨by rw [Ho hv];exact hw,hp2 (by simp),.inr (Yo hC (MN hv))⟩
   have hp2':=hp2 (by simp)
   have hmp:IC o ⟨s.env,Bb p s.heap⟩:=Hp _ hm
   obtain ⟨r',ob',⟨rfl,e2⟩,h2⟩:=Pf hmp hS
   have eo:ob'=x:=by
    have:=congrArg (fun s:St=>s.heap[p]?) e2
    simp only at this
    rw [GZ hp,GZ hp,if_pos rfl,if_pos rfl] at this
    simpa using this
   subst eo
   have h3:=h2 (fun r'' s'=>r''=r'∧s'=⟨s2.env,Ag (Bb p s2.heap) ob'⟩) ⟨s2.env,Bb p s2.heap⟩ (fun y hy=>by
    have:=MN hv y hy
    rw [MO s2.env _ s2.heap,MO s.env _ s.heap]
    exact this) (he.elim (fun he=>.inl fun id z els hrow=>by
    rw [U9 s2.env s2.env]
    rw [U9 s.env s.env] at hrow
    exact he id z els hrow) fun h=>.inr h.1) ((GE hp2').trans (GE hp).symm) ⟨rfl,rfl⟩
   exact ⟨by rw [Ho hv];exact hw,hp2',.inl ⟨Hp _ h3.2,h3.1⟩⟩
end yld
structure Ent where
 i:Nat
 q:Option Nat
 r:V
 ob:Option Ob
def BD (ops:Array Oper) (i:Nat):Option Tmp:=(ops[i]?).bind (·.dst)
def DK (ops:Array Oper) (ent:List Ent) (env:List V) (L:Nat→Bool) (t:Nat):V:=match ent.find? (fun e=>L e.i&&decide (BD ops e.i=some t)) with
 | some e=>e.r
 | none=>env.getD t .any
def LR (ent:List Ent) (L:Nat→Bool) (p:Nat):Option Ob:=match ent.find? (fun e=>L e.i&&decide (e.q=some p)) with
 | some e=>e.ob
 | none=>none
def SE (ops:Array Oper) (ent:List Ent) (s0:St) (M:Nat) (L:Nat→Bool):St:=
 ⟨(List.range s0.env.length).map (DK ops ent s0.env L),s0.heap++(List.range M).map (LR ent L)⟩
theorem JG {α:Type} {l:List α} {P:α→Bool} {x:α} (hx:x∈l) (hp:P x=true) (hu:∀y∈l,P y=true→y=x):l.find? P=some x:=by
 cases h:l.find? P with
 | none=>rw [List.find?_eq_none] at h;exact absurd hp (h x hx)
 | some y=>rw [hu y (List.mem_of_find?_eq_some h) (List.find?_some h)]
theorem Da {α:Type} {P Q:α→Bool}:∀{l:List α},(∀x∈l,P x=Q x)→l.find? P=l.find? Q
 | [],_=>rfl
 | x::l,h=>by
   simp only [List.find?_cons]
   rw [h x (by simp),Da (l:=l) (fun y hy=>h y (by simp [hy]))]
structure EntOk (ops:Array Oper) (ent:List Ent) (M:Nat):Prop where
 one:∀e∈ent,∀f∈ent,e.i=f.i→e=f
 dst:∀e∈ent,∀f∈ent,∀t,BD ops e.i=some t→BD ops f.i=some t→e.i=f.i
 rk:∀e∈ent,∀f∈ent,∀p,e.q=some p→f.q=some p→e=f
 lt:∀e∈ent,∀p,e.q=some p→p < M
 ob:∀e∈ent,e.ob≠none→e.q≠none
section se
variable {ops:Array Oper} {ent:List Ent} {s0:St} {M:Nat}
theorem VA {L:Nat→Bool} (hL:∀e∈ent,L e.i=false):SE ops ent s0 M L=⟨s0.env,s0.heap++List.replicate M none⟩:=by
 unfold SE
 congr 1
 ·apply List.ext_getElem?
  intro t
  rw [List.getElem?_map]
  by_cases ht:t < s0.env.length
  ·rw [List.getElem?_range ht,Option.map_some,List.getElem?_eq_getElem ht]
   unfold DK
   rw [List.find?_eq_none.2 (fun e he=>by rw [hL e he];simp)]
   simp [List.getD,ht]
  ·rw [List.getElem?_eq_none (by simp;omega),List.getElem?_eq_none (by omega)];rfl
 ·congr 1
  apply List.ext_getElem?
  intro p
  rw [List.getElem?_map,List.getElem?_replicate]
  by_cases hp:p < M
  ·rw [List.getElem?_range hp,Option.map_some,if_pos hp]
   unfold LR
   rw [List.find?_eq_none.2 (fun e he=>by rw [hL e he];simp)]
  ·rw [List.getElem?_eq_none (by simp;omega),if_neg hp];rfl
theorem VB (hok:EntOk ops ent M) {e:Ent} (he:e∈ent) {L L':Nat→Bool} (h0:L e.i=false) (h1:L' e.i=true) (h2:∀f∈ent,f≠e→L' f.i=L f.i):
 SE ops ent s0 M L'=(Cs (SE ops ent s0 M L) (s0.heap.length+e.q.getD 0) e.ob).put (BD ops e.i) e.r:=by
 have hset:∀(l:List V) (d:Option Tmp) (x:V) (h:List (Option Ob)),(⟨l,h⟩:St).put d x=⟨match d with|some d=>l.set d x|none=>l,h⟩:=fun l d x h=>by cases d<;>rfl
 have henv:(List.range s0.env.length).map (DK ops ent s0.env L')=match BD ops e.i with|some d=>((List.range s0.env.length).map (DK ops ent s0.env L)).set d e.r|none=>(List.range s0.env.length).map (DK ops ent s0.env L):=by
  have hoth:∀t,BD ops e.i≠some t→DK ops ent s0.env L' t=DK ops ent s0.env L t:=fun t ht=>by
   unfold DK
   have:ent.find? (fun e=>L' e.i&&decide (BD ops e.i=some t))=ent.find? (fun e=>L e.i&&decide (BD ops e.i=some t)):=Da fun f hf=>by
    by_cases hfe:f=e
    ·subst hfe;simp [ht]
    ·rw [h2 f hf hfe]
   rw [this]
  cases hd:BD ops e.i with
  | none=>
    simp only
    exact List.map_congr_left fun t _=>hoth t (by rw [hd];simp)
  | some d=>
    simp only
    apply List.ext_getElem?
    intro t
    rw [List.getElem?_set]
    by_cases htd:d=t
    ·subst htd
     rw [if_pos rfl,List.getElem?_map,List.length_map,List.length_range]
     by_cases ht:d < s0.env.length
     ·rw [List.getElem?_range ht,Option.map_some,if_pos ht]
      unfold DK
      rw [JG he (by simp [h1,hd]) (fun f hf hP=>by
       simp only [Bool.and_eq_true,decide_eq_true_eq] at hP
       exact hok.one f hf e he (hok.dst f hf e he d hP.2 hd))]
     ·rw [List.getElem?_eq_none (l:=List.range s0.env.length) (by rw [List.length_range];exact Nat.le_of_not_lt ht),if_neg ht];rfl
    ·rw [if_neg htd,List.getElem?_map,List.getElem?_map]
     cases hr:(List.range s0.env.length)[t]? with
     | none=>rfl
     | some t'=>
       obtain ⟨hlt,rfl⟩:=List.getElem?_eq_some_iff.1 hr
       simp only [Option.map_some,List.getElem_range]
       rw [hoth t (by rw [hd];simpa using htd)]
 have hobo:∀p,e.q≠some p→LR ent L' p=LR ent L p:=fun p hp=>by
  unfold LR
  have:ent.find? (fun e=>L' e.i&&decide (e.q=some p))=ent.find? (fun e=>L e.i&&decide (e.q=some p)):=Da fun f hf=>by
   by_cases hfe:f=e
   ·subst hfe;simp [hp]
   ·rw [h2 f hf hfe]
  rw [this]
 have hob1:∀p,e.q=some p→LR ent L' p=e.ob∧LR ent L p=none:=fun p hp=>by
  unfold LR
  rw [JG he (by simp [h1,hp]) (fun f hf hP=>by
   simp only [Bool.and_eq_true,decide_eq_true_eq] at hP
   exact hok.rk f hf e he p hP.2 hp),List.find?_eq_none.2 (fun f hf hP=>by
   simp only [Bool.and_eq_true,decide_eq_true_eq] at hP
   have:=hok.rk f hf e he p hP.2 hp
   subst this
   rw [h0] at hP
   cases hP.1)]
  exact ⟨rfl,rfl⟩
 have hheap:s0.heap++(List.range M).map (LR ent L')=(Cs (SE ops ent s0 M L) (s0.heap.length+e.q.getD 0) e.ob).heap:=by
  cases hob:e.ob with
  | none=>
    show _=s0.heap++(List.range M).map (LR ent L)
    congr 1
    refine List.map_congr_left fun p _=>?_
    by_cases hp:e.q=some p
    ·rw [(hob1 p hp).1,(hob1 p hp).2,hob]
    ·exact hobo p hp
  | some x=>
    cases hq:e.q with
    | none=>exact absurd hq (hok.ob e he (by rw [hob];simp))
    | some p=>
      show _=(s0.heap++(List.range M).map (LR ent L)).set (s0.heap.length+p) (some x)
      have hpM:=hok.lt e he p hq
      rw [List.set_append_right _ _ (Nat.le_add_right _ _),Nat.add_sub_cancel_left]
      congr 1
      apply List.ext_getElem?
      intro p'
      rw [List.getElem?_set]
      by_cases hpp:p=p'
      ·subst hpp
       rw [if_pos rfl,List.getElem?_map,List.length_map,List.length_range,List.getElem?_range hpM,Option.map_some,if_pos hpM,(hob1 p hq).1,hob]
      ·rw [if_neg hpp,List.getElem?_map,List.getElem?_map]
       cases hr:(List.range M)[p']? with
       | none=>rfl
       | some t'=>
         obtain ⟨hlt,rfl⟩:=List.getElem?_eq_some_iff.1 hr
         simp only [Option.map_some,List.getElem_range]
         rw [hobo p' (by rw [hq];simpa using hpp)]
 have hw:Cs (SE ops ent s0 M L) (s0.heap.length+e.q.getD 0) e.ob=⟨(SE ops ent s0 M L).env,(Cs (SE ops ent s0 M L) (s0.heap.length+e.q.getD 0) e.ob).heap⟩:=by
  cases e.ob<;>rfl
 rw [hw,hset]
 show (⟨_,_⟩:St)=_
 rw [henv,hheap]
 rfl
theorem cA {L:Nat→Bool} (hok:EntOk ops ent M) {e:Ent} (he:e∈ent) {p:Nat} (hq:e.q=some p) (h0:L e.i=false):(SE ops ent s0 M L).heap[s0.heap.length+p]?=some none:=by
 show (s0.heap++(List.range M).map (LR ent L))[s0.heap.length+p]?=some none
 have hpM:=hok.lt e he p hq
 rw [List.getElem?_append_right (Nat.le_add_right _ _),Nat.add_sub_cancel_left,List.getElem?_map,List.getElem?_range hpM,Option.map_some]
 unfold LR
 rw [List.find?_eq_none.2 (fun f hf hP=>by
     simp only [Bool.and_eq_true,decide_eq_true_eq] at hP
     have:=hok.rk f hf e he p hP.2 hq
     subst this
     rw [h0] at hP
     cases hP.1)]
theorem em {L L':Nat→Bool} (hok:EntOk ops ent M) (h:∀e∈ent,e.q≠none→L e.i=true→L' e.i=true):Fu (SE ops ent s0 M L) (SE ops ent s0 M L'):=by
 intro id z els hrow
 have hk:(SE ops ent s0 M L).heap[id]?=some (some (.row z els)):=Dh hrow
 have:(SE ops ent s0 M L').heap[id]?=some (some (.row z els)):=by
  change (s0.heap++(List.range M).map (LR ent L))[id]?=_ at hk
  show (s0.heap++(List.range M).map (LR ent L'))[id]?=_
  by_cases hid:id < s0.heap.length
  ·rw [List.getElem?_append_left hid] at hk ⊢
   exact hk
  ·rw [List.getElem?_append_right (by omega)] at hk ⊢
   rw [List.getElem?_map] at hk ⊢
   cases hr:(List.range M)[id - s0.heap.length]? with
   | none=>rw [hr] at hk;cases hk
   | some p=>
     rw [hr] at hk
     simp only [Option.map_some,Option.some.injEq] at hk ⊢
     unfold LR at hk ⊢
     cases hf:ent.find? (fun e=>L e.i&&decide (e.q=some p)) with
     | none=>rw [hf] at hk;cases hk
     | some e=>
       rw [hf] at hk
       have he:=List.mem_of_find?_eq_some hf
       have hp:=List.find?_some hf
       simp only [Bool.and_eq_true,decide_eq_true_eq] at hp
       rw [JG he (by simp [h e he (by rw [hp.2];simp) hp.1,hp.2]) (fun f hf hP=>by
        simp only [Bool.and_eq_true,decide_eq_true_eq] at hP
        exact hok.rk f hf e he p hP.2 hp.2)]
       exact hk
 simp [St.row,this]
theorem cB {L L':Nat→Bool} {t:Nat} (h:∀e∈ent,BD ops e.i=some t→L e.i=L' e.i):(SE ops ent s0 M L').env.getD t .any=(SE ops ent s0 M L).env.getD t .any:=by
 show ((List.range s0.env.length).map (DK ops ent s0.env L')).getD t .any=((List.range s0.env.length).map (DK ops ent s0.env L)).getD t .any
 have:DK ops ent s0.env L' t=DK ops ent s0.env L t:=by
  unfold DK
  have:ent.find? (fun e=>L' e.i&&decide (BD ops e.i=some t))=ent.find? (fun e=>L e.i&&decide (BD ops e.i=some t)):=Da fun f hf=>by
   by_cases hd:BD ops f.i=some t
   ·rw [h f hf hd]
   ·simp [hd]
  rw [this]
 unfold List.getD
 rw [List.getElem?_map,List.getElem?_map]
 cases hr:(List.range s0.env.length)[t]? with
 | none=>rfl
 | some t'=>
   obtain ⟨hlt,rfl⟩:=List.getElem?_eq_some_iff.1 hr
   simp only [Option.map_some,List.getElem_range,Option.getD_some]
   exact this
end se
end
section
open Go.RowKit
def Yp (ms:List Nat) (o:Oper):Nat:=o.after.toList.foldl (fun m e=>if Region.binds .any e=true then m ||| (1 <<< e.on) ||| ms.getD e.on 0 else m) 0
def TU (ms:List Nat):List Oper→List Nat
 | []=>ms
 | o::r=>TU (ms++[Yp ms o]) r
def CO (ops:Array Oper):List Nat:=TU [] ops.toList
section ahead
variable {ops:Array Oper}
def Et (ops:Array Oper) (i j:Nat):Prop:=∀listed:Array Bool,CB .any ops listed→(∀o,ops[i]?=some o→∀e∈o.after,Region.binds .any e=true→listed.getD e.on false=true)→listed.getD j false=true
theorem Yq {ms:List Nat} (hms:∀k m,ms[k]?=some m→∀j,m.testBit j=true→Et ops k j) {i:Nat} {o:Oper} (ho:ops[i]?=some o) {j:Nat} (hj:(Yp ms o).testBit j=true):Et ops i j:=by
 intro listed hc hr
 have hr:=hr o ho
 have key:∀(l:List Edge) (acc:Nat),(∀j,acc.testBit j=true→listed.getD j false=true)→(∀e∈l,Region.binds .any e=true→listed.getD e.on false=true)→
  ∀j,(l.foldl (fun m e=>if Region.binds .any e=true then m ||| (1 <<< e.on) ||| ms.getD e.on 0 else m) acc).testBit j=true→listed.getD j false=true:=by
  intro l
  induction l with
  | nil=>intro acc ha _ j hj;exact ha j hj
  | cons e l ih=>
    intro acc ha hl j hj
    rw [List.foldl_cons] at hj
    refine ih _ (fun j hj=>?_) (fun e' he'=>hl e' (by simp [he'])) j hj
    split at hj
    ·rename_i hb
     have hon:=hl e (by simp) hb
     rw [Nat.testBit_or,Nat.testBit_or,Bool.or_eq_true,Bool.or_eq_true] at hj
     rcases hj with (h|h)|h
     ·exact ha j h
     ·rw [Nat.one_shiftLeft,Nat.testBit_two_pow] at h
      have:e.on=j:=by simpa using h
      rw [←this];exact hon
     ·cases hm:ms[e.on]? with
      | none=>simp [List.getD,hm] at h
      | some m=>
        simp [List.getD,hm] at h
        exact hms _ _ hm j h listed hc (fun o' ho' e' he' hb'=>hc _ o' ho' hon e' he' hb')
    ·exact ha j hj
 exact key _ 0 (fun j hj=>by simp at hj) (fun e he hb=>hr e (by simpa using he) hb) j hj
theorem OU:∀(l:List Oper) (ms:List Nat),(∀k m,ms[k]?=some m→∀j,m.testBit j=true→Et ops k j)→(∀t,l[t]?=ops[ms.length+t]?)→∀k m,(TU ms l)[k]?=some m→∀j,m.testBit j=true→Et ops k j
 | [],ms,h,_=>h
 | o::l,ms,h,hl=>by
   refine OU l (ms++[Yp ms o]) (fun k m hm j hj=>?_) (fun t=>by have:=hl (t+1);simpa [Nat.add_assoc,Nat.add_comm 1 t] using this)
   rcases Nat.lt_trichotomy k ms.length with hk|hk|hk
   ·rw [List.getElem?_append_left hk] at hm
    exact h k m hm j hj
   ·subst hk
    rw [List.getElem?_append_right (Nat.le_refl _)] at hm
    simp at hm
    subst hm
    exact Yq h (by simpa using (hl 0).symm) hj
   ·rw [List.getElem?_eq_none (by simp;omega)] at hm
    cases hm
theorem BX {i j:Nat} (h:((CO ops).getD i 0).testBit j=true):Et ops i j:=by
 cases hm:(CO ops)[i]? with
 | none=>simp [List.getD,hm] at h
 | some m=>
   simp [List.getD,hm] at h
   exact OU ops.toList [] (fun k m hm=>by simp at hm) (fun t=>by simp) i m hm j h
end ahead
structure SegP (ops:Array Oper) (done:Nat→Bool) (seg:List (Nat×Option Nat)) (M:Nat) (bar:Option Nat) (opt:List Nat):Prop where
 lt:∀e∈seg,e.1 < ops.size
 fresh:∀e∈seg,done e.1=false
 one:∀(k k':Nat) (e f:Nat×Option Nat),seg[k]?=some e→seg[k']?=some f→e.1=f.1→k=k'
 ready:∀(k:Nat) (e:Nat×Option Nat),seg[k]?=some e→∀o,ops[e.1]?=some o→∀x∈o.after,Region.binds .any x=true→done x.on=true∨∃f∈seg.take k,f.1=x.on
 mkA:∀(k:Nat) (e:Nat×Option Nat),seg[k]?=some e→(e.2≠none∧∀o,ops[e.1]?=some o→JF o.op=true)∨∀f∈seg.take k,f.2≠none→Et ops e.1 f.1
 rel:∀e∈seg,∀f∈seg,e.1≠f.1→Et ops e.1 f.1∨Et ops f.1 e.1∨∀o o',ops[e.1]?=some o→ops[f.1]?=some o'→o.apart ops o'=true
 dst:∀e∈seg,∀f∈seg,∀t,BD ops e.1=some t→BD ops f.1=some t→e.1=f.1
 rk:∀e∈seg,∀f∈seg,∀p,e.2=some p→f.2=some p→e.1=f.1
 rlt:∀e∈seg,∀p,e.2=some p→p < M
 rest:bar=none→∀j,j < ops.size→done j=false→(∀e∈seg,e.1≠j)→bar≠some j→∀e∈seg,Et ops j e.1
 brest:∀b,bar=some b→∀e∈seg,¬e.1∈opt→Et ops b e.1
 bfree:∀b,bar=some b→b < ops.size∧done b=false∧∀e∈seg,e.1≠b
 bready:∀b,bar=some b→∀o,ops[b]?=some o→∀x∈o.after,Region.binds .any x=true→done x.on=true∨∃f∈seg,f.1=x.on
theorem Yr {α:Type} {P Q:α→Bool} {x:α}:∀{l:List α},(∀y∈l,Q y=true→P y=true)→x∈l→P x=true→Q x=false→l.countP Q < l.countP P
 | y::l,h,hx,hp,hq=>by
   have hle:l.countP Q≤l.countP P:=List.countP_mono_left (fun z hz=>h z (by simp [hz]))
   rw [List.countP_cons,List.countP_cons]
   rcases List.mem_cons.1 hx with rfl|hx
   ·rw [hp,hq];simp;omega
   ·have:=Yr (fun z hz=>h z (by simp [hz])) hx hp hq
    have:=h y (by simp)
    cases hQ:Q y with
    | true=>rw [this hQ];simp;omega
    | false=>cases P y<;>simp<;>omega
def DL (l:List Ent) (j:Nat):Bool:=l.any fun f=>decide (f.i=j)
theorem EZ {l:List Ent} {j:Nat}:DL l j=true↔∃f∈l,f.i=j:=by simp [DL]
theorem HI {ops:Array Oper} {ent:List Ent} {s0:St} {M:Nat} {L L':Nat→Bool} (h:∀e∈ent,L e.i=L' e.i):SE ops ent s0 M L=SE ops ent s0 M L':=by
 have h1:DK ops ent s0.env L=DK ops ent s0.env L':=funext fun t=>by
  unfold DK
  have:ent.find? (fun e=>L e.i&&decide (BD ops e.i=some t))=ent.find? (fun e=>L' e.i&&decide (BD ops e.i=some t)):=Da fun e he=>by rw [h e he]
  rw [this]
 have h2:LR ent L=LR ent L':=funext fun p=>by
  unfold LR
  have:ent.find? (fun e=>L e.i&&decide (e.q=some p))=ent.find? (fun e=>L' e.i&&decide (e.q=some p)):=Da fun e he=>by rw [h e he]
  rw [this]
 unfold SE
 rw [h1,h2]
section seg
variable {C:Ctx} {ops:Array Oper} {seg:List (Nat×Option Nat)} {M:Nat} {bar:Option Nat} {opt:List Nat} {ent:List Ent} {s0:St} {Q':Exit→Act→World→Prop}
theorem Dk (hent:ent.map (fun e=>(e.i,e.q))=seg) {e:Ent} (he:e∈ent):(e.i,e.q)∈seg:=by rw [←hent];exact List.mem_map.2 ⟨e,he,rfl⟩
theorem Pg (hent:ent.map (fun e=>(e.i,e.q))=seg) {k:Nat} {e:Nat×Option Nat} (h:seg[k]?=some e):∃e',ent[k]?=some e'∧e'.i=e.1∧e'.q=e.2:=by
 rw [←hent,List.getElem?_map] at h
 cases hk:ent[k]? with
 | none=>rw [hk] at h;cases h
 | some e'=>rw [hk] at h;simp at h;subst h;exact ⟨e',rfl,rfl,rfl⟩
theorem TV {done:Nat→Bool} (hS:SegP ops done seg M bar opt) (hent:ent.map (fun e=>(e.i,e.q))=seg) (hob:∀e∈ent,e.ob≠none→e.q≠none):EntOk ops ent M:=by
 have one:∀e∈ent,∀f∈ent,e.i=f.i→e=f:=fun e he f hf h=>by
  obtain ⟨k,hk⟩:=List.mem_iff_getElem?.1 he
  obtain ⟨k',hk'⟩:=List.mem_iff_getElem?.1 hf
  have:=hS.one k k' (e.i,e.q) (f.i,f.q) (by rw [←hent,List.getElem?_map,hk];rfl) (by rw [←hent,List.getElem?_map,hk'];rfl) h
  subst this
  rw [hk] at hk'
  simpa using hk'
 exact ⟨one,fun e he f hf t h1 h2=>hS.dst _ (Dk hent he) _ (Dk hent hf) t h1 h2,fun e he f hf p h1 h2=>one e he f hf (hS.rk _ (Dk hent he) _ (Dk hent hf) p h1 h2),
  fun e he p h=>hS.rlt _ (Dk hent he) p h,hob⟩
theorem JH {a:Array Bool} {j:Nat} (h:j < a.size) (d d':Bool):a.getD j d=a.getD j d':=by simp [Array.getD,h]
theorem VC {done:Nat→Bool} (hS:SegP ops done seg M bar opt) (hdone:∀j o,ops[j]?=some o→done j=true→∀e∈o.after,Region.binds .any e=true→done e.on=true) (hdlt:∀j,done j=true→j < ops.size)
 (hent:ent.map (fun e=>(e.i,e.q))=seg) (hob:∀e∈ent,e.ob≠none→e.q≠none)
 (tr:∀k e,ent[k]?=some e→∃o,ops[e.i]?=some o∧RK C ops o e.r e.ob (s0.heap.length+e.q.getD 0) (SE ops ent s0 M (DL (ent.take k)))∧(e.q≠none→e.ob=none→As ops o (SE ops ent s0 M (DL (ent.take k)))=some false)) {rest:Nat}
 (hbahead:∀b,bar=some b→∀j,j < ops.size→done j=false→(∀e∈seg,e.1≠j)→b≠j→Et ops j b)
 (hend:bar=none→∀(F:Nat) (listed:Array Bool),rest≤F→CB .any ops listed→listed.size=ops.size→(∀j,listed.getD j false=true↔done j=true∨∃e∈seg,e.1=j)→∀a w,Rel C (SE ops ent s0 M (fun _=>true)) a w→wpAny C.P .any ops Q' F listed a w)
 (hbar:∀b,bar=some b→1≤rest∧∀(F:Nat) (listed:Array Bool),rest≤F+1+(seg.countP fun e=>!listed.getD e.1 false)→(seg.countP fun e=>!listed.getD e.1 false)+rest≤F+1→CB .any ops listed→listed.size=ops.size→(∀j,done j=true→listed.getD j false=true)→(∀j,listed.getD j false=true→done j=true∨∃e∈seg,e.1=j)→
   (∀e∈seg,listed.getD e.1 false=false→e.1∈opt)→b∈Region.ready .any ops listed→∀a w,Rel C (SE ops ent s0 M (fun j=>listed.getD j false)) a w→wpOp C.P ops Q' b (wpAny C.P .any ops Q' F (listed.setIfInBounds b true)) a w):
 ∀(u F:Nat) (listed:Array Bool),seg.countP (fun e=>!listed.getD e.1 false)≤u→rest+u≤F→CB .any ops listed→listed.size=ops.size→(∀j,done j=true→listed.getD j false=true)→
   (∀j,listed.getD j false=true→done j=true∨∃e∈seg,e.1=j)→∀a w,Rel C (SE ops ent s0 M (fun j=>listed.getD j false)) a w→wpAny C.P .any ops Q' F listed a w:=by
 have hE:=TV hS hent hob
 intro u
 induction u using Nat.strongRecOn with
 | _ u ih=>
   intro F listed hu hF hc hsz hd hsub a w hr
   by_cases hallb:(∀e∈seg,listed.getD e.1 false=true)∧bar=none
   ·obtain ⟨hall,hbn⟩:=hallb
    refine hend hbn F listed (by omega) hc hsz (fun j=>⟨hsub j,fun h=>?_⟩) a w ?_
    ·rcases h with h|⟨e,he,rfl⟩
     ·exact hd j h
     ·exact hall e he
    ·rw [←HI (L:=fun j=>listed.getD j false) (fun e he=>hall _ (Dk hent he))]
     exact hr
   ·have hF1:1≤F:=by
     rcases Nat.eq_zero_or_pos (seg.countP fun e=>!listed.getD e.1 false) with h0|h0
     ·have hall:∀e∈seg,listed.getD e.1 false=true:=fun e he=>by
       have:=List.countP_eq_zero.1 h0 e he
       simpa using this
      cases hb:bar with
      | none=>exact absurd ⟨hall,hb⟩ hallb
      | some b=>have:=(hbar b hb).1;omega
     ·omega
    obtain ⟨F,rfl⟩:∃F',F=F'+1:=⟨F - 1,by omega⟩
    have hun:∀i,i < ops.size→(listed.getD i true=false↔listed.getD i false=false):=fun i hi=>by rw [JH (by rw [hsz];exact hi) true false]
    refine ⟨fun hnil=>?_,fun i hi=>?_⟩
    ·exfalso
     by_cases hall:∀e∈seg,listed.getD e.1 false=true
     ·cases hb:bar with
      | none=>exact hallb ⟨hall,hb⟩
      | some b=>
        obtain ⟨hlt,hbd,hbs⟩:=hS.bfree b hb
        have hbn:listed.getD b false=false:=by
         cases h:listed.getD b false with
         | false=>rfl
         | true=>
           rcases hsub b h with h|⟨e,he,h⟩
           ·rw [hbd] at h;cases h
           ·exact absurd h (hbs e he)
        have:b∈Region.ready .any ops listed:=mem_ready.2 ⟨(hun _ hlt).2 hbn,ops[b],Array.getElem?_eq_getElem hlt,fun x hx hbx=>by
         rcases hS.bready b hb _ (Array.getElem?_eq_getElem hlt) x hx hbx with h|⟨f,hf,hfx⟩
         ·exact hd _ h
         ·rw [←hfx];exact hall f hf⟩
        rw [hnil] at this
        cases this
     have hex:∃k:Nat,∃e:Nat×Option Nat,seg[k]?=some e∧listed.getD e.1 false=false:=by
      simp only [Classical.not_forall] at hall
      obtain ⟨e,he,hl⟩:=hall
      obtain ⟨k,hk⟩:=List.mem_iff_getElem?.1 he
      exact ⟨k,e,hk,by simpa using hl⟩
     have hmin:∀n k:Nat,k≤n→(∃e:Nat×Option Nat,seg[k]?=some e∧listed.getD e.1 false=false)→∃k:Nat,(∃e:Nat×Option Nat,seg[k]?=some e∧listed.getD e.1 false=false)∧∀k' < k,∀e:Nat×Option Nat,seg[k']?=some e→listed.getD e.1 false=true:=by
      intro n
      induction n with
      | zero=>intro k hk h;exact ⟨k,h,fun k' hk'=>by omega⟩
      | succ n ihn=>
        intro k hk h
        by_cases hb:∀k' < k,∀e,seg[k']?=some e→listed.getD e.1 false=true
        ·exact ⟨k,h,hb⟩
        ·simp only [Classical.not_forall] at hb
         obtain ⟨k',hk',e,he,hl⟩:=hb
         exact ihn k' (by omega) ⟨e,he,by simpa using hl⟩
     obtain ⟨k0,h0⟩:=hex
     obtain ⟨k,⟨e,he,hl⟩,hb⟩:=hmin k0 k0 (Nat.le_refl _) h0
     have hlt:=hS.lt e (List.mem_of_getElem? he)
     have:e.1∈Region.ready .any ops listed:=mem_ready.2 ⟨(hun _ hlt).2 hl,ops[e.1],Array.getElem?_eq_getElem hlt,fun x hx hbx=>by
      rcases hS.ready k e he _ (Array.getElem?_eq_getElem hlt) x hx hbx with h|⟨f,hf,hfx⟩
      ·exact hd _ h
      ·obtain ⟨k',hk'⟩:=List.mem_iff_getElem?.1 hf
       rw [List.getElem?_take] at hk'
       split at hk'
       ·rw [←hfx];exact hb k' (by assumption) f hk'
       ·cases hk'⟩
     rw [hnil] at this
     cases this
    ·obtain ⟨hi1,o,ho,hi2⟩:=mem_ready.1 hi
     have hilt:i < ops.size:=(Array.getElem?_eq_some_iff.1 ho).1
     have hi0:listed.getD i false=false:=(hun i hilt).1 hi1
     have hah:∀j,Et ops i j→listed.getD j false=true:=fun j h=>h listed hc (fun o' ho' e he hb=>by rw [ho] at ho';cases ho';exact hi2 e he hb)
     have hdi:done i=false:=by
      cases h:done i with
      | false=>rfl
      | true=>rw [hd i h] at hi0;cases hi0
     by_cases hib:bar=some i
     ·obtain ⟨hr1,hbb⟩:=hbar i hib
      refine hbb F listed (by omega) (by omega) hc hsz hd hsub (fun e he hle=>?_) hi a w hr
      refine Classical.byContradiction fun hno=>?_
      rw [hah _ (hS.brest i hib e he hno)] at hle
      cases hle
     have hiseg:∃e∈seg,e.1=i:=by
      refine Classical.byContradiction fun hno=>?_
      cases hb:bar with
      | none=>
        have hall:∀e∈seg,listed.getD e.1 false=true:=fun e he=>hah _ (hS.rest hb i hilt hdi (fun f hf hfi=>hno ⟨f,hf,hfi⟩) hib e he)
        exact hallb ⟨hall,hb⟩
      | some b=>
        have hne:b≠i:=fun e=>hib (by rw [hb,e])
        have:=hah _ (hbahead b hb i hilt hdi (fun f hf hfi=>hno ⟨f,hf,hfi⟩) hne)
        obtain ⟨_,hbd,hbs⟩:=hS.bfree b hb
        rcases hsub b this with h|⟨e,he,h⟩
        ·rw [hbd] at h;cases h
        ·exact hbs e he h
     obtain ⟨e0,he0,hei⟩:=hiseg
     obtain ⟨k,hk⟩:=List.mem_iff_getElem?.1 he0
     obtain ⟨e,hek,hei',hq'⟩:=Pg hent hk
     have hei:e.i=i:=by rw [hei',hei]
     have hem:e∈ent:=List.mem_of_getElem? hek
     obtain ⟨o',ho',hy,hsk⟩:=tr k e hek
     rw [hei,ho] at ho'
     cases ho'
     have hLk:∀f∈ent,f.i=i→DL (ent.take k) f.i=false:=fun f hf hfi=>by
      cases hm:DL (ent.take k) f.i with
      | false=>rfl
      | true=>
        obtain ⟨g,hg,hgi⟩:=EZ.1 hm
        obtain ⟨k',hk'⟩:=List.mem_iff_getElem?.1 hg
        rw [List.getElem?_take] at hk'
        split at hk'
        ·rename_i hlt
         have:=hS.one k' k (g.i,g.q) (e.i,e.q) (by rw [←hent,List.getElem?_map,hk'];rfl) (by rw [←hent,List.getElem?_map,hek];rfl) (by simp only;rw [hgi,hfi,hei])
         omega
        ·cases hk'
     let arr:Array Bool:=(Array.range ops.size).map fun j=>done j || DL (ent.take k) j
     have harr:∀j,arr.getD j false=true↔j < ops.size∧(done j=true∨DL (ent.take k) j=true):=fun j=>by
      by_cases hj:j < ops.size
      ·simp [arr,Array.getD,hj]
      ·simp [arr,Array.getD,hj]
     have hmlt:∀j,DL (ent.take k) j=true→j < ops.size∧∃k' < k,∃e',seg[k']?=some e'∧e'.1=j:=fun j hj=>by
      obtain ⟨g,hg,hgi⟩:=EZ.1 hj
      obtain ⟨k',hk'⟩:=List.mem_iff_getElem?.1 hg
      rw [List.getElem?_take] at hk'
      split at hk'
      ·rename_i hlt
       have hs:seg[k']?=some (g.i,g.q):=by rw [←hent,List.getElem?_map,hk'];rfl
       exact ⟨by rw [←hgi];exact hS.lt _ (List.mem_of_getElem? hs),k',hlt,_,hs,hgi⟩
      ·cases hk'
     have hready:∀(k':Nat) e',k'≤k→seg[k']?=some e'→∀o,ops[e'.1]?=some o→∀x∈o.after,Region.binds .any x=true→arr.getD x.on false=true:=fun k' e' hle he' o ho x hx hb=>by
      rcases hS.ready k' e' he' o ho x hx hb with h|⟨f,hf,hfx⟩
      ·exact (harr _).2 ⟨hdlt _ h,.inl h⟩
      ·obtain ⟨k2,hk2⟩:=List.mem_iff_getElem?.1 hf
       rw [List.getElem?_take] at hk2
       split at hk2
       ·rename_i hlt
        obtain ⟨g,hg,hgi,_⟩:=Pg hent hk2
        have:DL (ent.take k) x.on=true:=EZ.2 ⟨g,List.mem_iff_getElem?.2 ⟨k2,by rw [List.getElem?_take,if_pos (by omega)];exact hg⟩,by rw [hgi,hfx]⟩
        exact (harr _).2 ⟨(hmlt _ this).1,.inr this⟩
       ·cases hk2
     have harrc:CB .any ops arr:=fun j oj hoj hj x hx hb=>by
      rcases (harr j).1 hj with ⟨_,h|h⟩
      ·have:=hdone j oj hoj h x hx hb
       exact (harr _).2 ⟨hdlt _ this,.inl this⟩
      ·obtain ⟨_,k',hk',e',he',hj'⟩:=hmlt j h
       exact hready k' e' (by omega) he' oj (by rw [hj'];exact hoj) x hx hb
     have harri:∀j,Et ops i j→arr.getD j false=true:=fun j h=>h arr harrc (fun o' ho' x hx hb=>hready k e0 (Nat.le_refl _) hk o' (by rw [←hei',hei];exact ho') x hx hb)
     have hclos:∀(A:Array Bool),CB .any ops A→∀f:Nat,A.getD f false=true→∀j,Et ops f j→A.getD j false=true:=fun A hA f hf j h=>h A hA (fun o' ho' x hx hb=>hA f o' ho' hf x hx hb)
     have hmove:RK C ops o e.r e.ob (s0.heap.length+e.q.getD 0) (SE ops ent s0 M (fun j=>listed.getD j false)):=by
      refine RL hy (fun t ht=>cB fun f hf hfd=>?_) ((hS.mkA k e0 hk).elim (fun hbl=>.inr ⟨hbl.2 o (by rw [←hei',hei];exact ho),hsk (by rw [hq'];exact hbl.1)⟩) fun hmk=>.inl (em hE fun f hf hq hLf=>?_)) (fun hobn=>?_)
      ·by_cases hfi:f.i=i
       ·rw [hLk f hf hfi,hfi,hi0]
       ·have hfe:(f.i,f.q)∈seg:=Dk hent hf
        rcases hS.rel e0 he0 (f.i,f.q) hfe (by rw [←hei',hei];exact fun h=>hfi h.symm) with h|h|h
        ·rw [←hei',hei] at h
         simp only at h
         rw [hah _ h]
         rcases (harr _).1 (harri _ h) with ⟨_,h2|h2⟩
         ·rw [hS.fresh _ hfe] at h2;cases h2
         ·exact h2
        ·rw [←hei',hei] at h
         simp only at h
         have h1:listed.getD f.i false=false:=by
          cases hl:listed.getD f.i false with
          | false=>rfl
          | true=>rw [hclos listed hc f.i hl i h] at hi0;cases hi0
         have h2:DL (ent.take k) f.i=false:=by
          cases hl:DL (ent.take k) f.i with
          | false=>rfl
          | true=>
            rcases (harr _).1 (hclos arr harrc f.i ((harr _).2 ⟨(hmlt _ hl).1,.inr hl⟩) i h) with ⟨_,h3|h3⟩
            ·rw [hdi] at h3;cases h3
            ·rw [←hei,hLk e hem hei] at h3;cases h3
         rw [h1,h2]
        ·exfalso
         have hfo:∃of,ops[f.i]?=some of:=by
          unfold BD at hfd
          cases hx:ops[f.i]? with
          | none=>rw [hx] at hfd;cases hfd
          | some x=>exact ⟨x,rfl⟩
         obtain ⟨of,hof⟩:=hfo
         have:=h o of (by rw [←hei',hei];exact ho) hof
         refine (Oper.apart_spec this).2.2 t ?_ ht
         unfold BD at hfd
         rw [hof] at hfd
         exact hfd
      ·obtain ⟨g,hg,hgi⟩:=EZ.1 hLf
       obtain ⟨k',hk'⟩:=List.mem_iff_getElem?.1 hg
       rw [List.getElem?_take] at hk'
       split at hk'
       ·rename_i hlt
        have hfg:g=f:=hE.one g (List.mem_of_getElem? hk') f hf hgi
        subst hfg
        have:=hmk (g.i,g.q) (List.mem_iff_getElem?.2 ⟨k',by rw [List.getElem?_take,if_pos hlt,←hent,List.getElem?_map,hk'];rfl⟩) hq
        rw [←hei',hei] at this
        exact hah _ this
       ·cases hk'
      ·cases hq:e.q with
       | none=>exact absurd hq (hob e hem hobn)
       | some p=>exact cA hE hem hq (by rw [hei];exact hi0)
     refine b9 hmove ho hr fun a' w' hr'=>?_
     have hdst:BD ops e.i=o.dst:=by unfold BD;rw [hei,ho];rfl
     rw [←hdst,←VB hE hem (L:=fun j=>listed.getD j false) (L':=fun j=>(listed.setIfInBounds i true).getD j false) (by rw [hei];exact hi0) (by rw [hei];simp [Array.getD,hsz,hilt]) (fun f hf hfe=>by
      have:i≠f.i:=fun h=>hfe (hE.one f hf e hem (by rw [hei,h]))
      exact getD_set_ne false this)] at hr'
     have hcl1:=Yr (l:=seg) (P:=fun e=>!listed.getD e.1 false) (Q:=fun e=>!(listed.setIfInBounds i true).getD e.1 false) (x:=e0) (fun y _ hy=>by
      cases hl:listed.getD y.1 false with
      | false=>rfl
      | true=>rw [getD_set_true hl] at hy;cases hy) he0 (by rw [←hei',hei,hi0];rfl) (by rw [←hei',hei];simp [Array.getD,hsz,hilt])
     refine ih (u - 1) (by omega) F (listed.setIfInBounds i true) (by omega) (by omega) (D1 hc hi) (by rw [Array.size_setIfInBounds,hsz]) (fun j hj=>getD_set_true (hd j hj)) (fun j hj=>?_) a' w' hr'
     ·by_cases hji:i=j
      ·subst hji;exact .inr ⟨e0,he0,by rw [←hei',hei]⟩
      ·rw [getD_set_ne false hji] at hj
       exact hsub j hj
end seg
end
end Go.Proofs.YtkaiffheakalmaaGreatDoor
