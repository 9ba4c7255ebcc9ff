/- Joined. No conditions. -/
import Derived.Test.YtkaiffheakalmaaGreatDoorJ9ax
set_option linter.unusedSimpArgs false
set_option linter.unusedVariables false
set_option maxRecDepth 100000
namespace Go.Proofs.YtkaiffheakalmaaGreatDoor
open Go.RowKit
def fD (P:Program) (G:World→Prop) (f:FuncId) (args:List V) (objs:List Ob) (fixed:List Nat) (R:V→List Ob→Prop):Prop:=
 ∀(w:World) (I:Nat→Prop) (bl:Nat→Option BI) (vs:List Value),(∀w',Kept (Af bl) w w'→G w')→args.length=vs.length→(∀(i:Nat) (v:Value) (x:V),vs[i]?=some v→args[i]?=some x→Rep w I bl v x)→
   HeapRep ⟨P,w,Af bl,I⟩ (objs.map some) w I bl→
   Calls P f vs.toArray w fun e w'=>∃v r objs' I' bl',e= .returned v∧R r objs'∧objs'.length=objs.length∧Rep w' I' bl' v r∧HeapRep ⟨P,w,Af bl,I⟩ (objs'.map some) w' I' bl'∧∀j∈fixed,bl' j=bl j
def GC (C:Ctx) (G:World→Prop):Prop:=∀w,Kept C.E C.W0 w→G w
theorem iQ {C:Ctx} {G:World→Prop} (hE:C.E=fun _=>False) (hk:YI G) (hG:G C.W0):GC C G:=fun w hw=>hk _ _ (hE▸hw) hG
theorem Fn1G.cg {C:Ctx} {P:Program} {G:World→Prop} {f:FuncId} {args:List V} {R:V→Prop} (h:Fn1G P G f args R) (hC:C.P=P) (hg:GC C G):Xy C f args R:=by
 subst hC
 exact fun w I vs hw=>h w I vs (hg w hw)
section
variable {T:TT} {C:Ctx} {σ:ES}
theorem d9 {G:World→Prop} {P:Program} {f:FuncId} {fn:Func} {c:Code} {args:List V} {objs:List Ob} {fixed:List Nat} {R:V→List Ob→Prop} (hf:P.funcs[f]?=some fn) (hb:fn.body=some c) (hall:T.All P) (hany:P.follows .mixedOrders=true) (hc:Bl c=true) (hn:args.length≤fn.ntmps)
 (h:∀(C:Ctx) (vs:List Value),C.P=P→GC C G→EOk T C→Ea T C c (Y0 T C fn args objs vs fixed R) ⟨fn.ntmps,HT 0 args,objs.map some++[some (.hid vs args)]⟩):fD P G f args objs fixed R:=by
 intro w I bl vs hg hl hvs hH
 refine calls_of_wp hf hb ?_
 let C:Ctx:=⟨P,w,Af bl,I⟩
 have hE:EOk T C:=⟨hall,hany⟩
 have hbn:bl objs.length=none:=by
  cases hb:bl objs.length with
  | none=>rfl
  | some i=>
    obtain ⟨o,ho⟩:=hH.live _ _ hb
    have:=(List.getElem?_eq_some_iff.1 ho).1
    simp at this
 have hH2:HeapRep C (objs.map some++[some (.hid vs args)]) w I bl:=by
  refine ⟨fun id o ho=>?_,fun id i hi=>?_,hH.apart,hH.own,hH.imm,hH.kept⟩
  ·rw [List.getElem?_append] at ho
   split at ho
   ·exact hH.obj id o ho
   ·rename_i hlt
    simp only [List.length_map] at hlt ho
    cases hk:id - objs.length with
    | zero=>
      simp [hk] at ho
      subst ho
      have:id=objs.length:=by omega
      subst this
      exact ⟨hbn,hl.symm,hvs⟩
    | succ k=>simp [hk] at ho
  ·obtain ⟨o,ho⟩:=hH.live id i hi
   exact ⟨o,by rw [List.getElem?_append_left (List.getElem?_eq_some_iff.1 ho).1];exact ho⟩
 have hr:Rel C (⟨fn.ntmps,HT 0 args,objs.map some++[some (.hid vs args)]⟩:ES).st { tmps:=vs.toArray++Array.replicate (fn.ntmps - vs.toArray.size) undef,defers:=[]} w:=by
  rw [Pl _ _ _ hn]
  refine RP.rel (I:=I) (bl:=bl) ⟨rfl,⟨by simp [hl],fun i v x hv hx=>?_⟩,hH2⟩
  rw [List.getElem?_append] at hx
  rw [Array.getElem?_append] at hv
  split at hx
  ·rename_i hi
   have hi':i < vs.toArray.size:=by simp;omega
   rw [if_pos hi'] at hv
   exact hvs i v x (by simpa [List.getElem?_eq_getElem (show i < vs.length by omega)] using hv) hx
  ·have:x= .any:=by
    obtain ⟨h1,h2⟩:=List.getElem?_eq_some_iff.1 hx
    rw [←h2];simp
   subst this
   exact .pure _ _ (.any _)
 refine wp_mono (HM hE c hc _ _ (h C vs rfl hg hE) _ w hr) ?_
 rintro e a' w' ⟨s',⟨σ',rfl,h1⟩,h2⟩
 have fin:HRetN T C fn args objs vs fixed R σ'→a'.defers=[]∧∃v,(results fn a'.tmps).run P w'= .ok v w'∧
  ∃v' r objs' I' bl',Ending.returned v= .returned v'∧R r objs'∧objs'.length=objs.length∧Rep w' I' bl' v' r∧HeapRep ⟨P,w,Af bl,I⟩ (objs'.map some) w' I' bl'∧∀j∈fixed,bl' j=bl j:=by
  intro h1
  obtain ⟨s2,⟨objs',args',rest,g1,g2,g3,g4,g5,g6⟩,hr2⟩:=h1.out a' w' h2
  obtain ⟨I',bl',hp⟩:=hr2.parts
  obtain ⟨v,hv,hrep⟩:=Fd hp g4
  have hhid:ObRep w' I' bl' objs'.length (.hid vs args'):=hp.heap.obj _ _ (by rw [g1,List.getElem?_append_right (by simp)];simp)
  obtain ⟨hn1,hn2,hn3⟩:=hhid
  have hHr:HeapRep C s2.heap w' I' bl':=hp.heap
  have hfix:∀j∈fixed,bl' j=bl j:=by
   intro j hj
   have hfx:=List.all_eq_true.1 g6 j hj
   simp only [DB,Bool.and_eq_true,List.any_eq_true,List.mem_range] at hfx
   obtain ⟨hz,i,hi,hx,hx'⟩:=hfx
   obtain ⟨x,hxa⟩:∃x,args[i]?=some x:=⟨_,List.getElem?_eq_getElem hi⟩
   obtain ⟨u,hu⟩:∃u,vs[i]?=some u:=⟨_,List.getElem?_eq_getElem (by omega)⟩
   obtain ⟨x',hxa'⟩:∃x,args'[i]?=some x:=⟨_,List.getElem?_eq_getElem (by omega)⟩
   simp only [hxa] at hx
   simp only [hxa'] at hx'
   obtain ⟨b1,base1,z1,k1,k3⟩:=Hs hx (hvs i u _ hu hxa)
   obtain ⟨b2,base2,z2,k4,k6⟩:=Hs hx' (hn3 i u _ hu hxa')
   have kk:b1=b2∧base1=base2:=by
    rcases k3 with rfl|⟨m,cap,rfl,_⟩
    ·rcases k6 with k6|⟨m',cap',k6,_⟩
     ·simp only [Value.pointer.injEq,Option.some.injEq,Addr.mk.injEq,and_true] at k6
      exact k6
     ·cases k6
    ·rcases k6 with k6|⟨m',cap',k6,_⟩
     ·cases k6
     ·simp only [Value.slice.injEq,Option.some.injEq,Addr.mk.injEq,and_true] at k6
      exact k6.1
   obtain ⟨rfl,rfl⟩:=kk
   split at hz
   ·rename_i o ho
    split at hz
    ·rename_i o' ho'
     split at hz
     ·rename_i z hoz
      split at hz
      ·rename_i z' hoz'
       obtain ⟨bi,m1,m2⟩:=LU (hH.obj j o (by rw [List.getElem?_map,ho];rfl)) hoz
       obtain ⟨bi',m3,m4⟩:=LU (hHr.obj j o' (by
        have hlt:j < objs'.length:=(List.getElem?_eq_some_iff.1 ho').1
        rw [g1,List.getElem?_append_left (by simpa using hlt),List.getElem?_map,ho'];rfl)) hoz'
       rw [k1] at m1
       rw [k4] at m3
       simp only [Option.some.injEq] at m1 m3
       subst m1;subst m3
       simp only at m2 m4
       have:=D3 hz
       rw [k4,k1]
       subst m2;subst m4
       rw [this]
      ·cases hz
     ·cases hz
    ·cases hz
   ·cases hz
  rcases g2 with g2|⟨gl1,gl2⟩
  rotate_left
  ·refine ⟨hp.defers,v,hv,v,_,objs',I',TX objs'.length bl',rfl,g5,g3,hrep.cut _ (by rw [g3];exact gl1),⟨fun id o ho=>?_,fun id i hi=>?_,fun id id' i i' b hi hi'=>hHr.apart id id' i i' b (Db hi).2 (Db hi').2,fun id i b hi=>hHr.own id i b (Db hi).2,hHr.imm,hHr.kept⟩,fun j hj=>?_⟩
   ·have hlt:id < objs'.length:=by simpa using (List.getElem?_eq_some_iff.1 ho).1
    refine ObRep.cut (hHr.obj id o (by rw [g1,List.getElem?_append_left (by simpa using hlt)];exact ho)) hlt ?_
    rw [g3]
    refine KB _ objs' id o gl2 ?_
    simpa using ho
   ·obtain ⟨hlt,hi⟩:=Db hi
    exact ⟨objs'[id],by simp [hlt]⟩
   ·rw [C8,hfix j hj]
    have hfx:=List.all_eq_true.1 g6 j hj
    simp only [DB,Bool.and_eq_true] at hfx
    obtain ⟨hz,_⟩:=hfx
    split at hz
    ·split at hz
     ·rename_i ho'
      exact (List.getElem?_eq_some_iff.1 ho').1
     ·cases hz
    ·cases hz
  ·refine ⟨hp.defers,v,hv,v,_,objs',I',bl',rfl,g5,g3,hrep,⟨fun id o ho=>?_,fun id i hi=>?_,hHr.apart,hHr.own,hHr.imm,hHr.kept⟩,hfix⟩
   ·exact hHr.obj id o (by rw [g1,List.getElem?_append_left (List.getElem?_eq_some_iff.1 ho).1];exact ho)
   ·obtain ⟨o,ho⟩:=hHr.live id i hi
    rw [g1,List.getElem?_append] at ho
    split at ho
    ·exact ⟨o,ho⟩
    ·rename_i hlt
     simp only [List.length_map] at hlt ho
     cases hk:id - objs'.length with
     | zero=>
       have:id=objs'.length:=by omega
       subst this
       rw [hn1] at hi;cases hi
     | succ k=>
       rw [hk] at ho
       simp only [List.getElem?_cons_succ] at ho
       exact absurd ho (HU rest k o g2)
 cases e with
 | normal=>exact fin h1
 | ret=>exact fin h1
 | exit id=>exact h1.elim
 | goto l=>exact h1.elim
 | panic ch=>exact h1.elim
 | outgrown=>exact h1.elim
end
theorem cn {G:World→Prop} {C:Ctx} {P:Program} {f:FuncId} {args0:List V} {objs0:List Ob} {fixed:List Nat} {R:V→List Ob→Prop} (h:fD P G f args0 objs0 fixed R) (hg:GC C G) (hC:C.P=P) (hb:AB P f=true) {fop:Operand} {args:List Operand} {xs:List V} {K:V→ES→Prop} {σ:ES}
 (he:BO σ fop args=some (f,xs)) (ρ:Nat→Nat) (hinj:∀i j,i < objs0.length→j < objs0.length→ρ i=ρ j→i=j) (hx:Fj objs0.length ρ args0 xs) (hobj:∀(j:Nat) (o:Ob),objs0[j]?=some o→∃o',σ.heap[ρ j]?=some (some o')∧Ns objs0.length ρ o o')
 (M:List Nat) (hM:∀j,j < objs0.length→ρ j∉M→j∈fixed) (hMi:∀id∈M,∃j,j < objs0.length∧ρ j=id)
 (hK:∀r0 objs',R r0 objs'→objs'.length=objs0.length→∃(r:V) (objs'':List Ob),B7 objs0.length ρ r0 r∧objs''.length=objs0.length∧(∀(j:Nat) (o o':Ob),objs'[j]?=some o→objs''[j]?=some o'→Ns objs0.length ρ o o')∧K r ⟨σ.n,DE M σ.u,BL ρ objs'' 0 (BG M σ.heap)⟩):
 CallN C fop args f xs K σ:=by
 subst hC
 generalize hk:objs0.length=k at*
 obtain ⟨caps,e1,e2⟩:=CI he
 refine ⟨BM ?_⟩
 unfold Dz
 rw [e1]
 simp only
 rw [e2]
 refine ⟨hb,?_⟩
 rintro a w vs ⟨I,bl,hdef,henv,hxs,hH⟩
 have hH:HeapRep C σ.heap w I bl:=hH
 let blc:Nat→Option BI:=fun j=>if j < k then bl (ρ j) else none
 have hblc:∀j,j < k→blc j=bl (ρ j):=fun j hj=>if_pos hj
 have hblc':∀j i,blc j=some i→j < k∧bl (ρ j)=some i:=by
  intro j i hj
  by_cases hjk:j < k
  ·exact ⟨hjk,by rw [←hblc j hjk];exact hj⟩
  ·simp only [blc,if_neg hjk] at hj;cases hj
 have hown:∀b,Af blc b→b < w.heap.size∧¬I b∧(C.E b∨C.W0.heap.size≤b):=by
  rintro b ⟨j,i,h1,h2⟩
  exact hH.own _ i b (hblc' j i h1).2 h2
 obtain ⟨hxl,hxr⟩:=CC hx
 have hHc:HeapRep ⟨C.P,w,Af blc,I⟩ (objs0.map some) w I blc:=by
  refine ⟨fun j o ho=>?_,fun j i hj=>?_,fun j j' i i' b h1 h2 h3 h4=>?_,fun j i b h1 h2=>?_,fun b hb=>⟨(hH.imm b hb).1,.inl hb⟩,Kept.refl _ _⟩
  ·have ho':objs0[j]?=some o:=by
    rw [List.getElem?_map,Option.map_eq_some_iff] at ho
    obtain ⟨o2,h1,h2⟩:=ho
    simp only [Option.some.injEq] at h2
    rw [h1,h2]
   have hj:j < k:=by rw [←hk];exact (List.getElem?_eq_some_iff.1 ho').1
   obtain ⟨o',h1,h2⟩:=hobj j o ho'
   exact VO hblc hj h2 (hH.obj _ o' h1)
  ·obtain ⟨hj,_⟩:=hblc' j i hj
   exact ⟨objs0[j]'(by omega),by rw [List.getElem?_map,List.getElem?_eq_getElem (by omega)];rfl⟩
  ·obtain ⟨hj,h1⟩:=hblc' j i h1
   obtain ⟨hj',h2⟩:=hblc' j' i' h2
   exact hinj j j' hj hj' (hH.apart _ _ i i' b h1 h2 h3 h4)
  ·have h3:=hown b ⟨j,i,h1,h2⟩
   exact ⟨h3.1,h3.2.1,.inl ⟨j,i,h1,h2⟩⟩
 have hgc:∀w',Kept (Af blc) w w'→G w':=fun w' hk'=>hg w' (by
  have hk0:=hH.kept
  refine ⟨hk'.os.trans hk0.os,hk'.tape.trans hk0.tape,hk'.output.trans hk0.output,Nat.le_trans hk0.size hk'.size,fun b h1 h2=>?_,fun b s hs=>hk'.shape b s (hk0.shape b s hs)⟩
  rw [hk'.block b (Nat.lt_of_lt_of_le h1 hk0.size) (fun hb'=>(hown b hb').2.2.elim h2 (fun h3=>by omega))]
  exact hk0.block b h1 h2)
 refine (h w I blc vs hgc (by rw [hxl];exact hxs.1) (fun i v x hv hx'=>?_) hHc).mono ?_
 ·obtain ⟨y,hy⟩:=Dc hxl hx'
  exact JO hblc x v y (hxr i x y hx' hy) (hxs.2 i v y hv hy)
 rintro e w' ⟨v,r0,objs',I',bl',rfl,hR,hlen,hrep,hH',hfix⟩
 obtain ⟨r,objs'',hrr,hl2,hro,hKK⟩:=hK r0 objs' hR (by rw [hlen,hk])
 rw [hk] at hlen
 have hown':∀j i b,bl' j=some i→i.blk=some b→b < w'.heap.size∧¬I' b∧(Af blc b∨w.heap.size≤b):=fun j i b h1 h2=>hH'.own j i b h1 h2
 have hlive':∀j i,bl' j=some i→j < k:=by
  intro j i h1
  obtain ⟨o,ho⟩:=hH'.live j i h1
  have:=(List.getElem?_eq_some_iff.1 ho).1
  simpa [hlen] using this
 have hkeep:∀b,b < w.heap.size→¬Af blc b→w'.heap[b]?=w.heap[b]?:=fun b h1 h2=>hH'.kept.block b h1 h2
 have hsize:w.heap.size≤w'.heap.size:=hH'.kept.size
 have hnotI:∀b,I b→¬Af blc b:=fun b hb h=>(hown b h).2.1 hb
 have hlater:Later I w w':=⟨fun b hb=>hkeep b (hH.imm b hb).1 (hnotI b hb),hH'.kept.shape⟩
 let I2:Nat→Prop:=fun b=>I b∨I' b
 let bl2:Nat→Option BI:=fun id=>match (List.range k).find? (fun j=>decide (ρ j=id)) with|some j=>bl' j|none=>bl id
 have hin:∀j,j < k→bl2 (ρ j)=bl' j:=by
  intro j hj
  have:(List.range k).find? (fun i=>decide (ρ i=ρ j))=some j:=by
   cases hf:(List.range k).find? (fun i=>decide (ρ i=ρ j)) with
   | none=>
     have:=List.find?_eq_none.1 hf j (by simpa using hj)
     simp at this
   | some i=>
     have h1:=List.find?_some hf
     have h2:=List.mem_of_find?_eq_some hf
     simp at h1 h2
     rw [hinj i j h2 hj h1]
  simp only [bl2,this]
 have hout:∀id,(∀j,j < k→ρ j≠id)→bl2 id=bl id:=by
  intro id hid
  have:(List.range k).find? (fun i=>decide (ρ i=id))=none:=by
   rw [List.find?_eq_none]
   intro i hi
   simp at hi ⊢
   exact hid i hi
  simp only [bl2,this]
 have hM2:∀id,id∉M→bl2 id=bl id:=by
  intro id hid
  by_cases hex:∃j,j < k∧ρ j=id
  ·obtain ⟨j,hj,rfl⟩:=hex
   rw [hin j hj,hfix j (hM j hj hid),hblc j hj]
  ·exact hout id fun j hj e=>hex ⟨j,hj,e⟩
 have hI2:∀b,I b→I2 b:=fun b hb=>.inl hb
 have hI2':∀b,I' b→I2 b:=fun b hb=>.inr hb
 have hρlt:∀j,j < k→ρ j < σ.heap.length:=by
  intro j hj
  obtain ⟨o',h1,_⟩:=hobj j _ (List.getElem?_eq_getElem (by omega:j < objs0.length))
  exact (List.getElem?_eq_some_iff.1 h1).1
 have hsetlen:(BL ρ objs'' 0 (BG M σ.heap)).length=σ.heap.length:=by rw [Fx,DM]
 have hat:∀j,(hj:j < k)→(BL ρ objs'' 0 (BG M σ.heap))[ρ j]?=some (some (objs''[j]'(by omega))):=by
  intro j hj
  have:=KE (ρ:=ρ) objs'' 0 (BG M σ.heap) j _ (List.getElem?_eq_getElem (by omega)) (fun a b ha hb e=>hinj a b (by omega) (by omega) (by simpa using e)) (by rw [DM,Nat.zero_add];exact hρlt j hj)
  rwa [Nat.zero_add] at this
 have hoth:∀id,(∀j,j < k→ρ j≠id)→(BL ρ objs'' 0 (BG M σ.heap))[id]?=(BG M σ.heap)[id]?:=by
  intro id hid
  exact E2 objs'' 0 _ id fun i hi=>by rw [Nat.zero_add];exact hid i (by omega)
 have hnotblk:∀id i b,bl id=some i→i.blk=some b→(∀j,j < k→ρ j≠id)→¬Af blc b:=by
  rintro id i b h1 h2 h3 ⟨j,i',h4,h5⟩
  obtain ⟨hj,h4⟩:=hblc' j i' h4
  exact h3 j hj (hH.apart _ _ i' i b h4 h1 h5 h2)
 have hI'cases:∀b,I' b→b < w'.heap.size∧(I b∨Af blc b∨w.heap.size≤b):=fun b hb=>hH'.imm b hb
 refine ⟨v,r,⟨KC M σ.env,BL ρ objs'' 0 (BG M σ.heap)⟩,rfl,⟨_,?_,hKK⟩,I2,bl2,hdef,?_,⟨rfl,fun i v' x hv hx'=>?_⟩,?_⟩
 ·unfold ES.st
  congr 1
  exact Ib σ.n M σ.u σ.heap _
 ·exact KD M bl _ hM2 (henv.later hlater hI2 (fun _ _ h=>h))
 ·cases i with
  | succ i=>simp at hv
  | zero=>
    simp at hv hx'
    subst hv;subst hx'
    exact Pm hI2' hin hrep r hrr
 ·refine ⟨fun id o ho=>?_,fun id i hi=>?_,fun id id' i i' b h1 h2 h3 h4=>?_,fun id i b h1 h2=>?_,fun b hb=>?_,?_⟩
  ·have ho:(BL ρ objs'' 0 (BG M σ.heap))[id]?=some (some o):=ho
   by_cases hex:∃j,j < k∧ρ j=id
   ·obtain ⟨j,hj,rfl⟩:=hex
    rw [hat j hj] at ho
    simp only [Option.some.injEq] at ho
    have ho1:objs'[j]?=some (objs'[j]'(by omega)):=List.getElem?_eq_getElem (by omega)
    have ho2:objs''[j]?=some (objs''[j]'(by omega)):=List.getElem?_eq_getElem (by omega)
    subst ho
    exact d5 hI2' hin hj (hro j _ _ ho1 ho2) (hH'.obj j _ (by rw [List.getElem?_map,ho1];rfl))
   ·have hid:∀j,j < k→ρ j≠id:=fun j hj e=>hex ⟨j,hj,e⟩
    rw [hoth id hid] at ho
    refine Ia M bl σ.heap o hM2 (fun hm=>?_) (fun o2 ho2=>?_) ho
    ·obtain ⟨j,hj,e⟩:=hMi id hm
     exact hid j hj e
    ·exact (hH.obj id o2 ho2).later hlater hI2 (fun _ _ h=>h) (fun i b h1 h2=>hkeep b (hH.own id i b h1 h2).1 (hnotblk id i b h1 h2 hid)) (fun h=>h)
  ·show ∃o,(BL ρ objs'' 0 (BG M σ.heap))[id]?=some (some o)
   by_cases hex:∃j,j < k∧ρ j=id
   ·obtain ⟨j,hj,rfl⟩:=hex
    exact ⟨_,hat j hj⟩
   ·have hid:∀j,j < k→ρ j≠id:=fun j hj e=>hex ⟨j,hj,e⟩
    rw [hoth id hid]
    rw [hout id hid] at hi
    obtain ⟨o,ho⟩:=hH.live id i hi
    exact HV M σ.heap o ho
  ·by_cases hex:∃j,j < k∧ρ j=id
   ·obtain ⟨j,hj,rfl⟩:=hex
    rw [hin j hj] at h1
    by_cases hex':∃j,j < k∧ρ j=id'
    ·obtain ⟨j',hj',rfl⟩:=hex'
     rw [hin j' hj'] at h2
     rw [hH'.apart j j' i i' b h1 h2 h3 h4]
    ·have hid:∀j,j < k→ρ j≠id':=fun j hj e=>hex' ⟨j,hj,e⟩
     rw [hout id' hid] at h2
     obtain ⟨g1,g2,g3⟩:=hown' j i b h1 h3
     have g4:=hH.own id' i' b h2 h4
     rcases g3 with g3|g3
     ·exact absurd g3 (hnotblk id' i' b h2 h4 hid)
     ·omega
   ·have hid:∀j,j < k→ρ j≠id:=fun j hj e=>hex ⟨j,hj,e⟩
    rw [hout id hid] at h1
    by_cases hex':∃j,j < k∧ρ j=id'
    ·obtain ⟨j',hj',rfl⟩:=hex'
     rw [hin j' hj'] at h2
     obtain ⟨g1,g2,g3⟩:=hown' j' i' b h2 h4
     have g4:=hH.own id i b h1 h3
     rcases g3 with g3|g3
     ·exact absurd g3 (hnotblk id i b h1 h3 hid)
     ·omega
    ·have hid':∀j,j < k→ρ j≠id':=fun j hj e=>hex' ⟨j,hj,e⟩
     rw [hout id' hid'] at h2
     exact hH.apart id id' i i' b h1 h2 h3 h4
  ·by_cases hex:∃j,j < k∧ρ j=id
   ·obtain ⟨j,hj,rfl⟩:=hex
    rw [hin j hj] at h1
    obtain ⟨g1,g2,g3⟩:=hown' j i b h1 h2
    refine ⟨g1,fun hb=>?_,?_⟩
    ·rcases hb with hb|hb
     ·rcases g3 with g3|g3
      ·exact hnotI b hb g3
      ·have:=(hH.imm b hb).1;omega
     ·exact g2 hb
    ·rcases g3 with g3|g3
     ·exact (hown b g3).2.2
     ·exact .inr (Nat.le_trans hH.kept.size g3)
   ·have hid:∀j,j < k→ρ j≠id:=fun j hj e=>hex ⟨j,hj,e⟩
    rw [hout id hid] at h1
    obtain ⟨g1,g2,g3⟩:=hH.own id i b h1 h2
    refine ⟨Nat.lt_of_lt_of_le g1 hsize,fun hb=>?_,g3⟩
    rcases hb with hb|hb
    ·exact g2 hb
    ·rcases (hI'cases b hb).2 with h5|h5|h5
     ·exact g2 h5
     ·exact hnotblk id i b h1 h2 hid h5
     ·omega
  ·rcases hb with hb|hb
   ·obtain ⟨g1,g2⟩:=hH.imm b hb
    exact ⟨Nat.lt_of_lt_of_le g1 hsize,g2⟩
   ·obtain ⟨g1,g2⟩:=hI'cases b hb
    refine ⟨g1,?_⟩
    rcases g2 with g2|g2|g2
    ·exact (hH.imm b g2).2
    ·have:=(hown b g2).2.2
     exact this.elim (fun h=>.inr (.inl h)) (fun h=>.inr (.inr h))
    ·exact .inr (.inr (Nat.le_trans hH.kept.size g2))
  ·have hk1:=hH.kept
   have hk2:=hH'.kept
   refine ⟨hk2.os.trans hk1.os,hk2.tape.trans hk1.tape,hk2.output.trans hk1.output,Nat.le_trans hk1.size hsize,fun b h1 h2=>?_,fun b s hs=>hk2.shape b s (hk1.shape b s hs)⟩
   have hlt:b < w.heap.size:=Nat.lt_of_lt_of_le h1 hk1.size
   have hnb:¬Af blc b:=fun hb=>by
    rcases (hown b hb).2.2 with h|h
    ·exact h2 h
    ·omega
   rw [hkeep b hlt hnb]
   exact hk1.block b h1 h2
abbrev Kn:=List (List Int×Bool)
def gh:Nat→Kn→List ((List Int×Bool)×Int)
 | _,[]=>[]
 | i,q::K=>(q,(i:Int))::gh (i+1) K
def LL (K:Kn):List ((List Int×Bool)×Int):=gh 0 K
theorem dY (K:Kn) (q:List Int×Bool):∀i,gh i (K++[q])=gh i K++[(q,((i+K.length:Nat):Int))]:=by
 induction K with
 | nil=>intro i;simp [gh]
 | cons p K ih=>
   intro i
   simp only [List.cons_append,gh,List.cons_append,ih (i+1),List.length_cons]
   rw [show i+1+K.length=i+(K.length+1) by omega]
theorem Vx (K:Kn) (q:List Int×Bool):LL (K++[q])=LL K++[(q,(K.length:Int))]:=by
 unfold LL
 rw [dY,Nat.zero_add]
def NS (l:List Int) (f:Bool) (K:Kn):Int×Kn:=match A8 (CE l,f) (LL K) with
 | some i=>(i,K)
 | none=>((K.length:Int),K++[(CE l,f)])
theorem Jq {l:List Int} {f:Bool} {K:Kn} {i:Int} (h:A8 (CE l,f) (LL K)=some i):NS l f K=(i,K):=by unfold NS;rw [h]
theorem Jr {l:List Int} {f:Bool} {K:Kn} (h:A8 (CE l,f) (LL K)=none):NS l f K=((K.length:Int),K++[(CE l,f)]):=by unfold NS;rw [h]
def fh (K:Kn) (N:List (List Int)):List Ob:=[.row 1 [.it 3],.row 1 [.sl 4 0 K.length],.row 2 [.agg [.sl 5 0 N.length,.sl 6 0 K.length]],Jv DC (LL K),.row 1 (K.map fun q=>AL q.1),.row 8 (N.map BV),.row 1 (K.map fun q=>V.bool q.2)]
theorem K4 (L:List V) (hL:BT L):Fn1 Tryz.prog 56 [.lst L] (fun r=>r= .fn 79 [.rp [.lst L]]):=by
 refine Ax Tryz.func56 fun C hC hE=>?_
 conv=>whnf
 repeat' refine DD (AK 0 (z:=1) (els:=[.lst L]) rfl ⟨trivial,trivial⟩ (AH (AC hE ?_)))<;>conv=>whnf
 exact ⟨rfl,rfl⟩
theorem UF:AB Tryz.prog 83=true:=by kernel_rfl
theorem SX (f:Bool):Fn1 Tryz.prog 58 [.bool f] (fun r=>r= .str (QM f)):=by
 have h:Fn1 Tryz.prog 83 [.bool f] (fun r=>r= .str (QM f)):=by
  cases f
  all_goals
   refine Ax Tryz.func83 fun C hC hE=>?_
   conv=>whnf
   repeat' refine AC hE ?_<;>conv=>whnf
   exact ⟨rfl,rfl⟩
 cases f
 all_goals
  refine Ax Tryz.func58 fun C hC hE=>?_
  conv=>whnf
  repeat' (first|refine AN h hC UF ?_|refine AC hE ?_)<;>conv=>whnf
  exact ⟨rfl,rfl⟩
theorem SY {C:Ctx} {P:Program} {f:FuncId} {z m:Nat} {xs0 xs1:List V} {Q:List V→Prop} {fop:Operand} {args:List Operand} {K:V→ES→Prop} {σ:ES} (h:HFn P f xs0 [.row z []] [] (fun r o=>r= .sl 0 0 m∧∃els',Q els'∧o=[.row z els'])) (hC:C.P=P) (hb:AB P f=true)
 (p:Nat) (he:BO σ fop args=some (f,xs1)) (hx:Fj 1 (fun _=>p) xs0 xs1) (hrow:σ.heap[p]?=some (some (.row z []))) (hn':∀els',Q els'→BT els')
 (hK:∀els',Q els'→Fv p σ.u fun u=>fH ((BC p σ.heap).set p (some (.row z els'))) fun h=>K (.sl p 0 m) ⟨σ.n,u,h⟩):CallN C fop args f xs1 K σ:=by
 refine Fy h hC hb he (fun _=>p) ?_ ?_ ?_ [p] ?_ ?_ ?_
 ·intro i j hi hj _
  simp at hi hj
  omega
 ·exact hx
 ·intro j o ho
  match j,ho with
  | 0,ho=>
    simp at ho
    subst ho
    exact ⟨_,hrow,[],rfl,BA trivial⟩
  | n+1,ho=>simp at ho
 ·intro j _ hn
  exact absurd (by simp) hn
 ·intro id hid
  simp at hid
  exact ⟨0,by simp,hid.symm⟩
 ·rintro r0 objs' ⟨rfl,els',hq,rfl⟩ _
  have hK:=hK els' hq
  rw [E7,A7] at hK
  refine ⟨.sl p 0 m,[.row z els'],by simp [B7],rfl,?_,hK⟩
  intro j o o' ho ho'
  match j,ho,ho' with
  | 0,ho,ho'=>
    simp at ho ho'
    subst ho;subst ho'
    exact ⟨els',rfl,BA (hn' _ hq)⟩
  | n+1,ho,_=>simp at ho
theorem Xi {C:Ctx} {P:Program} {f:FuncId} {z n0:Nat} {els els' xs0:List V} {R0:V} {fop:Operand} {args:List Operand} {K:V→ES→Prop} {σ:ES} (h:HFn P f (.sl 0 0 n0::xs0) [.row z els] [] (fun r o=>r=R0∧o=[.row z els'])) (hC:C.P=P) (hb:AB P f=true)
 (p:Nat) (he:BO σ fop args=some (f,.sl p 0 n0::xs0)) (hx:BT xs0) (hR:R0.nr) (hrow:σ.heap[p]?=some (some (.row z els))) (hn:BT els) (hn':BT els')
 (hK:Fv p σ.u fun u=>fH ((BC p σ.heap).set p (some (.row z els'))) fun h=>K R0 ⟨σ.n,u,h⟩):CallN C fop args f (.sl p 0 n0::xs0) K σ:=by
 rw [E7,A7] at hK
 refine Fy h hC hb he (fun _=>p) ?_ ?_ ?_ [p] ?_ ?_ ?_
 ·intro i j hi hj _
  simp at hi hj
  omega
 ·simp only [Fj]
  exact ⟨.sl p 0 n0,xs0,rfl,by simp [B7],BA hx⟩
 ·intro j o ho
  match j,ho with
  | 0,ho=>
    simp at ho
    subst ho
    exact ⟨_,hrow,els,rfl,BA hn⟩
  | n+1,ho=>simp at ho
 ·intro j _ hn
  exact absurd (by simp) hn
 ·intro id hid
  simp at hid
  exact ⟨0,by simp,hid.symm⟩
 ·rintro r0 objs' ⟨rfl,rfl⟩ _
  refine ⟨r0,[.row z els'],FK r0 hR,rfl,?_,hK⟩
  intro j o o' ho ho'
  match j,ho,ho' with
  | 0,ho,ho'=>
    simp at ho ho'
    subst ho;subst ho'
    exact ⟨els',rfl,BA hn'⟩
  | n+1,ho,_=>simp at ho
theorem SZ (x:Int):∀l,(Ke x l).length≤l.length+1
 | []=>by simp [Ke]
 | y::l=>by
   unfold Ke
   split
   ·simp
   ·split
    ·simp
    ·simpa using SZ x l
theorem PD:∀l,(CE l).length≤l.length
 | []=>Nat.le_refl _
 | x::l=>by
   have:=SZ x (CE l)
   have h2:=PD l
   show (Ke x (CE l)).length≤l.length+1
   omega
theorem F0 (K:Kn):BT (K.map fun q=>AL q.1):=by
 induction K with
 | nil=>trivial
 | cons q K ih=>exact ⟨trivial,ih⟩
theorem Ds (K:Kn):BT (K.map fun q=>V.bool q.2):=by
 induction K with
 | nil=>trivial
 | cons q K ih=>exact ⟨trivial,ih⟩
set_option maxHeartbeats 8000000 in
theorem dZ (l:List Int) (f:Bool) (K:Kn) (N:List (List Int)) (hl:l.length≤12) (hK:K.length≤1000) (hb:∀x∈l,-9223372036854775808≤x∧x≤9223372036854775807):
 fD Tryz.prog GT 53 [AL l,.bool f,.ptr 0 0 0,.ptr 1 0 0,.ptr 2 0 0] (fh K N) [0,1,2] (fun r o=>r= .int .i64 (NS l f K).1∧o=fh (NS l f K).2 N):=by
 have hsb:∀x∈CE l,-9223372036854775808≤x∧x≤9223372036854775807:=fun x hx=>hb x ((Kf x l).1 hx)
 have hsl:(CE l).length≤12:=Nat.le_trans (PD l) hl
 have hkey:=Re (CE l) (by omega) hsb
 have hfb:=SX f
 have k1:∀id,AF id (K.map fun q=>AL q.1)=K.map fun q=>AL q.1:=fun id=>AA id (F0 K)
 have k2:∀id,AF id (K.map fun q=>V.bool q.2)=K.map fun q=>V.bool q.2:=fun id=>AA id (Ds K)
 have k3:∀id,AF id (N.map BV)=N.map BV:=fun id=>AA id (Cc N)
 by_cases h0:0 < l.length
 ·have hval:=K4 (l.map (V.int .i64)) (Bs l)
  have hsr:=ag l h0 hl
  refine d9 (T:=Tryz.tt) Tryz.func53 rfl NX Ek ?_ ?_ fun C vs hC hg hE=>?_
  ·kernel_rfl
  ·exact Nat.le_of_ble_eq_true (by kernel_rfl)
  have hkw:=hkey.cg hC hg
  have hadd:(HW (CE l)).length+(QM f).length≤9223372036854775807:=by
   have h1:=Mb (CE l) hsb
   have h2:(QM f).length≤5:=by cases f<;>decide
   omega
  have kI:(K.map fun q=>AL q.1).length=K.length:=by simp
  have kB:(K.map fun q=>V.bool q.2).length=K.length:=by simp
  have t1:(K.map fun q=>AL q.1).take K.length=K.map fun q=>AL q.1:=List.take_of_length_le (by rw [kI];exact Nat.le_refl _)
  have t2:(K.map fun q=>V.bool q.2).take K.length=K.map fun q=>V.bool q.2:=List.take_of_length_le (by rw [kB];exact Nat.le_refl _)
  obtain ⟨o,ho⟩:∃o,A8 (CE l,f) (LL K)=o:=⟨_,rfl⟩
  unfold fh AL at*
  cases f
  all_goals
   conv=>whnf
   repeat' refine AN hval hC Iw ?_<;>conv=>whnf
   refine AY (Fz 1 (AH ?_))
   conv=>whnf
   simp only [k1,k2,k3]
   refine SY (Q:=Jo l) hsr hC Iv 8 rfl (BA ⟨⟨trivial,trivial⟩,trivial⟩) rfl Jp ?_
   rintro els' ⟨A,hA,rfl⟩
   conv=>whnf
   simp only [k1,k2,k3]
   refine Xi (XK l A hA h0 hl) hC Iu 8 rfl trivial trivial rfl (Bs A) trivial ?_
   conv=>whnf
   simp only [k1,k2,k3]
   cases o with
   | some v=>
     repeat' (first|refine AO ?_|refine EL hkw hC EJ rfl ?_|refine AN hfb hC Gq ?_|refine Gc (kV:=DC) (kA:=NF) (by rw [hC];exact H0) 3 (LL K) _ v rfl rfl rfl ho ?_)<;>conv=>whnf
     refine Ap (BN 8 (AH (BP hE ?_)))
     conv=>whnf
     refine ⟨rfl,?_,?_,?_⟩
     ·simp [DB,Sm,FH,AF,V.kill,Ob.kill]
      exact ⟨⟨2,by decide,rfl⟩,⟨3,by decide,rfl⟩,⟨4,by decide,rfl⟩⟩
     ·rw [Jq ho]
     ·rw [Jq ho]
      simp only [Ob.kill,k1,k2,k3]
      rfl
   | none=>
     repeat' (first|refine AO ?_|refine AV ?_|refine EL hkw hC EJ rfl ?_|refine AN hfb hC Gq ?_|refine Gd (kV:=DC) (kA:=NF) (by rw [hC];exact H0) 3 (LL K) _ rfl rfl rfl ho ?_|refine LX (kV:=DC) (kA:=NF) (by rw [hC];exact H0) 3 (LL K) _ K.length rfl rfl rfl rfl ho ?_|refine EN (Nat.le_refl 1) ?_|(refine EN ⟨?_,?_,?_⟩ ?_;(simp [AQ]<;>omega);(show _+1≤9223372036854775807;omega);(show (_+1)*_≤140737488355328;omega))|intro hlen)<;>conv=>whnf
     refine Ap (HR [8,9,10] (AH (BP hE ?_)))
     conv=>whnf
     refine ⟨rfl,?_,?_,?_⟩
     ·simp [DB,Sm,FH,AF,V.kill,Ob.kill]
      exact ⟨⟨2,by decide,rfl⟩,⟨3,by decide,rfl⟩,⟨4,by decide,rfl⟩⟩
     ·rw [Jr ho]
      show V.int .i64 (((K.length+1:Nat):Int) - 1)=V.int .i64 (K.length:Int)
      congr 1
      omega
     ·rw [Jr ho]
      simp only [Jv,Vx,List.map_append,List.length_append,Ob.kill,BH,List.drop_zero,t1,t2,k1,k2,k3]
      rfl
 ·obtain rfl:l=[]:=List.length_eq_zero_iff.1 (by omega)
  have hval:=K4 [] trivial
  refine d9 (T:=Tryz.tt) Tryz.func53 rfl NX Ek ?_ ?_ fun C vs hC hg hE=>?_
  ·kernel_rfl
  ·exact Nat.le_of_ble_eq_true (by kernel_rfl)
  have hkw:=hkey.cg hC hg
  have hadd:(HW (CE [])).length+(QM f).length≤9223372036854775807:=by
   have h1:=Mb (CE []) hsb
   have h2:(QM f).length≤5:=by cases f<;>decide
   omega
  have kI:(K.map fun q=>AL q.1).length=K.length:=by simp
  have kB:(K.map fun q=>V.bool q.2).length=K.length:=by simp
  have t1:(K.map fun q=>AL q.1).take K.length=K.map fun q=>AL q.1:=List.take_of_length_le (by rw [kI];exact Nat.le_refl _)
  have t2:(K.map fun q=>V.bool q.2).take K.length=K.map fun q=>V.bool q.2:=List.take_of_length_le (by rw [kB];exact Nat.le_refl _)
  obtain ⟨o,ho⟩:∃o,A8 (CE [],f) (LL K)=o:=⟨_,rfl⟩
  unfold fh AL at*
  cases f
  all_goals
   conv=>whnf
   cases o with
   | some v=>
     repeat' (first|refine AO ?_|refine AN hval hC Iw ?_|refine AN NQ hC Iv ?_|refine AN K1 hC Iu ?_|refine EL hkw hC EJ rfl ?_|refine AN hfb hC Gq ?_|refine Gc (kV:=DC) (kA:=NF) (by rw [hC];exact H0) 3 (LL K) _ v rfl rfl rfl ho ?_)<;>conv=>whnf
     refine Ap (BN 8 (AH (BP hE ?_)))
     conv=>whnf
     refine ⟨rfl,?_,?_,?_⟩
     ·simp [DB,Sm,FH,AF,V.kill,Ob.kill]
      exact ⟨⟨2,by decide,rfl⟩,⟨3,by decide,rfl⟩,⟨4,by decide,rfl⟩⟩
     ·rw [Jq ho]
     ·rw [Jq ho]
      simp only [Ob.kill,k1,k2,k3]
      rfl
   | none=>
     repeat' (first|refine AO ?_|refine AV ?_|refine AN hval hC Iw ?_|refine AN NQ hC Iv ?_|refine AN K1 hC Iu ?_|refine EL hkw hC EJ rfl ?_|refine AN hfb hC Gq ?_|refine Gd (kV:=DC) (kA:=NF) (by rw [hC];exact H0) 3 (LL K) _ rfl rfl rfl ho ?_|refine LX (kV:=DC) (kA:=NF) (by rw [hC];exact H0) 3 (LL K) _ K.length rfl rfl rfl rfl ho ?_|refine EN (Nat.le_refl 1) ?_|(refine EN ⟨?_,?_,?_⟩ ?_;(simp [AQ]<;>omega);(show _+1≤9223372036854775807;omega);(show (_+1)*_≤140737488355328;omega))|intro hlen)<;>conv=>whnf
     refine Ap (HR [8,9,10] (AH (BP hE ?_)))
     conv=>whnf
     refine ⟨rfl,?_,?_,?_⟩
     ·simp [DB,Sm,FH,AF,V.kill,Ob.kill]
      exact ⟨⟨2,by decide,rfl⟩,⟨3,by decide,rfl⟩,⟨4,by decide,rfl⟩⟩
     ·rw [Jr ho]
      show V.int .i64 (((K.length+1:Nat):Int) - 1)=V.int .i64 (K.length:Int)
      congr 1
      omega
     ·rw [Jr ho]
      simp only [Jv,Vx,List.map_append,List.length_append,Ob.kill,BH,List.drop_zero,t1,t2,k1,k2,k3]
      rfl
end Go.Proofs.YtkaiffheakalmaaGreatDoor
