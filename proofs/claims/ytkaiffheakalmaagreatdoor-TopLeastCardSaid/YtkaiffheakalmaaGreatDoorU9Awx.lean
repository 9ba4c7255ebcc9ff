/- Copied, stripped. No conditions. -/
import Derived.Test.YtkaiffheakalmaaGreatDoorU9Aww
set_option linter.unusedSimpArgs false
set_option linter.unusedVariables false
set_option maxRecDepth 100000
namespace Go.Proofs.YtkaiffheakalmaaGreatDoor
open Go.RowKit
def Cq (M:List Nat) (u:List (Nat×V)):List (Nat×V):=u.map fun p=>(p.1,NR M p.2)
theorem Hm (n:Nat):∀(M:List Nat) (u:List (Nat×V)) (h h':List (Option Ob)),JF M (ES.env ⟨n,u,h⟩)=ES.env ⟨n,Cq M u,h'⟩
  | [],u,h,h'=>by
    have:Cq [] u=u:=by unfold Cq;simp [NR]
    rw [this];rfl
  | a::M,u,h,h'=>by
    simp only [JF]
    rw [K8 n a u h h,Hm n M _ h h']
    unfold Cq
    rw [List.map_map]
    rfl
def BG (ρ:Nat→Nat):List Ob→Nat→List (Option Ob)→List (Option Ob)
  | [],_,h=>h
  | o::r,j,h=>BG ρ r (j+1) (h.set (ρ j) (some o))
theorem FR (ρ:Nat→Nat):∀(l:List Ob) (j:Nat) (h:List (Option Ob)),(BG ρ l j h).length=h.length
  | [],_,_=>rfl
  | o::r,j,h=>by simp [BG,FR ρ r]
theorem EN {ρ:Nat→Nat}:∀(l:List Ob) (j:Nat) (h:List (Option Ob)) (id:Nat),(∀i,i < l.length→ρ (j+i)≠id)→(BG ρ l j h)[id]?=h[id]?
  | [],_,_,_,_=>rfl
  | o::r,j,h,id,hn=>by
    simp only [BG]
    rw [EN r (j+1) _ id (fun i hi=>by have:=hn (i+1) (by simp;omega);rwa [show j+1+i=j+(i+1) by omega])]
    exact List.getElem?_set_ne (hn 0 (by simp))
theorem JH {ρ:Nat→Nat}:∀(l:List Ob) (j:Nat) (h:List (Option Ob)) (i:Nat) (o:Ob),l[i]?=some o→(∀a b,a < l.length→b < l.length→ρ (j+a)=ρ (j+b)→a=b)→ρ (j+i) < h.length→(BG ρ l j h)[ρ (j+i)]?=some (some o)
  | [],_,_,i,o,ho,_,_=>by simp at ho
  | x::r,j,h,0,o,ho,hi,hlt=>by
    simp at ho
    subst ho
    simp only [BG]
    rw [EN r (j+1) _ _ (fun a ha e=>by
      have:=hi (a+1) 0 (by simp;omega) (by simp) (by rw [←e,show j+(a+1)=j+1+a by omega])
      omega)]
    rw [Nat.add_zero] at hlt ⊢
    rw [List.getElem?_set_self hlt]
  | x::r,j,h,i+1,o,ho,hi,hlt=>by
    simp only [BG]
    rw [show j+(i+1)=j+1+i by omega] at hlt ⊢
    refine JH r (j+1) _ i o (by simpa using ho) (fun a b ha hb e=>?_) (by simpa using hlt)
    have:=hi (a+1) (b+1) (by simp;omega) (by simp;omega) (by rw [show j+(a+1)=j+1+a by omega,show j+(b+1)=j+1+b by omega];exact e)
    omega
theorem FS {C:Ctx} {P:Program} {f:FuncId} {args0:List V} {objs0:List Ob} {fixed:List Nat} {R:V→List Ob→Prop} (h:HFn P f args0 objs0 fixed R) (hC:C.P=P) (hb:AD P f=true) {fop:Operand} {args:List Operand} {xs:List V} {K:V→ES→Prop} {σ:ES}
    (he:B3 σ fop args=some (f,xs)) (ρ:Nat→Nat) (hinj:∀i j,i < objs0.length→j < objs0.length→ρ i=ρ j→i=j) (hx:FC objs0.length ρ args0 xs) (hobj:∀(j:Nat) (o:Ob),objs0[j]?=some o→∃o',σ.heap[ρ j]?=some (some o')∧Mf objs0.length ρ o o')
    (M:List Nat) (hM:∀j,j < objs0.length→ρ j∉M→j∈fixed) (hMi:∀id∈M,∃j,j < objs0.length∧ρ j=id)
    (hK:∀r0 objs',R r0 objs'→objs'.length=objs0.length→∃(r:V) (objs'':List Ob),Bu objs0.length ρ r0 r∧objs''.length=objs0.length∧(∀(j:Nat) (o o':Ob),objs'[j]?=some o→objs''[j]?=some o'→Mf objs0.length ρ o o')∧K r ⟨σ.n,Cq M σ.u,BG ρ objs'' 0 (BA M σ.heap)⟩):
    CallN C fop args f xs K σ:=by
  subst hC
  generalize hk:objs0.length=k at*
  obtain ⟨caps,e1,e2⟩:=CE he
  refine ⟨Bg ?_⟩
  unfold EA
  rw [e1]
  simp only
  rw [e2]
  refine ⟨hb,?_⟩
  rintro a w vs ⟨I,bl,hdef,henv,hxs,hH⟩
  have hH:HeapRep C σ.heap w I bl:=hH
  -- the callee's view
  let blc:Nat→Option BI:=fun j=>if j < k then bl (ρ j) else none
  have hblc:∀j,j < k→blc j=bl (ρ j):=fun j hj=>if_pos hj
  have hblc':∀j i,blc j=some i→j < k∧bl (ρ j)=some i:=by
    intro j i hj
    by_cases hjk:j < k
    . exact ⟨hjk,by rw [←hblc j hjk];exact hj⟩
    . simp only [blc,if_neg hjk] at hj;cases hj
  have hown:∀b,Ah blc b→b < w.heap.size∧¬I b∧(C.E b∨C.W0.heap.size≤b):=by
    rintro b ⟨j,i,h1,h2⟩
    exact hH.own _ i b (hblc' j i h1).2 h2
  obtain ⟨hxl,hxr⟩:=By hx
  have hHc:HeapRep ⟨C.P,w,Ah blc,I⟩ (objs0.map some) w I blc:=by
    refine ⟨fun j o ho=>?_,fun j i hj=>?_,fun j j' i i' b h1 h2 h3 h4=>?_,fun j i b h1 h2=>?_,fun b hb=>⟨(hH.imm b hb).1,.inl hb⟩,Kept.refl _ _⟩
    . have ho':objs0[j]?=some o:=by
        rw [List.getElem?_map,Option.map_eq_some_iff] at ho
        obtain ⟨o2,h1,h2⟩:=ho
        simp only [Option.some.injEq] at h2
        rw [h1,h2]
      have hj:j < k:=by rw [←hk];exact (List.getElem?_eq_some_iff.1 ho').1
      obtain ⟨o',h1,h2⟩:=hobj j o ho'
      exact TV hblc hj h2 (hH.obj _ o' h1)
    . obtain ⟨hj,_⟩:=hblc' j i hj
      exact ⟨objs0[j]'(by omega),by rw [List.getElem?_map,List.getElem?_eq_getElem (by omega)];rfl⟩
    . obtain ⟨hj,h1⟩:=hblc' j i h1
      obtain ⟨hj',h2⟩:=hblc' j' i' h2
      exact hinj j j' hj hj' (hH.apart _ _ i i' b h1 h2 h3 h4)
    . have h3:=hown b ⟨j,i,h1,h2⟩
      exact ⟨h3.1,h3.2.1,.inl ⟨j,i,h1,h2⟩⟩
  refine (h w I blc vs (by rw [hxl];exact hxs.1) (fun i v x hv hx'=>?_) hHc).mono ?_
  . obtain ⟨y,hy⟩:=DD hxl hx'
    exact IT hblc x v y (hxr i x y hx' hy) (hxs.2 i v y hv hy)
  rintro e w' ⟨v,r0,objs',I',bl',rfl,hR,hlen,hrep,hH',hfix⟩
  obtain ⟨r,objs'',hrr,hl2,hro,hKK⟩:=hK r0 objs' hR (by rw [hlen,hk])
  rw [hk] at hlen
  have hown':∀j i b,bl' j=some i→i.blk=some b→b < w'.heap.size∧¬I' b∧(Ah blc b∨w.heap.size≤b):=fun j i b h1 h2=>hH'.own j i b h1 h2
  have hlive':∀j i,bl' j=some i→j < k:=by
    intro j i h1
    obtain ⟨o,ho⟩:=hH'.live j i h1
    have:=(List.getElem?_eq_some_iff.1 ho).1
    simpa [hlen] using this
  have hkeep:∀b,b < w.heap.size→¬Ah blc b→w'.heap[b]?=w.heap[b]?:=fun b h1 h2=>hH'.kept.block b h1 h2
  have hsize:w.heap.size≤w'.heap.size:=hH'.kept.size
  have hnotI:∀b,I b→¬Ah blc b:=fun b hb h=>(hown b h).2.1 hb
  have hlater:Later I w w':=⟨fun b hb=>hkeep b (hH.imm b hb).1 (hnotI b hb),hH'.kept.shape⟩
  let I2:Nat→Prop:=fun b=>I b∨I' b
  -- the caller's places
  let bl2:Nat→Option BI:=fun id=>match (List.range k).find? (fun j=>decide (ρ j=id)) with|some j=>bl' j|none=>bl id
  have hin:∀j,j < k→bl2 (ρ j)=bl' j:=by
    intro j hj
    have:(List.range k).find? (fun i=>decide (ρ i=ρ j))=some j:=by
      cases hf:(List.range k).find? (fun i=>decide (ρ i=ρ j)) with
      | none=>
        have:=List.find?_eq_none.1 hf j (by simpa using hj)
        simp at this
      | some i=>
        have h1:=List.find?_some hf
        have h2:=List.mem_of_find?_eq_some hf
        simp at h1 h2
        rw [hinj i j h2 hj h1]
    simp only [bl2,this]
  have hout:∀id,(∀j,j < k→ρ j≠id)→bl2 id=bl id:=by
    intro id hid
    have:(List.range k).find? (fun i=>decide (ρ i=id))=none:=by
      rw [List.find?_eq_none]
      intro i hi
      simp at hi ⊢
      exact hid i hi
    simp only [bl2,this]
  have hM2:∀id,id∉M→bl2 id=bl id:=by
    intro id hid
    by_cases hex:∃j,j < k∧ρ j=id
    . obtain ⟨j,hj,rfl⟩:=hex
      rw [hin j hj,hfix j (hM j hj hid),hblc j hj]
    . exact hout id fun j hj e=>hex ⟨j,hj,e⟩
  have hI2:∀b,I b→I2 b:=fun b hb=>.inl hb
  have hI2':∀b,I' b→I2 b:=fun b hb=>.inr hb
  have hρlt:∀j,j < k→ρ j < σ.heap.length:=by
    intro j hj
    obtain ⟨o',h1,_⟩:=hobj j _ (List.getElem?_eq_getElem (by omega:j < objs0.length))
    exact (List.getElem?_eq_some_iff.1 h1).1
  have hsetlen:(BG ρ objs'' 0 (BA M σ.heap)).length=σ.heap.length:=by rw [FR,Cz]
  have hat:∀j,(hj:j < k)→(BG ρ objs'' 0 (BA M σ.heap))[ρ j]?=some (some (objs''[j]'(by omega))):=by
    intro j hj
    have:=JH (ρ:=ρ) objs'' 0 (BA M σ.heap) j _ (List.getElem?_eq_getElem (by omega)) (fun a b ha hb e=>hinj a b (by omega) (by omega) (by simpa using e)) (by rw [Cz,Nat.zero_add];exact hρlt j hj)
    rwa [Nat.zero_add] at this
  have hoth:∀id,(∀j,j < k→ρ j≠id)→(BG ρ objs'' 0 (BA M σ.heap))[id]?=(BA M σ.heap)[id]?:=by
    intro id hid
    exact EN objs'' 0 _ id fun i hi=>by rw [Nat.zero_add];exact hid i (by omega)
  have hnotblk:∀id i b,bl id=some i→i.blk=some b→(∀j,j < k→ρ j≠id)→¬Ah blc b:=by
    rintro id i b h1 h2 h3 ⟨j,i',h4,h5⟩
    obtain ⟨hj,h4⟩:=hblc' j i' h4
    exact h3 j hj (hH.apart _ _ i' i b h4 h1 h5 h2)
  have hI'cases:∀b,I' b→b < w'.heap.size∧(I b∨Ah blc b∨w.heap.size≤b):=fun b hb=>hH'.imm b hb
  refine ⟨v,r,⟨JF M σ.env,BG ρ objs'' 0 (BA M σ.heap)⟩,rfl,⟨_,?_,hKK⟩,I2,bl2,hdef,?_,⟨rfl,fun i v' x hv hx'=>?_⟩,?_⟩
  . unfold ES.st
    congr 1
    exact Hm σ.n M σ.u σ.heap _
  . exact JG M bl _ hM2 (henv.later hlater hI2 (fun _ _ h=>h))
  . cases i with
    | succ i=>simp at hv
    | zero=>
      simp at hv hx'
      subst hv;subst hx'
      exact OI hI2' hin hrep r hrr
  . refine ⟨fun id o ho=>?_,fun id i hi=>?_,fun id id' i i' b h1 h2 h3 h4=>?_,fun id i b h1 h2=>?_,fun b hb=>?_,?_⟩
    . have ho:(BG ρ objs'' 0 (BA M σ.heap))[id]?=some (some o):=ho
      by_cases hex:∃j,j < k∧ρ j=id
      . obtain ⟨j,hj,rfl⟩:=hex
        rw [hat j hj] at ho
        simp only [Option.some.injEq] at ho
        have ho1:objs'[j]?=some (objs'[j]'(by omega)):=List.getElem?_eq_getElem (by omega)
        have ho2:objs''[j]?=some (objs''[j]'(by omega)):=List.getElem?_eq_getElem (by omega)
        subst ho
        exact cX hI2' hin hj (hro j _ _ ho1 ho2) (hH'.obj j _ (by rw [List.getElem?_map,ho1];rfl))
      . have hid:∀j,j < k→ρ j≠id:=fun j hj e=>hex ⟨j,hj,e⟩
        rw [hoth id hid] at ho
        refine Hl M bl σ.heap o hM2 (fun hm=>?_) (fun o2 ho2=>?_) ho
        . obtain ⟨j,hj,e⟩:=hMi id hm
          exact hid j hj e
        . exact (hH.obj id o2 ho2).later hlater hI2 (fun _ _ h=>h) (fun i b h1 h2=>hkeep b (hH.own id i b h1 h2).1 (hnotblk id i b h1 h2 hid)) (fun h=>h)
    . show ∃o,(BG ρ objs'' 0 (BA M σ.heap))[id]?=some (some o)
      by_cases hex:∃j,j < k∧ρ j=id
      . obtain ⟨j,hj,rfl⟩:=hex
        exact ⟨_,hat j hj⟩
      . have hid:∀j,j < k→ρ j≠id:=fun j hj e=>hex ⟨j,hj,e⟩
        rw [hoth id hid]
        rw [hout id hid] at hi
        obtain ⟨o,ho⟩:=hH.live id i hi
        exact Gp M σ.heap o ho
    . by_cases hex:∃j,j < k∧ρ j=id
      . obtain ⟨j,hj,rfl⟩:=hex
        rw [hin j hj] at h1
        by_cases hex':∃j,j < k∧ρ j=id'
        . obtain ⟨j',hj',rfl⟩:=hex'
          rw [hin j' hj'] at h2
          rw [hH'.apart j j' i i' b h1 h2 h3 h4]
        . have hid:∀j,j < k→ρ j≠id':=fun j hj e=>hex' ⟨j,hj,e⟩
          rw [hout id' hid] at h2
          obtain ⟨g1,g2,g3⟩:=hown' j i b h1 h3
          have g4:=hH.own id' i' b h2 h4
          rcases g3 with g3|g3
          . exact absurd g3 (hnotblk id' i' b h2 h4 hid)
          . omega
      . have hid:∀j,j < k→ρ j≠id:=fun j hj e=>hex ⟨j,hj,e⟩
        rw [hout id hid] at h1
        by_cases hex':∃j,j < k∧ρ j=id'
        . obtain ⟨j',hj',rfl⟩:=hex'
          rw [hin j' hj'] at h2
          obtain ⟨g1,g2,g3⟩:=hown' j' i' b h2 h4
          have g4:=hH.own id i b h1 h3
          rcases g3 with g3|g3
          . exact absurd g3 (hnotblk id i b h1 h3 hid)
          . omega
        . have hid':∀j,j < k→ρ j≠id':=fun j hj e=>hex' ⟨j,hj,e⟩
          rw [hout id' hid'] at h2
          exact hH.apart id id' i i' b h1 h2 h3 h4
    . by_cases hex:∃j,j < k∧ρ j=id
      . obtain ⟨j,hj,rfl⟩:=hex
        rw [hin j hj] at h1
        obtain ⟨g1,g2,g3⟩:=hown' j i b h1 h2
        refine ⟨g1,fun hb=>?_,?_⟩
        . rcases hb with hb|hb
          . rcases g3 with g3|g3
            . exact hnotI b hb g3
            . have:=(hH.imm b hb).1;omega
          . exact g2 hb
        . rcases g3 with g3|g3
          . exact (hown b g3).2.2
          . exact .inr (Nat.le_trans hH.kept.size g3)
      . have hid:∀j,j < k→ρ j≠id:=fun j hj e=>hex ⟨j,hj,e⟩
        rw [hout id hid] at h1
        obtain ⟨g1,g2,g3⟩:=hH.own id i b h1 h2
        refine ⟨Nat.lt_of_lt_of_le g1 hsize,fun hb=>?_,g3⟩
        rcases hb with hb|hb
        . exact g2 hb
        . rcases (hI'cases b hb).2 with h5|h5|h5
          . exact g2 h5
          . exact hnotblk id i b h1 h2 hid h5
          . omega
    . rcases hb with hb|hb
      . obtain ⟨g1,g2⟩:=hH.imm b hb
        exact ⟨Nat.lt_of_lt_of_le g1 hsize,g2⟩
      . obtain ⟨g1,g2⟩:=hI'cases b hb
        refine ⟨g1,?_⟩
        rcases g2 with g2|g2|g2
        . exact (hH.imm b g2).2
        . have:=(hown b g2).2.2
          exact this.elim (fun h=>.inr (.inl h)) (fun h=>.inr (.inr h))
        . exact .inr (.inr (Nat.le_trans hH.kept.size g2))
    . have hk1:=hH.kept
      have hk2:=hH'.kept
      refine ⟨hk2.os.trans hk1.os,hk2.tape.trans hk1.tape,hk2.output.trans hk1.output,Nat.le_trans hk1.size hsize,fun b h1 h2=>?_,fun b s hs=>hk2.shape b s (hk1.shape b s hs)⟩
      have hlt:b < w.heap.size:=Nat.lt_of_lt_of_le h1 hk1.size
      have hnb:¬Ah blc b:=fun hb=>by
        rcases (hown b hb).2.2 with h|h
        . exact h2 h
        . omega
      rw [hkeep b hlt hnb]
      exact hk1.block b h1 h2
end Go.Proofs.YtkaiffheakalmaaGreatDoor
