/- Joined. No conditions. -/
import Derived.Test.YtkaiffheakalmaaGreatDoorJ9br
set_option linter.unusedSimpArgs false
set_option linter.unusedVariables false
set_option maxRecDepth 100000
namespace Go.Proofs.YtkaiffheakalmaaGreatDoor
open Go.RowKit
section
variable {C:Ctx} {ops:Array Oper}
def VV (C:Ctx) (ops:Array Oper) (K:St→Prop):List Sg→List Nat→St→Prop
 | [],_,s=>K s
 | g::r,lf,s=>∃ent:List Ent,ent.map (fun e=>(e.i,e.q))=B4 g.ql lf g.seg∧C0 C ops s.heap.length ent ⟨s.env,s.heap++List.replicate g.M none⟩ (fun s'=>match g.bar with
   | none=>VV C ops K r [] s'
   | some b=>∀U∈X0 g lf,∃o K0,ops[b]?=some o∧As ops o (Dl ops s.env (B4 g.ql lf g.seg) s.heap.length U s')=some true∧DJ C o (Dl ops s.env (B4 g.ql lf g.seg) s.heap.length U s') K0∧∀x s'',K0 x s''→Up C (VV C ops K r U) (s''.put o.dst x))
def Hv (ops:Array Oper) (ms:List Nat):Nat→List Nat→List Sg→Bool
 | d,lf,[]=>lf.isEmpty&&(List.range ops.size).all fun j=>d.testBit j
 | d,lf,g::r=>OW ops ms d g.M (B4 g.ql lf g.seg) g.bar (LC g lf)&&(match g.bar with
   | none=>Hv ops ms (Ba d (B4 g.ql lf g.seg)) [] r
   | some b=>(match ops[b]? with|some o=>IV o (Ba d (B4 g.ql lf g.seg))|none=>false)&&!(Ba d (B4 g.ql lf g.seg)).testBit b&&
      ((List.range ops.size).all fun j=>(Ba d (B4 g.ql lf g.seg)).testBit j || j==b || (ms.getD j 0).testBit b)&&
      cC ms (LC g lf) (X0 g lf)&&
      (X0 g lf).all fun U=>Hv ops ms (Ba d ((B4 g.ql lf g.seg).filter fun e=>!U.contains e.1) ||| 1 <<< b) U r)
theorem ZJ {d M:Nat} {seg:List (Nat×Option Nat)} {bar:Option Nat} {opt:List Nat} (h:OW ops (CO ops) d M seg bar opt=true)
 (hb:∀b,bar=some b→(match ops[b]? with|some o=>IV o (Ba d seg)|none=>false)=true∧(Ba d seg).testBit b=false):SegP ops (fun j=>d.testBit j) seg M bar opt:=by
 simp only [OW,Bool.and_eq_true] at h
 obtain ⟨⟨⟨⟨h1,h2⟩,h3⟩,h4⟩,h5⟩:=h
 have g:=IY seg d [] h1
 have p:=Ga seg h2
 rw [List.all_eq_true] at h3
 have pe:∀(k k':Nat) (e f:Nat×Option Nat),seg[k]?=some e→seg[k']?=some f→k≠k'→Dm ops (CO ops) e f=true∨Dm ops (CO ops) f e=true:=fun k k' e f hk hk' hne=>by
  rcases Nat.lt_or_gt_of_ne hne with hl|hl
  ·exact .inl (p k k' e f hl hk hk')
  ·exact .inr (p k' k f e hl hk' hk)
 have po:∀(e f:Nat×Option Nat),e∈seg→f∈seg→e=f∨Dm ops (CO ops) e f=true∨Dm ops (CO ops) f e=true:=fun e f he hf=>by
  obtain ⟨k,hk⟩:=List.mem_iff_getElem?.1 he
  obtain ⟨k',hk'⟩:=List.mem_iff_getElem?.1 hf
  by_cases hkk:k=k'
  ·subst hkk;rw [hk] at hk';exact .inl (by simpa using hk')
  ·exact .inr (pe k k' e f hk hk' hkk)
 have pn:∀(e f:Nat×Option Nat),Dm ops (CO ops) e f=true→e.1≠f.1∧(((CO ops).getD e.1 0).testBit f.1=true∨((CO ops).getD f.1 0).testBit e.1=true∨(∀o o',ops[e.1]?=some o→ops[f.1]?=some o'→o.apart ops o'=true∧o'.apart ops o=true))∧
  (∀t,BD ops e.1=some t→BD ops f.1=some t→False)∧(∀q,e.2=some q→f.2=some q→False):=fun e f h=>by
  simp only [Dm,Bool.and_eq_true,Bool.or_eq_true,bne_iff_ne,ne_eq] at h
  obtain ⟨⟨⟨a1,a2⟩,a3⟩,a4⟩:=h
  refine ⟨a1,?_,fun t ht ht'=>?_,fun q hq hq'=>?_⟩
  ·rcases a2 with (a2|a2)|a2
   ·exact .inl a2
   ·exact .inr (.inl a2)
   ·refine .inr (.inr fun o o' ho ho'=>?_)
    rw [ho,ho'] at a2
    simpa using a2
  ·rw [ht,ht'] at a3;simp at a3
  ·rw [hq,hq'] at a4;simp at a4
 refine ⟨fun e he=>?_,fun e he=>?_,fun k k' e f hk hk' hef=>?_,fun k e hk=>(g k e hk).2.1,fun k e hk=>(g k e hk).2.2.elim .inl fun h=>.inr fun f hf hq=>BX (h.2 f hf hq),fun e he f hf hne=>?_,fun e he f hf t h1 h2=>?_,fun e he f hf q h1 h2=>?_,fun e he q hq=>?_,fun hbn j hj hd hno hbj e he=>?_,fun b hbb e he hno=>?_,fun b hbb=>?_,fun b hbb o ho x hx hbx=>?_⟩
 ·obtain ⟨k,hk⟩:=List.mem_iff_getElem?.1 he
  exact (g k e hk).1
 ·have:=h3 e he
  simp only [Bool.and_eq_true,Bool.not_eq_true'] at this
  exact this.1
 ·refine Classical.byContradiction fun hne=>?_
  rcases pe k k' e f hk hk' hne with h|h
  ·exact (pn e f h).1 hef
  ·exact (pn f e h).1 hef.symm
 ·rcases po e f he hf with rfl|h|h
  ·exact absurd rfl hne
  ·rcases (pn e f h).2.1 with h|h|h
   ·exact .inl (BX h)
   ·exact .inr (.inl (BX h))
   ·exact .inr (.inr fun o o' ho ho'=>(h o o' ho ho').1)
  ·rcases (pn f e h).2.1 with h|h|h
   ·exact .inr (.inl (BX h))
   ·exact .inl (BX h)
   ·exact .inr (.inr fun o o' ho ho'=>(h o' o ho' ho).2)
 ·rcases po e f he hf with rfl|h|h
  ·rfl
  ·exact ((pn e f h).2.2.1 t h1 h2).elim
  ·exact ((pn f e h).2.2.1 t h2 h1).elim
 ·rcases po e f he hf with rfl|h|h
  ·rfl
  ·exact ((pn e f h).2.2.2 q h1 h2).elim
  ·exact ((pn f e h).2.2.2 q h2 h1).elim
 ·have:=h3 e he
  simp only [Bool.and_eq_true,hq,decide_eq_true_eq] at this
  exact this.2
 ·subst hbn
  simp only [Option.isSome_none,Bool.false_or] at h4
  rw [List.all_eq_true] at h4
  have:=h4 j (by simpa using hj)
  simp only [Bool.or_eq_true,hd,Bool.false_eq_true,false_or,List.any_eq_true,beq_iff_eq,List.all_eq_true] at this
  rcases this with (⟨f,hf,hfj⟩|this)|this
  ·exact absurd hfj (hno f hf)
  ·exact absurd this hbj
  ·exact BX (this e he)
 ·subst hbb
  simp only [List.all_eq_true,Bool.or_eq_true,List.contains_iff_mem] at h5
  rcases h5 e he with h|h
  ·exact absurd h hno
  ·exact BX h
 ·obtain ⟨hb1,hb2⟩:=hb b hbb
  refine ⟨?_,?_,fun e he h=>?_⟩
  ·cases ho:ops[b]? with
   | none=>rw [ho] at hb1;cases hb1
   | some o=>exact (Array.getElem?_eq_some_iff.1 ho).1
  ·cases h:d.testBit b with
   | false=>rfl
   | true=>rw [(Aj seg d b).2 (.inl h)] at hb2;cases hb2
  ·rw [(Aj seg d b).2 (.inr ⟨e,he,h⟩)] at hb2;cases hb2
 ·obtain ⟨hb1,hb2⟩:=hb b hbb
  rw [ho] at hb1
  exact (Aj seg d x.on).1 (IX.1 hb1 x hx hbx)
def Mi:List Sg→Nat
 | []=>0
 | g::r=>g.seg.length+(match g.bar with|none=>0|some _=>1)+Mi r
theorem KJ {K:St→Prop} {Q':Exit→Act→World→Prop} (hQ:∀s a w,Rel C s a w→K s→Q' .normal a w):∀(plan:List Sg) (d:Nat) (lf:List Nat),Hv ops (CO ops) d lf plan=true→plan.all (fun g=>decide g.opt.Nodup)=true→
 (∀j o,ops[j]?=some o→d.testBit j=true→∀x∈o.after,Region.binds .any x=true→d.testBit x.on=true)→(∀j,d.testBit j=true→j < ops.size)→
 ∀(s:St),VV C ops K plan lf s→∀(F:Nat) (listed:Array Bool),lf.length+Mi plan≤F→CB .any ops listed→listed.size=ops.size→(∀j,listed.getD j false=true↔d.testBit j=true)→
   ∀a w,Rel C s a w→wpAny C.P .any ops Q' F listed a w
 | [],d,lf,hp,hnd,hcl,hlt,s,hk,F,listed,hF,hc,hsz,hd,a,w,hr=>by
   simp only [Hv,Bool.and_eq_true,List.all_eq_true,List.mem_range] at hp
   have hp:=hp.2
   have hnil:Region.ready .any ops listed=[]:=by
    refine List.eq_nil_iff_forall_not_mem.2 fun i hi=>?_
    obtain ⟨h1,o,ho,_⟩:=mem_ready.1 hi
    have hi:=(Array.getElem?_eq_some_iff.1 ho).1
    have:=(hd i).2 (hp i hi)
    rw [JH (by rw [hsz];exact hi) true false,this] at h1
    cases h1
   cases F with
   | zero=>exact ⟨hnil,hQ s a w hr hk⟩
   | succ F=>exact ⟨fun _=>hQ s a w hr hk,fun i hi=>by rw [hnil] at hi;cases hi⟩
 | g::r,d,lf,hp,hnod,hcl,hlt,s,hk,F,listed,hF,hc,hsz,hd,a,w,hr=>by
   simp only [Hv,Bool.and_eq_true] at hp
   obtain ⟨hsg,hp⟩:=hp
   rw [List.all_cons,Bool.and_eq_true,decide_eq_true_eq] at hnod
   generalize hseg:B4 g.ql lf g.seg=seg at*
   have hseglen:seg.length=lf.length+g.seg.length:=by rw [←hseg];exact RM _ _ _
   have hS:=ZJ hsg (fun b hb=>by
    simp only [hb,Bool.and_eq_true] at hp
    refine ⟨hp.1.1.1.1,?_⟩
    have:=hp.1.1.1.2
    simpa using this)
   obtain ⟨ent,hent,htr⟩:=hk
   rw [hseg] at hent
   have hob:=J6 htr
   have hE:=TV hS hent hob
   have hnd:∀(k k':Nat) (e f:Ent),ent[k]?=some e→ent[k']?=some f→e.i=f.i→k=k':=fun k k' e f hk hk' h=>
    hS.one k k' (e.i,e.q) (f.i,f.q) (by rw [←hent,List.getElem?_map,hk];rfl) (by rw [←hent,List.getElem?_map,hk'];rfl) h
   have h0:SE ops ent s g.M (DL [])=⟨s.env,s.heap++List.replicate g.M none⟩:=VA fun e _=>rfl
   rw [←h0] at htr
   obtain ⟨tr,hfin⟩:=J7 (done:=fun j=>d.testBit j) (seg:=seg) ent hE hnd ent [] rfl htr
   have hall:SE ops ent s g.M (DL ent)=SE ops ent s g.M (fun _=>true):=HI fun e he=>EZ.2 ⟨e,he,rfl⟩
   rw [hall] at hfin
   have hcl':∀j o,ops[j]?=some o→(Ba d seg).testBit j=true→∀x∈o.after,Region.binds .any x=true→(Ba d seg).testBit x.on=true:=fun j o ho hj x hx hb=>by
    rcases (Aj _ _ _).1 hj with h|⟨e,he,rfl⟩
    ·exact (Aj _ _ _).2 (.inl (hcl j o ho h x hx hb))
    ·obtain ⟨k,hk⟩:=List.mem_iff_getElem?.1 he
     rcases hS.ready k e hk o ho x hx hb with h|⟨f,hf,hfx⟩
     ·exact (Aj _ _ _).2 (.inl h)
     ·exact (Aj _ _ _).2 (.inr ⟨f,List.mem_of_mem_take hf,hfx⟩)
   have hlt':∀j,(Ba d seg).testBit j=true→j < ops.size:=fun j hj=>by
    rcases (Aj _ _ _).1 hj with h|⟨e,he,rfl⟩
    ·exact hlt j h
    ·exact hS.lt e he
   have hr0:Rel C (SE ops ent s g.M (fun j=>listed.getD j false)) a w:=by
    rw [HI (L:=fun j=>listed.getD j false) (L':=DL []) (fun e he=>by
     have:=hS.fresh _ (Dk hent he)
     simp only at this
     cases hl:listed.getD e.i false with
     | false=>rfl
     | true=>rw [(hd _).1 hl] at this;cases this),h0]
    refine D4 hr (fun k x hx=>.inl ?_) (fun k x hx=>.inl ?_)
    ·by_cases hk:k < s.heap.length
     ·rwa [List.getElem?_append_left hk] at hx
     ·rw [List.getElem?_append_right (by omega),List.getElem?_replicate] at hx
      split at hx<;>cases hx
    ·rw [List.getElem?_append_left (List.getElem?_eq_some_iff.1 hx).1];exact hx
   refine VC (rest:=(match g.bar with|none=>0|some _=>1)+Mi r) hS hcl hlt hent hob tr (fun b hb j hj hdj hsj hbj=>?_) (fun hbn F listed hF hc hsz hl a w hr=>?_) (fun b hb=>⟨?_,fun F listed _ hF hc hsz hdl hsub hopt hbr a w hr=>?_⟩) seg.length F listed List.countP_le_length (by simp only [Mi] at hF;omega) hc hsz (fun j hj=>(hd j).2 hj) (fun j hj=>.inl ((hd j).1 hj)) a w hr0
   ·simp only [hb,Bool.and_eq_true] at hp
    have p3:=hp.1.1.2
    rw [List.all_eq_true] at p3
    have:=p3 j (by simpa using hj)
    simp only [Bool.or_eq_true,beq_iff_eq] at this
    rcases this with (h|h)|h
    ·rcases (Aj _ _ _).1 h with h|⟨e,he,h⟩
     ·rw [hdj] at h;cases h
     ·exact absurd h (hsj e he)
    ·exact absurd h.symm hbj
    ·exact BX h
   ·have hl':∀j,listed.getD j false=true↔(Ba d seg).testBit j=true:=fun j=>(hl j).trans (Aj _ _ _).symm
    simp only [hbn] at hp hfin hF
    exact KJ hQ r _ [] hp hnod.2 hcl' hlt' _ hfin F listed (by simp;omega) hc hsz hl' a w hr
   ·rw [hb];simp only;omega
   ·simp only [hb,Bool.and_eq_true] at hp hfin hF
    obtain ⟨⟨⟨⟨p1,p2⟩,p3⟩,p6⟩,p4⟩:=hp
    have hcl1:∀j u,listed.getD j false=true→Et ops j u→listed.getD u false=true:=fun j u hj h=>h listed hc (fun o' ho' x hx hb=>hc j o' ho' hj x hx hb)
    generalize hUd:((LC g lf).filter fun j=>!listed.getD j false)=U
    have hUm:∀i,i∈U↔i∈LC g lf∧listed.getD i false=false:=fun i=>by rw [←hUd,List.mem_filter];simp
    have hopts:∀i∈LC g lf,∃e∈seg,e.1=i:=fun i hi=>by
     have:=(List.mem_filter.1 hi).2
     rw [hseg] at this
     exact J5 this
    have hUus:U∈X0 g lf:=by
     unfold cC at p6
     rw [List.all_eq_true] at p6
     have:=p6 U (by rw [←hUd];exact HK _ _)
     rw [Bool.or_eq_true,Bool.not_eq_true'] at this
     rcases this with h|h
     ·exfalso
      have:iK (CO ops) (LC g lf) U=true:=by
       unfold iK
       rw [List.all_eq_true]
       intro j hj
       rw [Bool.or_eq_true]
       by_cases hjU:j∈U
       ·exact .inl (by simpa using hjU)
       ·right
        rw [List.all_eq_true]
        intro u hu
        cases hb1:((CO ops).getD j 0).testBit u with
        | false=>rfl
        | true=>
          have hjl:listed.getD j false=true:=by
           cases h:listed.getD j false with
           | true=>rfl
           | false=>exact absurd ((hUm j).2 ⟨hj,h⟩) hjU
          have:=hcl1 j u hjl (BX hb1)
          rw [((hUm u).1 hu).2] at this
          cases this
      rw [this] at h
      cases h
     ·simpa using h
    obtain ⟨o,K0,ho,hw0,hS0,hK0⟩:=hfin U hUus
    rw [List.all_eq_true] at p4
    have p4:=p4 U hUus
    rw [ho] at p1
    have hblt:=(Array.getElem?_eq_some_iff.1 ho).1
    have hstate:SE ops ent s g.M (fun j=>listed.getD j false)=Dl ops s.env seg s.heap.length U (SE ops ent s g.M (fun _=>true)):=by
     refine VF hE (fun i=>?_) hent
     rw [hUm]
     constructor
     ·rintro ⟨hi,hl⟩
      obtain ⟨e,he,rfl⟩:=hopts i hi
      obtain ⟨k,hk⟩:=List.mem_iff_getElem?.1 he
      obtain ⟨e',hek,hei,_⟩:=Pg hent hk
      exact ⟨e',List.mem_of_getElem? hek,hei,hl⟩
     ·rintro ⟨e,he,rfl,hl⟩
      exact ⟨hopt _ (Dk hent he) hl,hl⟩
    rw [hstate,←hseg] at hr
    have hlb:listed.getD b false=false:=by
     have:=(mem_ready.1 hbr).1
     rwa [JH (by rw [hsz];exact hblt) true false] at this
    have hl':∀j,listed.getD j false=true↔(Ba d (seg.filter fun e=>!U.contains e.1)).testBit j=true:=fun j=>by
     rw [Aj]
     constructor
     ·intro hj
      rcases hsub j hj with h|⟨e,he,h⟩
      ·exact .inl h
      ·refine .inr ⟨e,List.mem_filter.2 ⟨he,?_⟩,h⟩
       have:¬e.1∈U:=fun hu=>by rw [h] at hu;rw [((hUm j).1 hu).2] at hj;cases hj
       simpa using this
     ·rintro (h|⟨e,he,rfl⟩)
      ·exact hdl j h
      ·obtain ⟨he,hu⟩:=List.mem_filter.1 he
       cases h:listed.getD e.1 false with
       | true=>rfl
       | false=>
         have:e.1∈U:=(hUm _).2 ⟨hopt e he h,h⟩
         simp [this] at hu
    have hUlen:U.length≤seg.countP (fun e=>!listed.getD e.1 false):=by
     rw [List.countP_eq_length_filter]
     have hnU:U.Nodup:=by rw [←hUd];exact (hnod.1.filter _).filter _
     have:=Ph U ((seg.filter fun e=>!listed.getD e.1 false).map Prod.fst) hnU (fun x hx=>by
      obtain ⟨hxo,hxl⟩:=(hUm x).1 hx
      obtain ⟨e,he,rfl⟩:=hopts x hxo
      exact List.mem_map.2 ⟨e,List.mem_filter.2 ⟨he,by rw [hxl];rfl⟩,rfl⟩)
     rwa [List.length_map] at this
    unfold wpOp
    simp only [ho]
    rw [DZ (o:=o) (ops:=ops) (b:=true) hr hw0]
    refine .inl (DT o _ K0 hS0 a w hr _ _ ?_)
    intro v w' x s'' hk0 hx
    obtain ⟨s3,hs3,hr3⟩:=hK0 _ _ hk0 _ _ (DI o.dst hx)
    refine KJ hQ r _ U p4 hnod.2 (fun j oj hoj hj x hx hb=>?_) (fun j hj=>?_) s3 hs3 F (listed.setIfInBounds b true) (by omega) (D1 hc hbr) (by rw [Array.size_setIfInBounds,hsz]) (fun j=>?_) _ _ hr3
    ·rcases (Ep _ _ _).1 hj with h|rfl
     ·exact (Ep _ _ _).2 (.inl ((hl' _).1 (hc j oj hoj ((hl' j).2 h) x hx hb)))
     ·rw [ho] at hoj
      cases hoj
      obtain ⟨_,o2,ho2,h2⟩:=mem_ready.1 hbr
      rw [ho] at ho2
      cases ho2
      exact (Ep _ _ _).2 (.inl ((hl' _).1 (h2 x hx hb)))
    ·rcases (Ep _ _ _).1 hj with h|rfl
     ·rcases hsub j ((hl' j).2 h) with h|⟨e,he,rfl⟩
      ·exact hlt j h
      ·exact hS.lt e he
     ·exact hblt
    ·rw [Ep,←hl' j]
     by_cases hij:b=j
     ·subst hij
      simp [Array.getD,hsz,hblt]
     ·rw [getD_set_ne false hij]
      simp [hij]
end
section
variable {T:TT} {C:Ctx}
def e6 (h:List (Option Ob)):Nat→List (Option Ob)
 | 0=>h
 | M+1=>h++List.replicate (M+1) none
theorem cY (h:List (Option Ob)) (M:Nat):e6 h M=h++List.replicate M none:=by
 cases M with
 | zero=>simp [e6]
 | succ M=>rfl
def e9 (all:List Oper) (o:Oper) (σ:ES) (P:Prop):Prop:=match o.guard with
 | none=>P
 | some (j,want)=>match J8 all σ j with
   | .bool b=>(match want with
     | true=>Br b P False
     | false=>Br b False P)
   | _=>False
def jx (n:Nat) (K:Nat→Prop):Prop:=K n
theorem ZK (n:Nat) (K:Nat→Prop):jx n K=K n:=rfl
def Om (T:TT) (C:Ctx) (base:Nat) (o:Oper) (q:Option Nat) (K:ES→Prop) (σ:ES):Prop:=
 match q with
 | none=>(match Es o.op with
   | false=>BF T C true o.op (fun r σ'=>fV r fun r=>E0 σ' o.dst r K) σ
   | true=>False)
 | some p=>(match LT o.op with
  | some (fop,args)=>(match σ.val fop with
   | .fn f caps=>dr (args.map σ.val) fun xs=>jx (base+p) fun id=>Nq σ.heap[id]? fun x=>(match x with
     | none=>CallNM C f (xs++caps) fun m z els=>fH (σ.heap.set id (some (.row z els))) fun h'=>Er σ h' fun σ''=>E0 σ'' o.dst (.sl id 0 m) K
     | some _=>False)
   | _=>False)
  | none=>(match VI σ o.op with
   | true=>jx (base+p) fun id=>Nq σ.heap[id]? fun x=>(match x with
     | none=>fH (Bb id σ.heap) fun h=>Er σ h fun σp=>BF T C false o.op (fun r σ'=>fV r fun r=>fH (σ.heap.take id++σ'.heap.drop id) fun h'=>Er σ' h' fun σ''=>E0 σ'' o.dst r K) σp
     | some _=>False)
   | false=>False))
def ZL (T:TT) (C:Ctx) (all:List Oper) (base i:Nat) (q:Option Nat) (K:ES→Prop) (σ:ES):Prop:=
 Nq all[i]? fun o=>match o.guard with
  | none=>Om T C base o q K σ
  | some (j,want)=>match J8 all σ j with
    | .bool b=>(match want with
      | true=>Br b (Om T C base o q K σ) (E0 σ o.dst (.tup []) K)
      | false=>Br b (E0 σ o.dst (.tup []) K) (Om T C base o q K σ))
    | .tup _=>E0 σ o.dst (.tup []) K
    | _=>False
def ZM (T:TT) (C:Ctx) (all:List Oper) (base:Nat) (K:ES→Prop):List (Nat×Option Nat)→ES→Prop
 | [],σ=>K σ
 | (i,q)::r,σ=>ZL T C all base i q (fun σ'=>ZM T C all base K r σ') σ
theorem ZN (hE:EOk T C) {ops:Array Oper} {base:Nat} {o:Oper} {q:Option Nat} {K:ES→Prop} {σ:ES} (hw:As ops o σ.st=some true) (h:Om T C base o q K σ):
 ∃r ob σ',RK C ops o r ob (base+q.getD 0) σ.st∧(ob≠none→q≠none)∧(q≠none→ob≠none)∧σ'.st=(Cs σ.st (base+q.getD 0) ob).put o.dst r∧K σ':=by
 unfold Om at h
 cases q with
 | none=>
   simp only at h
   split at h
   ·rename_i hb
    obtain ⟨r,⟨σ1,e,h1⟩,h2⟩:=EY ((Dj hE.all h).2 rfl hb)
    rw [GA,CN] at h1
    exact ⟨r,none,σ1.put o.dst r,.inl ⟨hw,h2 _ σ.st (fun _ _=>rfl) rfl ⟨rfl,rfl⟩⟩,fun h=>absurd rfl h,fun h=>absurd rfl h,by rw [←DU,←e];rfl,h1⟩
   ·exact h.elim
 | some p=>
   simp only at h
   split at h
   ·rename_i fop args hcv
    split at h
    ·rename_i f caps hf
     rw [J2,ZK] at h
     obtain ⟨x,hx,h⟩:=BW h
     split at h
     ·obtain ⟨m,z,els,hb,hfr,h⟩:=h.out
      rw [A7,Bx,CN] at h
      refine ⟨.sl (base+p) 0 m,some (.row z els),_,⟨hw,hx,.inr ?_⟩,fun _=>by simp,fun _=>by simp,?_,h⟩
      ·unfold LT at hcv
       split at hcv
       ·rename_i c ho
        obtain ⟨callee,aZ,ts⟩:=c
        simp only at hcv
        split at hcv
        ·simp only [Option.some.injEq,Prod.mk.injEq] at hcv
         obtain ⟨rfl,rfl⟩:=hcv
         refine ⟨_,aZ,ts,f,caps,m,z,els,ho,by rw [Ao];exact hf,hb,?_,rfl,rfl⟩
         rw [show σ.st.val=σ.val from funext (Ao σ)]
         exact hfr
        ·cases hcv
       ·cases hcv
      ·rw [←DU];rfl
     ·exact h.elim
    ·exact h.elim
   split at h
   ·rename_i hm
    rw [ZK] at h
    obtain ⟨x,hx,h⟩:=BW h
    split at h
    ·rw [A7,Bx] at h
     have hS:=(Dj hE.all h).1
     have hmk:=VJ hm
     have hst:(⟨σ.n,σ.u,Bb (base+p) σ.heap⟩:ES).st=⟨σ.st.env,Bb (base+p) σ.st.heap⟩:=rfl
     rw [hst] at hS
     obtain ⟨r,ob,⟨σ1,e,h1⟩,h2⟩:=Pf (Hp _ (show IC o ⟨σ.st.env,σ.st.heap⟩ from hmk)) hS
     rw [GA,A7,Bx,CN] at h1
     have e1:σ.st.env=σ1.env:=congrArg (fun s:St=>s.env) e
     have e2:Ag (Bb (base+p) σ.heap) ob=σ1.heap:=congrArg (fun s:St=>s.heap) e
     refine ⟨r,some ob,_,⟨hw,hx,.inl ⟨hmk,(h2 (fun r' s'=>r'=r∧s'=⟨σ.st.env,Ag (Bb (base+p) σ.st.heap) ob⟩) _ (fun _ _=>rfl) (.inl fun _ _ _ h=>h) rfl ⟨rfl,rfl⟩).1⟩⟩,fun _=>by simp,fun _=>by simp,?_,h1⟩
     rw [←DU]
     congr 1
     show (⟨σ1.env,_⟩:St)=⟨σ.st.env,σ.heap.set (base+p) (some ob)⟩
     rw [e1,←e2,OZ hx]
    ·exact h.elim
   ·exact h.elim
theorem Wn (hE:EOk T C) {ops:Array Oper} {base i:Nat} {q:Option Nat} {K:ES→Prop} {σ:ES} (h:ZL T C ops.toList base i q K σ):
 ∃o r ob σ',ops[i]?=some o∧RK C ops o r ob (base+q.getD 0) σ.st∧(ob≠none→q≠none)∧(q≠none→ob=none→As ops o σ.st=some false)∧σ'.st=(Cs σ.st (base+q.getD 0) ob).put o.dst r∧K σ':=by
 obtain ⟨o,ho,h⟩:=BW h
 rw [Array.getElem?_toList] at ho
 have run:As ops o σ.st=some true→Om T C base o q K σ→∃o r ob σ',ops[i]?=some o∧RK C ops o r ob (base+q.getD 0) σ.st∧(ob≠none→q≠none)∧(q≠none→ob=none→As ops o σ.st=some false)∧σ'.st=(Cs σ.st (base+q.getD 0) ob).put o.dst r∧K σ':=fun hw h=>by
  obtain ⟨r,ob,σ',a,b,c',c,d⟩:=ZN hE (ops:=ops) hw h
  exact ⟨o,r,ob,σ',ho,a,b,fun hq hn=>absurd hn (c' hq),c,d⟩
 have skip:As ops o σ.st=some false→K (σ.put o.dst (.tup []))→∃o r ob σ',ops[i]?=some o∧RK C ops o r ob (base+q.getD 0) σ.st∧(ob≠none→q≠none)∧(q≠none→ob=none→As ops o σ.st=some false)∧σ'.st=(Cs σ.st (base+q.getD 0) ob).put o.dst r∧K σ':=fun hw h=>
  ⟨o,.tup [],none,_,ho,.inr ⟨hw,rfl⟩,fun h=>absurd rfl h,fun _ _=>hw,by rw [←DU];rfl,h⟩
 simp only [CN] at h
 split at h
 ·rename_i hg
  exact run (by simp [As,hg]) h
 ·rename_i j want hg
  rw [GF] at h
  split at h
  ·rename_i b hb
   cases want with
   | true=>
     rcases Cu h with ⟨rfl,h⟩|⟨rfl,h⟩
     ·exact run (by simp [As,hg,hb]) h
     ·exact skip (by simp [As,hg,hb]) h
   | false=>
     rcases Cu h with ⟨rfl,h⟩|⟨rfl,h⟩
     ·exact skip (by simp [As,hg,hb]) h
     ·exact run (by simp [As,hg,hb]) h
  ·rename_i l hb
   exact skip (by simp [As,hg,hb]) h
  ·exact h.elim
theorem Rj (hE:EOk T C) {ops:Array Oper} {base:Nat} {K:ES→Prop} {K':St→Prop} (hK:∀σ:ES,K σ→K' σ.st):∀(seg:List (Nat×Option Nat)) (σ:ES),ZM T C ops.toList base K seg σ→
 ∃ent:List Ent,ent.map (fun e=>(e.i,e.q))=seg∧C0 C ops base ent σ.st K'
 | [],σ,h=>⟨[],rfl,hK σ h⟩
 | (i,q)::r,σ,h=>by
   obtain ⟨o,x,ob,σ',ho,hy,hq,hsk,hst,h2⟩:=Wn hE h
   obtain ⟨ent,h3,h4⟩:=Rj hE hK r σ' h2
   refine ⟨⟨i,q,x,ob⟩::ent,by simp [h3],⟨o,ho,hy,hq,hsk⟩,?_⟩
   have:Fh ops base σ.st ⟨i,q,x,ob⟩=σ'.st:=by
    unfold Fh
    have:BD ops i=o.dst:=by unfold BD;rw [ho];rfl
    simp only [this]
    exact hst.symm
   rw [this]
   exact h4
def KL (T:TT) (C:Ctx) (all:List Oper) (K:ES→Prop):List Sg→List Nat→ES→Prop
 | [],_,σ=>Er σ (eSegs.trimH' σ.heap) K
 | g::r,lf,σ=>Er σ (e6 σ.heap g.M) fun σ1=>ZM T C all σ.heap.length (fun σ2=>match g.bar with
   | none=>KL T C all K r [] σ2
   | some b=>Nq all[b]? fun o=>Yv (X0 g lf) fun us=>Yu us fun U=>HN all σ U σ2.u fun u2=>(fun h2=>e9 all o ⟨σ2.n,u2,h2⟩ (BF T C false o.op (fun x σ'=>fV x fun x=>E0 σ' o.dst x fun σ''=>Pi C (!(r.isEmpty&&U.isEmpty)) (fun σ3=>KL T C all K r U σ3) σ'') ⟨σ2.n,u2,h2⟩)) (BZ (B4 g.ql lf g.seg) σ.heap.length U σ2.heap)) (B4 g.ql lf g.seg) σ1
theorem Wo {ops:Array Oper} {o:Oper} {σ:ES} {P:Prop} (h:e9 ops.toList o σ P):As ops o σ.st=some true∧P:=by
 unfold e9 at h
 split at h
 ·rename_i hg
  exact ⟨by simp [As,hg],h⟩
 ·rename_i j want hg
  rw [GF] at h
  split at h
  ·rename_i b hb
   cases want with
   | true=>
     rcases Cu h with ⟨rfl,h⟩|⟨rfl,h⟩
     ·exact ⟨by simp [As,hg,hb],h⟩
     ·exact h.elim
   | false=>
     rcases Cu h with ⟨rfl,h⟩|⟨rfl,h⟩
     ·exact h.elim
     ·exact ⟨by simp [As,hg,hb],h⟩
  ·exact h.elim
theorem KM (hE:EOk T C) {ops:Array Oper} {K:ES→Prop}:∀(plan:List Sg) (lf:List Nat) (σ:ES),KL T C ops.toList K plan lf σ→VV C ops (fun s=>∃h:List (Option Ob),(∀(i:Nat) (o:Ob),h[i]?=some (some o)↔s.heap[i]?=some (some o))∧Ks K ⟨s.env,h⟩) plan lf σ.st
 | [],lf,σ,h=>by
   simp only [KL,Bx] at h
   exact ⟨_,Hq σ.heap,⟨_,rfl,h⟩⟩
 | g::r,lf,σ,h=>by
   rw [KL,Bx,cY] at h
   refine Rj hE (fun σ2 h2=>?_) (B4 g.ql lf g.seg) _ h
   cases hb:g.bar with
   | none=>
     simp only [hb] at h2
     exact KM hE r [] σ2 h2
   | some b=>
     simp only [hb] at h2
     obtain ⟨o,ho,h2⟩:=BW h2
     rw [Array.getElem?_toList] at ho
     rw [Pj] at h2
     intro U hU
     obtain ⟨u2,h3,he⟩:=E9 (n:=σ2.n) (h:=σ2.heap) U σ2.u _ (JJ h2 U hU)
     have hst:Dl ops σ.st.env (B4 g.ql lf g.seg) σ.st.heap.length U σ2.st=(⟨σ2.n,u2,BZ (B4 g.ql lf g.seg) σ.heap.length U σ2.heap⟩:ES).st:=by
      unfold Dl ES.st
      congr 1
      exact he.symm
     obtain ⟨hw,h3⟩:=Wo h3
     have hS:=(Dj hE.all h3).1
     rw [←hst] at hS hw
     refine ⟨o,_,ho,hw,hS,?_⟩
     rintro x s'' ⟨σ',rfl,h3⟩
     rw [GA,CN] at h3
     rw [DU]
     refine Uw (MT h3).out ?_
     rintro s4 ⟨σ4,rfl,h4⟩
     exact KM hE r U σ4 h4
theorem KN (hE:EOk T C) {ops:Array Oper} {K:ES→Prop} {σ:ES} (plan:List Sg) (hp:(Hv ops (CO ops) 0 [] plan&&Nat.ble (Mi plan) ops.size&&plan.all (fun g=>decide g.opt.Nodup))=true) (h:KL T C ops.toList K plan [] σ):DrawN T C ops K σ:=by
 refine ⟨fun id a w hr=>?_⟩
 obtain ⟨I,bl,hp'⟩:=hr.parts
 have hp'':RP C σ.st a { w with drawn:=w.drawn+1} I bl:=hp'.drew
 refine wp_region_any hE.any ?_
 rw [Bool.and_eq_true,Bool.and_eq_true,Nat.ble_eq] at hp
 refine KJ (fun s a w hr hk=>?_) plan 0 [] hp.1.1 hp.2 (fun j o ho h=>by simp at h) (fun j h=>by simp at h) σ.st (KM hE plan [] σ h) ops.size (Array.replicate ops.size false) (by simpa using hp.1.2) Fe (by simp) (fun j=>by
  by_cases hj:j < ops.size<;>simp [Array.getD,hj]) a _ hp''.rel
 obtain ⟨h',he,σ',hs,hk⟩:=hk
 refine ⟨⟨s.env,h'⟩,⟨rfl,σ',hs,hk⟩,D4 hr (fun k x hx=>.inl ((he k x).1 hx)) (fun k x hx=>.inl ((he k x).2 hx))⟩
end
structure MzOk (m:Mc) (Z:List Int) (n:Nat):Prop where
 many:m.N.length=n
 n1:1≤n
 n40:n≤40
 fin:m.F.length=n
 rows:∀r∈m.N,r.length=8
 to:∀r∈m.N,∀y∈r,-1≤y∧y < n
 ty:∀r∈m.N,∀y∈r.drop 7,y < 0
 zl:Z.length=7
 zs:∀z∈Z,1≤z∧z≤150
theorem Vy:∀G:List (List Ce),eSegs.trimH' (G.map CJ)=G.map CJ
 | []=>rfl
 | R::G=>by
   rw [List.map_cons]
   show some (.row 3 (R.map G0))::eSegs.trimH' (G.map CJ)=_
   rw [Vy G]
   rfl
theorem Vz (T:V) (n L:Nat) (o:Ob) (v7:List Value) (G:List (List Ce)):eSegs.trimH' (FB T n L (some o) v7 G)=FB T n L (some o) v7 G:=by
 unfold FB
 simp only [eSegs.trimH',Vy]
theorem Ej {G:List (List Ce)} {k:Nat} (h:k < G.length) (R:List Ce):(G.set k R)[k]?=some R:=List.getElem?_set_self h
set_option maxHeartbeats 16000000 in
theorem ar {C:Ctx} (hE:EOk Tryz.tt C) {K:V→ES→Prop} {ty au:List V} {Z:List Int} {m:Mc} {w:List Int} {n L:Nat} {v7 vs:List Value} {G:List (List Ce)} {l3:List V} {a6:Int} {sn:Nat} {ks:List Nat}
 (hK:K (.tup []) ⟨sn,ks.zip [.ptr 0 0 0,.lst l3,.int .i64 a6],FB (C3 ty au Z m w L) n L none v7 G⟩) (u':List (Nat×V)):
 InRetN Tryz.tt C Tryz.f50 2 sn ks vs K ⟨70,u',FB (C3 ty au Z m w L) n L (some (.hid vs [.ptr 0 0 0,.lst l3,.int .i64 a6])) v7 G⟩:=by
 refine HZ hE ?_
 conv=>whnf
 exact ⟨rfl,hK⟩
set_option maxHeartbeats 16000000 in
theorem PI {C:Ctx} {σ:ES} {fop:Operand} {args:List Operand} {K:V→ES→Prop} (hE:EOk Tryz.tt C) (hC:C.P=Tryz.prog) {ty au:List V} {Z:List Int} {m:Mc} {w:List Int} {n L:Nat} {v7:List Value} {G:List (List Ce)} {R:List Ce} {kid:Nat} {D B:Int} {z o:Nat→Prop} {l3:List V} {a6:Int}
 (hM:MzOk m Z n) (hG:G[kid]?=some R) (hL:G.length=L) (hR:RwI n D B z o R) (hD:D≤13) (hB:B≤10000000)
 (ks:List Nat) (hks:(ks.all fun k=>Nat.blt k σ.n)=true) (hL0:ks.map (AU σ.u)=[.ptr 0 0 0,.lst l3,.int .i64 a6]) (he:BO σ fop args=some (50,[.ptr 0 0 0,.int .i64 kid]))
 (hh:σ.heap=FB (C3 ty au Z m w L) n L none v7 G)
 (hK:∀R',RwI n D B z o R'→aw m.N n R'→Wu ks [.ptr 0 0 0,.lst l3,.int .i64 a6] fun u=>fH (FB (C3 ty au Z m w L) n L none v7 (G.set kid R')) fun h=>K (.tup []) ⟨σ.n,u,h⟩):
 CallN C fop args 50 [.ptr 0 0 0,.int .i64 kid] K σ:=by
 obtain ⟨sn,u,h⟩:=σ
 simp only at hh hK hks hL0
 subst hh
 have hkl:kid < G.length:=(List.getElem?_eq_some_iff.1 hG).1
 refine Ha (T:=Tryz.tt) hC Tryz.func50 rfl UY he (Nat.le_of_ble_eq_true (by kernel_rfl)) 2 ks rfl hks fun vs hfree=>?_
 have hc0:Bl (((Tryz.f50).body).getD .skip)=true:=by kernel_rfl
 refine JZ hE hc0 ?_
 simp only at*
 rw [hL0]
 have hK':∀R',RwI n D B z o R'→aw m.N n R'→K (.tup []) ⟨sn,ks.zip [.ptr 0 0 0,.lst l3,.int .i64 a6],FB (C3 ty au Z m w L) n L none v7 (G.set kid R')⟩:=fun R' h1 h2=>by
  have:=hK R' h1 h2
  rw [JY,A7] at this
  exact this
 clear hK he hfree hL0
 have hNm:(m.N.map AL).length=n:=by rw [List.length_map,hM.many]
 have hGs:G.set kid R=G:=by
  refine List.ext_getElem? fun j=>?_
  rw [List.getElem?_set]
  split
  ·rename_i e;subst e;exact hG.symm
  ·rfl
 conv=>whnf
 skip
 refine Ab (fun ((R,more):List Ce×Bool)=>⟨70,[(0,.ptr 0 0 0),(1,.int .i64 kid),(4,.bool more)],FB (C3 ty au Z m w L) n L (some (.hid vs [.ptr 0 0 0,.lst l3,.int .i64 a6])) v7 (G.set kid R)⟩)
  (fun (R,more)=>RwI n D B z o R∧(more=false→aw m.N n R)) (fun (R,more)=>2*(V0 R).toNat+more.toNat) (R,true) hE ?_ ⟨hR,fun h=>by cases h⟩ ?_
 ·refine AP [0,1,4] ?_
  show fH _ _
  refine B3 ?_
  show _=(⟨70,_,FB _ _ _ _ _ (G.set kid R)⟩:ES)
  rw [hGs]
  rfl
 rintro ⟨R0,more⟩ ⟨hR0,hmore⟩
 cases more with
 | false=>
   conv=>whnf
   skip
   exact ar hE (hK' R0 hR0 (hmore rfl)) _
 | true=>
   clear hmore
   conv=>whnf
   repeat' intro hlen<;>conv=>whnf
   refine Ab (fun ((i,R,more):Nat×List Ce×Bool)=>⟨70,[(0,.ptr 0 0 0),(1,.int .i64 kid),(4,.bool more),(14,.lst (m.N.map AL)),(15,.int .i64 n),(16,.int .i64 i)],FB (C3 ty au Z m w L) n L (some (.hid vs [.ptr 0 0 0,.lst l3,.int .i64 a6])) v7 (G.set kid R)⟩)
    (fun (i,R,more)=>i≤n∧FlR m.N n D B z o R0 R more i 0) (fun (i,_,_)=>n - i) (0,R0,false) hE ?_ ⟨Nat.zero_le _,FlR.start hR0⟩ ?_
   ·refine AP [0,1,4,14,15,16] ?_
    show fH _ _
    refine B3 ?_
    show (⟨_,_,_⟩:ES)=_
    rw [hNm]
    rfl
   rintro ⟨i,R,more⟩ ⟨hi,hI⟩
   by_cases hin:i < n
   ·obtain ⟨row,hrow⟩:∃row,m.N[i]?=some row:=⟨_,List.getElem?_eq_getElem (by have:=hM.many;omega)⟩
    have hrm:=List.mem_of_getElem? hrow
    have h8:=hM.rows row hrm
    have gN:m.N[Int.toNat (i:Int)]?=some row:=by rw [Int.toNat_natCast];exact hrow
    have hro:m.N.getD i []=row:=by rw [List.getD_eq_getElem?_getD,hrow];rfl
    conv=>whnf
    repeat' (first|refine A2 ?_|refine AO ?_|refine Hk ?_|intro hlen)<;>conv=>whnf
    refine Ab (fun ((k,R,more):Nat×List Ce×Bool)=>⟨70,[(0,.ptr 0 0 0),(1,.int .i64 kid),(4,.bool more),(14,.lst (m.N.map AL)),(15,.int .i64 n),(16,.int .i64 i),(21,.lst (row.map (V.int .i64))),(22,.int .i64 (8:Nat)),(23,.int .i64 k),(5,.int .i64 i)],FB (C3 ty au Z m w L) n L (some (.hid vs [.ptr 0 0 0,.lst l3,.int .i64 a6])) v7 (G.set kid R)⟩)
     (fun (k,R,more)=>k≤8∧FlR m.N n D B z o R0 R more i k) (fun (k,_,_)=>8 - k) (0,R,more) hE ?_ ⟨Nat.zero_le _,hI⟩ ?_
    ·refine AP [0,1,4,14,15,16,21,22,23,5] ?_
     show fH _ _
     refine B3 ?_
     show (⟨_,_,_⟩:ES)=_
     have hl:(row.map (V.int .i64)).length=8:=by rw [List.length_map,h8]
     show (⟨_,[_,_,_,_,_,_,_,(22,.int .i64 ((row.map (V.int .i64)).length:Nat)),_,_],_⟩:ES)=_
     rw [hl]
     rfl
    clear hI
    rintro ⟨k,R,more⟩ ⟨hk,hI⟩
    by_cases hk8:k < 8
    ·obtain ⟨to,hto⟩:∃to,row[k]?=some to:=⟨_,List.getElem?_eq_getElem (by omega)⟩
     have gR:row[Int.toNat (k:Int)]?=some to:=by rw [Int.toNat_natCast];exact hto
     have htb:=hM.to row hrm to (List.mem_of_getElem? hto)
     by_cases h0:0≤to
     ·have hcl:=hI.row.len
      obtain ⟨c,hc⟩:∃c,R[to.toNat]?=some c:=⟨_,List.getElem?_eq_getElem (by omega)⟩
      obtain ⟨a,ha⟩:∃a,R[i]?=some a:=⟨_,List.getElem?_eq_getElem (by omega)⟩
      have hGk:=Ej hkl R
      have hGL:(G.set kid R).length=L:=by rw [List.length_set,hL]
      have hGm:((G.set kid R).map CJ).length=L:=by rw [List.length_map,hGL]
      have hRm:(R.map G0).length=n:=by rw [List.length_map,hcl]
      have hss:(Dq 8 n L).length=L:=FQ 8 n L
      have g1:=P8 (p:=8) (m:=n) (show kid < L by omega)
      have g2:∀o2,(FB (C3 ty au Z m w L) n L o2 v7 (G.set kid R))[kid+8]?=some (some (.row 3 (R.map G0))):=fun o2=>by
       show ((G.set kid R).map CJ)[kid]?=_
       rw [List.getElem?_map,hGk]
       rfl
      have g3:(R.map G0)[0+Int.toNat to]?=some (.agg [.int .i64 c.d,.int .i64 c.f,.bool c.ok]):=by rw [Nat.zero_add,List.getElem?_map,hc];rfl
      obtain ⟨cd,cf,ck⟩:=c
      dsimp only at g3
      cases ck with
      | false=>
        conv=>whnf
        repeat' (first|refine A2 ?_|refine AO ?_|refine AV ?_|refine Ad ?_|refine Hk ?_|refine HG (g2 _) ?_|(refine An hE ?_ ?_;decide +kernel))<;>conv=>whnf
        refine AD [0,1,4,14,15,16,21,22,23,5] (k+1,R,more) ⟨hk8,hI.pass fun to' c h1 h2 h3 h4=>?_⟩ (by show 8 - (k+1) < 8 - k;omega) ?_
        ·rw [hro,hto] at h1
         simp only [Option.some.injEq] at h1
         subst h1
         rw [hc] at h3
         simp only [Option.some.injEq] at h3
         subst h3
         cases h4
        show fH _ _
        refine B3 ?_
        rfl
      | true=>
        have hk7:k < 7:=by
         by_cases hk7:k < 7
         ·exact hk7
         ·exfalso
          have:to∈row.drop 7:=List.mem_iff_getElem?.2 ⟨k - 7,by rw [List.getElem?_drop,show 7+(k - 7)=k by omega,hto]⟩
          have:=hM.ty row hrm to this
          omega
        obtain ⟨s,hs⟩:∃s,Z[k]?=some s:=⟨_,List.getElem?_eq_getElem (by have:=hM.zl;omega)⟩
        have hsb:=hM.zs s (List.mem_of_getElem? hs)
        have hcr:=hI.row.rng _ (List.mem_of_getElem? hc)
        have hcf:=hI.row.fb (List.mem_of_getElem? hc)
        dsimp only at hcr hcf
        have hsz:=df ty au Z k s hs
        have hpl:=V1 cd cf 0 s (by omega) (by omega) (by omega) (by omega)
        rw [Int.add_zero] at hpl
        unfold Dx at hpl
        cases hb:Ip a cd (cf+s) with
        | false=>
          conv=>whnf
          repeat' (first|refine A2 ?_|refine AO ?_|refine AV ?_|refine Ad ?_|refine Hk ?_|refine HG (g2 _) ?_|refine Dt hsz hC Nk ?_|refine Dt hpl hC Gp ?_|refine PG hE hC hGk hGL hcl ha hb [0,1,4,14,15,16,21,22,23,43,5] rfl rfl rfl rfl ?_|(refine KN hE [⟨0,[(0,none),(1,none),(2,none),(3,none),(4,none),(5,none),(6,none),(7,none),(8,none),(9,none),(10,none),(11,none),(12,none),(13,none),(14,none),(15,none),(16,none),(17,none),(18,none),(19,none),(20,none),(21,none),(22,none),(23,none),(24,none),(25,none),(26,none),(27,none),(28,none),(29,none),(30,none),(31,none),(32,none),(33,none),(34,none),(35,none),(36,none),(37,none)],some 38,[],[[]],[]⟩,⟨0,[(39,none)],none,[],[[]],[]⟩] ?_ ?_;decide +kernel)|refine By ?_)<;>conv=>whnf
          refine AD [0,1,4,14,15,16,21,22,23,5] (k+1,R,more) ⟨hk8,hI.pass fun to' c h1 h2 h3 h4=>⟨a,ha,?_⟩⟩ (by show 8 - (k+1) < 8 - k;omega) ?_
          ·unfold Ip at hb
           cases hak:a.ok
           ·rw [hak] at hb
            cases hb
           ·rfl
          show fH _ _
          refine B3 ?_
          show (⟨_,_,eSegs.trimH' (FB (C3 ty au Z m w L) n L (some (.hid vs [.ptr 0 0 0,.lst l3,.int .i64 a6])) v7 (G.set kid R))⟩:ES)=_
          rw [Vz]
          rfl
        | true=>
          conv=>whnf
          repeat' (first|refine A2 ?_|refine AO ?_|refine AV ?_|refine Ad ?_|refine Hk ?_|refine HG (g2 _) ?_|refine Dt hsz hC Nk ?_|refine Dt hpl hC Gp ?_|refine PG hE hC hGk hGL hcl ha hb [0,1,4,14,15,16,21,22,23,43,5] rfl rfl rfl rfl ?_|(refine KN hE [⟨0,[(0,none),(1,none),(2,none),(3,none),(4,none),(5,none),(6,none),(7,none),(8,none),(9,none),(10,none),(11,none),(12,none),(13,none),(14,none),(15,none),(16,none),(17,none),(18,none),(19,none),(20,none),(21,none),(22,none),(23,none),(24,none),(25,none),(26,none),(27,none),(28,none),(29,none),(30,none),(31,none),(32,none),(33,none),(34,none),(35,none),(36,none),(37,none)],some 38,[],[[]],[]⟩,⟨0,[(39,none)],none,[],[[]],[]⟩] ?_ ?_;decide +kernel)|refine By ?_)<;>conv=>whnf
          refine AD [0,1,4,14,15,16,21,22,23,5] (k+1,R.set i ⟨cd,cf+s,true⟩,true) ⟨hk8,hI.put hD hB hc ha hsb hb _⟩ (by show 8 - (k+1) < 8 - k;omega) ?_
          show fH _ _
          refine B3 ?_
          have e:(G.set kid R).set kid (R.set i ⟨cd,cf+s,true⟩)=G.set kid (R.set i ⟨cd,cf+s,true⟩):=List.set_set ..
          show (⟨_,_,eSegs.trimH' (FB (C3 ty au Z m w L) n L (some (.hid vs [.ptr 0 0 0,.lst l3,.int .i64 a6])) v7 ((G.set kid R).set kid (R.set i ⟨cd,cf+s,true⟩)))⟩:ES)=_
          rw [Vz,e]
          rfl
     ·conv=>whnf
      repeat' (first|refine A2 ?_|refine A1 ?_|refine AO ?_|refine AV ?_|refine Hk ?_|(refine An hE ?_ ?_;decide +kernel))<;>conv=>whnf
      refine AD [0,1,4,14,15,16,21,22,23,5] (k+1,R,more) ⟨hk8,hI.pass fun to' c h1 h2=>?_⟩ (by show 8 - (k+1) < 8 - k;omega) ?_
      ·rw [hro,hto] at h1
       simp only [Option.some.injEq] at h1
       omega
      show fH _ _
      refine B3 ?_
      rfl
    ·obtain rfl:k=8:=by omega
     conv=>whnf
     repeat' (first|refine A1 ?_|refine AV ?_)<;>conv=>whnf
     refine AD [0,1,4,14,15,16] (i+1,R,more) ⟨hin,hI.next fun k' hk'=>?_⟩ (by show n - (i+1) < n - i;omega) ?_
     ·rw [hro]
      exact List.getElem?_eq_none (by omega)
     show fH _ _
     refine B3 ?_
     rfl
   ·conv=>whnf
    repeat' refine A1 ?_<;>conv=>whnf
    refine AD [0,1,4] (R,more) ⟨hI.row,fun e=>by subst e;exact hI.done (by omega)⟩ ?_ ?_
    ·have h1:=hI.row.mu
     have h2:=hR0.mu
     show 2*(V0 R).toNat+more.toNat < 2*(V0 R0).toNat+true.toNat
     have h3:=hI.mu
     cases more with
     | false=>simp;omega
     | true=>have:=h3.2 rfl;simp;omega
    show fH _ _
    refine B3 ?_
    rfl
end Go.Proofs.YtkaiffheakalmaaGreatDoor
