/- Joined. No conditions. -/
import Derived.Test.YtkaiffheakalmaaGreatDoorJ9al
set_option linter.unusedSimpArgs false
set_option linter.unusedVariables false
set_option maxRecDepth 100000
namespace Go.Proofs.YtkaiffheakalmaaGreatDoor
open Go.RowKit
structure Sg where
 M:Nat
 seg:List (Nat×Option Nat)
 bar:Option Nat
 opt:List Nat
 us:List (List Nat)
 ql:List (Nat×Nat)
def HJ (ql:List (Nat×Nat)) (lf:List Nat):List (Nat×Option Nat):=lf.map fun i=>(i,(ql.find? fun e=>e.1==i).map (·.2))
def B4 (ql:List (Nat×Nat)) (lf:List Nat) (seg:List (Nat×Option Nat)):List (Nat×Option Nat):=(HJ ql lf).filter (fun e=>e.2.isNone)++(seg++(HJ ql lf).filter fun e=>e.2.isSome)
theorem RM (ql:List (Nat×Nat)) (lf:List Nat) (seg:List (Nat×Option Nat)):(B4 ql lf seg).length=lf.length+seg.length:=by
 have h:∀l:List (Nat×Option Nat),(l.filter fun e=>e.2.isNone).length+(l.filter fun e=>e.2.isSome).length=l.length:=fun l=>by
  induction l with
  | nil=>rfl
  | cons e l ih=>obtain ⟨a,b⟩:=e;cases b<;>simp<;>omega
 have:=h (HJ ql lf)
 have e:(HJ ql lf).length=lf.length:=by simp [HJ]
 unfold B4
 rw [List.length_append,List.length_append]
 omega
def RN (i:Nat):List (Nat×Option Nat)→Bool
 | []=>false
 | e::r=>match Nat.beq e.1 i with
   | true=>true
   | false=>RN i r
theorem J5 {i:Nat}:∀{seg:List (Nat×Option Nat)},RN i seg=true→∃e∈seg,e.1=i
 | e::r,h=>by
   unfold RN at h
   cases hb:Nat.beq e.1 i with
   | true=>exact ⟨e,by simp,Nat.eq_of_beq_eq_true hb⟩
   | false=>
     rw [hb] at h
     obtain ⟨f,hf,he⟩:=J5 (seg:=r) h
     exact ⟨f,by simp [hf],he⟩
def dy (seg:List (Nat×Option Nat)):List Nat→Bool
 | []=>true
 | i::r=>match RN i seg with
   | true=>dy seg r
   | false=>false
def MP (seg:List (Nat×Option Nat)):List (List Nat)→List (List Nat)
 | []=>[]
 | U::r=>match dy seg U with
   | true=>U::MP seg r
   | false=>MP seg r
def LC (g:Sg) (lf:List Nat):List Nat:=g.opt.filter fun i=>RN i (B4 g.ql lf g.seg)
def X0 (g:Sg) (lf:List Nat):List (List Nat):=MP (B4 g.ql lf g.seg) g.us
theorem IU {seg:List (Nat×Option Nat)}:∀{us:List (List Nat)} {U:List Nat},U∈MP seg us→U∈us
 | V::r,U,h=>by
   unfold MP at h
   split at h
   ·rcases List.mem_cons.1 h with rfl|h
    ·simp
    ·simp [IU h]
   ·simp [IU h]
def VD (seg:List (Nat×Option Nat)) (i:Nat):Option Nat:=match seg.find? (fun e=>e.1==i) with
 | some e=>e.2
 | none=>none
def BZ (seg:List (Nat×Option Nat)) (base:Nat):List Nat→List (Option Ob)→List (Option Ob)
 | [],h=>h
 | i::U,h=>match VD seg i with
   | some q=>(BZ seg base U h).set (base+q) none
   | none=>BZ seg base U h
def CW (ops:Array Oper) (env0:List V):List Nat→List V→List V
 | [],env=>env
 | i::U,env=>match BD ops i with
   | some d=>(CW ops env0 U env).set d (env0.getD d .any)
   | none=>CW ops env0 U env
def Dl (ops:Array Oper) (env0:List V) (seg:List (Nat×Option Nat)) (base:Nat) (U:List Nat) (s:St):St:=⟨CW ops env0 U s.env,BZ seg base U s.heap⟩
section
variable {C:Ctx} {ops:Array Oper}
def Fh (ops:Array Oper) (base:Nat) (s:St) (e:Ent):St:=(Cs s (base+e.q.getD 0) e.ob).put (BD ops e.i) e.r
def C0 (C:Ctx) (ops:Array Oper) (base:Nat):List Ent→St→(St→Prop)→Prop
 | [],s,K=>K s
 | e::r,s,K=>(∃o,ops[e.i]?=some o∧RK C ops o e.r e.ob (base+e.q.getD 0) s∧(e.ob≠none→e.q≠none)∧(e.q≠none→e.ob=none→As ops o s=some false))∧C0 C ops base r (Fh ops base s e) K
def RO (C:Ctx) (ops:Array Oper) (K:St→Prop):List Sg→List Nat→St→Prop
 | [],_,s=>K s
 | g::r,lf,s=>∃ent:List Ent,ent.map (fun e=>(e.i,e.q))=B4 g.ql lf g.seg∧C0 C ops s.heap.length ent ⟨s.env,s.heap++List.replicate g.M none⟩ (fun s'=>match g.bar with
   | none=>RO C ops K r [] s'
   | some b=>∀U∈X0 g lf,∃o K0,ops[b]?=some o∧DJ C o (Dl ops s.env (B4 g.ql lf g.seg) s.heap.length U s') K0∧∀x s'',K0 x s''→Up C (RO C ops K r U) (s''.put o.dst x))
theorem Bd (env0:List V):∀(U:List Nat) (env:List V),(CW ops env0 U env).length=env.length
 | [],env=>rfl
 | i::U,env=>by
   unfold CW
   split
   ·rw [List.length_set];exact Bd env0 U env
   ·exact Bd env0 U env
theorem OV (env0:List V) (t:Nat):∀(U:List Nat) (env:List V),t < env.length→(CW ops env0 U env)[t]?=if (∃i∈U,BD ops i=some t) then some (env0.getD t .any) else env[t]?
 | [],env,ht=>by simp [CW]
 | i::U,env,ht=>by
   have ih:=OV env0 t U env ht
   unfold CW
   by_cases hi:BD ops i=some t
   ·rw [if_pos ⟨i,by simp,hi⟩]
    simp only [hi]
    rw [List.getElem?_set_self (by rw [Bd];exact ht)]
   ·have hiff:(∃j∈i::U,BD ops j=some t)↔∃j∈U,BD ops j=some t:=by
     constructor
     ·rintro ⟨j,hj,h⟩
      rcases List.mem_cons.1 hj with rfl|hj
      ·exact absurd h hi
      ·exact ⟨j,hj,h⟩
     ·rintro ⟨j,hj,h⟩;exact ⟨j,by simp [hj],h⟩
    simp only [hiff]
    split
    ·rename_i d hd
     rw [List.getElem?_set_ne (fun e=>hi (by rw [hd,e]))]
     exact ih
    ·exact ih
theorem EP (seg:List (Nat×Option Nat)) (base:Nat):∀(U:List Nat) (h:List (Option Ob)),(BZ seg base U h).length=h.length
 | [],h=>rfl
 | i::U,h=>by
   unfold BZ
   split
   ·rw [List.length_set];exact EP seg base U h
   ·exact EP seg base U h
theorem MQ (seg:List (Nat×Option Nat)) (base k:Nat):∀(U:List Nat) (h:List (Option Ob)),k < h.length→(BZ seg base U h)[k]?=if (∃i∈U,∃q,VD seg i=some q∧base+q=k) then some none else h[k]?
 | [],h,hk=>by simp [BZ]
 | i::U,h,hk=>by
   have ih:=MQ seg base k U h hk
   unfold BZ
   by_cases hi:∃q,VD seg i=some q∧base+q=k
   ·obtain ⟨q,hq,rfl⟩:=hi
    rw [if_pos ⟨i,by simp,q,hq,rfl⟩]
    simp only [hq]
    rw [List.getElem?_set_self (by rw [EP];exact hk)]
   ·have hiff:(∃j∈i::U,∃q,VD seg j=some q∧base+q=k)↔∃j∈U,∃q,VD seg j=some q∧base+q=k:=by
     constructor
     ·rintro ⟨j,hj,h⟩
      rcases List.mem_cons.1 hj with rfl|hj
      ·exact absurd h hi
      ·exact ⟨j,hj,h⟩
     ·rintro ⟨j,hj,h⟩;exact ⟨j,by simp [hj],h⟩
    simp only [hiff]
    split
    ·rename_i q hq
     rw [List.getElem?_set_ne (fun e=>hi ⟨q,hq,e⟩)]
     exact ih
    ·exact ih
theorem VE {ent:List Ent} {M:Nat} (hE:EntOk ops ent M) {seg:List (Nat×Option Nat)} (hent:ent.map (fun e=>(e.i,e.q))=seg) {e:Ent} (he:e∈ent):VD seg e.i=e.q:=by
 subst hent
 have:(ent.map fun e=>(e.i,e.q)).find? (fun f=>f.1==e.i)=some (e.i,e.q):=JG (List.mem_map.2 ⟨e,he,rfl⟩) (by simp) (fun y hy hp=>by
  obtain ⟨f,hf,rfl⟩:=List.mem_map.1 hy
  have:f.i=e.i:=by simpa using hp
  rw [hE.one f hf e he this])
 unfold VD
 rw [this]
theorem VF {ent:List Ent} {M:Nat} {s0:St} (hE:EntOk ops ent M) {L:Nat→Bool} {U:List Nat} (hU:∀i,i∈U↔∃e∈ent,e.i=i∧L i=false) {seg:List (Nat×Option Nat)} (hent:ent.map (fun e=>(e.i,e.q))=seg):
 SE ops ent s0 M L=Dl ops s0.env seg s0.heap.length U (SE ops ent s0 M (fun _=>true)):=by
 unfold Dl
 show (⟨_,_⟩:St)=⟨_,_⟩
 congr 1
 ·apply List.ext_getElem?
  intro t
  by_cases ht:t < s0.env.length
  ·rw [OV s0.env t U _ (by show t < ((List.range s0.env.length).map _).length;rw [List.length_map,List.length_range];exact ht)]
   show ((List.range s0.env.length).map (DK ops ent s0.env L))[t]?=if _ then _ else ((List.range s0.env.length).map (DK ops ent s0.env fun _=>true))[t]?
   rw [List.getElem?_map,List.getElem?_map,List.getElem?_range ht,Option.map_some,Option.map_some]
   by_cases hex:∃i∈U,BD ops i=some t
   ·rw [if_pos hex]
    obtain ⟨i,hi,hd⟩:=hex
    obtain ⟨e,he,rfl,hl⟩:=(hU i).1 hi
    congr 1
    unfold DK
    rw [List.find?_eq_none.2 (fun f hf hP=>by
     simp only [Bool.and_eq_true,decide_eq_true_eq] at hP
     have:=hE.dst f hf e he t hP.2 hd
     rw [this,hl] at hP
     cases hP.1)]
   ·rw [if_neg hex]
    congr 1
    unfold DK
    have:ent.find? (fun e=>L e.i&&decide (BD ops e.i=some t))=ent.find? (fun e=>true&&decide (BD ops e.i=some t)):=Da fun e he=>by
     by_cases hd:BD ops e.i=some t
     ·have:L e.i=true:=by
       cases h:L e.i with
       | true=>rfl
       | false=>exact absurd ⟨e.i,(hU _).2 ⟨e,he,rfl,h⟩,hd⟩ hex
      rw [this]
     ·simp [hd]
    rw [this]
  ·rw [List.getElem?_eq_none (by show ((List.range s0.env.length).map _).length≤t;rw [List.length_map,List.length_range];omega),List.getElem?_eq_none (by rw [Bd];show ((List.range s0.env.length).map _).length≤t;rw [List.length_map,List.length_range];omega)]
 ·show s0.heap++(List.range M).map (LR ent L)=BZ seg s0.heap.length U (s0.heap++(List.range M).map (LR ent fun _=>true))
  apply List.ext_getElem?
  intro k
  by_cases hk:k < (s0.heap++(List.range M).map (LR ent fun _=>true)).length
  ·rw [MQ seg _ k U _ hk]
   by_cases hlt:k < s0.heap.length
   ·rw [if_neg (by rintro ⟨i,_,q,_,e⟩;omega),List.getElem?_append_left hlt,List.getElem?_append_left hlt]
   ·obtain ⟨p,rfl⟩:∃p,k=s0.heap.length+p:=⟨k - s0.heap.length,by omega⟩
    have hp:p < M:=by simp at hk;omega
    rw [List.getElem?_append_right (by omega),Nat.add_sub_cancel_left,List.getElem?_map,List.getElem?_range hp,Option.map_some]
    by_cases hex:∃i∈U,∃q,VD seg i=some q∧s0.heap.length+q=s0.heap.length+p
    ·rw [if_pos hex]
     obtain ⟨i,hi,q,hq,e⟩:=hex
     obtain rfl:q=p:=by omega
     obtain ⟨e,he,rfl,hl⟩:=(hU i).1 hi
     rw [VE hE hent he] at hq
     congr 1
     unfold LR
     rw [List.find?_eq_none.2 (fun f hf hP=>by
      simp only [Bool.and_eq_true,decide_eq_true_eq] at hP
      have:=hE.rk f hf e he q hP.2 hq
      rw [this,hl] at hP
      cases hP.1)]
    ·rw [if_neg hex,List.getElem?_append_right (by omega),Nat.add_sub_cancel_left,List.getElem?_map,List.getElem?_range hp,Option.map_some]
     congr 1
     unfold LR
     have:ent.find? (fun e=>L e.i&&decide (e.q=some p))=ent.find? (fun e=>true&&decide (e.q=some p)):=Da fun e he=>by
      by_cases hqp:e.q=some p
      ·have:L e.i=true:=by
        cases h:L e.i with
        | true=>rfl
        | false=>exact absurd ⟨e.i,(hU _).2 ⟨e,he,rfl,h⟩,p,by rw [VE hE hent he];exact hqp,rfl⟩ hex
       rw [this]
      ·simp [hqp]
     rw [this]
  ·rw [List.getElem?_eq_none (by simp at hk ⊢;omega),List.getElem?_eq_none (by rw [EP];omega)]
theorem J6:∀{ent:List Ent} {s:St} {K:St→Prop} {base:Nat},C0 C ops base ent s K→∀e∈ent,e.ob≠none→e.q≠none
 | e::r,s,K,base,h,f,hf=>by
   rcases List.mem_cons.1 hf with rfl|hf
   ·obtain ⟨o,_,_,h3,_⟩:=h.1;exact h3
   ·exact J6 h.2 f hf
theorem RQ (a b:List Ent) (j:Nat):DL (a++b) j=(DL a j || DL b j):=by simp [DL]
theorem J7 {done:Nat→Bool} {seg:List (Nat×Option Nat)} {M:Nat} {s0:St} {K:St→Prop} (ent:List Ent) (hE:EntOk ops ent M) (hnd:∀(k k':Nat) (e f:Ent),ent[k]?=some e→ent[k']?=some f→e.i=f.i→k=k'):
 ∀(suf pre:List Ent),ent=pre++suf→C0 C ops s0.heap.length suf (SE ops ent s0 M (DL pre)) K→
   (∀k e,suf[k]?=some e→∃o,ops[e.i]?=some o∧RK C ops o e.r e.ob (s0.heap.length+e.q.getD 0) (SE ops ent s0 M (DL (pre++suf.take k)))∧(e.q≠none→e.ob=none→As ops o (SE ops ent s0 M (DL (pre++suf.take k)))=some false))∧K (SE ops ent s0 M (DL ent))
 | [],pre,hp,h=>by
   refine ⟨fun k e hk=>by simp at hk,?_⟩
   rw [List.append_nil] at hp
   subst hp
   exact h
 | e::suf,pre,hp,h=>by
   obtain ⟨⟨o,ho,hy,_,hsk⟩,h2⟩:=h
   have hem:e∈ent:=by rw [hp];simp
   have hpos:ent[pre.length]?=some e:=by rw [hp];simp
   have hstep:Fh ops s0.heap.length (SE ops ent s0 M (DL pre)) e=SE ops ent s0 M (DL (pre++[e])):=by
    refine (VB hE hem ?_ ?_ ?_).symm
    ·cases hm:DL pre e.i with
     | false=>rfl
     | true=>
       obtain ⟨g,hg,hgi⟩:=EZ.1 hm
       obtain ⟨k,hk⟩:=List.mem_iff_getElem?.1 hg
       have hkl:=(List.getElem?_eq_some_iff.1 hk).1
       have:=hnd k pre.length g e (by rw [hp,List.getElem?_append_left hkl];exact hk) hpos hgi
       omega
    ·rw [RQ];simp [DL]
    ·intro f hf hfe
     rw [RQ]
     have:DL [e] f.i=false:=by
      cases hm:DL [e] f.i with
      | false=>rfl
      | true=>
        obtain ⟨g,hg,hgi⟩:=EZ.1 hm
        simp at hg
        subst hg
        exact absurd (hE.one g hem f hf hgi).symm hfe
     rw [this,Bool.or_false]
   rw [hstep] at h2
   have ih:=J7 (done:=done) (seg:=seg) ent hE hnd suf (pre++[e]) (by rw [hp];simp) h2
   refine ⟨fun k f hk=>?_,ih.2⟩
   cases k with
   | zero=>
     simp at hk
     subst hk
     exact ⟨o,ho,by simpa using hy,by simpa using hsk⟩
   | succ k=>
     obtain ⟨o',h3,h4,h5⟩:=ih.1 k f (by simpa using hk)
     exact ⟨o',h3,by simpa using h4,by simpa using h5⟩
def IV (o:Oper) (d:Nat):Bool:=o.after.toList.all fun e=>!Region.binds .any e || d.testBit e.on
def VG (ops:Array Oper) (i:Nat):Bool:=match ops[i]? with|some o=>JF o.op|none=>false
def VH (ops:Array Oper) (ms:List Nat):Nat→List Nat→List (Nat×Option Nat)→Bool
 | _,_,[]=>true
 | d,mk,(i,q)::r=>(match ops[i]? with|some o=>IV o d|none=>false)&&((q.isSome&&VG ops i) || mk.all (fun m=>(ms.getD i 0).testBit m))&&VH ops ms (d ||| 1 <<< i) (match q with|none=>mk|some _=>i::mk) r
def Dm (ops:Array Oper) (ms:List Nat) (e f:Nat×Option Nat):Bool:=
 e.1 != f.1&&((ms.getD e.1 0).testBit f.1 || (ms.getD f.1 0).testBit e.1 || (match ops[e.1]?,ops[f.1]? with|some o,some o'=>o.apart ops o'&&o'.apart ops o|_,_=>true))&&
  (match BD ops e.1,BD ops f.1 with|some a,some b=>a != b|_,_=>true)&&(match e.2,f.2 with|some a,some b=>a != b|_,_=>true)
def LS (ops:Array Oper) (ms:List Nat):List (Nat×Option Nat)→Bool
 | []=>true
 | e::r=>r.all (Dm ops ms e)&&LS ops ms r
def OW (ops:Array Oper) (ms:List Nat) (d M:Nat) (seg:List (Nat×Option Nat)) (bar:Option Nat) (opt:List Nat):Bool:=
 VH ops ms d [] seg&&LS ops ms seg&&seg.all (fun e=>!d.testBit e.1&&(match e.2 with|some p=>decide (p < M)|none=>true))&&
  (bar.isSome || (List.range ops.size).all fun j=>d.testBit j || seg.any (fun e=>e.1==j) || bar==some j || seg.all fun e=>(ms.getD j 0).testBit e.1)&&
  (match bar with
  | none=>true
  | some b=>seg.all (fun e=>opt.contains e.1 || (ms.getD b 0).testBit e.1))
def OX:List Nat→List (List Nat)
 | []=>[[]]
 | i::l=>OX l++(OX l).map fun U=>i::U
theorem HK (p:Nat→Bool):∀l:List Nat,l.filter p∈OX l
 | []=>by simp [OX]
 | i::l=>by
   have ih:=HK p l
   unfold OX
   rw [List.mem_append,List.filter_cons]
   split
   ·exact .inr (List.mem_map.2 ⟨_,ih,rfl⟩)
   ·exact .inl ih
def iK (ms:List Nat) (opt U:List Nat):Bool:=opt.all fun j=>U.contains j || U.all fun u=>!(ms.getD j 0).testBit u
def cC (ms:List Nat) (opt:List Nat) (us:List (List Nat)):Bool:=(OX opt).all fun U=>!iK ms opt U || us.contains U
def Ba (d:Nat) (seg:List (Nat×Option Nat)):Nat:=seg.foldl (fun d e=>d ||| 1 <<< e.1) d
def IW (ops:Array Oper) (ms:List Nat):Nat→List Nat→List Sg→Bool
 | d,lf,[]=>lf.isEmpty&&(List.range ops.size).all fun j=>d.testBit j
 | d,lf,g::r=>OW ops ms d g.M (B4 g.ql lf g.seg) g.bar (LC g lf)&&(match g.bar with
   | none=>IW ops ms (Ba d (B4 g.ql lf g.seg)) [] r
   | some b=>(match ops[b]? with|some o=>IV o (Ba d (B4 g.ql lf g.seg))&&o.guard.isNone|none=>false)&&!(Ba d (B4 g.ql lf g.seg)).testBit b&&
      ((List.range ops.size).all fun j=>(Ba d (B4 g.ql lf g.seg)).testBit j || j==b || (ms.getD j 0).testBit b)&&
      cC ms (LC g lf) (X0 g lf)&&
      (X0 g lf).all fun U=>IW ops ms (Ba d ((B4 g.ql lf g.seg).filter fun e=>!U.contains e.1) ||| 1 <<< b) U r)
theorem Ep (d i j:Nat):(d ||| 1 <<< i).testBit j=true↔d.testBit j=true∨i=j:=by
 rw [Nat.testBit_or,Bool.or_eq_true,Nat.one_shiftLeft,Nat.testBit_two_pow];simp
theorem Aj:∀(seg:List (Nat×Option Nat)) (d j:Nat),(Ba d seg).testBit j=true↔d.testBit j=true∨∃e∈seg,e.1=j
 | [],d,j=>by simp [Ba]
 | e::r,d,j=>by
   have:=Aj r (d ||| 1 <<< e.1) j
   unfold Ba at this ⊢
   rw [List.foldl_cons,this,Ep]
   simp [or_assoc]
theorem IX {o:Oper} {d:Nat}:IV o d=true↔∀x∈o.after,Region.binds .any x=true→d.testBit x.on=true:=by
 unfold IV
 rw [List.all_eq_true]
 constructor
 ·intro h x hx hb
  have:=h x (by simpa using hx)
  simpa [hb] using this
 ·intro h x hx
  cases hb:Region.binds .any x with
  | false=>simp
  | true=>simp [h x (by simpa using hx) hb]
theorem IY {ms:List Nat}:∀(seg:List (Nat×Option Nat)) (d:Nat) (mk:List Nat),VH ops ms d mk seg=true→
 (∀(k:Nat) (e:Nat×Option Nat),seg[k]?=some e→e.1 < ops.size∧(∀o,ops[e.1]?=some o→∀x∈o.after,Region.binds .any x=true→d.testBit x.on=true∨∃f∈seg.take k,f.1=x.on)∧
   ((e.2≠none∧∀o,ops[e.1]?=some o→JF o.op=true)∨((∀m∈mk,(ms.getD e.1 0).testBit m=true)∧∀f∈seg.take k,f.2≠none→(ms.getD e.1 0).testBit f.1=true)))
 | [],d,mk,h,k,e,hk=>by simp at hk
 | (i,q)::r,d,mk,h,k,e,hk=>by
   simp only [VH,Bool.and_eq_true] at h
   obtain ⟨⟨h1,h2⟩,h3⟩:=h
   cases k with
   | zero=>
     simp at hk
     subst hk
     cases ho:ops[i]? with
     | none=>rw [ho] at h1;cases h1
     | some o=>
       rw [ho] at h1
       refine ⟨(Array.getElem?_eq_some_iff.1 ho).1,fun o' ho' x hx hb=>.inl ?_,?_⟩
       rotate_left
       ·rw [Bool.or_eq_true,Bool.and_eq_true] at h2
        rcases h2 with h2|h2
        ·refine .inl ⟨fun e=>?_,fun o' ho'=>?_⟩
         ·rw [show q=none from e] at h2;cases h2.1
         ·have h22:=h2.2
          unfold VG at h22
          simp only [Option.some.injEq] at ho'
          subst ho'
          rw [ho] at h22
          exact h22
        ·rw [List.all_eq_true] at h2
         exact .inr ⟨h2,fun f hf=>by simp at hf⟩
       simp only [Option.some.injEq] at ho'
       subst ho'
       exact IX.1 h1 x hx hb
   | succ k=>
     have ih:=IY r _ _ h3 k e (by simpa using hk)
     obtain ⟨a1,a2,a34⟩:=ih
     refine ⟨a1,fun o ho x hx hb=>?_,a34.elim .inl fun ⟨a3,a4⟩=>.inr ⟨fun m hm=>a3 m (by cases q<;>simp [hm]),fun f hf hfq=>?_⟩⟩
     ·rcases a2 o ho x hx hb with h|⟨f,hf,hfx⟩
      ·rcases (Ep d i x.on).1 h with h|h
       ·exact .inl h
       ·exact .inr ⟨(i,q),by simp,h⟩
      ·exact .inr ⟨f,by simp [hf],hfx⟩
     ·rw [List.take_succ_cons] at hf
      rcases List.mem_cons.1 hf with rfl|hf
      ·cases q with
       | none=>exact absurd rfl hfq
       | some p=>exact a3 i (by simp)
      ·exact a4 f hf hfq
theorem Ga {ms:List Nat}:∀(seg:List (Nat×Option Nat)),LS ops ms seg=true→∀(k k':Nat) (e f:Nat×Option Nat),k < k'→seg[k]?=some e→seg[k']?=some f→Dm ops ms e f=true
 | [],_,k,k',e,f,_,hk,_=>by simp at hk
 | x::r,h,k,k',e,f,hlt,hk,hk'=>by
   simp only [LS,Bool.and_eq_true,List.all_eq_true] at h
   cases k' with
   | zero=>omega
   | succ k'=>
     have hk'':r[k']?=some f:=by simpa using hk'
     cases k with
     | zero=>
       simp at hk
       subst hk
       exact h.1 f (List.mem_of_getElem? hk'')
     | succ k=>exact Ga r h.2 k k' e f (by omega) (by simpa using hk) hk''
theorem cD {d M:Nat} {seg:List (Nat×Option Nat)} {bar:Option Nat} {opt:List Nat} (h:OW ops (CO ops) d M seg bar opt=true)
 (hb:∀b,bar=some b→(match ops[b]? with|some o=>IV o (Ba d seg)&&o.guard.isNone|none=>false)=true∧(Ba d seg).testBit b=false):SegP ops (fun j=>d.testBit j) seg M bar opt:=by
 simp only [OW,Bool.and_eq_true] at h
 obtain ⟨⟨⟨⟨h1,h2⟩,h3⟩,h4⟩,h5⟩:=h
 have g:=IY seg d [] h1
 have p:=Ga seg h2
 rw [List.all_eq_true] at h3
 have pe:∀(k k':Nat) (e f:Nat×Option Nat),seg[k]?=some e→seg[k']?=some f→k≠k'→Dm ops (CO ops) e f=true∨Dm ops (CO ops) f e=true:=fun k k' e f hk hk' hne=>by
  rcases Nat.lt_or_gt_of_ne hne with hl|hl
  ·exact .inl (p k k' e f hl hk hk')
  ·exact .inr (p k' k f e hl hk' hk)
 have po:∀(e f:Nat×Option Nat),e∈seg→f∈seg→e=f∨Dm ops (CO ops) e f=true∨Dm ops (CO ops) f e=true:=fun e f he hf=>by
  obtain ⟨k,hk⟩:=List.mem_iff_getElem?.1 he
  obtain ⟨k',hk'⟩:=List.mem_iff_getElem?.1 hf
  by_cases hkk:k=k'
  ·subst hkk;rw [hk] at hk';exact .inl (by simpa using hk')
  ·exact .inr (pe k k' e f hk hk' hkk)
 have pn:∀(e f:Nat×Option Nat),Dm ops (CO ops) e f=true→e.1≠f.1∧(((CO ops).getD e.1 0).testBit f.1=true∨((CO ops).getD f.1 0).testBit e.1=true∨(∀o o',ops[e.1]?=some o→ops[f.1]?=some o'→o.apart ops o'=true∧o'.apart ops o=true))∧
  (∀t,BD ops e.1=some t→BD ops f.1=some t→False)∧(∀q,e.2=some q→f.2=some q→False):=fun e f h=>by
  simp only [Dm,Bool.and_eq_true,Bool.or_eq_true,bne_iff_ne,ne_eq] at h
  obtain ⟨⟨⟨a1,a2⟩,a3⟩,a4⟩:=h
  refine ⟨a1,?_,fun t ht ht'=>?_,fun q hq hq'=>?_⟩
  ·rcases a2 with (a2|a2)|a2
   ·exact .inl a2
   ·exact .inr (.inl a2)
   ·refine .inr (.inr fun o o' ho ho'=>?_)
    rw [ho,ho'] at a2
    simpa using a2
  ·rw [ht,ht'] at a3;simp at a3
  ·rw [hq,hq'] at a4;simp at a4
 refine ⟨fun e he=>?_,fun e he=>?_,fun k k' e f hk hk' hef=>?_,fun k e hk=>(g k e hk).2.1,fun k e hk=>(g k e hk).2.2.elim .inl fun h=>.inr fun f hf hq=>BX (h.2 f hf hq),fun e he f hf hne=>?_,fun e he f hf t h1 h2=>?_,fun e he f hf q h1 h2=>?_,fun e he q hq=>?_,fun hbn j hj hd hno hbj e he=>?_,fun b hbb e he hno=>?_,fun b hbb=>?_,fun b hbb o ho x hx hbx=>?_⟩
 ·obtain ⟨k,hk⟩:=List.mem_iff_getElem?.1 he
  exact (g k e hk).1
 ·have:=h3 e he
  simp only [Bool.and_eq_true,Bool.not_eq_true'] at this
  exact this.1
 ·refine Classical.byContradiction fun hne=>?_
  rcases pe k k' e f hk hk' hne with h|h
  ·exact (pn e f h).1 hef
  ·exact (pn f e h).1 hef.symm
 ·rcases po e f he hf with rfl|h|h
  ·exact absurd rfl hne
  ·rcases (pn e f h).2.1 with h|h|h
   ·exact .inl (BX h)
   ·exact .inr (.inl (BX h))
   ·exact .inr (.inr fun o o' ho ho'=>(h o o' ho ho').1)
  ·rcases (pn f e h).2.1 with h|h|h
   ·exact .inr (.inl (BX h))
   ·exact .inl (BX h)
   ·exact .inr (.inr fun o o' ho ho'=>(h o' o ho' ho).2)
 ·rcases po e f he hf with rfl|h|h
  ·rfl
  ·exact ((pn e f h).2.2.1 t h1 h2).elim
  ·exact ((pn f e h).2.2.1 t h2 h1).elim
 ·rcases po e f he hf with rfl|h|h
  ·rfl
  ·exact ((pn e f h).2.2.2 q h1 h2).elim
  ·exact ((pn f e h).2.2.2 q h2 h1).elim
 ·have:=h3 e he
  simp only [Bool.and_eq_true,hq,decide_eq_true_eq] at this
  exact this.2
 ·subst hbn
  simp only [Option.isSome_none,Bool.false_or] at h4
  rw [List.all_eq_true] at h4
  have:=h4 j (by simpa using hj)
  simp only [Bool.or_eq_true,hd,Bool.false_eq_true,false_or,List.any_eq_true,beq_iff_eq,List.all_eq_true] at this
  rcases this with (⟨f,hf,hfj⟩|this)|this
  ·exact absurd hfj (hno f hf)
  ·exact absurd this hbj
  ·exact BX (this e he)
 ·subst hbb
  simp only [List.all_eq_true,Bool.or_eq_true,List.contains_iff_mem] at h5
  rcases h5 e he with h|h
  ·exact absurd h hno
  ·exact BX h
 ·obtain ⟨hb1,hb2⟩:=hb b hbb
  refine ⟨?_,?_,fun e he h=>?_⟩
  ·cases ho:ops[b]? with
   | none=>rw [ho] at hb1;cases hb1
   | some o=>exact (Array.getElem?_eq_some_iff.1 ho).1
  ·cases h:d.testBit b with
   | false=>rfl
   | true=>rw [(Aj seg d b).2 (.inl h)] at hb2;cases hb2
  ·rw [(Aj seg d b).2 (.inr ⟨e,he,h⟩)] at hb2;cases hb2
 ·obtain ⟨hb1,hb2⟩:=hb b hbb
  rw [ho] at hb1
  simp only [Bool.and_eq_true] at hb1
  exact (Aj seg d x.on).1 (IX.1 hb1.1 x hx hbx)
theorem Ph:∀(U l:List Nat),U.Nodup→(∀x∈U,x∈l)→U.length≤l.length
 | [],l,_,_=>Nat.zero_le _
 | i::U,l,hn,hs=>by
   have hi:i∈l:=hs i (by simp)
   rw [List.nodup_cons] at hn
   have:=Ph U (l.erase i) hn.2 (fun x hx=>(List.mem_erase_of_ne (fun (e:x=i)=>hn.1 (by rw [←e];exact hx))).2 (hs x (by simp [hx])))
   rw [List.length_erase_of_mem hi] at this
   have hl:0 < l.length:=List.length_pos_of_mem hi
   simp only [List.length_cons]
   omega
def OY:List Sg→Nat
 | []=>0
 | g::r=>g.seg.length+(match g.bar with|none=>0|some _=>1)+OY r
theorem JI {K:St→Prop} {Q':Exit→Act→World→Prop} (hQ:∀s a w,Rel C s a w→K s→Q' .normal a w):∀(plan:List Sg) (d:Nat) (lf:List Nat),IW ops (CO ops) d lf plan=true→plan.all (fun g=>decide g.opt.Nodup)=true→
 (∀j o,ops[j]?=some o→d.testBit j=true→∀x∈o.after,Region.binds .any x=true→d.testBit x.on=true)→(∀j,d.testBit j=true→j < ops.size)→
 ∀(s:St),RO C ops K plan lf s→∀(F:Nat) (listed:Array Bool),lf.length+OY plan≤F→CB .any ops listed→listed.size=ops.size→(∀j,listed.getD j false=true↔d.testBit j=true)→
   ∀a w,Rel C s a w→wpAny C.P .any ops Q' F listed a w
 | [],d,lf,hp,hnd,hcl,hlt,s,hk,F,listed,hF,hc,hsz,hd,a,w,hr=>by
   simp only [IW,Bool.and_eq_true,List.all_eq_true,List.mem_range] at hp
   have hp:=hp.2
   have hnil:Region.ready .any ops listed=[]:=by
    refine List.eq_nil_iff_forall_not_mem.2 fun i hi=>?_
    obtain ⟨h1,o,ho,_⟩:=mem_ready.1 hi
    have hi:=(Array.getElem?_eq_some_iff.1 ho).1
    have:=(hd i).2 (hp i hi)
    rw [JH (by rw [hsz];exact hi) true false,this] at h1
    cases h1
   cases F with
   | zero=>exact ⟨hnil,hQ s a w hr hk⟩
   | succ F=>exact ⟨fun _=>hQ s a w hr hk,fun i hi=>by rw [hnil] at hi;cases hi⟩
 | g::r,d,lf,hp,hnod,hcl,hlt,s,hk,F,listed,hF,hc,hsz,hd,a,w,hr=>by
   simp only [IW,Bool.and_eq_true] at hp
   obtain ⟨hsg,hp⟩:=hp
   rw [List.all_cons,Bool.and_eq_true,decide_eq_true_eq] at hnod
   generalize hseg:B4 g.ql lf g.seg=seg at*
   have hseglen:seg.length=lf.length+g.seg.length:=by rw [←hseg];exact RM _ _ _
   have hS:=cD hsg (fun b hb=>by
    simp only [hb,Bool.and_eq_true] at hp
    refine ⟨hp.1.1.1.1,?_⟩
    have:=hp.1.1.1.2
    simpa using this)
   obtain ⟨ent,hent,htr⟩:=hk
   rw [hseg] at hent
   have hob:=J6 htr
   have hE:=TV hS hent hob
   have hnd:∀(k k':Nat) (e f:Ent),ent[k]?=some e→ent[k']?=some f→e.i=f.i→k=k':=fun k k' e f hk hk' h=>
    hS.one k k' (e.i,e.q) (f.i,f.q) (by rw [←hent,List.getElem?_map,hk];rfl) (by rw [←hent,List.getElem?_map,hk'];rfl) h
   have h0:SE ops ent s g.M (DL [])=⟨s.env,s.heap++List.replicate g.M none⟩:=VA fun e _=>rfl
   rw [←h0] at htr
   obtain ⟨tr,hfin⟩:=J7 (done:=fun j=>d.testBit j) (seg:=seg) ent hE hnd ent [] rfl htr
   have hall:SE ops ent s g.M (DL ent)=SE ops ent s g.M (fun _=>true):=HI fun e he=>EZ.2 ⟨e,he,rfl⟩
   rw [hall] at hfin
   have hcl':∀j o,ops[j]?=some o→(Ba d seg).testBit j=true→∀x∈o.after,Region.binds .any x=true→(Ba d seg).testBit x.on=true:=fun j o ho hj x hx hb=>by
    rcases (Aj _ _ _).1 hj with h|⟨e,he,rfl⟩
    ·exact (Aj _ _ _).2 (.inl (hcl j o ho h x hx hb))
    ·obtain ⟨k,hk⟩:=List.mem_iff_getElem?.1 he
     rcases hS.ready k e hk o ho x hx hb with h|⟨f,hf,hfx⟩
     ·exact (Aj _ _ _).2 (.inl h)
     ·exact (Aj _ _ _).2 (.inr ⟨f,List.mem_of_mem_take hf,hfx⟩)
   have hlt':∀j,(Ba d seg).testBit j=true→j < ops.size:=fun j hj=>by
    rcases (Aj _ _ _).1 hj with h|⟨e,he,rfl⟩
    ·exact hlt j h
    ·exact hS.lt e he
   have hr0:Rel C (SE ops ent s g.M (fun j=>listed.getD j false)) a w:=by
    rw [HI (L:=fun j=>listed.getD j false) (L':=DL []) (fun e he=>by
     have:=hS.fresh _ (Dk hent he)
     simp only at this
     cases hl:listed.getD e.i false with
     | false=>rfl
     | true=>rw [(hd _).1 hl] at this;cases this),h0]
    refine D4 hr (fun k x hx=>.inl ?_) (fun k x hx=>.inl ?_)
    ·by_cases hk:k < s.heap.length
     ·rwa [List.getElem?_append_left hk] at hx
     ·rw [List.getElem?_append_right (by omega),List.getElem?_replicate] at hx
      split at hx<;>cases hx
    ·rw [List.getElem?_append_left (List.getElem?_eq_some_iff.1 hx).1];exact hx
   refine VC (rest:=(match g.bar with|none=>0|some _=>1)+OY r) hS hcl hlt hent hob tr (fun b hb j hj hdj hsj hbj=>?_) (fun hbn F listed hF hc hsz hl a w hr=>?_) (fun b hb=>⟨?_,fun F listed _ hF hc hsz hdl hsub hopt hbr a w hr=>?_⟩) seg.length F listed List.countP_le_length (by simp only [OY] at hF;omega) hc hsz (fun j hj=>(hd j).2 hj) (fun j hj=>.inl ((hd j).1 hj)) a w hr0
   ·simp only [hb,Bool.and_eq_true] at hp
    have p3:=hp.1.1.2
    rw [List.all_eq_true] at p3
    have:=p3 j (by simpa using hj)
    simp only [Bool.or_eq_true,beq_iff_eq] at this
    rcases this with (h|h)|h
    ·rcases (Aj _ _ _).1 h with h|⟨e,he,h⟩
     ·rw [hdj] at h;cases h
     ·exact absurd h (hsj e he)
    ·exact absurd h.symm hbj
    ·exact BX h
   ·have hl':∀j,listed.getD j false=true↔(Ba d seg).testBit j=true:=fun j=>(hl j).trans (Aj _ _ _).symm
    simp only [hbn] at hp hfin hF
    exact JI hQ r _ [] hp hnod.2 hcl' hlt' _ hfin F listed (by simp;omega) hc hsz hl' a w hr
   ·rw [hb];simp only;omega
   ·simp only [hb,Bool.and_eq_true] at hp hfin hF
    obtain ⟨⟨⟨⟨p1,p2⟩,p3⟩,p6⟩,p4⟩:=hp
    have hcl1:∀j u,listed.getD j false=true→Et ops j u→listed.getD u false=true:=fun j u hj h=>h listed hc (fun o' ho' x hx hb=>hc j o' ho' hj x hx hb)
    generalize hUd:((LC g lf).filter fun j=>!listed.getD j false)=U
    have hUm:∀i,i∈U↔i∈LC g lf∧listed.getD i false=false:=fun i=>by rw [←hUd,List.mem_filter];simp
    have hopts:∀i∈LC g lf,∃e∈seg,e.1=i:=fun i hi=>by
     have:=(List.mem_filter.1 hi).2
     rw [hseg] at this
     exact J5 this
    have hUus:U∈X0 g lf:=by
     unfold cC at p6
     rw [List.all_eq_true] at p6
     have:=p6 U (by rw [←hUd];exact HK _ _)
     rw [Bool.or_eq_true,Bool.not_eq_true'] at this
     rcases this with h|h
     ·exfalso
      have:iK (CO ops) (LC g lf) U=true:=by
       unfold iK
       rw [List.all_eq_true]
       intro j hj
       rw [Bool.or_eq_true]
       by_cases hjU:j∈U
       ·exact .inl (by simpa using hjU)
       ·right
        rw [List.all_eq_true]
        intro u hu
        cases hb1:((CO ops).getD j 0).testBit u with
        | false=>rfl
        | true=>
          have hjl:listed.getD j false=true:=by
           cases h:listed.getD j false with
           | true=>rfl
           | false=>exact absurd ((hUm j).2 ⟨hj,h⟩) hjU
          have:=hcl1 j u hjl (BX hb1)
          rw [((hUm u).1 hu).2] at this
          cases this
      rw [this] at h
      cases h
     ·simpa using h
    obtain ⟨o,K0,ho,hS0,hK0⟩:=hfin U hUus
    rw [List.all_eq_true] at p4
    have p4:=p4 U hUus
    rw [ho] at p1
    simp only [Bool.and_eq_true,Option.isNone_iff_eq_none] at p1
    have hblt:=(Array.getElem?_eq_some_iff.1 ho).1
    have hstate:SE ops ent s g.M (fun j=>listed.getD j false)=Dl ops s.env seg s.heap.length U (SE ops ent s g.M (fun _=>true)):=by
     refine VF hE (fun i=>?_) hent
     rw [hUm]
     constructor
     ·rintro ⟨hi,hl⟩
      obtain ⟨e,he,rfl⟩:=hopts i hi
      obtain ⟨k,hk⟩:=List.mem_iff_getElem?.1 he
      obtain ⟨e',hek,hei,_⟩:=Pg hent hk
      exact ⟨e',List.mem_of_getElem? hek,hei,hl⟩
     ·rintro ⟨e,he,rfl,hl⟩
      exact ⟨hopt _ (Dk hent he) hl,hl⟩
    rw [hstate,←hseg] at hr
    have hlb:listed.getD b false=false:=by
     have:=(mem_ready.1 hbr).1
     rwa [JH (by rw [hsz];exact hblt) true false] at this
    have hl':∀j,listed.getD j false=true↔(Ba d (seg.filter fun e=>!U.contains e.1)).testBit j=true:=fun j=>by
     rw [Aj]
     constructor
     ·intro hj
      rcases hsub j hj with h|⟨e,he,h⟩
      ·exact .inl h
      ·refine .inr ⟨e,List.mem_filter.2 ⟨he,?_⟩,h⟩
       have:¬e.1∈U:=fun hu=>by rw [h] at hu;rw [((hUm j).1 hu).2] at hj;cases hj
       simpa using this
     ·rintro (h|⟨e,he,rfl⟩)
      ·exact hdl j h
      ·obtain ⟨he,hu⟩:=List.mem_filter.1 he
       cases h:listed.getD e.1 false with
       | true=>rfl
       | false=>
         have:e.1∈U:=(hUm _).2 ⟨hopt e he h,h⟩
         simp [this] at hu
    have hUlen:U.length≤seg.countP (fun e=>!listed.getD e.1 false):=by
     rw [List.countP_eq_length_filter]
     have hnU:U.Nodup:=by rw [←hUd];exact (hnod.1.filter _).filter _
     have:=Ph U ((seg.filter fun e=>!listed.getD e.1 false).map Prod.fst) hnU (fun x hx=>by
      obtain ⟨hxo,hxl⟩:=(hUm x).1 hx
      obtain ⟨e,he,rfl⟩:=hopts x hxo
      exact List.mem_map.2 ⟨e,List.mem_filter.2 ⟨he,by rw [hxl];rfl⟩,rfl⟩)
     rwa [List.length_map] at this
    unfold wpOp
    simp only [ho]
    rw [DZ (o:=o) (ops:=ops) (b:=true) hr (by simp [As,p1.2])]
    refine .inl (DT o _ K0 hS0 a w hr _ _ ?_)
    intro v w' x s'' hk0 hx
    obtain ⟨s3,hs3,hr3⟩:=hK0 _ _ hk0 _ _ (DI o.dst hx)
    refine JI hQ r _ U p4 hnod.2 (fun j oj hoj hj x hx hb=>?_) (fun j hj=>?_) s3 hs3 F (listed.setIfInBounds b true) (by omega) (D1 hc hbr) (by rw [Array.size_setIfInBounds,hsz]) (fun j=>?_) _ _ hr3
    ·rcases (Ep _ _ _).1 hj with h|rfl
     ·exact (Ep _ _ _).2 (.inl ((hl' _).1 (hc j oj hoj ((hl' j).2 h) x hx hb)))
     ·rw [ho] at hoj
      cases hoj
      obtain ⟨_,o2,ho2,h2⟩:=mem_ready.1 hbr
      rw [ho] at ho2
      cases ho2
      exact (Ep _ _ _).2 (.inl ((hl' _).1 (h2 x hx hb)))
    ·rcases (Ep _ _ _).1 hj with h|rfl
     ·rcases hsub j ((hl' j).2 h) with h|⟨e,he,rfl⟩
      ·exact hlt j h
      ·exact hS.lt e he
     ·exact hblt
    ·rw [Ep,←hl' j]
     by_cases hij:b=j
     ·subst hij
      simp [Array.getD,hsz,hblt]
     ·rw [getD_set_ne false hij]
      simp [hij]
end
end Go.Proofs.YtkaiffheakalmaaGreatDoor
