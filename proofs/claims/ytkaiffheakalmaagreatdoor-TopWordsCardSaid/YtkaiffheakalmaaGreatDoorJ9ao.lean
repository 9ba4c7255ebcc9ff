/- Joined. No conditions. -/
import Derived.Test.YtkaiffheakalmaaGreatDoorJ9an
set_option linter.unusedSimpArgs false
set_option linter.unusedVariables false
set_option maxRecDepth 100000
namespace Go.Proofs.YtkaiffheakalmaaGreatDoor
open Go.RowKit
section
variable {T:TT} {C:Ctx} {K:ES→Prop} {σ:ES}
theorem AH (h:K σ):UpE C K σ:=⟨BM ⟨σ,rfl,h⟩⟩
theorem B5 {σ':ES} (h:UpE C K σ') (e:σ=σ'):UpE C K σ:=e▸h
def Az (ks:List Nat) (u:List (Nat×V)):List (Nat×V):=ks.map fun k=>(k,AU u k)
theorem MU (u:List (Nat×V)) (t:Nat):∀ks:List Nat,AU (Az ks u) t=if ks.contains t then AU u t else .any
 | []=>by simp [Az,AU]
 | k::ks=>by
   have ih:=MU u t ks
   unfold Az at ih ⊢
   simp only [List.map_cons,AU,ih,List.contains_cons]
   by_cases e:t=k
   ·subst e;simp
   ·have h1:Nat.beq t k=false:=by
     cases hb:Nat.beq t k with
     | false=>rfl
     | true=>exact absurd (D3 hb) e
    have h2:(t==k)=false:=by simpa using e
    simp [h1,h2]
theorem Bm (ks:List Nat) {n:Nat} {u:List (Nat×V)} {h:List (Option Ob)} (hk:UpE C K ⟨n,Az ks u,h⟩):UpE C K ⟨n,u,h⟩:=by
 refine ⟨bR ks ?_⟩
 have:Cf ks 0 (ES.env ⟨n,u,h⟩)=ES.env ⟨n,Az ks u,h⟩:=by
  have key:∀(l:List Nat) (k:Nat),(∀i x,l[i]?=some x→x=k+i)→Cf ks k (l.map (AU u))=l.map (AU (Az ks u)):=by
   intro l
   induction l with
   | nil=>intro k _;rfl
   | cons a l ih=>
     intro k hl
     have ha:a=k:=hl 0 a rfl
     subst ha
     simp only [List.map_cons,Cf,MU]
     rw [ih (a+1) (fun i x hx=>by have:=hl (i+1) x (by simpa using hx);omega)]
  exact key (List.range n) 0 (fun i x hx=>by
   have h1:=List.getElem?_eq_some_iff.1 hx
   obtain ⟨h2,h3⟩:=h1
   simp at h3
   omega)
 show Up C (Ks K) { env:=Cf ks 0 (ES.env ⟨n,u,h⟩),heap:=h}
 rw [this]
 exact hk.out
theorem HO (ks:List Nat) {n:Nat} {u:List (Nat×V)} {h:List (Option Ob)} {σ':ES} (e:(⟨n,Az ks u,h⟩:ES)=σ') (hk:K σ'):UpE C K ⟨n,u,h⟩:=Bm ks (e▸AH hk)
def Fw (id:Nat) (els:List V) (u:List (Nat×V)):List (Nat×V):=u.map fun p=>(p.1,p.2.frz id els)
theorem HP (id:Nat) (els:List V):∀l:List V,Ai id els l=l.map (V.frz id els)
 | []=>by simp [Ai]
 | x::l=>by simp [Ai,HP id els l]
theorem cF (id:Nat) (els:List V):V.any.frz id els= .any:=by simp [V.frz]
theorem Bk (id t:Nat) (els:List V):∀u:List (Nat×V),AU (Fw id els u) t=(AU u t).frz id els
 | []=>by simp [Fw,AU,cF]
 | (d,x)::u=>by
   have:=Bk id t els u
   unfold Fw at this ⊢
   simp only [List.map_cons,AU]
   split
   ·rfl
   ·exact this
theorem cG (n id:Nat) (els:List V) (u:List (Nat×V)) (h h':List (Option Ob)):Ai id els (ES.env ⟨n,u,h⟩)=ES.env ⟨n,Fw id els u,h'⟩:=by
 rw [HP]
 unfold ES.env
 rw [List.map_map]
 exact List.map_congr_left fun t _=>(Bk id t els u).symm
theorem AK (id:Nat) {z:Nat} {els:List V} {n:Nat} {u:List (Nat×V)} {h:List (Option Ob)} (hr:h[id]?=some (some (.row z els))) (hnr:BT els) (hk:UpE C K ⟨n,Fw id els u,(CG id els h).set id none⟩):UpE C K ⟨n,u,h⟩:=by
 refine ⟨eR id (z:=z) (els:=els) (by simp [St.row,ES.st,hr]) hnr ?_⟩
 show Up C (Ks K) { env:=Ai id els (ES.env ⟨n,u,h⟩),heap:=(CG id els h).set id none}
 rw [cG n id els u h ((CG id els h).set id none)]
 exact hk.out
theorem BN (id:Nat) {n:Nat} {u:List (Nat×V)} {h:List (Option Ob)} (hk:UpE C K ⟨n,u.map fun p=>(p.1,p.2.kill id),(BC id h).set id none⟩):UpE C K ⟨n,u,h⟩:=by
 refine ⟨WH id ?_⟩
 show Up C (Ks K) { env:=AF id (ES.env ⟨n,u,h⟩),heap:=(BC id h).set id none}
 rw [ME n id u h ((BC id h).set id none)]
 exact hk.out
theorem cH {n d:Nat} {x:V} {u:List (Nat×V)} {h:List (Option Ob)} (h':List (Option Ob)):(ES.env ⟨n,u,h⟩).set d x=ES.env ⟨n,(d,x)::u,h'⟩:=(MB n d x u h).symm
theorem cI {n s:Nat} {u:List (Nat×V)} {h:List (Option Ob)} (hs:s < n):(ES.env ⟨n,u,h⟩)[s]?=some (AU u s):=by simp [ES.env,hs]
theorem J9 (s z:Nat) {n:Nat} {u:List (Nat×V)} {h:List (Option Ob)} (hs:Nat.blt s n=true) (hv:AU u s= .nils) (hk:UpE C K ⟨n,(s,.sl (AG h) 0 0)::u,Ag h (.row z [])⟩):UpE C K ⟨n,u,h⟩:=by
 refine ⟨YH s z ?_ ?_⟩
 ·show (ES.env ⟨n,u,h⟩)[s]?=some .nils
  rw [cI (Di.1 hs),hv]
 ·show Up C (Ks K) { env:=(ES.env ⟨n,u,h⟩).set s (.sl (AG h) 0 0),heap:=Ag h (.row z [])}
  rw [cH (Ag h (.row z []))]
  exact hk.out
def FG (u:List (Nat×V)):List Nat→(List (Nat×V)→Prop)→Prop
 | [],K=>K []
 | k::ks,K=>ja (AU u k) fun x=>FG u ks fun l=>K ((k,x)::l)
theorem Eb (u:List (Nat×V)):∀(ks:List Nat) (K:List (Nat×V)→Prop),FG u ks K=K (Az ks u)
 | [],K=>rfl
 | k::ks,K=>by simp only [FG,TK,Eb u ks];rfl
mutual
def d2:V→Bool
 | .sl _ _ _=>false
 | .ptr _ _ _=>false
 | .it _=>false
 | .agg l=>Fa l
 | .fn _ l=>Fa l
 | .tup l=>Fa l
 | _=>true
def Fa:List V→Bool
 | []=>true
 | x::l=>d2 x&&Fa l
end
theorem Pk (x:V):d2 x=true→x.nr:=by
 refine V.rec (motive_1:=fun x=>d2 x=true→x.nr) (motive_2:=fun l=>Fa l=true→BT l) ?_ ?_ ?_ ?_ ?_ ?_ ?_ ?_ ?_ ?_ ?_ ?_ ?_ ?_ ?_ ?_ ?_ ?_ ?_ ?_ ?_ x
 all_goals first
  | (intros;trivial)
  | (intro l ih h;exact ih h)
  | (intro f l ih h;exact ih h)
  | (intro x l ih1 ih2 h;simp only [Fa,Bool.and_eq_true] at h;exact ⟨ih1 h.1,ih2 h.2⟩)
  | (intros;simp_all [d2])
theorem Fi:∀l:List V,Fa l=true→BT l
 | [],_=>trivial
 | x::l,h=>by simp only [Fa,Bool.and_eq_true] at h;exact ⟨Pk x h.1,Fi l h.2⟩
def HQ:List (Option Ob)→List (Option Ob)
 | []=>[]
 | some o::r=>some o::HQ r
 | none::r=>match HQ r with
   | []=>[]
   | x::r'=>none::x::r'
theorem Hr:∀(h:List (Option Ob)) (i:Nat) (o:Ob),(HQ h)[i]?=some (some o)↔h[i]?=some (some o)
 | [],i,o=>by simp [HQ]
 | some x::r,0,o=>by simp [HQ]
 | some x::r,i+1,o=>by simpa [HQ] using Hr r i o
 | none::r,0,o=>by
   simp only [HQ]
   split<;>simp
 | none::r,i+1,o=>by
   have ih:=Hr r i o
   simp only [HQ]
   split
   ·rename_i e
    rw [e] at ih
    simp at ih ⊢
    exact ih
   ·rename_i x r' e
    rw [e] at ih
    simpa using ih
theorem MV {n:Nat} {u:List (Nat×V)} {h:List (Option Ob)} (hk:UpE C K ⟨n,u,HQ h⟩):UpE C K ⟨n,u,h⟩:=by
 refine ⟨BS (fun a w hr=>?_) hk.out⟩
 obtain ⟨I,bl,hp⟩:=hr.parts
 refine RP.rel (I:=I) (bl:=bl) ⟨hp.defers,hp.env,⟨fun id o ho=>hp.heap.obj id o ((Hr h id o).1 ho),fun id i hi=>?_,hp.heap.apart,hp.heap.own,hp.heap.imm,hp.heap.kept⟩⟩
 obtain ⟨o,ho⟩:=hp.heap.live id i hi
 exact ⟨o,(Hr h id o).2 ho⟩
def VK:List Nat→List (Nat×V)→List (Nat×V)
 | [],u=>u
 | a::M,u=>VK M (u.map fun p=>(p.1,p.2.kill a))
def VL:List Nat→List (Option Ob)→List (Option Ob)
 | [],h=>h
 | a::M,h=>VL M ((BC a h).set a none)
theorem HR:∀(M:List Nat) {n:Nat} {u:List (Nat×V)} {h:List (Option Ob)},UpE C K ⟨n,VK M u,VL M h⟩→UpE C K ⟨n,u,h⟩
 | [],_,_,_,hk=>hk
 | a::M,_,_,_,hk=>BN a (HR M hk)
def At {β:Type} (S:β→ES) (b:β) (σ:ES):Prop:=σ=S b
def Wf {β:Type} (S:β→ES) (P:β→Prop) (μ:β→Nat) (b:β) (σ:ES):Prop:=∃b',P b'∧μ b' < μ b∧σ=S b'
theorem iL {β:Type} (S:β→ES) (P:β→Prop) (μ:β→Nat) (b0:β) {c:Code} {Q:Exit→ES→Prop} (hE:EOk T C) (hc:Bl c=true) (h0:UpE C (At S b0) σ) (hp:P b0)
 (round:∀b,P b→Ea T C c (fun e σ'=>match e with
   | .normal=>UpE C (Wf S P μ b) σ'
   | e=>Q e σ') (S b)):LoopE T C c Q σ:=by
 refine ⟨?_⟩
 intro a w hr
 obtain ⟨s1,⟨σ1,e1,h1⟩,hr1⟩:=h0.out a w hr
 subst e1
 subst h1
 refine Qo (fun n a w=>∃b,P b∧μ b=n∧Rel C (S b).st a w) (μ b0) ⟨b0,hp,rfl,hr1⟩ ?_
 rintro n a w ⟨b,hb,rfl,hr2⟩
 refine wp_mono (HM hE c hc _ _ (round b hb) a w hr2) ?_
 rintro e a' w' ⟨s',⟨σ',rfl,h1⟩,h2⟩
 cases e with
 | normal=>
   obtain ⟨s3,⟨σ3,rfl,b',h3,h4,rfl⟩,h5⟩:=h1.out a' w' h2
   exact ⟨_,h4,b',h3,rfl,h5⟩
 | exit id=>exact ⟨_,Aq h1,h2⟩
 | goto l=>exact ⟨_,Aq h1,h2⟩
 | ret=>exact ⟨_,Aq h1,h2⟩
 | panic ch=>exact ⟨_,Aq h1,h2⟩
 | outgrown=>exact ⟨_,Aq h1,h2⟩
theorem AP {β:Type} {S:β→ES} {b:β} (ks:List Nat) {n:Nat} {u:List (Nat×V)} {h:List (Option Ob)} (e:FG u ks fun u'=>fH h fun h'=>(⟨n,u',h'⟩:ES)=S b):UpE C (At S b) ⟨n,u,h⟩:=by
 rw [Eb,A7] at e
 exact HO ks e rfl
theorem AD {β:Type} {S:β→ES} {P:β→Prop} {μ:β→Nat} {b:β} (ks:List Nat) (b':β) {n:Nat} {u:List (Nat×V)} {h:List (Option Ob)} (hp:P b') (hm:μ b' < μ b) (e:FG u ks fun u'=>fH h fun h'=>(⟨n,u',h'⟩:ES)=S b'):UpE C (Wf S P μ b) ⟨n,u,h⟩:=by
 rw [Eb,A7] at e
 exact HO ks e ⟨b',hp,hm,rfl⟩
theorem AM {β:Type} {S:β→ES} {P:β→Prop} {μ:β→Nat} {b:β} (ks:List Nat) (M:List Nat) (b':β) {n:Nat} {u:List (Nat×V)} {h:List (Option Ob)} (hp:P b') (hm:μ b' < μ b) (e:FG (VK M u) ks fun u'=>fH (HQ (VL M h)) fun h'=>(⟨n,u',h'⟩:ES)=S b'):UpE C (Wf S P μ b) ⟨n,u,h⟩:=by
 rw [Eb,A7] at e
 exact HR M (Bm ks (MV (e▸AH ⟨b',hp,hm,rfl⟩)))
theorem EQ {β:Type} {S:β→ES} {b:β} (ks:List Nat) (M:List Nat) {n:Nat} {u:List (Nat×V)} {h:List (Option Ob)} (e:FG (VK M u) ks fun u'=>fH (HQ (VL M h)) fun h'=>(⟨n,u',h'⟩:ES)=S b):UpE C (At S b) ⟨n,u,h⟩:=by
 rw [Eb,A7] at e
 exact HR M (Bm ks (MV (e▸AH rfl)))
def BO (σ:ES) (fop:Operand) (args:List Operand):Option (FuncId×List V):=match σ.val fop with|.fn f caps=>some (f,args.map σ.val++caps)|_=>none
theorem CI {fop:Operand} {args:List Operand} {f:FuncId} {xs:List V} (h:BO σ fop args=some (f,xs)):∃caps,σ.st.val fop= .fn f caps∧args.map σ.st.val++caps=xs:=by
 unfold BO at h
 split at h
 ·rename_i f' caps hf
  simp only [Option.some.injEq,Prod.mk.injEq] at h
  obtain ⟨rfl,rfl⟩:=h
  exact ⟨caps,by rw [Ao,hf],by rw [U7]⟩
 ·cases h
theorem MW:∀a b:List V,Fa (a++b)=(Fa a&&Fa b)
 | [],b=>by simp [Fa]
 | x::a,b=>by simp only [List.cons_append,Fa,MW a b,Bool.and_assoc]
theorem GG {a b:List V} (ha:Fa a=true) (hb:Fa b=true):Fa (a++b)=true:=by rw [MW,ha,hb];rfl
theorem KA {x:V} {f:FuncId} {c:List V} (hx:d2 x=true) (hc:Fa c=true):Fa ([x,.fn f c]++[])=true:=by simp [Fa,d2,hx,hc]
theorem VM {P:Program} {fop:Operand} {args:List Operand} {f:FuncId} {xs:List V} {R:V→Prop} {K:V→ES→Prop} (h:Fn1 P f xs R) (hC:C.P=P) (hb:AB P f=true) (he:BO σ fop args=some (f,xs)) (hn:Fa xs=true) (hk:∀r,R r→K r σ):CallN C fop args f xs K σ:=by
 subst hC
 obtain ⟨caps,h1,h2⟩:=CI he
 refine ⟨BM ?_⟩
 unfold Dz
 rw [h1]
 simp only
 rw [h2]
 exact ⟨hb,WJ h (Fi _ hn) fun r hr=>DH (hk r hr)⟩
theorem CX {P:Program} {fop:Operand} {args:List Operand} {f:FuncId} {xs:List V} {r:V} {K:V→ES→Prop} (h:Fn1 P f xs (fun r'=>r'=r)) (hC:C.P=P) (hb:AB P f=true) (he:BO σ fop args=some (f,xs)) (hn:Fa xs=true) (hk:K r σ):CallN C fop args f xs K σ:=
 VM h hC hb he hn fun r' e=>e▸hk
theorem cJ {P:Program} {fop:Operand} {args:List Operand} {f:FuncId} {xs xs':List V} {r:V} {K:V→ES→Prop} (h:Fn1 P f xs' (fun r'=>r'=r)) (hC:C.P=P) (hb:AB P f=true) (e:xs=xs') (he:BO σ fop args=some (f,xs)) (hn:Fa xs=true) (hk:K r σ):CallN C fop args f xs K σ:=
 CX (e▸h) hC hb he hn hk
theorem Yy {P:Program} {fop:Operand} {args:List Operand} {f:FuncId} {xs:List V} {r:V} {K:V→ES→Prop} (h:Fn1 P f xs (fun r'=>r'=r)) (hC:C.P=P) (hb:AB P f=true) (he:BO σ fop args=some (f,xs)) (hn:Fa xs=true) (hk:K r σ):CallNQ C fop args f xs K σ:=by
 subst hC
 obtain ⟨caps,h1,h2⟩:=CI he
 refine ⟨?_⟩
 unfold Gw
 rw [h1]
 simp only
 rw [h2]
 exact ⟨hb,.inl ⟨Fi _ hn,r,h.c,DH hk⟩⟩
theorem RT {P:Program} {fop:Operand} {args:List Operand} {f:FuncId} {xs xs':List V} {r:V} {K:V→ES→Prop} (h:Xy C f xs' (fun r'=>r'=r)) (hC:C.P=P) (hb:AB P f=true) (e:xs=xs') (he:BO σ fop args=some (f,xs)) (hn:Fa xs=true) (hk:K r σ):CallN C fop args f xs K σ:=by
 subst hC
 subst e
 obtain ⟨caps,h1,h2⟩:=CI he
 refine ⟨BM ?_⟩
 unfold Dz
 rw [h1]
 simp only
 rw [h2]
 exact ⟨hb,F6 h (Fi _ hn) fun r' e=>e▸DH hk⟩
theorem Wg {P:Program} {fop:Operand} {args:List Operand} {f:FuncId} {xs xs':List V} {r:V} {K:V→ES→Prop} (h:Xy C f xs' (fun r'=>r'=r)) (hC:C.P=P) (hb:AB P f=true) (e:xs=xs') (he:BO σ fop args=some (f,xs)) (hn:Fa xs=true) (hk:K r σ):CallNQ C fop args f xs K σ:=by
 subst e
 subst hC
 obtain ⟨caps,h1,h2⟩:=CI he
 refine ⟨?_⟩
 unfold Gw
 rw [h1]
 simp only
 rw [h2]
 exact ⟨hb,.inl ⟨Fi _ hn,r,h,DH hk⟩⟩
theorem By {K:ES→Prop} (h:K σ):SegUp C K σ:=⟨AH h⟩
theorem JM {A B:Prop} (a:A) (b:B):Both A B:=⟨a,b⟩
theorem AY {fop:Operand} {args:List Operand} {f:FuncId} {xs:List V} {K:V→ES→Prop} (h:UpE C (fun σ'=>U3 C false fop args K σ') σ):CallN C fop args f xs K σ:=by
 refine ⟨?_⟩
 intro a w hr
 obtain ⟨s,⟨σ',rfl,h1⟩,hr'⟩:=h.out a w hr
 exact (RH h1).1 rfl a w hr'
structure RetN (T:TT) (C:Ctx) (fn:Func) (R:V→Prop) (σ:ES):Prop where
 out:eS C fn R .ret σ.st
def cK (T:TT) (C:Ctx) (fn:Func) (R:V→Prop) (e:Exit) (σ:ES):Prop:=
 match e with
 | .normal=>RetN T C fn R σ
 | .ret=>RetN T C fn R σ
 | _=>False
def HS (T:TT) (σ:ES):List ResultVar→(List V→Prop)→Prop
 | [],K=>K []
 | .tmp t::l,K=>fV (σ.get t) fun x=>HS T σ l fun r=>K (x::r)
 | .cell a t::l,K=>RC T σ t (σ.get a) fun x=>fV x fun x=>HS T σ l fun r=>K (x::r)
theorem DV (hT:T.All C.P):∀(l:List ResultVar) (k:List V→Prop),HS T σ l k→(∀r∈l,CM C.P σ.st r)∧k (l.map (I6 C.P σ.st))
 | [],k,h=>⟨fun r hr=>by simp at hr,h⟩
 | .tmp t::l,k,h=>by
   simp only [HS,GA] at h
   obtain ⟨h1,h2⟩:=DV hT l _ h
   refine ⟨fun r hr=>?_,?_⟩
   ·rcases List.mem_cons.1 hr with rfl|hr
    ·trivial
    ·exact h1 r hr
   ·simp only [List.map_cons,I6]
    rw [show σ.st.env.getD t .any=σ.get t from GW σ t]
    exact h2
 | .cell a t::l,k,h=>by
   simp only [HS,GA] at h
   have key:CM C.P σ.st (.cell a t)∧HS T σ l fun r=>k (I6 C.P σ.st (.cell a t)::r):=by
    simp only [CM,I6]
    unfold RC at h
    simp only [show σ.st.env.getD a .any=σ.get a from GW σ a]
    split at h
    ·rename_i b n ht
     have h:=Am h
     have hti:=A9 (TT.ok hT t).ti ht
     have hbn:=jc h.1
     have h2:=h.2
     rw [hti]
     simp only
     split at h2
     ·rename_i l' hv
      have h2:=Am h2
      have hn:n≤l'.length:=by simpa using h2.1
      simp only [hv]
      rw [if_pos ⟨hbn,hn⟩]
      exact ⟨⟨hbn,hn⟩,h2.2⟩
     ·rename_i id i j hv
      obtain ⟨z',els,hr,h2⟩:=D2 h2
      obtain ⟨x,g1,g2⟩:=BW h2
      have g2:=Am g2
      have hn:j+n≤x.cells.length:=by simpa using g2.1
      simp only [hv,hr,g1]
      rw [if_pos ⟨hbn,hn⟩]
      exact ⟨⟨hbn,hn⟩,g2.2⟩
     ·exact h2.elim
    ·exact h.elim
   obtain ⟨h0,h⟩:=key
   obtain ⟨h1,h2⟩:=DV hT l _ h
   refine ⟨fun r hr=>?_,h2⟩
   rcases List.mem_cons.1 hr with rfl|hr
   ·exact h0
   ·exact h1 r hr
def RU (l:List V) (K:V→Prop):Prop:=match l with
 | []=>K (.tup [])
 | x::r=>match r with
   | []=>K x
   | y::r=>K (.tup (x::y::r))
theorem AC {fn:Func} {R:V→Prop} (hE:EOk T C) (h:HS T σ fn.results.toList fun l=>RU l fun r=>d2 r=true∧R r):RetN T C fn R σ:=by
 refine ⟨?_⟩
 rw [Lv]
 obtain ⟨h1,h2⟩:=DV hE.all _ _ h
 refine BM ⟨h1,?_⟩
 unfold IQ
 generalize fn.results.toList=l at h2
 match l,h2 with
 | [],h2=>exact ⟨Pk _ h2.1,h2.2⟩
 | [r],h2=>exact ⟨Pk _ h2.1,h2.2⟩
 | r::r'::l,h2=>exact ⟨Pk _ h2.1,h2.2⟩
theorem DD {fn:Func} {R:V→Prop} (h:UpE C (RetN T C fn R) σ):RetN T C fn R σ:=by
 refine ⟨?_⟩
 rw [Lv]
 intro a w hr
 obtain ⟨s,⟨σ',rfl,h1⟩,hr'⟩:=h.out a w hr
 have:=h1.out
 rw [Lv] at this
 exact this a w hr'
def HT:Nat→List V→List (Nat×V)
 | _,[]=>[]
 | k,x::l=>(k,x)::HT (k+1) l
theorem Oa (l:List V):∀(k t:Nat),AU (HT k l) (k+t)=l.getD t .any:=by
 induction l with
 | nil=>intro k t;simp [HT,AU]
 | cons x l ih=>
   intro k t
   simp only [HT,AU]
   cases t with
   | zero=>simp
   | succ t=>
     have h1:Nat.beq (k+(t+1)) k=false:=by
      cases hb:Nat.beq (k+(t+1)) k with
      | false=>rfl
      | true=>have:=D3 hb;omega
     rw [h1]
     have:=ih (k+1) t
     rw [show k+(t+1)=k+1+t by omega]
     simpa using this
theorem d4 {P:Program} {G:World→Prop} {f:FuncId} {fn:Func} {c:Code} {args:List V} {R:V→Prop} (hf:P.funcs[f]?=some fn) (hb:fn.body=some c) (hall:T.All P) (hany:P.follows .mixedOrders=true) (hc:Bl c=true) (hn:args.length≤fn.ntmps)
 (h:∀C:Ctx,C.P=P→C.E=(fun _=>False)→G C.W0→EOk T C→Ea T C c (cK T C fn R) ⟨fn.ntmps,HT 0 args,[]⟩):Fn1G P G f args R:=by
 refine Qw hf hb fun C hC hW hG=>?_
 have hE:EOk T C:=⟨hC▸hall,hC▸hany⟩
 have h1:=HM hE c hc _ _ (h C hC hW hG hE)
 have he:(⟨fn.ntmps,HT 0 args,[]⟩:ES).st={ env:=args++List.replicate (fn.ntmps - args.length) .any,heap:=[]}:=by
  unfold ES.st ES.env
  congr 1
  apply List.ext_getElem?
  intro i
  rw [List.getElem?_map]
  by_cases hi:i < fn.ntmps
  ·rw [List.getElem?_range hi]
   simp only [Option.map_some]
   have:=Oa args 0 i
   rw [Nat.zero_add] at this
   rw [this]
   by_cases h2:i < args.length
   ·rw [List.getElem?_append_left h2];simp [List.getD,h2]
   ·rw [List.getElem?_append_right (Nat.le_of_not_lt h2),List.getElem?_replicate]
    rw [if_pos (by omega)]
    simp [List.getD,List.getElem?_eq_none (Nat.le_of_not_lt h2)]
  ·rw [List.getElem?_eq_none (by simp;omega)]
   rw [List.getElem?_eq_none (by simp;omega)]
   rfl
 rw [←he]
 refine Ix h1 ?_
 rintro e s ⟨σ,rfl,h⟩
 cases e with
 | normal=>exact h.out
 | ret=>exact h.out
 | exit id=>exact h.elim
 | goto l=>exact h.elim
 | panic ch=>exact h.elim
 | outgrown=>exact h.elim
theorem jt {P:Program} {f:FuncId} {fn:Func} {c:Code} {args:List V} {R:V→Prop} (hf:P.funcs[f]?=some fn) (hb:fn.body=some c) (hall:T.All P) (hany:P.follows .mixedOrders=true) (hc:Bl c=true) (hn:args.length≤fn.ntmps)
 (h:∀C:Ctx,C.P=P→EOk T C→Ea T C c (cK T C fn R) ⟨fn.ntmps,HT 0 args,[]⟩):Fn1 P f args R:=
 fun w I vs=>d4 (G:=fun _=>True) hf hb hall hany hc hn (fun C hC _ _ hE=>h C hC hE) w I vs trivial
end
theorem cL {α:Type} {f:α→V} {l:List α} {i:Nat} {x:α} {A:V→Prop} (h:l[i]?=some x) (k:A (f x)):Nq ((l.map f)[i]?) A:=HG (by rw [List.getElem?_map,h];rfl) k
end Go.Proofs.YtkaiffheakalmaaGreatDoor
