/- Copied, stripped. No conditions. -/
import Derived.Test.YtkaiffheakalmaaGreatDoorU9Awt
set_option linter.unusedSimpArgs false
set_option linter.unusedVariables false
set_option maxRecDepth 100000
namespace Go.Proofs.YtkaiffheakalmaaGreatDoor
open Go.RowKit
section
variable {T:TT} {C:Ctx} {K:ES→Prop} {σ:ES}
theorem AP (h:K σ):UpE C K σ:=⟨Bg ⟨σ,rfl,h⟩⟩
theorem CL {σ':ES} (h:UpE C K σ') (e:σ=σ'):UpE C K σ:=e▸h
def A1 (ks:List Nat) (u:List (Nat×V)):List (Nat×V):=ks.map fun k=>(k,Al u k)
theorem LT (u:List (Nat×V)) (t:Nat):∀ks:List Nat,Al (A1 ks u) t=if ks.contains t then Al u t else .any
  | []=>by simp [A1,Al]
  | k::ks=>by
    have ih:=LT u t ks
    unfold A1 at ih ⊢
    simp only [List.map_cons,Al,ih,List.contains_cons]
    by_cases e:t=k
    . subst e;simp
    . have h1:Nat.beq t k=false:=by
        cases hb:Nat.beq t k with
        | false=>rfl
        | true=>exact absurd (Dz hb) e
      have h2:(t==k)=false:=by simpa using e
      simp [h1,h2]
theorem B8 (ks:List Nat) {n:Nat} {u:List (Nat×V)} {h:List (Option Ob)} (hk:UpE C K ⟨n,A1 ks u,h⟩):UpE C K ⟨n,u,h⟩:=by
  refine ⟨Yg ks ?_⟩
  have:CK ks 0 (ES.env ⟨n,u,h⟩)=ES.env ⟨n,A1 ks u,h⟩:=by
    have key:∀(l:List Nat) (k:Nat),(∀i x,l[i]?=some x→x=k+i)→CK ks k (l.map (Al u))=l.map (Al (A1 ks u)):=by
      intro l
      induction l with
      | nil=>intro k _;rfl
      | cons a l ih=>
        intro k hl
        have ha:a=k:=hl 0 a rfl
        subst ha
        simp only [List.map_cons,CK,LT]
        rw [ih (a+1) (fun i x hx=>by have:=hl (i+1) x (by simpa using hx);omega)]
    exact key (List.range n) 0 (fun i x hx=>by
      have h1:=List.getElem?_eq_some_iff.1 hx
      obtain ⟨h2,h3⟩:=h1
      simp at h3
      omega)
  show Up C (Ks K) { env:=CK ks 0 (ES.env ⟨n,u,h⟩),heap:=h}
  rw [this]
  exact hk.out
theorem Gh (ks:List Nat) {n:Nat} {u:List (Nat×V)} {h:List (Option Ob)} {σ':ES} (e:(⟨n,A1 ks u,h⟩:ES)=σ') (hk:K σ'):UpE C K ⟨n,u,h⟩:=B8 ks (e▸AP hk)
def FQ (id:Nat) (els:List V) (u:List (Nat×V)):List (Nat×V):=u.map fun p=>(p.1,p.2.frz id els)
theorem Gi (id:Nat) (els:List V):∀l:List V,An id els l=l.map (V.frz id els)
  | []=>by simp [An]
  | x::l=>by simp [An,Gi id els l]
theorem ZF (id:Nat) (els:List V):V.any.frz id els= .any:=by simp [V.frz]
theorem Bb (id t:Nat) (els:List V):∀u:List (Nat×V),Al (FQ id els u) t=(Al u t).frz id els
  | []=>by simp [FQ,Al,ZF]
  | (d,x)::u=>by
    have:=Bb id t els u
    unfold FQ at this ⊢
    simp only [List.map_cons,Al]
    split
    . rfl
    . exact this
theorem ZG (n id:Nat) (els:List V) (u:List (Nat×V)) (h h':List (Option Ob)):An id els (ES.env ⟨n,u,h⟩)=ES.env ⟨n,FQ id els u,h'⟩:=by
  rw [Gi]
  unfold ES.env
  rw [List.map_map]
  exact List.map_congr_left fun t _=>(Bb id t els u).symm
theorem AO (id:Nat) {z:Nat} {els:List V} {n:Nat} {u:List (Nat×V)} {h:List (Option Ob)} (hr:h[id]?=some (some (.row z els))) (hnr:BN els) (hk:UpE C K ⟨n,FQ id els u,(B1 id els h).set id none⟩):UpE C K ⟨n,u,h⟩:=by
  refine ⟨cx id (z:=z) (els:=els) (by simp [St.row,ES.st,hr]) hnr ?_⟩
  show Up C (Ks K) { env:=An id els (ES.env ⟨n,u,h⟩),heap:=(B1 id els h).set id none}
  rw [ZG n id els u h ((B1 id els h).set id none)]
  exact hk.out
theorem Bc (id:Nat) {n:Nat} {u:List (Nat×V)} {h:List (Option Ob)} (hk:UpE C K ⟨n,u.map fun p=>(p.1,p.2.kill id),(Ba id h).set id none⟩):UpE C K ⟨n,u,h⟩:=by
  refine ⟨UF id ?_⟩
  show Up C (Ks K) { env:=AK id (ES.env ⟨n,u,h⟩),heap:=(Ba id h).set id none}
  rw [K8 n id u h ((Ba id h).set id none)]
  exact hk.out
theorem ZH {n d:Nat} {x:V} {u:List (Nat×V)} {h:List (Option Ob)} (h':List (Option Ob)):(ES.env ⟨n,u,h⟩).set d x=ES.env ⟨n,(d,x)::u,h'⟩:=(K4 n d x u h).symm
theorem ZJ {n s:Nat} {u:List (Nat×V)} {h:List (Option Ob)} (hs:s < n):(ES.env ⟨n,u,h⟩)[s]?=some (Al u s):=by simp [ES.env,hs]
theorem JC (s z:Nat) {n:Nat} {u:List (Nat×V)} {h:List (Option Ob)} (hs:Nat.blt s n=true) (hv:Al u s= .nils) (hk:UpE C K ⟨n,(s,.sl (AG h) 0 0)::u,Aj h (.row z [])⟩):UpE C K ⟨n,u,h⟩:=by
  refine ⟨V2 s z ?_ ?_⟩
  . show (ES.env ⟨n,u,h⟩)[s]?=some .nils
    rw [ZJ (Dq.1 hs),hv]
  . show Up C (Ks K) { env:=(ES.env ⟨n,u,h⟩).set s (.sl (AG h) 0 0),heap:=Aj h (.row z [])}
    rw [ZH (Aj h (.row z []))]
    exact hk.out
def Ej (u:List (Nat×V)):List Nat→(List (Nat×V)→Prop)→Prop
  | [],K=>K []
  | k::ks,K=>jM (Al u k) fun x=>Ej u ks fun l=>K ((k,x)::l)
theorem D1 (u:List (Nat×V)):∀(ks:List Nat) (K:List (Nat×V)→Prop),Ej u ks K=K (A1 ks u)
  | [],K=>rfl
  | k::ks,K=>by simp only [Ej,WL,D1 u ks];rfl
mutual
def cV:V→Bool
  | .sl _ _ _=>false
  | .ptr _ _ _=>false
  | .it _=>false
  | .agg l=>Fw l
  | .fn _ l=>Fw l
  | .tup l=>Fw l
  | _=>true
def Fw:List V→Bool
  | []=>true
  | x::l=>cV x&&Fw l
end
theorem OG (x:V):cV x=true→x.nr:=by
  refine V.rec (motive_1:=fun x=>cV x=true→x.nr) (motive_2:=fun l=>Fw l=true→BN l) ?_ ?_ ?_ ?_ ?_ ?_ ?_ ?_ ?_ ?_ ?_ ?_ ?_ ?_ ?_ ?_ ?_ ?_ ?_ ?_ ?_ x
  all_goals first
    | (intros;trivial)
    | (intro l ih h;exact ih h)
    | (intro f l ih h;exact ih h)
    | (intro x l ih1 ih2 h;simp only [Fw,Bool.and_eq_true] at h;exact ⟨ih1 h.1,ih2 h.2⟩)
    | (intros;simp_all [cV])
theorem FB:∀l:List V,Fw l=true→BN l
  | [],_=>trivial
  | x::l,h=>by simp only [Fw,Bool.and_eq_true] at h;exact ⟨OG x h.1,FB l h.2⟩
def Gj:List (Option Ob)→List (Option Ob)
  | []=>[]
  | some o::r=>some o::Gj r
  | none::r=>match Gj r with
    | []=>[]
    | x::r'=>none::x::r'
theorem G4:∀(h:List (Option Ob)) (i:Nat) (o:Ob),(Gj h)[i]?=some (some o)↔h[i]?=some (some o)
  | [],i,o=>by simp [Gj]
  | some x::r,0,o=>by simp [Gj]
  | some x::r,i+1,o=>by simpa [Gj] using G4 r i o
  | none::r,0,o=>by
    simp only [Gj]
    split<;>simp
  | none::r,i+1,o=>by
    have ih:=G4 r i o
    simp only [Gj]
    split
    . rename_i e
      rw [e] at ih
      simp at ih ⊢
      exact ih
    . rename_i x r' e
      rw [e] at ih
      simpa using ih
theorem LU {n:Nat} {u:List (Nat×V)} {h:List (Option Ob)} (hk:UpE C K ⟨n,u,Gj h⟩):UpE C K ⟨n,u,h⟩:=by
  refine ⟨BQ (fun a w hr=>?_) hk.out⟩
  obtain ⟨I,bl,hp⟩:=hr.parts
  refine RP.rel (I:=I) (bl:=bl) ⟨hp.defers,hp.env,⟨fun id o ho=>hp.heap.obj id o ((G4 h id o).1 ho),fun id i hi=>?_,hp.heap.apart,hp.heap.own,hp.heap.imm,hp.heap.kept⟩⟩
  obtain ⟨o,ho⟩:=hp.heap.live id i hi
  exact ⟨o,(G4 h id o).2 ho⟩
def TQ:List Nat→List (Nat×V)→List (Nat×V)
  | [],u=>u
  | a::M,u=>TQ M (u.map fun p=>(p.1,p.2.kill a))
def TR:List Nat→List (Option Ob)→List (Option Ob)
  | [],h=>h
  | a::M,h=>TR M ((Ba a h).set a none)
theorem Gk:∀(M:List Nat) {n:Nat} {u:List (Nat×V)} {h:List (Option Ob)},UpE C K ⟨n,TQ M u,TR M h⟩→UpE C K ⟨n,u,h⟩
  | [],_,_,_,hk=>hk
  | a::M,_,_,_,hk=>Bc a (Gk M hk)
def At {β:Type} (S:β→ES) (b:β) (σ:ES):Prop:=σ=S b
def dQ {β:Type} (S:β→ES) (P:β→Prop) (μ:β→Nat) (b:β) (σ:ES):Prop:=∃b',P b'∧μ b' < μ b∧σ=S b'
theorem Ae {β:Type} (S:β→ES) (P:β→Prop) (μ:β→Nat) (b0:β) {c:Code} {Q:Exit→ES→Prop} (hE:EOk T C) (hc:C8 c=true) (h0:UpE C (At S b0) σ) (hp:P b0)
    (round:∀b,P b→GH T C c (fun e σ'=>match e with
      | .normal=>UpE C (dQ S P μ b) σ'
      | e=>Q e σ') (S b)):LoopE T C c Q σ:=by
  refine ⟨?_⟩
  intro a w hr
  obtain ⟨s1,⟨σ1,e1,h1⟩,hr1⟩:=h0.out a w hr
  subst e1
  subst h1
  refine O9 (fun n a w=>∃b,P b∧μ b=n∧Rel C (S b).st a w) (μ b0) ⟨b0,hp,rfl,hr1⟩ ?_
  rintro n a w ⟨b,hb,rfl,hr2⟩
  refine wp_mono (IN hE c hc _ _ (round b hb) a w hr2) ?_
  rintro e a' w' ⟨s',⟨σ',rfl,h1⟩,h2⟩
  cases e with
  | normal=>
    obtain ⟨s3,⟨σ3,rfl,b',h3,h4,rfl⟩,h5⟩:=h1.out a' w' h2
    exact ⟨_,h4,b',h3,rfl,h5⟩
  | exit id=>exact ⟨_,Ar h1,h2⟩
  | goto l=>exact ⟨_,Ar h1,h2⟩
  | ret=>exact ⟨_,Ar h1,h2⟩
  | panic ch=>exact ⟨_,Ar h1,h2⟩
  | outgrown=>exact ⟨_,Ar h1,h2⟩
theorem AU {β:Type} {S:β→ES} {b:β} (ks:List Nat) {n:Nat} {u:List (Nat×V)} {h:List (Option Ob)} (e:Ej u ks fun u'=>fH h fun h'=>(⟨n,u',h'⟩:ES)=S b):UpE C (At S b) ⟨n,u,h⟩:=by
  rw [D1,BB] at e
  exact Gh ks e rfl
theorem AJ {β:Type} {S:β→ES} {P:β→Prop} {μ:β→Nat} {b:β} (ks:List Nat) (b':β) {n:Nat} {u:List (Nat×V)} {h:List (Option Ob)} (hp:P b') (hm:μ b' < μ b) (e:Ej u ks fun u'=>fH h fun h'=>(⟨n,u',h'⟩:ES)=S b'):UpE C (dQ S P μ b) ⟨n,u,h⟩:=by
  rw [D1,BB] at e
  exact Gh ks e ⟨b',hp,hm,rfl⟩
theorem AL {β:Type} {S:β→ES} {P:β→Prop} {μ:β→Nat} {b:β} (ks:List Nat) (M:List Nat) (b':β) {n:Nat} {u:List (Nat×V)} {h:List (Option Ob)} (hp:P b') (hm:μ b' < μ b) (e:Ej (TQ M u) ks fun u'=>fH (Gj (TR M h)) fun h'=>(⟨n,u',h'⟩:ES)=S b'):UpE C (dQ S P μ b) ⟨n,u,h⟩:=by
  rw [D1,BB] at e
  exact Gk M (B8 ks (LU (e▸AP ⟨b',hp,hm,rfl⟩)))
theorem DP {β:Type} {S:β→ES} {b:β} (ks:List Nat) (M:List Nat) {n:Nat} {u:List (Nat×V)} {h:List (Option Ob)} (e:Ej (TQ M u) ks fun u'=>fH (Gj (TR M h)) fun h'=>(⟨n,u',h'⟩:ES)=S b):UpE C (At S b) ⟨n,u,h⟩:=by
  rw [D1,BB] at e
  exact Gk M (B8 ks (LU (e▸AP rfl)))
def B3 (σ:ES) (fop:Operand) (args:List Operand):Option (FuncId×List V):=match σ.val fop with|.fn f caps=>some (f,args.map σ.val++caps)|_=>none
theorem CE {fop:Operand} {args:List Operand} {f:FuncId} {xs:List V} (h:B3 σ fop args=some (f,xs)):∃caps,σ.st.val fop= .fn f caps∧args.map σ.st.val++caps=xs:=by
  unfold B3 at h
  split at h
  . rename_i f' caps hf
    simp only [Option.some.injEq,Prod.mk.injEq] at h
    obtain ⟨rfl,rfl⟩:=h
    exact ⟨caps,by rw [Av,hf],by rw [TC]⟩
  . cases h
theorem LV:∀a b:List V,Fw (a++b)=(Fw a&&Fw b)
  | [],b=>by simp [Fw]
  | x::a,b=>by simp only [List.cons_append,Fw,LV a b,Bool.and_assoc]
theorem Gl {a b:List V} (ha:Fw a=true) (hb:Fw b=true):Fw (a++b)=true:=by rw [LV,ha,hb];rfl
theorem LW {x:V} {f:FuncId} {c:List V} (hx:cV x=true) (hc:Fw c=true):Fw ([x,.fn f c]++[])=true:=by simp [Fw,cV,hx,hc]
theorem OH {P:Program} {fop:Operand} {args:List Operand} {f:FuncId} {xs:List V} {R:V→Prop} {K:V→ES→Prop} (h:Fn1 P f xs R) (hC:C.P=P) (hb:AD P f=true) (he:B3 σ fop args=some (f,xs)) (hn:Fw xs=true) (hk:∀r,R r→K r σ):CallN C fop args f xs K σ:=by
  subst hC
  obtain ⟨caps,h1,h2⟩:=CE he
  refine ⟨Bg ?_⟩
  unfold EA
  rw [h1]
  simp only
  rw [h2]
  exact ⟨hb,UH h (FB _ hn) fun r hr=>Cv (hk r hr)⟩
theorem AC {P:Program} {fop:Operand} {args:List Operand} {f:FuncId} {xs:List V} {r:V} {K:V→ES→Prop} (h:Fn1 P f xs (fun r'=>r'=r)) (hC:C.P=P) (hb:AD P f=true) (he:B3 σ fop args=some (f,xs)) (hn:Fw xs=true) (hk:K r σ):CallN C fop args f xs K σ:=
  OH h hC hb he hn fun r' e=>e▸hk
theorem IQ {P:Program} {fop:Operand} {args:List Operand} {f:FuncId} {xs:List V} {r:V} {K:V→ES→Prop} (h:Fn1 P f xs (fun r'=>r'=r)) (hC:C.P=P) (hb:AD P f=true) (he:B3 σ fop args=some (f,xs)) (hn:Fw xs=true) (hk:K r σ):CallNQ C fop args f xs K σ:=by
  subst hC
  obtain ⟨caps,h1,h2⟩:=CE he
  refine ⟨?_⟩
  unfold GF
  rw [h1]
  simp only
  rw [h2]
  exact ⟨hb,.inl ⟨FB _ hn,r,h.c,Cv hk⟩⟩
theorem Cx {P:Program} {fop:Operand} {args:List Operand} {f:FuncId} {xs xs':List V} {r:V} {K:V→ES→Prop} (h:YT C f xs' (fun r'=>r'=r)) (hC:C.P=P) (hb:AD P f=true) (e:xs=xs') (he:B3 σ fop args=some (f,xs)) (hn:Fw xs=true) (hk:K r σ):CallN C fop args f xs K σ:=by
  subst hC
  subst e
  obtain ⟨caps,h1,h2⟩:=CE he
  refine ⟨Bg ?_⟩
  unfold EA
  rw [h1]
  simp only
  rw [h2]
  exact ⟨hb,Fa h (FB _ hn) fun r' e=>e▸Cv hk⟩
theorem NO {P:Program} {fop:Operand} {args:List Operand} {f:FuncId} {xs xs':List V} {r:V} {K:V→ES→Prop} (h:YT C f xs' (fun r'=>r'=r)) (hC:C.P=P) (hb:AD P f=true) (e:xs=xs') (he:B3 σ fop args=some (f,xs)) (hn:Fw xs=true) (hk:K r σ):CallNQ C fop args f xs K σ:=by
  subst e
  subst hC
  obtain ⟨caps,h1,h2⟩:=CE he
  refine ⟨?_⟩
  unfold GF
  rw [h1]
  simp only
  rw [h2]
  exact ⟨hb,.inl ⟨FB _ hn,r,h,Cv hk⟩⟩
theorem Cy {K:ES→Prop} (h:K σ):SegUp C K σ:=⟨AP h⟩
theorem JD {A B:Prop} (a:A) (b:B):Both A B:=⟨a,b⟩
theorem Ak {fop:Operand} {args:List Operand} {f:FuncId} {xs:List V} {K:V→ES→Prop} (h:UpE C (fun σ'=>S8 C false fop args K σ') σ):CallN C fop args f xs K σ:=by
  refine ⟨?_⟩
  intro a w hr
  obtain ⟨s,⟨σ',rfl,h1⟩,hr'⟩:=h.out a w hr
  exact (Pd h1).1 rfl a w hr'
structure RetN (T:TT) (C:Ctx) (fn:Func) (R:V→Prop) (σ:ES):Prop where
  out:cy C fn R .ret σ.st
def gU (T:TT) (C:Ctx) (fn:Func) (R:V→Prop) (e:Exit) (σ:ES):Prop:=
  match e with
  | .normal=>RetN T C fn R σ
  | .ret=>RetN T C fn R σ
  | _=>False
def IR (T:TT) (σ:ES):List ResultVar→(List V→Prop)→Prop
  | [],K=>K []
  | .tmp t::l,K=>fV (σ.get t) fun x=>IR T σ l fun r=>K (x::r)
  | .cell a t::l,K=>PY T σ t (σ.get a) fun x=>fV x fun x=>IR T σ l fun r=>K (x::r)
theorem Ek (hT:T.All C.P):∀(l:List ResultVar) (k:List V→Prop),IR T σ l k→(∀r∈l,Ci C.P σ.st r)∧k (l.map (IA C.P σ.st))
  | [],k,h=>⟨fun r hr=>by simp at hr,h⟩
  | .tmp t::l,k,h=>by
    simp only [IR,HW] at h
    obtain ⟨h1,h2⟩:=Ek hT l _ h
    refine ⟨fun r hr=>?_,?_⟩
    . rcases List.mem_cons.1 hr with rfl|hr
      . trivial
      . exact h1 r hr
    . simp only [List.map_cons,IA]
      rw [show σ.st.env.getD t .any=σ.get t from Fs σ t]
      exact h2
  | .cell a t::l,k,h=>by
    simp only [IR,HW] at h
    have key:Ci C.P σ.st (.cell a t)∧IR T σ l fun r=>k (IA C.P σ.st (.cell a t)::r):=by
      simp only [Ci,IA]
      unfold PY at h
      simp only [show σ.st.env.getD a .any=σ.get a from Fs σ a]
      split at h
      . rename_i b n ht
        have h:=Ap h
        have hti:=A5 (TT.ok hT t).ti ht
        have hbn:=jC h.1
        have h2:=h.2
        rw [hti]
        simp only
        split at h2
        . rename_i l' hv
          have h2:=Ap h2
          have hn:n≤l'.length:=by simpa using h2.1
          simp only [hv]
          rw [if_pos ⟨hbn,hn⟩]
          exact ⟨⟨hbn,hn⟩,h2.2⟩
        . rename_i id i j hv
          obtain ⟨z',els,hr,h2⟩:=Dc h2
          obtain ⟨x,g1,g2⟩:=Bx h2
          have g2:=Ap g2
          have hn:j+n≤x.cells.length:=by simpa using g2.1
          simp only [hv,hr,g1]
          rw [if_pos ⟨hbn,hn⟩]
          exact ⟨⟨hbn,hn⟩,g2.2⟩
        . exact h2.elim
      . exact h.elim
    obtain ⟨h0,h⟩:=key
    obtain ⟨h1,h2⟩:=Ek hT l _ h
    refine ⟨fun r hr=>?_,h2⟩
    rcases List.mem_cons.1 hr with rfl|hr
    . exact h0
    . exact h1 r hr
def Wn (l:List V) (K:V→Prop):Prop:=match l with
  | []=>K (.tup [])
  | x::r=>match r with
    | []=>K x
    | y::r=>K (.tup (x::y::r))
theorem AH {fn:Func} {R:V→Prop} (hE:EOk T C) (h:IR T σ fn.results.toList fun l=>Wn l fun r=>cV r=true∧R r):RetN T C fn R σ:=by
  refine ⟨?_⟩
  rw [Km]
  obtain ⟨h1,h2⟩:=Ek hE.all _ _ h
  refine Bg ⟨h1,?_⟩
  unfold J2
  generalize fn.results.toList=l at h2
  match l,h2 with
  | [],h2=>exact ⟨OG _ h2.1,h2.2⟩
  | [r],h2=>exact ⟨OG _ h2.1,h2.2⟩
  | r::r'::l,h2=>exact ⟨OG _ h2.1,h2.2⟩
theorem Ca {fn:Func} {R:V→Prop} (h:UpE C (RetN T C fn R) σ):RetN T C fn R σ:=by
  refine ⟨?_⟩
  rw [Km]
  intro a w hr
  obtain ⟨s,⟨σ',rfl,h1⟩,hr'⟩:=h.out a w hr
  have:=h1.out
  rw [Km] at this
  exact this a w hr'
def J3:Nat→List V→List (Nat×V)
  | _,[]=>[]
  | k,x::l=>(k,x)::J3 (k+1) l
theorem NP (l:List V):∀(k t:Nat),Al (J3 k l) (k+t)=l.getD t .any:=by
  induction l with
  | nil=>intro k t;simp [J3,Al]
  | cons x l ih=>
    intro k t
    simp only [J3,Al]
    cases t with
    | zero=>simp
    | succ t=>
      have h1:Nat.beq (k+(t+1)) k=false:=by
        cases hb:Nat.beq (k+(t+1)) k with
        | false=>rfl
        | true=>have:=Dz hb;omega
      rw [h1]
      have:=ih (k+1) t
      rw [show k+(t+1)=k+1+t by omega]
      simpa using this
theorem Gm {P:Program} {G:World→Prop} {f:FuncId} {fn:Func} {c:Code} {args:List V} {R:V→Prop} (hf:P.funcs[f]?=some fn) (hb:fn.body=some c) (hall:T.All P) (hany:P.follows .mixedOrders=true) (hc:C8 c=true) (hn:args.length≤fn.ntmps)
    (h:∀C:Ctx,C.P=P→C.E=(fun _=>False)→G C.W0→EOk T C→GH T C c (gU T C fn R) ⟨fn.ntmps,J3 0 args,[]⟩):Fn1G P G f args R:=by
  refine PH hf hb fun C hC hW hG=>?_
  have hE:EOk T C:=⟨hC▸hall,hC▸hany⟩
  have h1:=IN hE c hc _ _ (h C hC hW hG hE)
  have he:(⟨fn.ntmps,J3 0 args,[]⟩:ES).st={ env:=args++List.replicate (fn.ntmps - args.length) .any,heap:=[]}:=by
    unfold ES.st ES.env
    congr 1
    apply List.ext_getElem?
    intro i
    rw [List.getElem?_map]
    by_cases hi:i < fn.ntmps
    . rw [List.getElem?_range hi]
      simp only [Option.map_some]
      have:=NP args 0 i
      rw [Nat.zero_add] at this
      rw [this]
      by_cases h2:i < args.length
      . rw [List.getElem?_append_left h2];simp [List.getD,h2]
      . rw [List.getElem?_append_right (Nat.le_of_not_lt h2),List.getElem?_replicate]
        rw [if_pos (by omega)]
        simp [List.getD,List.getElem?_eq_none (Nat.le_of_not_lt h2)]
    . rw [List.getElem?_eq_none (by simp;omega)]
      rw [List.getElem?_eq_none (by simp;omega)]
      rfl
  rw [←he]
  refine H4 h1 ?_
  rintro e s ⟨σ,rfl,h⟩
  cases e with
  | normal=>exact h.out
  | ret=>exact h.out
  | exit id=>exact h.elim
  | goto l=>exact h.elim
  | panic ch=>exact h.elim
  | outgrown=>exact h.elim
theorem A4 {P:Program} {f:FuncId} {fn:Func} {c:Code} {args:List V} {R:V→Prop} (hf:P.funcs[f]?=some fn) (hb:fn.body=some c) (hall:T.All P) (hany:P.follows .mixedOrders=true) (hc:C8 c=true) (hn:args.length≤fn.ntmps)
    (h:∀C:Ctx,C.P=P→EOk T C→GH T C c (gU T C fn R) ⟨fn.ntmps,J3 0 args,[]⟩):Fn1 P f args R:=
  fun w I vs=>Gm (G:=fun _=>True) hf hb hall hany hc hn (fun C hC _ _ hE=>h C hC hE) w I vs trivial
end
theorem G5 {α:Type} {f:α→V} {l:List α} {i:Nat} {x:α} {A:V→Prop} (h:l[i]?=some x) (k:A (f x)):Qu ((l.map f)[i]?) A:=AQ (by rw [List.getElem?_map,h];rfl) k
end Go.Proofs.YtkaiffheakalmaaGreatDoor
