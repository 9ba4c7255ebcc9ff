/- Copied, stripped. No conditions. -/
import Derived.Test.YtkaiffheakalmaaGreatDoorU9TlZm
import Derived.Test.YtkaiffheakalmaaGreatDoorU9TlZa
import Derived.Shelf.Small.Strs
import Derived.Test.YtkaiffheakalmaaGreatDoorU9TlZb
import Derived.Test.YtkaiffheakalmaaGreatDoorU9TlZc
set_option linter.unusedSimpArgs false
set_option linter.unusedVariables false
set_option maxRecDepth 100000
namespace Go.Proofs.YtkaiffheakalmaaGreatDoor
open Go.RowKit
def GL (k:Int) (p:Ex):List Ex:=if p.kind=k then p.parts else [p]
def JY (k:Int) (ps:List Ex):Ex:=match ps with
  | [y]=>y
  | _=>.mk k 0 ps
def Fm (k:Int) (l:List Ex):Ex:=match l with
  | [x]=>x
  | _=>JY k (l.flatMap (GL k))
def gA (k:Int) (a b:Ex):Ex:=JY k (GL k a++GL k b)
def Cl (x:Ex):Prop:=(x.kind=2∨x.kind=3)→x.type=0∧x.parts.length≠1∧∀p∈x.parts,p.kind≠x.kind
theorem L9 (k:Int) (y:Ex):JY k [y]=y:=rfl
theorem HI {k:Int} {ps:List Ex} (h:ps.length≠1):JY k ps= .mk k 0 ps:=by
  unfold JY
  split
  . exact absurd rfl h
  . rfl
theorem Xq {k:Int} (hk:k=2∨k=3) {x:Ex} (hx:Cl x):JY k (GL k x)=x:=by
  unfold GL
  by_cases h:x.kind=k
  . rw [if_pos h]
    obtain ⟨h1,h2,_⟩:=hx (by rw [h];exact hk)
    rw [HI h2,←h]
    cases x with
    | mk a b c=>simp only [Ex.kind,Ex.type,Ex.parts] at *;rw [h1]
  . rw [if_neg h];rfl
theorem MA {k:Int} (hk:k=2∨k=3) {l:List Ex} (hl:∀x∈l,Cl x):Fm k l=JY k (l.flatMap (GL k)):=by
  unfold Fm
  split
  . rename_i x
    rw [List.flatMap_cons,List.flatMap_nil,List.append_nil,Xq hk (hl x (by simp))]
  . rfl
theorem Xr {k:Int} (hk:k=2∨k=3) {x:Ex} (hx:Cl x):∀p∈GL k x,p.kind≠k:=by
  intro p hp
  unfold GL at hp
  split at hp
  . rename_i h
    have:=(hx (by rw [h];exact hk)).2.2 p hp
    rwa [h] at this
  . rename_i h
    rw [List.mem_singleton] at hp
    rw [hp];exact h
theorem Ns {k:Int} (hk:k=2∨k=3) {l:List Ex} (hl:∀x∈l,Cl x):∀p∈l.flatMap (GL k),p.kind≠k:=by
  intro p hp
  obtain ⟨x,hx,hp⟩:=List.mem_flatMap.1 hp
  exact Xr hk (hl x hx) p hp
theorem Xs {k:Int} {ps:List Ex} (h:∀p∈ps,p.kind≠k):GL k (JY k ps)=ps:=by
  by_cases h1:ps.length=1
  . obtain ⟨y,rfl⟩:=List.length_eq_one_iff.1 h1
    rw [L9]
    unfold GL
    rw [if_neg (h y (by simp))]
  . rw [HI h1]
    unfold GL
    rw [if_pos (show (Ex.mk k 0 ps).kind=k from rfl)]
    rfl
theorem Xt {k:Int} (hk:k=2∨k=3) {l:List Ex} (hl:∀x∈l,Cl x) (x:Ex):gA k (JY k (l.flatMap (GL k))) x=JY k ((l++[x]).flatMap (GL k)):=by
  unfold gA
  rw [Xs (Ns hk hl),List.flatMap_append,List.flatMap_cons,List.flatMap_nil,List.append_nil]
theorem Tv {k:Int} (hk:k=2∨k=3) {l:List Ex} (hl:∀x∈l,Cl x) {x:Ex} (hx:Cl x):gA k (Fm k l) x=Fm k (l++[x]):=by
  rw [MA hk hl,Xt hk hl,MA hk (fun y hy=>by
    rcases List.mem_append.1 hy with h|h
    . exact hl y h
    . rw [List.mem_singleton] at h;rw [h];exact hx)]
theorem Tw:Fm 2 []= .mk 2 0 []:=rfl
theorem Ir {k:Int} (hk:k=2∨k=3):∀{l:List Ex},(∀x∈l,Cl x)→∀y,l.flatMap (GL k)=[y]→y∈l
  | [],_,y,h=>by simp at h
  | x::l,hl,y,h=>by
    rw [List.flatMap_cons] at h
    have hlen:=congrArg List.length h
    rw [List.length_append] at hlen
    simp only [List.length_singleton] at hlen
    by_cases hx:x.kind=k
    . have h2:=(hl x (by simp) (by rw [hx];exact hk)).2.1
      have e:GL k x=x.parts:=by unfold GL;rw [if_pos hx]
      rw [e] at h hlen
      have h0:x.parts=[]:=List.length_eq_zero_iff.1 (by omega)
      rw [h0,List.nil_append] at h
      exact List.mem_cons_of_mem _ (Ir hk (fun z hz=>hl z (by simp [hz])) y h)
    . have e:GL k x=[x]:=by unfold GL;rw [if_neg hx]
      rw [e] at h
      simp at h
      rw [h.1];simp
theorem MB {k:Int} (hk:k=2∨k=3) {l:List Ex} (hl:∀x∈l,Cl x):Cl (Fm k l):=by
  rw [MA hk hl]
  by_cases h1:(l.flatMap (GL k)).length=1
  . obtain ⟨y,hy⟩:=List.length_eq_one_iff.1 h1
    rw [hy,L9]
    exact hl y (Ir hk hl y hy)
  . rw [HI h1]
    exact fun _=>⟨rfl,h1,Ns hk hl⟩
def DX (c:UInt8):Bool:=decide (c=42) || decide (c=43) || decide (c=63)
def Xu (c:UInt8):Int:=if c=42 then 4 else if c=43 then 5 else 6
def suf:Ex→List UInt8→Ex×List UInt8
  | x,[]=>(x,[])
  | x,c::r=>if DX c=true then suf (.mk (Xu c) 0 [x]) r else (x,c::r)
abbrev PR:=Ex×List UInt8×Bool
def R6 (c:UInt8):Bool:=decide (97≤c.toNat)&&decide (c.toNat≤104)
def EG (f:List UInt8→PR) (c:UInt8) (r:List UInt8):PR:=
  if R6 c=true then (.mk 1 ((c.toNat:Int) - 97) [],r,false)
  else if c=40 then (match f r with
    | (x,s,true)=>(x,s,true)
    | (x,s,false)=>match s with
      | []=>(x,[],true)
      | d::s'=>if d=41 then (x,s',false) else (x,d::s',true))
  else (.mk 0 0 [],r,true)
def CQ (f:List UInt8→PR) (c:UInt8) (r:List UInt8):PR:=((suf (EG f c r).1 (EG f c r).2.1).1,(suf (EG f c r).1 (EG f c r).2.1).2,(EG f c r).2.2)
def B5 (f:List UInt8→PR):Nat→List UInt8→List Ex→List Ex×List UInt8×Bool
  | 0,s,l=>(l,s,false)
  | _+1,[],l=>(l,[],false)
  | n+1,c::r,l=>if c=124∨c=41 then (l,c::r,false) else
    if (CQ f c r).2.2=true then (l++[(CQ f c r).1],(CQ f c r).2.1,true) else B5 f n (CQ f c r).2.1 (l++[(CQ f c r).1])
def Ct (f:List UInt8→PR):Nat→List UInt8→Bool→List Ex→List Ex×List UInt8×Bool
  | 0,s,b,l=>(l,s,b)
  | _+1,[],b,l=>(l,[],b)
  | n+1,c::r,b,l=>if c=124 then (if b=true then Ct f n r true (l++[Fm 2 []]) else Ct f n (B5 f r.length r []).2.1 (B5 f r.length r []).2.2 (l++[Fm 2 (B5 f r.length r []).1])) else (l,c::r,b)
def D5 (f:List UInt8→PR) (s:List UInt8):PR:=(Fm 2 (B5 f s.length s []).1,(B5 f s.length s []).2)
def Cc:Nat→List UInt8→PR
  | 0,s=>(.mk 0 0 [],s,true)
  | n+1,s=>(Fm 3 (Ct (Cc n) s.length (D5 (Cc n) s).2.1 (D5 (Cc n) s).2.2 [(D5 (Cc n) s).1]).1,(Ct (Cc n) s.length (D5 (Cc n) s).2.1 (D5 (Cc n) s).2.2 [(D5 (Cc n) s).1]).2)
theorem D6 (a b:List Ex):A7 (a++b)=A7 a+A7 b:=by simp [Bi]
theorem CR (x:Ex):A7 [x]=EY x:=by simp [Bi]
theorem dx (k:Int) (x:Ex):A7 (GL k x)≤EY x:=by
  unfold GL
  split
  . cases x;rw [CV];simp only [Ex.parts];omega
  . rw [CR];exact Nat.le_refl _
theorem Is (k:Int):∀l:List Ex,A7 (l.flatMap (GL k))≤A7 l
  | []=>by simp [Bi]
  | x::l=>by
    have h1:=dx k x
    have h2:=Is k l
    rw [List.flatMap_cons,D6]
    have:A7 (x::l)=EY x+A7 l:=by simp [Bi]
    omega
theorem Z3 (k:Int) (ps:List Ex):EY (JY k ps)≤A7 ps+4:=by
  unfold JY
  split
  . rw [CR];omega
  . rw [CV];omega
theorem R7 (k:Int) (l:List Ex):EY (Fm k l)≤A7 l+4:=by
  unfold Fm
  split
  . rw [CR];omega
  . have h1:=Z3 k (l.flatMap (GL k))
    have h2:=Is k l
    omega
theorem R8:∀(s:List UInt8) (x:Ex),EY (suf x s).1+8*(suf x s).2.length≤EY x+8*s.length∧(suf x s).2.length≤s.length
  | [],x=>by simp [suf]
  | c::r,x=>by
    unfold suf
    split
    . have:=R8 r (.mk (Xu c) 0 [x])
      rw [CV,CR] at this
      simp only [List.length_cons]
      omega
    . simp
section
variable {f:List UInt8→PR}
def Xv (f:List UInt8→PR) (r:List UInt8):Prop:=EY (f r).1+8*(f r).2.1.length≤8*r.length+8∧(f r).2.1.length≤r.length
theorem Z4 (c:UInt8) (r:List UInt8) (h:Xv f r):EY (EG f c r).1+8*(EG f c r).2.1.length≤8*r.length+8∧(EG f c r).2.1.length≤r.length:=by
  unfold Xv at h
  unfold EG
  split
  . simp [CV,Bi];try omega
  . split
    . split
      . rename_i x s hf
        rw [hf] at h
        exact h
      . rename_i x s hf
        rw [hf] at h
        simp only at h
        split
        . simpa using h
        . split
          . simp only [List.length_cons] at h ⊢;omega
          . exact h
    . simp [CV,Bi];try omega
theorem Tx (c:UInt8) (r:List UInt8) (h:Xv f r):EY (CQ f c r).1+8*(CQ f c r).2.1.length≤8*r.length+8∧(CQ f c r).2.1.length≤r.length:=by
  have h1:=Z4 c r h
  have h2:=R8 (EG f c r).2.1 (EG f c r).1
  unfold CQ
  simp only
  omega
theorem R9:∀(n:Nat) (s:List UInt8) (l:List Ex),(∀r:List UInt8,r.length < s.length→Xv f r)→A7 (B5 f n s l).1+8*(B5 f n s l).2.1.length≤A7 l+8*s.length∧(B5 f n s l).2.1.length≤s.length
  | 0,s,l,_=>by simp [B5]
  | n+1,[],l,_=>by simp [B5]
  | n+1,c::r,l,hf=>by
    have hi:=Tx c r (hf r (by simp))
    unfold B5
    split
    . simp
    . split
      . simp only [D6,CR,List.length_cons];omega
      . have:=R9 n (CQ f c r).2.1 (l++[(CQ f c r).1]) (fun r' hr'=>hf r' (by simp only [List.length_cons];omega))
        rw [D6,CR] at this
        simp only [List.length_cons];omega
theorem SA:∀(n:Nat) (s:List UInt8) (b:Bool) (l:List Ex),(∀r:List UInt8,r.length < s.length→Xv f r)→A7 (Ct f n s b l).1+8*(Ct f n s b l).2.1.length≤A7 l+8*s.length∧(Ct f n s b l).2.1.length≤s.length
  | 0,s,b,l,_=>by simp [Ct]
  | n+1,[],b,l,_=>by simp [Ct]
  | n+1,c::r,b,l,hf=>by
    unfold Ct
    split
    . split
      . have:=SA n r true (l++[Fm 2 []]) (fun r' hr'=>hf r' (by simp only [List.length_cons];omega))
        have h0:A7 []=0:=by simp [Bi]
        have ht:EY (Fm 2 [])=4:=by rw [Tw,CV,h0]
        rw [D6,CR,ht] at this
        simp only [List.length_cons]
        omega
      . have h1:=R9 r.length r [] (fun r' hr'=>hf r' (by simp only [List.length_cons];omega))
        have h0:A7 []=0:=by simp [Bi]
        have h2:=SA n (B5 f r.length r []).2.1 (B5 f r.length r []).2.2 (l++[Fm 2 (B5 f r.length r []).1]) (fun r' hr'=>hf r' (by simp only [List.length_cons];omega))
        have h3:=R7 2 (B5 f r.length r []).1
        rw [D6,CR] at h2
        simp only [List.length_cons]
        omega
    . simp
theorem Ov (s:List UInt8) (hf:∀r:List UInt8,r.length < s.length→Xv f r):EY (D5 f s).1+8*(D5 f s).2.1.length≤8*s.length+4∧(D5 f s).2.1.length≤s.length:=by
  have h1:=R9 s.length s [] hf
  have h2:=R7 2 (B5 f s.length s []).1
  have h0:A7 []=0:=by simp [Bi]
  unfold D5
  simp only
  omega
end
theorem KW:∀(n:Nat) (s:List UInt8),s.length < n→Xv (Cc n) s
  | 0,s,h=>absurd h (Nat.not_lt_zero _)
  | n+1,s,h=>by
    have hf:∀r:List UInt8,r.length < s.length→Xv (Cc n) r:=fun r hr=>KW n r (by omega)
    have h1:=Ov s hf
    have h2:=SA (f:=Cc n) s.length (D5 (Cc n) s).2.1 (D5 (Cc n) s).2.2 [(D5 (Cc n) s).1] (fun r hr=>hf r (by omega))
    have h3:=R7 3 (Ct (Cc n) s.length (D5 (Cc n) s).2.1 (D5 (Cc n) s).2.2 [(D5 (Cc n) s).1]).1
    rw [CR] at h2
    unfold Xv Cc
    simp only
    omega
end Go.Proofs.YtkaiffheakalmaaGreatDoor
namespace Go.Proofs.YtkaiffheakalmaaGreatDoor
open Go.RowKit
def ck (all:Option Ex) (now:Ex):Ex:=match all with
  | none=>now
  | some a=>gA 3 a now
abbrev DR:=Option (Ex×List UInt8)
def Qa (g:List UInt8→DR) (c:UInt8) (r:List UInt8):DR:=
  if R6 c=true then some (.mk 1 ((c.toNat:Int) - 97) [],r)
  else if c=40 then (match g r with
    | none=>none
    | some (_,[])=>none
    | some (x,_::s')=>some (x,s'))
  else none
def It (g:List UInt8→DR):Nat→List UInt8→Ex→Option Ex→DR
  | 0,s,now,all=>some (ck all now,s)
  | _+1,[],now,all=>some (ck all now,[])
  | n+1,c::r,now,all=>
    if c=41 then some (ck all now,c::r)
    else if c=124 then It g n r (.mk 2 0 []) (some (ck all now))
    else match Qa g c r with
      | none=>none
      | some (x,t)=>It g n (suf x t).2 (gA 2 now (suf x t).1) all
def VK:Nat→List UInt8→DR
  | 0,_=>none
  | n+1,s=>It (VK n) s.length s (.mk 2 0 []) none
def SB (p:PR) (d:DR):Prop:=match d with
  | none=>p.2.2=true
  | some (x,t)=>p=(x,t,false)∧Cl x∧(∀c r,t=c::r→c=41)
theorem dy (t:Int) (ps:List Ex):Cl (.mk 1 t ps):=fun h=>by simp [Ex.kind] at h
theorem Z5 (c:UInt8):4≤Xu c:=by unfold Xu;split<;>(try split)<;>omega
theorem Xw:∀(s:List UInt8) (x:Ex),Cl x→Cl (suf x s).1
  | [],x,h=>by simpa [suf] using h
  | c::r,x,h=>by
    unfold suf
    split
    . exact Xw r _ (fun h=>by have:=Z5 c;simp only [Ex.kind] at h;omega)
    . exact h
theorem Z6:∀(s:List UInt8) (x:Ex),(suf x s).2.length≤s.length:=fun s x=>(R8 s x).2
theorem Tz (f:List UInt8→PR):∀(n:Nat) (s:List UInt8) (l:List Ex),(Ct f n s true l).2.2=true
  | 0,s,l=>by simp [Ct]
  | n+1,[],l=>by simp [Ct]
  | n+1,c::r,l=>by
    unfold Ct
    split
    . rw [if_pos rfl];exact Tz f n r _
    . rfl
section
variable {f:List UInt8→PR} {g:List UInt8→DR}
def SC (f:List UInt8→PR) (n m:Nat) (s:List UInt8) (l L:List Ex):PR:=
  (Fm 3 (Ct f m (B5 f n s l).2.1 (B5 f n s l).2.2 (L++[Fm 2 (B5 f n s l).1])).1,(Ct f m (B5 f n s l).2.1 (B5 f n s l).2.2 (L++[Fm 2 (B5 f n s l).1])).2)
theorem Xx {c:UInt8} {r:List UInt8} (h:SB (f r) (g r)):
    match Qa g c r with|none=>(EG f c r).2.2=true|some (x,t)=>EG f c r=(x,t,false)∧Cl x∧t.length≤max r.length (f r).2.1.length:=by
  unfold Qa EG
  by_cases h1:R6 c=true
  . rw [if_pos h1,if_pos h1]
    exact ⟨rfl,dy _ _,by omega⟩
  . rw [if_neg h1,if_neg h1]
    by_cases h2:c=40
    . rw [if_pos h2,if_pos h2]
      unfold SB at h
      generalize hg:g r=q at h
      generalize hf:f r=p at h
      match q,h with
      | none,h=>
        obtain ⟨x,s,b⟩:=p
        simp only at h
        subst h
        rfl
      | some (x,[]),⟨h,hc,_⟩=>
        subst h
        rfl
      | some (x,d::s'),⟨h,hc,hd⟩=>
        subst h
        have:=hd d s' rfl
        simp only [this,if_true]
        exact ⟨trivial,hc,by simp only [List.length_cons];omega⟩
    . rw [if_neg h2,if_neg h2]
theorem Z7:∀(N:Nat) (s:List UInt8) (l L:List Ex) (n m k:Nat),s.length≤N→s.length≤n→s.length≤m→s.length≤k→
    (∀r:List UInt8,r.length < s.length→SB (f r) (g r)∧(f r).2.1.length≤r.length)→(∀x∈l,Cl x)→(∀x∈L,Cl x)→
    SB (SC f n m s l L) (It g k s (Fm 2 l) (if L=[] then none else some (Fm 3 L))):=by
  have hflu:∀(l L:List Ex),(∀x∈l,Cl x)→(∀x∈L,Cl x)→ck (if L=[] then none else some (Fm 3 L)) (Fm 2 l)=Fm 3 (L++[Fm 2 l]):=by
    intro l L hl hL
    by_cases h0:L=[]
    . rw [if_pos h0,h0];rfl
    . rw [if_neg h0]
      exact Tv (.inr rfl) hL (MB (.inl rfl) hl)
  have hclL:∀(l L:List Ex),(∀x∈l,Cl x)→(∀x∈L,Cl x)→∀x∈L++[Fm 2 l],Cl x:=by
    intro l L hl hL x hx
    rcases List.mem_append.1 hx with h|h
    . exact hL x h
    . rw [List.mem_singleton] at h;rw [h];exact MB (.inl rfl) hl
  intro N
  induction N with
  | zero=>
    intro s l L n m k hs hn hm hk hf hl hL
    have h0:s=[]:=List.length_eq_zero_iff.1 (by omega)
    subst h0
    have e1:B5 f n [] l=(l,[],false):=by cases n<;>rfl
    have e2:∀b q,Ct f m [] b q=(q,[],b):=by cases m<;>intro b q<;>rfl
    have e3:∀q a,It g k [] q a=some (ck a q,[]):=by cases k<;>intro q a<;>rfl
    rw [e3,hflu l L hl hL]
    unfold SC
    rw [e1,e2]
    exact ⟨rfl,MB (.inr rfl) (hclL l L hl hL),fun c r h=>by cases h⟩
  | succ N ih=>
    intro s l L n m k hs hn hm hk hf hl hL
    match s,n,m,k,hs,hn,hm,hk,hf with
    | [],n,m,k,hs,hn,hm,hk,hf=>
      have e1:B5 f n [] l=(l,[],false):=by cases n<;>rfl
      have e2:∀b q,Ct f m [] b q=(q,[],b):=by cases m<;>intro b q<;>rfl
      have e3:∀q a,It g k [] q a=some (ck a q,[]):=by cases k<;>intro q a<;>rfl
      rw [e3,hflu l L hl hL]
      unfold SC
      rw [e1,e2]
      exact ⟨rfl,MB (.inr rfl) (hclL l L hl hL),fun c r h=>by cases h⟩
    | c::r,n+1,m+1,k+1,hs,hn,hm,hk,hf=>
      simp only [List.length_cons] at hs hn hm hk
      by_cases h41:c=41
      . have e1:B5 f (n+1) (c::r) l=(l,c::r,false):=by rw [B5,if_pos (.inr h41)]
        have e2:∀b q,Ct f (m+1) (c::r) b q=(q,c::r,b):=fun b q=>by rw [Ct,if_neg (by rw [h41];decide)]
        have e3:∀q a,It g (k+1) (c::r) q a=some (ck a q,c::r):=fun q a=>by rw [It,if_pos h41]
        rw [e3,hflu l L hl hL]
        unfold SC
        rw [e1,e2]
        exact ⟨rfl,MB (.inr rfl) (hclL l L hl hL),fun c' r' h=>by cases h;exact h41⟩
      . by_cases h124:c=124
        . have e1:B5 f (n+1) (c::r) l=(l,c::r,false):=by rw [B5,if_pos (.inl h124)]
          have e2:∀q,Ct f (m+1) (c::r) false q=Ct f m (B5 f r.length r []).2.1 (B5 f r.length r []).2.2 (q++[Fm 2 (B5 f r.length r []).1]):=fun q=>by rw [Ct,if_pos h124,if_neg (by decide)]
          have e3:It g (k+1) (c::r) (Fm 2 l) (if L=[] then none else some (Fm 3 L))=It g k r (Fm 2 []) (if L++[Fm 2 l]=[] then none else some (Fm 3 (L++[Fm 2 l]))):=by
            rw [It,if_neg h41,if_pos h124,hflu l L hl hL,if_neg (by simp)];rfl
          have:=ih r [] (L++[Fm 2 l]) r.length m k (by omega) (Nat.le_refl _) (by omega) (by omega) (fun q hq=>hf q (by simp only [List.length_cons];omega)) (by simp) (hclL l L hl hL)
          rw [e3]
          unfold SC at this ⊢
          rw [e1]
          simp only [e2]
          exact this
        . have e1:B5 f (n+1) (c::r) l=if (CQ f c r).2.2=true then (l++[(CQ f c r).1],(CQ f c r).2.1,true) else B5 f n (CQ f c r).2.1 (l++[(CQ f c r).1]):=by
            rw [B5,if_neg (by intro h;rcases h with h|h;exact h124 h;exact h41 h)]
          have e3:∀q a,It g (k+1) (c::r) q a=match Qa g c r with|none=>none|some (x,t)=>It g k (suf x t).2 (gA 2 q (suf x t).1) a:=fun q a=>by rw [It,if_neg h41,if_neg h124]
          have hfr:=hf r (by simp)
          have hb:=Xx (c:=c) hfr.1
          rw [e3]
          match hd:Qa g c r with
          | none=>
            rw [hd] at hb
            simp only at hb
            have hi:(CQ f c r).2.2=true:=hb
            rw [if_pos hi] at e1
            unfold SC
            rw [e1]
            exact Tz f (m+1) _ _
          | some (x,t)=>
            rw [hd] at hb
            obtain ⟨hb,hc,hlen⟩:=hb
            have hi:CQ f c r=((suf x t).1,(suf x t).2,false):=by unfold CQ;rw [hb]
            rw [hi] at e1
            simp only [Bool.false_eq_true,if_false] at e1
            have hcs:=Xw t x hc
            have hsl:=Z6 t x
            have hlen2:t.length≤r.length:=by have:=hfr.2;omega
            have hcl':∀y∈l++[(suf x t).1],Cl y:=by
              intro y hy
              rcases List.mem_append.1 hy with h|h
              . exact hl y h
              . rw [List.mem_singleton] at h;rw [h];exact hcs
            have:=ih (suf x t).2 (l++[(suf x t).1]) L n (m+1) k (by omega) (by omega) (by omega) (by omega) (fun q hq=>hf q (by simp only [List.length_cons];omega)) hcl' hL
            simp only
            rw [Tv (.inl rfl) hl hcs]
            unfold SC at this ⊢
            rw [e1]
            exact this
end
theorem Xy (n:Nat) (s:List UInt8) (h:s.length < n):(Cc n s).2.1.length≤s.length:=(KW n s h).2
theorem T1:∀(n:Nat) (s:List UInt8),s.length < n→SB (Cc n s) (VK n s)
  | 0,s,h=>absurd h (Nat.not_lt_zero _)
  | n+1,s,h=>by
    have hf:∀r:List UInt8,r.length < s.length→SB (Cc n r) (VK n r)∧(Cc n r).2.1.length≤r.length:=fun r hr=>⟨T1 n r (by omega),Xy n r (by omega)⟩
    exact Z7 (f:=Cc n) (g:=VK n) s.length s [] [] s.length s.length s.length (Nat.le_refl _) (Nat.le_refl _) (Nat.le_refl _) (Nat.le_refl _) hf (by simp) (by simp)
def JZ (s:List UInt8):Ex×Int:=
  if 40 < s.length then (.mk 0 0 [],1)
  else if (Cc 41 s).2.2=true∨(Cc 41 s).2.1≠[] then (.mk 0 0 [],4)
  else if Xp (Cc 41 s).1≠0 then (.mk 0 0 [],4) else ((Cc 41 s).1,0)
def Xz (s:List UInt8):Ex×Int:=
  if 40 < s.length then (.mk 0 0 [],1)
  else match VK 41 s with
    | none=>(.mk 0 0 [],4)
    | some (x,t)=>if t≠[] then (.mk 0 0 [],4) else if Xp x≠0 then (.mk 0 0 [],4) else (x,0)
theorem iC (s:List UInt8):JZ s=Xz s:=by
  unfold JZ Xz
  split
  . rfl
  . have h:=T1 41 s (by omega)
    unfold SB at h
    generalize VK 41 s=q at h
    generalize Cc 41 s=p at h
    match q,h with
    | none,h=>rw [if_pos (.inl h)]
    | some (x,t),⟨h,_,_⟩=>
      subst h
      by_cases ht:t=[]
      . simp [ht]
      . simp [ht]
end Go.Proofs.YtkaiffheakalmaaGreatDoor
namespace Go.Proofs.YtkaiffheakalmaaGreatDoor
open Go.RowKit Go.Shelf
def dz:Ren:={
  f:=fun x=>match x with|137=>89|217=>101|266=>117|n=>n
  t:=fun x=>match x with|9=>9|5=>5|3=>3|n=>n
  g:=fun x=>x}
theorem Z8:Lays.n137 Tryz.prog dz:={
  mixed:=by kernel_rfl
  f137:=Tryz.func89.trans (congrArg some (by kernel_rfl))
  f217:=Tryz.func101.trans (congrArg some (by kernel_rfl))
  f266:=Tryz.func117.trans (congrArg some (by kernel_rfl))
  t3:=Tryz.underlying3
  a3:=Tryz.isAgg3
  z3:=Tryz.sizeOf3
  v3:=Tryz.zeroValue3
  t5:=Tryz.underlying5
  a5:=Tryz.isAgg5
  z5:=Tryz.sizeOf5
  v5:=Tryz.zeroValue5
  t9:=Tryz.underlying9
  a9:=Tryz.isAgg9
  z9:=Tryz.sizeOf9
  v9:=Tryz.zeroValue9}
theorem X0 {P:Program} {f:FuncId} {w:World} {I:Nat→Prop} {vs:List Value} {v0:Value} {r0:V} (hI:∀b,I b→b < w.heap.size) (hp:Pr w I v0 r0)
    (h:Calls P f vs.toArray w fun e w'=>e= .returned v0∧w'=w):
    Calls P f vs.toArray w fun e w'=>∃v r I',e= .returned v∧r=r0∧Pr w' I' v r∧(∀b,I' b→b < w'.heap.size∧(I b∨w.heap.size≤b))∧Kept (fun _=>False) w w':=by
  refine h.mono ?_
  rintro e w' ⟨rfl,rfl⟩
  exact ⟨_,_,I,rfl,rfl,hp,fun b hIb=>⟨hI b hIb,.inl hIb⟩,Kept.refl _ _⟩
theorem SD {w:World} {I:Nat→Prop} {v:Value} {k:IntKind} {n:Int} (h:Pr w I v (.int k n)):v= .int k n:=by
  generalize hx:V.int k n=x at h
  cases h with
  | int k' n'=>cases hx;rfl
  | _=>cases hx
theorem BE (s:List UInt8) (c:UInt8):Fn1 Tryz.prog 89 [.str s,.int .u8 c.toNat] (fun r=>r= .int .i64 (Lib.indexByte s c)):=by
  intro w I vs hl hv hI
  obtain ⟨v0,v1,rfl⟩:∃v0 v1,vs=[v0,v1]:=by
    match vs,hl with
    | [a,b],_=>exact ⟨a,b,rfl⟩
  obtain ⟨rfl,hs⟩:=Hs (hv 0 v0 _ rfl rfl)
  obtain rfl:=SD (hv 1 v1 _ rfl rfl)
  refine X0 hI (.int .i64 (Lib.indexByte s c)) ?_
  have h:=Any.strings_IndexByte Z8 ⟨s.toArray⟩ (c.toNat:Int) w
  rw [show ((c.toNat:Int)).toNat.toUInt8=c by simp] at h
  exact h
end Go.Proofs.YtkaiffheakalmaaGreatDoor
namespace Go.Proofs.YtkaiffheakalmaaGreatDoor
open Go.RowKit
theorem SF {P:Program} {f:FuncId} {args:List V} {objs:List Ob} {fixed:List Nat} {R:V→List Ob→Prop} (h:HFn P f args objs fixed fun r o=>R r.nl o):HFn P f args objs fixed R:=
  fun w I bl vs h1 h2 h3=>(h w I bl vs h1 h2 h3).mono fun _ _ ⟨v,r,o,I',bl',a,b,c,d,e⟩=>⟨v,r.nl,o,I',bl',a,b,c,d.nl,e⟩
mutual
theorem X1:∀x:Ex,(f6 x).nl=f6 x
  | Ex.mk k t ps=>by rw [f6];simp only [V.nl,J4,T2 ps]
theorem T2:∀l:List Ex,J4 (JK l)=JK l
  | []=>by rw [JK];rfl
  | x::l=>by rw [JK];simp only [J4,X1 x,T2 l]
end
theorem DT (x:Ex):(Ai x).nl=Ai x:=by rw [←W6];exact X1 x
theorem Z9 (k t:Int) (l:List Ex):(V.agg [.int .i64 k,.int .i64 t,.lst (l.map Ai)]).nl= .agg [.int .i64 k,.int .i64 t,.lst (l.map Ai)]:=by rw [←Cs];exact DT _
theorem ER (id:Nat) (l:List Ex):AK id (l.map Ai)=l.map Ai:=AA _ (Fx l)
theorem X2 (l:List Ex):∀y∈l.map Ai,y.cells.length=3:=fun y hy=>by
  obtain ⟨q,_,rfl⟩:=List.mem_map.1 hy
  exact Uj q
def cl (s:List UInt8) (b:Bool):List Ob:=[.row 2 [.agg [.str s,.bool b]]]
def MC (s:List UInt8) (c:UInt8):Bool:=decide (s.head?=some c)
def Hx (s:List UInt8) (c:UInt8):List UInt8:=if s.head?=some c then s.tail else s
theorem T3 (s:List UInt8) (b:Bool) (c:UInt8):HFn Tryz.prog 40 [.ptr 0 0 0,.int .u8 c.toNat] (cl s b) [0] (fun r o=>r= .bool (MC s c)∧o=cl (Hx s c) b):=by
  refine HO (T:=Tryz.tt) Tryz.func40 rfl AR AB ?_ ?_ fun C vs hC hE=>?_
  . kernel_rfl
  . exact Nat.le_of_ble_eq_true (by kernel_rfl)
  cases s with
  | nil=>
    have h0:([]:List UInt8)=[]:=rfl
    conv=>whnf
    repeat' (refine AN (by first|assumption|omega) ?_;conv=>whnf)
    refine Aq (AP (BK hE ?_))
    conv=>whnf
    exact ⟨rfl,rfl,rfl,rfl⟩
  | cons d r=>
    have h0:¬(d::r=[]):=by simp
    have h1:Int.toNat 1≤(d::r).length:=by simp
    by_cases h:d=c
    . have ht:MC (d::r) c=true:=by unfold MC;rw [decide_eq_true_eq,h];rfl
      have hs:Hx (d::r) c=r:=by unfold Hx;rw [if_pos (by rw [h];rfl)];rfl
      rw [ht,hs]
      subst h
      conv=>whnf
      repeat' (first|(refine AN (by first|assumption|omega) ?_;conv=>whnf)|(refine AM (by first|assumption|omega) ?_;conv=>whnf)|(refine Af (by first|assumption|omega) ?_;conv=>whnf))
      refine Aq (AP (BK hE ?_))
      conv=>whnf
      exact ⟨rfl,rfl,rfl,rfl⟩
    . have ht:MC (d::r) c=false:=by unfold MC;rw [decide_eq_false_iff_not];simpa using h
      have hs:Hx (d::r) c=d::r:=by unfold Hx;rw [if_neg (by simpa using h)]
      have h2:¬((d.toNat:Int)=c.toNat):=fun e=>h (UInt8.toNat_inj.1 (by omega))
      rw [ht,hs]
      conv=>whnf
      repeat' (first|(refine AM (by first|assumption|omega) ?_;conv=>whnf)|(refine Af (by first|assumption|omega) ?_;conv=>whnf))
      refine Aq (AP (BK hE ?_))
      conv=>whnf
      exact ⟨rfl,rfl,rfl,rfl⟩
theorem VL (k:Int) {l:List Ex} {j:Nat} {x:Ex} (hx:l[j]?=some x):(l.take (j+1)).flatMap (GL k)=(l.take j).flatMap (GL k)++GL k x:=by
  rw [List.take_add_one,hx,List.flatMap_append]
  simp
theorem Qb (l:List Ex) (j:Nat):A7 (l.take j)≤A7 l:=by
  conv=>rhs;rw [←List.take_append_drop j l]
  rw [D6];omega
set_option maxHeartbeats 4000000 in
theorem Qc (k:Int) (l:List Ex) (hl:A7 l≤1048576):Fn1 Tryz.prog 41 [.int .i64 k,.lst (l.map Ai)] (fun r=>r=Ai (Fm k l)):=by
  have hlm:(l.map Ai).length=l.length:=by simp
  have hll:=D2 l
  refine OK ?_
  by_cases h1:l.length=1
  . obtain ⟨x,rfl⟩:=List.length_eq_one_iff.1 h1
    obtain ⟨a,t,ps⟩:=x
    refine A4 (T:=Tryz.tt) Tryz.func41 rfl AR AB ?_ ?_ fun C hC hE=>?_
    . kernel_rfl
    . exact Nat.le_of_ble_eq_true (by kernel_rfl)
    conv=>whnf
    repeat' (first|(refine AN (by first|assumption|omega) ?_;conv=>whnf)|(refine Af (by first|assumption|omega) ?_;conv=>whnf)|(refine AH hE ?_;conv=>whnf)|(intro hlen;conv=>whnf))
    all_goals exact ⟨rfl,DT (.mk a t ps)⟩
  . have htog:Fm k l=JY k (l.flatMap (GL k)):=by
      unfold Fm
      split
      . exact absurd rfl h1
      . rfl
    refine A4 (T:=Tryz.tt) Tryz.func41 rfl AR AB ?_ ?_ fun C hC hE=>?_
    . kernel_rfl
    . exact Nat.le_of_ble_eq_true (by kernel_rfl)
    conv=>whnf
    repeat' (first|(refine AM (by first|assumption|omega) ?_;conv=>whnf)|(intro hlen;conv=>whnf))
    refine Ae (fun j:Nat=>⟨48,[(0,.int .i64 k),(4,.ptr 0 0 0),(5,.ptr 1 0 0),(16,.lst (l.map Ai)),(17,.int .i64 (l.map Ai).length),(18,.int .i64 j)],[some (.row 3 [.agg [.int .i64 0,.int .i64 0,.nils]]),some (.row 3 [.agg [.int .i64 k,.int .i64 0,.sl 2 0 ((l.take j).flatMap (GL k)).length]]),some (.row 3 (((l.take j).flatMap (GL k)).map Ai))]⟩)
      (fun j=>j≤l.length) (fun j=>l.length - j) 0 hE ?_ ?_ (Nat.zero_le _) ?_
    . kernel_rfl
    . exact CY 1 2 3 rfl rfl (AU [0,4,5,16,17,18] rfl)
    intro j hj
    by_cases hlt:j < l.length
    . obtain ⟨a,t,ps,hx,hx'⟩:=P2 hlt
      have hst:=VL k hx
      have hcz:=Is k (l.take j)
      have htz:=Qb l j
      have hcl:=D2 ((l.take j).flatMap (GL k))
      have hcz2:=Is k (l.take (j+1))
      have htz2:=Qb l (j+1)
      have hcl2:=D2 ((l.take (j+1)).flatMap (GL k))
      generalize hcur:(l.take j).flatMap (GL k)=cur at*
      rw [hst] at hcz2
      rw [hst,List.length_append] at hcl2
      have hcm:(cur.map Ai).length=cur.length:=by simp
      have hpm:(ps.map Ai).length=ps.length:=by simp
      by_cases hk:a=k
      . have hs:GL k (.mk a t ps)=ps:=if_pos hk
        rw [hs] at hst hcl2 hcz2
        have hA:List.take cur.length (List.drop 0 (cur.map Ai))++ps.map Ai=(cur++ps).map Ai:=by
          rw [List.drop_zero,List.take_of_length_le (by omega),List.map_append]
        have hA2:cur.length+(ps.map Ai).length=(cur++ps).length:=by simp
        conv=>whnf
        repeat' (first|(refine AN (by first|assumption|omega) ?_;conv=>whnf)|(refine Af (by first|assumption|omega) ?_;conv=>whnf)|(refine AS (by omega) ?_;conv=>whnf)|(refine AQ (by assumption) ?_;conv=>whnf)|(refine ⟨X2 ps,?_⟩;conv=>whnf))
        refine AL [0,4,5,16,17,18] [3] (j+1) (show j+1≤l.length by omega) (show l.length - (j+1) < l.length - j by omega) ?_
        conv=>whnf
        rw [hst,hA,ER,ER,hA2]
        rfl
      . have hs:GL k (.mk a t ps)=[.mk a t ps]:=if_neg hk
        rw [hs] at hst hcl2 hcz2
        have hA:List.take cur.length (List.drop 0 (cur.map Ai))++List.take 1 (List.drop 0 [V.agg [.int .i64 a,.int .i64 t,.lst (ps.map Ai)]])=(cur++[Ex.mk a t ps]).map Ai:=by
          rw [List.drop_zero,List.take_of_length_le (by omega),List.map_append,←Cs]
          rfl
        have hA2:cur.length+(List.take 1 (List.drop 0 [V.agg [.int .i64 a,.int .i64 t,.lst (ps.map Ai)]])).length=(cur++[Ex.mk a t ps]).length:=by simp
        simp only [List.length_singleton] at hcl2
        conv=>whnf
        repeat' (first|(refine AN (by first|assumption|omega) ?_;conv=>whnf)|(refine AM (by first|assumption|omega) ?_;conv=>whnf)|(refine Af (by first|assumption|omega) ?_;conv=>whnf)|(refine AS (by omega) ?_;conv=>whnf)|(refine AQ (by assumption) ?_;conv=>whnf)|(refine Af (Nat.le_refl 1) ?_;conv=>whnf)|(refine Af ⟨?_,?_,?_⟩ ?_;omega;(show _+1≤9223372036854775807;omega);(show (_+1)*_≤140737488355328;omega);conv=>whnf))
        refine AL [0,4,5,16,17,18] [3,4] (j+1) (show j+1≤l.length by omega) (show l.length - (j+1) < l.length - j by omega) ?_
        conv=>whnf
        rw [hst,hA,ER,ER,ER,hA2]
        rfl
    . have hjl:j=l.length:=by omega
      subst hjl
      rw [htog,List.take_length]
      have hcz:=Is k l
      have hcl:=D2 (l.flatMap (GL k))
      generalize l.flatMap (GL k)=cur at*
      have hcm:(cur.map Ai).length=cur.length:=by simp
      by_cases hc1:cur.length=1
      . obtain ⟨y,rfl⟩:=List.length_eq_one_iff.1 hc1
        obtain ⟨a,t,ps⟩:=y
        rw [L9]
        conv=>whnf
        repeat' (first|(refine AN (by first|assumption|omega) ?_;conv=>whnf)|(refine AM (by first|assumption|omega) ?_;conv=>whnf)|(refine Af (by first|assumption|omega) ?_;conv=>whnf)|(refine AH hE ?_;conv=>whnf)|(intro hlen;conv=>whnf))
        exact ⟨rfl,DT (.mk a t ps)⟩
      . rw [HI hc1]
        have hfz:An 2 (cur.map Ai) [V.agg [.int .i64 k,.int .i64 0,.sl 2 0 cur.length]]=[.agg [.int .i64 k,.int .i64 0,.lst (cur.map Ai)]]:=by
          simp only [An,V.frz,if_true]
          rw [if_pos (by omega),List.drop_zero,List.take_of_length_le (by omega)]
        conv=>whnf
        repeat' (first|(refine AM (by first|assumption|omega) ?_;conv=>whnf)|(refine Ca (AO 2 (z:=3) (els:=cur.map Ai) rfl (Fx cur) (Ax [some (.row 3 [.agg [.int .i64 k,.int .i64 0,.lst (cur.map Ai)]]),some (.row 3 [.agg [.int .i64 k,.int .i64 0,.lst (cur.map Ai)]]),none] ?_ (AP ?_)));(conv=>whnf);simp only [List.set_cons_zero,hfz])|(refine AH hE ?_;conv=>whnf)|(intro hlen;conv=>whnf))
        exact ⟨rfl,(Z9 k 0 cur).trans (Cs k 0 cur).symm⟩
end Go.Proofs.YtkaiffheakalmaaGreatDoor
namespace Go.Proofs.YtkaiffheakalmaaGreatDoor
open Go.RowKit
theorem Iu (c:UInt8):Lib.indexByte [42,43,63] c=if c=42 then 0 else if c=43 then 1 else if c=63 then 2 else -1:=by
  by_cases h1:c=42
  . subst h1;rfl
  . by_cases h2:c=43
    . subst h2;rfl
    . by_cases h3:c=63
      . subst h3;rfl
      . have e1:((42:UInt8)==c)=false:=by rw [beq_eq_false_iff_ne];exact fun e=>h1 e.symm
        have e2:((43:UInt8)==c)=false:=by rw [beq_eq_false_iff_ne];exact fun e=>h2 e.symm
        have e3:((63:UInt8)==c)=false:=by rw [beq_eq_false_iff_ne];exact fun e=>h3 e.symm
        simp [Lib.indexByte,e1,e2,e3,h1,h2,h3]
theorem DU {x:Ex} {c:UInt8} {r:List UInt8} (h:DX c=true):suf x (c::r)=suf (.mk (Xu c) 0 [x]) r:=by rw [suf,if_pos h]
theorem D7 {x:Ex} {c:UInt8} {r:List UInt8} (h:¬DX c=true):suf x (c::r)=(x,c::r):=by rw [suf,if_neg h]
theorem Bq (x:Ex) (k:Int):An 4 [Ai x] [V.agg [.int .i64 k,.int .i64 0,.sl 4 0 1]]=[.agg [.int .i64 k,.int .i64 0,.lst [Ai x]]]:=by simp [An,V.frz]
theorem CI (k:Int) (x:Ex):Ai (.mk k 0 [x])= .agg [.int .i64 k,.int .i64 0,.lst [Ai x]]:=Cs k 0 [x]
def Qd (f:List UInt8→PR) (r:List UInt8):Prop:=HFn Tryz.prog 17 [.ptr 0 0 0] (cl r false) [0] (fun v o=>v=Ai (f r).1∧o=cl (f r).2.1 (f r).2.2)
set_option maxHeartbeats 8000000 in
theorem d2 (f:List UInt8→PR) (c:UInt8) (r:List UInt8) (hf:Qd f r):HFn Tryz.prog 70 [.ptr 0 0 0] (cl (c::r) false) [0] (fun v o=>v=Ai (CQ f c r).1∧o=cl (CQ f c r).2.1 (CQ f c r).2.2):=by
  have hc:=c.toNat_lt
  obtain ⟨x0,s0,b0,hbase⟩:∃x s b,EG f c r=(x,s,b):=⟨_,_,_,rfl⟩
  have hi:CQ f c r=((suf x0 s0).1,(suf x0 s0).2,b0):=by unfold CQ;rw [hbase]
  rw [hi]
  refine SF ?_
  refine HO (T:=Tryz.tt) Tryz.func70 rfl AR AB ?_ ?_ fun C vs hC hE=>?_
  . kernel_rfl
  . exact Nat.le_of_ble_eq_true (by kernel_rfl)
  have h0:Int.toNat 0 < (c::r).length:=by simp
  have h1:Int.toNat 1≤(c::r).length:=by simp
  have hD:R6 c=true∧(97≤c.toNat∧c.toNat≤104)∧x0= .mk 1 ((c.toNat:Int) - 97) []∧s0=r∧b0=false∨¬(97≤c.toNat∧c.toNat≤104)∧c.toNat=40∧(∃xa sa ba,f r=(xa,sa,ba)∧(ba=true∧x0=xa∧s0=sa∧b0=true∨ba=false∧MC sa 41=true∧x0=xa∧s0=Hx sa 41∧b0=false∨ba=false∧MC sa 41=false∧x0=xa∧s0=Hx sa 41∧b0=true))∨
      ¬(97≤c.toNat∧c.toNat≤104)∧¬c.toNat=40∧x0= .mk 0 0 []∧s0=r∧b0=true:=by
    unfold EG at hbase
    by_cases hlow:R6 c=true
    . rw [if_pos hlow] at hbase
      cases hbase
      exact .inl ⟨hlow,by unfold R6 at hlow;simpa using hlow,rfl,rfl,rfl⟩
    . rw [if_neg hlow] at hbase
      have hnl:¬(97≤c.toNat∧c.toNat≤104):=by unfold R6 at hlow;simpa using hlow
      by_cases h40:c=40
      . rw [if_pos h40] at hbase
        refine .inr (.inl ⟨hnl,by rw [h40];rfl,?_⟩)
        generalize f r=q at hbase
        obtain ⟨xa,sa,ba⟩:=q
        refine ⟨xa,sa,ba,rfl,?_⟩
        cases ba with
        | true=>
          simp only at hbase
          cases hbase
          exact .inl ⟨rfl,rfl,rfl,rfl⟩
        | false=>
          cases sa with
          | nil=>
            simp only at hbase
            cases hbase
            exact .inr (.inr ⟨rfl,rfl,rfl,rfl,rfl⟩)
          | cons d s'=>
            simp only at hbase
            by_cases hd:d=41
            . rw [if_pos hd] at hbase
              cases hbase
              exact .inr (.inl ⟨rfl,by rw [hd];rfl,rfl,by rw [hd];rfl,rfl⟩)
            . rw [if_neg hd] at hbase
              cases hbase
              refine .inr (.inr ⟨rfl,?_,rfl,?_,rfl⟩)
              . unfold MC;rw [decide_eq_false_iff_not];simpa using hd
              . unfold Hx;rw [if_neg (by simpa using hd)]
      . rw [if_neg h40] at hbase
        cases hbase
        exact .inr (.inr ⟨hnl,fun e=>h40 (UInt8.toNat_inj.1 e),rfl,rfl,rfl⟩)
  rcases hD with ⟨_,hb,rfl,rfl,rfl⟩|⟨hb,h40,xa,sa,ba,hfr,hD⟩|⟨hb,h40,rfl,rfl,rfl⟩
  . conv=>whnf
    repeat' (first|(refine AN (by first|assumption|omega) ?_;conv=>whnf)|(refine Af (by first|assumption|omega) ?_;conv=>whnf)|(refine AS (by omega) ?_;conv=>whnf)|(refine dE (by simp only [Mo,Mp];omega) ?_;conv=>whnf))
    generalize hR:suf (.mk 1 ((c.toNat:Int) - 97) []) s0=R
    refine Ae (fun ((x,s):Ex×List UInt8)=>⟨77,[(0,.ptr 0 0 0),(2,.ptr 2 0 0),(4,.ptr 3 0 0)],[some (.row 2 [.agg [.str s,.bool false]]),some (.hid vs [.ptr 0 0 0]),some (.row 3 [.agg [.int .i64 0,.int .i64 0,.nils]]),some (.row 3 [Ai x])]⟩)
      (fun (x,s)=>suf x s=R) (fun (_,s)=>s.length) ((.mk 1 ((c.toNat:Int) - 97) []),s0) hE ?_ ?_ hR ?_
    . kernel_rfl
    . first
        | exact AU [0,2,4] rfl
        | exact Pu 3 rfl (AU [0,2,4] rfl)
    rintro ⟨x,s⟩ hI
    have hI:suf x s=R:=hI
    obtain ⟨k,t,ps⟩:=x
    cases s with
    | nil=>
      have hI:(Ex.mk k t ps,[])=R:=hI
      subst hI
      conv=>whnf
      repeat' (refine AN rfl ?_;conv=>whnf)
      refine A2 hE ?_
      conv=>whnf
      exact ⟨rfl,rfl,rfl,rfl,DT (.mk k t ps),rfl⟩
    | cons d s=>
      have hn:¬(d::s=[]):=by simp
      have hn1:Int.toNat 1≤(d::s).length:=by simp
      have hn0:Int.toNat 0 < (d::s).length:=by simp
      by_cases hs:DX d=true
      . rw [DU hs] at hI
        have h3:d=42∨d=43∨d=63:=by unfold DX at hs;simpa [or_assoc] using hs
        rcases h3 with rfl|rfl|rfl
        . have hix:Fn1 Tryz.prog 89 [.str [42,43,63],.int .u8 (42:UInt8).toNat] (fun r=>r= .int .i64 0):=BE [42,43,63] 42
          conv=>whnf
          repeat' (first|(refine AM (by first|assumption|omega) ?_;conv=>whnf)|(refine Af (by first|assumption|omega) ?_;conv=>whnf)|(refine AS (by omega) ?_;conv=>whnf)|(refine AC (hix) hC Aw ?_ ?_ ?_;kernel_rfl;kernel_rfl;conv=>whnf))
          refine AO 4 (z:=3) (els:=[Ai (.mk k t ps)]) rfl ⟨BX (.mk k t ps),trivial⟩ (AL [0,2,4] [] (.mk 4 0 [.mk k t ps],s) hI (Nat.lt_succ_self _) ?_)
          conv=>whnf
          simp only [List.set_cons_zero,Bq (.mk k t ps),CI]
          rfl
        . have hix:Fn1 Tryz.prog 89 [.str [42,43,63],.int .u8 (43:UInt8).toNat] (fun r=>r= .int .i64 1):=BE [42,43,63] 43
          conv=>whnf
          repeat' (first|(refine AM (by first|assumption|omega) ?_;conv=>whnf)|(refine Af (by first|assumption|omega) ?_;conv=>whnf)|(refine AS (by omega) ?_;conv=>whnf)|(refine AC (hix) hC Aw ?_ ?_ ?_;kernel_rfl;kernel_rfl;conv=>whnf))
          refine AO 4 (z:=3) (els:=[Ai (.mk k t ps)]) rfl ⟨BX (.mk k t ps),trivial⟩ (AL [0,2,4] [] (.mk 5 0 [.mk k t ps],s) hI (Nat.lt_succ_self _) ?_)
          conv=>whnf
          simp only [List.set_cons_zero,Bq (.mk k t ps),CI]
          rfl
        . have hix:Fn1 Tryz.prog 89 [.str [42,43,63],.int .u8 (63:UInt8).toNat] (fun r=>r= .int .i64 2):=BE [42,43,63] 63
          conv=>whnf
          repeat' (first|(refine AM (by first|assumption|omega) ?_;conv=>whnf)|(refine Af (by first|assumption|omega) ?_;conv=>whnf)|(refine AS (by omega) ?_;conv=>whnf)|(refine AC (hix) hC Aw ?_ ?_ ?_;kernel_rfl;kernel_rfl;conv=>whnf))
          refine AO 4 (z:=3) (els:=[Ai (.mk k t ps)]) rfl ⟨BX (.mk k t ps),trivial⟩ (AL [0,2,4] [] (.mk 6 0 [.mk k t ps],s) hI (Nat.lt_succ_self _) ?_)
          conv=>whnf
          simp only [List.set_cons_zero,Bq (.mk k t ps),CI]
          rfl
      . rw [D7 hs] at hI
        subst hI
        have h3:¬d=42∧¬d=43∧¬d=63:=by unfold DX at hs;simpa [and_assoc] using hs
        have hix:=BE [42,43,63] d
        rw [Iu,if_neg h3.1,if_neg h3.2.1,if_neg h3.2.2] at hix
        conv=>whnf
        repeat' (first|(refine AN (by first|assumption|omega) ?_;conv=>whnf)|(refine AM (by first|assumption|omega) ?_;conv=>whnf)|(refine Af (by first|assumption|omega) ?_;conv=>whnf)|(refine AC (hix) hC Aw ?_ ?_ ?_;kernel_rfl;kernel_rfl;conv=>whnf))
        refine A2 hE ?_
        conv=>whnf
        exact ⟨rfl,rfl,rfl,rfl,DT (.mk k t ps),rfl⟩
  . unfold Qd at hf
    rw [hfr] at hf
    simp only at hf
    have htk:=T3 sa false 41
    rcases hD with ⟨rfl,rfl,rfl,rfl⟩|⟨rfl,ht,rfl,rfl,rfl⟩|⟨rfl,ht,rfl,rfl,rfl⟩
    . conv=>whnf
      repeat' (first|(refine AN (by first|assumption|omega) ?_;conv=>whnf)|(refine AM (by first|assumption|omega) ?_;conv=>whnf)|(refine Af (by first|assumption|omega) ?_;conv=>whnf)|(refine Bp hf hC C9 0 rfl trivial (BX _) rfl ⟨⟨trivial,trivial,trivial⟩,trivial⟩ ⟨⟨trivial,trivial,trivial⟩,trivial⟩ ?_;conv=>whnf))
      generalize hR:suf x0 s0=R
      refine Ae (fun ((x,s):Ex×List UInt8)=>⟨77,[(0,.ptr 0 0 0),(2,.ptr 2 0 0),(4,.ptr 3 0 0)],[some (.row 2 [.agg [.str s,.bool true]]),some (.hid vs [.ptr 0 0 0]),some (.row 3 [.agg [.int .i64 0,.int .i64 0,.nils]]),some (.row 3 [Ai x])]⟩)
        (fun (x,s)=>suf x s=R) (fun (_,s)=>s.length) (x0,s0) hE ?_ ?_ hR ?_
      . kernel_rfl
      . first
          | exact AU [0,2,4] rfl
          | exact Pu 3 rfl (AU [0,2,4] rfl)
      rintro ⟨x,s⟩ hI
      have hI:suf x s=R:=hI
      obtain ⟨k,t,ps⟩:=x
      cases s with
      | nil=>
        have hI:(Ex.mk k t ps,[])=R:=hI
        subst hI
        conv=>whnf
        repeat' (refine AN rfl ?_;conv=>whnf)
        refine A2 hE ?_
        conv=>whnf
        exact ⟨rfl,rfl,rfl,rfl,DT (.mk k t ps),rfl⟩
      | cons d s=>
        have hn:¬(d::s=[]):=by simp
        have hn1:Int.toNat 1≤(d::s).length:=by simp
        have hn0:Int.toNat 0 < (d::s).length:=by simp
        by_cases hs:DX d=true
        . rw [DU hs] at hI
          have h3:d=42∨d=43∨d=63:=by unfold DX at hs;simpa [or_assoc] using hs
          rcases h3 with rfl|rfl|rfl
          . have hix:Fn1 Tryz.prog 89 [.str [42,43,63],.int .u8 (42:UInt8).toNat] (fun r=>r= .int .i64 0):=BE [42,43,63] 42
            conv=>whnf
            repeat' (first|(refine AM (by first|assumption|omega) ?_;conv=>whnf)|(refine Af (by first|assumption|omega) ?_;conv=>whnf)|(refine AS (by omega) ?_;conv=>whnf)|(refine AC (hix) hC Aw ?_ ?_ ?_;kernel_rfl;kernel_rfl;conv=>whnf))
            refine AO 4 (z:=3) (els:=[Ai (.mk k t ps)]) rfl ⟨BX (.mk k t ps),trivial⟩ (AL [0,2,4] [] (.mk 4 0 [.mk k t ps],s) hI (Nat.lt_succ_self _) ?_)
            conv=>whnf
            simp only [List.set_cons_zero,Bq (.mk k t ps),CI]
            rfl
          . have hix:Fn1 Tryz.prog 89 [.str [42,43,63],.int .u8 (43:UInt8).toNat] (fun r=>r= .int .i64 1):=BE [42,43,63] 43
            conv=>whnf
            repeat' (first|(refine AM (by first|assumption|omega) ?_;conv=>whnf)|(refine Af (by first|assumption|omega) ?_;conv=>whnf)|(refine AS (by omega) ?_;conv=>whnf)|(refine AC (hix) hC Aw ?_ ?_ ?_;kernel_rfl;kernel_rfl;conv=>whnf))
            refine AO 4 (z:=3) (els:=[Ai (.mk k t ps)]) rfl ⟨BX (.mk k t ps),trivial⟩ (AL [0,2,4] [] (.mk 5 0 [.mk k t ps],s) hI (Nat.lt_succ_self _) ?_)
            conv=>whnf
            simp only [List.set_cons_zero,Bq (.mk k t ps),CI]
            rfl
          . have hix:Fn1 Tryz.prog 89 [.str [42,43,63],.int .u8 (63:UInt8).toNat] (fun r=>r= .int .i64 2):=BE [42,43,63] 63
            conv=>whnf
            repeat' (first|(refine AM (by first|assumption|omega) ?_;conv=>whnf)|(refine Af (by first|assumption|omega) ?_;conv=>whnf)|(refine AS (by omega) ?_;conv=>whnf)|(refine AC (hix) hC Aw ?_ ?_ ?_;kernel_rfl;kernel_rfl;conv=>whnf))
            refine AO 4 (z:=3) (els:=[Ai (.mk k t ps)]) rfl ⟨BX (.mk k t ps),trivial⟩ (AL [0,2,4] [] (.mk 6 0 [.mk k t ps],s) hI (Nat.lt_succ_self _) ?_)
            conv=>whnf
            simp only [List.set_cons_zero,Bq (.mk k t ps),CI]
            rfl
        . rw [D7 hs] at hI
          subst hI
          have h3:¬d=42∧¬d=43∧¬d=63:=by unfold DX at hs;simpa [and_assoc] using hs
          have hix:=BE [42,43,63] d
          rw [Iu,if_neg h3.1,if_neg h3.2.1,if_neg h3.2.2] at hix
          conv=>whnf
          repeat' (first|(refine AN (by first|assumption|omega) ?_;conv=>whnf)|(refine AM (by first|assumption|omega) ?_;conv=>whnf)|(refine Af (by first|assumption|omega) ?_;conv=>whnf)|(refine AC (hix) hC Aw ?_ ?_ ?_;kernel_rfl;kernel_rfl;conv=>whnf))
          refine A2 hE ?_
          conv=>whnf
          exact ⟨rfl,rfl,rfl,rfl,DT (.mk k t ps),rfl⟩
    . rw [ht] at htk
      conv=>whnf
      repeat' (first|(refine AN (by first|assumption|omega) ?_;conv=>whnf)|(refine AM (by first|assumption|omega) ?_;conv=>whnf)|(refine Af (by first|assumption|omega) ?_;conv=>whnf)|(refine Bp hf hC C9 0 rfl trivial (BX _) rfl ⟨⟨trivial,trivial,trivial⟩,trivial⟩ ⟨⟨trivial,trivial,trivial⟩,trivial⟩ ?_;conv=>whnf)|(refine Bp htk hC E1 0 rfl ⟨trivial,trivial⟩ trivial rfl ⟨⟨trivial,trivial,trivial⟩,trivial⟩ ⟨⟨trivial,trivial,trivial⟩,trivial⟩ ?_;conv=>whnf))
      generalize hR:suf x0 (Hx sa 41)=R
      refine Ae (fun ((x,s):Ex×List UInt8)=>⟨77,[(0,.ptr 0 0 0),(2,.ptr 2 0 0),(4,.ptr 3 0 0)],[some (.row 2 [.agg [.str s,.bool false]]),some (.hid vs [.ptr 0 0 0]),some (.row 3 [.agg [.int .i64 0,.int .i64 0,.nils]]),some (.row 3 [Ai x])]⟩)
        (fun (x,s)=>suf x s=R) (fun (_,s)=>s.length) (x0,(Hx sa 41)) hE ?_ ?_ hR ?_
      . kernel_rfl
      . first
          | exact AU [0,2,4] rfl
          | exact Pu 3 rfl (AU [0,2,4] rfl)
      rintro ⟨x,s⟩ hI
      have hI:suf x s=R:=hI
      obtain ⟨k,t,ps⟩:=x
      cases s with
      | nil=>
        have hI:(Ex.mk k t ps,[])=R:=hI
        subst hI
        conv=>whnf
        repeat' (refine AN rfl ?_;conv=>whnf)
        refine A2 hE ?_
        conv=>whnf
        exact ⟨rfl,rfl,rfl,rfl,DT (.mk k t ps),rfl⟩
      | cons d s=>
        have hn:¬(d::s=[]):=by simp
        have hn1:Int.toNat 1≤(d::s).length:=by simp
        have hn0:Int.toNat 0 < (d::s).length:=by simp
        by_cases hs:DX d=true
        . rw [DU hs] at hI
          have h3:d=42∨d=43∨d=63:=by unfold DX at hs;simpa [or_assoc] using hs
          rcases h3 with rfl|rfl|rfl
          . have hix:Fn1 Tryz.prog 89 [.str [42,43,63],.int .u8 (42:UInt8).toNat] (fun r=>r= .int .i64 0):=BE [42,43,63] 42
            conv=>whnf
            repeat' (first|(refine AM (by first|assumption|omega) ?_;conv=>whnf)|(refine Af (by first|assumption|omega) ?_;conv=>whnf)|(refine AS (by omega) ?_;conv=>whnf)|(refine AC (hix) hC Aw ?_ ?_ ?_;kernel_rfl;kernel_rfl;conv=>whnf))
            refine AO 4 (z:=3) (els:=[Ai (.mk k t ps)]) rfl ⟨BX (.mk k t ps),trivial⟩ (AL [0,2,4] [] (.mk 4 0 [.mk k t ps],s) hI (Nat.lt_succ_self _) ?_)
            conv=>whnf
            simp only [List.set_cons_zero,Bq (.mk k t ps),CI]
            rfl
          . have hix:Fn1 Tryz.prog 89 [.str [42,43,63],.int .u8 (43:UInt8).toNat] (fun r=>r= .int .i64 1):=BE [42,43,63] 43
            conv=>whnf
            repeat' (first|(refine AM (by first|assumption|omega) ?_;conv=>whnf)|(refine Af (by first|assumption|omega) ?_;conv=>whnf)|(refine AS (by omega) ?_;conv=>whnf)|(refine AC (hix) hC Aw ?_ ?_ ?_;kernel_rfl;kernel_rfl;conv=>whnf))
            refine AO 4 (z:=3) (els:=[Ai (.mk k t ps)]) rfl ⟨BX (.mk k t ps),trivial⟩ (AL [0,2,4] [] (.mk 5 0 [.mk k t ps],s) hI (Nat.lt_succ_self _) ?_)
            conv=>whnf
            simp only [List.set_cons_zero,Bq (.mk k t ps),CI]
            rfl
          . have hix:Fn1 Tryz.prog 89 [.str [42,43,63],.int .u8 (63:UInt8).toNat] (fun r=>r= .int .i64 2):=BE [42,43,63] 63
            conv=>whnf
            repeat' (first|(refine AM (by first|assumption|omega) ?_;conv=>whnf)|(refine Af (by first|assumption|omega) ?_;conv=>whnf)|(refine AS (by omega) ?_;conv=>whnf)|(refine AC (hix) hC Aw ?_ ?_ ?_;kernel_rfl;kernel_rfl;conv=>whnf))
            refine AO 4 (z:=3) (els:=[Ai (.mk k t ps)]) rfl ⟨BX (.mk k t ps),trivial⟩ (AL [0,2,4] [] (.mk 6 0 [.mk k t ps],s) hI (Nat.lt_succ_self _) ?_)
            conv=>whnf
            simp only [List.set_cons_zero,Bq (.mk k t ps),CI]
            rfl
        . rw [D7 hs] at hI
          subst hI
          have h3:¬d=42∧¬d=43∧¬d=63:=by unfold DX at hs;simpa [and_assoc] using hs
          have hix:=BE [42,43,63] d
          rw [Iu,if_neg h3.1,if_neg h3.2.1,if_neg h3.2.2] at hix
          conv=>whnf
          repeat' (first|(refine AN (by first|assumption|omega) ?_;conv=>whnf)|(refine AM (by first|assumption|omega) ?_;conv=>whnf)|(refine Af (by first|assumption|omega) ?_;conv=>whnf)|(refine AC (hix) hC Aw ?_ ?_ ?_;kernel_rfl;kernel_rfl;conv=>whnf))
          refine A2 hE ?_
          conv=>whnf
          exact ⟨rfl,rfl,rfl,rfl,DT (.mk k t ps),rfl⟩
    . rw [ht] at htk
      conv=>whnf
      repeat' (first|(refine AN (by first|assumption|omega) ?_;conv=>whnf)|(refine AM (by first|assumption|omega) ?_;conv=>whnf)|(refine Af (by first|assumption|omega) ?_;conv=>whnf)|(refine Bp hf hC C9 0 rfl trivial (BX _) rfl ⟨⟨trivial,trivial,trivial⟩,trivial⟩ ⟨⟨trivial,trivial,trivial⟩,trivial⟩ ?_;conv=>whnf)|(refine Bp htk hC E1 0 rfl ⟨trivial,trivial⟩ trivial rfl ⟨⟨trivial,trivial,trivial⟩,trivial⟩ ⟨⟨trivial,trivial,trivial⟩,trivial⟩ ?_;conv=>whnf))
      generalize hR:suf x0 (Hx sa 41)=R
      refine Ae (fun ((x,s):Ex×List UInt8)=>⟨77,[(0,.ptr 0 0 0),(2,.ptr 2 0 0),(4,.ptr 3 0 0)],[some (.row 2 [.agg [.str s,.bool true]]),some (.hid vs [.ptr 0 0 0]),some (.row 3 [.agg [.int .i64 0,.int .i64 0,.nils]]),some (.row 3 [Ai x])]⟩)
        (fun (x,s)=>suf x s=R) (fun (_,s)=>s.length) (x0,(Hx sa 41)) hE ?_ ?_ hR ?_
      . kernel_rfl
      . first
          | exact AU [0,2,4] rfl
          | exact Pu 3 rfl (AU [0,2,4] rfl)
      rintro ⟨x,s⟩ hI
      have hI:suf x s=R:=hI
      obtain ⟨k,t,ps⟩:=x
      cases s with
      | nil=>
        have hI:(Ex.mk k t ps,[])=R:=hI
        subst hI
        conv=>whnf
        repeat' (refine AN rfl ?_;conv=>whnf)
        refine A2 hE ?_
        conv=>whnf
        exact ⟨rfl,rfl,rfl,rfl,DT (.mk k t ps),rfl⟩
      | cons d s=>
        have hn:¬(d::s=[]):=by simp
        have hn1:Int.toNat 1≤(d::s).length:=by simp
        have hn0:Int.toNat 0 < (d::s).length:=by simp
        by_cases hs:DX d=true
        . rw [DU hs] at hI
          have h3:d=42∨d=43∨d=63:=by unfold DX at hs;simpa [or_assoc] using hs
          rcases h3 with rfl|rfl|rfl
          . have hix:Fn1 Tryz.prog 89 [.str [42,43,63],.int .u8 (42:UInt8).toNat] (fun r=>r= .int .i64 0):=BE [42,43,63] 42
            conv=>whnf
            repeat' (first|(refine AM (by first|assumption|omega) ?_;conv=>whnf)|(refine Af (by first|assumption|omega) ?_;conv=>whnf)|(refine AS (by omega) ?_;conv=>whnf)|(refine AC (hix) hC Aw ?_ ?_ ?_;kernel_rfl;kernel_rfl;conv=>whnf))
            refine AO 4 (z:=3) (els:=[Ai (.mk k t ps)]) rfl ⟨BX (.mk k t ps),trivial⟩ (AL [0,2,4] [] (.mk 4 0 [.mk k t ps],s) hI (Nat.lt_succ_self _) ?_)
            conv=>whnf
            simp only [List.set_cons_zero,Bq (.mk k t ps),CI]
            rfl
          . have hix:Fn1 Tryz.prog 89 [.str [42,43,63],.int .u8 (43:UInt8).toNat] (fun r=>r= .int .i64 1):=BE [42,43,63] 43
            conv=>whnf
            repeat' (first|(refine AM (by first|assumption|omega) ?_;conv=>whnf)|(refine Af (by first|assumption|omega) ?_;conv=>whnf)|(refine AS (by omega) ?_;conv=>whnf)|(refine AC (hix) hC Aw ?_ ?_ ?_;kernel_rfl;kernel_rfl;conv=>whnf))
            refine AO 4 (z:=3) (els:=[Ai (.mk k t ps)]) rfl ⟨BX (.mk k t ps),trivial⟩ (AL [0,2,4] [] (.mk 5 0 [.mk k t ps],s) hI (Nat.lt_succ_self _) ?_)
            conv=>whnf
            simp only [List.set_cons_zero,Bq (.mk k t ps),CI]
            rfl
          . have hix:Fn1 Tryz.prog 89 [.str [42,43,63],.int .u8 (63:UInt8).toNat] (fun r=>r= .int .i64 2):=BE [42,43,63] 63
            conv=>whnf
            repeat' (first|(refine AM (by first|assumption|omega) ?_;conv=>whnf)|(refine Af (by first|assumption|omega) ?_;conv=>whnf)|(refine AS (by omega) ?_;conv=>whnf)|(refine AC (hix) hC Aw ?_ ?_ ?_;kernel_rfl;kernel_rfl;conv=>whnf))
            refine AO 4 (z:=3) (els:=[Ai (.mk k t ps)]) rfl ⟨BX (.mk k t ps),trivial⟩ (AL [0,2,4] [] (.mk 6 0 [.mk k t ps],s) hI (Nat.lt_succ_self _) ?_)
            conv=>whnf
            simp only [List.set_cons_zero,Bq (.mk k t ps),CI]
            rfl
        . rw [D7 hs] at hI
          subst hI
          have h3:¬d=42∧¬d=43∧¬d=63:=by unfold DX at hs;simpa [and_assoc] using hs
          have hix:=BE [42,43,63] d
          rw [Iu,if_neg h3.1,if_neg h3.2.1,if_neg h3.2.2] at hix
          conv=>whnf
          repeat' (first|(refine AN (by first|assumption|omega) ?_;conv=>whnf)|(refine AM (by first|assumption|omega) ?_;conv=>whnf)|(refine Af (by first|assumption|omega) ?_;conv=>whnf)|(refine AC (hix) hC Aw ?_ ?_ ?_;kernel_rfl;kernel_rfl;conv=>whnf))
          refine A2 hE ?_
          conv=>whnf
          exact ⟨rfl,rfl,rfl,rfl,DT (.mk k t ps),rfl⟩
  . conv=>whnf
    repeat' (first|(refine AM (by first|assumption|omega) ?_;conv=>whnf)|(refine Af (by first|assumption|omega) ?_;conv=>whnf)|(refine He (fun h=>?_) (fun h=>?_)<;>conv=>whnf))
    all_goals
      generalize hR:suf (.mk 0 0 []) s0=R
      refine Ae (fun ((x,s):Ex×List UInt8)=>⟨77,[(0,.ptr 0 0 0),(2,.ptr 2 0 0),(4,.ptr 3 0 0)],[some (.row 2 [.agg [.str s,.bool true]]),some (.hid vs [.ptr 0 0 0]),some (.row 3 [.agg [.int .i64 0,.int .i64 0,.nils]]),some (.row 3 [Ai x])]⟩)
        (fun (x,s)=>suf x s=R) (fun (_,s)=>s.length) ((.mk 0 0 []),s0) hE ?_ ?_ hR ?_
      . kernel_rfl
      . first
          | exact AU [0,2,4] rfl
          | exact Pu 3 rfl (AU [0,2,4] rfl)
      rintro ⟨x,s⟩ hI
      have hI:suf x s=R:=hI
      obtain ⟨k,t,ps⟩:=x
      cases s with
      | nil=>
        have hI:(Ex.mk k t ps,[])=R:=hI
        subst hI
        conv=>whnf
        repeat' (refine AN rfl ?_;conv=>whnf)
        refine A2 hE ?_
        conv=>whnf
        exact ⟨rfl,rfl,rfl,rfl,DT (.mk k t ps),rfl⟩
      | cons d s=>
        have hn:¬(d::s=[]):=by simp
        have hn1:Int.toNat 1≤(d::s).length:=by simp
        have hn0:Int.toNat 0 < (d::s).length:=by simp
        by_cases hs:DX d=true
        . rw [DU hs] at hI
          have h3:d=42∨d=43∨d=63:=by unfold DX at hs;simpa [or_assoc] using hs
          rcases h3 with rfl|rfl|rfl
          . have hix:Fn1 Tryz.prog 89 [.str [42,43,63],.int .u8 (42:UInt8).toNat] (fun r=>r= .int .i64 0):=BE [42,43,63] 42
            conv=>whnf
            repeat' (first|(refine AM (by first|assumption|omega) ?_;conv=>whnf)|(refine Af (by first|assumption|omega) ?_;conv=>whnf)|(refine AS (by omega) ?_;conv=>whnf)|(refine AC (hix) hC Aw ?_ ?_ ?_;kernel_rfl;kernel_rfl;conv=>whnf))
            refine AO 4 (z:=3) (els:=[Ai (.mk k t ps)]) rfl ⟨BX (.mk k t ps),trivial⟩ (AL [0,2,4] [] (.mk 4 0 [.mk k t ps],s) hI (Nat.lt_succ_self _) ?_)
            conv=>whnf
            simp only [List.set_cons_zero,Bq (.mk k t ps),CI]
            rfl
          . have hix:Fn1 Tryz.prog 89 [.str [42,43,63],.int .u8 (43:UInt8).toNat] (fun r=>r= .int .i64 1):=BE [42,43,63] 43
            conv=>whnf
            repeat' (first|(refine AM (by first|assumption|omega) ?_;conv=>whnf)|(refine Af (by first|assumption|omega) ?_;conv=>whnf)|(refine AS (by omega) ?_;conv=>whnf)|(refine AC (hix) hC Aw ?_ ?_ ?_;kernel_rfl;kernel_rfl;conv=>whnf))
            refine AO 4 (z:=3) (els:=[Ai (.mk k t ps)]) rfl ⟨BX (.mk k t ps),trivial⟩ (AL [0,2,4] [] (.mk 5 0 [.mk k t ps],s) hI (Nat.lt_succ_self _) ?_)
            conv=>whnf
            simp only [List.set_cons_zero,Bq (.mk k t ps),CI]
            rfl
          . have hix:Fn1 Tryz.prog 89 [.str [42,43,63],.int .u8 (63:UInt8).toNat] (fun r=>r= .int .i64 2):=BE [42,43,63] 63
            conv=>whnf
            repeat' (first|(refine AM (by first|assumption|omega) ?_;conv=>whnf)|(refine Af (by first|assumption|omega) ?_;conv=>whnf)|(refine AS (by omega) ?_;conv=>whnf)|(refine AC (hix) hC Aw ?_ ?_ ?_;kernel_rfl;kernel_rfl;conv=>whnf))
            refine AO 4 (z:=3) (els:=[Ai (.mk k t ps)]) rfl ⟨BX (.mk k t ps),trivial⟩ (AL [0,2,4] [] (.mk 6 0 [.mk k t ps],s) hI (Nat.lt_succ_self _) ?_)
            conv=>whnf
            simp only [List.set_cons_zero,Bq (.mk k t ps),CI]
            rfl
        . rw [D7 hs] at hI
          subst hI
          have h3:¬d=42∧¬d=43∧¬d=63:=by unfold DX at hs;simpa [and_assoc] using hs
          have hix:=BE [42,43,63] d
          rw [Iu,if_neg h3.1,if_neg h3.2.1,if_neg h3.2.2] at hix
          conv=>whnf
          repeat' (first|(refine AN (by first|assumption|omega) ?_;conv=>whnf)|(refine AM (by first|assumption|omega) ?_;conv=>whnf)|(refine Af (by first|assumption|omega) ?_;conv=>whnf)|(refine AC (hix) hC Aw ?_ ?_ ?_;kernel_rfl;kernel_rfl;conv=>whnf))
          refine A2 hE ?_
          conv=>whnf
          exact ⟨rfl,rfl,rfl,rfl,DT (.mk k t ps),rfl⟩
end Go.Proofs.YtkaiffheakalmaaGreatDoor
namespace Go.Proofs.YtkaiffheakalmaaGreatDoor
open Go.RowKit
def Hy (f:List UInt8→PR) (s:List UInt8) (b:Bool):PR:=if b=true then (Fm 2 [],s,true) else D5 f s
theorem X3 (f:List UInt8→PR) (n:Nat) (l:List Ex):B5 f n [] l=(l,[],false):=by cases n<;>rfl
theorem X4 (l:List Ex) (x:Ex):List.take l.length (List.drop 0 (l.map Ai))++List.take 1 (List.drop 0 [V.agg [.int .i64 x.kind,.int .i64 x.type,.lst (JK x.parts)]])=(l++[x]).map Ai:=by
  rw [List.drop_zero,List.take_of_length_le (by simp),List.map_append]
  rfl
theorem MD (l:List Ex) (x:Ex):l.length+(List.take 1 (List.drop 0 [V.agg [.int .i64 x.kind,.int .i64 x.type,.lst (JK x.parts)]])).length=(l++[x]).length:=by simp
theorem F5 (l:List Ex):(l.map Ai).length=l.length:=by simp
set_option maxHeartbeats 8000000 in
theorem cm (f:List UInt8→PR) (s0:List UInt8) (b0:Bool) (hlen:s0.length≤40) (hf:∀r:List UInt8,r.length < s0.length→Qd f r) (hz:∀r:List UInt8,r.length < s0.length→Xv f r):
    HFn Tryz.prog 39 [.ptr 0 0 0] (cl s0 b0) [0] (fun v o=>v=Ai (Hy f s0 b0).1∧o=cl (Hy f s0 b0).2.1 (Hy f s0 b0).2.2):=by
  obtain ⟨l1,s1,b1,hseq⟩:∃l s b,(if b0=true then ([],s0,true) else B5 f s0.length s0 [])=(l,s,b):=⟨_,_,_,rfl⟩
  have hA:Hy f s0 b0=(Fm 2 l1,s1,b1):=by
    unfold Hy D5
    cases b0
    . simp only [Bool.false_eq_true,if_false] at hseq ⊢;rw [hseq]
    . simp only [if_true] at hseq ⊢;cases hseq;rfl
  rw [hA]
  have h320:A7 []+8*s0.length≤320:=by simp [Bi];omega
  refine SF ?_
  refine HO (T:=Tryz.tt) Tryz.func39 rfl AR AB ?_ ?_ fun C vs hC hE=>?_
  . kernel_rfl
  . exact Nat.le_of_ble_eq_true (by kernel_rfl)
  conv=>whnf
  skip
  refine Ae (fun ((n,l,s,b):Nat×List Ex×List UInt8×Bool)=>⟨39,[(0,.ptr 0 0 0),(2,.ptr 2 0 0),(3,.sl 3 0 l.length)],[some (.row 2 [.agg [.str s,.bool b]]),some (.hid vs [.ptr 0 0 0]),some (.row 3 [.agg [.int .i64 0,.int .i64 0,.nils]]),some (.row 3 (l.map Ai))]⟩)
    (fun (n,l,s,b)=>s.length≤n∧s.length≤s0.length∧A7 l+8*s.length≤320∧(if b=true then (l,s,true) else B5 f n s l)=(l1,s1,b1)) (fun (n,_)=>n) (s0.length,[],s0,b0) hE ?_ ?_ ⟨Nat.le_refl _,Nat.le_refl _,h320,hseq⟩ ?_
  . kernel_rfl
  . exact JC 3 3 rfl rfl (AU [0,2,3] rfl)
  rintro ⟨n,l,s,b⟩ ⟨hn,hs0,hsz,hI⟩
  have hn:s.length≤n:=hn
  have hs0:s.length≤s0.length:=hs0
  have hsz:A7 l+8*s.length≤320:=hsz
  have hI:(if b=true then (l,s,true) else B5 f n s l)=(l1,s1,b1):=hI
  have hll:=D2 l
  have hlm:=F5 l
  have htw:=Qc 2 l (by omega)
  cases b with
  | true=>
    rw [if_pos rfl] at hI
    cases hI
    conv=>whnf
    repeat' (first|(refine Ak (BM 3 37 [0,2] (z:=3) rfl (Fx _) rfl (F5 _).symm rfl (AP ?_));conv=>whnf)|(refine AC (htw) hC E2 ?_ ?_ ?_;kernel_rfl;kernel_rfl;conv=>whnf))
    refine A2 hE ?_
    conv=>whnf
    exact ⟨rfl,rfl,rfl,rfl,DT _,rfl⟩
  | false=>
    simp only [Bool.false_eq_true,if_false] at hI
    cases s with
    | nil=>
      rw [X3] at hI
      cases hI
      conv=>whnf
      repeat' (first|(refine AN rfl ?_;conv=>whnf)|(refine Ak (BM 3 37 [0,2] (z:=3) rfl (Fx _) rfl (F5 _).symm rfl (AP ?_));conv=>whnf)|(refine AC (htw) hC E2 ?_ ?_ ?_;kernel_rfl;kernel_rfl;conv=>whnf))
      refine A2 hE ?_
      conv=>whnf
      exact ⟨rfl,rfl,rfl,rfl,DT _,rfl⟩
    | cons c r=>
      have hne:¬(c::r=[]):=by simp
      have hi0:Int.toNat 0 < (c::r).length:=by simp
      cases n with
      | zero=>exact absurd hn (by simp)
      | succ n=>
      by_cases hst:c=124∨c=41
      . rw [B5,if_pos hst] at hI
        cases hI
        have hst2:c.toNat=124∨c.toNat=41:=by rcases hst with h|h<;>rw [h]<;>decide
        rcases hst2 with hst2|hst2
        all_goals
          conv=>whnf
          repeat' (first|(refine AN (by first|assumption|omega) ?_;conv=>whnf)|(refine AM (by first|assumption|omega) ?_;conv=>whnf)|(refine Af (by first|assumption|omega) ?_;conv=>whnf)|(refine Ak (BM 3 37 [0,2] (z:=3) rfl (Fx _) rfl (F5 _).symm rfl (AP ?_));conv=>whnf)|(refine AC (htw) hC E2 ?_ ?_ ?_;kernel_rfl;kernel_rfl;conv=>whnf))
          refine A2 hE ?_
          conv=>whnf
          exact ⟨rfl,rfl,rfl,rfl,DT _,rfl⟩
      . have hst2:¬c.toNat=124∧¬c.toNat=41:=⟨fun e=>hst (.inl (UInt8.toNat_inj.1 e)),fun e=>hst (.inr (UInt8.toNat_inj.1 e))⟩
        obtain ⟨h124,h41⟩:=hst2
        rw [B5,if_neg hst] at hI
        simp only [List.length_cons] at hn hs0 hsz
        have hit:=d2 f c r (hf r (by omega))
        have hiz:=Tx c r (hz r (by omega))
        obtain ⟨x,s',b',hx⟩:∃x s b,CQ f c r=(x,s,b):=⟨_,_,_,rfl⟩
        rw [hx] at hit hiz hI
        simp only at hit hiz hI
        have hap:=X4 l x
        have hal:=MD l x
        conv=>whnf
        repeat' (first|(refine AM (by first|assumption|omega) ?_;conv=>whnf)|(refine Af (by first|assumption|omega) ?_;conv=>whnf)|(refine Bp hit hC Sm 0 rfl trivial (BX _) rfl ⟨⟨trivial,trivial,trivial⟩,trivial⟩ ⟨⟨trivial,trivial,trivial⟩,trivial⟩ ?_;conv=>whnf)|(refine Af (Nat.le_refl 1) ?_;conv=>whnf)|(refine Af ⟨?_,?_,?_⟩ ?_;omega;(show _+1≤9223372036854775807;omega);(show (_+1)*_≤140737488355328;omega);conv=>whnf))
        all_goals
          refine AL [0,2,3] [4] (n,l++[x],s',b') ⟨?_,?_,?_,?_⟩ (Nat.lt_succ_self n) ?_
          . show s'.length≤n;omega
          . show s'.length≤s0.length;omega
          . show A7 (l++[x])+8*s'.length≤320
            rw [D6,CR];omega
          . show (if b'=true then (l++[x],s',true) else B5 f n s' (l++[x]))=(l1,s1,b1)
            rw [←hI]
          . conv=>whnf
            rw [hap,ER,ER,hal]
            rfl
theorem iD (f:List UInt8→PR) (s0:List UInt8) (hlen:s0.length≤40) (hf:∀r:List UInt8,r.length < s0.length→Qd f r) (hz:∀r:List UInt8,r.length < s0.length→Xv f r) (g:List UInt8→PR)
    (hg:g s0=(Fm 3 (Ct f s0.length (D5 f s0).2.1 (D5 f s0).2.2 [(D5 f s0).1]).1,(Ct f s0.length (D5 f s0).2.1 (D5 f s0).2.2 [(D5 f s0).1]).2)):Qd g s0:=by
  unfold Qd
  rw [hg]
  have hps:=Ov (f:=f) s0 hz
  have hsq:=cm f s0 false hlen hf hz
  rw [show Hy f s0 false=D5 f s0 from rfl] at hsq
  obtain ⟨x0,s0',b0,hp⟩:∃x s b,D5 f s0=(x,s,b):=⟨_,_,_,rfl⟩
  rw [hp] at hps hsq ⊢
  simp only at hps hsq ⊢
  obtain ⟨l1,s1,b1,halt⟩:∃l s b,Ct f s0.length s0' b0 [x0]=(l,s,b):=⟨_,_,_,rfl⟩
  rw [halt]
  have h324:A7 [x0]+8*s0'.length≤324:=by rw [CR];omega
  have hs0':s0'.length≤s0.length:=hps.2
  refine SF ?_
  refine HO (T:=Tryz.tt) Tryz.func17 rfl AR AB ?_ ?_ fun C vs hC hE=>?_
  . kernel_rfl
  . exact Nat.le_of_ble_eq_true (by kernel_rfl)
  conv=>whnf
  repeat' (refine Bp hsq hC MU 0 rfl trivial (BX _) rfl ⟨⟨trivial,trivial,trivial⟩,trivial⟩ ⟨⟨trivial,trivial,trivial⟩,trivial⟩ ?_;conv=>whnf)
  refine Ae (fun ((n,l,s,b):Nat×List Ex×List UInt8×Bool)=>⟨16,[(0,.ptr 0 0 0),(2,.ptr 2 0 0),(3,.sl 3 0 l.length)],[some (.row 2 [.agg [.str s,.bool b]]),some (.hid vs [.ptr 0 0 0]),some (.row 3 [.agg [.int .i64 0,.int .i64 0,.nils]]),some (.row 3 (l.map Ai))]⟩)
    (fun (n,l,s,b)=>s.length≤n∧s.length≤s0.length∧A7 l+8*s.length≤324∧Ct f n s b l=(l1,s1,b1)) (fun (n,_)=>n) (s0.length,[x0],s0',b0) hE ?_ ?_ ⟨hs0',hs0',h324,halt⟩ ?_
  . kernel_rfl
  . exact AU [0,2,3] rfl
  rintro ⟨n,l,s,b⟩ ⟨hn,hs0,hsz,hI⟩
  have hn:s.length≤n:=hn
  have hs0:s.length≤s0.length:=hs0
  have hsz:A7 l+8*s.length≤324:=hsz
  have hI:Ct f n s b l=(l1,s1,b1):=hI
  have hll:=D2 l
  have hlm:=F5 l
  have htw:=Qc 3 l (by omega)
  have htk:=T3 s b 124
  cases s with
  | nil=>
    have e1:Ct f n [] b l=(l,[],b):=by cases n<;>rfl
    rw [e1] at hI
    cases hI
    conv=>whnf
    repeat' (first|(refine Bp htk hC E1 0 rfl ⟨trivial,trivial⟩ trivial rfl ⟨⟨trivial,trivial,trivial⟩,trivial⟩ ⟨⟨trivial,trivial,trivial⟩,trivial⟩ ?_;conv=>whnf)|(refine Ak (BM 3 14 [0,2] (z:=3) rfl (Fx _) rfl (F5 _).symm rfl (AP ?_));conv=>whnf)|(refine AC (htw) hC E2 ?_ ?_ ?_;kernel_rfl;kernel_rfl;conv=>whnf))
    refine A2 hE ?_
    conv=>whnf
    exact ⟨rfl,rfl,rfl,rfl,DT _,rfl⟩
  | cons c r=>
    cases n with
    | zero=>exact absurd hn (by simp)
    | succ n=>
    by_cases h124:c=124
    . have ht:MC (c::r) 124=true:=by rw [h124];rfl
      have hs:Hx (c::r) 124=r:=by rw [h124];rfl
      rw [ht,hs] at htk
      rw [Ct,if_pos h124] at hI
      simp only [List.length_cons] at hn hs0 hsz
      have hsq2:=cm f r b (by omega) (fun q hq=>hf q (by omega)) (fun q hq=>hz q (by omega))
      have hpz:=Ov (f:=f) r (fun q hq=>hz q (by omega))
      have hI2:Ct f n (Hy f r b).2.1 (Hy f r b).2.2 (l++[(Hy f r b).1])=(l1,s1,b1):=by
        rw [←hI]
        unfold Hy
        cases b<;>rfl
      have hsz2:EY (Hy f r b).1+8*(Hy f r b).2.1.length≤8*r.length+4∧(Hy f r b).2.1.length≤r.length:=by
        unfold Hy
        split
        . have:EY (Fm 2 [])=4:=by rw [Tw,CV];simp [Bi]
          simp only;omega
        . exact hpz
      obtain ⟨x,s',b',hx⟩:∃x s b',Hy f r b=(x,s,b'):=⟨_,_,_,rfl⟩
      rw [hx] at hsq2 hsz2 hI2
      simp only at hsq2 hsz2 hI2
      have hap:=X4 l x
      have hal:=MD l x
      conv=>whnf
      repeat' (first|(refine Bp htk hC E1 0 rfl ⟨trivial,trivial⟩ trivial rfl ⟨⟨trivial,trivial,trivial⟩,trivial⟩ ⟨⟨trivial,trivial,trivial⟩,trivial⟩ ?_;conv=>whnf)|(refine Bp hsq2 hC MU 0 rfl trivial (BX _) rfl ⟨⟨trivial,trivial,trivial⟩,trivial⟩ ⟨⟨trivial,trivial,trivial⟩,trivial⟩ ?_;conv=>whnf)|(refine Af (Nat.le_refl 1) ?_;conv=>whnf)|(refine Af ⟨?_,?_,?_⟩ ?_;omega;(show _+1≤9223372036854775807;omega);(show (_+1)*_≤140737488355328;omega);conv=>whnf))
      all_goals
        refine AL [0,2,3] [4] (n,l++[x],s',b') ⟨?_,?_,?_,hI2⟩ (Nat.lt_succ_self n) ?_
        . show s'.length≤n;omega
        . show s'.length≤s0.length;omega
        . show A7 (l++[x])+8*s'.length≤324
          rw [D6,CR];omega
        . conv=>whnf
          rw [hap,ER,ER,hal]
          rfl
    . have ht:MC (c::r) 124=false:=by unfold MC;rw [decide_eq_false_iff_not];simpa using h124
      have hs:Hx (c::r) 124=c::r:=by unfold Hx;rw [if_neg (by simpa using h124)]
      rw [ht,hs] at htk
      rw [Ct,if_neg h124] at hI
      cases hI
      conv=>whnf
      repeat' (first|(refine Bp htk hC E1 0 rfl ⟨trivial,trivial⟩ trivial rfl ⟨⟨trivial,trivial,trivial⟩,trivial⟩ ⟨⟨trivial,trivial,trivial⟩,trivial⟩ ?_;conv=>whnf)|(refine Ak (BM 3 14 [0,2] (z:=3) rfl (Fx _) rfl (F5 _).symm rfl (AP ?_));conv=>whnf)|(refine AC (htw) hC E2 ?_ ?_ ?_;kernel_rfl;kernel_rfl;conv=>whnf))
      refine A2 hE ?_
      conv=>whnf
      exact ⟨rfl,rfl,rfl,rfl,DT _,rfl⟩
theorem Qe:∀(n:Nat) (s:List UInt8),s.length < n→s.length≤40→Qd (Cc n) s
  | 0,s,h,_=>absurd h (Nat.not_lt_zero _)
  | n+1,s,h,h40=>iD (Cc n) s h40 (fun r hr=>Qe n r (by omega) (by omega)) (fun r hr=>KW n r (by omega)) (Cc (n+1)) rfl
end Go.Proofs.YtkaiffheakalmaaGreatDoor
namespace Go.Proofs.YtkaiffheakalmaaGreatDoor
open Go.RowKit
def SG (p:Ex×Int):V:=.tup [Ai p.1,.int .i64 p.2]
theorem Gy (x:Ex) (e:Int):(V.tup [Ai x,.int .i64 e]).nl= .tup [Ai x,.int .i64 e]:=by simp only [V.nl,J4,DT]
theorem X5 (s:List UInt8) (h:s.length≤40):EY (Cc 41 s).1≤1048576:=by
  have:=(KW 41 s (by omega)).1
  omega
set_option maxHeartbeats 4000000 in
theorem ME (s:List UInt8):Fn1 Tryz.prog 9 [.str s] (fun r=>r=SG (JZ s)):=by
  unfold JZ
  refine OK ?_
  by_cases hl:40 < s.length
  . rw [if_pos hl]
    refine A4 (T:=Tryz.tt) Tryz.func9 rfl AR AB ?_ ?_ fun C hC hE=>?_
    . kernel_rfl
    . exact Nat.le_of_ble_eq_true (by kernel_rfl)
    conv=>whnf
    repeat' (first|(refine AN (by first|assumption|omega) ?_;conv=>whnf)|(refine AH hE ?_;conv=>whnf)|(intro hlen;conv=>whnf))
    exact ⟨rfl,Gy (.mk 0 0 []) 1⟩
  . rw [if_neg hl]
    have hal:=Qe 41 s (by omega) (by omega)
    have hsz:=X5 s (by omega)
    have hck:=Hw (Cc 41 s).1 hsz
    unfold Qd at hal
    generalize Cc 41 s=p at*
    obtain ⟨x,t,b⟩:=p
    simp only at hal hck ⊢
    cases b with
    | true=>
      rw [if_pos (.inl rfl)]
      refine A4 (T:=Tryz.tt) Tryz.func9 rfl AR AB ?_ ?_ fun C hC hE=>?_
      . kernel_rfl
      . exact Nat.le_of_ble_eq_true (by kernel_rfl)
      conv=>whnf
      repeat' (first|(refine AM (by first|assumption|omega) ?_;conv=>whnf)|(refine Bp hal hC C9 1 rfl trivial (BX _) rfl ⟨⟨trivial,trivial,trivial⟩,trivial⟩ ⟨⟨trivial,trivial,trivial⟩,trivial⟩ ?_;conv=>whnf)|(refine AH hE ?_;conv=>whnf)|(intro hlen;conv=>whnf))
      all_goals exact ⟨rfl,Gy (.mk 0 0 []) 4⟩
    | false=>
      by_cases ht:t=[]
      . rw [if_neg (by simp [ht])]
        by_cases hc:Xp x=0
        . rw [if_neg (by simp [hc])]
          rw [hc] at hck
          subst ht
          have h0:([]:List UInt8)=[]:=rfl
          refine A4 (T:=Tryz.tt) Tryz.func9 rfl AR AB ?_ ?_ fun C hC hE=>?_
          . kernel_rfl
          . exact Nat.le_of_ble_eq_true (by kernel_rfl)
          conv=>whnf
          repeat' (first|(refine AN (by first|assumption|omega) ?_;conv=>whnf)|(refine AM (by first|assumption|omega) ?_;conv=>whnf)|(refine Bp hal hC C9 1 rfl trivial (BX _) rfl ⟨⟨trivial,trivial,trivial⟩,trivial⟩ ⟨⟨trivial,trivial,trivial⟩,trivial⟩ ?_;conv=>whnf)|(refine AC (hck) hC F7 ?_ ?_ ?_;kernel_rfl;kernel_rfl;conv=>whnf)|(refine AH hE ?_;conv=>whnf)|(intro hlen;conv=>whnf))
          all_goals exact ⟨rfl,Gy x 0⟩
        . rw [if_pos (by simp [hc])]
          subst ht
          have h0:([]:List UInt8)=[]:=rfl
          refine A4 (T:=Tryz.tt) Tryz.func9 rfl AR AB ?_ ?_ fun C hC hE=>?_
          . kernel_rfl
          . exact Nat.le_of_ble_eq_true (by kernel_rfl)
          conv=>whnf
          repeat' (first|(refine AN (by first|assumption|omega) ?_;conv=>whnf)|(refine AM (by first|assumption|omega) ?_;conv=>whnf)|(refine Bp hal hC C9 1 rfl trivial (BX _) rfl ⟨⟨trivial,trivial,trivial⟩,trivial⟩ ⟨⟨trivial,trivial,trivial⟩,trivial⟩ ?_;conv=>whnf)|(refine AC (hck) hC F7 ?_ ?_ ?_;kernel_rfl;kernel_rfl;conv=>whnf)|(refine AH hE ?_;conv=>whnf)|(intro hlen;conv=>whnf))
          all_goals exact ⟨rfl,Gy (.mk 0 0 []) 4⟩
      . rw [if_pos (.inr ht)]
        refine A4 (T:=Tryz.tt) Tryz.func9 rfl AR AB ?_ ?_ fun C hC hE=>?_
        . kernel_rfl
        . exact Nat.le_of_ble_eq_true (by kernel_rfl)
        conv=>whnf
        repeat' (first|(refine AM (by first|assumption|omega) ?_;conv=>whnf)|(refine Bp hal hC C9 1 rfl trivial (BX _) rfl ⟨⟨trivial,trivial,trivial⟩,trivial⟩ ⟨⟨trivial,trivial,trivial⟩,trivial⟩ ?_;conv=>whnf)|(refine AH hE ?_;conv=>whnf)|(intro hlen;conv=>whnf))
        all_goals exact ⟨rfl,Gy (.mk 0 0 []) 4⟩
end Go.Proofs.YtkaiffheakalmaaGreatDoor
namespace Go.Proofs.YtkaiffheakalmaaGreatDoor
open Go.RowKit
theorem X6 (x:Int):Fn1 Tryz.prog 68 [.int .i64 x] (fun r=>r= .bool (decide (0≤x))):=by
  refine A4 (T:=Tryz.tt) Tryz.func68 rfl AR AB ?_ ?_ fun C hC hE=>?_
  . kernel_rfl
  . exact Nat.le_of_ble_eq_true (by kernel_rfl)
  conv=>whnf
  repeat' (first|(refine He (fun h=>?_) (fun h=>?_)<;>conv=>whnf)|(refine AH hE ?_;conv=>whnf))
  . exact ⟨rfl,by rw [decide_eq_true (by omega)]⟩
  . exact ⟨rfl,by rw [decide_eq_false (by omega)]⟩
set_option maxHeartbeats 16000000 in
theorem Ow (s:List UInt8) (x:Ex) (m:Mc) (ty tx:Nat) (hs:JZ s=(x,0)) (hMk:Fn1G Tryz.prog GT 12 [Ai x] (fun r=>r= .tup [Bs m,.int .i64 0]))
    (h8:∀r∈m.N,r.length=8) (h40:m.N.length≤40) (ht:ty≤8) (hx:tx < 8) (hty:∀r∈m.N,∀y∈r.drop ty,y < 0) (hto:∀r∈m.N,∀y∈r,y < m.N.length) (htx:∀r∈m.N,r.getD tx (-1) < 0∨(m.N.getD (r.getD tx (-1)).toNat []).getD tx (-1) < 0):
    Fn1G Tryz.prog GT 35 [.str s,.int .i64 ty,.int .i64 tx] (fun r=>r= .tup [Bs m,.int .i64 0]):=by
  have hp:=ME s
  rw [hs] at hp
  unfold SG at hp
  have hNm:(m.N.map AY).length=m.N.length:=by simp
  refine Gm (T:=Tryz.tt) Tryz.func35 rfl AR AB ?_ ?_ fun C hC hW hG hE=>?_
  . kernel_rfl
  . exact Nat.le_of_ble_eq_true (by kernel_rfl)
  conv=>whnf
  have hmk:=hMk.c hC hW DQ hG
  repeat' (first|(refine AN (by first|assumption|omega) ?_;conv=>whnf)|(refine AC (hp) hC Nz ?_ ?_ ?_;kernel_rfl;kernel_rfl;conv=>whnf)|(unfold Bs at hmk;refine Cx hmk hC SW rfl ?_ ?_ ?_;kernel_rfl;kernel_rfl;conv=>whnf)|(intro hlen;conv=>whnf))
  refine Ae (fun i:Nat=>⟨77,[(1,.int .i64 ty),(2,.int .i64 tx),(6,.ptr 0 0 0),(10,.ptr 2 0 0),(32,.lst (m.N.map AY)),(33,.int .i64 (m.N.map AY).length),(34,.int .i64 i)],[some (.row 2 [.agg [.nils,.nils]]),none,some (.row 2 [.agg [.lst (m.N.map AY),.lst (m.F.map V.bool)]])]⟩) (fun i=>i≤m.N.length) (fun i=>m.N.length - i) 0 hE ?_ ?_ (Nat.zero_le _) ?_
  . kernel_rfl
  . refine Bc 1 (AU [1,2,6,10,32,33,34] ?_)
    conv=>whnf
    rfl
  intro i hi
  by_cases hlt:i < m.N.length
  . obtain ⟨row,hrow⟩:∃row,m.N[i]?=some row:=⟨_,List.getElem?_eq_getElem hlt⟩
    have gr:(m.N.map AY)[i]?=some (AY row):=by rw [List.getElem?_map,hrow];rfl
    have hmem:=List.mem_of_getElem? hrow
    have hr8:=h8 row hmem
    have hrm:(row.map (V.int .i64)).length=row.length:=by simp
    have hcf:=ED (row.drop ty) 68 [] (fun x=>decide (0≤x)) (by kernel_rfl) rfl (fun x _=>X6 x)
    have hno:((row.drop ty).any fun x=>decide (0≤x))=false:=by
      rw [List.any_eq_false]
      intro y hy
      have:=hty row hmem y hy
      simp only [decide_eq_true_eq]
      omega
    rw [hno,List.map_drop] at hcf
    conv=>whnf
    repeat' (first|(refine AN (by first|assumption|omega) ?_;conv=>whnf)|(refine Af (by first|assumption|omega) ?_;conv=>whnf)|(refine AS (by omega) ?_;conv=>whnf)|(refine AQ (by assumption) ?_;conv=>whnf)|(refine ⟨Cm row,?_⟩;conv=>whnf)|(refine AC (hcf) hC Hz ?_ ?_ ?_;kernel_rfl;kernel_rfl;conv=>whnf))
    refine AJ [1,2,6,10,32,33,34] (i+1) hlt (by omega) ?_
    conv=>whnf
    rfl
  . obtain rfl:i=m.N.length:=by omega
    conv=>whnf
    repeat' (first|(refine AM (by first|assumption|omega) ?_;conv=>whnf)|(intro hlen;conv=>whnf))
    refine Ae (fun i:Nat=>⟨77,[(2,.int .i64 tx),(6,.ptr 0 0 0),(10,.ptr 2 0 0),(45,.lst (m.N.map AY)),(46,.int .i64 (m.N.map AY).length),(47,.int .i64 i)],[some (.row 2 [.agg [.nils,.nils]]),none,some (.row 2 [.agg [.lst (m.N.map AY),.lst (m.F.map V.bool)]])]⟩) (fun i=>i≤m.N.length) (fun i=>m.N.length - i) 0 hE ?_ ?_ (Nat.zero_le _) ?_
    . kernel_rfl
    . refine AU [2,6,10,45,46,47] ?_
      conv=>whnf
      rfl
    intro i hi
    by_cases hlt:i < m.N.length
    . obtain ⟨row,hrow⟩:∃row,m.N[i]?=some row:=⟨_,List.getElem?_eq_getElem hlt⟩
      have gr:(m.N.map AY)[i]?=some (AY row):=by rw [List.getElem?_map,hrow];rfl
      have hmem:=List.mem_of_getElem? hrow
      have hr8:=h8 row hmem
      obtain ⟨y,hy⟩:∃y,row[tx]?=some y:=⟨_,List.getElem?_eq_getElem (by omega)⟩
      have gy:(row.map (V.int .i64))[Int.toNat (tx:Int)]?=some (.int .i64 y):=by rw [Int.toNat_natCast,List.getElem?_map,hy];rfl
      have hyD:row.getD tx (-1)=y:=by rw [List.getD_eq_getElem?_getD,hy];rfl
      have h2:=htx row hmem
      rw [hyD] at h2
      by_cases hy0:y < 0
      . conv=>whnf
        repeat' (first|(refine AN (by first|assumption|omega) ?_;conv=>whnf)|(refine AM (by first|assumption|omega) ?_;conv=>whnf)|(refine Af (by first|assumption|omega) ?_;conv=>whnf)|(refine AS (by omega) ?_;conv=>whnf)|(refine AQ (by assumption) ?_;conv=>whnf)|(refine BW hE ?_ ?_;decide +kernel;conv=>whnf))
        refine AJ [2,6,10,45,46,47] (i+1) hlt (by omega) ?_
        conv=>whnf
        rfl
      . have hyn:=hto row hmem y (List.mem_of_getElem? hy)
        obtain ⟨row2,hrow2⟩:∃row2,m.N[y.toNat]?=some row2:=⟨_,List.getElem?_eq_getElem (by omega)⟩
        have gr2:(m.N.map AY)[Int.toNat y]?=some (AY row2):=by rw [List.getElem?_map,hrow2];rfl
        have hr28:=h8 row2 (List.mem_of_getElem? hrow2)
        obtain ⟨z,hz⟩:∃z,row2[tx]?=some z:=⟨_,List.getElem?_eq_getElem (by omega)⟩
        have gz:(row2.map (V.int .i64))[Int.toNat (tx:Int)]?=some (.int .i64 z):=by rw [Int.toNat_natCast,List.getElem?_map,hz];rfl
        have hz0:z < 0:=by
          rcases h2 with h|h
          . exact absurd h hy0
          . have e:m.N.getD y.toNat []=row2:=by rw [List.getD_eq_getElem?_getD,hrow2];rfl
            rw [e,List.getD_eq_getElem?_getD,hz] at h
            exact h
        conv=>whnf
        repeat' (first|(refine AN (by first|assumption|omega) ?_;conv=>whnf)|(refine AM (by first|assumption|omega) ?_;conv=>whnf)|(refine Af (by first|assumption|omega) ?_;conv=>whnf)|(refine AS (by omega) ?_;conv=>whnf)|(refine AQ (by assumption) ?_;conv=>whnf)|(refine BW hE ?_ ?_;decide +kernel;conv=>whnf))
        refine AJ [2,6,10,45,46,47] (i+1) hlt (by omega) ?_
        conv=>whnf
        rfl
    . conv=>whnf
      repeat' (first|(refine AM (by first|assumption|omega) ?_;conv=>whnf)|(refine AH hE ?_;conv=>whnf))
      exact ⟨rfl,rfl⟩
end Go.Proofs.YtkaiffheakalmaaGreatDoor
