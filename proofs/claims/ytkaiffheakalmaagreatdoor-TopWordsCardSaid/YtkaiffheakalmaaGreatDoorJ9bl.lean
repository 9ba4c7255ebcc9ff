/- Joined. No conditions. -/
import Derived.Test.YtkaiffheakalmaaGreatDoorJ9bg
import Derived.Test.YtkaiffheakalmaaGreatDoorJ9bk
import Derived.Shelf.Small.Strs
set_option linter.unusedSimpArgs false
set_option linter.unusedVariables false
set_option maxRecDepth 100000
namespace Go.Proofs.YtkaiffheakalmaaGreatDoor
section
open Go.RowKit Go.ChangeShapes Go.WideShapes Go.ChangeAt
def ZR (x:Ex):Int:=if Mk x≠0 then Mk x else if 40 < (Pw x).length then 1 else 0
def jf (x:Ex):List V:=[.int .i64 x.kind,.int .i64 x.type,.lst (KO x.parts)]
theorem Pv (x:Ex):V.agg (jf x)= .agg [.int .i64 x.kind,.int .i64 x.type,.lst (x.parts.map Ah)]:=by unfold jf;rw [Mj]
theorem Te (x:Ex):Ex.mk x.kind x.type x.parts=x:=by cases x;rfl
theorem If (x:Ex) (hx:El x≤1048576):Fn1 Tryz.prog 18 [.agg (jf x)] (fun r=>r= .int .i64 (ZR x)):=by
 rw [Pv]
 have hsz:Ay x.parts≤1048576:=by cases x;rw [CQ] at hx;show Ay _≤_;simp only [Ex.parts];omega
 have h1:=Td (Ay x.parts) x.kind x.type x.parts (Nat.le_refl _)
 have h2:=Wr (Ay x.parts) x.kind x.type x.parts (Nat.le_refl _) hsz
 have hl:=Py (El x) x (Nat.le_refl _)
 rw [Te] at h1 h2
 refine Ax Tryz.func18 fun C hC hE=>?_
 conv=>whnf
 repeat' (first|refine AN h1 hC Nh ?_|refine AN (h2 (by omega)) hC Ni ?_|refine GV (fun h=>?_) (fun h=>?_)|refine AC hE ?_|intro hlen)<;>conv=>whnf
 all_goals (refine ⟨rfl,congrArg (V.int .i64) ?_⟩;unfold ZR;(repeat' split);all_goals first|rfl|omega)
theorem fB {x:Ex} (h:ZR x=0):Mk x=0:=by
 unfold ZR at h
 split at h
 ·contradiction
 ·omega
end
section
open Go.RowKit
def IH (x:Ex):Ps:=(BY x ⟨[],[]⟩).2
def So (x:Ex):Pt:=(BY x ⟨[],[]⟩).1
def ic (x:Ex) (i:Nat):Kn×List (List Int):=Gz (IH x) (Ae (IH x).T.length (So x).last) (So x) i
set_option maxHeartbeats 4000000 in
theorem Bv (x:Ex) (hx:El x≤1048576) (hc:ZR x=0) (R:Nat) (hO:OkSets (IH x) (So x) R) (h1:1≤R) {N:List (List Int)} {F:List Bool} (hN:(ic x R).2=N) (hF:((ic x R).1.map fun q=>q.2)=F) (hWF:WFp R N F)
 {C:List Int} {Ws:List (List Nat)} {S:List Nat} {Rm:List (List Int)} {G:List Bool} (hcan:QL (Eh R N) (Dg F) C Ws S Rm G=true) (h40:Rm.length≤40):
 Fn1G Tryz.prog GT 12 [Ah x] (fun r=>r= .tup [BB ⟨Rm,G⟩,.int .i64 0]):=by
 have hs:Fn1G Tryz.prog GT 24 [Ah x] (fun r=>r=Dn N F):=by
  rw [←hN,←hF]
  exact Xg x R hO
 have ho:=XX hWF h1 (by have:=hO.rl;omega) hcan h40
 have hk:=If x hx
 rw [hc] at hk
 obtain ⟨k,t,ps⟩:=x
 rw [DF] at hs ⊢
 rw [Pv] at hk
 dsimp only [Ex.kind,Ex.type,Ex.parts] at hk
 unfold Dn at hs ho
 unfold BB at ho ⊢
 refine GN Tryz.func12 fun C hC hW hG hE=>?_
 conv=>whnf
 have hs':=hs.c hC hW CD hG
 have ho':=ho.c hC hW CD hG
 repeat' (first|refine A2 ?_|refine AN hk hC Gm ?_|refine EL hs' hC UP rfl ?_|refine EL ho' hC UQ rfl ?_|refine AC hE ?_)<;>conv=>whnf
 exact ⟨rfl,rfl⟩
def Gy (k:Int) (p:Ex):List Ex:=if p.kind=k then p.parts else [p]
def KS (k:Int) (ps:List Ex):Ex:=match ps with
 | [y]=>y
 | _=>.mk k 0 ps
def GP (k:Int) (l:List Ex):Ex:=match l with
 | [x]=>x
 | _=>KS k (l.flatMap (Gy k))
def gd (k:Int) (a b:Ex):Ex:=KS k (Gy k a++Gy k b)
def Cl (x:Ex):Prop:=(x.kind=2∨x.kind=3)→x.type=0∧x.parts.length≠1∧∀p∈x.parts,p.kind≠x.kind
theorem M0 (k:Int) (y:Ex):KS k [y]=y:=rfl
theorem Hx {k:Int} {ps:List Ex} (h:ps.length≠1):KS k ps= .mk k 0 ps:=by
 unfold KS
 split
 ·exact absurd rfl h
 ·rfl
theorem Zq {k:Int} (hk:k=2∨k=3) {x:Ex} (hx:Cl x):KS k (Gy k x)=x:=by
 unfold Gy
 by_cases h:x.kind=k
 ·rw [if_pos h]
  obtain ⟨h1,h2,_⟩:=hx (by rw [h];exact hk)
  rw [Hx h2,←h]
  cases x with
  | mk a b c=>simp only [Ex.kind,Ex.type,Ex.parts] at *;rw [h1]
 ·rw [if_neg h];rfl
theorem M1 {k:Int} (hk:k=2∨k=3) {l:List Ex} (hl:∀x∈l,Cl x):GP k l=KS k (l.flatMap (Gy k)):=by
 unfold GP
 split
 ·rename_i x
  rw [List.flatMap_cons,List.flatMap_nil,List.append_nil,Zq hk (hl x (by simp))]
 ·rfl
theorem Zr {k:Int} (hk:k=2∨k=3) {x:Ex} (hx:Cl x):∀p∈Gy k x,p.kind≠k:=by
 intro p hp
 unfold Gy at hp
 split at hp
 ·rename_i h
  have:=(hx (by rw [h];exact hk)).2.2 p hp
  rwa [h] at this
 ·rename_i h
  rw [List.mem_singleton] at hp
  rw [hp];exact h
theorem Ox {k:Int} (hk:k=2∨k=3) {l:List Ex} (hl:∀x∈l,Cl x):∀p∈l.flatMap (Gy k),p.kind≠k:=by
 intro p hp
 obtain ⟨x,hx,hp⟩:=List.mem_flatMap.1 hp
 exact Zr hk (hl x hx) p hp
theorem Zs {k:Int} {ps:List Ex} (h:∀p∈ps,p.kind≠k):Gy k (KS k ps)=ps:=by
 by_cases h1:ps.length=1
 ·obtain ⟨y,rfl⟩:=List.length_eq_one_iff.1 h1
  rw [M0]
  unfold Gy
  rw [if_neg (h y (by simp))]
 ·rw [Hx h1]
  unfold Gy
  rw [if_pos (show (Ex.mk k 0 ps).kind=k from rfl)]
  rfl
theorem Zt {k:Int} (hk:k=2∨k=3) {l:List Ex} (hl:∀x∈l,Cl x) (x:Ex):gd k (KS k (l.flatMap (Gy k))) x=KS k ((l++[x]).flatMap (Gy k)):=by
 unfold gd
 rw [Zs (Ox hk hl),List.flatMap_append,List.flatMap_cons,List.flatMap_nil,List.append_nil]
theorem Vg {k:Int} (hk:k=2∨k=3) {l:List Ex} (hl:∀x∈l,Cl x) {x:Ex} (hx:Cl x):gd k (GP k l) x=GP k (l++[x]):=by
 rw [M1 hk hl,Zt hk hl,M1 hk (fun y hy=>by
  rcases List.mem_append.1 hy with h|h
  ·exact hl y h
  ·rw [List.mem_singleton] at h;rw [h];exact hx)]
theorem Vh:GP 2 []= .mk 2 0 []:=rfl
theorem Jd {k:Int} (hk:k=2∨k=3):∀{l:List Ex},(∀x∈l,Cl x)→∀y,l.flatMap (Gy k)=[y]→y∈l
 | [],_,y,h=>by simp at h
 | x::l,hl,y,h=>by
   rw [List.flatMap_cons] at h
   have hlen:=congrArg List.length h
   rw [List.length_append] at hlen
   simp only [List.length_singleton] at hlen
   by_cases hx:x.kind=k
   ·have h2:=(hl x (by simp) (by rw [hx];exact hk)).2.1
    have e:Gy k x=x.parts:=by unfold Gy;rw [if_pos hx]
    rw [e] at h hlen
    have h0:x.parts=[]:=List.length_eq_zero_iff.1 (by omega)
    rw [h0,List.nil_append] at h
    exact List.mem_cons_of_mem _ (Jd hk (fun z hz=>hl z (by simp [hz])) y h)
   ·have e:Gy k x=[x]:=by unfold Gy;rw [if_neg hx]
    rw [e] at h
    simp at h
    rw [h.1];simp
theorem M3 {k:Int} (hk:k=2∨k=3) {l:List Ex} (hl:∀x∈l,Cl x):Cl (GP k l):=by
 rw [M1 hk hl]
 by_cases h1:(l.flatMap (Gy k)).length=1
 ·obtain ⟨y,hy⟩:=List.length_eq_one_iff.1 h1
  rw [hy,M0]
  exact hl y (Jd hk hl y hy)
 ·rw [Hx h1]
  exact fun _=>⟨rfl,h1,Ox hk hl⟩
def Du (c:UInt8):Bool:=decide (c=42) || decide (c=43) || decide (c=63)
def Zu (c:UInt8):Int:=if c=42 then 4 else if c=43 then 5 else 6
def suf:Ex→List UInt8→Ex×List UInt8
 | x,[]=>(x,[])
 | x,c::r=>if Du c=true then suf (.mk (Zu c) 0 [x]) r else (x,c::r)
abbrev PR:=Ex×List UInt8×Bool
def Tp (c:UInt8):Bool:=decide (97≤c.toNat)&&decide (c.toNat≤104)
def Eu (f:List UInt8→PR) (c:UInt8) (r:List UInt8):PR:=
 if Tp c=true then (.mk 1 ((c.toNat:Int) - 97) [],r,false)
 else if c=40 then (match f r with
  | (x,s,true)=>(x,s,true)
  | (x,s,false)=>match s with
    | []=>(x,[],true)
    | d::s'=>if d=41 then (x,s',false) else (x,d::s',true))
 else (.mk 0 0 [],r,true)
def Cj (f:List UInt8→PR) (c:UInt8) (r:List UInt8):PR:=((suf (Eu f c r).1 (Eu f c r).2.1).1,(suf (Eu f c r).1 (Eu f c r).2.1).2,(Eu f c r).2.2)
def CK (f:List UInt8→PR):Nat→List UInt8→List Ex→List Ex×List UInt8×Bool
 | 0,s,l=>(l,s,false)
 | _+1,[],l=>(l,[],false)
 | n+1,c::r,l=>if c=124∨c=41 then (l,c::r,false) else
   if (Cj f c r).2.2=true then (l++[(Cj f c r).1],(Cj f c r).2.1,true) else CK f n (Cj f c r).2.1 (l++[(Cj f c r).1])
def DG (f:List UInt8→PR):Nat→List UInt8→Bool→List Ex→List Ex×List UInt8×Bool
 | 0,s,b,l=>(l,s,b)
 | _+1,[],b,l=>(l,[],b)
 | n+1,c::r,b,l=>if c=124 then (if b=true then DG f n r true (l++[GP 2 []]) else DG f n (CK f r.length r []).2.1 (CK f r.length r []).2.2 (l++[GP 2 (CK f r.length r []).1])) else (l,c::r,b)
def Ef (f:List UInt8→PR) (s:List UInt8):PR:=(GP 2 (CK f s.length s []).1,(CK f s.length s []).2)
def C9:Nat→List UInt8→PR
 | 0,s=>(.mk 0 0 [],s,true)
 | n+1,s=>(GP 3 (DG (C9 n) s.length (Ef (C9 n) s).2.1 (Ef (C9 n) s).2.2 [(Ef (C9 n) s).1]).1,(DG (C9 n) s.length (Ef (C9 n) s).2.1 (Ef (C9 n) s).2.2 [(Ef (C9 n) s).1]).2)
theorem Eg (a b:List Ex):Ay (a++b)=Ay a+Ay b:=by simp [Bp]
theorem Ck (x:Ex):Ay [x]=El x:=by simp [Bp]
theorem fL (k:Int) (x:Ex):Ay (Gy k x)≤El x:=by
 unfold Gy
 split
 ·cases x;rw [CQ];simp only [Ex.parts];omega
 ·rw [Ck];exact Nat.le_refl _
theorem Je (k:Int):∀l:List Ex,Ay (l.flatMap (Gy k))≤Ay l
 | []=>by simp [Bp]
 | x::l=>by
   have h1:=fL k x
   have h2:=Je k l
   rw [List.flatMap_cons,Eg]
   have:Ay (x::l)=El x+Ay l:=by simp [Bp]
   omega
theorem dA (k:Int) (ps:List Ex):El (KS k ps)≤Ay ps+4:=by
 unfold KS
 split
 ·rw [Ck];omega
 ·rw [CQ];omega
theorem Tq (k:Int) (l:List Ex):El (GP k l)≤Ay l+4:=by
 unfold GP
 split
 ·rw [Ck];omega
 ·have h1:=dA k (l.flatMap (Gy k))
  have h2:=Je k l
  omega
theorem Tr:∀(s:List UInt8) (x:Ex),El (suf x s).1+8*(suf x s).2.length≤El x+8*s.length∧(suf x s).2.length≤s.length
 | [],x=>by simp [suf]
 | c::r,x=>by
   unfold suf
   split
   ·have:=Tr r (.mk (Zu c) 0 [x])
    rw [CQ,Ck] at this
    simp only [List.length_cons]
    omega
   ·simp
section
variable {f:List UInt8→PR}
def Zv (f:List UInt8→PR) (r:List UInt8):Prop:=El (f r).1+8*(f r).2.1.length≤8*r.length+8∧(f r).2.1.length≤r.length
theorem dB (c:UInt8) (r:List UInt8) (h:Zv f r):El (Eu f c r).1+8*(Eu f c r).2.1.length≤8*r.length+8∧(Eu f c r).2.1.length≤r.length:=by
 unfold Zv at h
 unfold Eu
 split
 ·simp [CQ,Bp];try omega
 ·split
  ·split
   ·rename_i x s hf
    rw [hf] at h
    exact h
   ·rename_i x s hf
    rw [hf] at h
    simp only at h
    split
    ·simpa using h
    ·split
     ·simp only [List.length_cons] at h ⊢;omega
     ·exact h
  ·simp [CQ,Bp];try omega
theorem Vi (c:UInt8) (r:List UInt8) (h:Zv f r):El (Cj f c r).1+8*(Cj f c r).2.1.length≤8*r.length+8∧(Cj f c r).2.1.length≤r.length:=by
 have h1:=dB c r h
 have h2:=Tr (Eu f c r).2.1 (Eu f c r).1
 unfold Cj
 simp only
 omega
theorem Ts:∀(n:Nat) (s:List UInt8) (l:List Ex),(∀r:List UInt8,r.length < s.length→Zv f r)→Ay (CK f n s l).1+8*(CK f n s l).2.1.length≤Ay l+8*s.length∧(CK f n s l).2.1.length≤s.length
 | 0,s,l,_=>by simp [CK]
 | n+1,[],l,_=>by simp [CK]
 | n+1,c::r,l,hf=>by
   have hi:=Vi c r (hf r (by simp))
   unfold CK
   split
   ·simp
   ·split
    ·simp only [Eg,Ck,List.length_cons];omega
    ·have:=Ts n (Cj f c r).2.1 (l++[(Cj f c r).1]) (fun r' hr'=>hf r' (by simp only [List.length_cons];omega))
     rw [Eg,Ck] at this
     simp only [List.length_cons];omega
theorem Tt:∀(n:Nat) (s:List UInt8) (b:Bool) (l:List Ex),(∀r:List UInt8,r.length < s.length→Zv f r)→Ay (DG f n s b l).1+8*(DG f n s b l).2.1.length≤Ay l+8*s.length∧(DG f n s b l).2.1.length≤s.length
 | 0,s,b,l,_=>by simp [DG]
 | n+1,[],b,l,_=>by simp [DG]
 | n+1,c::r,b,l,hf=>by
   unfold DG
   split
   ·split
    ·have:=Tt n r true (l++[GP 2 []]) (fun r' hr'=>hf r' (by simp only [List.length_cons];omega))
     have h0:Ay []=0:=by simp [Bp]
     have ht:El (GP 2 [])=4:=by rw [Vh,CQ,h0]
     rw [Eg,Ck,ht] at this
     simp only [List.length_cons]
     omega
    ·have h1:=Ts r.length r [] (fun r' hr'=>hf r' (by simp only [List.length_cons];omega))
     have h0:Ay []=0:=by simp [Bp]
     have h2:=Tt n (CK f r.length r []).2.1 (CK f r.length r []).2.2 (l++[GP 2 (CK f r.length r []).1]) (fun r' hr'=>hf r' (by simp only [List.length_cons];omega))
     have h3:=Tq 2 (CK f r.length r []).1
     rw [Eg,Ck] at h2
     simp only [List.length_cons]
     omega
   ·simp
theorem P7 (s:List UInt8) (hf:∀r:List UInt8,r.length < s.length→Zv f r):El (Ef f s).1+8*(Ef f s).2.1.length≤8*s.length+4∧(Ef f s).2.1.length≤s.length:=by
 have h1:=Ts s.length s [] hf
 have h2:=Tq 2 (CK f s.length s []).1
 have h0:Ay []=0:=by simp [Bp]
 unfold Ef
 simp only
 omega
end
theorem LY:∀(n:Nat) (s:List UInt8),s.length < n→Zv (C9 n) s
 | 0,s,h=>absurd h (Nat.not_lt_zero _)
 | n+1,s,h=>by
   have hf:∀r:List UInt8,r.length < s.length→Zv (C9 n) r:=fun r hr=>LY n r (by omega)
   have h1:=P7 s hf
   have h2:=Tt (f:=C9 n) s.length (Ef (C9 n) s).2.1 (Ef (C9 n) s).2.2 [(Ef (C9 n) s).1] (fun r hr=>hf r (by omega))
   have h3:=Tq 3 (DG (C9 n) s.length (Ef (C9 n) s).2.1 (Ef (C9 n) s).2.2 [(Ef (C9 n) s).1]).1
   rw [Ck] at h2
   unfold Zv C9
   simp only
   omega
def eC (all:Option Ex) (now:Ex):Ex:=match all with
 | none=>now
 | some a=>gd 3 a now
abbrev DR:=Option (Ex×List UInt8)
def Rx (g:List UInt8→DR) (c:UInt8) (r:List UInt8):DR:=
 if Tp c=true then some (.mk 1 ((c.toNat:Int) - 97) [],r)
 else if c=40 then (match g r with
  | none=>none
  | some (_,[])=>none
  | some (x,_::s')=>some (x,s'))
 else none
def Jc (g:List UInt8→DR):Nat→List UInt8→Ex→Option Ex→DR
 | 0,s,now,all=>some (eC all now,s)
 | _+1,[],now,all=>some (eC all now,[])
 | n+1,c::r,now,all=>
   if c=41 then some (eC all now,c::r)
   else if c=124 then Jc g n r (.mk 2 0 []) (some (eC all now))
   else match Rx g c r with
    | none=>none
    | some (x,t)=>Jc g n (suf x t).2 (gd 2 now (suf x t).1) all
def Zm:Nat→List UInt8→DR
 | 0,_=>none
 | n+1,s=>Jc (Zm n) s.length s (.mk 2 0 []) none
def W6 (p:PR) (d:DR):Prop:=match d with
 | none=>p.2.2=true
 | some (x,t)=>p=(x,t,false)∧Cl x∧(∀c r,t=c::r→c=41)
theorem fK (t:Int) (ps:List Ex):Cl (.mk 1 t ps):=fun h=>by simp [Ex.kind] at h
theorem c6 (c:UInt8):4≤Zu c:=by unfold Zu;split<;>(try split)<;>omega
theorem Zn:∀(s:List UInt8) (x:Ex),Cl x→Cl (suf x s).1
 | [],x,h=>by simpa [suf] using h
 | c::r,x,h=>by
   unfold suf
   split
   ·exact Zn r _ (fun h=>by have:=c6 c;simp only [Ex.kind] at h;omega)
   ·exact h
theorem c7:∀(s:List UInt8) (x:Ex),(suf x s).2.length≤s.length:=fun s x=>(Tr s x).2
theorem Vf (f:List UInt8→PR):∀(n:Nat) (s:List UInt8) (l:List Ex),(DG f n s true l).2.2=true
 | 0,s,l=>by simp [DG]
 | n+1,[],l=>by simp [DG]
 | n+1,c::r,l=>by
   unfold DG
   split
   ·rw [if_pos rfl];exact Vf f n r _
   ·rfl
section
variable {f:List UInt8→PR} {g:List UInt8→DR}
def To (f:List UInt8→PR) (n m:Nat) (s:List UInt8) (l L:List Ex):PR:=
 (GP 3 (DG f m (CK f n s l).2.1 (CK f n s l).2.2 (L++[GP 2 (CK f n s l).1])).1,(DG f m (CK f n s l).2.1 (CK f n s l).2.2 (L++[GP 2 (CK f n s l).1])).2)
theorem Zo {c:UInt8} {r:List UInt8} (h:W6 (f r) (g r)):
 match Rx g c r with|none=>(Eu f c r).2.2=true|some (x,t)=>Eu f c r=(x,t,false)∧Cl x∧t.length≤max r.length (f r).2.1.length:=by
 unfold Rx Eu
 by_cases h1:Tp c=true
 ·rw [if_pos h1,if_pos h1]
  exact ⟨rfl,fK _ _,by omega⟩
 ·rw [if_neg h1,if_neg h1]
  by_cases h2:c=40
  ·rw [if_pos h2,if_pos h2]
   unfold W6 at h
   generalize hg:g r=q at h
   generalize hf:f r=p at h
   match q,h with
   | none,h=>
     obtain ⟨x,s,b⟩:=p
     simp only at h
     subst h
     rfl
   | some (x,[]),⟨h,hc,_⟩=>
     subst h
     rfl
   | some (x,d::s'),⟨h,hc,hd⟩=>
     subst h
     have:=hd d s' rfl
     simp only [this,if_true]
     exact ⟨trivial,hc,by simp only [List.length_cons];omega⟩
  ·rw [if_neg h2,if_neg h2]
theorem c8:∀(N:Nat) (s:List UInt8) (l L:List Ex) (n m k:Nat),s.length≤N→s.length≤n→s.length≤m→s.length≤k→
 (∀r:List UInt8,r.length < s.length→W6 (f r) (g r)∧(f r).2.1.length≤r.length)→(∀x∈l,Cl x)→(∀x∈L,Cl x)→
 W6 (To f n m s l L) (Jc g k s (GP 2 l) (if L=[] then none else some (GP 3 L))):=by
 have hflu:∀(l L:List Ex),(∀x∈l,Cl x)→(∀x∈L,Cl x)→eC (if L=[] then none else some (GP 3 L)) (GP 2 l)=GP 3 (L++[GP 2 l]):=by
  intro l L hl hL
  by_cases h0:L=[]
  ·rw [if_pos h0,h0];rfl
  ·rw [if_neg h0]
   exact Vg (.inr rfl) hL (M3 (.inl rfl) hl)
 have hclL:∀(l L:List Ex),(∀x∈l,Cl x)→(∀x∈L,Cl x)→∀x∈L++[GP 2 l],Cl x:=by
  intro l L hl hL x hx
  rcases List.mem_append.1 hx with h|h
  ·exact hL x h
  ·rw [List.mem_singleton] at h;rw [h];exact M3 (.inl rfl) hl
 intro N
 induction N with
 | zero=>
   intro s l L n m k hs hn hm hk hf hl hL
   have h0:s=[]:=List.length_eq_zero_iff.1 (by omega)
   subst h0
   have e1:CK f n [] l=(l,[],false):=by cases n<;>rfl
   have e2:∀b q,DG f m [] b q=(q,[],b):=by cases m<;>intro b q<;>rfl
   have e3:∀q a,Jc g k [] q a=some (eC a q,[]):=by cases k<;>intro q a<;>rfl
   rw [e3,hflu l L hl hL]
   unfold To
   rw [e1,e2]
   exact ⟨rfl,M3 (.inr rfl) (hclL l L hl hL),fun c r h=>by cases h⟩
 | succ N ih=>
   intro s l L n m k hs hn hm hk hf hl hL
   match s,n,m,k,hs,hn,hm,hk,hf with
   | [],n,m,k,hs,hn,hm,hk,hf=>
     have e1:CK f n [] l=(l,[],false):=by cases n<;>rfl
     have e2:∀b q,DG f m [] b q=(q,[],b):=by cases m<;>intro b q<;>rfl
     have e3:∀q a,Jc g k [] q a=some (eC a q,[]):=by cases k<;>intro q a<;>rfl
     rw [e3,hflu l L hl hL]
     unfold To
     rw [e1,e2]
     exact ⟨rfl,M3 (.inr rfl) (hclL l L hl hL),fun c r h=>by cases h⟩
   | c::r,n+1,m+1,k+1,hs,hn,hm,hk,hf=>
     simp only [List.length_cons] at hs hn hm hk
     by_cases h41:c=41
     ·have e1:CK f (n+1) (c::r) l=(l,c::r,false):=by rw [CK,if_pos (.inr h41)]
      have e2:∀b q,DG f (m+1) (c::r) b q=(q,c::r,b):=fun b q=>by rw [DG,if_neg (by rw [h41];decide)]
      have e3:∀q a,Jc g (k+1) (c::r) q a=some (eC a q,c::r):=fun q a=>by rw [Jc,if_pos h41]
      rw [e3,hflu l L hl hL]
      unfold To
      rw [e1,e2]
      exact ⟨rfl,M3 (.inr rfl) (hclL l L hl hL),fun c' r' h=>by cases h;exact h41⟩
     ·by_cases h124:c=124
      ·have e1:CK f (n+1) (c::r) l=(l,c::r,false):=by rw [CK,if_pos (.inl h124)]
       have e2:∀q,DG f (m+1) (c::r) false q=DG f m (CK f r.length r []).2.1 (CK f r.length r []).2.2 (q++[GP 2 (CK f r.length r []).1]):=fun q=>by rw [DG,if_pos h124,if_neg (by decide)]
       have e3:Jc g (k+1) (c::r) (GP 2 l) (if L=[] then none else some (GP 3 L))=Jc g k r (GP 2 []) (if L++[GP 2 l]=[] then none else some (GP 3 (L++[GP 2 l]))):=by
        rw [Jc,if_neg h41,if_pos h124,hflu l L hl hL,if_neg (by simp)];rfl
       have:=ih r [] (L++[GP 2 l]) r.length m k (by omega) (Nat.le_refl _) (by omega) (by omega) (fun q hq=>hf q (by simp only [List.length_cons];omega)) (by simp) (hclL l L hl hL)
       rw [e3]
       unfold To at this ⊢
       rw [e1]
       simp only [e2]
       exact this
      ·have e1:CK f (n+1) (c::r) l=if (Cj f c r).2.2=true then (l++[(Cj f c r).1],(Cj f c r).2.1,true) else CK f n (Cj f c r).2.1 (l++[(Cj f c r).1]):=by
        rw [CK,if_neg (by intro h;rcases h with h|h;exact h124 h;exact h41 h)]
       have e3:∀q a,Jc g (k+1) (c::r) q a=match Rx g c r with|none=>none|some (x,t)=>Jc g k (suf x t).2 (gd 2 q (suf x t).1) a:=fun q a=>by rw [Jc,if_neg h41,if_neg h124]
       have hfr:=hf r (by simp)
       have hb:=Zo (c:=c) hfr.1
       rw [e3]
       match hd:Rx g c r with
       | none=>
         rw [hd] at hb
         simp only at hb
         have hi:(Cj f c r).2.2=true:=hb
         rw [if_pos hi] at e1
         unfold To
         rw [e1]
         exact Vf f (m+1) _ _
       | some (x,t)=>
         rw [hd] at hb
         obtain ⟨hb,hc,hlen⟩:=hb
         have hi:Cj f c r=((suf x t).1,(suf x t).2,false):=by unfold Cj;rw [hb]
         rw [hi] at e1
         simp only [Bool.false_eq_true,if_false] at e1
         have hcs:=Zn t x hc
         have hsl:=c7 t x
         have hlen2:t.length≤r.length:=by have:=hfr.2;omega
         have hcl':∀y∈l++[(suf x t).1],Cl y:=by
          intro y hy
          rcases List.mem_append.1 hy with h|h
          ·exact hl y h
          ·rw [List.mem_singleton] at h;rw [h];exact hcs
         have:=ih (suf x t).2 (l++[(suf x t).1]) L n (m+1) k (by omega) (by omega) (by omega) (by omega) (fun q hq=>hf q (by simp only [List.length_cons];omega)) hcl' hL
         simp only
         rw [Vg (.inl rfl) hl hcs]
         unfold To at this ⊢
         rw [e1]
         exact this
end
theorem Zp (n:Nat) (s:List UInt8) (h:s.length < n):(C9 n s).2.1.length≤s.length:=(LY n s h).2
theorem c9:∀(n:Nat) (s:List UInt8),s.length < n→W6 (C9 n s) (Zm n s)
 | 0,s,h=>absurd h (Nat.not_lt_zero _)
 | n+1,s,h=>by
   have hf:∀r:List UInt8,r.length < s.length→W6 (C9 n r) (Zm n r)∧(C9 n r).2.1.length≤r.length:=fun r hr=>⟨c9 n r (by omega),Zp n r (by omega)⟩
   exact c8 (f:=C9 n) (g:=Zm n) s.length s [] [] s.length s.length s.length (Nat.le_refl _) (Nat.le_refl _) (Nat.le_refl _) (Nat.le_refl _) hf (by simp) (by simp)
def P6 (s:List UInt8):Ex×Int:=
 if 40 < s.length then (.mk 0 0 [],1)
 else if (C9 41 s).2.2=true∨(C9 41 s).2.1≠[] then (.mk 0 0 [],4)
 else if ZR (C9 41 s).1≠0 then (.mk 0 0 [],4) else ((C9 41 s).1,0)
def j1 (s:List UInt8):Ex×Int:=
 if 40 < s.length then (.mk 0 0 [],1)
 else match Zm 41 s with
  | none=>(.mk 0 0 [],4)
  | some (x,t)=>if t≠[] then (.mk 0 0 [],4) else if ZR x≠0 then (.mk 0 0 [],4) else (x,0)
end
section
open Go.RowKit Go.Shelf
def fE:Ren:={
 f:=fun x=>match x with|137=>89|217=>101|266=>117|n=>n
 t:=fun x=>match x with|9=>9|5=>5|3=>3|n=>n
 g:=fun x=>x}
theorem cp:Lays.n137 Tryz.prog fE:={
 mixed:=by kernel_rfl
 f137:=Tryz.func89.trans (congrArg some (by kernel_rfl))
 f217:=Tryz.func101.trans (congrArg some (by kernel_rfl))
 f266:=Tryz.func117.trans (congrArg some (by kernel_rfl))
 t3:=Tryz.underlying3
 a3:=Tryz.isAgg3
 z3:=Tryz.sizeOf3
 v3:=Tryz.zeroValue3
 t5:=Tryz.underlying5
 a5:=Tryz.isAgg5
 z5:=Tryz.sizeOf5
 v5:=Tryz.zeroValue5
 t9:=Tryz.underlying9
 a9:=Tryz.isAgg9
 z9:=Tryz.sizeOf9
 v9:=Tryz.zeroValue9}
theorem ZY {P:Program} {f:FuncId} {w:World} {I:Nat→Prop} {vs:List Value} {v0:Value} {r0:V} (hI:∀b,I b→b < w.heap.size) (hp:Pr w I v0 r0)
 (h:Calls P f vs.toArray w fun e w'=>e= .returned v0∧w'=w):
 Calls P f vs.toArray w fun e w'=>∃v r I',e= .returned v∧r=r0∧Pr w' I' v r∧(∀b,I' b→b < w'.heap.size∧(I b∨w.heap.size≤b))∧Kept (fun _=>False) w w':=by
 refine h.mono ?_
 rintro e w' ⟨rfl,rfl⟩
 exact ⟨_,_,I,rfl,rfl,hp,fun b hIb=>⟨hI b hIb,.inl hIb⟩,Kept.refl _ _⟩
theorem Tj {w:World} {I:Nat→Prop} {v:Value} {k:IntKind} {n:Int} (h:Pr w I v (.int k n)):v= .int k n:=by
 generalize hx:V.int k n=x at h
 cases h with
 | int k' n'=>cases hx;rfl
 | _=>cases hx
theorem BJ (s:List UInt8) (c:UInt8):Fn1 Tryz.prog 89 [.str s,.int .u8 c.toNat] (fun r=>r= .int .i64 (Lib.indexByte s c)):=by
 intro w I vs hl hv hI
 obtain ⟨v0,v1,rfl⟩:∃v0 v1,vs=[v0,v1]:=by
  match vs,hl with
  | [a,b],_=>exact ⟨a,b,rfl⟩
 obtain ⟨rfl,hs⟩:=Ii (hv 0 v0 _ rfl rfl)
 obtain rfl:=Tj (hv 1 v1 _ rfl rfl)
 refine ZY hI (.int .i64 (Lib.indexByte s c)) ?_
 have h:=Any.strings_IndexByte cp ⟨s.toArray⟩ (c.toNat:Int) w
 rw [show ((c.toNat:Int)).toNat.toUInt8=c by simp] at h
 exact h
end
section
open Go.RowKit
theorem Tm {P:Program} {f:FuncId} {args:List V} {objs:List Ob} {fixed:List Nat} {R:V→List Ob→Prop} (h:HFn P f args objs fixed fun r o=>R r.nl o):HFn P f args objs fixed R:=
 fun w I bl vs h1 h2 h3=>(h w I bl vs h1 h2 h3).mono fun _ _ ⟨v,r,o,I',bl',a,b,c,d,e⟩=>⟨v,r.nl,o,I',bl',a,b,c,d.nl,e⟩
mutual
theorem Zh:∀x:Ex,(ga x).nl=ga x
 | Ex.mk k t ps=>by rw [ga];simp only [V.nl,LD,Vd ps]
theorem Vd:∀l:List Ex,LD (KO l)=KO l
 | []=>by rw [KO];rfl
 | x::l=>by rw [KO];simp only [LD,Zh x,Vd l]
end
theorem Do (x:Ex):(Ah x).nl=Ah x:=by rw [←ZO];exact Zh x
theorem cy (k t:Int) (l:List Ex):(V.agg [.int .i64 k,.int .i64 t,.lst (l.map Ah)]).nl= .agg [.int .i64 k,.int .i64 t,.lst (l.map Ah)]:=by rw [←DF];exact Do _
theorem E3 (id:Nat) (l:List Ex):AF id (l.map Ah)=l.map Ah:=AA _ (Gb l)
theorem Zi (l:List Ex):∀y∈l.map Ah,y.cells.length=3:=fun y hy=>by
 obtain ⟨q,_,rfl⟩:=List.mem_map.1 hy
 exact Wp q
def eA (s:List UInt8) (b:Bool):List Ob:=[.row 2 [.agg [.str s,.bool b]]]
def Mx (s:List UInt8) (c:UInt8):Bool:=decide (s.head?=some c)
def Il (s:List UInt8) (c:UInt8):List UInt8:=if s.head?=some c then s.tail else s
theorem Ve (s:List UInt8) (b:Bool) (c:UInt8):HFn Tryz.prog 40 [.ptr 0 0 0,.int .u8 c.toNat] (eA s b) [0] (fun r o=>r= .bool (Mx s c)∧o=eA (Il s c) b):=by
 refine IJ Tryz.func40 fun C vs hC hE=>?_
 cases s with
 | nil=>
   have h0:([]:List UInt8)=[]:=rfl
   conv=>whnf
   repeat' refine A2 ?_<;>conv=>whnf
   refine Ap (AH (BP hE ?_))
   conv=>whnf
   exact ⟨rfl,rfl,rfl,rfl⟩
 | cons d r=>
   have h0:¬(d::r=[]):=by simp
   have h1:Int.toNat 1≤(d::r).length:=by simp
   by_cases h:d=c
   ·have ht:Mx (d::r) c=true:=by unfold Mx;rw [decide_eq_true_eq,h];rfl
    have hs:Il (d::r) c=r:=by unfold Il;rw [if_pos (by rw [h];rfl)];rfl
    rw [ht,hs]
    subst h
    conv=>whnf
    repeat' (first|refine A2 ?_|refine A1 ?_|refine AO ?_)<;>conv=>whnf
    refine Ap (AH (BP hE ?_))
    conv=>whnf
    exact ⟨rfl,rfl,rfl,rfl⟩
   ·have ht:Mx (d::r) c=false:=by unfold Mx;rw [decide_eq_false_iff_not];simpa using h
    have hs:Il (d::r) c=d::r:=by unfold Il;rw [if_neg (by simpa using h)]
    have h2:¬((d.toNat:Int)=c.toNat):=fun e=>h (UInt8.toNat_inj.1 (by omega))
    rw [ht,hs]
    conv=>whnf
    repeat' (first|refine A1 ?_|refine AO ?_)<;>conv=>whnf
    refine Ap (AH (BP hE ?_))
    conv=>whnf
    exact ⟨rfl,rfl,rfl,rfl⟩
theorem W5 (k:Int) {l:List Ex} {j:Nat} {x:Ex} (hx:l[j]?=some x):(l.take (j+1)).flatMap (Gy k)=(l.take j).flatMap (Gy k)++Gy k x:=by
 rw [List.take_add_one,hx,List.flatMap_append]
 simp
theorem Rt (l:List Ex) (j:Nat):Ay (l.take j)≤Ay l:=by
 conv=>rhs;rw [←List.take_append_drop j l]
 rw [Eg];omega
set_option maxHeartbeats 4000000 in
theorem Ru (k:Int) (l:List Ex) (hl:Ay l≤1048576):Fn1 Tryz.prog 41 [.int .i64 k,.lst (l.map Ah)] (fun r=>r=Ah (GP k l)):=by
 have hlm:(l.map Ah).length=l.length:=by simp
 have hll:=Ec l
 refine Pq ?_
 by_cases h1:l.length=1
 ·obtain ⟨x,rfl⟩:=List.length_eq_one_iff.1 h1
  obtain ⟨a,t,ps⟩:=x
  refine Ax Tryz.func41 fun C hC hE=>?_
  conv=>whnf
  repeat' (first|refine A2 ?_|refine AO ?_|refine AC hE ?_|intro hlen)<;>conv=>whnf
  all_goals exact ⟨rfl,Do (.mk a t ps)⟩
 ·have htog:GP k l=KS k (l.flatMap (Gy k)):=by
   unfold GP
   split
   ·exact absurd rfl h1
   ·rfl
  refine Ax Tryz.func41 fun C hC hE=>?_
  conv=>whnf
  repeat' (first|refine A1 ?_|intro hlen)<;>conv=>whnf
  refine Ab (fun j:Nat=>⟨48,[(0,.int .i64 k),(4,.ptr 0 0 0),(5,.ptr 1 0 0),(16,.lst (l.map Ah)),(17,.int .i64 (l.map Ah).length),(18,.int .i64 j)],[some (.row 3 [.agg [.int .i64 0,.int .i64 0,.nils]]),some (.row 3 [.agg [.int .i64 k,.int .i64 0,.sl 2 0 ((l.take j).flatMap (Gy k)).length]]),some (.row 3 (((l.take j).flatMap (Gy k)).map Ah))]⟩)
   (fun j=>j≤l.length) (fun j=>l.length - j) 0 hE ?_ (Nat.zero_le _) ?_
  ·exact Cw 1 2 3 rfl rfl (AP [0,4,5,16,17,18] rfl)
  intro j hj
  by_cases hlt:j < l.length
  ·obtain ⟨a,t,ps,hx,hx'⟩:=Rk hlt
   have hst:=W5 k hx
   have hcz:=Je k (l.take j)
   have htz:=Rt l j
   have hcl:=Ec ((l.take j).flatMap (Gy k))
   have hcz2:=Je k (l.take (j+1))
   have htz2:=Rt l (j+1)
   have hcl2:=Ec ((l.take (j+1)).flatMap (Gy k))
   generalize hcur:(l.take j).flatMap (Gy k)=cur at*
   rw [hst] at hcz2
   rw [hst,List.length_append] at hcl2
   have hcm:(cur.map Ah).length=cur.length:=by simp
   have hpm:(ps.map Ah).length=ps.length:=by simp
   by_cases hk:a=k
   ·have hs:Gy k (.mk a t ps)=ps:=if_pos hk
    rw [hs] at hst hcl2 hcz2
    have hA:List.take cur.length (List.drop 0 (cur.map Ah))++ps.map Ah=(cur++ps).map Ah:=by
     rw [List.drop_zero,List.take_of_length_le (by omega),List.map_append]
    have hA2:cur.length+(ps.map Ah).length=(cur++ps).length:=by simp
    conv=>whnf
    repeat' (first|refine A2 ?_|refine AO ?_|refine AV ?_|refine Ad ?_|refine ⟨Zi ps,?_⟩|fail)<;>conv=>whnf
    refine AM [0,4,5,16,17,18] [3] (j+1) (show j+1≤l.length by omega) (show l.length - (j+1) < l.length - j by omega) ?_
    conv=>whnf
    rw [hst,hA,E3,E3,hA2]
    rfl
   ·have hs:Gy k (.mk a t ps)=[.mk a t ps]:=if_neg hk
    rw [hs] at hst hcl2 hcz2
    have hA:List.take cur.length (List.drop 0 (cur.map Ah))++List.take 1 (List.drop 0 [V.agg [.int .i64 a,.int .i64 t,.lst (ps.map Ah)]])=(cur++[Ex.mk a t ps]).map Ah:=by
     rw [List.drop_zero,List.take_of_length_le (by omega),List.map_append,←DF]
     rfl
    have hA2:cur.length+(List.take 1 (List.drop 0 [V.agg [.int .i64 a,.int .i64 t,.lst (ps.map Ah)]])).length=(cur++[Ex.mk a t ps]).length:=by simp
    simp only [List.length_singleton] at hcl2
    conv=>whnf
    repeat' (first|refine A2 ?_|refine A1 ?_|refine AO ?_|refine AV ?_|refine Ad ?_|refine EN (Nat.le_refl 1) ?_|(refine EN ⟨?_,?_,?_⟩ ?_;omega;(show _+1≤9223372036854775807;omega);(show (_+1)*_≤140737488355328;omega)))<;>conv=>whnf
    refine AM [0,4,5,16,17,18] [3,4] (j+1) (show j+1≤l.length by omega) (show l.length - (j+1) < l.length - j by omega) ?_
    conv=>whnf
    rw [hst,hA,E3,E3,E3,hA2]
    rfl
  ·have hjl:j=l.length:=by omega
   subst hjl
   rw [htog,List.take_length]
   have hcz:=Je k l
   have hcl:=Ec (l.flatMap (Gy k))
   generalize l.flatMap (Gy k)=cur at*
   have hcm:(cur.map Ah).length=cur.length:=by simp
   by_cases hc1:cur.length=1
   ·obtain ⟨y,rfl⟩:=List.length_eq_one_iff.1 hc1
    obtain ⟨a,t,ps⟩:=y
    rw [M0]
    conv=>whnf
    repeat' (first|refine A2 ?_|refine A1 ?_|refine AO ?_|refine AC hE ?_|intro hlen)<;>conv=>whnf
    exact ⟨rfl,Do (.mk a t ps)⟩
   ·rw [Hx hc1]
    have hfz:Ai 2 (cur.map Ah) [V.agg [.int .i64 k,.int .i64 0,.sl 2 0 cur.length]]=[.agg [.int .i64 k,.int .i64 0,.lst (cur.map Ah)]]:=by
     simp only [Ai,V.frz,if_true]
     rw [if_pos (by omega),List.drop_zero,List.take_of_length_le (by omega)]
    conv=>whnf
    repeat' (first|refine A1 ?_<;>conv=>whnf|(refine DD (AK 2 (z:=3) (els:=cur.map Ah) rfl (Gb cur) (A0 [some (.row 3 [.agg [.int .i64 k,.int .i64 0,.lst (cur.map Ah)]]),some (.row 3 [.agg [.int .i64 k,.int .i64 0,.lst (cur.map Ah)]]),none] ?_ (AH ?_)));(conv=>whnf);simp only [List.set_cons_zero,hfz])|(first|refine AC hE ?_|intro hlen)<;>conv=>whnf)
    exact ⟨rfl,(cy k 0 cur).trans (DF k 0 cur).symm⟩
end
end Go.Proofs.YtkaiffheakalmaaGreatDoor
