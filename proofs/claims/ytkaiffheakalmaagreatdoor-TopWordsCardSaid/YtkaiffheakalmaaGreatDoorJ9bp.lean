/- Joined. No conditions. -/
import Derived.Test.YtkaiffheakalmaaGreatDoorJ9bo
set_option linter.unusedSimpArgs false
set_option linter.unusedVariables false
set_option maxRecDepth 100000
namespace Go.Proofs.YtkaiffheakalmaaGreatDoor
open Go.RowKit
mutual
def gE:Ex→Bool
 | .mk k _ ps=>if k=1 then false else if k=2 then eJ ps else if k=3 then gG ps else if k=6 then true else if k=5 then gG ps else true
def eJ:List Ex→Bool
 | []=>true
 | p::ps=>gE p&&eJ ps
def gG:List Ex→Bool
 | []=>false
 | p::ps=>gE p || gG ps
end
mutual
def jP (c:Int):Ex→List (List Ex)
 | .mk k t ps=>if k=1 then (if t=c then [[]] else []) else if k=2 then gH c ps else if k=3 then dg c ps else if k=6 then dg c ps else (dg c ps).map fun s=>s++[.mk 4 0 ps]
def gH (c:Int):List Ex→List (List Ex)
 | []=>[]
 | p::ps=>(jP c p).map (fun s=>s++ps)++(if gE p then gH c ps else [])
def dg (c:Int):List Ex→List (List Ex)
 | []=>[]
 | p::ps=>jP c p++dg c ps
end
def CT (S:List (List Ex)) (w:List Int):Prop:=∃s∈S,Bq s w
theorem Xu (w:List Int):¬CT [] w:=fun ⟨s,h,_⟩=>by cases h
theorem PK (S T:List (List Ex)) (w:List Int):CT (S++T) w↔CT S w∨CT T w:=by
 unfold CT
 constructor
 ·rintro ⟨s,h,h2⟩
  rcases List.mem_append.1 h with h|h
  ·exact .inl ⟨s,h,h2⟩
  ·exact .inr ⟨s,h,h2⟩
 ·rintro (⟨s,h,h2⟩|⟨s,h,h2⟩)
  ·exact ⟨s,List.mem_append_left _ h,h2⟩
  ·exact ⟨s,List.mem_append_right _ h,h2⟩
theorem PL (s t:List Ex) (w:List Int):Bq (s++t) w↔He (Bq s) (Bq t) w:=by
 induction s generalizing w with
 | nil=>
   simp only [List.nil_append,Bq,He]
   constructor
   ·intro h;exact ⟨[],w,rfl,rfl,h⟩
   ·rintro ⟨u,v,rfl,rfl,h⟩;exact h
 | cons p s ih=>
   simp only [List.cons_append,Bq]
   constructor
   ·rintro ⟨u,v,rfl,h,h2⟩
    obtain ⟨a,b,rfl,h3,h4⟩:=(ih v).1 h2
    exact ⟨u++a,b,by simp,⟨u,a,rfl,h,h3⟩,h4⟩
   ·rintro ⟨_,v,rfl,⟨u,a,rfl,h,h3⟩,h4⟩
    exact ⟨u,a++v,by simp,h,(ih _).2 ⟨a,v,rfl,h3,h4⟩⟩
theorem PM (S:List (List Ex)) (t:List Ex) (w:List Int):CT (S.map fun s=>s++t) w↔He (CT S) (Bq t) w:=by
 unfold CT
 constructor
 ·rintro ⟨s,h,h2⟩
  obtain ⟨q,hq,rfl⟩:=List.mem_map.1 h
  obtain ⟨u,v,e,h3,h4⟩:=(PL q t w).1 h2
  exact ⟨u,v,e,⟨q,hq,h3⟩,h4⟩
 ·rintro ⟨u,v,e,⟨q,hq,h3⟩,h4⟩
  exact ⟨q++t,List.mem_map.2 ⟨q,hq,rfl⟩,(PL q t w).2 ⟨u,v,e,h3,h4⟩⟩
theorem V3 {L M:List Int→Prop}:He L M []↔L []∧M []:=by
 constructor
 ·rintro ⟨u,v,h,h1,h2⟩
  obtain ⟨rfl,rfl⟩:=List.append_eq_nil_iff.1 h.symm
  exact ⟨h1,h2⟩
 ·rintro ⟨h1,h2⟩;exact ⟨[],[],rfl,h1,h2⟩
theorem Sh {L M:List Int→Prop} {c:Int} {w:List Int}:He L M (c::w)↔He (fun u=>L (c::u)) M w∨(L []∧M (c::w)):=by
 constructor
 ·rintro ⟨u,v,h,h1,h2⟩
  cases u with
  | nil=>rw [List.nil_append] at h;subst h;exact .inr ⟨h1,h2⟩
  | cons a u=>simp only [List.cons_append,List.cons.injEq] at h;obtain ⟨rfl,rfl⟩:=h;exact .inl ⟨u,v,rfl,h1,h2⟩
 ·rintro (⟨u,v,rfl,h1,h2⟩|⟨h1,h2⟩)
  ·exact ⟨c::u,v,rfl,h1,h2⟩
  ·exact ⟨[],c::w,rfl,h1,h2⟩
theorem PN {L:List Int→Prop} {c:Int} {w:List Int}:StarL L (c::w)↔He (fun u=>L (c::u)) (StarL L) w:=by
 constructor
 ·intro h
  generalize e:c::w=x at h
  induction h with
  | nil=>cases e
  | @cons u v h1 h2 ih=>
    cases u with
    | nil=>exact ih e
    | cons a u=>simp only [List.cons_append,List.cons.injEq] at e;obtain ⟨rfl,rfl⟩:=e;exact ⟨u,v,rfl,h1,h2⟩
 ·rintro ⟨u,v,rfl,h1,h2⟩
  exact StarL.cons (u:=c::u) h1 h2
theorem PO {L L' M M':List Int→Prop} (h:∀w,L w↔L' w) (h2:∀w,M w↔M' w) (w:List Int):He L M w↔He L' M' w:=by
 have e1:L=L':=funext fun w=>propext (h w)
 have e2:M=M':=funext fun w=>propext (h2 w)
 rw [e1,e2]
theorem Si (k t:Int) (ps:List Ex):Av (.mk k t ps)=if k=1 then fun w=>w=[t] else if k=2 then Bq ps else if k=3 then BU ps else if k=6 then fun w=>w=[]∨BU ps w else if k=5 then He (BU ps) (StarL (BU ps)) else StarL (BU ps):=by rw [Av]
theorem az:∀N:Nat,(∀x,El x≤N→(Av x []↔gE x=true))∧(∀ps,Ay ps≤N→(Bq ps []↔eJ ps=true))∧(∀ps,Ay ps≤N→(BU ps []↔gG ps=true)):=by
 intro N
 induction N with
 | zero=>
   refine ⟨fun x hx=>?_,fun ps hps=>?_,fun ps hps=>?_⟩
   ·have:=CZ x;omega
   ·cases ps with
    | nil=>simp [Bq,eJ]
    | cons p ps=>rw [Ay] at hps;have:=CZ p;omega
   ·cases ps with
    | nil=>simp [BU,gG]
    | cons p ps=>rw [Ay] at hps;have:=CZ p;omega
 | succ N ih=>
   obtain ⟨ihE,ihS,ihA⟩:=ih
   have hE:∀x,El x≤N+1→(Av x []↔gE x=true):=by
    rintro ⟨k,t,ps⟩ hx
    rw [CQ] at hx
    rw [Si,gE]
    have hS:=ihS ps (by omega)
    have hA:=ihA ps (by omega)
    split
    ·simp
    split
    ·exact hS
    split
    ·exact hA
    split
    ·simp
    split
    ·rw [V3,hA]
     exact ⟨fun h=>h.1,fun h=>⟨h,.nil⟩⟩
    ·exact ⟨fun _=>rfl,fun _=>.nil⟩
   refine ⟨hE,fun ps hps=>?_,fun ps hps=>?_⟩
   ·cases ps with
    | nil=>simp [Bq,eJ]
    | cons p ps=>
      rw [Ay] at hps
      have:=CZ p
      rw [Bq,eJ,V3,hE p (by omega),ihS ps (by omega),Bool.and_eq_true]
   ·cases ps with
    | nil=>simp [BU,gG]
    | cons p ps=>
      rw [Ay] at hps
      have:=CZ p
      rw [BU,gG,Bool.or_eq_true,←hE p (by omega),←ihA ps (by omega)]
theorem Kj (x:Ex) (w:List Int):Bq [x] w↔Av x w:=by
 rw [Bq]
 constructor
 ·rintro ⟨u,v,rfl,h,h2⟩
  rw [Bq] at h2
  subst h2
  rw [List.append_nil]
  exact h
 ·intro h
  exact ⟨w,[],by simp,h,by rw [Bq]⟩
theorem eK (c:Int):∀N:Nat,(∀x w,El x≤N→(Av x (c::w)↔CT (jP c x) w))∧(∀ps w,Ay ps≤N→(Bq ps (c::w)↔CT (gH c ps) w))∧(∀ps w,Ay ps≤N→(BU ps (c::w)↔CT (dg c ps) w)):=by
 intro N
 induction N with
 | zero=>
   refine ⟨fun x w hx=>?_,fun ps w hps=>?_,fun ps w hps=>?_⟩
   ·have:=CZ x;omega
   ·cases ps with
    | nil=>simp [Bq,gH,CT]
    | cons p ps=>rw [Ay] at hps;have:=CZ p;omega
   ·cases ps with
    | nil=>simp [BU,dg,CT]
    | cons p ps=>rw [Ay] at hps;have:=CZ p;omega
 | succ N ih=>
   obtain ⟨ihE,ihS,ihA⟩:=ih
   have hE:∀x w,El x≤N+1→(Av x (c::w)↔CT (jP c x) w):=by
    rintro ⟨k,t,ps⟩ w hx
    rw [CQ] at hx
    rw [Si,jP]
    have hS:=fun w=>ihS ps w (by omega)
    have hA:=fun w=>ihA ps w (by omega)
    have hst:He (fun u=>BU ps (c::u)) (StarL (BU ps)) w↔CT ((dg c ps).map fun s=>s++[.mk 4 0 ps]) w:=by
     rw [PM]
     refine PO hA (fun w=>?_) w
     rw [Kj,O4]
    by_cases h1:k=1
    ·rw [if_pos h1,if_pos h1]
     by_cases e:t=c
     ·subst e
      rw [if_pos rfl]
      simp [CT,Bq]
     ·rw [if_neg e]
      have:¬c=t:=fun h=>e h.symm
      simp [CT,this]
    rw [if_neg h1,if_neg h1]
    by_cases h2:k=2
    ·rw [if_pos h2,if_pos h2];exact hS w
    rw [if_neg h2,if_neg h2]
    by_cases h3:k=3
    ·rw [if_pos h3,if_pos h3];exact hA w
    rw [if_neg h3,if_neg h3]
    by_cases h6:k=6
    ·rw [if_pos h6,if_pos h6]
     simp only [reduceCtorEq,false_or]
     exact hA w
    rw [if_neg h6,if_neg h6]
    by_cases h5:k=5
    ·rw [if_pos h5,Sh,←hst]
     constructor
     ·rintro (h|⟨_,h⟩)
      ·exact h
      ·exact PN.1 h
     ·exact .inl
    ·rw [if_neg h5,PN]
     exact hst
   refine ⟨hE,fun ps w hps=>?_,fun ps w hps=>?_⟩
   ·cases ps with
    | nil=>simp [Bq,gH,CT]
    | cons p ps=>
      rw [Ay] at hps
      have:=CZ p
      have hp:=fun w=>hE p w (by omega)
      have hn:=(az (El p)).1 p (Nat.le_refl _)
      rw [Bq,gH,Sh,PK,PM,PO hp (fun w=>Iff.rfl) w,hn,ihS ps w (by omega)]
      by_cases hu:gE p=true
      ·rw [if_pos hu]
       simp [hu]
      ·rw [if_neg hu]
       simp [hu,CT]
   ·cases ps with
    | nil=>simp [BU,dg,CT]
    | cons p ps=>
      rw [Ay] at hps
      have:=CZ p
      rw [BU,dg,PK,←hE p w (by omega),←ihA ps w (by omega)]
mutual
def jj:Ex→Ex→Bool
 | .mk k t ps,.mk k' t' ps'=>decide (k=k')&&decide (t=t')&&a8 ps ps'
def a8:List Ex→List Ex→Bool
 | [],[]=>true
 | x::xs,y::ys=>jj x y&&a8 xs ys
 | _,_=>false
end
theorem gI:∀N:Nat,(∀x y,El x≤N→jj x y=true→x=y)∧(∀a b,Ay a≤N→a8 a b=true→a=b):=by
 intro N
 induction N with
 | zero=>
   refine ⟨fun x y hx=>?_,fun a b ha h=>?_⟩
   ·have:=CZ x;omega
   ·cases a with
    | nil=>cases b with
      | nil=>rfl
      | cons y b=>simp [a8] at h
    | cons p ps=>rw [Ay] at ha;have:=CZ p;omega
 | succ N ih=>
   obtain ⟨ihE,ihL⟩:=ih
   have hE:∀x y,El x≤N+1→jj x y=true→x=y:=by
    rintro ⟨k,t,ps⟩ ⟨k',t',ps'⟩ hx h
    rw [CQ] at hx
    simp only [jj,Bool.and_eq_true,decide_eq_true_eq] at h
    obtain ⟨⟨rfl,rfl⟩,h⟩:=h
    rw [ihL ps ps' (by omega) h]
   refine ⟨hE,fun a b ha h=>?_⟩
   cases a with
   | nil=>cases b with
     | nil=>rfl
     | cons y b=>simp [a8] at h
   | cons p ps=>
     rw [Ay] at ha
     have:=CZ p
     cases b with
     | nil=>simp [a8] at h
     | cons y b=>
       simp only [a8,Bool.and_eq_true] at h
       rw [hE p y (by omega) h.1,ihL ps b (by omega) h.2]
theorem bA {a b:List Ex} (h:a8 a b=true):a=b:=(gI (Ay a)).2 a b (Nat.le_refl _) h
def eL:List (List Ex)→List (List Ex)→Bool
 | [],[]=>true
 | x::xs,y::ys=>a8 x y&&eL xs ys
 | _,_=>false
theorem UL:∀{a b:List (List Ex)},eL a b=true→a=b
 | [],[],_=>rfl
 | [],_::_,h=>by simp [eL] at h
 | _::_,[],h=>by simp [eL] at h
 | x::xs,y::ys,h=>by
   simp only [eL,Bool.and_eq_true] at h
   rw [bA h.1,UL h.2]
def jk:List (List Ex)→List (List Ex)
 | []=>[]
 | s::S=>s::(jk S).filter fun q=>!a8 q s
theorem Qj {s:List Ex}:∀{S:List (List Ex)},s∈jk S↔s∈S
 | []=>Iff.rfl
 | q::S=>by
   rw [jk,List.mem_cons,List.mem_cons,List.mem_filter,Qj (S:=S)]
   constructor
   ·rintro (h|h)
    ·exact .inl h
    ·exact .inr h.1
   ·rintro (h|h)
    ·exact .inl h
    ·by_cases e:a8 s q=true
     ·exact .inl (bA e)
     ·exact .inr ⟨h,by simp [e]⟩
def jl (c:Int) (S:List (List Ex)):List (List Ex):=jk (S.flatMap (gH c))
theorem gJ (c:Int) (S:List (List Ex)) (w:List Int):CT S (c::w)↔CT (jl c S) w:=by
 unfold CT jl
 constructor
 ·rintro ⟨s,hs,h⟩
  obtain ⟨q,hq,h2⟩:=((eK c (Ay s)).2.1 s w (Nat.le_refl _)).1 h
  exact ⟨q,Qj.2 (List.mem_flatMap.2 ⟨s,hs,hq⟩),h2⟩
 ·rintro ⟨q,hq,h⟩
  obtain ⟨s,hs,hq⟩:=List.mem_flatMap.1 (Qj.1 hq)
  exact ⟨s,hs,((eK c (Ay s)).2.1 s w (Nat.le_refl _)).2 ⟨q,hq,h⟩⟩
theorem gK (S:List (List Ex)):CT S []↔S.any eJ=true:=by
 rw [List.any_eq_true]
 unfold CT
 constructor
 ·rintro ⟨s,hs,h⟩;exact ⟨s,hs,((az (Ay s)).2.1 s (Nat.le_refl _)).1 h⟩
 ·rintro ⟨s,hs,h⟩;exact ⟨s,hs,((az (Ay s)).2.1 s (Nat.le_refl _)).2 h⟩
def V4 (N:List (List Int)) (at' n:Int):Int:=if 0≤at' then (N.getD at'.toNat []).getD n.toNat (-1) else at'
def GL (N:List (List Int)) (at':Int) (w:List Int):Int:=w.foldl (V4 N) at'
def Hj (N:List (List Int)) (F:List Bool) (at':Int) (w:List Int):Bool:=decide (0≤GL N at' w)&&F.getD (GL N at' w).toNat false
theorem Qk (N:List (List Int)) (at':Int) (h:at' < 0):∀w,GL N at' w=at'
 | []=>rfl
 | n::w=>by
   show GL N (V4 N at' n) w=at'
   have:V4 N at' n=at':=by unfold V4;rw [if_neg (by omega)]
   rw [this]
   exact Qk N at' h w
def jQ (N:List (List Int)) (F:List Bool) (P:List (List (List Ex)×Int)):Bool:=
 P.all fun p=>if p.2 < 0 then p.1.isEmpty else (p.1.any eJ==F.getD p.2.toNat false)&&(List.range 8).all fun c=>P.any fun q=>eL q.1 (jl c p.1)&&decide (q.2=(N.getD p.2.toNat []).getD c (-1))
theorem V5 {N:List (List Int)} {F:List Bool} {P:List (List (List Ex)×Int)} (h:jQ N F P=true):∀(w:List Int),(∀n∈w,0≤n∧n < 8)→∀p∈P,(CT p.1 w↔Hj N F p.2 w=true)
 | [],_,p,hp=>by
   have:=List.all_eq_true.1 h p hp
   rw [gK]
   unfold Hj
   show _↔(decide (0≤p.2)&&F.getD p.2.toNat false)=true
   split at this
   ·rename_i h0
    rw [List.isEmpty_iff.1 this]
    simp
    omega
   ·rename_i h0
    rw [Bool.and_eq_true] at this
    rw [beq_iff_eq.1 this.1]
    simp
    omega
 | n::w,hw,p,hp=>by
   have:=List.all_eq_true.1 h p hp
   have hn:=hw n (List.mem_cons_self ..)
   split at this
   ·rename_i h0
    rw [List.isEmpty_iff.1 this]
    unfold Hj
    rw [Qk N p.2 h0]
    constructor
    ·intro hx;exact absurd hx (Xu _)
    ·intro hx;simp at hx;omega
   ·rename_i h0
    rw [Bool.and_eq_true] at this
    have h2:=List.all_eq_true.1 this.2 n.toNat (List.mem_range.2 (by omega))
    obtain ⟨q,hq,h3⟩:=List.any_eq_true.1 h2
    rw [Bool.and_eq_true,decide_eq_true_eq] at h3
    have e1:=UL h3.1
    have e0:((n.toNat:Nat):Int)=n:=by omega
    rw [e0] at e1
    have ih:=V5 h w (fun m hm=>hw m (List.mem_cons_of_mem _ hm)) q hq
    rw [gJ,←e1,ih]
    unfold Hj
    have:GL N p.2 (n::w)=GL N q.2 w:=by
     show GL N (V4 N p.2 n) w=_
     rw [h3.2]
     unfold V4
     rw [if_pos (by omega)]
    rw [this]
def gM (N:List (List Int)):Nat→List (List (List Ex)×Int)→List (List (List Ex)×Int)→List (List (List Ex)×Int)
 | 0,P,_=>P
 | _+1,P,[]=>P
 | f+1,P,p::Q=>if p.2 < 0 then gM N f P Q else
    let new:=(List.range 8).map fun (c:Nat)=>(jl c p.1,(N.getD p.2.toNat []).getD c (-1))
    let add:=new.foldl (fun (a:List (List (List Ex)×Int)) q=>if (P++a).any (fun r=>eL r.1 q.1&&decide (r.2=q.2)) then a else a++[q]) []
    gM N f (P++add) (Q++add)
def jR (x:Ex) (m:Mc):List (List (List Ex)×Int):=gM m.N 40 [([[x]],0)] [([[x]],0)]
def bB (x:Ex) (m:Mc):Bool:=jQ m.N m.F (jR x m)&&(jR x m).any fun p=>eL p.1 [[x]]&&decide (p.2=0)
theorem gO {x:Ex} {m:Mc} (h:bB x m=true) (w:List Int) (hw:∀n∈w,0≤n∧n < 8):Av x w↔Hj m.N m.F 0 w=true:=by
 unfold bB at h
 rw [Bool.and_eq_true] at h
 obtain ⟨p,hp,h2⟩:=List.any_eq_true.1 h.2
 rw [Bool.and_eq_true,decide_eq_true_eq] at h2
 have h3:=V5 h.1 w hw p hp
 rw [UL h2.1,h2.2] at h3
 rw [←h3]
 unfold CT
 constructor
 ·intro hx;exact ⟨_,List.mem_singleton.2 rfl,(Kj x w).2 hx⟩
 ·rintro ⟨s,hs,hx⟩
  rw [List.mem_singleton.1 hs] at hx
  exact (Kj x w).1 hx
def dh (N:List (List Int)) (F:List Bool):Nat→Nat→Bool
 | 0,i=>F.getD i false
 | f+1,i=>F.getD i false || (N.getD i []).any fun to=>decide (0≤to)&&dh N F f to.toNat
theorem V6 {N:List (List Int)} {F:List Bool} (R:Nat→Prop) (h1:∀i,F.getD i false=true→R i) (h2:∀(i:Nat) (to:Int),to∈N.getD i []→0≤to→R to.toNat→R i):∀(f i:Nat),dh N F f i=true→R i
 | 0,i,h=>h1 i h
 | f+1,i,h=>by
   rw [dh,Bool.or_eq_true] at h
   rcases h with h|h
   ·exact h1 i h
   ·obtain ⟨to,ht,h⟩:=List.any_eq_true.1 h
    rw [Bool.and_eq_true,decide_eq_true_eq] at h
    exact h2 i to ht h.1 (V6 R h1 h2 f _ h.2)
def V7 (m:Mc):Bool:=(List.range m.N.length).all fun i=>dh m.N m.F 4 i
structure TwOk (x:Ex) (m:Mc):Prop where
 bis:bB x m=true
 liv:V7 m=true
theorem kw:TwOk gj fj:=⟨by decide +kernel,by decide +kernel⟩
theorem kx:TwOk gk fk:=⟨by decide +kernel,by decide +kernel⟩
theorem kP:TwOk fm eG:=⟨by decide +kernel,by decide +kernel⟩
theorem ky:TwOk gl fp:=⟨by decide +kernel,by decide +kernel⟩
theorem kz:TwOk gu ft:=⟨by decide +kernel,by decide +kernel⟩
theorem lA:TwOk gv fu:=⟨by decide +kernel,by decide +kernel⟩
theorem jm:TwOk eH da:=⟨by decide +kernel,by decide +kernel⟩
theorem kQ:TwOk iA fv:=⟨by decide +kernel,by decide +kernel⟩
theorem lB:TwOk iB fw:=⟨by decide +kernel,by decide +kernel⟩
theorem lC:TwOk iC fx:=⟨by decide +kernel,by decide +kernel⟩
theorem kG:TwOk Xj UG:=⟨by decide +kernel,by decide +kernel⟩
theorem kH:TwOk Xk UH:=⟨by decide +kernel,by decide +kernel⟩
theorem jS {h:Ch} (hk:h.ok):∀(i:Nat),i < 6→∃x m,(ij h)[i]?=some x∧(N8 h)[i]?=some m∧TwOk x m:=by
 obtain ⟨a,b,c,d,e,f⟩:=h
 obtain ⟨ha,hb,hc,hd,he,hf⟩:=hk
 dsimp only at ha hb hc hd he hf
 intro i hi
 obtain rfl|rfl|rfl|rfl|rfl|rfl:i=0∨i=1∨i=2∨i=3∨i=4∨i=5:=by omega
 ·refine ⟨_,_,rfl,rfl,?_⟩
  obtain rfl|rfl|rfl|rfl:a=0∨a=1∨a=2∨a=3:=by omega
  ·exact kw
  ·exact kx
  ·exact kP
  ·exact ky
 ·refine ⟨_,_,rfl,rfl,?_⟩
  obtain rfl|rfl|rfl:b=0∨b=1∨b=2:=by omega
  ·exact kz
  ·exact lA
  ·exact jm
 ·refine ⟨_,_,rfl,rfl,?_⟩
  obtain rfl|rfl:c=0∨c=1:=by omega
  ·exact kQ
  ·exact jm
 ·refine ⟨_,_,rfl,rfl,?_⟩
  obtain rfl|rfl|rfl:d=0∨d=1∨d=2:=by omega
  ·exact lB
  ·exact lC
  ·exact kG
 ·refine ⟨_,_,rfl,rfl,?_⟩
  obtain rfl|rfl|rfl:e=0∨e=1∨e=2:=by omega
  ·exact kH
  ·exact jm
  ·exact kP
 ·refine ⟨_,_,rfl,rfl,?_⟩
  obtain rfl|rfl:f=0∨f=1:=by omega
  ·exact kQ
  ·exact jm
theorem Qd (ms:List Mc) (h7:ms.length=7):∀(i:Nat) (m:Mc),ms[i]?=some m→((nmsC.zip ms).getD i O9).2=m:=by
 intro i m hm
 have hi:i < 7:=by rw [←h7];exact (List.getElem?_eq_some_iff.1 hm).1
 obtain ⟨a,b,c,d,e,f,g,rfl⟩:∃a b c d e f g,ms=[a,b,c,d,e,f,g]:=by
  match ms,h7 with
  | [a,b,c,d,e,f,g],_=>exact ⟨a,b,c,d,e,f,g,rfl⟩
 obtain rfl|rfl|rfl|rfl|rfl|rfl|rfl:i=0∨i=1∨i=2∨i=3∨i=4∨i=5∨i=6:=by omega
 all_goals (cases hm;rfl)
theorem Xm:∀m∈[fj,fk,eG,fp,ft,fu,da,fv,fw,fx,UG,UH,Kg],O8 7 m=true:=by decide +kernel
theorem f9 {h:Ch} (hk:h.ok):∀(i:Nat) (m:Mc),(N8 h)[i]?=some m→m∈[fj,fk,eG,fp,ft,fu,da,fv,fw,fx,UG,UH,Kg]:=by
 obtain ⟨a,b,c,d,e,f⟩:=h
 obtain ⟨ha,hb,hc,hd,he,hf⟩:=hk
 dsimp only at ha hb hc hd he hf
 have g4:∀(l:List Mc) (n i:Nat),l.length=n→i < n→(∀m∈l,m∈[fj,fk,eG,fp,ft,fu,da,fv,fw,fx,UG,UH,Kg])→l.getD i Kg∈[fj,fk,eG,fp,ft,fu,da,fv,fw,fx,UG,UH,Kg]:=by
  intro l n i hl hi hm
  rw [List.getD_eq_getElem?_getD,List.getElem?_eq_getElem (by omega)]
  exact hm _ (List.getElem_mem _)
 intro i m hm
 have hi:i < 7:=(List.getElem?_eq_some_iff.1 hm).1
 obtain rfl|rfl|rfl|rfl|rfl|rfl|rfl:i=0∨i=1∨i=2∨i=3∨i=4∨i=5∨i=6:=by omega
 ·cases hm;exact g4 _ 4 a rfl ha (by intro m hm;simp only [m0L,List.mem_cons,List.not_mem_nil,or_false] at hm;rcases hm with rfl|rfl|rfl|rfl<;>simp)
 ·cases hm;exact g4 _ 3 b rfl hb (by intro m hm;simp only [m1L,List.mem_cons,List.not_mem_nil,or_false] at hm;rcases hm with rfl|rfl|rfl<;>simp)
 ·cases hm;exact g4 _ 2 c rfl hc (by intro m hm;simp only [m2L,List.mem_cons,List.not_mem_nil,or_false] at hm;rcases hm with rfl|rfl<;>simp)
 ·cases hm;exact g4 _ 3 d rfl hd (by intro m hm;simp only [m3L,List.mem_cons,List.not_mem_nil,or_false] at hm;rcases hm with rfl|rfl|rfl<;>simp)
 ·cases hm;exact g4 _ 3 e rfl he (by intro m hm;simp only [m4L,List.mem_cons,List.not_mem_nil,or_false] at hm;rcases hm with rfl|rfl|rfl<;>simp)
 ·cases hm;exact g4 _ 2 f rfl hf (by intro m hm;simp only [m2L,List.mem_cons,List.not_mem_nil,or_false] at hm;rcases hm with rfl|rfl<;>simp)
 ·cases hm;simp
structure SchOk (h:Ch) (Z:List Int):Prop where
 len:Z.length=7
 pos:∀x∈Z,1≤x∧x≤150
 new:Fn1G Tryz.prog GT 16 [.lst ((In h).map Cy)] (fun r=>r= .tup [.rp [.lst ((In h).map Cy),.lst ((N8 h).map BB),AL Z],.int .i64 0])
 sizes:Fn1G Tryz.prog GT 8 [.lst ((In h).map Cy)] (fun r=>r= .tup [AL Z,.int .i64 0])
 bound:∀k,k < 6→Z.getD k 0≤1+gg Z ((ij h).getD k dS)
theorem am (l:List Ty):BT (l.map Cy):=by
 induction l with
 | nil=>trivial
 | cons t l ih=>exact ⟨⟨trivial,trivial,trivial,trivial⟩,ih⟩
theorem gA {h:Ch} (hk:h.ok):∃Z,SchOk h Z:=by
 have hc:=dU hk
 unfold fc at hc
 split at hc
 ·cases hc
 rename_i Z hrun
 simp only [Bool.and_eq_true,decide_eq_true_eq,List.all_eq_true,List.mem_range] at hc
 obtain ⟨⟨hZl,hZb⟩,hbd⟩:=hc
 have hL:∀i,i < (nmsC.zip (N8 h)).length→O8 zer7.length ((nmsC.zip (N8 h)).getD i O9).2=true:=by
  intro i hi
  have hi7:i < 7:=hi
  obtain ⟨m,hm⟩:∃m,(N8 h)[i]?=some m:=⟨_,List.getElem?_eq_getElem hi7⟩
  rw [Qd (N8 h) rfl i m hm]
  exact Xm m (f9 hk i m hm)
 obtain ⟨R,h1,h2,h3,h4,h5⟩:=Vt (nmsC.zip (N8 h)) 20 zer7 Z hL hrun
 have hmo:=fun i hi=>aS hk i hi
 have hnew:Fn1G Tryz.prog GT 16 [.lst ((In h).map Cy)] (fun r=>r= .tup [.rp [.lst ((In h).map Cy),.lst ((N8 h).map BB),AL Z],.int .i64 0]):=by
  have hn:=aK (In h) (N8 h) rfl (show 1≤7 by omega) (show 7≤8 by omega) ?_ ?_ ?_ ?_ ?_ R (by omega) (by show (H3 (nmsC.zip (N8 h)) R zer7).2=false;rw [h3]) h4
   (fun k hk' i m hm=>by
     have hi:i < 7:=(List.getElem?_eq_some_iff.1 hm).1
     have:=(h5 k hk' i hi).1
     rw [Qd (N8 h) rfl i m hm] at this
     exact this)
   (fun k hk' i m hm=>by
     have hi:i < 7:=(List.getElem?_eq_some_iff.1 hm).1
     have:=(h5 k hk' i hi).2
     rw [Qd (N8 h) rfl i m hm] at this
     exact this)
   (by
     show ∀x∈(H3 (nmsC.zip (N8 h)) R zer7).1,x≠0∧x≤150
     rw [h3]
     intro x hx
     have:=hZb x hx
     omega)
  ·have e:(H3 (Co (In h) (N8 h)) R (List.replicate (In h).length 0)).1=Z:=by
    show (H3 (nmsC.zip (N8 h)) R zer7).1=Z
    rw [h3]
   rw [e] at hn
   exact hn
  ·intro t ht
   simp only [In,List.mem_cons,List.not_mem_nil,or_false] at ht
   rcases ht with rfl|rfl|rfl|rfl|rfl|rfl|rfl
   all_goals first|exact .inl rfl|exact .inr (by dsimp only;decide)
  ·show ([[100,111,99],[112],[104,49],[117,108],[108,105],[101,109],[]]:List (List UInt8)).Nodup
   decide
  ·intro t ht
   simp only [In,List.mem_cons,List.not_mem_nil,or_false] at ht
   rcases ht with rfl|rfl|rfl|rfl|rfl|rfl|rfl
   ·exact EB _ _ _ (by dsimp only;decide)
   ·exact EB _ _ _ (by dsimp only;decide)
   ·exact EB _ _ _ (by dsimp only;decide)
   ·exact EB _ _ _ (by dsimp only;decide)
   ·exact EB _ _ _ (by dsimp only;decide)
   ·exact EB _ _ _ (by dsimp only;decide)
   ·exact XL
  ·intro t ht
   simp only [In,List.mem_cons,List.not_mem_nil,or_false] at ht
   rcases ht with rfl|rfl|rfl|rfl|rfl|rfl|rfl
   all_goals exact ⟨by simp,by intro s hs;first|(simp at hs;done)|(simp at hs;subst hs;decide),by simp⟩
  ·intro i t m ht hm
   have hi:i < 7:=(List.getElem?_eq_some_iff.1 hm).1
   obtain ⟨t',x,m',h1',_,h2',hok⟩:=hmo i hi
   rw [ht] at h1'
   rw [hm] at h2'
   cases h1'
   cases h2'
   exact hok.mach
 exact ⟨Z,hZl,hZb,hnew,UD _ _ _ (am _) hnew,hbd⟩
def LJ (a b:List Bool) (k:Nat):List Bool:=(Ji a b).take k++List.replicate (a.length - k) false
theorem dL {a b:List Bool} (h:a.length=b.length) {k:Nat} (hk:k≤a.length):(LJ a b k).length=a.length:=by
 have:=NH (n:=a.length) rfl h.symm
 unfold LJ
 rw [List.length_append,List.length_take,List.length_replicate]
 omega
theorem aJ {a b:List Bool} (h:a.length=b.length) {k:Nat} {x y:Bool} (hx:a[k]?=some x) (hy:b[k]?=some y):(LJ a b k).set k (x || y)=LJ a b (k+1):=by
 have hk:=(List.getElem?_eq_some_iff.1 hx).1
 have hl:=NH (n:=a.length) rfl h.symm
 have hg:(Ji a b)[k]?=some (x || y):=by unfold Ji;rw [List.getElem?_zipWith,hx,hy]
 unfold LJ
 obtain ⟨m,hm⟩:∃m,a.length - k=m+1:=⟨a.length - k - 1,by omega⟩
 rw [List.set_append_right _ _ (by rw [List.length_take];omega)]
 have e1:k - ((Ji a b).take k).length=0:=by rw [List.length_take];omega
 rw [e1,hm,List.replicate_succ,List.set_cons_zero,List.take_add_one,hg,show a.length - (k+1)=m by omega]
 simp
set_option maxHeartbeats 4000000 in
theorem Fq (a b:List Bool) (h:a.length=b.length) (hn:a.length≤1000):Fn1 Tryz.prog 46 [.lst (a.map V.bool),.lst (b.map V.bool)] (fun r=>r= .lst ((Ji a b).map V.bool)):=by
 have ham:(a.map V.bool).length=a.length:=by simp
 have hbm:(b.map V.bool).length=b.length:=by simp
 refine Ax Tryz.func46 fun C hC hE=>?_
 conv=>whnf
 repeat' (first|refine AO ?_|intro hlen)<;>conv=>whnf
 refine Ab (fun k:Nat=>⟨30,[(0,.lst (a.map V.bool)),(1,.lst (b.map V.bool)),(5,.sl 0 0 a.length),(11,.int .i64 a.length),(12,.int .i64 k)],[some (.row 1 ((LJ a b k).map V.bool))]⟩) (fun k=>k≤a.length) (fun k=>a.length - k) 0 hE ?_ (Nat.zero_le _) ?_
 ·refine AP [0,1,5,11,12] ?_
  conv=>whnf
  rw [ham,Int.toNat_natCast]
  show (⟨30,_,[some (.row 1 (List.replicate a.length (V.bool false)))]⟩:ES)=⟨30,_,[some (.row 1 ((LJ a b 0).map V.bool))]⟩
  unfold LJ
  rw [List.take_zero,List.nil_append,List.map_replicate]
  rfl
 intro k hk
 have hel:=dL h hk
 have hem:((LJ a b k).map V.bool).length=a.length:=by rw [List.length_map];exact hel
 by_cases hlt:k < a.length
 ·obtain ⟨x,hx⟩:∃x,a[k]?=some x:=⟨_,List.getElem?_eq_getElem hlt⟩
  obtain ⟨y,hy⟩:∃y,b[k]?=some y:=⟨_,List.getElem?_eq_getElem (by omega)⟩
  have gx:(a.map V.bool)[k]?=some (.bool x):=by rw [List.getElem?_map,hx];rfl
  have gy:(b.map V.bool)[k]?=some (.bool y):=by rw [List.getElem?_map,hy];rfl
  obtain ⟨z,hz⟩:∃z,(LJ a b k)[k]?=some z:=⟨_,List.getElem?_eq_getElem (by omega)⟩
  have gz:((LJ a b k).map V.bool)[0+Int.toNat (k:Int)]?=some (.bool z):=by rw [Nat.zero_add,Int.toNat_natCast,List.getElem?_map,hz];rfl
  have hnx:=aJ h hx hy
  cases x<;>cases y
  all_goals
   conv=>whnf
   repeat' (first|refine A2 ?_|refine AO ?_|refine AV ?_|refine Ad ?_)<;>conv=>whnf
   refine AD [0,1,5,11,12] (k+1) hlt (by omega) ?_
   conv=>whnf
   rw [Nat.zero_add,Int.toNat_natCast,←hnx,List.map_set]
   rfl
 ·conv=>whnf
  repeat' (first|refine A1 ?_<;>conv=>whnf|refine DD (A4 0 4 [] rfl (Gf _) rfl (by omega) rfl (AH ?_))|refine AC hE ?_<;>conv=>whnf)
  all_goals first
   | (exfalso;omega)
   | (refine ⟨rfl,?_⟩
      obtain rfl:k=a.length:=by omega
      unfold LJ
      rw [Nat.sub_self,List.take_of_length_le (by rw [NH (n:=a.length) rfl h.symm];exact Nat.le_refl _)]
      simp)
theorem K3 (a b:List Bool):Fn1 Tryz.prog 47 [.lst (a.map V.bool),.lst (b.map V.bool)] (fun r=>r= .bool (decide (a=b))):=by
 have hlm:(a.map V.bool).length=a.length:=by simp
 have hlm':(b.map V.bool).length=b.length:=by simp
 by_cases hab:a.length=b.length
 ·refine Ax Tryz.func47 fun C hC hE=>?_
  conv=>whnf
  repeat' (first|refine A2 ?_|intro hlen)<;>conv=>whnf
  refine Ab (fun k:Nat=>⟨26,[(0,.lst (a.map V.bool)),(1,.lst (b.map V.bool)),(12,.int .i64 (a.map V.bool).length),(13,.int .i64 k)],[]⟩) (fun k=>k≤a.length∧∀j < k,a[j]?=b[j]?) (fun k=>a.length - k) 0 hE ?_ ⟨Nat.zero_le _,fun j hj=>by omega⟩ ?_
  ·exact AP [0,1,12,13] rfl
  intro k hk
  obtain ⟨hk,hj⟩:=hk
  by_cases hlt:k < a.length
  ·obtain ⟨x,hx⟩:∃x,a[k]?=some x:=⟨_,List.getElem?_eq_getElem hlt⟩
   obtain ⟨y,hy⟩:∃y,b[k]?=some y:=⟨_,List.getElem?_eq_getElem (by omega)⟩
   have gx:(a.map V.bool)[k]?=some (.bool x):=by rw [List.getElem?_map,hx];rfl
   have gy:(b.map V.bool)[k]?=some (.bool y):=by rw [List.getElem?_map,hy];rfl
   cases x<;>cases y
   all_goals
    conv=>whnf
    repeat' (first|refine A2 ?_|refine AO ?_|refine AV ?_|refine Ad ?_|(refine An hE ?_ ?_;decide +kernel)|refine AC hE ?_)<;>conv=>whnf
    all_goals first
     | (refine ⟨rfl,?_⟩
        rw [decide_eq_false]
        intro e
        rw [e,hy] at hx
        cases hx)
     | (refine AD [0,1,12,13] (k+1) ⟨hlt,fun j hjk=>?_⟩ (show a.length - (k+1) < a.length - k by omega) rfl
        by_cases e:j=k
        ·subst e
         rw [hx,hy]
        ·exact hj j (by omega))
  ·conv=>whnf
   repeat' (first|refine A1 ?_|refine AC hE ?_)<;>conv=>whnf
   refine ⟨rfl,?_⟩
   rw [decide_eq_true]
   apply List.ext_getElem?
   intro j
   by_cases h:j < a.length
   ·exact hj j (by omega)
   ·rw [List.getElem?_eq_none (by omega),List.getElem?_eq_none (by omega)]
 ·refine Ax Tryz.func47 fun C hC hE=>?_
  conv=>whnf
  repeat' (first|refine A1 ?_|refine AC hE ?_|intro hlen)<;>conv=>whnf
  exact ⟨rfl,by rw [decide_eq_false (fun e=>hab (by rw [e]))]⟩
theorem SJ (l:List Bool) (hl:l.length≤1000) (h1:1≤l.length):Fn1 Tryz.prog 45 [.lst (l.map V.bool)] (fun r=>r= .lst (l.map V.bool)):=by
 have hlm:(l.map V.bool).length=l.length:=by simp
 have hcl:∀y∈l.map V.bool,y.cells.length=1:=fun y hy=>by obtain ⟨q,_,rfl⟩:=List.mem_map.1 hy;rfl
 have hkl:AF 0 (List.take 0 (List.drop 0 [])++l.map V.bool)=l.map V.bool:=by rw [List.drop_nil,List.take_nil,List.nil_append,AA _ (Gf l)]
 refine Ax Tryz.func45 fun C hC hE=>?_
 conv=>whnf
 repeat' (first|(first|refine AO ?_|refine ⟨hcl,?_⟩)<;>conv=>whnf|refine DD (A4 0 2 [] rfl ?_ rfl ?_ rfl (AH ?_))|(first|refine br (fun h=>?_) (fun h=>?_)|refine AC hE ?_|intro hlen)<;>conv=>whnf)
 ·have h0:l=[]:=by have:=hlen (by assumption);simpa using this
  subst h0
  simp at h1
 ·rw [hkl];exact Gf l
 ·rw [hkl];omega
 ·rw [hkl];exact ⟨rfl,rfl⟩
end Go.Proofs.YtkaiffheakalmaaGreatDoor
