/- Joined. No conditions. -/
import Derived.Test.YtkaiffheakalmaaGreatDoorJ9ah
set_option linter.unusedSimpArgs false
set_option linter.unusedVariables false
set_option maxRecDepth 100000
namespace Go.Proofs.YtkaiffheakalmaaGreatDoor
open Go.RowKit
def Br (b:Bool) (A B:Prop):Prop:=match b with|true=>A|false=>B
theorem iG {b:Bool} {A B:Prop} (h:b=true) (k:A):Br b A B:=by subst h;exact k
theorem br {b:Bool} {A B:Prop} (h1:b=true→A) (h2:b=false→B):Br b A B:=by
 cases b
 ·exact h2 rfl
 ·exact h1 rfl
theorem Cu {b:Bool} {A B:Prop} (h:Br b A B):(b=true∧A)∨(b=false∧B):=by
 cases b
 ·exact .inr ⟨rfl,h⟩
 ·exact .inl ⟨rfl,h⟩
theorem Am {b:Bool} {A:Prop} (h:Br b A False):b=true∧A:=by
 rcases Cu h with h|⟨_,h⟩
 ·exact h
 ·exact h.elim
structure BrD (p:Prop) (A B:Prop):Prop where
 t:p→A
 f:¬p→B
theorem GV {p A B:Prop} (h1:p→A) (h2:¬p→B):BrD p A B:=⟨h1,h2⟩
theorem MA {p A B:Prop} (h:p) (k:A):BrD p A B:=⟨fun _=>k,fun n=>absurd h n⟩
theorem iH {p A B:Prop} (h:¬p) (k:B):BrD p A B:=⟨fun n=>absurd n h,fun _=>k⟩
theorem JC {p A B A' B':Prop} (h:BrD p A B) (ha:A→A') (hb:B→B'):BrD p A' B':=⟨fun x=>ha (h.t x),fun x=>hb (h.f x)⟩
structure AskD (p A:Prop):Prop where
 p:p
 a:A
theorem EN {p A:Prop} (h:p) (k:A):AskD p A:=⟨h,k⟩
theorem HF {p A A':Prop} (h:AskD p A) (ha:A→A'):AskD p A':=⟨h.1,ha h.2⟩
def Nq {α:Type} (o:Option α) (A:α→Prop):Prop:=match o with|some x=>A x|none=>False
theorem HG {α:Type} {o:Option α} {A:α→Prop} {x:α} (h:o=some x) (k:A x):Nq o A:=by subst h;exact k
theorem BW {α:Type} {o:Option α} {A:α→Prop} (h:Nq o A):∃x,o=some x∧A x:=by
 cases o with
 | none=>exact h.elim
 | some x=>exact ⟨x,rfl,h⟩
structure TRec where
 ti:Option (Bool×Nat):=none
 ei:Option (TypeId×Nat):=none
 ai:Option (Nat×Bool×Nat):=none
 fi:List (Option (Nat×Bool×Nat)):=[]
 si:Option (List (Nat×Nat)):=none
 zv:Option V:=none
 zok:Option Nat:=none
 by':Option Nat:=none
 ik:Option IntKind:=none
 str:Bool:=false
 sli:Bool:=false
 boo:Bool:=false
 ptr:Bool:=false
 ni:Bool:=false
 un:Bool:=false
 sq:Option (List Kd):=none
def dp {α:Type} (o x:Option α):Prop:=match o with|none=>True|some y=>x=some y
def iI (o x:Option V):Prop:=match o with|none=>True|some y=>x=some y
def Q7 (b x:Bool):Prop:=match b with|false=>True|true=>x=true
def eZ (P:Program) (t:TypeId):Nat→List (Option (Nat×Bool×Nat))→Prop
 | _,[]=>True
 | k,o::l=>dp o (FI P t k)∧eZ P t (k+1) l
theorem A9 {α:Type} {o x:Option α} {y:α} (h:dp o x) (e:o=some y):x=some y:=by subst e;exact h
theorem J1 {o x:Option V} {y:V} (h:iI o x) (e:o=some y):x=some y:=by subst e;exact h
theorem Bw {b x:Bool} (h:Q7 b x) (e:b=true):x=true:=by subst e;exact h
theorem dq {P:Program} {t:TypeId} {y:Nat×Bool×Nat}:∀{l:List (Option (Nat×Bool×Nat))} {k f:Nat},eZ P t k l→l[f]?=some (some y)→FI P t (k+f)=some y
 | [],_,_,_,e=>by simp at e
 | o::l,k,0,h,e=>by simp at e;subst e;exact h.1
 | o::l,k,f+1,h,e=>by
   have:=dq (k:=k+1) (f:=f) h.2 (by simpa using e)
   rw [←this];congr 1;omega
structure TOk (P:Program) (t:TypeId) (r:TRec):Prop where
 ti:dp r.ti (TI P t)
 ei:dp r.ei (EI P t)
 ai:dp r.ai (AI P t)
 fi:eZ P t 0 r.fi
 si:dp r.si (SI P t)
 zv:iI r.zv (ZV P t)
 zok:match r.zok with|none=>True|some z=>gV P t z=true
 by':match r.by' with|none=>True|some n=>Nu P t=n
 ik:dp r.ik (PQ P t)
 str:Q7 r.str (ET P t)
 sli:Q7 r.sli (Fc P t)
 boo:Q7 r.boo (X6 P t)
 ptr:Q7 r.ptr (Kx P t)
 ni:Q7 r.ni (En P t)
 un:Q7 r.un (P.underlying t).isSome
 sq:dp r.sq (SQ P t)
inductive TT where
 | leaf
 | node (l:TT) (t:Nat) (r:TRec) (rt:TT)
def TT.get:TT→Nat→TRec
 | .leaf,_=>{}
 | .node l t r rt,x=>match Nat.blt x t with
   | true=>l.get x
   | false=>match Nat.beq x t with
     | true=>r
     | false=>rt.get x
def TT.All (P:Program):TT→Prop
 | .leaf=>True
 | .node l t r rt=>l.All P∧TOk P t r∧rt.All P
theorem TT.ok {P:Program}:∀{T:TT},T.All P→∀x,TOk P x (T.get x)
 | .leaf,_,x=>⟨trivial,trivial,trivial,trivial,trivial,trivial,trivial,trivial,trivial,trivial,trivial,trivial,trivial,trivial,trivial,trivial⟩
 | .node l t r rt,h,x=>by
   simp only [TT.get]
   split
   ·exact TT.ok h.1 x
   ·split
    ·rename_i e
     rw [Nat.eq_of_beq_eq_true e]
     exact h.2.1
    ·exact TT.ok h.2.2 x
structure ES where
 n:Nat
 u:List (Nat×V)
 heap:List (Option Ob)
def AU:List (Nat×V)→Nat→V
 | [],_=>.any
 | (d,x)::r,t=>match Nat.beq t d with
   | true=>x
   | false=>AU r t
def ES.get (σ:ES) (t:Nat):V:=match Nat.blt t σ.n with|true=>AU σ.u t|false=>.any
def ES.env (σ:ES):List V:=(List.range σ.n).map (AU σ.u)
def ES.st (σ:ES):St:=⟨σ.env,σ.heap⟩
theorem Di {a b:Nat}:Nat.blt a b=true↔a < b:=by simp [Nat.blt,Nat.ble_eq];omega
theorem bm {a b:Nat}:Nat.blt a b=false↔¬a < b:=by rw [←Di];cases Nat.blt a b<;>simp
theorem GW (σ:ES) (t:Nat):σ.env.getD t .any=σ.get t:=by
 unfold ES.get ES.env
 by_cases h:t < σ.n
 ·rw [Di.2 h];simp [List.getD,h]
 ·rw [bm.2 h];simp [List.getD,h]
def ES.val (σ:ES):Operand→V
 | .tmp t=>σ.get t
 | .const v=>V.ofVal v
 | .global g=>.gp g
 | .func f=>.fn f []
theorem Ao (σ:ES) (o:Operand):σ.st.val o=σ.val o:=by
 cases o with
 | tmp t=>exact GW σ t
 | _=>rfl
def ES.put (σ:ES) (d:Option Tmp) (x:V):ES:=match d with|some d=>⟨σ.n,(d,x)::σ.u,σ.heap⟩|none=>σ
theorem MB (n d:Nat) (x:V) (u:List (Nat×V)) (h:List (Option Ob)):ES.env ⟨n,(d,x)::u,h⟩=(ES.env ⟨n,u,h⟩).set d x:=by
 unfold ES.env
 apply List.ext_getElem?
 intro i
 simp only [List.getElem?_map,List.getElem?_set,List.length_map,List.length_range]
 by_cases hi:i < n
 ·rw [List.getElem?_range hi]
  simp only [Option.map_some]
  by_cases e:d=i
  ·subst e
   simp [AU,hi]
  ·have:Nat.beq i d=false:=by
    cases hb:Nat.beq i d with
    | false=>rfl
    | true=>exact absurd (Nat.eq_of_beq_eq_true hb).symm e
   simp [AU,this,e]
 ·have h1:(List.range n)[i]?=none:=by simp;omega
  rw [h1]
  simp only [Option.map_none]
  by_cases e:d=i
  ·subst e;simp [hi]
  ·simp [e]
theorem DU (σ:ES) (d:Option Tmp) (x:V):σ.st.put d x=(σ.put d x).st:=by
 cases d with
 | none=>rfl
 | some d=>unfold ES.put ES.st St.put;simp only;rw [MB]
theorem bn (σ:ES):σ.st.heap=σ.heap:=rfl
def ja (v:V) (K:V→Prop):Prop:=
 match v with
 | .any=>K .any|.bool b=>K (.bool b)|.int k n=>K (.int k n)|.str s=>K (.str s)|.nils=>K .nils|.lst l=>K (.lst l)
 | .agg l=>K (.agg l)|.rp l=>K (.rp l)|.fn f c=>K (.fn f c)|.tup l=>K (.tup l)|.nilp=>K .nilp|.sl a b c=>K (.sl a b c)
 | .ptr a b c=>K (.ptr a b c)|.it a=>K (.it a)|.nili=>K .nili|.ifi t k n=>K (.ifi t k n)|.ifx=>K .ifx
 | .gp g=>K (.gp g)|.gsl g n=>K (.gsl g n)
theorem TK (v:V) (K:V→Prop):ja v K=K v:=by cases v<;>rfl
def bG:List V→(List V→Prop)→Prop
 | [],K=>K []
 | x::l,K=>ja x fun x=>bG l fun l=>K (x::l)
theorem MC:∀(l:List V) (K:List V→Prop),bG l K=K l
 | [],K=>rfl
 | x::l,K=>by simp only [bG,TK,MC l]
def gX (v:V) (K:V→Prop):Prop:=
 match v with
 | .any=>K .any|.bool b=>K (.bool b)|.int k n=>K (.int k n)|.str s=>K (.str s)|.nils=>K .nils|.lst l=>K (.lst l)
 | .agg l=>bG l fun l=>K (.agg l)|.rp l=>bG l fun l=>K (.rp l)|.fn f c=>K (.fn f c)|.tup l=>bG l fun l=>K (.tup l)|.nilp=>K .nilp|.sl a b c=>K (.sl a b c)
 | .ptr a b c=>K (.ptr a b c)|.it a=>K (.it a)|.nili=>K .nili|.ifi t k n=>K (.ifi t k n)|.ifx=>K .ifx
 | .gp g=>K (.gp g)|.gsl g n=>K (.gsl g n)
theorem Pc (v:V) (K:V→Prop):gX v K=K v:=by cases v<;>simp only [gX,MC]
def dr:List V→(List V→Prop)→Prop
 | [],K=>K []
 | x::l,K=>gX x fun x=>dr l fun l=>K (x::l)
theorem J2:∀(l:List V) (K:List V→Prop),dr l K=K l
 | [],K=>rfl
 | x::l,K=>by simp only [dr,Pc,J2 l]
def fV (v:V) (K:V→Prop):Prop:=
 match v with
 | .any=>K .any|.bool b=>Br b (K (.bool true)) (K (.bool false))|.int k n=>K (.int k n)|.str s=>K (.str s)|.nils=>K .nils|.lst l=>K (.lst l)
 | .agg l=>bG l fun l=>K (.agg l)|.rp l=>bG l fun l=>K (.rp l)|.fn f c=>K (.fn f c)|.tup l=>dr l fun l=>K (.tup l)|.nilp=>K .nilp|.sl a b c=>K (.sl a b c)
 | .ptr a b c=>K (.ptr a b c)|.it a=>K (.it a)|.nili=>K .nili|.ifi t k n=>K (.ifi t k n)|.ifx=>K .ifx
 | .gp g=>K (.gp g)|.gsl g n=>K (.gsl g n)
theorem GA (v:V) (K:V→Prop):fV v K=K v:=by
 cases v with
 | bool b=>cases b<;>rfl
 | _=>simp only [fV,MC,J2]
def nF (n:Nat) (K:Nat→Prop):Prop:=
 match n with
 | 0=>K 0|1=>K 1|2=>K 2|3=>K 3|4=>K 4|5=>K 5|6=>K 6|7=>K 7|8=>K 8|9=>K 9|10=>K 10|11=>K 11|12=>K 12
 | 13=>K 13|14=>K 14|15=>K 15|16=>K 16|17=>K 17|18=>K 18|19=>K 19|20=>K 20|21=>K 21|22=>K 22|23=>K 23|24=>K 24
 | n=>K n
theorem MD (n:Nat) (K:Nat→Prop):nF n K=K n:=by unfold nF;split<;>rfl
def fO (y:Option (Nat×Nat)) (K:Option (Nat×Nat)→Prop):Prop:=match y with|none=>K none|some (q,n)=>nF q fun q=>K (some (q,n))
theorem iJ (y:Option (Nat×Nat)) (K:Option (Nat×Nat)→Prop):fO y K=K y:=by
 cases y with
 | none=>rfl
 | some y=>simp only [fO,MD]
def fH:List (Option Ob)→(List (Option Ob)→Prop)→Prop
 | [],K=>K []
 | none::r,K=>fH r fun r=>K (none::r)
 | some o::r,K=>match o with
   | .row z els=>fH r fun r=>K (some (.row z els)::r)
   | .iter s p=>fH r fun r=>K (some (.iter s p)::r)
   | .mp es=>fH r fun r=>K (some (.mp es)::r)
   | .bld T y=>fO y fun y=>fH r fun r=>K (some (.bld T y)::r)
   | .buf U s=>fH r fun r=>K (some (.buf U s)::r)
   | .hid vs l=>bG l fun l=>fH r fun r=>K (some (.hid vs l)::r)
theorem A7:∀(h:List (Option Ob)) (K:List (Option Ob)→Prop),fH h K=K h
 | [],K=>rfl
 | none::r,K=>by simp only [fH,A7 r]
 | some (.row z els)::r,K=>by simp only [fH,A7 r]
 | some (.iter s p)::r,K=>by simp only [fH,A7 r]
 | some (.mp es)::r,K=>by simp only [fH,A7 r]
 | some (.bld T y)::r,K=>by simp only [fH,A7 r,iJ]
 | some (.buf U s)::r,K=>by simp only [fH,A7 r]
 | some (.hid vs l)::r,K=>by simp only [fH,A7 r,MC]
def Fv (id:Nat):List (Nat×V)→(List (Nat×V)→Prop)→Prop
 | [],K=>K []
 | (d,x)::u,K=>gX (x.kill id) fun x=>Fv id u fun u=>K ((d,x)::u)
theorem E7 (id:Nat):∀(u:List (Nat×V)) (K:List (Nat×V)→Prop),Fv id u K=K (u.map fun p=>(p.1,p.2.kill id))
 | [],K=>rfl
 | (d,x)::u,K=>by simp only [Fv,Pc,E7 id u,List.map_cons]
theorem CH (id t:Nat):∀u:List (Nat×V),AU (u.map fun p=>(p.1,p.2.kill id)) t=(AU u t).kill id
 | []=>by simp [AU,V.kill]
 | (d,x)::u=>by
   simp only [List.map_cons,AU]
   split
   ·rfl
   ·exact CH id t u
theorem GX (id:Nat):∀l:List V,AF id l=l.map (V.kill id)
 | []=>by simp [AF]
 | x::l=>by simp [AF,GX id l]
theorem ME (n id:Nat) (u:List (Nat×V)) (h h':List (Option Ob)):AF id (ES.env ⟨n,u,h⟩)=ES.env ⟨n,u.map fun p=>(p.1,p.2.kill id),h'⟩:=by
 rw [GX]
 unfold ES.env
 rw [List.map_map]
 exact List.map_congr_left fun t _=>(CH id t u).symm
def N1:IntKind→Int
 | .i8=>-128|.i16=>-32768|.i32=>-2147483648|.i64=>-9223372036854775808|_=>0
def N2:IntKind→Int
 | .i8=>127|.i16=>32767|.i32=>2147483647|.i64=>9223372036854775807|.u8=>255|.u16=>65535|.u32=>4294967295|.u64=>18446744073709551615
def WW (k:IntKind) (n:Int):Bool:=decide (N1 k≤n)&&decide (n≤N2 k)
theorem bo {k:IntKind} {n:Int} (h1:N1 k≤n) (h2:n≤N2 k):WW k n=true:=by simp [WW,h1,h2]
theorem WX {k:IntKind} {n:Int} (h:WW k n=true):k.wrap n=n:=by
 simp only [WW,Bool.and_eq_true,decide_eq_true_eq] at h
 cases k<;>simp only [N1,N2] at h<;>simp only [IntKind.wrap,IntKind.bits,IntKind.signed]<;>simp<;>omega
structure FitD (k:IntKind) (n:Int) (A B:Prop):Prop where
 out:Br (WW k n) A B
def N3 (k:IntKind) (n:Int) (K:V→Prop):Prop:=FitD k n (K (.int k n)) (K (.int k (k.wrap n)))
theorem ea {k:IntKind} {n:Int} {A B:Prop} (h:N1 k≤n∧n≤N2 k) (a:A):FitD k n A B:=⟨iG (bo h.1 h.2) a⟩
theorem dt {n:Int} {A B:Prop} (h:-9223372036854775808≤n∧n≤9223372036854775807) (a:A):FitD .i64 n A B:=ea h a
def Pd (p:Prop) (K:V→Prop):Prop:=BrD p (K (.bool true)) (K (.bool false))
def Q8 (p:Prop) (K:V→Prop):Prop:=BrD p (K (.bool false)) (K (.bool true))
theorem OM {p:Prop} [Decidable p] {K:V→Prop} (h:Pd p K):K (.bool (decide p)):=by
 by_cases hp:p
 ·rw [decide_eq_true hp];exact h.t hp
 ·rw [decide_eq_false hp];exact h.f hp
theorem MF {p:Prop} [Decidable p] {K:V→Prop} (h:Q8 p K):K (.bool (decide ¬p)):=by
 by_cases hp:p
 ·rw [decide_eq_false (fun n=>n hp)];exact h.t hp
 ·rw [decide_eq_true hp];exact h.f hp
theorem ON {p:Prop} {K K':V→Prop} (h:Pd p K) (hk:∀r,K r→K' r):Pd p K':=JC h (hk _) (hk _)
theorem MG {p:Prop} {K K':V→Prop} (h:Q8 p K) (hk:∀r,K r→K' r):Q8 p K':=JC h (hk _) (hk _)
theorem GB {k:IntKind} {n:Int} {K:V→Prop} (h:N3 k n K):K (.int k (k.wrap n)):=by
 rcases Cu h.out with ⟨h1,h2⟩|⟨_,h2⟩
 ·rw [WX h1];exact h2
 ·exact h2
def jr (v:V) (K:Bool→Prop):Prop:=match v with|.bool b=>K b|_=>False
theorem Q9 {v:V} {K:Bool→Prop} (h:jr v K):∃b,v= .bool b∧K b:=by
 cases v<;>first|exact ⟨_,rfl,h⟩|exact h.elim
def Nr (a b:IntKind):Bool:=decide (a=b)
def eb (op:BinOp) (b:Bool) (K:V→Prop):Prop:=match op with|.eql=>K (.bool b)|.neq=>K (.bool (!b))|_=>False
def RA (op:BinOp):List Kd→List V→List V→(V→Prop)→Prop
 | [],[],[],K=>eb op true K
 | .s::ks,.str a::l,.str b::r,K=>BrD (a=b) (RA op ks l r K) (eb op false K)
 | .b::ks,.bool a::l,.bool b::r,K=>BrD (a=b) (RA op ks l r K) (eb op false K)
 | .i _::ks,.int k a::l,.int k' b::r,K=>Br (Nr k k') (BrD (a=b) (RA op ks l r K) (eb op false K)) False
 | _,_,_,_=>False
def eBin (T:TT) (q:Bool) (t:TypeId) (op:BinOp) (x y:V) (K:V→Prop):Prop:=
 match x with
 | .int k a=>match y with
   | .int k' b=>match op with
     | .add=>Br (Nr k k') (N3 k (a+b) K) False
     | .sub=>Br (Nr k k') (N3 k (a - b) K) False
     | .mul=>Br (Nr k k') (N3 k (a*b) K) False
     | .quo=>Br (Nr k k') (AskD (b≠0) (N3 k (a.tdiv b) K)) False
     | .rem=>Br (Nr k k') (AskD (b≠0) (K (.int k (a.tmod b)))) False
     | .eql=>Br (Nr k k') (Pd (a=b) K) False
     | .neq=>Br (Nr k k') (Q8 (a=b) K) False
     | .lss=>Br (Nr k k') (Pd (a < b) K) False
     | .leq=>Br (Nr k k') (Pd (a≤b) K) False
     | .gtr=>Br (Nr k k') (Pd (b < a) K) False
     | .geq=>Br (Nr k k') (Pd (b≤a) K) False
     | .shl=>AskD (0≤b) (N3 k (a*2 ^ (min b.toNat k.bits)) K)
     | .shr=>AskD (0≤b) (K (.int k (a.fdiv (2 ^ (min b.toNat k.bits)))))
     | .and=>Br (Nr k k') (K (.int k (TA k a b))) False
     | .or=>Br (Nr k k') (K (.int k (YR k a b))) False
     | .xor=>Br (Nr k k') (K (.int k (TB k a b))) False
     | _=>False
   | _=>False
 | .str s=>match y with
   | .str t=>match op with
     | .add=>AskD (s.length+t.length≤9223372036854775807) (K (.str (s++t)))
     | .eql=>Pd (s=t) K
     | .neq=>Q8 (s=t) K
     | _=>False
   | _=>False
 | .bool a=>match y with
   | .bool b=>Br (T.get t).boo (match op with
     | .eql=>K (.bool (a==b))
     | .neq=>K (.bool (a != b))
     | _=>False) False
   | _=>False
 | .agg l=>match y with
   | .agg r=>match (T.get t).sq with
     | some ks=>RA op ks l r K
     | none=>False
   | _=>False
 | .nils=>match y with
   | .nils=>eNil q (T.get t).sli op (fun k=>k true) K
   | .lst l=>eNil q (T.get t).sli op (fun k=>∀b,(b=true→l=[])→k b) K
   | .sl _ _ n=>eNil q (T.get t).sli op (fun k=>∀b,(b=true→n=0)→k b) K
   | _=>False
 | .lst l=>match y with
   | .nils=>eNil q (T.get t).sli op (fun k=>∀b,(b=true→l=[])→k b) K
   | _=>False
 | .sl _ _ n=>match y with
   | .nils=>eNil q (T.get t).sli op (fun k=>∀b,(b=true→n=0)→k b) K
   | _=>False
 | .nilp=>match y with
   | .nilp=>eNil q (T.get t).ptr op (fun k=>k true) K
   | .ptr _ _ _=>eNil q (T.get t).ptr op (fun k=>k false) K
   | .rp _=>eNil q (T.get t).ptr op (fun k=>k false) K
   | _=>False
 | .ptr _ _ _=>match y with
   | .nilp=>eNil q (T.get t).ptr op (fun k=>k false) K
   | _=>False
 | .rp _=>match y with
   | .nilp=>eNil q (T.get t).ptr op (fun k=>k false) K
   | _=>False
 | _=>False
where eNil (q ok:Bool) (op:BinOp) (p:(Bool→Prop)→Prop) (K:V→Prop):Prop:=
 match q with
 | true=>False
 | false=>Br ok (match op with
   | .eql=>p fun b=>K (.bool b)
   | .neq=>p fun b=>K (.bool (!b))
   | _=>False) False
theorem RB {T:TT} {P:Program} {q:Bool} {t:TypeId} {op:BinOp} {k k':IntKind} {a b:Int} {σ:St} {K:V→St→Prop} (h:eBin T q t op (.int k a) (.int k' b) fun r=>K r σ):L4 P t op (.int k a) (.int k' b) K σ:=by
 have kk:∀{A:Prop},Br (Nr k k') A False→k=k'∧A:=fun h=>by
  have:=Am h
  exact ⟨by simpa [Nr] using this.1,this.2⟩
 unfold L4
 cases op
 all_goals first
  | (have:=kk h;exact ⟨this.1,GB (K:=fun r=>K r σ) this.2⟩)
  | (have:=kk h;exact ⟨this.1,this.2.1,GB (K:=fun r=>K r σ) this.2.2⟩)
  | (have:=kk h;exact ⟨this.1,this.2.1,this.2.2⟩)
  | (have:=kk h;exact ⟨this.1,OM (K:=fun r=>K r σ) this.2⟩)
  | (have:=kk h;exact ⟨this.1,MF (K:=fun r=>K r σ) this.2⟩)
  | (have:=kk h;exact ⟨this.1,this.2⟩)
  | exact ⟨AskD.p h,GB (K:=fun r=>K r σ) (AskD.a h)⟩
  | exact ⟨AskD.p h,AskD.a h⟩
  | exact (h:False).elim
theorem Cp {q ok ok':Bool} {op:BinOp} {p:(Bool→Prop)→Prop} {σ:St} {K:V→St→Prop} (h:eBin.eNil q ok op p fun r=>K r σ) (hok:Q7 ok ok') (hp:∀k k':Bool→Prop,(∀b,k b→k' b)→p k→p k'):
 ok'=true∧p (fun b=>Kw op b K σ)∧q=false:=by
 cases q with
 | true=>exact h.elim
 | false=>
   have h:=Am h
   refine ⟨Bw hok h.1,?_,rfl⟩
   have h2:=h.2
   cases op
   all_goals first|exact hp _ _ (fun b hb=>hb) h2|exact h2.elim
theorem TL {op:BinOp} {b:Bool} {K:V→St→Prop} {σ:St} (h:eb op b fun r=>K r σ):Kw op b K σ:=by
 unfold Kw
 cases op<;>first|exact h|exact (h:False).elim
theorem ed {op:BinOp} {K:V→St→Prop} {σ:St}:∀(ks:List Kd) (l r:List V),(RA op ks l r fun x=>K x σ)→L9 op ks l r K σ:=by
 intro ks
 induction ks with
 | nil=>
   intro l r h
   match l,r,h with
   | [],[],h=>exact TL h
   | _::_,_,h=>simp [RA] at h
   | [],_::_,h=>simp [RA] at h
 | cons d ks ih=>
   intro l r h
   cases l with
   | nil=>cases d<;>simp [RA] at h
   | cons x l=>
     cases r with
     | nil=>cases d<;>cases x<;>simp [RA] at h
     | cons y r=>
       cases d<;>cases x<;>cases y<;>first
        | (simp only [RA] at h;done)
        | exact ⟨fun e=>ih l r (BrD.t h e),fun n=>TL (BrD.f h n)⟩
        | (have:=Am h;exact ⟨by simpa [Nr] using this.1,fun e=>ih l r (this.2.t e),fun n=>TL (this.2.f n)⟩)
theorem bq {T:TT} {P:Program} (hT:T.All P) {q:Bool} {t:TypeId} {op:BinOp} {x y:V} {σ:St} {K:V→St→Prop} (h:eBin T q t op x y fun r=>K r σ):
 Pb P t op x y K σ∧(q=true→TJ P t op x y K σ):=by
 have ht:=TT.ok hT t
 cases x with
 | int k a=>
   cases y with
   | int k' b=>exact ⟨Bu (RB h),fun _=>RB h⟩
   | _=>exact (h:False).elim
 | str s=>
   cases y with
   | str t'=>
     have:LB P t op (.str s) (.str t') K σ:=by
      unfold LB
      cases op
      all_goals first|exact ⟨AskD.p h,AskD.a h⟩|exact OM (K:=fun r=>K r σ) h|exact MF (K:=fun r=>K r σ) h|exact (h:False).elim
     exact ⟨Bu (HE this),fun _=>this⟩
   | _=>exact (h:False).elim
 | bool a=>
   cases y with
   | bool b=>
     have:LB P t op (.bool a) (.bool b) K σ:=by
      unfold LB
      have h:=Am h
      refine ⟨Bw ht.boo h.1,?_⟩
      have h2:=h.2
      cases op
      all_goals first|exact h2|exact (h2:False).elim
     exact ⟨Bu (HE this),fun _=>this⟩
   | _=>exact (h:False).elim
 | agg l=>
   cases y with
   | agg r=>
     simp only [eBin] at h
     split at h
     ·rename_i ks hks
      have hs:=A9 ht.sq hks
      have:=ed ks l r h
      unfold Pb TJ
      simp only [hs]
      exact ⟨this,fun _=>this⟩
     ·exact h.elim
   | _=>exact (h:False).elim
 | nils=>
   cases y with
   | nils=>
     simp only [eBin] at h
     obtain ⟨h1,h2,rfl⟩:=Cp (σ:=σ) (K:=K) h ht.sli (fun k k' hk h=>hk _ h)
     exact ⟨Bu ⟨h1,h2⟩,fun h=>by cases h⟩
   | lst l=>
     simp only [eBin] at h
     obtain ⟨h1,h2,rfl⟩:=Cp (σ:=σ) (K:=K) h ht.sli (fun k k' hk h b hb=>hk _ (h b hb))
     exact ⟨Bu ⟨h1,h2⟩,fun h=>by cases h⟩
   | sl _ _ n=>
     simp only [eBin] at h
     obtain ⟨h1,h2,rfl⟩:=Cp (σ:=σ) (K:=K) h ht.sli (fun k k' hk h b hb=>hk _ (h b hb))
     exact ⟨Bu ⟨h1,h2⟩,fun h=>by cases h⟩
   | _=>exact (h:False).elim
 | lst l=>
   cases y with
   | nils=>
     simp only [eBin] at h
     obtain ⟨h1,h2,rfl⟩:=Cp (σ:=σ) (K:=K) h ht.sli (fun k k' hk h b hb=>hk _ (h b hb))
     exact ⟨Bu ⟨h1,h2⟩,fun h=>by cases h⟩
   | _=>exact (h:False).elim
 | sl _ _ n=>
   cases y with
   | nils=>
     simp only [eBin] at h
     obtain ⟨h1,h2,rfl⟩:=Cp (σ:=σ) (K:=K) h ht.sli (fun k k' hk h b hb=>hk _ (h b hb))
     exact ⟨Bu ⟨h1,h2⟩,fun h=>by cases h⟩
   | _=>exact (h:False).elim
 | nilp=>
   cases y with
   | nilp=>
     simp only [eBin] at h
     obtain ⟨h1,h2,rfl⟩:=Cp (σ:=σ) (K:=K) h ht.ptr (fun k k' hk h=>hk _ h)
     exact ⟨Bu ⟨h1,h2⟩,fun h=>by cases h⟩
   | ptr _ _ _=>
     simp only [eBin] at h
     obtain ⟨h1,h2,rfl⟩:=Cp (σ:=σ) (K:=K) h ht.ptr (fun k k' hk h=>hk _ h)
     exact ⟨Bu ⟨h1,h2⟩,fun h=>by cases h⟩
   | rp _=>
     simp only [eBin] at h
     obtain ⟨h1,h2,rfl⟩:=Cp (σ:=σ) (K:=K) h ht.ptr (fun k k' hk h=>hk _ h)
     exact ⟨Bu ⟨h1,h2⟩,fun h=>by cases h⟩
   | _=>exact (h:False).elim
 | ptr _ _ _=>
   cases y with
   | nilp=>
     simp only [eBin] at h
     obtain ⟨h1,h2,rfl⟩:=Cp (σ:=σ) (K:=K) h ht.ptr (fun k k' hk h=>hk _ h)
     exact ⟨Bu ⟨h1,h2⟩,fun h=>by cases h⟩
   | _=>exact (h:False).elim
 | rp _=>
   cases y with
   | nilp=>
     simp only [eBin] at h
     obtain ⟨h1,h2,rfl⟩:=Cp (σ:=σ) (K:=K) h ht.ptr (fun k k' hk h=>hk _ h)
     exact ⟨Bu ⟨h1,h2⟩,fun h=>by cases h⟩
   | _=>exact (h:False).elim
 | _=>exact (h:False).elim
theorem EO {b:Bool} {A B A' B':Prop} (h:Br b A B) (ha:A→A') (hb:B→B'):Br b A' B':=by
 cases b
 ·exact hb h
 ·exact ha h
theorem J3 {k:IntKind} {n:Int} {K K':V→Prop} (h:N3 k n K) (hk:∀r,K r→K' r):N3 k n K':=⟨EO h.out (hk _) (hk _)⟩
theorem E8 {q ok:Bool} {op:BinOp} {p:(Bool→Prop)→Prop} {K K':V→Prop} (hp:∀k k':Bool→Prop,(∀b,k b→k' b)→p k→p k') (h:eBin.eNil q ok op p K) (hk:∀r,K r→K' r):eBin.eNil q ok op p K':=by
 cases q with
 | true=>exact h.elim
 | false=>
   refine EO h (fun h=>?_) id
   cases op
   all_goals first|exact hp _ _ (fun b hb=>hk _ hb) h|exact h.elim
theorem MH {op:BinOp} {b:Bool} {K K':V→Prop} (h:eb op b K) (hk:∀r,K r→K' r):eb op b K':=by
 cases op<;>first|exact hk _ h|exact (h:False).elim
theorem YZ {op:BinOp} {K K':V→Prop} (hk:∀r,K r→K' r):∀(ks:List Kd) (l r:List V),RA op ks l r K→RA op ks l r K':=by
 intro ks
 induction ks with
 | nil=>
   intro l r h
   match l,r,h with
   | [],[],h=>exact MH h hk
   | _::_,_,h=>simp [RA] at h
   | [],_::_,h=>simp [RA] at h
 | cons d ks ih=>
   intro l r h
   cases l with
   | nil=>cases d<;>simp [RA] at h
   | cons x l=>
     cases r with
     | nil=>cases d<;>cases x<;>simp [RA] at h
     | cons y r=>
       cases d<;>cases x<;>cases y<;>first
        | (simp only [RA] at h;done)
        | exact JC h (ih l r) (fun h=>MH h hk)
        | exact EO h (fun h=>JC h (ih l r) (fun h=>MH h hk)) id
theorem WY {T:TT} {q:Bool} {t:TypeId} {op:BinOp} {x y:V} {K K':V→Prop} (h:eBin T q t op x y K) (hk:∀r,K r→K' r):eBin T q t op x y K':=by
 cases x with
 | int k a=>
   cases y with
   | int k' b=>
     cases op
     all_goals first
      | exact EO h (fun h=>J3 h hk) id
      | exact EO h (hk _) id
      | exact EO h (fun h=>HF h (fun h=>J3 h hk)) id
      | exact EO h (fun h=>HF h (hk _)) id
      | exact EO h (fun h=>ON h hk) id
      | exact EO h (fun h=>MG h hk) id
      | exact HF h (fun h=>J3 h hk)
      | exact HF h (hk _)
      | exact (h:False).elim
   | _=>exact (h:False).elim
 | str s=>
   cases y with
   | str t'=>
     cases op
     all_goals first|exact HF h (hk _)|exact ON h hk|exact MG h hk|exact (h:False).elim
   | _=>exact (h:False).elim
 | bool a=>
   cases y with
   | bool b=>
     refine EO h (fun h=>?_) id
     cases op
     all_goals first|exact hk _ h|exact (h:False).elim
   | _=>exact (h:False).elim
 | agg l=>
   cases y with
   | agg r=>
     simp only [eBin] at h ⊢
     split at h
     ·exact YZ hk _ _ _ h
     ·exact h.elim
   | _=>exact (h:False).elim
 | nils=>cases y<;>first|exact (h:False).elim|(simp only [eBin] at h ⊢;refine E8 ?_ h hk;first|exact fun k k' hk h=>hk _ h|exact fun k k' hk h b hb=>hk _ (h b hb))
 | lst l=>cases y<;>first|exact (h:False).elim|(simp only [eBin] at h ⊢;refine E8 ?_ h hk;first|exact fun k k' hk h=>hk _ h|exact fun k k' hk h b hb=>hk _ (h b hb))
 | sl _ _ n=>cases y<;>first|exact (h:False).elim|(simp only [eBin] at h ⊢;refine E8 ?_ h hk;first|exact fun k k' hk h=>hk _ h|exact fun k k' hk h b hb=>hk _ (h b hb))
 | nilp=>cases y<;>first|exact (h:False).elim|(simp only [eBin] at h ⊢;refine E8 ?_ h hk;first|exact fun k k' hk h=>hk _ h|exact fun k k' hk h b hb=>hk _ (h b hb))
 | ptr _ _ _=>cases y<;>first|exact (h:False).elim|(simp only [eBin] at h ⊢;refine E8 ?_ h hk;first|exact fun k k' hk h=>hk _ h|exact fun k k' hk h b hb=>hk _ (h b hb))
 | rp _=>cases y<;>first|exact (h:False).elim|(simp only [eBin] at h ⊢;refine E8 ?_ h hk;first|exact fun k k' hk h=>hk _ h|exact fun k k' hk h b hb=>hk _ (h b hb))
 | _=>exact (h:False).elim
end Go.Proofs.YtkaiffheakalmaaGreatDoor
