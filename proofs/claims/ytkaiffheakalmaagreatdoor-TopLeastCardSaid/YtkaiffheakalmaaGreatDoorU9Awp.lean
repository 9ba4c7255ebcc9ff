/- Copied, stripped. No conditions. -/
import Derived.Test.YtkaiffheakalmaaGreatDoorU9Awj
set_option linter.unusedSimpArgs false
set_option linter.unusedVariables false
set_option maxRecDepth 100000
namespace Go.Proofs.YtkaiffheakalmaaGreatDoor
open Go.RowKit
def Br (b:Bool) (A B:Prop):Prop:=match b with|true=>A|false=>B
theorem dB {b:Bool} {A B:Prop} (h:b=true) (k:A):Br b A B:=by subst h;exact k
theorem jL {b:Bool} {A B:Prop} (h:b=false) (k:B):Br b A B:=by subst h;exact k
theorem br {b:Bool} {A B:Prop} (h1:b=true→A) (h2:b=false→B):Br b A B:=by
  cases b
  . exact h2 rfl
  . exact h1 rfl
theorem Dp {b:Bool} {A B:Prop} (h:Br b A B):(b=true∧A)∨(b=false∧B):=by
  cases b
  . exact .inr ⟨rfl,h⟩
  . exact .inl ⟨rfl,h⟩
theorem Ap {b:Bool} {A:Prop} (h:Br b A False):b=true∧A:=by
  rcases Dp h with h|⟨_,h⟩
  . exact h
  . exact h.elim
structure BrD (p:Prop) (A B:Prop):Prop where
  t:p→A
  f:¬p→B
theorem He {p A B:Prop} (h1:p→A) (h2:¬p→B):BrD p A B:=⟨h1,h2⟩
theorem AN {p A B:Prop} (h:p) (k:A):BrD p A B:=⟨fun _=>k,fun n=>absurd h n⟩
theorem AM {p A B:Prop} (h:¬p) (k:B):BrD p A B:=⟨fun n=>absurd n h,fun _=>k⟩
theorem IG {p A B A' B':Prop} (h:BrD p A B) (ha:A→A') (hb:B→B'):BrD p A' B':=⟨fun x=>ha (h.t x),fun x=>hb (h.f x)⟩
structure AskD (p A:Prop):Prop where
  p:p
  a:A
theorem Af {p A:Prop} (h:p) (k:A):AskD p A:=⟨h,k⟩
theorem Ga {p A A':Prop} (h:AskD p A) (ha:A→A'):AskD p A':=⟨h.1,ha h.2⟩
def Qu {α:Type} (o:Option α) (A:α→Prop):Prop:=match o with|some x=>A x|none=>False
theorem AQ {α:Type} {o:Option α} {A:α→Prop} {x:α} (h:o=some x) (k:A x):Qu o A:=by subst h;exact k
theorem Bx {α:Type} {o:Option α} {A:α→Prop} (h:Qu o A):∃x,o=some x∧A x:=by
  cases o with
  | none=>exact h.elim
  | some x=>exact ⟨x,rfl,h⟩
structure TRec where
  ti:Option (Bool×Nat):=none
  ei:Option (TypeId×Nat):=none
  ai:Option (Nat×Bool×Nat):=none
  fi:List (Option (Nat×Bool×Nat)):=[]
  si:Option (List (Nat×Nat)):=none
  zv:Option V:=none
  zok:Option Nat:=none
  by':Option Nat:=none
  ik:Option IntKind:=none
  str:Bool:=false
  sli:Bool:=false
  boo:Bool:=false
  ptr:Bool:=false
  ni:Bool:=false
  un:Bool:=false
  sq:Option (List Kd):=none
def cN {α:Type} (o x:Option α):Prop:=match o with|none=>True|some y=>x=some y
def gQ (o x:Option V):Prop:=match o with|none=>True|some y=>x=some y
def PT (b x:Bool):Prop:=match b with|false=>True|true=>x=true
def dC (P:Program) (t:TypeId):Nat→List (Option (Nat×Bool×Nat))→Prop
  | _,[]=>True
  | k,o::l=>cN o (FI P t k)∧dC P t (k+1) l
theorem A5 {α:Type} {o x:Option α} {y:α} (h:cN o x) (e:o=some y):x=some y:=by subst e;exact h
theorem I6 {o x:Option V} {y:V} (h:gQ o x) (e:o=some y):x=some y:=by subst e;exact h
theorem Bm {b x:Bool} (h:PT b x) (e:b=true):x=true:=by subst e;exact h
theorem cO {P:Program} {t:TypeId} {y:Nat×Bool×Nat}:∀{l:List (Option (Nat×Bool×Nat))} {k f:Nat},dC P t k l→l[f]?=some (some y)→FI P t (k+f)=some y
  | [],_,_,_,e=>by simp at e
  | o::l,k,0,h,e=>by simp at e;subst e;exact h.1
  | o::l,k,f+1,h,e=>by
    have:=cO (k:=k+1) (f:=f) h.2 (by simpa using e)
    rw [←this];congr 1;omega
structure TOk (P:Program) (t:TypeId) (r:TRec):Prop where
  ti:cN r.ti (TI P t)
  ei:cN r.ei (EI P t)
  ai:cN r.ai (AI P t)
  fi:dC P t 0 r.fi
  si:cN r.si (SI P t)
  zv:gQ r.zv (ZV P t)
  zok:match r.zok with|none=>True|some z=>f4 P t z=true
  by':match r.by' with|none=>True|some n=>Mh P t=n
  ik:cN r.ik (N0 P t)
  str:PT r.str (Du P t)
  sli:PT r.sli (E5 P t)
  boo:PT r.boo (Vs P t)
  ptr:PT r.ptr (Jo P t)
  ni:PT r.ni (D8 P t)
  un:PT r.un (P.underlying t).isSome
  sq:cN r.sq (SQ P t)
inductive TT where
  | leaf
  | node (l:TT) (t:Nat) (r:TRec) (rt:TT)
def TT.get:TT→Nat→TRec
  | .leaf,_=>{}
  | .node l t r rt,x=>match Nat.blt x t with
    | true=>l.get x
    | false=>match Nat.beq x t with
      | true=>r
      | false=>rt.get x
def TT.All (P:Program):TT→Prop
  | .leaf=>True
  | .node l t r rt=>l.All P∧TOk P t r∧rt.All P
theorem TT.ok {P:Program}:∀{T:TT},T.All P→∀x,TOk P x (T.get x)
  | .leaf,_,x=>⟨trivial,trivial,trivial,trivial,trivial,trivial,trivial,trivial,trivial,trivial,trivial,trivial,trivial,trivial,trivial,trivial⟩
  | .node l t r rt,h,x=>by
    simp only [TT.get]
    split
    . exact TT.ok h.1 x
    . split
      . rename_i e
        rw [Nat.eq_of_beq_eq_true e]
        exact h.2.1
      . exact TT.ok h.2.2 x
structure ES where
  n:Nat
  u:List (Nat×V)
  heap:List (Option Ob)
def Al:List (Nat×V)→Nat→V
  | [],_=>.any
  | (d,x)::r,t=>match Nat.beq t d with
    | true=>x
    | false=>Al r t
def ES.get (σ:ES) (t:Nat):V:=match Nat.blt t σ.n with|true=>Al σ.u t|false=>.any
def ES.env (σ:ES):List V:=(List.range σ.n).map (Al σ.u)
def ES.st (σ:ES):St:=⟨σ.env,σ.heap⟩
theorem Dq {a b:Nat}:Nat.blt a b=true↔a < b:=by simp [Nat.blt,Nat.ble_eq];omega
theorem Yu {a b:Nat}:Nat.blt a b=false↔¬a < b:=by rw [←Dq];cases Nat.blt a b<;>simp
theorem Fs (σ:ES) (t:Nat):σ.env.getD t .any=σ.get t:=by
  unfold ES.get ES.env
  by_cases h:t < σ.n
  . rw [Dq.2 h];simp [List.getD,h]
  . rw [Yu.2 h];simp [List.getD,h]
def ES.val (σ:ES):Operand→V
  | .tmp t=>σ.get t
  | .const v=>V.ofVal v
  | .global g=>.gp g
  | .func f=>.fn f []
theorem Av (σ:ES) (o:Operand):σ.st.val o=σ.val o:=by
  cases o with
  | tmp t=>exact Fs σ t
  | _=>rfl
def ES.put (σ:ES) (d:Option Tmp) (x:V):ES:=match d with|some d=>⟨σ.n,(d,x)::σ.u,σ.heap⟩|none=>σ
theorem K4 (n d:Nat) (x:V) (u:List (Nat×V)) (h:List (Option Ob)):ES.env ⟨n,(d,x)::u,h⟩=(ES.env ⟨n,u,h⟩).set d x:=by
  unfold ES.env
  apply List.ext_getElem?
  intro i
  simp only [List.getElem?_map,List.getElem?_set,List.length_map,List.length_range]
  by_cases hi:i < n
  . rw [List.getElem?_range hi]
    simp only [Option.map_some]
    by_cases e:d=i
    . subst e
      simp [Al,hi]
    . have:Nat.beq i d=false:=by
        cases hb:Nat.beq i d with
        | false=>rfl
        | true=>exact absurd (Nat.eq_of_beq_eq_true hb).symm e
      simp [Al,this,e]
  . have h1:(List.range n)[i]?=none:=by simp;omega
    rw [h1]
    simp only [Option.map_none]
    by_cases e:d=i
    . subst e;simp [hi]
    . simp [e]
theorem FO (σ:ES) (d:Option Tmp) (x:V):σ.st.put d x=(σ.put d x).st:=by
  cases d with
  | none=>rfl
  | some d=>unfold ES.put ES.st St.put;simp only;rw [K4]
theorem Yv (σ:ES):σ.st.heap=σ.heap:=rfl
def jM (v:V) (K:V→Prop):Prop:=
  match v with
  | .any=>K .any|.bool b=>K (.bool b)|.int k n=>K (.int k n)|.str s=>K (.str s)|.nils=>K .nils|.lst l=>K (.lst l)
  | .agg l=>K (.agg l)|.rp l=>K (.rp l)|.fn f c=>K (.fn f c)|.tup l=>K (.tup l)|.nilp=>K .nilp|.sl a b c=>K (.sl a b c)
  | .ptr a b c=>K (.ptr a b c)|.it a=>K (.it a)|.nili=>K .nili|.ifi t k n=>K (.ifi t k n)|.ifx=>K .ifx
  | .gp g=>K (.gp g)|.gsl g n=>K (.gsl g n)
theorem WL (v:V) (K:V→Prop):jM v K=K v:=by cases v<;>rfl
def YU:List V→(List V→Prop)→Prop
  | [],K=>K []
  | x::l,K=>jM x fun x=>YU l fun l=>K (x::l)
theorem K5:∀(l:List V) (K:List V→Prop),YU l K=K l
  | [],K=>rfl
  | x::l,K=>by simp only [YU,WL,K5 l]
def f5 (v:V) (K:V→Prop):Prop:=
  match v with
  | .any=>K .any|.bool b=>K (.bool b)|.int k n=>K (.int k n)|.str s=>K (.str s)|.nils=>K .nils|.lst l=>K (.lst l)
  | .agg l=>YU l fun l=>K (.agg l)|.rp l=>YU l fun l=>K (.rp l)|.fn f c=>K (.fn f c)|.tup l=>YU l fun l=>K (.tup l)|.nilp=>K .nilp|.sl a b c=>K (.sl a b c)
  | .ptr a b c=>K (.ptr a b c)|.it a=>K (.it a)|.nili=>K .nili|.ifi t k n=>K (.ifi t k n)|.ifx=>K .ifx
  | .gp g=>K (.gp g)|.gsl g n=>K (.gsl g n)
theorem OB (v:V) (K:V→Prop):f5 v K=K v:=by cases v<;>simp only [f5,K5]
def dD:List V→(List V→Prop)→Prop
  | [],K=>K []
  | x::l,K=>f5 x fun x=>dD l fun l=>K (x::l)
theorem K6:∀(l:List V) (K:List V→Prop),dD l K=K l
  | [],K=>rfl
  | x::l,K=>by simp only [dD,OB,K6 l]
def fV (v:V) (K:V→Prop):Prop:=
  match v with
  | .any=>K .any|.bool b=>Br b (K (.bool true)) (K (.bool false))|.int k n=>K (.int k n)|.str s=>K (.str s)|.nils=>K .nils|.lst l=>K (.lst l)
  | .agg l=>YU l fun l=>K (.agg l)|.rp l=>YU l fun l=>K (.rp l)|.fn f c=>K (.fn f c)|.tup l=>dD l fun l=>K (.tup l)|.nilp=>K .nilp|.sl a b c=>K (.sl a b c)
  | .ptr a b c=>K (.ptr a b c)|.it a=>K (.it a)|.nili=>K .nili|.ifi t k n=>K (.ifi t k n)|.ifx=>K .ifx
  | .gp g=>K (.gp g)|.gsl g n=>K (.gsl g n)
theorem HW (v:V) (K:V→Prop):fV v K=K v:=by
  cases v with
  | bool b=>cases b<;>rfl
  | _=>simp only [fV,K5,K6]
def nF (n:Nat) (K:Nat→Prop):Prop:=
  match n with
  | 0=>K 0|1=>K 1|2=>K 2|3=>K 3|4=>K 4|5=>K 5|6=>K 6|7=>K 7|8=>K 8|9=>K 9|10=>K 10|11=>K 11|12=>K 12
  | 13=>K 13|14=>K 14|15=>K 15|16=>K 16|17=>K 17|18=>K 18|19=>K 19|20=>K 20|21=>K 21|22=>K 22|23=>K 23|24=>K 24
  | n=>K n
theorem K7 (n:Nat) (K:Nat→Prop):nF n K=K n:=by unfold nF;split<;>rfl
def fO (y:Option (Nat×Nat)) (K:Option (Nat×Nat)→Prop):Prop:=match y with|none=>K none|some (q,n)=>nF q fun q=>K (some (q,n))
theorem gR (y:Option (Nat×Nat)) (K:Option (Nat×Nat)→Prop):fO y K=K y:=by
  cases y with
  | none=>rfl
  | some y=>simp only [fO,K7]
def fH:List (Option Ob)→(List (Option Ob)→Prop)→Prop
  | [],K=>K []
  | none::r,K=>fH r fun r=>K (none::r)
  | some o::r,K=>match o with
    | .row z els=>fH r fun r=>K (some (.row z els)::r)
    | .iter s p=>fH r fun r=>K (some (.iter s p)::r)
    | .mp es=>fH r fun r=>K (some (.mp es)::r)
    | .bld T y=>fO y fun y=>fH r fun r=>K (some (.bld T y)::r)
    | .buf U s=>fH r fun r=>K (some (.buf U s)::r)
    | .hid vs l=>YU l fun l=>fH r fun r=>K (some (.hid vs l)::r)
theorem BB:∀(h:List (Option Ob)) (K:List (Option Ob)→Prop),fH h K=K h
  | [],K=>rfl
  | none::r,K=>by simp only [fH,BB r]
  | some (.row z els)::r,K=>by simp only [fH,BB r]
  | some (.iter s p)::r,K=>by simp only [fH,BB r]
  | some (.mp es)::r,K=>by simp only [fH,BB r]
  | some (.bld T y)::r,K=>by simp only [fH,BB r,gR]
  | some (.buf U s)::r,K=>by simp only [fH,BB r]
  | some (.hid vs l)::r,K=>by simp only [fH,BB r,K5]
def FP (id:Nat):List (Nat×V)→(List (Nat×V)→Prop)→Prop
  | [],K=>K []
  | (d,x)::u,K=>f5 (x.kill id) fun x=>FP id u fun u=>K ((d,x)::u)
theorem EU (id:Nat):∀(u:List (Nat×V)) (K:List (Nat×V)→Prop),FP id u K=K (u.map fun p=>(p.1,p.2.kill id))
  | [],K=>rfl
  | (d,x)::u,K=>by simp only [FP,OB,EU id u,List.map_cons]
theorem B2 (id t:Nat):∀u:List (Nat×V),Al (u.map fun p=>(p.1,p.2.kill id)) t=(Al u t).kill id
  | []=>by simp [Al,V.kill]
  | (d,x)::u=>by
    simp only [List.map_cons,Al]
    split
    . rfl
    . exact B2 id t u
theorem Ft (id:Nat):∀l:List V,AK id l=l.map (V.kill id)
  | []=>by simp [AK]
  | x::l=>by simp [AK,Ft id l]
theorem K8 (n id:Nat) (u:List (Nat×V)) (h h':List (Option Ob)):AK id (ES.env ⟨n,u,h⟩)=ES.env ⟨n,u.map fun p=>(p.1,p.2.kill id),h'⟩:=by
  rw [Ft]
  unfold ES.env
  rw [List.map_map]
  exact List.map_congr_left fun t _=>(B2 id t u).symm
end Go.Proofs.YtkaiffheakalmaaGreatDoor
