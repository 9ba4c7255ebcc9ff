/- Joined. No conditions. -/
import Derived.Test.YtkaiffheakalmaaGreatDoorJ9bm
set_option linter.unusedSimpArgs false
set_option linter.unusedVariables false
set_option maxRecDepth 100000
namespace Go.Proofs.YtkaiffheakalmaaGreatDoor
open Go.RowKit
structure MachOk (s:List UInt8) (x:Ex) (m:Mc):Prop where
 parse:P6 s=(x,0)
 make:Fn1G Tryz.prog GT 12 [Ah x] (fun r=>r= .tup [BB m,.int .i64 0])
 sz:El x≤1048576
 chk:ZR x=0
 rows:∀r∈m.N,r.length=8
 many:m.N.length≤40
 fin:m.F.length=m.N.length
 pos:1≤m.N.length
 ty:∀r∈m.N,∀y∈r.drop 7,y < 0
 to:∀r∈m.N,∀y∈r,-1≤y∧y < m.N.length
 tx:∀r∈m.N,r.getD 6 (-1) < 0∨(m.N.getD (r.getD 6 (-1)).toNat []).getD 6 (-1) < 0
theorem MachOk.mach {s:List UInt8} {x:Ex} {m:Mc} (h:MachOk s x m):Fn1G Tryz.prog GT 35 [.str s,.int .i64 (7:Nat),.int .i64 (6:Nat)] (fun r=>r= .tup [BB m,.int .i64 0]):=
 QQ s x m 7 6 h.parse h.make h.rows h.many (by omega) (by omega) h.ty (fun r hr y hy=>(h.to r hr y hy).2) h.tx
def ka:List UInt8:=[40,98,124,99,124,100,41,43]
def gj:Ex:=(.mk 5 0 [(.mk 3 0 [(.mk 1 1 []),(.mk 1 2 []),(.mk 1 3 [])])])
def fj:Mc:=⟨[[-1,1,1,1,-1,-1,-1,-1],[-1,1,1,1,-1,-1,-1,-1]],[false,true]⟩
theorem jB:OkSets (IH gj) (So gj) 2 where
 len:=by decide +kernel
 four:=by decide +kernel
 last:=by decide +kernel
 ll:=by decide +kernel
 fl:=by decide +kernel
 fb:=by decide +kernel
 rl:=by decide +kernel
 rows:=by decide +kernel
 go:=by decide +kernel
 many:=by decide +kernel
 fin:=by decide +kernel
 q:=by decide +kernel
 ql:=by decide +kernel
 to:=by decide +kernel
 tol:=by decide +kernel
theorem kb:MachOk ka gj fj where
 parse:=by kernel_rfl
 make:=Bv gj (by decide +kernel) (by decide +kernel) 2 jB (by decide) (N:=[[-1,1,1,1,-1,-1,-1,-1],[-1,1,1,1,-1,-1,-1,-1]]) (F:=[false,true]) (by decide +kernel) (by decide +kernel) ⟨by decide,by decide,by decide +kernel⟩ (C:=[0,1,-1]) (Ws:=[[1],[]]) (S:=[0,1]) (by decide +kernel) (by decide)
 sz:=by decide +kernel
 chk:=by decide +kernel
 rows:=by decide +kernel
 many:=by decide +kernel
 fin:=by decide +kernel
 pos:=by decide +kernel
 ty:=by decide +kernel
 to:=by decide +kernel
 tx:=by decide +kernel
def kc:List UInt8:=[99,63,98,42]
def gk:Ex:=(.mk 2 0 [(.mk 6 0 [(.mk 1 2 [])]),(.mk 4 0 [(.mk 1 1 [])])])
def fk:Mc:=⟨[[-1,1,1,-1,-1,-1,-1,-1],[-1,1,-1,-1,-1,-1,-1,-1]],[true,true]⟩
theorem jC:OkSets (IH gk) (So gk) 2 where
 len:=by decide +kernel
 four:=by decide +kernel
 last:=by decide +kernel
 ll:=by decide +kernel
 fl:=by decide +kernel
 fb:=by decide +kernel
 rl:=by decide +kernel
 rows:=by decide +kernel
 go:=by decide +kernel
 many:=by decide +kernel
 fin:=by decide +kernel
 q:=by decide +kernel
 ql:=by decide +kernel
 to:=by decide +kernel
 tol:=by decide +kernel
theorem ke:MachOk kc gk fk where
 parse:=by kernel_rfl
 make:=Bv gk (by decide +kernel) (by decide +kernel) 2 jC (by decide) (N:=[[-1,1,1,-1,-1,-1,-1,-1],[-1,1,-1,-1,-1,-1,-1,-1]]) (F:=[true,true]) (by decide +kernel) (by decide +kernel) ⟨by decide,by decide,by decide +kernel⟩ (C:=[0,1,-1]) (Ws:=[[],[2]]) (S:=[0,1]) (by decide +kernel) (by decide)
 sz:=by decide +kernel
 chk:=by decide +kernel
 rows:=by decide +kernel
 many:=by decide +kernel
 fin:=by decide +kernel
 pos:=by decide +kernel
 ty:=by decide +kernel
 to:=by decide +kernel
 tx:=by decide +kernel
def kf:List UInt8:=[40,98,124,100,41,42]
def fm:Ex:=(.mk 4 0 [(.mk 3 0 [(.mk 1 1 []),(.mk 1 3 [])])])
def eG:Mc:=⟨[[-1,0,-1,0,-1,-1,-1,-1]],[true]⟩
theorem jD:OkSets (IH fm) (So fm) 1 where
 len:=by decide +kernel
 four:=by decide +kernel
 last:=by decide +kernel
 ll:=by decide +kernel
 fl:=by decide +kernel
 fb:=by decide +kernel
 rl:=by decide +kernel
 rows:=by decide +kernel
 go:=by decide +kernel
 many:=by decide +kernel
 fin:=by decide +kernel
 q:=by decide +kernel
 ql:=by decide +kernel
 to:=by decide +kernel
 tol:=by decide +kernel
theorem kN:MachOk kf fm eG where
 parse:=by kernel_rfl
 make:=Bv fm (by decide +kernel) (by decide +kernel) 1 jD (by decide) (N:=[[-1,0,-1,0,-1,-1,-1,-1]]) (F:=[true]) (by decide +kernel) (by decide +kernel) ⟨by decide,by decide,by decide +kernel⟩ (C:=[0,-1]) (Ws:=[[]]) (S:=[0]) (by decide +kernel) (by decide)
 sz:=by decide +kernel
 chk:=by decide +kernel
 rows:=by decide +kernel
 many:=by decide +kernel
 fin:=by decide +kernel
 pos:=by decide +kernel
 ty:=by decide +kernel
 to:=by decide +kernel
 tx:=by decide +kernel
def kg:List UInt8:=[99,98,43,100,63]
def gl:Ex:=(.mk 2 0 [(.mk 1 2 []),(.mk 5 0 [(.mk 1 1 [])]),(.mk 6 0 [(.mk 1 3 [])])])
def fp:Mc:=⟨[[-1,-1,1,-1,-1,-1,-1,-1],[-1,2,-1,-1,-1,-1,-1,-1],[-1,2,-1,3,-1,-1,-1,-1],[-1,-1,-1,-1,-1,-1,-1,-1]],[false,false,true,true]⟩
theorem jE:OkSets (IH gl) (So gl) 4 where
 len:=by decide +kernel
 four:=by decide +kernel
 last:=by decide +kernel
 ll:=by decide +kernel
 fl:=by decide +kernel
 fb:=by decide +kernel
 rl:=by decide +kernel
 rows:=by decide +kernel
 go:=by decide +kernel
 many:=by decide +kernel
 fin:=by decide +kernel
 q:=by decide +kernel
 ql:=by decide +kernel
 to:=by decide +kernel
 tol:=by decide +kernel
theorem kh:MachOk kg gl fp where
 parse:=by kernel_rfl
 make:=Bv gl (by decide +kernel) (by decide +kernel) 4 jE (by decide) (N:=[[-1,-1,1,-1,-1,-1,-1,-1],[-1,2,-1,-1,-1,-1,-1,-1],[-1,2,-1,3,-1,-1,-1,-1],[-1,-1,-1,-1,-1,-1,-1,-1]]) (F:=[false,false,true,true]) (by decide +kernel) (by decide +kernel) ⟨by decide,by decide,by decide +kernel⟩ (C:=[0,1,2,3,-1]) (Ws:=[[2,1],[1],[]]) (S:=[0,1,2,3]) (by decide +kernel) (by decide)
 sz:=by decide +kernel
 chk:=by decide +kernel
 rows:=by decide +kernel
 many:=by decide +kernel
 fin:=by decide +kernel
 pos:=by decide +kernel
 ty:=by decide +kernel
 to:=by decide +kernel
 tx:=by decide +kernel
def ki:List UInt8:=[103,63,40,102,43,103,63,41,42]
def gu:Ex:=(.mk 2 0 [(.mk 6 0 [(.mk 1 6 [])]),(.mk 4 0 [(.mk 2 0 [(.mk 5 0 [(.mk 1 5 [])]),(.mk 6 0 [(.mk 1 6 [])])])])])
def ft:Mc:=⟨[[-1,-1,-1,-1,-1,0,1,-1],[-1,-1,-1,-1,-1,0,-1,-1]],[true,true]⟩
theorem jF:OkSets (IH gu) (So gu) 3 where
 len:=by decide +kernel
 four:=by decide +kernel
 last:=by decide +kernel
 ll:=by decide +kernel
 fl:=by decide +kernel
 fb:=by decide +kernel
 rl:=by decide +kernel
 rows:=by decide +kernel
 go:=by decide +kernel
 many:=by decide +kernel
 fin:=by decide +kernel
 q:=by decide +kernel
 ql:=by decide +kernel
 to:=by decide +kernel
 tol:=by decide +kernel
theorem kj:MachOk ki gu ft where
 parse:=by kernel_rfl
 make:=Bv gu (by decide +kernel) (by decide +kernel) 3 jF (by decide) (N:=[[-1,-1,-1,-1,-1,1,2,-1],[-1,-1,-1,-1,-1,1,2,-1],[-1,-1,-1,-1,-1,1,-1,-1]]) (F:=[true,true,true]) (by decide +kernel) (by decide +kernel) ⟨by decide,by decide,by decide +kernel⟩ (C:=[0,0,1,-1]) (Ws:=[[],[6]]) (S:=[0,2]) (by decide +kernel) (by decide)
 sz:=by decide +kernel
 chk:=by decide +kernel
 rows:=by decide +kernel
 many:=by decide +kernel
 fin:=by decide +kernel
 pos:=by decide +kernel
 ty:=by decide +kernel
 to:=by decide +kernel
 tx:=by decide +kernel
def kl:List UInt8:=[40,102,124,103,102,41,42,103,63]
def gv:Ex:=(.mk 2 0 [(.mk 4 0 [(.mk 3 0 [(.mk 1 5 []),(.mk 2 0 [(.mk 1 6 []),(.mk 1 5 [])])])]),(.mk 6 0 [(.mk 1 6 [])])])
def fu:Mc:=⟨[[-1,-1,-1,-1,-1,0,1,-1],[-1,-1,-1,-1,-1,0,-1,-1]],[true,true]⟩
theorem jG:OkSets (IH gv) (So gv) 2 where
 len:=by decide +kernel
 four:=by decide +kernel
 last:=by decide +kernel
 ll:=by decide +kernel
 fl:=by decide +kernel
 fb:=by decide +kernel
 rl:=by decide +kernel
 rows:=by decide +kernel
 go:=by decide +kernel
 many:=by decide +kernel
 fin:=by decide +kernel
 q:=by decide +kernel
 ql:=by decide +kernel
 to:=by decide +kernel
 tol:=by decide +kernel
theorem km:MachOk kl gv fu where
 parse:=by kernel_rfl
 make:=Bv gv (by decide +kernel) (by decide +kernel) 2 jG (by decide) (N:=[[-1,-1,-1,-1,-1,0,1,-1],[-1,-1,-1,-1,-1,0,-1,-1]]) (F:=[true,true]) (by decide +kernel) (by decide +kernel) ⟨by decide,by decide,by decide +kernel⟩ (C:=[0,1,-1]) (Ws:=[[],[6]]) (S:=[0,1]) (by decide +kernel) (by decide)
 sz:=by decide +kernel
 chk:=by decide +kernel
 rows:=by decide +kernel
 many:=by decide +kernel
 fin:=by decide +kernel
 pos:=by decide +kernel
 ty:=by decide +kernel
 to:=by decide +kernel
 tx:=by decide +kernel
def kn:List UInt8:=[103,63]
def eH:Ex:=(.mk 6 0 [(.mk 1 6 [])])
def da:Mc:=⟨[[-1,-1,-1,-1,-1,-1,1,-1],[-1,-1,-1,-1,-1,-1,-1,-1]],[true,true]⟩
theorem jH:OkSets (IH eH) (So eH) 2 where
 len:=by decide +kernel
 four:=by decide +kernel
 last:=by decide +kernel
 ll:=by decide +kernel
 fl:=by decide +kernel
 fb:=by decide +kernel
 rl:=by decide +kernel
 rows:=by decide +kernel
 go:=by decide +kernel
 many:=by decide +kernel
 fin:=by decide +kernel
 q:=by decide +kernel
 ql:=by decide +kernel
 to:=by decide +kernel
 tol:=by decide +kernel
theorem ji:MachOk kn eH da where
 parse:=by kernel_rfl
 make:=Bv eH (by decide +kernel) (by decide +kernel) 2 jH (by decide) (N:=[[-1,-1,-1,-1,-1,-1,1,-1],[-1,-1,-1,-1,-1,-1,-1,-1]]) (F:=[true,true]) (by decide +kernel) (by decide +kernel) ⟨by decide,by decide,by decide +kernel⟩ (C:=[0,1,-1]) (Ws:=[[],[6]]) (S:=[0,1]) (by decide +kernel) (by decide)
 sz:=by decide +kernel
 chk:=by decide +kernel
 rows:=by decide +kernel
 many:=by decide +kernel
 fin:=by decide +kernel
 pos:=by decide +kernel
 ty:=by decide +kernel
 to:=by decide +kernel
 tx:=by decide +kernel
def ko:List UInt8:=[103]
def iA:Ex:=(.mk 1 6 [])
def fv:Mc:=⟨[[-1,-1,-1,-1,-1,-1,1,-1],[-1,-1,-1,-1,-1,-1,-1,-1]],[false,true]⟩
theorem jI:OkSets (IH iA) (So iA) 2 where
 len:=by decide +kernel
 four:=by decide +kernel
 last:=by decide +kernel
 ll:=by decide +kernel
 fl:=by decide +kernel
 fb:=by decide +kernel
 rl:=by decide +kernel
 rows:=by decide +kernel
 go:=by decide +kernel
 many:=by decide +kernel
 fin:=by decide +kernel
 q:=by decide +kernel
 ql:=by decide +kernel
 to:=by decide +kernel
 tol:=by decide +kernel
theorem kO:MachOk ko iA fv where
 parse:=by kernel_rfl
 make:=Bv iA (by decide +kernel) (by decide +kernel) 2 jI (by decide) (N:=[[-1,-1,-1,-1,-1,-1,1,-1],[-1,-1,-1,-1,-1,-1,-1,-1]]) (F:=[false,true]) (by decide +kernel) (by decide +kernel) ⟨by decide,by decide,by decide +kernel⟩ (C:=[0,1,-1]) (Ws:=[[6],[]]) (S:=[0,1]) (by decide +kernel) (by decide)
 sz:=by decide +kernel
 chk:=by decide +kernel
 rows:=by decide +kernel
 many:=by decide +kernel
 fin:=by decide +kernel
 pos:=by decide +kernel
 ty:=by decide +kernel
 to:=by decide +kernel
 tx:=by decide +kernel
def kp:List UInt8:=[101,43]
def iB:Ex:=(.mk 5 0 [(.mk 1 4 [])])
def fw:Mc:=⟨[[-1,-1,-1,-1,1,-1,-1,-1],[-1,-1,-1,-1,1,-1,-1,-1]],[false,true]⟩
theorem jJ:OkSets (IH iB) (So iB) 2 where
 len:=by decide +kernel
 four:=by decide +kernel
 last:=by decide +kernel
 ll:=by decide +kernel
 fl:=by decide +kernel
 fb:=by decide +kernel
 rl:=by decide +kernel
 rows:=by decide +kernel
 go:=by decide +kernel
 many:=by decide +kernel
 fin:=by decide +kernel
 q:=by decide +kernel
 ql:=by decide +kernel
 to:=by decide +kernel
 tol:=by decide +kernel
theorem kq:MachOk kp iB fw where
 parse:=by kernel_rfl
 make:=Bv iB (by decide +kernel) (by decide +kernel) 2 jJ (by decide) (N:=[[-1,-1,-1,-1,1,-1,-1,-1],[-1,-1,-1,-1,1,-1,-1,-1]]) (F:=[false,true]) (by decide +kernel) (by decide +kernel) ⟨by decide,by decide,by decide +kernel⟩ (C:=[0,1,-1]) (Ws:=[[4],[]]) (S:=[0,1]) (by decide +kernel) (by decide)
 sz:=by decide +kernel
 chk:=by decide +kernel
 rows:=by decide +kernel
 many:=by decide +kernel
 fin:=by decide +kernel
 pos:=by decide +kernel
 ty:=by decide +kernel
 to:=by decide +kernel
 tx:=by decide +kernel
def ku:List UInt8:=[101,101,42]
def iC:Ex:=(.mk 2 0 [(.mk 1 4 []),(.mk 4 0 [(.mk 1 4 [])])])
def fx:Mc:=⟨[[-1,-1,-1,-1,1,-1,-1,-1],[-1,-1,-1,-1,1,-1,-1,-1]],[false,true]⟩
theorem jK:OkSets (IH iC) (So iC) 2 where
 len:=by decide +kernel
 four:=by decide +kernel
 last:=by decide +kernel
 ll:=by decide +kernel
 fl:=by decide +kernel
 fb:=by decide +kernel
 rl:=by decide +kernel
 rows:=by decide +kernel
 go:=by decide +kernel
 many:=by decide +kernel
 fin:=by decide +kernel
 q:=by decide +kernel
 ql:=by decide +kernel
 to:=by decide +kernel
 tol:=by decide +kernel
theorem kv:MachOk ku iC fx where
 parse:=by kernel_rfl
 make:=Bv iC (by decide +kernel) (by decide +kernel) 2 jK (by decide) (N:=[[-1,-1,-1,-1,1,-1,-1,-1],[-1,-1,-1,-1,1,-1,-1,-1]]) (F:=[false,true]) (by decide +kernel) (by decide +kernel) ⟨by decide,by decide,by decide +kernel⟩ (C:=[0,1,-1]) (Ws:=[[4],[]]) (S:=[0,1]) (by decide +kernel) (by decide)
 sz:=by decide +kernel
 chk:=by decide +kernel
 rows:=by decide +kernel
 many:=by decide +kernel
 fin:=by decide +kernel
 pos:=by decide +kernel
 ty:=by decide +kernel
 to:=by decide +kernel
 tx:=by decide +kernel
def j7:List UInt8:=[101,42]
def Xj:Ex:=(.mk 4 0 [(.mk 1 4 [])])
def UG:Mc:=⟨[[-1,-1,-1,-1,0,-1,-1,-1]],[true]⟩
theorem fy:OkSets (IH Xj) (So Xj) 1 where
 len:=by decide +kernel
 four:=by decide +kernel
 last:=by decide +kernel
 ll:=by decide +kernel
 fl:=by decide +kernel
 fb:=by decide +kernel
 rl:=by decide +kernel
 rows:=by decide +kernel
 go:=by decide +kernel
 many:=by decide +kernel
 fin:=by decide +kernel
 q:=by decide +kernel
 ql:=by decide +kernel
 to:=by decide +kernel
 tol:=by decide +kernel
theorem j8:MachOk j7 Xj UG where
 parse:=by kernel_rfl
 make:=Bv Xj (by decide +kernel) (by decide +kernel) 1 fy (by decide) (N:=[[-1,-1,-1,-1,0,-1,-1,-1]]) (F:=[true]) (by decide +kernel) (by decide +kernel) ⟨by decide,by decide,by decide +kernel⟩ (C:=[0,-1]) (Ws:=[[]]) (S:=[0]) (by decide +kernel) (by decide)
 sz:=by decide +kernel
 chk:=by decide +kernel
 rows:=by decide +kernel
 many:=by decide +kernel
 fin:=by decide +kernel
 pos:=by decide +kernel
 ty:=by decide +kernel
 to:=by decide +kernel
 tx:=by decide +kernel
def j9:List UInt8:=[98,43]
def Xk:Ex:=(.mk 5 0 [(.mk 1 1 [])])
def UH:Mc:=⟨[[-1,1,-1,-1,-1,-1,-1,-1],[-1,1,-1,-1,-1,-1,-1,-1]],[false,true]⟩
theorem f0:OkSets (IH Xk) (So Xk) 2 where
 len:=by decide +kernel
 four:=by decide +kernel
 last:=by decide +kernel
 ll:=by decide +kernel
 fl:=by decide +kernel
 fb:=by decide +kernel
 rl:=by decide +kernel
 rows:=by decide +kernel
 go:=by decide +kernel
 many:=by decide +kernel
 fin:=by decide +kernel
 q:=by decide +kernel
 ql:=by decide +kernel
 to:=by decide +kernel
 tol:=by decide +kernel
theorem kC:MachOk j9 Xk UH where
 parse:=by kernel_rfl
 make:=Bv Xk (by decide +kernel) (by decide +kernel) 2 f0 (by decide) (N:=[[-1,1,-1,-1,-1,-1,-1,-1],[-1,1,-1,-1,-1,-1,-1,-1]]) (F:=[false,true]) (by decide +kernel) (by decide +kernel) ⟨by decide,by decide,by decide +kernel⟩ (C:=[0,1,-1]) (Ws:=[[1],[]]) (S:=[0,1]) (by decide +kernel) (by decide)
 sz:=by decide +kernel
 chk:=by decide +kernel
 rows:=by decide +kernel
 many:=by decide +kernel
 fin:=by decide +kernel
 pos:=by decide +kernel
 ty:=by decide +kernel
 to:=by decide +kernel
 tx:=by decide +kernel
def kD:List UInt8:=[]
def aj:Ex:=(.mk 2 0 [])
def Kg:Mc:=⟨[[-1,-1,-1,-1,-1,-1,-1,-1]],[true]⟩
theorem f3:OkSets (IH aj) (So aj) 1 where
 len:=by decide +kernel
 four:=by decide +kernel
 last:=by decide +kernel
 ll:=by decide +kernel
 fl:=by decide +kernel
 fb:=by decide +kernel
 rl:=by decide +kernel
 rows:=by decide +kernel
 go:=by decide +kernel
 many:=by decide +kernel
 fin:=by decide +kernel
 q:=by decide +kernel
 ql:=by decide +kernel
 to:=by decide +kernel
 tol:=by decide +kernel
theorem kE:MachOk kD aj Kg where
 parse:=by kernel_rfl
 make:=Bv aj (by decide +kernel) (by decide +kernel) 1 f3 (by decide) (N:=[[-1,-1,-1,-1,-1,-1,-1,-1]]) (F:=[true]) (by decide +kernel) (by decide +kernel) ⟨by decide,by decide,by decide +kernel⟩ (C:=[0,-1]) (Ws:=[[]]) (S:=[0]) (by decide +kernel) (by decide)
 sz:=by decide +kernel
 chk:=by decide +kernel
 rows:=by decide +kernel
 many:=by decide +kernel
 fin:=by decide +kernel
 pos:=by decide +kernel
 ty:=by decide +kernel
 to:=by decide +kernel
 tx:=by decide +kernel
def O7 (Z:List Int) (N:List (List Int)):Nat→List Int→Option (List Int)
 | 0,_=>none
 | f+1,out=>match Sa Z N N.length out with
   | (o,true)=>O7 Z N f o
   | (o,false)=>some o
theorem KY (Z:List Int) (N:List (List Int)) (out:List Int):∀k,LN Z N (k+2) out=LN Z N (k+1) (Sa Z N N.length out).1
 | 0=>rfl
 | k+1=>by
   rw [LN,KY Z N out k]
   rfl
theorem SO (Z:List Int) (N:List (List Int)):∀(f:Nat) (out y:List Int),O7 Z N f out=some y→∃R,1≤R∧R≤f∧LN Z N R out=(y,false)∧∀k,k < R→(LN Z N k out).2=true
 | 0,out,y,h=>by simp [O7] at h
 | f+1,out,y,h=>by
   unfold O7 at h
   split at h
   ·rename_i o he
    obtain ⟨R,h1,h2,h3,h4⟩:=SO Z N f o y h
    obtain ⟨R',rfl⟩:∃R',R=R'+1:=⟨R - 1,by omega⟩
    have hs:=KY Z N out R'
    rw [he] at hs
    refine ⟨R'+2,by omega,by omega,hs.trans h3,fun k hk=>?_⟩
    match k,hk with
    | 0,_=>rfl
    | 1,_=>
      show (Sa Z N N.length (LN Z N 0 out).1).2=true
      show (Sa Z N N.length out).2=true
      rw [he]
    | k+2,hk=>
      rw [KY Z N out k,he]
      exact h4 (k+1) (by omega)
   ·rename_i o he
    simp only [Option.some.injEq] at h
    subst h
    refine ⟨1,Nat.le_refl _,by omega,?_,fun k hk=>?_⟩
    ·show Sa Z N N.length out=_
     exact he
    ·obtain rfl:k=0:=by omega
     rfl
def j5 (Z:List Int):Bool:=Z.all fun z=>decide (0≤z)&&decide (z≤1000000)
def O8 (n:Nat) (m:Mc):Bool:=
 (m.N.all fun r=>decide (r.length=8)&&(r.all fun x=>decide (-1≤x)&&decide (x < m.N.length))&&(List.range 8).all fun k=>decide (k < n) || decide (r.getD k (-1) < 0))&&
  decide (m.F.length=m.N.length)&&decide (1≤m.N.length)&&decide (m.N.length≤40)
theorem UA {p:Nat→Bool} {R:Nat} (hR:R < 101) (h:p R=true) (hk:∀k,k < R→p k=false):(List.range 101).find? p=some R:=by
 rw [List.find?_eq_some_iff_getElem]
 refine ⟨h,R,by simpa using hR,by simp,fun j hj=>?_⟩
 simp [hk j hj]
theorem fY {Z:List Int} {m:Mc} {y:List Int} (hz:j5 Z=true) (hs:O8 Z.length m=true) (h:O7 Z m.N 50 (EC m.F m.F.length)=some y):NK Z m=true∧O5 Z m=y:=by
 obtain ⟨R,h1,h2,h3,h4⟩:=SO Z m.N 50 _ y h
 have hr:rR Z m=R:=by
  unfold rR
  rw [UA (R:=R) (by omega) (by rw [h3];rfl) (fun k hk=>by rw [h4 k hk];rfl)]
  rfl
 refine ⟨?_,by unfold O5;rw [hr,h3]⟩
 unfold NK
 unfold O8 at hs
 unfold j5 at hz
 simp only [Bool.and_eq_true] at hs
 obtain ⟨⟨⟨s1,s2⟩,s3⟩,s4⟩:=hs
 rw [hr,hz,s1,s2,s3,s4,h3]
 simp only [Bool.true_and,Bool.and_eq_true,decide_eq_true_eq,List.all_eq_true,List.mem_range]
 exact ⟨⟨rfl,by omega⟩,h4⟩
abbrev LM:=List (Bool×Mc)
def O9:Bool×Mc:=(false,⟨[],[]⟩)
def aQ (L:LM):Nat→List Int→Option (List Int×Bool)
 | 0,Z=>some (Z,false)
 | i+1,Z=>match aQ L i Z with
   | none=>none
   | some s=>match j5 s.1 with
     | false=>none
     | true=>match O7 s.1 (L.getD i O9).2.N 50 (EC (L.getD i O9).2.F (L.getD i O9).2.F.length) with
       | none=>none
       | some y=>match y.all fun x=>decide (x≤1000000) with
         | false=>none
         | true=>some (if (L.getD i O9).1=true∧y.getD 0 0 < 0 then s else
            if s.1.getD i 0=0∨(if (L.getD i O9).1 then 1+y.getD 0 0 else 1) < s.1.getD i 0 then (s.1.set i (if (L.getD i O9).1 then 1+y.getD 0 0 else 1),true) else s)
theorem QW (L:LM) (Z:List Int) (hL:∀i,i < L.length→O8 Z.length (L.getD i O9).2=true):∀(i:Nat) (s:List Int×Bool),i≤L.length→aQ L i Z=some s→Jk L i Z=s∧∀j,j < i→NK (Jk L j Z).1 (L.getD j O9).2=true∧∀x∈O5 (Jk L j Z).1 (L.getD j O9).2,x≤1000000
 | 0,s,_,h=>by
   simp only [aQ,Option.some.injEq] at h
   exact ⟨h,fun j hj=>by omega⟩
 | i+1,s,hi,h=>by
   unfold aQ at h
   split at h
   ·cases h
   ·rename_i s0 h0
    obtain ⟨e0,hj0⟩:=QW L Z hL i s0 (by omega) h0
    split at h
    ·cases h
    ·rename_i hst
     split at h
     ·cases h
     ·rename_i y hy
      split at h
      ·cases h
      ·rename_i hall
       simp only [Option.some.injEq] at h
       obtain ⟨g1,g2⟩:=fY hst (by rw [←e0,Jl];exact hL i (by omega)) hy
       refine ⟨?_,fun j hj=>?_⟩
       ·rw [Jk,e0]
        unfold gf
        show (if (L.getD i O9).1=true∧(O5 s0.1 (L.getD i O9).2).getD 0 0 < 0 then s0 else if s0.1.getD i 0=0∨(if (L.getD i O9).1 then 1+(O5 s0.1 (L.getD i O9).2).getD 0 0 else 1) < s0.1.getD i 0 then (s0.1.set i (if (L.getD i O9).1 then 1+(O5 s0.1 (L.getD i O9).2).getD 0 0 else 1),true) else s0)=s
        rw [g2]
        exact h
       ·by_cases e:j=i
        ·subst e
         rw [e0]
         refine ⟨g1,fun x hx=>?_⟩
         rw [g2] at hx
         exact of_decide_eq_true (List.all_eq_true.1 hall x hx)
        ·exact hj0 j (by omega)
def aR (L:LM):Nat→List Int→Option (List Int)
 | 0,_=>none
 | f+1,Z=>match aQ L L.length Z with
   | none=>none
   | some (o,true)=>aR L f o
   | some (o,false)=>some o
theorem H7 (L:LM) (out:List Int):∀k,H3 L (k+2) out=H3 L (k+1) (Jk L L.length out).1
 | 0=>rfl
 | k+1=>by
   rw [H3,H7 L out k]
   rfl
theorem Vt (L:LM):∀(f:Nat) (out y:List Int) (hL:∀i,i < L.length→O8 out.length (L.getD i O9).2=true),aR L f out=some y→∃R,1≤R∧R≤f∧H3 L R out=(y,false)∧(∀k,k < R→(H3 L k out).2=true)∧
 ∀k,k < R→∀i,i < L.length→NK (Jk L i (H3 L k out).1).1 (L.getD i O9).2=true∧∀x∈O5 (Jk L i (H3 L k out).1).1 (L.getD i O9).2,x≤1000000
 | 0,out,y,_,h=>by simp [aR] at h
 | f+1,out,y,hL,h=>by
   unfold aR at h
   split at h
   ·cases h
   ·rename_i o he
    obtain ⟨e1,e2⟩:=QW L out hL L.length _ (Nat.le_refl _) he
    obtain ⟨R,h1,h2,h3,h4,h5⟩:=Vt L f o y (by rw [show o=(Jk L L.length out).1 by rw [e1],Jl];exact hL) h
    obtain ⟨R',rfl⟩:∃R',R=R'+1:=⟨R - 1,by omega⟩
    have hs:=H7 L out R'
    rw [e1] at hs
    refine ⟨R'+2,by omega,by omega,hs.trans h3,fun k hk=>?_,fun k hk i hi=>?_⟩
    ·match k,hk with
     | 0,_=>rfl
     | 1,_=>
       show (Jk L L.length out).2=true
       rw [e1]
     | k+2,hk=>
       rw [H7 L out k,e1]
       exact h4 (k+1) (by omega)
    ·match k,hk with
     | 0,_=>exact e2 i hi
     | 1,_=>
       have:=h5 0 (by omega) i hi
       show NK (Jk L i (Jk L L.length out).1).1 _=true∧∀x∈O5 (Jk L i (Jk L L.length out).1).1 _,_
       rw [e1]
       exact this
     | k+2,hk=>
       rw [H7 L out k,e1]
       exact h5 (k+1) (by omega) i hi
   ·rename_i o he
    simp only [Option.some.injEq] at h
    subst h
    obtain ⟨e1,e2⟩:=QW L out hL L.length _ (Nat.le_refl _) he
    refine ⟨1,Nat.le_refl _,by omega,?_,fun k hk=>?_,fun k hk i hi=>?_⟩
    ·show Jk L L.length out=_
     exact e1
    ·obtain rfl:k=0:=by omega
     rfl
    ·obtain rfl:k=0:=by omega
     exact e2 i hi
def X1 (t:List UInt8) (k:Nat):Nat:=(t.getD k 0).toNat
def jq (t:List UInt8) (k:Nat):Bool:=decide (k < t.length)&&X1 t k / 64==2
def Xx (A B C D:Nat) (c1 c2 c3:Bool):Nat×Nat:=
 if A < 0x80 then (A,1)
 else if A / 32==6&&c1 then
  (if (A % 32)*64+B % 64≥0x80 then ((A % 32)*64+B % 64,2) else (65533,1))
 else if A / 16==14&&c1&&c2 then
  (if (A % 16)*4096+(B % 64)*64+C % 64≥0x800&&Utf8.valid ((A % 16)*4096+(B % 64)*64+C % 64:Nat) then ((A % 16)*4096+(B % 64)*64+C % 64,3) else (65533,1))
 else if A / 8==30&&c1&&c2&&c3 then
  (if (A % 8)*262144+(B % 64)*4096+(C % 64)*64+D % 64≥0x10000&&Utf8.valid ((A % 8)*262144+(B % 64)*4096+(C % 64)*64+D % 64:Nat) then ((A % 8)*262144+(B % 64)*4096+(C % 64)*64+D % 64,4) else (65533,1))
 else (65533,1)
def GO (t:List UInt8):Nat×Nat:=Xx (X1 t 0) (X1 t 1) (X1 t 2) (X1 t 3) (jq t 1) (jq t 2) (jq t 3)
theorem gS (s:List UInt8) (pos k:Nat):((⟨s.toArray⟩:ByteArray).get! (pos+k)).toNat=X1 (s.drop pos) k:=by
 show (s.toArray[pos+k]!).toNat=_
 unfold X1
 simp [List.getD,List.getElem?_drop]
 rfl
theorem jW (s:List UInt8) (pos k:Nat):decide (pos+k < (⟨s.toArray⟩:ByteArray).size)=decide (k < (s.drop pos).length):=by
 have:(⟨s.toArray⟩:ByteArray).size=s.length:=by simp [ByteArray.size]
 rw [this,List.length_drop]
 exact decide_eq_decide.2 (by omega)
theorem Uu (s:List UInt8) (pos:Nat):YV s pos=GO (s.drop pos):=by
 unfold YV Utf8.decode GO Xx jq
 simp only [gS,jW,Utf8.runeError]
theorem jX (t:List UInt8) (k:Nat):X1 t k < 256:=by unfold X1;exact (t.getD k 0).toNat_lt
theorem Ju (t:List UInt8):(GO t).1≤2097151∧1≤(GO t).2∧(GO t).2≤4:=by
 have h0:=jX t 0
 unfold GO Xx
 repeat' split
 all_goals (refine ⟨?_,?_,?_⟩<;>simp only<;>omega)
def F1 (t:List UInt8):List Nat:=if h:t=[] then [] else (GO t).1::F1 (t.drop (GO t).2)
termination_by t.length
decreasing_by
 have:=(Ju t).2.1
 have:0 < t.length:=List.length_pos_iff.2 h
 simp only [List.length_drop];omega
theorem Gs:F1 []=[]:=by rw [F1];simp
theorem K9 {t:List UInt8} (h:t≠[]):F1 t=(GO t).1::F1 (t.drop (GO t).2):=by rw [F1];simp [h]
section
variable {A B C D:Nat} {c1 c2 c3:Bool}
theorem gU (h:A < 128):Xx A B C D c1 c2 c3=(A,1):=if_pos h
end
def Ja (p:Nat→Bool) (pos:Nat) (t:List UInt8):Int:=if h:t=[] then -1 else if p (GO t).1 then pos else Ja p (pos+(GO t).2) (t.drop (GO t).2)
termination_by t.length
decreasing_by
 have:=(Ju t).2.1
 have:0 < t.length:=List.length_pos_iff.2 h
 simp only [List.length_drop];omega
theorem Mt (p:Nat→Bool) (pos:Nat):Ja p pos []= -1:=by rw [Ja];simp
theorem Ou (p:Nat→Bool) (pos:Nat) {t:List UInt8} (h:t≠[]):Ja p pos t=if p (GO t).1 then (pos:Int) else Ja p (pos+(GO t).2) (t.drop (GO t).2):=by
 rw [Ja];simp [h]
theorem Zg (p:Nat→Bool) (n:Nat):∀(pos:Nat) (t:List UInt8),t.length≤n→decide (0≤Ja p pos t)=(F1 t).any p:=by
 induction n with
 | zero=>intro pos t ht;rw [List.length_eq_zero_iff.1 (Nat.le_zero.1 ht),Mt,Gs];rfl
 | succ n ih=>
   intro pos t ht
   by_cases h:t=[]
   ·rw [h,Mt,Gs];rfl
   ·have h1:=(Ju t).2.1
    have h3:0 < t.length:=List.length_pos_iff.2 h
    rw [Ou p pos h,K9 h,List.any_cons]
    by_cases hp:p (GO t).1=true
    ·rw [if_pos hp,hp,Bool.true_or];exact decide_eq_true (by omega)
    ·rw [if_neg hp,ih _ _ (by rw [List.length_drop];omega)]
     simp only [Bool.not_eq_true] at hp
     rw [hp,Bool.false_or]
theorem cv (p:Nat→Bool) {s:List UInt8} {pos:Nat} (h:pos < s.length):Ja p pos (s.drop pos)=if p (YV s pos).1 then (pos:Int) else Ja p (pos+(YV s pos).2) (s.drop (pos+(YV s pos).2)):=by
 rw [Ou p pos (fun e=>by have:=congrArg List.length e;simp at this;omega),Uu,List.drop_drop]
theorem Tl (s:List UInt8) (h:FuncId) (caps:List V) (p:Nat→Bool) (hb:AB Tryz.prog h=true) (hc:Fa caps=true) (hp:∀n:Nat,Fn1 Tryz.prog h (.int .i32 (n:Int)::caps) (fun r=>r= .bool (p n))):
 Fn1 Tryz.prog 100 [.str s,.fn h caps,.bool true] (fun r=>r= .int .i64 (Ja p 0 s)):=by
 refine Ax Tryz.func100 fun C hC hE=>?_
 conv=>whnf
 refine Ab (fun pos:Nat=>⟨21,[(1,.fn h caps),(2,.bool true),(10,.it 0)],[some (.iter s pos)]⟩) (fun pos=>Ja p pos (s.drop pos)=Ja p 0 s) (fun pos=>s.length+4 - pos) 0 hE ?_ rfl ?_
 ·exact AP [1,2,10] rfl
 intro pos hpos
 by_cases hlt:pos < s.length
 ·have hat:=cv p hlt
  have hd:=(Ju (s.drop pos)).2.1
  rw [←Uu] at hd
  have hd2:=(Ju (s.drop pos)).2.2
  rw [←Uu] at hd2
  have hpn:=hp (YV s pos).1
  conv=>whnf
  repeat' (first|refine A2 ?_|(refine CX hpn hC hb ?_ ?_ ?_;kernel_rfl;exact GG (by kernel_rfl) hc)|refine br (fun h=>?_) (fun h=>?_)|refine AC hE ?_)<;>conv=>whnf
  ·exact ⟨rfl,by rw [←hpos,hat,if_pos (by assumption)]⟩
  ·refine AD [1,2,10] (pos+(YV s pos).2) ?_ (by omega) rfl
   rw [←hpos,hat,if_neg (by simp only [Bool.not_eq_true];assumption)]
 ·have he:Ja p 0 s= -1:=by rw [←hpos,List.drop_of_length_le (by omega),Mt]
  conv=>whnf
  repeat' (first|refine A1 ?_|refine AC hE ?_)<;>conv=>whnf
  exact ⟨rfl,by rw [he]⟩
theorem Wy (s:List UInt8) (h:FuncId) (caps:List V) (p:Nat→Bool) (hb:AB Tryz.prog h=true) (hc:Fa caps=true) (hp:∀n:Nat,Fn1 Tryz.prog h (.int .i32 (n:Int)::caps) (fun r=>r= .bool (p n))):
 Fn1 Tryz.prog 86 [.str s,.fn h caps] (fun r=>r= .int .i64 (Ja p 0 s)):=by
 refine Ax Tryz.func86 fun C hC hE=>?_
 conv=>whnf
 repeat' (first|(refine CX (Tl s h caps p hb hc hp) hC Sj ?_ ?_ ?_;kernel_rfl;(simp [Fa,d2,hc]))|refine AC hE ?_)<;>conv=>whnf
 exact ⟨rfl,rfl⟩
theorem Rs (s:List UInt8) (h:FuncId) (caps:List V) (p:Nat→Bool) (hb:AB Tryz.prog h=true) (hc:Fa caps=true) (hp:∀n:Nat,Fn1 Tryz.prog h (.int .i32 (n:Int)::caps) (fun r=>r= .bool (p n))):
 Fn1 Tryz.prog 62 [.str s,.fn h caps] (fun r=>r= .bool ((F1 s).any p)):=by
 have ha:=Zg p _ 0 s (Nat.le_refl _)
 refine Ax Tryz.func62 fun C hC hE=>?_
 conv=>whnf
 repeat' (first|(refine CX (Wy s h caps p hb hc hp) hC Uo ?_ ?_ ?_;kernel_rfl;exact KA rfl hc)|refine GV (fun h=>?_) (fun h=>?_)|refine AC hE ?_)<;>conv=>whnf
 all_goals exact ⟨rfl,by rw [←ha];congr 1;first|exact (decide_eq_true (by assumption)).symm|exact (decide_eq_false (by assumption)).symm⟩
def Mu (n:Nat):Bool:=decide (97≤n)&&decide (n≤122)
def Vb (n:Nat):Bool:=decide (48≤n)&&decide (n≤57)
def Mv (n:Nat):Bool:=!(Mu n || Vb n || decide (n=45))
def FP (s:List UInt8):Bool:=decide (1≤s.length)&&decide (s.length≤12)&&Mu (X1 s 0)&&!(s.any fun c=>Mv c.toNat)
theorem cw {A B C D:Nat} {c1 c2 c3:Bool} (h:¬A < 128):128≤(Xx A B C D c1 c2 c3).1:=by
 unfold Xx
 rw [if_neg h]
 repeat' split
 all_goals first|(simp only [Bool.and_eq_true,decide_eq_true_eq,ge_iff_le] at *;omega)|(show 128≤65533;decide)
theorem Wz (n:Nat):∀s:List UInt8,s.length≤n→(F1 s).any Mv=s.any fun c=>Mv c.toNat:=by
 induction n with
 | zero=>intro s hs;rw [List.length_eq_zero_iff.1 (Nat.le_zero.1 hs),Gs];rfl
 | succ n ih=>
   intro s hs
   match s with
   | []=>rw [Gs];rfl
   | c::t=>
     rw [K9 (by simp),List.any_cons,List.any_cons]
     by_cases hc:c.toNat < 128
     ·have:GO (c::t)=(c.toNat,1):=gU hc
      rw [this]
      simp only [List.drop_succ_cons,List.drop_zero]
      rw [ih t (by simp only [List.length_cons] at hs;omega)]
     ·have h1:128≤(GO (c::t)).1:=cw hc
      have b1:Mv (GO (c::t)).1=true:=by unfold Mv Mu Vb;simp;omega
      have b2:Mv c.toNat=true:=by unfold Mv Mu Vb;simp;omega
      rw [b1,b2,Bool.true_or,Bool.true_or]
theorem iR (n:Nat):Fn1 Tryz.prog 63 [.int .i32 (n:Int)] (fun r=>r= .bool (Mv n)):=by
 refine Ax Tryz.func63 fun C hC hE=>?_
 conv=>whnf
 repeat' (first|refine A2 ?_|refine A1 ?_|refine GV (fun h=>?_) (fun h=>?_)|refine AC hE ?_)<;>conv=>whnf
 all_goals (refine ⟨rfl,?_⟩;congr 1;unfold Mv Mu Vb;rw [eq_comm];simp;omega)
theorem cx {s:List UInt8} {c:UInt8} (h:s[0]?=some c):X1 s 0=c.toNat:=by unfold X1;simp [List.getD,h]
theorem W4 (s:List UInt8) (c:UInt8) (hc:s[0]?=some c):FP s=(decide (s.length≤12)&&Mu c.toNat&&!((F1 s).any Mv)):=by
 have h1:1≤s.length:=by have:=(List.getElem?_eq_some_iff.1 hc).1;omega
 unfold FP
 rw [cx hc,Wz _ s (Nat.le_refl _),decide_eq_true h1,Bool.true_and]
theorem Ov (s:List UInt8):Fn1 Tryz.prog 30 [.str s] (fun r=>r= .bool (FP s)):=by
 by_cases h0:s=[]
 ·refine Ax Tryz.func30 fun C hC hE=>?_
  conv=>whnf
  repeat' (first|refine A2 ?_|refine AC hE ?_)<;>conv=>whnf
  exact ⟨rfl,by rw [h0];rfl⟩
 ·obtain ⟨c,hc⟩:∃c,s[0]?=some c:=⟨_,List.getElem?_eq_getElem (List.length_pos_iff.2 h0)⟩
  have hk:=W4 s c hc
  refine Ax Tryz.func30 fun C hC hE=>?_
  conv=>whnf
  repeat' (first|refine A1 ?_|refine AO ?_|refine Ad ?_|refine AN (Rs s 63 [] Mv Ue rfl iR) hC Ud ?_|refine GV (fun h=>?_) (fun h=>?_)|refine br (fun h=>?_) (fun h=>?_)|refine AC hE ?_|intro hlen)<;>conv=>whnf
  all_goals (refine ⟨rfl,?_⟩;rw [hk];unfold Mu;congr 1;rw [eq_comm];simp_all;try omega)
theorem QJ (l:List (List UInt8)) (h:FuncId) (caps:List V) (p:(List UInt8)→Bool) (hb:AB Tryz.prog h=true) (hc:Fa caps=true) (hp:∀a∈l,Fn1 Tryz.prog h (V.str a::caps) (fun r=>r= .bool (p a))):
 Fn1 Tryz.prog 87 [.lst (l.map V.str),.fn h caps] (fun r=>r= .int .i64 (GH p l)):=by
 refine Ax Tryz.func87 fun C hC hE=>?_
 conv=>whnf
 intro hl
 conv=>whnf
 refine Ab (fun k:Nat=>⟨19,[(0,.lst (l.map V.str)),(1,.fn h caps),(7,.int .i64 (l.map V.str).length),(8,.int .i64 k)],[]⟩) (fun k=>k≤l.length∧∀j < k,∀x,l[j]?=some x→p x=false) (fun k=>l.length - k) 0 hE ?_ ?_ ?_
 ·exact AP [0,1,7,8] rfl
 ·exact ⟨Nat.zero_le _,fun j hj=>by omega⟩
 intro k hkj
 obtain ⟨hk,hj⟩:=hkj
 have hlm:(l.map V.str).length=l.length:=by simp
 by_cases hlt:k < l.length
 ·obtain ⟨x,hx⟩:∃x,l[k]?=some x:=⟨_,List.getElem?_eq_getElem hlt⟩
  have hpx:=hp x (List.mem_of_getElem? hx)
  conv=>whnf
  repeat' (first|refine A2 ?_|refine AO ?_|refine AV ?_|refine Hk ?_|(refine CX hpx hC hb ?_ ?_ ?_;kernel_rfl;exact GG (by kernel_rfl) hc)|refine br (fun h=>?_) (fun h=>?_)|refine AC hE ?_)<;>conv=>whnf
  ·exact ⟨rfl,by rw [D7 hx (by assumption) hj]⟩
  ·refine AD [0,1,7,8] (k+1) ⟨hlt,?_⟩ (by omega) rfl
   intro j hjk y hy
   by_cases e:j=k
   ·subst e;rw [hx] at hy;cases hy;assumption
   ·exact hj j (by omega) y hy
 ·conv=>whnf
  repeat' (first|refine A1 ?_|refine AC hE ?_)<;>conv=>whnf
  exact ⟨rfl,by rw [DW (fun x hx=>by obtain ⟨j,hj'⟩:=List.mem_iff_getElem?.1 hx;exact hj j (by have:=(List.getElem?_eq_some_iff.1 hj').1;omega) x hj')]⟩
theorem LH (l:List (List UInt8)) (h:FuncId) (caps:List V) (p:(List UInt8)→Bool) (hb:AB Tryz.prog h=true) (hc:Fa caps=true) (hp:∀a∈l,Fn1 Tryz.prog h (V.str a::caps) (fun r=>r= .bool (p a))):
 Fn1 Tryz.prog 65 [.lst (l.map V.str),.fn h caps] (fun r=>r= .bool (l.any p)):=by
 have hi:=QJ l h caps p hb hc hp
 have ha:=D8 p l
 refine Ax Tryz.func65 fun C hC hE=>?_
 conv=>whnf
 repeat' (first|(refine CX hi hC Uq ?_ ?_ ?_;kernel_rfl;exact KA rfl hc)|refine GV (fun h=>?_) (fun h=>?_)|refine AC hE ?_)<;>conv=>whnf
 all_goals exact ⟨rfl,by rw [←ha];congr 1;first|exact (decide_eq_true (by assumption)).symm|exact (decide_eq_false (by assumption)).symm⟩
theorem XH (l:List (List UInt8)) (q:List UInt8):Fn1 Tryz.prog 88 [.lst (l.map V.str),.str q] (fun r=>r= .int .i64 (GH (fun x=>decide (q=x)) l)):=by
 refine Ax Tryz.func88 fun C hC hE=>?_
 conv=>whnf
 intro hl
 conv=>whnf
 refine Ab (fun k:Nat=>⟨19,[(0,.lst (l.map V.str)),(1,.str q),(7,.int .i64 (l.map V.str).length),(8,.int .i64 k)],[]⟩) (fun k=>k≤l.length∧∀j < k,∀x,l[j]?=some x→decide (q=x)=false) (fun k=>l.length - k) 0 hE ?_ ?_ ?_
 ·exact AP [0,1,7,8] rfl
 ·exact ⟨Nat.zero_le _,fun j hj=>by omega⟩
 intro k hkj
 obtain ⟨hk,hj⟩:=hkj
 have hlm:(l.map V.str).length=l.length:=by simp
 by_cases hlt:k < l.length
 ·obtain ⟨x,hx⟩:∃x,l[k]?=some x:=⟨_,List.getElem?_eq_getElem hlt⟩
  conv=>whnf
  repeat' (first|refine A2 ?_|refine AO ?_|refine AV ?_|refine Hk ?_|refine GV (fun h=>?_) (fun h=>?_)|refine AC hE ?_)<;>conv=>whnf
  ·exact ⟨rfl,by rw [D7 hx (decide_eq_true (by assumption)) hj]⟩
  ·refine AD [0,1,7,8] (k+1) ⟨hlt,?_⟩ (by omega) rfl
   intro j hjk y hy
   by_cases e:j=k
   ·subst e;rw [hx] at hy;cases hy;exact decide_eq_false (by assumption)
   ·exact hj j (by omega) y hy
 ·conv=>whnf
  repeat' (first|refine A1 ?_|refine AC hE ?_)<;>conv=>whnf
  exact ⟨rfl,by rw [DW (fun x hx=>by obtain ⟨j,hj'⟩:=List.mem_iff_getElem?.1 hx;exact hj j (by have:=(List.getElem?_eq_some_iff.1 hj').1;omega) x hj')]⟩
theorem QK (l:List (List UInt8)) (q:List UInt8):Fn1 Tryz.prog 67 [.lst (l.map V.str),.str q] (fun r=>r= .bool (decide (q∈l))):=by
 have ha:=D8 (fun x=>decide (q=x)) l
 have hb:decide (q∈l)=l.any (fun x=>decide (q=x)):=by rw [Bool.eq_iff_iff];simp
 refine Ax Tryz.func67 fun C hC hE=>?_
 conv=>whnf
 repeat' (first|refine AN (XH _ _) hC Ur ?_|refine GV (fun h=>?_) (fun h=>?_)|refine AC hE ?_)<;>conv=>whnf
 all_goals exact ⟨rfl,by rw [hb,←ha];congr 1;first|exact (decide_eq_true (by assumption)).symm|exact (decide_eq_false (by assumption)).symm⟩
theorem Tz (l:List (List UInt8)):∀y∈l.map V.str,y.cells.length=1:=fun y hy=>by
 obtain ⟨x,_,rfl⟩:=List.mem_map.1 hy
 rfl
theorem fQ (s:List UInt8):Fn1 Tryz.prog 66 [.str s] (fun r=>r= .bool (!FP s)):=by
 refine Ax Tryz.func66 fun C hC hE=>?_
 conv=>whnf
 cases h:FP s
 all_goals
  have hn:=Ov s
  rw [h] at hn
  repeat' (first|refine AN hn hC NZ ?_|refine AC hE ?_)<;>conv=>whnf
 all_goals exact ⟨rfl,rfl⟩
set_option maxHeartbeats 8000000 in
theorem T1 (l:List (List UInt8)) (hl:l.length≤4) (hn:∀s∈l,FP s=true) (hd:l.Nodup):Fn1 Tryz.prog 34 [.lst (l.map V.str)] (fun r=>r= .int .i64 0):=by
 have hlm:(l.map V.str).length=l.length:=by simp
 have hcf:=LH l 66 [] (fun s=>!FP s) (by kernel_rfl) rfl (fun s _=>fQ s)
 have h0:(l.any fun s=>!FP s)=false:=by
  rw [List.any_eq_false]
  intro s hs
  rw [hn s hs]
  simp
 rw [h0] at hcf
 refine Ax Tryz.func34 fun C hC hE=>?_
 conv=>whnf
 repeat' (first|refine A1 ?_|refine AN hcf hC Ug ?_|intro hlen)<;>conv=>whnf
 refine Ab (fun i:Nat=>⟨23,[(0,.lst (l.map V.str)),(10,.lst (l.map V.str)),(11,.int .i64 (l.map V.str).length),(12,.int .i64 i)],[]⟩) (fun i=>i≤l.length) (fun i=>l.length - i) 0 hE ?_ (Nat.zero_le _) ?_
 ·exact AP [0,10,11,12] rfl
 intro i hi
 by_cases hlt:i < l.length
 ·obtain ⟨x,hx⟩:∃x,l[i]?=some x:=⟨_,List.getElem?_eq_getElem hlt⟩
  have gx:(l.map V.str)[i]?=some (.str x):=by rw [List.getElem?_map,hx];rfl
  have hcs:=QK (l.take i) x
  have hno:decide (x∈l.take i)=false:=by
   refine decide_eq_false fun hm=>?_
   obtain ⟨j,hj⟩:=List.mem_iff_getElem?.1 hm
   rw [List.getElem?_take] at hj
   split at hj
   ·rename_i hji
    have hjl:=(List.getElem?_eq_some_iff.1 hj).1
    have e1:=(List.getElem?_eq_some_iff.1 hj).2
    have e2:=(List.getElem?_eq_some_iff.1 hx).2
    have:=(List.getElem_inj hd).1 (e1.trans e2.symm)
    omega
   ·cases hj
  rw [hno,List.map_take] at hcs
  conv=>whnf
  repeat' (first|refine A2 ?_|refine AO ?_|refine AV ?_|refine Ad ?_|refine ⟨Tz l,?_⟩|refine AN hcs hC Uh ?_)<;>conv=>whnf
  exact AD [0,10,11,12] (i+1) hlt (by omega) rfl
 ·conv=>whnf
  repeat' (first|refine A1 ?_|refine AC hE ?_)<;>conv=>whnf
  exact ⟨rfl,rfl⟩
end Go.Proofs.YtkaiffheakalmaaGreatDoor
