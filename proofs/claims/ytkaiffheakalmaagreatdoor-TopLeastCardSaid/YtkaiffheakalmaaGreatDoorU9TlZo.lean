/- Copied, stripped. No conditions. -/
import Derived.Test.YtkaiffheakalmaaGreatDoorU9TlZm
import Derived.Test.YtkaiffheakalmaaGreatDoorU9TlZn
import Derived.Test.YtkaiffheakalmaaGreatDoorU9Law
import Derived.Test.YtkaiffheakalmaaGreatDoorU9TlZb
set_option linter.unusedSimpArgs false
set_option linter.unusedVariables false
set_option maxRecDepth 100000
namespace Go.Proofs.YtkaiffheakalmaaGreatDoor
open Go.RowKit
structure MachOk (s:List UInt8) (x:Ex) (m:Mc):Prop where
  parse:JZ s=(x,0)
  make:Fn1G Tryz.prog GT 12 [Ai x] (fun r=>r= .tup [Bs m,.int .i64 0])
  sz:EY x≤1048576
  chk:Xp x=0
  rows:∀r∈m.N,r.length=8
  many:m.N.length≤40
  fin:m.F.length=m.N.length
  pos:1≤m.N.length
  ty:∀r∈m.N,∀y∈r.drop 7,y < 0
  to:∀r∈m.N,∀y∈r,-1≤y∧y < m.N.length
  tx:∀r∈m.N,r.getD 6 (-1) < 0∨(m.N.getD (r.getD 6 (-1)).toNat []).getD 6 (-1) < 0
theorem MachOk.mach {s:List UInt8} {x:Ex} {m:Mc} (h:MachOk s x m):Fn1G Tryz.prog GT 35 [.str s,.int .i64 (7:Nat),.int .i64 (6:Nat)] (fun r=>r= .tup [Bs m,.int .i64 0]):=
  Ow s x m 7 6 h.parse h.make h.rows h.many (by omega) (by omega) h.ty (fun r hr y hy=>(h.to r hr y hy).2) h.tx
def ji:List UInt8:=[40,98,124,99,124,100,41,43]
def iE:Ex:=(.mk 5 0 [(.mk 3 0 [(.mk 1 1 []),(.mk 1 2 []),(.mk 1 3 [])])])
def gB:Mc:=⟨[[-1,1,1,1,-1,-1,-1,-1],[-1,1,1,1,-1,-1,-1,-1]],[false,true]⟩
theorem iF:OkSets (HT iE) (Qx iE) 2 where
  len:=by decide +kernel
  four:=by decide +kernel
  last:=by decide +kernel
  ll:=by decide +kernel
  fl:=by decide +kernel
  fb:=by decide +kernel
  rl:=by decide +kernel
  rows:=by decide +kernel
  go:=by decide +kernel
  many:=by decide +kernel
  fin:=by decide +kernel
  q:=by decide +kernel
  ql:=by decide +kernel
  to:=by decide +kernel
  tol:=by decide +kernel
theorem jj:MachOk ji iE gB where
  parse:=by kernel_rfl
  make:=Bl iE (by decide +kernel) (by decide +kernel) 2 iF (by decide) (N:=[[-1,1,1,1,-1,-1,-1,-1],[-1,1,1,1,-1,-1,-1,-1]]) (F:=[false,true]) (by decide +kernel) (by decide +kernel) ⟨by decide,by decide,by decide +kernel⟩ (C:=[0,1,-1]) (Ws:=[[1],[]]) (S:=[0,1]) (by decide +kernel) (by decide)
  sz:=by decide +kernel
  chk:=by decide +kernel
  rows:=by decide +kernel
  many:=by decide +kernel
  fin:=by decide +kernel
  pos:=by decide +kernel
  ty:=by decide +kernel
  to:=by decide +kernel
  tx:=by decide +kernel
def jk:List UInt8:=[99,63,98,42]
def iG:Ex:=(.mk 2 0 [(.mk 6 0 [(.mk 1 2 [])]),(.mk 4 0 [(.mk 1 1 [])])])
def gC:Mc:=⟨[[-1,1,1,-1,-1,-1,-1,-1],[-1,1,-1,-1,-1,-1,-1,-1]],[true,true]⟩
theorem iH:OkSets (HT iG) (Qx iG) 2 where
  len:=by decide +kernel
  four:=by decide +kernel
  last:=by decide +kernel
  ll:=by decide +kernel
  fl:=by decide +kernel
  fb:=by decide +kernel
  rl:=by decide +kernel
  rows:=by decide +kernel
  go:=by decide +kernel
  many:=by decide +kernel
  fin:=by decide +kernel
  q:=by decide +kernel
  ql:=by decide +kernel
  to:=by decide +kernel
  tol:=by decide +kernel
theorem jl:MachOk jk iG gC where
  parse:=by kernel_rfl
  make:=Bl iG (by decide +kernel) (by decide +kernel) 2 iH (by decide) (N:=[[-1,1,1,-1,-1,-1,-1,-1],[-1,1,-1,-1,-1,-1,-1,-1]]) (F:=[true,true]) (by decide +kernel) (by decide +kernel) ⟨by decide,by decide,by decide +kernel⟩ (C:=[0,1,-1]) (Ws:=[[],[2]]) (S:=[0,1]) (by decide +kernel) (by decide)
  sz:=by decide +kernel
  chk:=by decide +kernel
  rows:=by decide +kernel
  many:=by decide +kernel
  fin:=by decide +kernel
  pos:=by decide +kernel
  ty:=by decide +kernel
  to:=by decide +kernel
  tx:=by decide +kernel
def jm:List UInt8:=[40,98,124,100,41,42]
def gD:Ex:=(.mk 4 0 [(.mk 3 0 [(.mk 1 1 []),(.mk 1 3 [])])])
def d4:Mc:=⟨[[-1,0,-1,0,-1,-1,-1,-1]],[true]⟩
theorem iI:OkSets (HT gD) (Qx gD) 1 where
  len:=by decide +kernel
  four:=by decide +kernel
  last:=by decide +kernel
  ll:=by decide +kernel
  fl:=by decide +kernel
  fb:=by decide +kernel
  rl:=by decide +kernel
  rows:=by decide +kernel
  go:=by decide +kernel
  many:=by decide +kernel
  fin:=by decide +kernel
  q:=by decide +kernel
  ql:=by decide +kernel
  to:=by decide +kernel
  tol:=by decide +kernel
theorem jf:MachOk jm gD d4 where
  parse:=by kernel_rfl
  make:=Bl gD (by decide +kernel) (by decide +kernel) 1 iI (by decide) (N:=[[-1,0,-1,0,-1,-1,-1,-1]]) (F:=[true]) (by decide +kernel) (by decide +kernel) ⟨by decide,by decide,by decide +kernel⟩ (C:=[0,-1]) (Ws:=[[]]) (S:=[0]) (by decide +kernel) (by decide)
  sz:=by decide +kernel
  chk:=by decide +kernel
  rows:=by decide +kernel
  many:=by decide +kernel
  fin:=by decide +kernel
  pos:=by decide +kernel
  ty:=by decide +kernel
  to:=by decide +kernel
  tx:=by decide +kernel
def jn:List UInt8:=[99,98,43,100,63]
def iJ:Ex:=(.mk 2 0 [(.mk 1 2 []),(.mk 5 0 [(.mk 1 1 [])]),(.mk 6 0 [(.mk 1 3 [])])])
def gE:Mc:=⟨[[-1,-1,1,-1,-1,-1,-1,-1],[-1,2,-1,-1,-1,-1,-1,-1],[-1,2,-1,3,-1,-1,-1,-1],[-1,-1,-1,-1,-1,-1,-1,-1]],[false,false,true,true]⟩
theorem iK:OkSets (HT iJ) (Qx iJ) 4 where
  len:=by decide +kernel
  four:=by decide +kernel
  last:=by decide +kernel
  ll:=by decide +kernel
  fl:=by decide +kernel
  fb:=by decide +kernel
  rl:=by decide +kernel
  rows:=by decide +kernel
  go:=by decide +kernel
  many:=by decide +kernel
  fin:=by decide +kernel
  q:=by decide +kernel
  ql:=by decide +kernel
  to:=by decide +kernel
  tol:=by decide +kernel
theorem jo:MachOk jn iJ gE where
  parse:=by kernel_rfl
  make:=Bl iJ (by decide +kernel) (by decide +kernel) 4 iK (by decide) (N:=[[-1,-1,1,-1,-1,-1,-1,-1],[-1,2,-1,-1,-1,-1,-1,-1],[-1,2,-1,3,-1,-1,-1,-1],[-1,-1,-1,-1,-1,-1,-1,-1]]) (F:=[false,false,true,true]) (by decide +kernel) (by decide +kernel) ⟨by decide,by decide,by decide +kernel⟩ (C:=[0,1,2,3,-1]) (Ws:=[[2,1],[1],[]]) (S:=[0,1,2,3]) (by decide +kernel) (by decide)
  sz:=by decide +kernel
  chk:=by decide +kernel
  rows:=by decide +kernel
  many:=by decide +kernel
  fin:=by decide +kernel
  pos:=by decide +kernel
  ty:=by decide +kernel
  to:=by decide +kernel
  tx:=by decide +kernel
def jp:List UInt8:=[103,63,40,102,43,103,63,41,42]
def iL:Ex:=(.mk 2 0 [(.mk 6 0 [(.mk 1 6 [])]),(.mk 4 0 [(.mk 2 0 [(.mk 5 0 [(.mk 1 5 [])]),(.mk 6 0 [(.mk 1 6 [])])])])])
def gG:Mc:=⟨[[-1,-1,-1,-1,-1,0,1,-1],[-1,-1,-1,-1,-1,0,-1,-1]],[true,true]⟩
theorem iM:OkSets (HT iL) (Qx iL) 3 where
  len:=by decide +kernel
  four:=by decide +kernel
  last:=by decide +kernel
  ll:=by decide +kernel
  fl:=by decide +kernel
  fb:=by decide +kernel
  rl:=by decide +kernel
  rows:=by decide +kernel
  go:=by decide +kernel
  many:=by decide +kernel
  fin:=by decide +kernel
  q:=by decide +kernel
  ql:=by decide +kernel
  to:=by decide +kernel
  tol:=by decide +kernel
theorem jq:MachOk jp iL gG where
  parse:=by kernel_rfl
  make:=Bl iL (by decide +kernel) (by decide +kernel) 3 iM (by decide) (N:=[[-1,-1,-1,-1,-1,1,2,-1],[-1,-1,-1,-1,-1,1,2,-1],[-1,-1,-1,-1,-1,1,-1,-1]]) (F:=[true,true,true]) (by decide +kernel) (by decide +kernel) ⟨by decide,by decide,by decide +kernel⟩ (C:=[0,0,1,-1]) (Ws:=[[],[6]]) (S:=[0,2]) (by decide +kernel) (by decide)
  sz:=by decide +kernel
  chk:=by decide +kernel
  rows:=by decide +kernel
  many:=by decide +kernel
  fin:=by decide +kernel
  pos:=by decide +kernel
  ty:=by decide +kernel
  to:=by decide +kernel
  tx:=by decide +kernel
def jr:List UInt8:=[40,102,124,103,102,41,42,103,63]
def iN:Ex:=(.mk 2 0 [(.mk 4 0 [(.mk 3 0 [(.mk 1 5 []),(.mk 2 0 [(.mk 1 6 []),(.mk 1 5 [])])])]),(.mk 6 0 [(.mk 1 6 [])])])
def gH:Mc:=⟨[[-1,-1,-1,-1,-1,0,1,-1],[-1,-1,-1,-1,-1,0,-1,-1]],[true,true]⟩
theorem iO:OkSets (HT iN) (Qx iN) 2 where
  len:=by decide +kernel
  four:=by decide +kernel
  last:=by decide +kernel
  ll:=by decide +kernel
  fl:=by decide +kernel
  fb:=by decide +kernel
  rl:=by decide +kernel
  rows:=by decide +kernel
  go:=by decide +kernel
  many:=by decide +kernel
  fin:=by decide +kernel
  q:=by decide +kernel
  ql:=by decide +kernel
  to:=by decide +kernel
  tol:=by decide +kernel
theorem js:MachOk jr iN gH where
  parse:=by kernel_rfl
  make:=Bl iN (by decide +kernel) (by decide +kernel) 2 iO (by decide) (N:=[[-1,-1,-1,-1,-1,0,1,-1],[-1,-1,-1,-1,-1,0,-1,-1]]) (F:=[true,true]) (by decide +kernel) (by decide +kernel) ⟨by decide,by decide,by decide +kernel⟩ (C:=[0,1,-1]) (Ws:=[[],[6]]) (S:=[0,1]) (by decide +kernel) (by decide)
  sz:=by decide +kernel
  chk:=by decide +kernel
  rows:=by decide +kernel
  many:=by decide +kernel
  fin:=by decide +kernel
  pos:=by decide +kernel
  ty:=by decide +kernel
  to:=by decide +kernel
  tx:=by decide +kernel
def jt:List UInt8:=[103,63]
def d5:Ex:=(.mk 6 0 [(.mk 1 6 [])])
def cn:Mc:=⟨[[-1,-1,-1,-1,-1,-1,1,-1],[-1,-1,-1,-1,-1,-1,-1,-1]],[true,true]⟩
theorem iP:OkSets (HT d5) (Qx d5) 2 where
  len:=by decide +kernel
  four:=by decide +kernel
  last:=by decide +kernel
  ll:=by decide +kernel
  fl:=by decide +kernel
  fb:=by decide +kernel
  rl:=by decide +kernel
  rows:=by decide +kernel
  go:=by decide +kernel
  many:=by decide +kernel
  fin:=by decide +kernel
  q:=by decide +kernel
  ql:=by decide +kernel
  to:=by decide +kernel
  tol:=by decide +kernel
theorem jH:MachOk jt d5 cn where
  parse:=by kernel_rfl
  make:=Bl d5 (by decide +kernel) (by decide +kernel) 2 iP (by decide) (N:=[[-1,-1,-1,-1,-1,-1,1,-1],[-1,-1,-1,-1,-1,-1,-1,-1]]) (F:=[true,true]) (by decide +kernel) (by decide +kernel) ⟨by decide,by decide,by decide +kernel⟩ (C:=[0,1,-1]) (Ws:=[[],[6]]) (S:=[0,1]) (by decide +kernel) (by decide)
  sz:=by decide +kernel
  chk:=by decide +kernel
  rows:=by decide +kernel
  many:=by decide +kernel
  fin:=by decide +kernel
  pos:=by decide +kernel
  ty:=by decide +kernel
  to:=by decide +kernel
  tx:=by decide +kernel
def ju:List UInt8:=[103]
def iQ:Ex:=(.mk 1 6 [])
def gI:Mc:=⟨[[-1,-1,-1,-1,-1,-1,1,-1],[-1,-1,-1,-1,-1,-1,-1,-1]],[false,true]⟩
theorem iR:OkSets (HT iQ) (Qx iQ) 2 where
  len:=by decide +kernel
  four:=by decide +kernel
  last:=by decide +kernel
  ll:=by decide +kernel
  fl:=by decide +kernel
  fb:=by decide +kernel
  rl:=by decide +kernel
  rows:=by decide +kernel
  go:=by decide +kernel
  many:=by decide +kernel
  fin:=by decide +kernel
  q:=by decide +kernel
  ql:=by decide +kernel
  to:=by decide +kernel
  tol:=by decide +kernel
theorem jg:MachOk ju iQ gI where
  parse:=by kernel_rfl
  make:=Bl iQ (by decide +kernel) (by decide +kernel) 2 iR (by decide) (N:=[[-1,-1,-1,-1,-1,-1,1,-1],[-1,-1,-1,-1,-1,-1,-1,-1]]) (F:=[false,true]) (by decide +kernel) (by decide +kernel) ⟨by decide,by decide,by decide +kernel⟩ (C:=[0,1,-1]) (Ws:=[[6],[]]) (S:=[0,1]) (by decide +kernel) (by decide)
  sz:=by decide +kernel
  chk:=by decide +kernel
  rows:=by decide +kernel
  many:=by decide +kernel
  fin:=by decide +kernel
  pos:=by decide +kernel
  ty:=by decide +kernel
  to:=by decide +kernel
  tx:=by decide +kernel
def jv:List UInt8:=[101,43]
def iS:Ex:=(.mk 5 0 [(.mk 1 4 [])])
def gJ:Mc:=⟨[[-1,-1,-1,-1,1,-1,-1,-1],[-1,-1,-1,-1,1,-1,-1,-1]],[false,true]⟩
theorem iT:OkSets (HT iS) (Qx iS) 2 where
  len:=by decide +kernel
  four:=by decide +kernel
  last:=by decide +kernel
  ll:=by decide +kernel
  fl:=by decide +kernel
  fb:=by decide +kernel
  rl:=by decide +kernel
  rows:=by decide +kernel
  go:=by decide +kernel
  many:=by decide +kernel
  fin:=by decide +kernel
  q:=by decide +kernel
  ql:=by decide +kernel
  to:=by decide +kernel
  tol:=by decide +kernel
theorem jx:MachOk jv iS gJ where
  parse:=by kernel_rfl
  make:=Bl iS (by decide +kernel) (by decide +kernel) 2 iT (by decide) (N:=[[-1,-1,-1,-1,1,-1,-1,-1],[-1,-1,-1,-1,1,-1,-1,-1]]) (F:=[false,true]) (by decide +kernel) (by decide +kernel) ⟨by decide,by decide,by decide +kernel⟩ (C:=[0,1,-1]) (Ws:=[[4],[]]) (S:=[0,1]) (by decide +kernel) (by decide)
  sz:=by decide +kernel
  chk:=by decide +kernel
  rows:=by decide +kernel
  many:=by decide +kernel
  fin:=by decide +kernel
  pos:=by decide +kernel
  ty:=by decide +kernel
  to:=by decide +kernel
  tx:=by decide +kernel
def jy:List UInt8:=[101,101,42]
def iU:Ex:=(.mk 2 0 [(.mk 1 4 []),(.mk 4 0 [(.mk 1 4 [])])])
def gK:Mc:=⟨[[-1,-1,-1,-1,1,-1,-1,-1],[-1,-1,-1,-1,1,-1,-1,-1]],[false,true]⟩
theorem iV:OkSets (HT iU) (Qx iU) 2 where
  len:=by decide +kernel
  four:=by decide +kernel
  last:=by decide +kernel
  ll:=by decide +kernel
  fl:=by decide +kernel
  fb:=by decide +kernel
  rl:=by decide +kernel
  rows:=by decide +kernel
  go:=by decide +kernel
  many:=by decide +kernel
  fin:=by decide +kernel
  q:=by decide +kernel
  ql:=by decide +kernel
  to:=by decide +kernel
  tol:=by decide +kernel
theorem jz:MachOk jy iU gK where
  parse:=by kernel_rfl
  make:=Bl iU (by decide +kernel) (by decide +kernel) 2 iV (by decide) (N:=[[-1,-1,-1,-1,1,-1,-1,-1],[-1,-1,-1,-1,1,-1,-1,-1]]) (F:=[false,true]) (by decide +kernel) (by decide +kernel) ⟨by decide,by decide,by decide +kernel⟩ (C:=[0,1,-1]) (Ws:=[[4],[]]) (S:=[0,1]) (by decide +kernel) (by decide)
  sz:=by decide +kernel
  chk:=by decide +kernel
  rows:=by decide +kernel
  many:=by decide +kernel
  fin:=by decide +kernel
  pos:=by decide +kernel
  ty:=by decide +kernel
  to:=by decide +kernel
  tx:=by decide +kernel
def jT:List UInt8:=[101,42]
def X7:Ex:=(.mk 4 0 [(.mk 1 4 [])])
def VM:Mc:=⟨[[-1,-1,-1,-1,0,-1,-1,-1]],[true]⟩
theorem d6:OkSets (HT X7) (Qx X7) 1 where
  len:=by decide +kernel
  four:=by decide +kernel
  last:=by decide +kernel
  ll:=by decide +kernel
  fl:=by decide +kernel
  fb:=by decide +kernel
  rl:=by decide +kernel
  rows:=by decide +kernel
  go:=by decide +kernel
  many:=by decide +kernel
  fin:=by decide +kernel
  q:=by decide +kernel
  ql:=by decide +kernel
  to:=by decide +kernel
  tol:=by decide +kernel
theorem jU:MachOk jT X7 VM where
  parse:=by kernel_rfl
  make:=Bl X7 (by decide +kernel) (by decide +kernel) 1 d6 (by decide) (N:=[[-1,-1,-1,-1,0,-1,-1,-1]]) (F:=[true]) (by decide +kernel) (by decide +kernel) ⟨by decide,by decide,by decide +kernel⟩ (C:=[0,-1]) (Ws:=[[]]) (S:=[0]) (by decide +kernel) (by decide)
  sz:=by decide +kernel
  chk:=by decide +kernel
  rows:=by decide +kernel
  many:=by decide +kernel
  fin:=by decide +kernel
  pos:=by decide +kernel
  ty:=by decide +kernel
  to:=by decide +kernel
  tx:=by decide +kernel
def jV:List UInt8:=[98,43]
def X8:Ex:=(.mk 5 0 [(.mk 1 1 [])])
def VN:Mc:=⟨[[-1,1,-1,-1,-1,-1,-1,-1],[-1,1,-1,-1,-1,-1,-1,-1]],[false,true]⟩
theorem d7:OkSets (HT X8) (Qx X8) 2 where
  len:=by decide +kernel
  four:=by decide +kernel
  last:=by decide +kernel
  ll:=by decide +kernel
  fl:=by decide +kernel
  fb:=by decide +kernel
  rl:=by decide +kernel
  rows:=by decide +kernel
  go:=by decide +kernel
  many:=by decide +kernel
  fin:=by decide +kernel
  q:=by decide +kernel
  ql:=by decide +kernel
  to:=by decide +kernel
  tol:=by decide +kernel
theorem jW:MachOk jV X8 VN where
  parse:=by kernel_rfl
  make:=Bl X8 (by decide +kernel) (by decide +kernel) 2 d7 (by decide) (N:=[[-1,1,-1,-1,-1,-1,-1,-1],[-1,1,-1,-1,-1,-1,-1,-1]]) (F:=[false,true]) (by decide +kernel) (by decide +kernel) ⟨by decide,by decide,by decide +kernel⟩ (C:=[0,1,-1]) (Ws:=[[1],[]]) (S:=[0,1]) (by decide +kernel) (by decide)
  sz:=by decide +kernel
  chk:=by decide +kernel
  rows:=by decide +kernel
  many:=by decide +kernel
  fin:=by decide +kernel
  pos:=by decide +kernel
  ty:=by decide +kernel
  to:=by decide +kernel
  tx:=by decide +kernel
def jX:List UInt8:=[]
def X9:Ex:=(.mk 2 0 [])
def Ja:Mc:=⟨[[-1,-1,-1,-1,-1,-1,-1,-1]],[true]⟩
theorem d8:OkSets (HT X9) (Qx X9) 1 where
  len:=by decide +kernel
  four:=by decide +kernel
  last:=by decide +kernel
  ll:=by decide +kernel
  fl:=by decide +kernel
  fb:=by decide +kernel
  rl:=by decide +kernel
  rows:=by decide +kernel
  go:=by decide +kernel
  many:=by decide +kernel
  fin:=by decide +kernel
  q:=by decide +kernel
  ql:=by decide +kernel
  to:=by decide +kernel
  tol:=by decide +kernel
theorem jY:MachOk jX X9 Ja where
  parse:=by kernel_rfl
  make:=Bl X9 (by decide +kernel) (by decide +kernel) 1 d8 (by decide) (N:=[[-1,-1,-1,-1,-1,-1,-1,-1]]) (F:=[true]) (by decide +kernel) (by decide +kernel) ⟨by decide,by decide,by decide +kernel⟩ (C:=[0,-1]) (Ws:=[[]]) (S:=[0]) (by decide +kernel) (by decide)
  sz:=by decide +kernel
  chk:=by decide +kernel
  rows:=by decide +kernel
  many:=by decide +kernel
  fin:=by decide +kernel
  pos:=by decide +kernel
  ty:=by decide +kernel
  to:=by decide +kernel
  tx:=by decide +kernel
end Go.Proofs.YtkaiffheakalmaaGreatDoor
namespace Go.Proofs.YtkaiffheakalmaaGreatDoor
open Go.RowKit
def Nt (Z:List Int) (N:List (List Int)):Nat→List Int→Option (List Int)
  | 0,_=>none
  | f+1,out=>match QX Z N N.length out with
    | (o,true)=>Nt Z N f o
    | (o,false)=>some o
theorem Jb (Z:List Int) (N:List (List Int)) (out:List Int):∀k,KA Z N (k+2) out=KA Z N (k+1) (QX Z N N.length out).1
  | 0=>rfl
  | k+1=>by
    rw [KA,Jb Z N out k]
    rfl
theorem Qf (Z:List Int) (N:List (List Int)):∀(f:Nat) (out y:List Int),Nt Z N f out=some y→∃R,1≤R∧R≤f∧KA Z N R out=(y,false)∧∀k,k < R→(KA Z N k out).2=true
  | 0,out,y,h=>by simp [Nt] at h
  | f+1,out,y,h=>by
    unfold Nt at h
    split at h
    . rename_i o he
      obtain ⟨R,h1,h2,h3,h4⟩:=Qf Z N f o y h
      obtain ⟨R',rfl⟩:∃R',R=R'+1:=⟨R - 1,by omega⟩
      have hs:=Jb Z N out R'
      rw [he] at hs
      refine ⟨R'+2,by omega,by omega,hs.trans h3,fun k hk=>?_⟩
      match k,hk with
      | 0,_=>rfl
      | 1,_=>
        show (QX Z N N.length (KA Z N 0 out).1).2=true
        show (QX Z N N.length out).2=true
        rw [he]
      | k+2,hk=>
        rw [Jb Z N out k,he]
        exact h4 (k+1) (by omega)
    . rename_i o he
      simp only [Option.some.injEq] at h
      subst h
      refine ⟨1,Nat.le_refl _,by omega,?_,fun k hk=>?_⟩
      . show QX Z N N.length out=_
        exact he
      . obtain rfl:k=0:=by omega
        rfl
def jZ (Z:List Int):Bool:=Z.all fun z=>decide (0≤z)&&decide (z≤1000000)
def Nu (n:Nat) (m:Mc):Bool:=
  (m.N.all fun r=>decide (r.length=8)&&(r.all fun x=>decide (-1≤x)&&decide (x < m.N.length))&&(List.range 8).all fun k=>decide (k < n) || decide (r.getD k (-1) < 0))&&
    decide (m.F.length=m.N.length)&&decide (1≤m.N.length)&&decide (m.N.length≤40)
theorem SH {p:Nat→Bool} {R:Nat} (hR:R < 101) (h:p R=true) (hk:∀k,k < R→p k=false):(List.range 101).find? p=some R:=by
  rw [List.find?_eq_some_iff_getElem]
  refine ⟨h,R,by simpa using hR,by simp,fun j hj=>?_⟩
  simp [hk j hj]
theorem d9 {Z:List Int} {m:Mc} {y:List Int} (hz:jZ Z=true) (hs:Nu Z.length m=true) (h:Nt Z m.N 50 (Dj m.F m.F.length)=some y):L8 Z m=true∧Nr Z m=y:=by
  obtain ⟨R,h1,h2,h3,h4⟩:=Qf Z m.N 50 _ y h
  have hr:rR Z m=R:=by
    unfold rR
    rw [SH (R:=R) (by omega) (by rw [h3];rfl) (fun k hk=>by rw [h4 k hk];rfl)]
    rfl
  refine ⟨?_,by unfold Nr;rw [hr,h3]⟩
  unfold L8
  unfold Nu at hs
  unfold jZ at hz
  simp only [Bool.and_eq_true] at hs
  obtain ⟨⟨⟨s1,s2⟩,s3⟩,s4⟩:=hs
  rw [hr,hz,s1,s2,s3,s4,h3]
  simp only [Bool.true_and,Bool.and_eq_true,decide_eq_true_eq,List.all_eq_true,List.mem_range]
  exact ⟨⟨rfl,by omega⟩,h4⟩
abbrev LM:=List (Bool×Mc)
def Nv:Bool×Mc:=(false,⟨[],[]⟩)
def YB (L:LM):Nat→List Int→Option (List Int×Bool)
  | 0,Z=>some (Z,false)
  | i+1,Z=>match YB L i Z with
    | none=>none
    | some s=>match jZ s.1 with
      | false=>none
      | true=>match Nt s.1 (L.getD i Nv).2.N 50 (Dj (L.getD i Nv).2.F (L.getD i Nv).2.F.length) with
        | none=>none
        | some y=>match y.all fun x=>decide (x≤1000000) with
          | false=>none
          | true=>some (if (L.getD i Nv).1=true∧y.getD 0 0 < 0 then s else
              if s.1.getD i 0=0∨(if (L.getD i Nv).1 then 1+y.getD 0 0 else 1) < s.1.getD i 0 then (s.1.set i (if (L.getD i Nv).1 then 1+y.getD 0 0 else 1),true) else s)
theorem Ox (L:LM) (Z:List Int) (hL:∀i,i < L.length→Nu Z.length (L.getD i Nv).2=true):∀(i:Nat) (s:List Int×Bool),i≤L.length→YB L i Z=some s→Ip L i Z=s∧∀j,j < i→L8 (Ip L j Z).1 (L.getD j Nv).2=true∧∀x∈Nr (Ip L j Z).1 (L.getD j Nv).2,x≤1000000
  | 0,s,_,h=>by
    simp only [YB,Option.some.injEq] at h
    exact ⟨h,fun j hj=>by omega⟩
  | i+1,s,hi,h=>by
    unfold YB at h
    split at h
    . cases h
    . rename_i s0 h0
      obtain ⟨e0,hj0⟩:=Ox L Z hL i s0 (by omega) h0
      split at h
      . cases h
      . rename_i hst
        split at h
        . cases h
        . rename_i y hy
          split at h
          . cases h
          . rename_i hall
            simp only [Option.some.injEq] at h
            obtain ⟨g1,g2⟩:=d9 hst (by rw [←e0,Iq];exact hL i (by omega)) hy
            refine ⟨?_,fun j hj=>?_⟩
            . rw [Ip,e0]
              unfold f9
              show (if (L.getD i Nv).1=true∧(Nr s0.1 (L.getD i Nv).2).getD 0 0 < 0 then s0 else if s0.1.getD i 0=0∨(if (L.getD i Nv).1 then 1+(Nr s0.1 (L.getD i Nv).2).getD 0 0 else 1) < s0.1.getD i 0 then (s0.1.set i (if (L.getD i Nv).1 then 1+(Nr s0.1 (L.getD i Nv).2).getD 0 0 else 1),true) else s0)=s
              rw [g2]
              exact h
            . by_cases e:j=i
              . subst e
                rw [e0]
                refine ⟨g1,fun x hx=>?_⟩
                rw [g2] at hx
                exact of_decide_eq_true (List.all_eq_true.1 hall x hx)
              . exact hj0 j (by omega)
def YC (L:LM):Nat→List Int→Option (List Int)
  | 0,_=>none
  | f+1,Z=>match YB L L.length Z with
    | none=>none
    | some (o,true)=>YC L f o
    | some (o,false)=>some o
theorem HJ (L:LM) (out:List Int):∀k,HG L (k+2) out=HG L (k+1) (Ip L L.length out).1
  | 0=>rfl
  | k+1=>by
    rw [HG,HJ L out k]
    rfl
theorem T4 (L:LM):∀(f:Nat) (out y:List Int) (hL:∀i,i < L.length→Nu out.length (L.getD i Nv).2=true),YC L f out=some y→∃R,1≤R∧R≤f∧HG L R out=(y,false)∧(∀k,k < R→(HG L k out).2=true)∧
    ∀k,k < R→∀i,i < L.length→L8 (Ip L i (HG L k out).1).1 (L.getD i Nv).2=true∧∀x∈Nr (Ip L i (HG L k out).1).1 (L.getD i Nv).2,x≤1000000
  | 0,out,y,_,h=>by simp [YC] at h
  | f+1,out,y,hL,h=>by
    unfold YC at h
    split at h
    . cases h
    . rename_i o he
      obtain ⟨e1,e2⟩:=Ox L out hL L.length _ (Nat.le_refl _) he
      obtain ⟨R,h1,h2,h3,h4,h5⟩:=T4 L f o y (by rw [show o=(Ip L L.length out).1 by rw [e1],Iq];exact hL) h
      obtain ⟨R',rfl⟩:∃R',R=R'+1:=⟨R - 1,by omega⟩
      have hs:=HJ L out R'
      rw [e1] at hs
      refine ⟨R'+2,by omega,by omega,hs.trans h3,fun k hk=>?_,fun k hk i hi=>?_⟩
      . match k,hk with
        | 0,_=>rfl
        | 1,_=>
          show (Ip L L.length out).2=true
          rw [e1]
        | k+2,hk=>
          rw [HJ L out k,e1]
          exact h4 (k+1) (by omega)
      . match k,hk with
        | 0,_=>exact e2 i hi
        | 1,_=>
          have:=h5 0 (by omega) i hi
          show L8 (Ip L i (Ip L L.length out).1).1 _=true∧∀x∈Nr (Ip L i (Ip L L.length out).1).1 _,_
          rw [e1]
          exact this
        | k+2,hk=>
          rw [HJ L out k,e1]
          exact h5 (k+1) (by omega) i hi
    . rename_i o he
      simp only [Option.some.injEq] at h
      subst h
      obtain ⟨e1,e2⟩:=Ox L out hL L.length _ (Nat.le_refl _) he
      refine ⟨1,Nat.le_refl _,by omega,?_,fun k hk=>?_,fun k hk i hi=>?_⟩
      . show Ip L L.length out=_
        exact e1
      . obtain rfl:k=0:=by omega
        rfl
      . obtain rfl:k=0:=by omega
        exact e2 i hi
end Go.Proofs.YtkaiffheakalmaaGreatDoor
namespace Go.Proofs.YtkaiffheakalmaaGreatDoor
open Go.RowKit
def T5 (t:List UInt8) (k:Nat):Nat:=(t.getD k 0).toNat
def jI (t:List UInt8) (k:Nat):Bool:=decide (k < t.length)&&T5 t k / 64==2
def VO (A B C D:Nat) (c1 c2 c3:Bool):Nat×Nat:=
  if A < 0x80 then (A,1)
  else if A / 32==6&&c1 then
    (if (A % 32)*64+B % 64≥0x80 then ((A % 32)*64+B % 64,2) else (65533,1))
  else if A / 16==14&&c1&&c2 then
    (if (A % 16)*4096+(B % 64)*64+C % 64≥0x800&&Utf8.valid ((A % 16)*4096+(B % 64)*64+C % 64:Nat) then ((A % 16)*4096+(B % 64)*64+C % 64,3) else (65533,1))
  else if A / 8==30&&c1&&c2&&c3 then
    (if (A % 8)*262144+(B % 64)*4096+(C % 64)*64+D % 64≥0x10000&&Utf8.valid ((A % 8)*262144+(B % 64)*4096+(C % 64)*64+D % 64:Nat) then ((A % 8)*262144+(B % 64)*4096+(C % 64)*64+D % 64,4) else (65533,1))
  else (65533,1)
def Fl (t:List UInt8):Nat×Nat:=VO (T5 t 0) (T5 t 1) (T5 t 2) (T5 t 3) (jI t 1) (jI t 2) (jI t 3)
theorem eA (s:List UInt8) (pos k:Nat):((⟨s.toArray⟩:ByteArray).get! (pos+k)).toNat=T5 (s.drop pos) k:=by
  show (s.toArray[pos+k]!).toNat=_
  unfold T5
  simp [List.getD,List.getElem?_drop]
  rfl
theorem iW (s:List UInt8) (pos k:Nat):decide (pos+k < (⟨s.toArray⟩:ByteArray).size)=decide (k < (s.drop pos).length):=by
  have:(⟨s.toArray⟩:ByteArray).size=s.length:=by simp [ByteArray.size]
  rw [this,List.length_drop]
  exact decide_eq_decide.2 (by omega)
theorem SJ (s:List UInt8) (pos:Nat):WH s pos=Fl (s.drop pos):=by
  unfold WH Utf8.decode Fl VO jI
  simp only [eA,iW,Utf8.runeError]
theorem iX (t:List UInt8) (k:Nat):T5 t k < 256:=by unfold T5;exact (t.getD k 0).toNat_lt
theorem Iv (t:List UInt8):(Fl t).1≤2097151∧1≤(Fl t).2∧(Fl t).2≤4:=by
  have h0:=iX t 0
  unfold Fl VO
  repeat' split
  all_goals (refine ⟨?_,?_,?_⟩<;>simp only<;>omega)
def FV (t:List UInt8):List Nat:=if h:t=[] then [] else (Fl t).1::FV (t.drop (Fl t).2)
termination_by t.length
decreasing_by
  have:=(Iv t).2.1
  have:0 < t.length:=List.length_pos_iff.2 h
  simp only [List.length_drop];omega
theorem F6:FV []=[]:=by rw [FV];simp
theorem Ju {t:List UInt8} (h:t≠[]):FV t=(Fl t).1::FV (t.drop (Fl t).2):=by rw [FV];simp [h]
def ja (t:List UInt8) (w:Nat):Nat→Nat
  | 0=>T5 t 0 % 2 ^ (7 - w)
  | i+1=>ja t w i*64+T5 t (i+1) % 64
section
variable {A B C D:Nat} {c1 c2 c3:Bool}
theorem eB (h:A < 128):VO A B C D c1 c2 c3=(A,1):=if_pos h
end
end Go.Proofs.YtkaiffheakalmaaGreatDoor
namespace Go.Proofs.YtkaiffheakalmaaGreatDoor
open Go.RowKit
def Iw (p:Nat→Bool) (pos:Nat) (t:List UInt8):Int:=if h:t=[] then -1 else if p (Fl t).1 then pos else Iw p (pos+(Fl t).2) (t.drop (Fl t).2)
termination_by t.length
decreasing_by
  have:=(Iv t).2.1
  have:0 < t.length:=List.length_pos_iff.2 h
  simp only [List.length_drop];omega
theorem MF (p:Nat→Bool) (pos:Nat):Iw p pos []= -1:=by rw [Iw];simp
theorem Nw (p:Nat→Bool) (pos:Nat) {t:List UInt8} (h:t≠[]):Iw p pos t=if p (Fl t).1 then (pos:Int) else Iw p (pos+(Fl t).2) (t.drop (Fl t).2):=by
  rw [Iw];simp [h]
theorem YD (p:Nat→Bool) (n:Nat):∀(pos:Nat) (t:List UInt8),t.length≤n→decide (0≤Iw p pos t)=(FV t).any p:=by
  induction n with
  | zero=>intro pos t ht;rw [List.length_eq_zero_iff.1 (Nat.le_zero.1 ht),MF,F6];rfl
  | succ n ih=>
    intro pos t ht
    by_cases h:t=[]
    . rw [h,MF,F6];rfl
    . have h1:=(Iv t).2.1
      have h3:0 < t.length:=List.length_pos_iff.2 h
      rw [Nw p pos h,Ju h,List.any_cons]
      by_cases hp:p (Fl t).1=true
      . rw [if_pos hp,hp,Bool.true_or];exact decide_eq_true (by omega)
      . rw [if_neg hp,ih _ _ (by rw [List.length_drop];omega)]
        simp only [Bool.not_eq_true] at hp
        rw [hp,Bool.false_or]
theorem aA (p:Nat→Bool) {s:List UInt8} {pos:Nat} (h:pos < s.length):Iw p pos (s.drop pos)=if p (WH s pos).1 then (pos:Int) else Iw p (pos+(WH s pos).2) (s.drop (pos+(WH s pos).2)):=by
  rw [Nw p pos (fun e=>by have:=congrArg List.length e;simp at this;omega),SJ,List.drop_drop]
theorem SK (s:List UInt8) (h:FuncId) (caps:List V) (p:Nat→Bool) (hb:AD Tryz.prog h=true) (hc:Fw caps=true) (hp:∀n:Nat,Fn1 Tryz.prog h (.int .i32 (n:Int)::caps) (fun r=>r= .bool (p n))):
    Fn1 Tryz.prog 100 [.str s,.fn h caps,.bool true] (fun r=>r= .int .i64 (Iw p 0 s)):=by
  refine A4 (T:=Tryz.tt) Tryz.func100 rfl AR AB ?_ ?_ fun C hC hE=>?_
  . kernel_rfl
  . exact Nat.le_of_ble_eq_true (by kernel_rfl)
  conv=>whnf
  refine Ae (fun pos:Nat=>⟨21,[(1,.fn h caps),(2,.bool true),(10,.it 0)],[some (.iter s pos)]⟩) (fun pos=>Iw p pos (s.drop pos)=Iw p 0 s) (fun pos=>s.length+4 - pos) 0 hE ?_ ?_ rfl ?_
  . kernel_rfl
  . exact AU [1,2,10] rfl
  intro pos hpos
  by_cases hlt:pos < s.length
  . have hat:=aA p hlt
    have hd:=(Iv (s.drop pos)).2.1
    rw [←SJ] at hd
    have hd2:=(Iv (s.drop pos)).2.2
    rw [←SJ] at hd2
    have hpn:=hp (WH s pos).1
    conv=>whnf
    repeat' (first|(refine AN (by first|assumption|omega) ?_;conv=>whnf)|(refine AC hpn hC hb ?_ ?_ ?_;kernel_rfl;exact Gl (by kernel_rfl) hc;conv=>whnf)|(refine br (fun h=>?_) (fun h=>?_)<;>conv=>whnf)|(refine AH hE ?_;conv=>whnf))
    . exact ⟨rfl,by rw [←hpos,hat,if_pos (by assumption)]⟩
    . refine AJ [1,2,10] (pos+(WH s pos).2) ?_ (by omega) rfl
      rw [←hpos,hat,if_neg (by simp only [Bool.not_eq_true];assumption)]
  . have he:Iw p 0 s= -1:=by rw [←hpos,List.drop_of_length_le (by omega),MF]
    conv=>whnf
    repeat' (first|(refine AM (by first|assumption|omega) ?_;conv=>whnf)|(refine AH hE ?_;conv=>whnf))
    exact ⟨rfl,by rw [he]⟩
theorem VP (s:List UInt8) (h:FuncId) (caps:List V) (p:Nat→Bool) (hb:AD Tryz.prog h=true) (hc:Fw caps=true) (hp:∀n:Nat,Fn1 Tryz.prog h (.int .i32 (n:Int)::caps) (fun r=>r= .bool (p n))):
    Fn1 Tryz.prog 86 [.str s,.fn h caps] (fun r=>r= .int .i64 (Iw p 0 s)):=by
  refine A4 (T:=Tryz.tt) Tryz.func86 rfl AR AB ?_ ?_ fun C hC hE=>?_
  . kernel_rfl
  . exact Nat.le_of_ble_eq_true (by kernel_rfl)
  conv=>whnf
  repeat' (first|(refine AC (SK s h caps p hb hc hp) hC Qr ?_ ?_ ?_;kernel_rfl;(simp [Fw,cV,hc]);conv=>whnf)|(refine AH hE ?_;conv=>whnf))
  exact ⟨rfl,rfl⟩
theorem Qg (s:List UInt8) (h:FuncId) (caps:List V) (p:Nat→Bool) (hb:AD Tryz.prog h=true) (hc:Fw caps=true) (hp:∀n:Nat,Fn1 Tryz.prog h (.int .i32 (n:Int)::caps) (fun r=>r= .bool (p n))):
    Fn1 Tryz.prog 62 [.str s,.fn h caps] (fun r=>r= .bool ((FV s).any p)):=by
  have ha:=YD p _ 0 s (Nat.le_refl _)
  refine A4 (T:=Tryz.tt) Tryz.func62 rfl AR AB ?_ ?_ fun C hC hE=>?_
  . kernel_rfl
  . exact Nat.le_of_ble_eq_true (by kernel_rfl)
  conv=>whnf
  repeat' (first|(refine AC (VP s h caps p hb hc hp) hC Sr ?_ ?_ ?_;kernel_rfl;exact LW rfl hc;conv=>whnf)|(refine He (fun h=>?_) (fun h=>?_)<;>conv=>whnf)|(refine AH hE ?_;conv=>whnf))
  all_goals exact ⟨rfl,by rw [←ha];congr 1;first|exact (decide_eq_true (by assumption)).symm|exact (decide_eq_false (by assumption)).symm⟩
def MG (n:Nat):Bool:=decide (97≤n)&&decide (n≤122)
def T6 (n:Nat):Bool:=decide (48≤n)&&decide (n≤57)
def MH (n:Nat):Bool:=!(MG n || T6 n || decide (n=45))
def Ez (s:List UInt8):Bool:=decide (1≤s.length)&&decide (s.length≤12)&&MG (T5 s 0)&&!(s.any fun c=>MH c.toNat)
theorem aB {A B C D:Nat} {c1 c2 c3:Bool} (h:¬A < 128):128≤(VO A B C D c1 c2 c3).1:=by
  unfold VO
  rw [if_neg h]
  repeat' split
  all_goals first|(simp only [Bool.and_eq_true,decide_eq_true_eq,ge_iff_le] at *;omega)|(show 128≤65533;decide)
theorem VQ (n:Nat):∀s:List UInt8,s.length≤n→(FV s).any MH=s.any fun c=>MH c.toNat:=by
  induction n with
  | zero=>intro s hs;rw [List.length_eq_zero_iff.1 (Nat.le_zero.1 hs),F6];rfl
  | succ n ih=>
    intro s hs
    match s with
    | []=>rw [F6];rfl
    | c::t=>
      rw [Ju (by simp),List.any_cons,List.any_cons]
      by_cases hc:c.toNat < 128
      . have:Fl (c::t)=(c.toNat,1):=eB hc
        rw [this]
        simp only [List.drop_succ_cons,List.drop_zero]
        rw [ih t (by simp only [List.length_cons] at hs;omega)]
      . have h1:128≤(Fl (c::t)).1:=aB hc
        have b1:MH (Fl (c::t)).1=true:=by unfold MH MG T6;simp;omega
        have b2:MH c.toNat=true:=by unfold MH MG T6;simp;omega
        rw [b1,b2,Bool.true_or,Bool.true_or]
theorem iY (n:Nat):Fn1 Tryz.prog 63 [.int .i32 (n:Int)] (fun r=>r= .bool (MH n)):=by
  refine A4 (T:=Tryz.tt) Tryz.func63 rfl AR AB ?_ ?_ fun C hC hE=>?_
  . kernel_rfl
  . exact Nat.le_of_ble_eq_true (by kernel_rfl)
  conv=>whnf
  repeat' (first|(refine AN (by first|assumption|omega) ?_;conv=>whnf)|(refine AM (by first|assumption|omega) ?_;conv=>whnf)|(refine He (fun h=>?_) (fun h=>?_)<;>conv=>whnf)|(refine AH hE ?_;conv=>whnf))
  all_goals (refine ⟨rfl,?_⟩;congr 1;unfold MH MG T6;rw [eq_comm];simp;omega)
theorem aC {s:List UInt8} {c:UInt8} (h:s[0]?=some c):T5 s 0=c.toNat:=by unfold T5;simp [List.getD,h]
theorem VR (s:List UInt8) (c:UInt8) (hc:s[0]?=some c):Ez s=(decide (s.length≤12)&&MG c.toNat&&!((FV s).any MH)):=by
  have h1:1≤s.length:=by have:=(List.getElem?_eq_some_iff.1 hc).1;omega
  unfold Ez
  rw [aC hc,VQ _ s (Nat.le_refl _),decide_eq_true h1,Bool.true_and]
theorem Nx (s:List UInt8):Fn1 Tryz.prog 30 [.str s] (fun r=>r= .bool (Ez s)):=by
  by_cases h0:s=[]
  . refine A4 (T:=Tryz.tt) Tryz.func30 rfl AR AB ?_ ?_ fun C hC hE=>?_
    . kernel_rfl
    . exact Nat.le_of_ble_eq_true (by kernel_rfl)
    conv=>whnf
    repeat' (first|(refine AN (by first|assumption|omega) ?_;conv=>whnf)|(refine AH hE ?_;conv=>whnf))
    exact ⟨rfl,by rw [h0];rfl⟩
  . obtain ⟨c,hc⟩:∃c,s[0]?=some c:=⟨_,List.getElem?_eq_getElem (List.length_pos_iff.2 h0)⟩
    have hk:=VR s c hc
    refine A4 (T:=Tryz.tt) Tryz.func30 rfl AR AB ?_ ?_ fun C hC hE=>?_
    . kernel_rfl
    . exact Nat.le_of_ble_eq_true (by kernel_rfl)
    conv=>whnf
    repeat' (first|(refine AM (by first|assumption|omega) ?_;conv=>whnf)|(refine Af (by first|assumption|omega) ?_;conv=>whnf)|(refine AQ (by assumption) ?_;conv=>whnf)|(refine AC (Qg s 63 [] MH Si rfl iY) hC Sh ?_ ?_ ?_;kernel_rfl;kernel_rfl;conv=>whnf)|(refine He (fun h=>?_) (fun h=>?_)<;>conv=>whnf)|(refine br (fun h=>?_) (fun h=>?_)<;>conv=>whnf)|(refine AH hE ?_;conv=>whnf)|(intro hlen;conv=>whnf))
    all_goals (refine ⟨rfl,?_⟩;rw [hk];unfold MG;congr 1;rw [eq_comm];simp_all;try omega)
end Go.Proofs.YtkaiffheakalmaaGreatDoor
namespace Go.Proofs.YtkaiffheakalmaaGreatDoor
open Go.RowKit
theorem Oy (l:List (List UInt8)) (h:FuncId) (caps:List V) (p:(List UInt8)→Bool) (hb:AD Tryz.prog h=true) (hc:Fw caps=true) (hp:∀a∈l,Fn1 Tryz.prog h (V.str a::caps) (fun r=>r= .bool (p a))):
    Fn1 Tryz.prog 87 [.lst (l.map V.str),.fn h caps] (fun r=>r= .int .i64 (GI p l)):=by
  refine A4 (T:=Tryz.tt) Tryz.func87 rfl AR AB ?_ ?_ fun C hC hE=>?_
  . kernel_rfl
  . exact Nat.le_of_ble_eq_true (by kernel_rfl)
  conv=>whnf
  intro hl
  conv=>whnf
  refine Ae (fun k:Nat=>⟨19,[(0,.lst (l.map V.str)),(1,.fn h caps),(7,.int .i64 (l.map V.str).length),(8,.int .i64 k)],[]⟩) (fun k=>k≤l.length∧∀j < k,∀x,l[j]?=some x→p x=false) (fun k=>l.length - k) 0 hE ?_ ?_ ?_ ?_
  . kernel_rfl
  . exact AU [0,1,7,8] rfl
  . exact ⟨Nat.zero_le _,fun j hj=>by omega⟩
  intro k hkj
  obtain ⟨hk,hj⟩:=hkj
  have hlm:(l.map V.str).length=l.length:=by simp
  by_cases hlt:k < l.length
  . obtain ⟨x,hx⟩:∃x,l[k]?=some x:=⟨_,List.getElem?_eq_getElem hlt⟩
    have hpx:=hp x (List.mem_of_getElem? hx)
    conv=>whnf
    repeat' (first|(refine AN (by first|assumption|omega) ?_;conv=>whnf)|(refine Af (by first|assumption|omega) ?_;conv=>whnf)|(refine AS (by omega) ?_;conv=>whnf)|(refine G5 (by assumption) ?_;conv=>whnf)|(refine AC hpx hC hb ?_ ?_ ?_;kernel_rfl;exact Gl (by kernel_rfl) hc;conv=>whnf)|(refine br (fun h=>?_) (fun h=>?_)<;>conv=>whnf)|(refine AH hE ?_;conv=>whnf))
    . exact ⟨rfl,by rw [EW hx (by assumption) hj]⟩
    . refine AJ [0,1,7,8] (k+1) ⟨hlt,?_⟩ (by omega) rfl
      intro j hjk y hy
      by_cases e:j=k
      . subst e;rw [hx] at hy;cases hy;assumption
      . exact hj j (by omega) y hy
  . conv=>whnf
    repeat' (first|(refine AM (by first|assumption|omega) ?_;conv=>whnf)|(refine AH hE ?_;conv=>whnf))
    exact ⟨rfl,by rw [De (fun x hx=>by obtain ⟨j,hj'⟩:=List.mem_iff_getElem?.1 hx;exact hj j (by have:=(List.getElem?_eq_some_iff.1 hj').1;omega) x hj')]⟩
theorem KB (l:List (List UInt8)) (h:FuncId) (caps:List V) (p:(List UInt8)→Bool) (hb:AD Tryz.prog h=true) (hc:Fw caps=true) (hp:∀a∈l,Fn1 Tryz.prog h (V.str a::caps) (fun r=>r= .bool (p a))):
    Fn1 Tryz.prog 65 [.lst (l.map V.str),.fn h caps] (fun r=>r= .bool (l.any p)):=by
  have hi:=Oy l h caps p hb hc hp
  have ha:=EX p l
  refine A4 (T:=Tryz.tt) Tryz.func65 rfl AR AB ?_ ?_ fun C hC hE=>?_
  . kernel_rfl
  . exact Nat.le_of_ble_eq_true (by kernel_rfl)
  conv=>whnf
  repeat' (first|(refine AC hi hC Ss ?_ ?_ ?_;kernel_rfl;exact LW rfl hc;conv=>whnf)|(refine He (fun h=>?_) (fun h=>?_)<;>conv=>whnf)|(refine AH hE ?_;conv=>whnf))
  all_goals exact ⟨rfl,by rw [←ha];congr 1;first|exact (decide_eq_true (by assumption)).symm|exact (decide_eq_false (by assumption)).symm⟩
theorem VS (l:List (List UInt8)) (q:List UInt8):Fn1 Tryz.prog 88 [.lst (l.map V.str),.str q] (fun r=>r= .int .i64 (GI (fun x=>decide (q=x)) l)):=by
  refine A4 (T:=Tryz.tt) Tryz.func88 rfl AR AB ?_ ?_ fun C hC hE=>?_
  . kernel_rfl
  . exact Nat.le_of_ble_eq_true (by kernel_rfl)
  conv=>whnf
  intro hl
  conv=>whnf
  refine Ae (fun k:Nat=>⟨19,[(0,.lst (l.map V.str)),(1,.str q),(7,.int .i64 (l.map V.str).length),(8,.int .i64 k)],[]⟩) (fun k=>k≤l.length∧∀j < k,∀x,l[j]?=some x→decide (q=x)=false) (fun k=>l.length - k) 0 hE ?_ ?_ ?_ ?_
  . kernel_rfl
  . exact AU [0,1,7,8] rfl
  . exact ⟨Nat.zero_le _,fun j hj=>by omega⟩
  intro k hkj
  obtain ⟨hk,hj⟩:=hkj
  have hlm:(l.map V.str).length=l.length:=by simp
  by_cases hlt:k < l.length
  . obtain ⟨x,hx⟩:∃x,l[k]?=some x:=⟨_,List.getElem?_eq_getElem hlt⟩
    conv=>whnf
    repeat' (first|(refine AN (by first|assumption|omega) ?_;conv=>whnf)|(refine Af (by first|assumption|omega) ?_;conv=>whnf)|(refine AS (by omega) ?_;conv=>whnf)|(refine G5 (by assumption) ?_;conv=>whnf)|(refine He (fun h=>?_) (fun h=>?_)<;>conv=>whnf)|(refine AH hE ?_;conv=>whnf))
    . exact ⟨rfl,by rw [EW hx (decide_eq_true (by assumption)) hj]⟩
    . refine AJ [0,1,7,8] (k+1) ⟨hlt,?_⟩ (by omega) rfl
      intro j hjk y hy
      by_cases e:j=k
      . subst e;rw [hx] at hy;cases hy;exact decide_eq_false (by assumption)
      . exact hj j (by omega) y hy
  . conv=>whnf
    repeat' (first|(refine AM (by first|assumption|omega) ?_;conv=>whnf)|(refine AH hE ?_;conv=>whnf))
    exact ⟨rfl,by rw [De (fun x hx=>by obtain ⟨j,hj'⟩:=List.mem_iff_getElem?.1 hx;exact hj j (by have:=(List.getElem?_eq_some_iff.1 hj').1;omega) x hj')]⟩
theorem Oz (l:List (List UInt8)) (q:List UInt8):Fn1 Tryz.prog 67 [.lst (l.map V.str),.str q] (fun r=>r= .bool (decide (q∈l))):=by
  have ha:=EX (fun x=>decide (q=x)) l
  have hb:decide (q∈l)=l.any (fun x=>decide (q=x)):=by rw [Bool.eq_iff_iff];simp
  refine A4 (T:=Tryz.tt) Tryz.func67 rfl AR AB ?_ ?_ fun C hC hE=>?_
  . kernel_rfl
  . exact Nat.le_of_ble_eq_true (by kernel_rfl)
  conv=>whnf
  repeat' (first|(refine AC (VS _ _) hC Su ?_ ?_ ?_;kernel_rfl;kernel_rfl;conv=>whnf)|(refine He (fun h=>?_) (fun h=>?_)<;>conv=>whnf)|(refine AH hE ?_;conv=>whnf))
  all_goals exact ⟨rfl,by rw [hb,←ha];congr 1;first|exact (decide_eq_true (by assumption)).symm|exact (decide_eq_false (by assumption)).symm⟩
theorem SL (l:List (List UInt8)):∀y∈l.map V.str,y.cells.length=1:=fun y hy=>by
  obtain ⟨x,_,rfl⟩:=List.mem_map.1 hy
  rfl
theorem eC (s:List UInt8):Fn1 Tryz.prog 66 [.str s] (fun r=>r= .bool (!Ez s)):=by
  refine A4 (T:=Tryz.tt) Tryz.func66 rfl AR AB ?_ ?_ fun C hC hE=>?_
  . kernel_rfl
  . exact Nat.le_of_ble_eq_true (by kernel_rfl)
  conv=>whnf
  cases h:Ez s
  all_goals
    have hn:=Nx s
    rw [h] at hn
    repeat' (first|(refine AC (hn) hC MO ?_ ?_ ?_;kernel_rfl;kernel_rfl;conv=>whnf)|(refine AH hE ?_;conv=>whnf))
  all_goals exact ⟨rfl,rfl⟩
set_option maxHeartbeats 8000000 in
theorem SM (l:List (List UInt8)) (hl:l.length≤4) (hn:∀s∈l,Ez s=true) (hd:l.Nodup):Fn1 Tryz.prog 34 [.lst (l.map V.str)] (fun r=>r= .int .i64 0):=by
  have hlm:(l.map V.str).length=l.length:=by simp
  have hcf:=KB l 66 [] (fun s=>!Ez s) (by kernel_rfl) rfl (fun s _=>eC s)
  have h0:(l.any fun s=>!Ez s)=false:=by
    rw [List.any_eq_false]
    intro s hs
    rw [hn s hs]
    simp
  rw [h0] at hcf
  refine A4 (T:=Tryz.tt) Tryz.func34 rfl AR AB ?_ ?_ fun C hC hE=>?_
  . kernel_rfl
  . exact Nat.le_of_ble_eq_true (by kernel_rfl)
  conv=>whnf
  repeat' (first|(refine AM (by first|assumption|omega) ?_;conv=>whnf)|(refine AC (hcf) hC Sk ?_ ?_ ?_;kernel_rfl;kernel_rfl;conv=>whnf)|(intro hlen;conv=>whnf))
  refine Ae (fun i:Nat=>⟨23,[(0,.lst (l.map V.str)),(10,.lst (l.map V.str)),(11,.int .i64 (l.map V.str).length),(12,.int .i64 i)],[]⟩) (fun i=>i≤l.length) (fun i=>l.length - i) 0 hE ?_ ?_ (Nat.zero_le _) ?_
  . kernel_rfl
  . exact AU [0,10,11,12] rfl
  intro i hi
  by_cases hlt:i < l.length
  . obtain ⟨x,hx⟩:∃x,l[i]?=some x:=⟨_,List.getElem?_eq_getElem hlt⟩
    have gx:(l.map V.str)[i]?=some (.str x):=by rw [List.getElem?_map,hx];rfl
    have hcs:=Oz (l.take i) x
    have hno:decide (x∈l.take i)=false:=by
      refine decide_eq_false fun hm=>?_
      obtain ⟨j,hj⟩:=List.mem_iff_getElem?.1 hm
      rw [List.getElem?_take] at hj
      split at hj
      . rename_i hji
        have hjl:=(List.getElem?_eq_some_iff.1 hj).1
        have e1:=(List.getElem?_eq_some_iff.1 hj).2
        have e2:=(List.getElem?_eq_some_iff.1 hx).2
        have:=(List.getElem_inj hd).1 (e1.trans e2.symm)
        omega
      . cases hj
    rw [hno,List.map_take] at hcs
    conv=>whnf
    repeat' (first|(refine AN (by first|assumption|omega) ?_;conv=>whnf)|(refine Af (by first|assumption|omega) ?_;conv=>whnf)|(refine AS (by omega) ?_;conv=>whnf)|(refine AQ (by assumption) ?_;conv=>whnf)|(refine ⟨SL l,?_⟩;conv=>whnf)|(refine AC (hcs) hC Sl ?_ ?_ ?_;kernel_rfl;kernel_rfl;conv=>whnf))
    exact AJ [0,10,11,12] (i+1) hlt (by omega) rfl
  . conv=>whnf
    repeat' (first|(refine AM (by first|assumption|omega) ?_;conv=>whnf)|(refine AH hE ?_;conv=>whnf))
    exact ⟨rfl,rfl⟩
end Go.Proofs.YtkaiffheakalmaaGreatDoor
namespace Go.Proofs.YtkaiffheakalmaaGreatDoor
open Go.RowKit
def O0 (l:List Ty):Nat→Int
  | 0=>-1
  | k+1=>if (l.map Ty.name)[k]?=some [] then (k:Int) else O0 l k
theorem VT (l:List Ty):Fn1 Tryz.prog 36 [.lst (l.map DH)] (fun r=>r= .int .i64 (O0 l l.length)):=by
  have hlm:(l.map DH).length=l.length:=by simp
  refine A4 (T:=Tryz.tt) Tryz.func36 rfl AR AB ?_ ?_ fun C hC hE=>?_
  . kernel_rfl
  . exact Nat.le_of_ble_eq_true (by kernel_rfl)
  conv=>whnf
  repeat' (intro hlen;conv=>whnf)
  refine Ae (fun k:Nat=>⟨19,[(3,.int .i64 (O0 l k)),(6,.lst (l.map DH)),(7,.int .i64 (l.map DH).length),(8,.int .i64 k)],[]⟩) (fun k=>k≤l.length) (fun k=>l.length - k) 0 hE ?_ ?_ (Nat.zero_le _) ?_
  . kernel_rfl
  . exact AU [3,6,7,8] rfl
  intro k hk
  by_cases hlt:k < l.length
  . obtain ⟨⟨a,b,c⟩,hx⟩:∃x,l[k]?=some x:=⟨_,List.getElem?_eq_getElem hlt⟩
    have gx:(l.map DH)[k]?=some (.agg [.str a,.str b,.lst (c.map V.str)]):=by rw [List.getElem?_map,hx];rfl
    have hn:(l.map Ty.name)[k]?=some a:=by rw [List.getElem?_map,hx];rfl
    by_cases ha:a=[]
    . have hs:O0 l (k+1)=k:=by unfold O0;rw [hn,ha,if_pos rfl]
      conv=>whnf
      repeat' (first|(refine AN (by first|assumption|omega) ?_;conv=>whnf)|(refine Af (by first|assumption|omega) ?_;conv=>whnf)|(refine AS (by omega) ?_;conv=>whnf)|(refine AQ (by assumption) ?_;conv=>whnf))
      all_goals first
        | (refine AL [3,6,7,8] [0] (k+1) hlt (by omega) ?_
           conv=>whnf
           rw [hs]
           rfl)
        | (exfalso;simp_all;done)
        | trace_state
    . have hs:O0 l (k+1)=O0 l k:=by
        show (if (l.map Ty.name)[k]?=some [] then (k:Int) else O0 l k)=_
        rw [hn,if_neg (fun e=>ha (by simpa using e))]
      conv=>whnf
      repeat' (first|(refine AN (by first|assumption|omega) ?_;conv=>whnf)|(refine AM (by first|assumption|omega) ?_;conv=>whnf)|(refine Af (by first|assumption|omega) ?_;conv=>whnf)|(refine AS (by omega) ?_;conv=>whnf)|(refine AQ (by assumption) ?_;conv=>whnf))
      all_goals first
        | (exfalso;simp_all;done)
        | (refine AL [3,6,7,8] [0] (k+1) hlt (by omega) ?_
           conv=>whnf
           rw [hs]
           rfl)
        | trace_state
  . obtain rfl:k=l.length:=by omega
    conv=>whnf
    repeat' (first|(refine AM (by first|assumption|omega) ?_;conv=>whnf)|(refine AH hE ?_;conv=>whnf))
    all_goals exact ⟨rfl,rfl⟩
end Go.Proofs.YtkaiffheakalmaaGreatDoor
namespace Go.Proofs.YtkaiffheakalmaaGreatDoor
open Go.RowKit
def iZ:List (List UInt8):=[[100,111,99],[112],[104,49],[117,108],[108,105],[101,109]]
set_option maxHeartbeats 4000000 in
theorem Dk (nm c:List UInt8) (a:List (List UInt8)) (h:nm∈iZ):Fn1 Tryz.prog 33 [.agg [.str nm,.str c,.lst (a.map V.str)]] (fun r=>r= .bool true):=by
  have h6:nm=[100,111,99]∨nm=[112]∨nm=[104,49]∨nm=[117,108]∨nm=[108,105]∨nm=[101,109]:=by simpa [iZ] using h
  rcases h6 with rfl|rfl|rfl|rfl|rfl|rfl
  all_goals
    refine A4 (T:=Tryz.tt) Tryz.func33 rfl AR AB ?_ ?_ fun C hC hE=>?_
    . kernel_rfl
    . exact Nat.le_of_ble_eq_true (by kernel_rfl)
    conv=>whnf
    repeat' (first|(refine He (fun h=>?_) (fun h=>?_)<;>conv=>whnf)|(refine AH hE ?_;conv=>whnf)|(intro hlen;conv=>whnf))
    all_goals first|exact ⟨rfl,rfl⟩|(exfalso;simp_all;done)|trace_state
theorem VU:Fn1 Tryz.prog 33 [.agg [.str [],.str [],.lst (([]:List (List UInt8)).map V.str)]] (fun r=>r= .bool true):=by
  refine A4 (T:=Tryz.tt) Tryz.func33 rfl AR AB ?_ ?_ fun C hC hE=>?_
  . kernel_rfl
  . exact Nat.le_of_ble_eq_true (by kernel_rfl)
  conv=>whnf
  repeat' (first|(refine AN (by first|assumption|omega) ?_;conv=>whnf)|(refine AM (by first|assumption|omega) ?_;conv=>whnf)|(refine He (fun h=>?_) (fun h=>?_)<;>conv=>whnf)|(refine AH hE ?_;conv=>whnf)|(intro hlen;conv=>whnf))
  all_goals first|exact ⟨rfl,rfl⟩|(exfalso;revert h;decide)|(exfalso;clear hE hC;simp at h;done)|trace_state
end Go.Proofs.YtkaiffheakalmaaGreatDoor
namespace Go.Proofs.YtkaiffheakalmaaGreatDoor
open Go.RowKit
theorem O1 (l:List Ty) (h:FuncId) (caps:List V) (p:Ty→Bool) (hb:AD Tryz.prog h=true) (hc:Fw caps=true) (hp:∀a∈l,Fn1 Tryz.prog h (DH a::caps) (fun r=>r= .bool (p a))):
    Fn1 Tryz.prog 64 [.lst (l.map DH),.fn h caps] (fun r=>r= .int .i64 (GI p l)):=by
  refine A4 (T:=Tryz.tt) Tryz.func64 rfl AR AB ?_ ?_ fun C hC hE=>?_
  . kernel_rfl
  . exact Nat.le_of_ble_eq_true (by kernel_rfl)
  conv=>whnf
  intro hl
  conv=>whnf
  refine Ae (fun k:Nat=>⟨19,[(0,.lst (l.map DH)),(1,.fn h caps),(7,.int .i64 (l.map DH).length),(8,.int .i64 k)],[]⟩) (fun k=>k≤l.length∧∀j < k,∀x,l[j]?=some x→p x=false) (fun k=>l.length - k) 0 hE ?_ ?_ ?_ ?_
  . kernel_rfl
  . exact AU [0,1,7,8] rfl
  . exact ⟨Nat.zero_le _,fun j hj=>by omega⟩
  intro k hkj
  obtain ⟨hk,hj⟩:=hkj
  have hlm:(l.map DH).length=l.length:=by simp
  by_cases hlt:k < l.length
  . obtain ⟨x,hx⟩:∃x,l[k]?=some x:=⟨_,List.getElem?_eq_getElem hlt⟩
    have hpx:=hp x (List.mem_of_getElem? hx)
    conv=>whnf
    repeat' (first|(refine AN (by first|assumption|omega) ?_;conv=>whnf)|(refine Af (by first|assumption|omega) ?_;conv=>whnf)|(refine AS (by omega) ?_;conv=>whnf)|(refine G5 (by assumption) ?_;conv=>whnf)|(refine AC hpx hC hb ?_ ?_ ?_;kernel_rfl;exact Gl (by kernel_rfl) hc;conv=>whnf)|(refine br (fun h=>?_) (fun h=>?_)<;>conv=>whnf)|(refine AH hE ?_;conv=>whnf))
    . exact ⟨rfl,by rw [EW hx (by assumption) hj]⟩
    . refine AJ [0,1,7,8] (k+1) ⟨hlt,?_⟩ (by omega) rfl
      intro j hjk y hy
      by_cases e:j=k
      . subst e;rw [hx] at hy;cases hy;assumption
      . exact hj j (by omega) y hy
  . conv=>whnf
    repeat' (first|(refine AM (by first|assumption|omega) ?_;conv=>whnf)|(refine AH hE ?_;conv=>whnf))
    exact ⟨rfl,by rw [De (fun x hx=>by obtain ⟨j,hj'⟩:=List.mem_iff_getElem?.1 hx;exact hj j (by have:=(List.getElem?_eq_some_iff.1 hj').1;omega) x hj')]⟩
theorem KC (l:List Ty) (h:FuncId) (caps:List V) (p:Ty→Bool) (hb:AD Tryz.prog h=true) (hc:Fw caps=true) (hp:∀a∈l,Fn1 Tryz.prog h (DH a::caps) (fun r=>r= .bool (p a))):
    Fn1 Tryz.prog 31 [.lst (l.map DH),.fn h caps] (fun r=>r= .bool (l.any p)):=by
  have hi:=O1 l h caps p hb hc hp
  have ha:=EX p l
  refine A4 (T:=Tryz.tt) Tryz.func31 rfl AR AB ?_ ?_ fun C hC hE=>?_
  . kernel_rfl
  . exact Nat.le_of_ble_eq_true (by kernel_rfl)
  conv=>whnf
  repeat' (first|(refine AC hi hC Sj ?_ ?_ ?_;kernel_rfl;exact LW rfl hc;conv=>whnf)|(refine He (fun h=>?_) (fun h=>?_)<;>conv=>whnf)|(refine AH hE ?_;conv=>whnf))
  all_goals exact ⟨rfl,by rw [←ha];congr 1;first|exact (decide_eq_true (by assumption)).symm|exact (decide_eq_false (by assumption)).symm⟩
theorem HK:∀l:List Mc,BN (l.map Bs)
  | []=>trivial
  | _::l=>⟨⟨trivial,trivial,trivial⟩,HK l⟩
theorem Qh (l:List Ty):∀y∈l.map DH,y.cells.length=3:=fun y hy=>by
  obtain ⟨x,_,rfl⟩:=List.mem_map.1 hy
  rfl
theorem jb (u t:Ty):Fn1 Tryz.prog 32 [DH u,.rp [.str t.name,.str t.content,.lst (t.attrs.map V.str)]] (fun r=>r= .bool (decide (u.name=t.name))):=by
  unfold DH
  refine A4 (T:=Tryz.tt) Tryz.func32 rfl AR AB ?_ ?_ fun C hC hE=>?_
  . kernel_rfl
  . exact Nat.le_of_ble_eq_true (by kernel_rfl)
  conv=>whnf
  repeat' (first|(refine He (fun h=>?_) (fun h=>?_)<;>conv=>whnf)|(refine AH hE ?_;conv=>whnf))
  . exact ⟨rfl,by rw [decide_eq_true (by assumption)]⟩
  . exact ⟨rfl,by rw [decide_eq_false (by assumption)]⟩
theorem jc (n:Int):Fn1 Tryz.prog 38 [.int .i64 n] (fun r=>r= .bool (decide (n=0∨150 < n))):=by
  refine A4 (T:=Tryz.tt) Tryz.func38 rfl AR AB ?_ ?_ fun C hC hE=>?_
  . kernel_rfl
  . exact Nat.le_of_ble_eq_true (by kernel_rfl)
  conv=>whnf
  repeat' (first|(refine He (fun h=>?_) (fun h=>?_)<;>conv=>whnf)|(refine AH hE ?_;conv=>whnf))
  . exact ⟨rfl,by rw [decide_eq_true (by omega)]⟩
  . exact ⟨rfl,by rw [decide_eq_true (by omega)]⟩
  . exact ⟨rfl,by rw [decide_eq_false (by omega)]⟩
set_option maxHeartbeats 16000000 in
theorem YE (l:List Ty) (ms:List Mc) (hlm:ms.length=l.length) (h1:1≤l.length) (hl:l.length≤8) (hname:∀t∈l,t.name=[]∨Ez t.name=true) (hdist:(l.map Ty.name).Nodup)
    (hform:∀t∈l,Fn1 Tryz.prog 33 [DH t] (fun r=>r= .bool true)) (hattr:∀t∈l,t.attrs.length≤4∧(∀s∈t.attrs,Ez s=true)∧t.attrs.Nodup)
    (hmach:∀(i:Nat) (t:Ty) (m:Mc),l[i]?=some t→ms[i]?=some m→Fn1G Tryz.prog GT 35 [.str t.content,.int .i64 (l.map DH).length,.int .i64 (O0 l l.length)] (fun r=>r= .tup [Bs m,.int .i64 0]))
    (R:Nat) (hR:R≤100) (hend:(HG (CP l ms) R (List.replicate l.length 0)).2=false) (hgo:∀k,k < R→(HG (CP l ms) k (List.replicate l.length 0)).2=true)
    (hok:∀k,k < R→∀i m,ms[i]?=some m→L8 (Ip (CP l ms) i (HG (CP l ms) k (List.replicate l.length 0)).1).1 m=true) (hbd:∀k,k < R→∀i m,ms[i]?=some m→∀x∈Nr (Ip (CP l ms) i (HG (CP l ms) k (List.replicate l.length 0)).1).1 m,x≤1000000)
    (hsz:∀x∈(HG (CP l ms) R (List.replicate l.length 0)).1,x≠0∧x≤150):
    Fn1G Tryz.prog GT 16 [.lst (l.map DH)] (fun r=>r= .tup [.rp [.lst (l.map DH),.lst (ms.map Bs),AY (HG (CP l ms) R (List.replicate l.length 0)).1],.int .i64 0]):=by
  have hlM:(l.map DH).length=l.length:=by simp
  have hmM:(ms.map Bs).length=ms.length:=by simp
  have hms:=VI l ms hlm hl R hR hend hgo hok hbd
  generalize (HG (CP l ms) R (List.replicate l.length 0)).1=ZZ at*
  refine Gm (T:=Tryz.tt) Tryz.func16 rfl AR AB ?_ ?_ fun C hC hW hG hE=>?_
  . kernel_rfl
  . exact Nat.le_of_ble_eq_true (by kernel_rfl)
  conv=>whnf
  repeat' (first|(refine AM (by first|assumption|omega) ?_;conv=>whnf)|(intro hlen;conv=>whnf))
  refine Ae (fun j:Nat=>⟨86,[(0,.lst (l.map DH)),(4,.ptr 0 0 0),(21,.lst (l.map DH)),(22,.int .i64 (l.map DH).length),(23,.int .i64 j)],[some (.row 3 [.agg [.lst (l.map DH),.sl 1 0 j,.nils]]),some (.row 2 ((ms.take j).map Bs))]⟩) (fun j=>j≤l.length) (fun j=>l.length - j) 0 hE ?_ ?_ (Nat.zero_le _) ?_
  . kernel_rfl
  . refine CY 0 1 2 rfl rfl (AU [0,4,21,22,23] ?_)
    conv=>whnf
    rfl
  intro j hj
  by_cases hlt:j < l.length
  . obtain ⟨t,ht⟩:∃t,l[j]?=some t:=⟨_,List.getElem?_eq_getElem hlt⟩
    obtain ⟨m,hmm⟩:∃m,ms[j]?=some m:=⟨_,List.getElem?_eq_getElem (by omega)⟩
    have htm:=List.mem_of_getElem? ht
    have htd:List.take j (List.drop 0 ((ms.take j).map Bs))=(ms.take j).map Bs:=by rw [List.drop_zero,List.take_of_length_le (by rw [List.length_map,List.length_take];omega)]
    have hts:(ms.take (j+1)).map Bs=(ms.take j).map Bs++[Bs m]:=by rw [List.take_add_one,hmm,List.map_append];rfl
    have htk:((ms.take j).map Bs).length=j:=by rw [List.length_map,List.length_take];omega
    have gt:(l.map DH)[j]?=some (DH t):=by rw [List.getElem?_map,ht];rfl
    have hfo:=hform t htm
    obtain ⟨ha1,ha2,ha3⟩:=hattr t htm
    have hat:=SM t.attrs ha1 ha2 ha3
    have hla:=VT l
    have hma:=(hmach j t m ht hmm).c hC hW DQ hG
    have hnm:=hname t htm
    have hen:=Nx t.name
    have hcf:=KC (l.take j) 32 [.rp [.str t.name,.str t.content,.lst (t.attrs.map V.str)]] (fun u=>decide (u.name=t.name)) (by kernel_rfl) rfl (fun u _=>jb u t)
    have hno:((l.take j).any fun u=>decide (u.name=t.name))=false:=by
      rw [List.any_eq_false]
      intro u hu
      obtain ⟨i,hi⟩:=List.mem_iff_getElem?.1 hu
      rw [List.getElem?_take] at hi
      split at hi
      . rename_i hij
        simp only [decide_eq_true_eq]
        intro e
        have e1:(l.map Ty.name)[i]?=some u.name:=by rw [List.getElem?_map,hi];rfl
        have e2:(l.map Ty.name)[j]?=some t.name:=by rw [List.getElem?_map,ht];rfl
        have e3:=(List.getElem?_eq_some_iff.1 e1).2
        have e4:=(List.getElem?_eq_some_iff.1 e2).2
        have:=(List.getElem_inj hdist).1 (e3.trans (e.trans e4.symm))
        omega
      . cases hi
    rw [hno,List.map_take] at hcf
    by_cases hn0:t.name=[]
    . conv=>whnf
      repeat' (first|(refine AN (by first|assumption|omega) ?_;conv=>whnf)|(refine Af (by first|assumption|omega) ?_;conv=>whnf)|(refine AS (by omega) ?_;conv=>whnf)|(refine AQ (by assumption) ?_;conv=>whnf)|(refine ⟨Qh l,?_⟩;conv=>whnf)|(refine AC (hcf) hC MP ?_ ?_ ?_;kernel_rfl;kernel_rfl;conv=>whnf)|(refine Ak (AO 2 (z:=3) (els:=[.agg [.str t.name,.str t.content,.lst (t.attrs.map V.str)]]) rfl ⟨⟨trivial,trivial,trivial,trivial⟩,trivial⟩ (AP ?_));conv=>whnf)|(refine AC (hfo) hC MQ ?_ ?_ ?_;kernel_rfl;kernel_rfl;conv=>whnf)|(refine AC (hat) hC MR ?_ ?_ ?_;kernel_rfl;kernel_rfl;conv=>whnf)|(refine IQ (hla) hC MT ?_ ?_ ?_;kernel_rfl;kernel_rfl;conv=>whnf)|(refine NO (hma) hC MS rfl ?_ ?_ ?_;kernel_rfl;kernel_rfl;conv=>whnf)|(refine Af (Nat.le_refl 1) ?_;conv=>whnf)|(refine Af ⟨?_,?_,?_⟩ ?_;(simp only [AT,As,htk]<;>omega);(show _+1≤_;omega);(show (_+1)*_≤_;omega);conv=>whnf)|(refine DO hE [⟨1,[(0,none),(1,none),(2,none),(3,none),(4,none),(5,none),(6,none),(7,none),(8,none),(9,none),(10,some 0)],some 11,[9],[[],[9]],[]⟩,⟨0,[(12,none)],none,[],[[]],[]⟩] ?_ ?_;decide +kernel;conv=>whnf)|(refine DO hE [⟨1,[(0,none),(1,none),(2,none),(3,none),(4,none),(5,none),(6,some 0)],some 7,[0],[[],[0]],[]⟩,⟨0,[(8,none),(9,none)],some 10,[],[[]],[]⟩] ?_ ?_;decide +kernel;conv=>whnf)|(refine Cy ?_;conv=>whnf)|(refine JD ?_ ?_<;>conv=>whnf))
      all_goals
        refine AL [0,4,21,22,23] [2,3,4,5] (j+1) hlt (by omega) ?_
        conv=>whnf
        rw [hts]
        simp only [AZ _ _ (HK _),htd,BD,AA _ (HK _)]
        rfl
    . have hnk:Ez t.name=true:=hnm.resolve_left hn0
      rw [hnk] at hen
      conv=>whnf
      repeat' (first|(refine AN (by first|assumption|omega) ?_;conv=>whnf)|(refine AM (by first|assumption|omega) ?_;conv=>whnf)|(refine Af (by first|assumption|omega) ?_;conv=>whnf)|(refine AS (by omega) ?_;conv=>whnf)|(refine AQ (by assumption) ?_;conv=>whnf)|(refine AC (hen) hC MO ?_ ?_ ?_;kernel_rfl;kernel_rfl;conv=>whnf)|(refine ⟨Qh l,?_⟩;conv=>whnf)|(refine AC (hcf) hC MP ?_ ?_ ?_;kernel_rfl;kernel_rfl;conv=>whnf)|(refine Ak (AO 2 (z:=3) (els:=[.agg [.str t.name,.str t.content,.lst (t.attrs.map V.str)]]) rfl ⟨⟨trivial,trivial,trivial,trivial⟩,trivial⟩ (AP ?_));conv=>whnf)|(refine AC (hfo) hC MQ ?_ ?_ ?_;kernel_rfl;kernel_rfl;conv=>whnf)|(refine AC (hat) hC MR ?_ ?_ ?_;kernel_rfl;kernel_rfl;conv=>whnf)|(refine IQ (hla) hC MT ?_ ?_ ?_;kernel_rfl;kernel_rfl;conv=>whnf)|(refine NO (hma) hC MS rfl ?_ ?_ ?_;kernel_rfl;kernel_rfl;conv=>whnf)|(refine Af (Nat.le_refl 1) ?_;conv=>whnf)|(refine Af ⟨?_,?_,?_⟩ ?_;(simp only [AT,As,htk]<;>omega);(show _+1≤_;omega);(show (_+1)*_≤_;omega);conv=>whnf)|(refine DO hE [⟨1,[(0,none),(1,none),(2,none),(3,none),(4,none),(5,none),(6,none),(7,none),(8,none),(9,none),(10,some 0)],some 11,[9],[[],[9]],[]⟩,⟨0,[(12,none)],none,[],[[]],[]⟩] ?_ ?_;decide +kernel;conv=>whnf)|(refine DO hE [⟨1,[(0,none),(1,none),(2,none),(3,none),(4,none),(5,none),(6,some 0)],some 7,[0],[[],[0]],[]⟩,⟨0,[(8,none),(9,none)],some 10,[],[[]],[]⟩] ?_ ?_;decide +kernel;conv=>whnf)|(refine Cy ?_;conv=>whnf)|(refine JD ?_ ?_<;>conv=>whnf))
      all_goals
        refine AL [0,4,21,22,23] [2,3,4,5] (j+1) hlt (by omega) ?_
        conv=>whnf
        rw [hts]
        simp only [AZ _ _ (HK _),htd,BD,AA _ (HK _)]
        rfl
  . obtain rfl:j=l.length:=by omega
    have htl:ms.take l.length=ms:=List.take_of_length_le (by omega)
    rw [htl]
    conv=>whnf
    repeat' (refine AM (by first|assumption|omega) ?_;conv=>whnf)
    refine Ak (AO 1 (z:=2) (els:=ms.map Bs) rfl (HK ms) (Ax [some (.row 3 [.agg [.lst (l.map DH),.lst (ms.map Bs),.nils]]),none] ?_ (AP ?_)))
    . conv=>whnf
      have e1:(V.sl 1 0 l.length).frz 1 (ms.map Bs)= .lst (ms.map Bs):=BY 1 _ (by omega)
      have fa:∀id els l,(V.agg l).frz id els= .agg (An id els l):=fun _ _ _=>by simp only [V.frz]
      have fl:∀id els l,(V.lst l).frz id els= .lst l:=fun _ _ _=>by simp only [V.frz]
      simp only [An,fa,e1,fl]
      rfl
    have hcf:=ED ZZ 38 [] (fun n=>decide (n=0∨150 < n)) (by kernel_rfl) rfl (fun n _=>jc n)
    have hno:(ZZ.any fun n=>decide (n=0∨150 < n))=false:=by
      rw [List.any_eq_false]
      intro n hn
      have:=hsz n hn
      simp only [decide_eq_true_eq]
      omega
    rw [hno] at hcf
    conv=>whnf
    refine TZ hms hC Sb rfl ⟨_,_,rfl,⟨Nat.zero_lt_succ _,rfl⟩,rfl⟩ (fun j o ho=>?_) [] (fun j hj _=>?_) (fun j hj=>by simp at hj) (En _ trivial) (fun j o ho=>?_) rfl ?_
    . match j,ho with
      | 0,ho=>cases ho;exact ⟨rfl,Hp ⟨⟨trivial,trivial,trivial,trivial⟩,trivial⟩⟩
      | j+1,ho=>simp at ho
    . have:j < 1:=hj
      simp;omega
    . match j,ho with
      | 0,ho=>cases ho;exact Hp ⟨⟨trivial,trivial,trivial,trivial⟩,trivial⟩
      | j+1,ho=>simp at ho
    unfold AY
    conv=>whnf
    repeat' (first|(refine AC (hcf) hC Hz ?_ ?_ ?_;kernel_rfl;kernel_rfl;conv=>whnf)|(refine Ca (AO 0 (z:=3) (els:=[.agg [.lst (l.map DH),.lst (ms.map Bs),.lst (ZZ.map (V.int .i64))]]) rfl ⟨⟨trivial,trivial,trivial,trivial⟩,trivial⟩ (AP (AH hE ?_)));conv=>whnf))
    exact ⟨rfl,rfl⟩
end Go.Proofs.YtkaiffheakalmaaGreatDoor
namespace Go.Proofs.YtkaiffheakalmaaGreatDoor
open Go.RowKit
theorem SN (ty au:List V) (Z:List Int) (hty:BN ty) (hnew:Fn1G Tryz.prog GT 16 [.lst ty] (fun r=>r= .tup [.rp [.lst ty,.lst au,AY Z],.int .i64 0])):
    Fn1G Tryz.prog GT 8 [.lst ty] (fun r=>r= .tup [AY Z,.int .i64 0]):=by
  refine Gm (T:=Tryz.tt) Tryz.func8 rfl AR AB ?_ ?_ fun C hC hW hG hE=>?_
  . kernel_rfl
  . exact Nat.le_of_ble_eq_true (by kernel_rfl)
  conv=>whnf
  have hn:=hnew.c hC hW DQ hG
  unfold AY at hn ⊢
  repeat' (first|(refine AN (by first|assumption|omega) ?_;conv=>whnf)|(refine Cx (hn) hC SX rfl ?_ ?_ ?_;kernel_rfl;kernel_rfl;conv=>whnf)|(refine AH hE ?_;conv=>whnf))
  exact ⟨rfl,rfl⟩
end Go.Proofs.YtkaiffheakalmaaGreatDoor
