/- Joined. No conditions. -/
import Derived.Test.YtkaiffheakalmaaGreatDoorJ9ai
set_option linter.unusedSimpArgs false
set_option linter.unusedVariables false
set_option maxRecDepth 100000
namespace Go.Proofs.YtkaiffheakalmaaGreatDoor
open Go.RowKit
def Er (σ:ES) (h:List (Option Ob)) (K:ES→Prop):Prop:=match σ with|⟨n,u,_⟩=>K ⟨n,u,h⟩
theorem Bx (σ:ES) (h:List (Option Ob)) (K:ES→Prop):Er σ h K=K ⟨σ.n,σ.u,h⟩:=rfl
def MI (v:V) (K:Nat→Prop):Prop:=match v with|.int _ n=>AskD (0≤n) (K n.toNat)|_=>False
theorem Cq {v:V} {K:Nat→Prop} (h:MI v K):∃k n,v= .int k n∧0≤n∧K n.toNat:=by
 cases v with
 | int k n=>exact ⟨k,n,rfl,h.1,h.2⟩
 | _=>exact h.elim
def TM (σ:ES) (id:Nat) (K:Nat→List V→Prop):Prop:=Nq σ.heap[id]? fun o=>match o with|some (.row z els)=>K z els|_=>False
theorem D2 {σ:ES} {id:Nat} {K:Nat→List V→Prop} (h:TM σ id K):∃z els,σ.st.row id=some (z,els)∧K z els:=by
 obtain ⟨o,h1,h2⟩:=BW h
 cases o with
 | none=>exact h2.elim
 | some o=>
   cases o with
   | row z els=>exact ⟨z,els,by simp [St.row,ES.st,h1],h2⟩
   | _=>exact h2.elim
def kK (op:UnOp) (x:V) (K:V→Prop):Prop:=
 match op with
 | .not=>match x with|.bool b=>K (.bool (!b))|_=>False
 | .neg=>match x with|.int k n=>N3 k (0 - n) K|_=>False
 | _=>False
def ee (σ:ES) (z:Nat) (x:V) (K:List V→Prop):Prop:=
 match x with
 | .lst l=>(∀y∈l,y.cells.length=z)∧K l
 | .nils=>K []
 | .sl id off n=>TM σ id fun z' els=>Br (Nat.beq z' z) (AskD (off+n≤els.length) (K ((els.drop off).take n))) False
 | .str b=>Br (Nat.beq z 1) (K (b.map fun c=>.int .u8 c.toNat)) False
 | _=>False
def eConv (T:TT) (q:Bool) (σ:ES) (s d:TypeId) (x:V) (K:V→Prop):Prop:=
 match x with
 | .int _ n=>match (T.get d).ik with
   | some k=>Br (T.get s).un (N3 k n K) False
   | none=>False
 | .str l=>Br (T.get d).str (Br (T.get s).str (K (.str l)) False) False
 | .lst l=>eBytes T σ s d (.lst l) K
 | .sl a b c=>match q with|true=>False|false=>eBytes T σ s d (.sl a b c) K
 | .nils=>match q with|true=>False|false=>eBytes T σ s d .nils K
 | _=>False
where eBytes (T:TT) (σ:ES) (s d:TypeId) (x:V) (K:V→Prop):Prop:=
 match (T.get s).ei with
 | some (e,z)=>match (T.get e).ik with
   | some k=>Br (Nat.beq z 1) (Br (Nr k .u8) (Br (T.get d).str (ee σ 1 x fun els=>∃bs:List UInt8,els=bs.map F9∧bs.length≤9223372036854775807∧K (.str bs)) False) False) False
   | none=>False
 | none=>False
def du (x:V) (i:Nat) (K:V→Prop):Prop:=match x with|.tup l=>Nq l[i]? fun y=>K y|_=>False
def eg (T:TT) (s:TypeId) (x:V) (f:Nat) (K:V→Prop):Prop:=
 match x with
 | .agg cs=>match (T.get s).fi[f]? with
   | some (some (off,b,n))=>Br (b || Nat.beq n 1) (Br (decide (off+n≤cs.length)) (K (Sr b ((cs.drop off).take n))) False) False
   | _=>False
 | _=>False
def eh (T:TT) (t:TypeId) (x i:V) (K:V→Prop):Prop:=
 match x with
 | .str s=>Br (T.get t).str (MI i fun n=>Nq s[n]? fun c=>K (.int .u8 c.toNat)) False
 | .agg cs=>match (T.get t).ai with
   | some (m,b,z)=>Br (b || Nat.beq z 1) (MI i fun n=>AskD (n < m) (AskD (n*z+z≤cs.length) (K (Sr b ((cs.drop (n*z)).take z))))) False
   | none=>False
 | _=>False
def Ya (lo hi:Option V) (len:Nat) (K:Option Nat→Option Nat→Prop):Prop:=
 match lo with
 | none=>match hi with
   | none=>K none none
   | some h=>MI h fun h=>AskD (h≤len) (K none (some h))
 | some l=>match hi with
   | none=>MI l fun l=>AskD (l≤len) (K (some l) none)
   | some h=>MI l fun l=>MI h fun h=>AskD (l≤h) (AskD (h≤len) (K (some l) (some h)))
def kZ {α:Type} (l:List α) (lo hi:Option Nat):List α:=
 match lo with
 | none=>match hi with
   | none=>l
   | some h=>l.take h
 | some k=>match hi with
   | none=>l.drop k
   | some h=>(l.take h).drop k
def MJ (T:TT) (σ:ES) (t:TypeId) (x:V) (lo hi:Option V) (K:V→Prop):Prop:=
 match x with
 | .str s=>Br (T.get t).str (Ya lo hi s.length fun l h=>match l with
   | none=>match h with|none=>K (.str s)|some h=>K (.str (s.take h))
   | some l=>match h with|none=>K (.str (s.drop l))|some h=>K (.str ((s.take h).drop l))) False
 | .lst s=>match (T.get t).ei with
   | some (_,z)=>(∀y∈s,y.cells.length=z)∧Ya lo hi s.length fun l h=>match l with
     | none=>match h with|none=>K (.lst s)|some h=>K (.lst (s.take h))
     | some l=>match h with|none=>K (.lst (s.drop l))|some h=>K (.lst ((s.take h).drop l))
   | none=>False
 | .sl id off n=>match (T.get t).ei with
   | some (_,z)=>TM σ id fun z' _=>Br (Nat.beq z z') (Ya lo hi n fun l h=>match l with
     | none=>match h with|none=>K (.sl id off n)|some h=>K (.sl id off h)
     | some l=>match h with|none=>K (.sl id (off+l) (n - l))|some h=>K (.sl id (off+l) (h - l))) False
   | none=>False
 | .gp g=>match (T.get t).ai with
   | some (m,_,_)=>(match lo with|none=>(match hi with|none=>Br (Nat.ble m 1000000) (K (.gsl g m)) False|some _=>False)|some _=>False)
   | none=>False
 | _=>False
def GD (T:TT) (σ:ES) (t:TypeId) (x i:V) (K:V→Prop):Prop:=
 match x with
 | .lst l=>match (T.get t).ei with
   | some (_,z)=>MI i fun n=>Nq l[n]? fun y=>Br (Nat.beq y.cells.length z) (K (.rp y.cells)) False
   | none=>False
 | .sl id off len=>match (T.get t).ei with
   | some (_,z)=>TM σ id fun z' _=>Br (Nat.beq z z') (MI i fun n=>AskD (n < len) (K (.ptr id (off+n) 0))) False
   | none=>False
 | .ptr id a b=>match (T.get t).ai with
   | some (m,_,z)=>MI i fun n=>AskD (n < m) (K (.ptr id a (b+n*z)))
   | none=>False
 | .rp l=>match (T.get t).ai with
   | some (m,_,z)=>MI i fun n=>AskD (n < m) (K (.rp (l.drop (n*z))))
   | none=>False
 | _=>False
def MK (T:TT) (s:TypeId) (x:V) (f:Nat) (K:V→Prop):Prop:=
 match (T.get s).fi[f]? with
 | some (some (off,_,_))=>match x with
   | .rp l=>K (.rp (l.drop off))
   | .ptr id i j=>K (.ptr id i (j+off))
   | _=>False
 | _=>False
def RC (T:TT) (σ:ES) (t:TypeId) (p:V) (K:V→Prop):Prop:=
 match (T.get t).ti with
 | some (b,n)=>Br (b || Nat.beq n 1) (match p with
   | .rp l=>Br (decide (n≤l.length)) (K (Sr b (l.take n))) False
   | .ptr id i j=>TM σ id fun _ els=>Nq els[i]? fun x=>Br (decide (j+n≤x.cells.length)) (K (Sr b ((x.cells.drop j).take n))) False
   | _=>False) False
 | none=>False
def TN (T:TT) (t:TypeId) (p v:V) (K:V→ES→Prop) (σ:ES):Prop:=
 match (T.get t).ti with
 | some (_,n)=>Br v.one (Br (Nat.beq v.cells.length n) (Br (Nat.beq n 0) False (match p with
   | .ptr id i j=>TM σ id fun z els=>Nq els[i]? fun x=>Br (decide (j+n≤x.cells.length)) (fV (x.setCells j v.cells) fun x'=>fH (σ.heap.set id (some (.row z (els.set i x')))) fun h=>Er σ h fun σ'=>K .any σ') False
   | _=>False)) False) False
 | none=>False
def ML (σ:ES) (o:Ob) (K:Nat→ES→Prop):Prop:=nF (AG σ.heap) fun id=>fH (Ag σ.heap o) fun h=>Er σ h fun σ'=>K id σ'
def ej (T:TT) (t:TypeId) (v:V) (K:V→ES→Prop) (σ:ES):Prop:=
 match (T.get t).ti with
 | some (_,n)=>Br v.one (Br (Nat.beq v.cells.length n) (ML σ (.row n [v]) fun id σ=>K (.ptr id 0 0) σ) False) False
 | none=>False
def TO (T:TT) (t:TypeId) (K:V→ES→Prop) (σ:ES):Prop:=
 match (T.get t).zv with
 | some x=>ML σ (U2 t x) fun id σ=>K (.ptr id 0 0) σ
 | none=>False
def TP (T:TT) (t:TypeId) (ps:List (Nat×V)) (K:V→Prop):Prop:=
 match (T.get t).si with
 | some pl=>match (T.get t).zv with
   | some (.agg c0)=>Nq (I3 (fun i=>pl[i]?) c0 ps) fun cs=>K (.agg cs)
   | _=>False
 | none=>False
def js (fn:Fn) (first cap:List V) (K:V→Prop):Prop:=match fn with|.func f=>(match first with|[]=>K (.fn f cap)|_=>False)|_=>False
def Yb (x:V) (K:V→Prop):Prop:=match x with|.ptr id i j=>K (.ptr id i j)|.rp l=>K (.rp l)|.fn f l=>K (.fn f l)|_=>False
def Yc (T:TT) (t:TypeId) (x:V) (K:V→ES→Prop) (σ:ES):Prop:=match x with|.str s=>Br (T.get t).str (ML σ (.iter s 0) fun id σ=>K (.it id) σ) False|_=>False
def dv (x:V) (isS:Bool) (K:V→ES→Prop) (σ:ES):Prop:=
 match x with
 | .it id=>Br isS (Nq σ.heap[id]? fun o=>match o with
   | some (.iter s pos)=>BrD (pos < s.length) (fH (σ.heap.set id (some (.iter s (pos+(YV s pos).2)))) fun h=>Er σ h fun σ'=>K (.tup [.bool true,.int .i64 pos,.int .i32 (YV s pos).1]) σ') (K (.tup [.bool false]) σ)
   | _=>False) False
 | _=>False
def Pe (T:TT) (t:TypeId) (n:Nat) (ps:List (Nat×V)) (K:V→ES→Prop) (σ:ES):Prop:=
 match (T.get t).ei with
 | some (e,z)=>match (T.get e).zok with
   | some z'=>Br (Nat.beq z' z) (Br (decide (ps.map (·.1)=List.range n)) (Br (decide (n*z≤16777216)) (Br ((ps.map (·.2)).all fun v=>v.one&&Nat.beq v.cells.length z)
     (dr (ps.map (·.2)) fun vs=>ML σ (.row z vs) fun id σ=>K (.sl id 0 n) σ) False) False) False) False
   | none=>False
 | none=>False
def Yd (by':Nat) (z:Nat) (s:V) (K:V→ES→Prop) (σ:ES) (news:List V):Prop:=
 match s with
 | .nils=>AskD (news.length≤9223372036854775807∧news.length*by'≤140737488355328) (ML σ (.row z news) fun id σ=>K (.sl id 0 news.length) σ)
 | .sl id off n=>TM σ id fun z' els=>Br (Nat.beq z' z) (AskD (off+n≤els.length∧n+news.length≤9223372036854775807∧(n+news.length)*by'≤140737488355328)
    (Fv id σ.u fun u=>fH ((BC id σ.heap).set id (some (.row z (AF id ((els.drop off).take n++news))))) fun h=>Er σ h fun σ'=>(match σ' with|⟨m,_,h⟩=>K (.sl id 0 (n+news.length)) ⟨m,u,h⟩))) False
 | _=>False
def ek (T:TT) (t t':TypeId) (s x:V) (K:V→ES→Prop) (σ:ES):Prop:=
 match (T.get t).ei with
 | some (e,z)=>match (T.get e).zok with
   | some z'=>match (T.get e).by' with
     | some n=>Br (Nat.beq z' z) (Br (T.get t').ni (ee σ z x (Yd n z s K σ)) False) False
     | none=>False
   | none=>False
 | none=>False
def el (T:TT) (q:Bool) (t:TypeId) (x:V) (K:V→Prop):Prop:=
 match x with
 | .str s=>Br (T.get t).str (match q with|true=>K (.int .i64 s.length)|false=>s.length≤9223372036854775807→K (.int .i64 s.length)) False
 | .lst l=>Br (T.get t).sli (match q with|true=>K (.int .i64 l.length)|false=>l.length≤9223372036854775807→K (.int .i64 l.length)) False
 | .nils=>Br (T.get t).sli (K (.int .i64 0)) False
 | .sl _ _ n=>Br (T.get t).sli (match q with|true=>K (.int .i64 n)|false=>n≤9223372036854775807→K (.int .i64 n)) False
 | _=>False
def jb (v:V):Bool:=match v with|.int _ n=>decide (n=0)|_=>false
def dw (T:TT) (t:TypeId) (x h m:V) (K:V→ES→Prop) (σ:ES):Prop:=
 Br (jb h&&jb m&&YX x) (match (T.get t).ei with
  | some (_,z)=>ML σ (.row z []) fun id σ=>K (.sl id 0 0) σ
  | none=>False) False
def Ye (T:TT) (t:TypeId) (l c:V) (K:V→ES→Prop) (σ:ES):Prop:=
 match (T.get t).ei with
 | some (e,z)=>match (T.get e).zv with
   | some x=>match (T.get e).zok with
     | some z'=>match (T.get e).by' with
       | some by'=>Br (Nat.beq z' z&&Nat.beq x.cells.length z) (match l with
         | .int _ n=>(match c with
           | .int _ m=>AskD (0≤n∧n≤m∧(by':Int)*m≤281474976710656∧m≤9223372036854775807) (ML σ (.row z (List.replicate n.toNat x)) fun id σ=>K (.sl id 0 n.toNat) σ)
           | _=>False)
         | _=>False) False
       | none=>False
     | none=>False
   | none=>False
 | none=>False
def Fb (K:V→ES→Prop):V→St→Prop:=fun r s=>∃σ:ES,s=σ.st∧K r σ
theorem DH {K:V→ES→Prop} {r:V} {σ:ES} (h:K r σ):Fb K r σ.st:=⟨σ,rfl,h⟩
structure CallN (C:Ctx) (fop:Operand) (args:List Operand) (f:FuncId) (xs:List V) (K:V→ES→Prop) (σ:ES):Prop where
 out:Qx C fop args (Fb K) σ.st
structure CallNQ (C:Ctx) (fop:Operand) (args:List Operand) (f:FuncId) (xs:List V) (K:V→ES→Prop) (σ:ES):Prop where
 out:Gw C fop args (Fb K) σ.st
def U3 (C:Ctx) (q:Bool) (fop:Operand) (args:List Operand) (K:V→ES→Prop) (σ:ES):Prop:=
 match σ.val fop with
 | .fn f caps=>dr (args.map σ.val) fun xs=>match q with|true=>CallNQ C fop args f (xs++caps) K σ|false=>CallN C fop args f (xs++caps) K σ
 | _=>False
def RD (T:TT) (q:Bool) (b:Builtin) (args:List Operand) (ts:List TypeId) (K:V→ES→Prop) (σ:ES):Prop:=
 match b with
 | .len=>(match args with|[x]=>(match ts with|[t]=>el T q t (σ.val x) fun r=>K r σ|_=>False)|_=>False)
 | .append=>(match args with|[s,x]=>(match ts with|[t,t']=>ek T t t' (σ.val s) (σ.val x) K σ|_=>False)|_=>False)
 | .max=>(match args with|[x,y]=>(match σ.val x with|.int k a=>(match σ.val y with|.int _ b=>K (.int k (TD a b)) σ|_=>False)|_=>False)|_=>False)
 | .min=>(match args with|[x,y]=>(match σ.val x with|.int k a=>(match σ.val y with|.int _ b=>K (.int k (TE a b)) σ|_=>False)|_=>False)|_=>False)
 | _=>False
structure OpN (C:Ctx) (op:Op) (K:V→ES→Prop) (σ:ES):Prop where
 out:∀o:Oper,o.op=op→Bc C o σ.st (Fb K)
def JD (C:Ctx) (q:Bool) (op:Op) (K:V→ES→Prop) (σ:ES):Prop:=match q with|true=>False|false=>OpN C op K σ
def Yf (T:TT) (s d:TypeId) (b:List UInt8) (K:V→ES→Prop) (σ:ES):Prop:=
 match (T.get d).ei with
 | some (e,z)=>match (T.get e).ik with
   | some k=>Br (Nat.beq z 1) (Br (Nr k .u8) (Br (T.get s).str (ML σ (.row 1 (b.map F9)) fun id σ=>K (.sl id 0 b.length) σ) False) False) False
   | none=>False
 | none=>False
def BF (T:TT) (C:Ctx) (q:Bool) (op:Op) (K:V→ES→Prop) (σ:ES):Prop:=
 match op with
 | .move x=>K (σ.val x) σ
 | .assign x=>K (σ.val x) σ
 | .pick c a b=>jr (σ.val c) fun t=>Br t (K (σ.val a) σ) (K (σ.val b) σ)
 | .binOp op t x y t'=>(match σ.val x with
   | .nili=>JD C q (.binOp op t x y t') K σ
   | .ifi _ _ _=>JD C q (.binOp op t x y t') K σ
   | .ifx=>JD C q (.binOp op t x y t') K σ
   | v=>eBin T q t op v (σ.val y) fun r=>K r σ)
 | .unOp op _ x=>kK op (σ.val x) fun r=>K r σ
 | .convert s d x=>(match σ.val x with
   | .str b=>(match (T.get d).str with
     | true=>eConv T q σ s d (.str b) fun r=>K r σ
     | false=>(match q with|true=>False|false=>Yf T s d b K σ))
   | .int k n=>(match (T.get d).str with
     | true=>JD C q (.convert s d x) K σ
     | false=>eConv T q σ s d (.int k n) fun r=>K r σ)
   | v=>eConv T q σ s d v fun r=>K r σ)
 | .extract x i=>du (σ.val x) i fun r=>K r σ
 | .field s x f=>eg T s (σ.val x) f fun r=>K r σ
 | .index t x i=>eh T t (σ.val x) (σ.val i) fun r=>K r σ
 | .slice t x lo hi mx=>(match mx with|none=>MJ T σ t (σ.val x) (lo.map σ.val) (hi.map σ.val) fun r=>K r σ|some m=>(match lo with|none=>(match hi with|some h=>dw T t (σ.val x) (σ.val h) (σ.val m) K σ|none=>False)|some _=>False))
 | .makeSlice t l c=>Ye T t (σ.val l) (σ.val c) K σ
 | .indexAddr t x i=>GD T σ t (σ.val x) (σ.val i) fun r=>K r σ
 | .fieldAddr s x f=>MK T s (σ.val x) f fun r=>K r σ
 | .load t x=>RC T σ t (σ.val x) fun r=>K r σ
 | .store t x y=>TN T t (σ.val x) (σ.val y) K σ
 | .box t x=>ej T t (σ.val x) K σ
 | .alloc t=>TO T t K σ
 | .build t ps=>TP T t (ps.toList.map fun p=>(p.1,σ.val p.2)) fun r=>K r σ
 | .makeFunc fn first cap=>bG (cap.toList.map σ.val) fun cap=>js fn (first.toList.map σ.val) cap fun r=>K r σ
 | .nilCheck x=>Yb (σ.val x) fun r=>K r σ
 | .range t x=>(match q with|true=>False|false=>Yc T t (σ.val x) K σ)
 | .next x b=>(match q with|true=>False|false=>dv (σ.val x) b K σ)
 | .buildSlice t n ps=>Pe T t n (ps.toList.map fun p=>(p.1,σ.val p.2)) K σ
 | .call c=>(match c.callee with
   | .builtin b=>(match b with
     | .copy=>JD C q (.call c) K σ
     | .clear=>JD C q (.call c) K σ
     | .cap=>JD C q (.call c) K σ
     | .len=>(match c.args.toList with|[x]=>(match c.argTypes.toList with|[t]=>(match σ.val x with|.it _=>JD C q (.call c) K σ|v=>el T q t v fun r=>K r σ)|_=>False)|_=>False)
     | b=>RD T q b c.args.toList c.argTypes.toList K σ)
   | .value f=>U3 C q f c.args.toList K σ
   | _=>False)
 | .makeMap t r=>JD C q (.makeMap t r) K σ
 | .makeInterface t x=>JD C q (.makeInterface t x) K σ
 | .insert t m k x=>JD C q (.insert t m k x) K σ
 | .mapUpdate t m k x=>JD C q (.mapUpdate t m k x) K σ
 | .lookup t m k b=>JD C q (.lookup t m k b) K σ
 | _=>False
end Go.Proofs.YtkaiffheakalmaaGreatDoor
