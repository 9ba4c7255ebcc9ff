/- Copied, stripped. No conditions. -/
import Derived.Test.YtkaiffheakalmaaGreatDoorU9Awq
set_option linter.unusedSimpArgs false
set_option linter.unusedVariables false
set_option maxRecDepth 100000
namespace Go.Proofs.YtkaiffheakalmaaGreatDoor
open Go.RowKit
def Gb (σ:ES) (h:List (Option Ob)) (K:ES→Prop):Prop:=match σ with|⟨n,u,_⟩=>K ⟨n,u,h⟩
theorem Cu (σ:ES) (h:List (Option Ob)) (K:ES→Prop):Gb σ h K=K ⟨σ.n,σ.u,h⟩:=rfl
def LC (v:V) (K:Nat→Prop):Prop:=match v with|.int _ n=>AskD (0≤n) (K n.toNat)|_=>False
theorem CT {v:V} {K:Nat→Prop} (h:LC v K):∃k n,v= .int k n∧0≤n∧K n.toNat:=by
  cases v with
  | int k n=>exact ⟨k,n,rfl,h.1,h.2⟩
  | _=>exact h.elim
def RN (σ:ES) (id:Nat) (K:Nat→List V→Prop):Prop:=Qu σ.heap[id]? fun o=>match o with|some (.row z els)=>K z els|_=>False
theorem Dc {σ:ES} {id:Nat} {K:Nat→List V→Prop} (h:RN σ id K):∃z els,σ.st.row id=some (z,els)∧K z els:=by
  obtain ⟨o,h1,h2⟩:=Bx h
  cases o with
  | none=>exact h2.elim
  | some o=>
    cases o with
    | row z els=>exact ⟨z,els,by simp [St.row,ES.st,h1],h2⟩
    | _=>exact h2.elim
def je (op:UnOp) (x:V) (K:V→Prop):Prop:=
  match op with
  | .not=>match x with|.bool b=>K (.bool (!b))|_=>False
  | .neg=>match x with|.int k n=>Mq k (0 - n) K|_=>False
  | _=>False
def dH (σ:ES) (z:Nat) (x:V) (K:List V→Prop):Prop:=
  match x with
  | .lst l=>(∀y∈l,y.cells.length=z)∧K l
  | .nils=>K []
  | .sl id off n=>RN σ id fun z' els=>Br (Nat.beq z' z) (AskD (off+n≤els.length) (K ((els.drop off).take n))) False
  | .str b=>Br (Nat.beq z 1) (K (b.map fun c=>.int .u8 c.toNat)) False
  | _=>False
def eConv (T:TT) (q:Bool) (σ:ES) (s d:TypeId) (x:V) (K:V→Prop):Prop:=
  match x with
  | .int _ n=>match (T.get d).ik with
    | some k=>Br (T.get s).un (Mq k n K) False
    | none=>False
  | .str l=>Br (T.get d).str (Br (T.get s).str (K (.str l)) False) False
  | .lst l=>eBytes T σ s d (.lst l) K
  | .sl a b c=>match q with|true=>False|false=>eBytes T σ s d (.sl a b c) K
  | .nils=>match q with|true=>False|false=>eBytes T σ s d .nils K
  | _=>False
where eBytes (T:TT) (σ:ES) (s d:TypeId) (x:V) (K:V→Prop):Prop:=
  match (T.get s).ei with
  | some (e,z)=>match (T.get e).ik with
    | some k=>Br (Nat.beq z 1) (Br (Me k .u8) (Br (T.get d).str (dH σ 1 x fun els=>∃bs:List UInt8,els=bs.map Fd∧bs.length≤9223372036854775807∧K (.str bs)) False) False) False
    | none=>False
  | none=>False
def cP (x:V) (i:Nat) (K:V→Prop):Prop:=match x with|.tup l=>Qu l[i]? fun y=>K y|_=>False
def dI (T:TT) (s:TypeId) (x:V) (f:Nat) (K:V→Prop):Prop:=
  match x with
  | .agg cs=>match (T.get s).fi[f]? with
    | some (some (off,b,n))=>Br (b || Nat.beq n 1) (Br (decide (off+n≤cs.length)) (K (Qz b ((cs.drop off).take n))) False) False
    | _=>False
  | _=>False
def dJ (T:TT) (t:TypeId) (x i:V) (K:V→Prop):Prop:=
  match x with
  | .str s=>Br (T.get t).str (LC i fun n=>Qu s[n]? fun c=>K (.int .u8 c.toNat)) False
  | .agg cs=>match (T.get t).ai with
    | some (m,b,z)=>Br (b || Nat.beq z 1) (LC i fun n=>AskD (n < m) (AskD (n*z+z≤cs.length) (K (Qz b ((cs.drop (n*z)).take z))))) False
    | none=>False
  | _=>False
def WN (lo hi:Option V) (len:Nat) (K:Option Nat→Option Nat→Prop):Prop:=
  match lo with
  | none=>match hi with
    | none=>K none none
    | some h=>LC h fun h=>AskD (h≤len) (K none (some h))
  | some l=>match hi with
    | none=>LC l fun l=>AskD (l≤len) (K (some l) none)
    | some h=>LC l fun l=>LC h fun h=>AskD (l≤h) (AskD (h≤len) (K (some l) (some h)))
def jh {α:Type} (l:List α) (lo hi:Option Nat):List α:=
  match lo with
  | none=>match hi with
    | none=>l
    | some h=>l.take h
  | some k=>match hi with
    | none=>l.drop k
    | some h=>(l.take h).drop k
def LD (T:TT) (σ:ES) (t:TypeId) (x:V) (lo hi:Option V) (K:V→Prop):Prop:=
  match x with
  | .str s=>Br (T.get t).str (WN lo hi s.length fun l h=>match l with
    | none=>match h with|none=>K (.str s)|some h=>K (.str (s.take h))
    | some l=>match h with|none=>K (.str (s.drop l))|some h=>K (.str ((s.take h).drop l))) False
  | .lst s=>match (T.get t).ei with
    | some (_,z)=>(∀y∈s,y.cells.length=z)∧WN lo hi s.length fun l h=>match l with
      | none=>match h with|none=>K (.lst s)|some h=>K (.lst (s.take h))
      | some l=>match h with|none=>K (.lst (s.drop l))|some h=>K (.lst ((s.take h).drop l))
    | none=>False
  | .sl id off n=>match (T.get t).ei with
    | some (_,z)=>RN σ id fun z' _=>Br (Nat.beq z z') (WN lo hi n fun l h=>match l with
      | none=>match h with|none=>K (.sl id off n)|some h=>K (.sl id off h)
      | some l=>match h with|none=>K (.sl id (off+l) (n - l))|some h=>K (.sl id (off+l) (h - l))) False
    | none=>False
  | .gp g=>match (T.get t).ai with
    | some (m,_,_)=>(match lo with|none=>(match hi with|none=>Br (Nat.ble m 1000000) (K (.gsl g m)) False|some _=>False)|some _=>False)
    | none=>False
  | _=>False
def Ff (T:TT) (σ:ES) (t:TypeId) (x i:V) (K:V→Prop):Prop:=
  match x with
  | .lst l=>match (T.get t).ei with
    | some (_,z)=>LC i fun n=>Qu l[n]? fun y=>Br (Nat.beq y.cells.length z) (K (.rp y.cells)) False
    | none=>False
  | .sl id off len=>match (T.get t).ei with
    | some (_,z)=>RN σ id fun z' _=>Br (Nat.beq z z') (LC i fun n=>AskD (n < len) (K (.ptr id (off+n) 0))) False
    | none=>False
  | .ptr id a b=>match (T.get t).ai with
    | some (m,_,z)=>LC i fun n=>AskD (n < m) (K (.ptr id a (b+n*z)))
    | none=>False
  | .rp l=>match (T.get t).ai with
    | some (m,_,z)=>LC i fun n=>AskD (n < m) (K (.rp (l.drop (n*z))))
    | none=>False
  | _=>False
def LE (T:TT) (s:TypeId) (x:V) (f:Nat) (K:V→Prop):Prop:=
  match (T.get s).fi[f]? with
  | some (some (off,_,_))=>match x with
    | .rp l=>K (.rp (l.drop off))
    | .ptr id i j=>K (.ptr id i (j+off))
    | _=>False
  | _=>False
def PY (T:TT) (σ:ES) (t:TypeId) (p:V) (K:V→Prop):Prop:=
  match (T.get t).ti with
  | some (b,n)=>Br (b || Nat.beq n 1) (match p with
    | .rp l=>Br (decide (n≤l.length)) (K (Qz b (l.take n))) False
    | .ptr id i j=>RN σ id fun _ els=>Qu els[i]? fun x=>Br (decide (j+n≤x.cells.length)) (K (Qz b ((x.cells.drop j).take n))) False
    | _=>False) False
  | none=>False
def RO (T:TT) (t:TypeId) (p v:V) (K:V→ES→Prop) (σ:ES):Prop:=
  match (T.get t).ti with
  | some (_,n)=>Br v.one (Br (Nat.beq v.cells.length n) (Br (Nat.beq n 0) False (match p with
    | .ptr id i j=>RN σ id fun z els=>Qu els[i]? fun x=>Br (decide (j+n≤x.cells.length)) (fV (x.setCells j v.cells) fun x'=>fH (σ.heap.set id (some (.row z (els.set i x')))) fun h=>Gb σ h fun σ'=>K .any σ') False
    | _=>False)) False) False
  | none=>False
def LF (σ:ES) (o:Ob) (K:Nat→ES→Prop):Prop:=nF (AG σ.heap) fun id=>fH (Aj σ.heap o) fun h=>Gb σ h fun σ'=>K id σ'
def dK (T:TT) (t:TypeId) (v:V) (K:V→ES→Prop) (σ:ES):Prop:=
  match (T.get t).ti with
  | some (_,n)=>Br v.one (Br (Nat.beq v.cells.length n) (LF σ (.row n [v]) fun id σ=>K (.ptr id 0 0) σ) False) False
  | none=>False
def RQ (T:TT) (t:TypeId) (K:V→ES→Prop) (σ:ES):Prop:=
  match (T.get t).zv with
  | some x=>LF σ (S7 t x) fun id σ=>K (.ptr id 0 0) σ
  | none=>False
def RR (T:TT) (t:TypeId) (ps:List (Nat×V)) (K:V→Prop):Prop:=
  match (T.get t).si with
  | some pl=>match (T.get t).zv with
    | some (.agg c0)=>Qu (H7 (fun i=>pl[i]?) c0 ps) fun cs=>K (.agg cs)
    | _=>False
  | none=>False
def jO (fn:Fn) (first cap:List V) (K:V→Prop):Prop:=match fn with|.func f=>(match first with|[]=>K (.fn f cap)|_=>False)|_=>False
def WO (x:V) (K:V→Prop):Prop:=match x with|.ptr id i j=>K (.ptr id i j)|.rp l=>K (.rp l)|.fn f l=>K (.fn f l)|_=>False
def WP (T:TT) (t:TypeId) (x:V) (K:V→ES→Prop) (σ:ES):Prop:=match x with|.str s=>Br (T.get t).str (LF σ (.iter s 0) fun id σ=>K (.it id) σ) False|_=>False
def cQ (x:V) (isS:Bool) (K:V→ES→Prop) (σ:ES):Prop:=
  match x with
  | .it id=>Br isS (Qu σ.heap[id]? fun o=>match o with
    | some (.iter s pos)=>BrD (pos < s.length) (fH (σ.heap.set id (some (.iter s (pos+(WH s pos).2)))) fun h=>Gb σ h fun σ'=>K (.tup [.bool true,.int .i64 pos,.int .i32 (WH s pos).1]) σ') (K (.tup [.bool false]) σ)
    | _=>False) False
  | _=>False
def OD (T:TT) (t:TypeId) (n:Nat) (ps:List (Nat×V)) (K:V→ES→Prop) (σ:ES):Prop:=
  match (T.get t).ei with
  | some (e,z)=>match (T.get e).zok with
    | some z'=>Br (Nat.beq z' z) (Br (decide (ps.map (·.1)=List.range n)) (Br (decide (n*z≤16777216)) (Br ((ps.map (·.2)).all fun v=>v.one&&Nat.beq v.cells.length z)
      (dD (ps.map (·.2)) fun vs=>LF σ (.row z vs) fun id σ=>K (.sl id 0 n) σ) False) False) False) False
    | none=>False
  | none=>False
def WQ (by':Nat) (z:Nat) (s:V) (K:V→ES→Prop) (σ:ES) (news:List V):Prop:=
  match s with
  | .nils=>AskD (news.length≤9223372036854775807∧news.length*by'≤140737488355328) (LF σ (.row z news) fun id σ=>K (.sl id 0 news.length) σ)
  | .sl id off n=>RN σ id fun z' els=>Br (Nat.beq z' z) (AskD (off+n≤els.length∧n+news.length≤9223372036854775807∧(n+news.length)*by'≤140737488355328)
      (FP id σ.u fun u=>fH ((Ba id σ.heap).set id (some (.row z (AK id ((els.drop off).take n++news))))) fun h=>Gb σ h fun σ'=>(match σ' with|⟨m,_,h⟩=>K (.sl id 0 (n+news.length)) ⟨m,u,h⟩))) False
  | _=>False
def dL (T:TT) (t t':TypeId) (s x:V) (K:V→ES→Prop) (σ:ES):Prop:=
  match (T.get t).ei with
  | some (e,z)=>match (T.get e).zok with
    | some z'=>match (T.get e).by' with
      | some n=>Br (Nat.beq z' z) (Br (T.get t').ni (dH σ z x (WQ n z s K σ)) False) False
      | none=>False
    | none=>False
  | none=>False
def dM (T:TT) (q:Bool) (t:TypeId) (x:V) (K:V→Prop):Prop:=
  match x with
  | .str s=>Br (T.get t).str (match q with|true=>K (.int .i64 s.length)|false=>s.length≤9223372036854775807→K (.int .i64 s.length)) False
  | .lst l=>Br (T.get t).sli (match q with|true=>K (.int .i64 l.length)|false=>l.length≤9223372036854775807→K (.int .i64 l.length)) False
  | .nils=>Br (T.get t).sli (K (.int .i64 0)) False
  | .sl _ _ n=>Br (T.get t).sli (match q with|true=>K (.int .i64 n)|false=>n≤9223372036854775807→K (.int .i64 n)) False
  | _=>False
def jB (v:V):Bool:=match v with|.int _ n=>decide (n=0)|_=>false
def cR (T:TT) (t:TypeId) (x h m:V) (K:V→ES→Prop) (σ:ES):Prop:=
  Br (jB h&&jB m&&WJ x) (match (T.get t).ei with
    | some (_,z)=>LF σ (.row z []) fun id σ=>K (.sl id 0 0) σ
    | none=>False) False
def WR (T:TT) (t:TypeId) (l c:V) (K:V→ES→Prop) (σ:ES):Prop:=
  match (T.get t).ei with
  | some (e,z)=>match (T.get e).zv with
    | some x=>match (T.get e).zok with
      | some z'=>match (T.get e).by' with
        | some by'=>Br (Nat.beq z' z&&Nat.beq x.cells.length z) (match l with
          | .int _ n=>(match c with
            | .int _ m=>AskD (0≤n∧n≤m∧(by':Int)*m≤281474976710656∧m≤9223372036854775807) (LF σ (.row z (List.replicate n.toNat x)) fun id σ=>K (.sl id 0 n.toNat) σ)
            | _=>False)
          | _=>False) False
        | none=>False
      | none=>False
    | none=>False
  | none=>False
def E9 (K:V→ES→Prop):V→St→Prop:=fun r s=>∃σ:ES,s=σ.st∧K r σ
theorem Cv {K:V→ES→Prop} {r:V} {σ:ES} (h:K r σ):E9 K r σ.st:=⟨σ,rfl,h⟩
structure CallN (C:Ctx) (fop:Operand) (args:List Operand) (f:FuncId) (xs:List V) (K:V→ES→Prop) (σ:ES):Prop where
  out:PI C fop args (E9 K) σ.st
structure CallNQ (C:Ctx) (fop:Operand) (args:List Operand) (f:FuncId) (xs:List V) (K:V→ES→Prop) (σ:ES):Prop where
  out:GF C fop args (E9 K) σ.st
def S8 (C:Ctx) (q:Bool) (fop:Operand) (args:List Operand) (K:V→ES→Prop) (σ:ES):Prop:=
  match σ.val fop with
  | .fn f caps=>dD (args.map σ.val) fun xs=>match q with|true=>CallNQ C fop args f (xs++caps) K σ|false=>CallN C fop args f (xs++caps) K σ
  | _=>False
def PZ (T:TT) (q:Bool) (b:Builtin) (args:List Operand) (ts:List TypeId) (K:V→ES→Prop) (σ:ES):Prop:=
  match b with
  | .len=>(match args with|[x]=>(match ts with|[t]=>dM T q t (σ.val x) fun r=>K r σ|_=>False)|_=>False)
  | .append=>(match args with|[s,x]=>(match ts with|[t,t']=>dL T t t' (σ.val s) (σ.val x) K σ|_=>False)|_=>False)
  | .max=>(match args with|[x,y]=>(match σ.val x with|.int k a=>(match σ.val y with|.int _ b=>K (.int k (RG a b)) σ|_=>False)|_=>False)|_=>False)
  | .min=>(match args with|[x,y]=>(match σ.val x with|.int k a=>(match σ.val y with|.int _ b=>K (.int k (RH a b)) σ|_=>False)|_=>False)|_=>False)
  | _=>False
structure OpN (C:Ctx) (op:Op) (K:V→ES→Prop) (σ:ES):Prop where
  out:∀o:Oper,o.op=op→BR C o σ.st (E9 K)
def IH (C:Ctx) (q:Bool) (op:Op) (K:V→ES→Prop) (σ:ES):Prop:=match q with|true=>False|false=>OpN C op K σ
def WS (T:TT) (s d:TypeId) (b:List UInt8) (K:V→ES→Prop) (σ:ES):Prop:=
  match (T.get d).ei with
  | some (e,z)=>match (T.get e).ik with
    | some k=>Br (Nat.beq z 1) (Br (Me k .u8) (Br (T.get s).str (LF σ (.row 1 (b.map Fd)) fun id σ=>K (.sl id 0 b.length) σ) False) False) False
    | none=>False
  | none=>False
def BH (T:TT) (C:Ctx) (q:Bool) (op:Op) (K:V→ES→Prop) (σ:ES):Prop:=
  match op with
  | .move x=>K (σ.val x) σ
  | .assign x=>K (σ.val x) σ
  | .pick c a b=>jN (σ.val c) fun t=>Br t (K (σ.val a) σ) (K (σ.val b) σ)
  | .binOp op t x y t'=>(match σ.val x with
    | .nili=>IH C q (.binOp op t x y t') K σ
    | .ifi _ _ _=>IH C q (.binOp op t x y t') K σ
    | .ifx=>IH C q (.binOp op t x y t') K σ
    | v=>eBin T q t op v (σ.val y) fun r=>K r σ)
  | .unOp op _ x=>je op (σ.val x) fun r=>K r σ
  | .convert s d x=>(match σ.val x with
    | .str b=>(match (T.get d).str with
      | true=>eConv T q σ s d (.str b) fun r=>K r σ
      | false=>(match q with|true=>False|false=>WS T s d b K σ))
    | .int k n=>(match (T.get d).str with
      | true=>IH C q (.convert s d x) K σ
      | false=>eConv T q σ s d (.int k n) fun r=>K r σ)
    | v=>eConv T q σ s d v fun r=>K r σ)
  | .extract x i=>cP (σ.val x) i fun r=>K r σ
  | .field s x f=>dI T s (σ.val x) f fun r=>K r σ
  | .index t x i=>dJ T t (σ.val x) (σ.val i) fun r=>K r σ
  | .slice t x lo hi mx=>(match mx with|none=>LD T σ t (σ.val x) (lo.map σ.val) (hi.map σ.val) fun r=>K r σ|some m=>(match lo with|none=>(match hi with|some h=>cR T t (σ.val x) (σ.val h) (σ.val m) K σ|none=>False)|some _=>False))
  | .makeSlice t l c=>WR T t (σ.val l) (σ.val c) K σ
  | .indexAddr t x i=>Ff T σ t (σ.val x) (σ.val i) fun r=>K r σ
  | .fieldAddr s x f=>LE T s (σ.val x) f fun r=>K r σ
  | .load t x=>PY T σ t (σ.val x) fun r=>K r σ
  | .store t x y=>RO T t (σ.val x) (σ.val y) K σ
  | .box t x=>dK T t (σ.val x) K σ
  | .alloc t=>RQ T t K σ
  | .build t ps=>RR T t (ps.toList.map fun p=>(p.1,σ.val p.2)) fun r=>K r σ
  | .makeFunc fn first cap=>YU (cap.toList.map σ.val) fun cap=>jO fn (first.toList.map σ.val) cap fun r=>K r σ
  | .nilCheck x=>WO (σ.val x) fun r=>K r σ
  | .range t x=>(match q with|true=>False|false=>WP T t (σ.val x) K σ)
  | .next x b=>(match q with|true=>False|false=>cQ (σ.val x) b K σ)
  | .buildSlice t n ps=>OD T t n (ps.toList.map fun p=>(p.1,σ.val p.2)) K σ
  | .call c=>(match c.callee with
    | .builtin b=>(match b with
      | .copy=>IH C q (.call c) K σ
      | .clear=>IH C q (.call c) K σ
      | .cap=>IH C q (.call c) K σ
      | .len=>(match c.args.toList with|[x]=>(match c.argTypes.toList with|[t]=>(match σ.val x with|.it _=>IH C q (.call c) K σ|v=>dM T q t v fun r=>K r σ)|_=>False)|_=>False)
      | b=>PZ T q b c.args.toList c.argTypes.toList K σ)
    | .value f=>S8 C q f c.args.toList K σ
    | _=>False)
  | .makeMap t r=>IH C q (.makeMap t r) K σ
  | .makeInterface t x=>IH C q (.makeInterface t x) K σ
  | .insert t m k x=>IH C q (.insert t m k x) K σ
  | .mapUpdate t m k x=>IH C q (.mapUpdate t m k x) K σ
  | .lookup t m k b=>IH C q (.lookup t m k b) K σ
  | _=>False
end Go.Proofs.YtkaiffheakalmaaGreatDoor
