/- Joined. No conditions. -/
import Derived.Test.YtkaiffheakalmaaGreatDoorJ9ag
import Derived.Still
set_option linter.unusedSimpArgs false
set_option linter.unusedVariables false
set_option maxRecDepth 100000
namespace Go.Proofs.YtkaiffheakalmaaGreatDoor
section
open Go.RowKit
def DJ (C:Ctx) (o:Oper) (σ:St) (K:V→St→Prop):Prop:=
 match o.op with
 | .move x=>K (σ.val x) σ
 | .assign x=>K (σ.val x) σ
 | .pick c a b=>Ko (σ.val c) (σ.val a) (σ.val b) K σ
 | .binOp op t x y _=>Pb C.P t op (σ.val x) (σ.val y) K σ∨Bc C o σ K
 | .unOp op _ x=>dm op (σ.val x) K σ
 | .convert s d x=>L6 C s d (σ.val x) K σ∨Bc C o σ K
 | .extract x i=>Kp (σ.val x) i K σ
 | .field s x f=>Qr C s (σ.val x) f K σ
 | .index t x i=>Qs C t (σ.val x) (σ.val i) K σ
 | .slice t x lo hi mx=>match mx with
   | none=>G6 C.P t (σ.val x) (lo.map σ.val) (hi.map σ.val) K σ
   | some m=>match lo,hi with
     | none,some h=>Q6 C t (σ.val x) (σ.val h) (σ.val m) K σ
     | _,_=>False
 | .makeSlice t l c=>L8 C t (σ.val l) (σ.val c) K σ
 | .indexAddr t x i=>EU C t (σ.val x) (σ.val i) K σ
 | .fieldAddr s x f=>EV C s (σ.val x) f K σ
 | .load t x=>Km C t (σ.val x) K σ
 | .store t x y=>Lo C t (σ.val x) (σ.val y) K σ
 | .box t x=>YD C t (σ.val x) K σ
 | .alloc t=>IT C t K σ
 | .build t ps=>GR C t (ps.toList.map fun p=>(p.1,σ.val p.2)) K σ
 | .makeFunc fn first cap=>dn fn (first.toList.map σ.val) (cap.toList.map σ.val) K σ
 | .nilCheck x=>G5 (σ.val x) K σ
 | .range t x=>L7 C t (σ.val x) K σ
 | .next x b=>Q5 (σ.val x) b K σ
 | .buildSlice t n ps=>Fg C t n (ps.toList.map fun p=>(p.1,σ.val p.2)) K σ
 | .call c=>match c.callee,c.args.toList,c.argTypes.toList with
   | .builtin .len,[x],[t]=>WC C.P t (σ.val x) K σ∨Bc C o σ K
   | .builtin .max,[x,y],_=>JA TD (σ.val x) (σ.val y) K σ
   | .builtin .min,[x,y],_=>JA TE (σ.val x) (σ.val y) K σ
   | .builtin .append,[s,x],[t,t']=>Qt C t t' (σ.val s) (σ.val x) K σ
   | .value f,args,_=>Qx C f args K σ
   | _,_,_=>Bc C o σ K
 | _=>Bc C o σ K
theorem eT {α:Type} {a:Array α} {x:α} (h:a.toList=[x]):a=#[x]:=by rw [←Array.toArray_toList (xs:=a),h]
theorem Nx {α:Type} {a:Array α} {x y:α} (h:a.toList=[x,y]):a=#[x,y]:=by rw [←Array.toArray_toList (xs:=a),h]
theorem DT {C:Ctx} (o:Oper) (σ:St) (K:V→St→Prop) (h:DJ C o σ K):Bc C o σ K:=by
 unfold DJ at h
 split at h
 ·exact bN ‹_› h
 ·exact WB ‹_› h
 ·exact bM ‹_› h
 ·exact h.elim (bk ‹_›) id
 ·exact iE ‹_› h
 ·exact h.elim (YU ‹_›) id
 ·exact bO ‹_› h
 ·exact eM ‹_› h
 ·exact eN ‹_› h
 ·rename_i ho
  split at h
  ·exact X9 ho h
  ·split at h
   ·exact be ho h
   ·exact h.elim
 ·exact bc ‹_› h
 ·exact Ss ‹_› h
 ·exact Su ‹_› h
 ·exact bL ‹_› h
 ·exact YC ‹_› h
 ·exact eP ‹_› h
 ·exact WT ‹_› h
 ·exact YF ‹_› h
 ·exact iF ‹_› h
 ·exact X8 ‹_› h
 ·exact YW ‹_› h
 ·exact bZ ‹_› h
 ·exact WR ‹_› h
 ·rename_i c ho
  obtain ⟨callee,args,ts⟩:=c
  simp only at h
  split at h
  ·rename_i x t h2 h3
   rw [eT h2,eT h3] at ho
   exact h.elim (eO ho) id
  ·rename_i x y h2
   rw [Nx h2] at ho
   exact eV ho h
  ·rename_i x y h2
   rw [Nx h2] at ho
   exact eW ho h
  ·rename_i s x t t' h2 h3
   rw [Nx h2,Nx h3] at ho
   exact eQ ho h
  ·rename_i f
   exact bU ho h
  ·exact h
 ·exact h
def Fu (σ σ2:St):Prop:=∀id z els,σ.row id=some (z,els)→σ2.row id=some (z,els)
theorem Qy {σ σ2:St} (h:σ2.heap=σ.heap):Fu σ σ2:=fun id z els e=>by simpa [St.row,h] using e
def Bo (X:(V→St→Prop)→St→Prop):Prop:=
 ∀K σ,X K σ→∃r,K r σ∧∀(K2:V→St→Prop) (σ2:St),Fu σ σ2→K2 r σ2→X K2 σ2
theorem AW (r:V):Bo fun K σ=>K r σ:=fun _ _ h=>⟨r,h,fun _ _ _ h=>h⟩
theorem AR:Bo fun _ _=>False:=fun _ _ h=>h.elim
theorem Ac {p:Prop} {X:(V→St→Prop)→St→Prop} (h:Bo X):Bo fun K σ=>p∧X K σ:=
 fun K σ hx=>let ⟨r,h1,h2⟩:=h K σ hx.2;⟨r,h1,fun K2 σ2 e k=>⟨hx.1,h2 K2 σ2 e k⟩⟩
theorem HC {α:Type} {X:α→(V→St→Prop)→St→Prop} (h:∀a,Bo (X a)):Bo fun K σ=>∃a,X a K σ:=
 fun K σ ⟨a,hx⟩=>let ⟨r,h1,h2⟩:=h a K σ hx;⟨r,h1,fun K2 σ2 e k=>⟨a,h2 K2 σ2 e k⟩⟩
theorem OF (id:Nat) {X:Nat→List V→(V→St→Prop)→St→Prop} (h:∀z els,Bo (X z els)):Bo fun K σ=>match σ.row id with|some (z,els)=>X z els K σ|none=>False:=by
 intro K σ hx
 cases hr:σ.row id with
 | none=>simp only [hr] at hx
 | some p=>
   obtain ⟨z,els⟩:=p
   simp only [hr] at hx
   obtain ⟨r,h1,h2⟩:=h z els K σ hx
   refine ⟨r,h1,fun K2 σ2 e k=>?_⟩
   have:σ2.row id=some (z,els):=e id z els hr
   simp only [this]
   exact h2 K2 σ2 e k
theorem S3 (c a b:V):Bo (Ko c a b):=by
 intro K σ h
 unfold Ko at h
 split at h
 ·rename_i t
  cases t with
  | true=>exact ⟨a,h.1 rfl,fun K2 σ2 _ k=>⟨fun _=>k,fun e=>(by cases e)⟩⟩
  | false=>exact ⟨b,h.2 rfl,fun K2 σ2 _ k=>⟨fun e=>(by cases e),fun _=>k⟩⟩
 ·exact h.elim
theorem OG (P:Program) (t:TypeId) (op:BinOp) (x y:V):Bo (LB P t op x y):=by
 unfold LB
 split
 ·refine Ac ?_
  split
  all_goals first|exact AW _|exact Ac (AW _)|exact AR
 ·split
  all_goals first|exact AW _|exact Ac (AW _)|exact AR
 ·refine Ac ?_
  split
  all_goals first|exact AW _|exact Ac (AW _)|exact AR
 ·exact AR
theorem S4 (P:Program) (t:TypeId) (op:BinOp) (x y:V):Bo (YS P t op x y):=by
 unfold YS
 split
 ·unfold L4
  simp only
  split
  all_goals first|exact Ac (AW _)|exact OG _ _ _ _ _
 ·exact OG _ _ _ _ _
theorem Jz (op:BinOp) (b:Bool):Bo (Kw op b):=by
 unfold Kw
 split
 all_goals first|exact AW _|exact AR
theorem Qz {p:Prop} {X Y:(V→St→Prop)→St→Prop} (h1:Bo X) (h2:Bo Y):Bo fun K σ=>(p→X K σ)∧(¬p→Y K σ):=by
 intro K σ h
 by_cases hp:p
 ·obtain ⟨r,g1,g2⟩:=h1 K σ (h.1 hp)
  exact ⟨r,g1,fun K2 σ2 e k=>⟨fun _=>g2 K2 σ2 e k,fun n=>absurd hp n⟩⟩
 ·obtain ⟨r,g1,g2⟩:=h2 K σ (h.2 hp)
  exact ⟨r,g1,fun K2 σ2 e k=>⟨fun n=>absurd n hp,fun _=>g2 K2 σ2 e k⟩⟩
theorem WK (op:BinOp):∀(ks:List Kd) (l r:List V),Bo (L9 op ks l r):=by
 intro ks
 induction ks with
 | nil=>
   intro l r
   cases l with
   | nil=>cases r with
     | nil=>exact Jz op true
     | cons _ _=>exact fun _ _ h=>by simp [L9] at h
   | cons _ _=>exact fun _ _ h=>by simp [L9] at h
 | cons d ks ih=>
   intro l r
   cases l with
   | nil=>exact fun _ _ h=>by cases d<;>simp [L9] at h
   | cons x l=>
     cases r with
     | nil=>exact fun _ _ h=>by cases d<;>cases x<;>simp [L9] at h
     | cons y r=>
       cases d<;>cases x<;>cases y<;>first
        | exact Qz (ih l r) (Jz op false)
        | exact Ac (Qz (ih l r) (Jz op false))
        | exact fun _ _ h=>by simp [L9] at h
theorem S5 (P:Program) (t:TypeId) (op:BinOp) (x y:V):Bo (TJ P t op x y):=by
 unfold TJ
 split
 ·split
  ·exact WK _ _ _ _
  ·exact AR
 ·exact S4 _ _ _ _ _
theorem YJ (op:UnOp) (x:V):Bo (dm op x):=by
 unfold dm
 split
 all_goals first|exact AW _|exact AR
theorem S6 (P:Program) (s d:TypeId) (x:V):Bo (Gu P s d x):=by
 unfold Gu
 split
 ·split
  all_goals first|exact AW _|exact AR
 ·split
  all_goals first|exact AW _|exact AR
 ·exact AR
theorem Q0 (C:Ctx) (s d:TypeId) (x:V):Bo (OK C s d x):=by
 unfold OK
 split
 ·unfold IS HB
  exact Ac (Ac (Ac (HC fun bs=>Ac (Ac (AW _)))))
 ·exact S6 _ _ _ _
theorem S7 (x:V) (i:Nat):Bo (Kp x i):=by
 unfold Kp
 split
 ·exact HC fun y=>Ac (AW y)
 ·exact AR
theorem WL (C:Ctx) (s:TypeId) (x:V) (f:Nat):Bo (Qr C s x f):=by
 unfold Qr
 split
 ·refine Ac ?_
  split
  ·exact Ac (AW _)
  ·exact AR
 ·exact AR
theorem WM (C:Ctx) (t:TypeId) (x i:V):Bo (Qs C t x i):=by
 unfold Qs
 split
 ·refine Ac ?_
  split
  ·exact Ac (HC fun c=>Ac (AW _))
  ·split
   ·exact Ac (Ac (Ac (AW _)))
   ·exact AR
  ·exact AR
 ·exact AR
theorem Q1 (P:Program) (t:TypeId) (x:V) (lo hi:Option V):Bo (G6 P t x lo hi):=by
 intro K σ h
 unfold G6 at h ⊢
 split at h
 ·obtain ⟨h1,h⟩:=h
  split at h
  ·exact ⟨_,h.2.2,fun K2 σ2 _ k=>by simp [*]⟩
  ·exact h.elim
 ·split at h
  ·obtain ⟨h1,h⟩:=h
   split at h
   ·exact ⟨_,h.2.2,fun K2 σ2 _ k=>by simp only [*];exact ⟨h1,trivial,trivial,trivial⟩⟩
   ·exact h.elim
  ·exact h.elim
 ·split at h
  ·rename_i hr
   obtain ⟨h1,h⟩:=h
   split at h
   ·refine ⟨_,h.2.2,fun K2 σ2 e k=>?_⟩
    have e2:=e _ _ _ hr
    simp [*]
   ·exact h.elim
  ·exact h.elim
 ·split at h
  ·exact ⟨_,h.2.2.2,fun K2 σ2 _ k=>⟨h.1,h.2.1,h.2.2.1,k⟩⟩
  ·exact h.elim
 ·exact h.elim
theorem Ny (C:Ctx) (t:TypeId) (x i:V):Bo (EU C t x i):=by
 unfold EU
 split
 ·refine Ac ?_
  split
  ·split
   ·exact HC fun y=>Ac (Ac (AW _))
   ·exact AR
  ·split
   ·exact OF _ fun z els=>Ac (Ac (AW _))
   ·exact AR
  ·split
   ·exact Ac (AW _)
   ·exact AR
  ·split
   ·exact Ac (AW _)
   ·exact AR
  ·exact AR
 ·exact AR
theorem Nz (C:Ctx) (s:TypeId) (x:V) (f:Nat):Bo (EV C s x f):=by
 unfold EV
 split
 ·split
  all_goals first|exact AW _|exact AR
 ·exact AR
theorem S8 (C:Ctx) (t:TypeId) (x:V):Bo (Km C t x):=by
 unfold Km
 split
 ·refine Ac ?_
  split
  ·exact Ac (AW _)
  ·exact OF _ fun z els=>HC fun y=>Ac (Ac (AW _))
  ·exact AR
 ·exact AR
theorem YK (fn:Fn) (a b:List V):Bo (dn fn a b):=by
 unfold dn
 split
 all_goals first|exact AW _|exact AR
theorem OH (f:Int→Int→Int) (x y:V):Bo (JA f x y):=by
 unfold JA
 split
 ·exact AW _
 ·exact AR
theorem Q2 (C:Ctx) (t:TypeId) (ps:List (Nat×V)):Bo (GR C t ps):=by
 unfold GR
 split
 ·split
  ·exact AW _
  ·exact AR
 ·exact AR
theorem Q3 (x:V):Bo (G5 x):=by
 unfold G5
 split
 all_goals first|exact AW _|exact AR
def WN (P:Program) (t:TypeId) (x:V) (K:V→St→Prop) (σ:St):Prop:=
 match x with
 | .str s=>ET P t=true∧K (.int .i64 s.length) σ
 | .lst l=>Fc P t=true∧K (.int .i64 l.length) σ
 | .nils=>Fc P t=true∧K (.int .i64 0) σ
 | .sl _ _ n=>Fc P t=true∧K (.int .i64 n) σ
 | _=>False
theorem WO (P:Program) (t:TypeId) (x:V):Bo (WN P t x):=by
 unfold WN
 split
 all_goals first|exact Ac (AW _)|exact AR
theorem YL {P:Program} {t:TypeId} {x:V} {K:V→St→Prop} {σ:St} (h:WN P t x K σ):WC P t x K σ:=by
 unfold WN at h
 unfold WC
 split at h
 ·exact ⟨h.1,fun _=>h.2⟩
 ·exact ⟨h.1,fun _=>h.2⟩
 ·exact h
 ·exact ⟨h.1,fun _=>h.2⟩
 ·exact h.elim
def Gw (C:Ctx) (fop:Operand) (args:List Operand) (K:V→St→Prop) (σ:St):Prop:=
 match σ.val fop with
 | .fn f caps=>AB C.P f=true∧((BT (args.map σ.val++caps)∧∃r,Xy C f (args.map σ.val++caps) (fun r'=>r'=r)∧K r σ)∨
    (∃id z els r,σ.row id=some (z,els)∧BT els∧BT (Ai id els (args.map σ.val++caps))∧Xz r=true∧Fn1 C.P f (Ai id els (args.map σ.val++caps)) (fun r'=>r'=r)∧K r σ)∨
    ∃id z els id2 z2 els2 r,id2≠id∧σ.row id=some (z,els)∧σ.row id2=some (z2,els2)∧BT els∧BT els2∧BT (Ai id2 els2 (Ai id els (args.map σ.val++caps)))∧Xz r=true∧Fn1 C.P f (Ai id2 els2 (Ai id els (args.map σ.val++caps))) (fun r'=>r'=r)∧K r σ)
 | _=>False
def Bg (C:Ctx) (o:Oper) (σ:St) (K:V→St→Prop):Prop:=
 match o.op with
 | .move x=>K (σ.val x) σ
 | .assign x=>K (σ.val x) σ
 | .pick c a b=>Ko (σ.val c) (σ.val a) (σ.val b) K σ
 | .binOp op t x y _=>TJ C.P t op (σ.val x) (σ.val y) K σ
 | .unOp op _ x=>dm op (σ.val x) K σ
 | .convert s d x=>OK C s d (σ.val x) K σ
 | .extract x i=>Kp (σ.val x) i K σ
 | .field s x f=>Qr C s (σ.val x) f K σ
 | .index t x i=>Qs C t (σ.val x) (σ.val i) K σ
 | .slice t x lo hi mx=>match mx with
   | none=>G6 C.P t (σ.val x) (lo.map σ.val) (hi.map σ.val) K σ
   | some _=>False
 | .indexAddr t x i=>EU C t (σ.val x) (σ.val i) K σ
 | .fieldAddr s x f=>EV C s (σ.val x) f K σ
 | .load t x=>Km C t (σ.val x) K σ
 | .makeFunc fn first cap=>dn fn (first.toList.map σ.val) (cap.toList.map σ.val) K σ
 | .nilCheck x=>G5 (σ.val x) K σ
 | .build t ps=>GR C t (ps.toList.map fun p=>(p.1,σ.val p.2)) K σ
 | .call c=>match c.callee,c.args.toList,c.argTypes.toList with
   | .builtin .len,[x],[t]=>WN C.P t (σ.val x) K σ
   | .builtin .max,[x,y],_=>JA TD (σ.val x) (σ.val y) K σ
   | .builtin .min,[x,y],_=>JA TE (σ.val x) (σ.val y) K σ
   | .value f,args,_=>Gw C f args K σ
   | _,_,_=>False
 | _=>False
theorem I8 {C:Ctx} {o:Oper} {σ:St} {K:V→St→Prop} (h:Bg C o σ K):
 ∃r,K r σ∧∀(K2:V→St→Prop) (σ2:St),(∀x∈o.op.operands.toList,σ2.val x=σ.val x)→Fu σ σ2→K2 r σ2→Bg C o σ2 K2:=by
 have use:∀{X:(V→St→Prop)→St→Prop},Bo X→X K σ→(∀(K2:V→St→Prop) (σ2:St),(∀x∈o.op.operands.toList,σ2.val x=σ.val x)→X K2 σ2→Bg C o σ2 K2)→
  ∃r,K r σ∧∀(K2:V→St→Prop) (σ2:St),(∀x∈o.op.operands.toList,σ2.val x=σ.val x)→Fu σ σ2→K2 r σ2→Bg C o σ2 K2:=by
  intro X hX hx hq
  obtain ⟨r,h1,h2⟩:=hX K σ hx
  exact ⟨r,h1,fun K2 σ2 hv he k=>hq K2 σ2 hv (h2 K2 σ2 he k)⟩
 unfold Bg at h
 split at h
 ·rename_i x ho
  exact use (AW (σ.val x)) h fun K2 σ2 hv k=>by unfold Bg;simp only [ho];rw [hv x (by simp [ho,Op.operands])];exact k
 ·rename_i x ho
  exact use (AW (σ.val x)) h fun K2 σ2 hv k=>by unfold Bg;simp only [ho];rw [hv x (by simp [ho,Op.operands])];exact k
 ·rename_i c a b ho
  exact use (S3 _ _ _) h fun K2 σ2 hv k=>by unfold Bg;simp only [ho];rw [hv c (by simp [ho,Op.operands]),hv a (by simp [ho,Op.operands]),hv b (by simp [ho,Op.operands])];exact k
 ·rename_i op t x y t' ho
  exact use (S5 _ _ _ _ _) h fun K2 σ2 hv k=>by unfold Bg;simp only [ho];rw [hv x (by simp [ho,Op.operands]),hv y (by simp [ho,Op.operands])];exact k
 ·rename_i op t x ho
  exact use (YJ _ _) h fun K2 σ2 hv k=>by unfold Bg;simp only [ho];rw [hv x (by simp [ho,Op.operands])];exact k
 ·rename_i s d x ho
  exact use (Q0 _ _ _ _) h fun K2 σ2 hv k=>by unfold Bg;simp only [ho];rw [hv x (by simp [ho,Op.operands])];exact k
 ·rename_i x i ho
  exact use (S7 _ _) h fun K2 σ2 hv k=>by unfold Bg;simp only [ho];rw [hv x (by simp [ho,Op.operands])];exact k
 ·rename_i s x f ho
  exact use (WL _ _ _ _) h fun K2 σ2 hv k=>by unfold Bg;simp only [ho];rw [hv x (by simp [ho,Op.operands])];exact k
 ·rename_i t x i ho
  exact use (WM _ _ _ _) h fun K2 σ2 hv k=>by unfold Bg;simp only [ho];rw [hv x (by simp [ho,Op.operands]),hv i (by simp [ho,Op.operands])];exact k
 ·rename_i t x lo hi mx ho
  cases mx with
  | some m=>exact h.elim
  | none=>
    refine use (Q1 _ _ _ _ _) h fun K2 σ2 hv k=>?_
    unfold Bg
    simp only [ho]
    have e1:lo.map σ2.val=lo.map σ.val:=by
     cases lo with
     | none=>rfl
     | some l=>simp only [Option.map_some];rw [hv l (by simp [ho,Op.operands])]
    have e2:hi.map σ2.val=hi.map σ.val:=by
     cases hi with
     | none=>rfl
     | some l=>simp only [Option.map_some];rw [hv l (by simp [ho,Op.operands])]
    rw [hv x (by simp [ho,Op.operands]),e1,e2]
    exact k
 ·rename_i t x i ho
  exact use (Ny _ _ _ _) h fun K2 σ2 hv k=>by unfold Bg;simp only [ho];rw [hv x (by simp [ho,Op.operands]),hv i (by simp [ho,Op.operands])];exact k
 ·rename_i s x f ho
  exact use (Nz _ _ _ _) h fun K2 σ2 hv k=>by unfold Bg;simp only [ho];rw [hv x (by simp [ho,Op.operands])];exact k
 ·rename_i t x ho
  exact use (S8 _ _ _) h fun K2 σ2 hv k=>by unfold Bg;simp only [ho];rw [hv x (by simp [ho,Op.operands])];exact k
 ·rename_i fn first cap ho
  refine use (YK _ _ _) h fun K2 σ2 hv k=>?_
  unfold Bg
  simp only [ho]
  have e1:first.toList.map σ2.val=first.toList.map σ.val:=List.map_congr_left fun x hx=>hv x (by simp [ho,Op.operands];left;simpa using hx)
  have e2:cap.toList.map σ2.val=cap.toList.map σ.val:=List.map_congr_left fun x hx=>hv x (by simp [ho,Op.operands];right;simpa using hx)
  rw [e1,e2]
  exact k
 ·rename_i x ho
  exact use (Q3 _) h fun K2 σ2 hv k=>by unfold Bg;simp only [ho];rw [hv x (by simp [ho,Op.operands])];exact k
 ·rename_i t ps ho
  refine use (Q2 _ _ _) h fun K2 σ2 hv k=>?_
  unfold Bg
  simp only [ho]
  have e1:ps.toList.map (fun p=>(p.1,σ2.val p.2))=ps.toList.map (fun p=>(p.1,σ.val p.2)):=List.map_congr_left fun p hp=>by
   rw [hv p.2 (by rw [ho];simp [Op.operands];exact ⟨p.1,by simpa using hp⟩)]
  rw [e1]
  exact k
 ·rename_i c ho
  obtain ⟨callee,args,ts⟩:=c
  simp only at h
  split at h
  ·rename_i x t h2 h3
   refine use (WO _ _ _) h fun K2 σ2 hv k=>?_
   unfold Bg
   simp only [ho,h2,h3]
   rw [hv x (by simp [ho,Op.operands,Call.operands,eT h2])]
   exact k
  ·rename_i x y h2
   refine use (OH _ _ _) h fun K2 σ2 hv k=>?_
   unfold Bg
   simp only [ho,h2]
   rw [hv x (by simp [ho,Op.operands,Call.operands,Nx h2]),hv y (by simp [ho,Op.operands,Call.operands,Nx h2])]
   exact k
  ·rename_i x y h2
   refine use (OH _ _ _) h fun K2 σ2 hv k=>?_
   unfold Bg
   simp only [ho,h2]
   rw [hv x (by simp [ho,Op.operands,Call.operands,Nx h2]),hv y (by simp [ho,Op.operands,Call.operands,Nx h2])]
   exact k
  ·rename_i f
   unfold Gw at h
   split at h
   ·rename_i g caps hf
    have e1:∀σ2:St,(∀x∈o.op.operands.toList,σ2.val x=σ.val x)→args.toList.map σ2.val=args.toList.map σ.val:=fun σ2 hv=>List.map_congr_left fun x hx=>hv x (by simp [ho,Op.operands,Call.operands];right;simpa using hx)
    have e2:∀σ2:St,(∀x∈o.op.operands.toList,σ2.val x=σ.val x)→σ2.val f= .fn g caps:=fun σ2 hv=>by rw [hv f (by simp [ho,Op.operands,Call.operands])];exact hf
    rcases h with ⟨h1,⟨h2,r,h3,h4⟩|⟨id,z,els,r,g1,g2,g3,g4,g5,g6⟩|⟨id,z,els,id2,z2,els2,r,gn,g1,g1',g2,g2',g3,g4,g5,g6⟩⟩
    ·refine ⟨r,h4,fun K2 σ2 hv he k=>?_⟩
     unfold Bg
     simp only [ho]
     unfold Gw
     simp only [e2 σ2 hv,e1 σ2 hv]
     exact ⟨h1,.inl ⟨h2,r,h3,k⟩⟩
    ·refine ⟨r,g6,fun K2 σ2 hv he k=>?_⟩
     unfold Bg
     simp only [ho]
     unfold Gw
     simp only [e2 σ2 hv,e1 σ2 hv]
     exact ⟨h1,.inr (.inl ⟨id,z,els,r,he _ _ _ g1,g2,g3,g4,g5,k⟩)⟩
    ·refine ⟨r,g6,fun K2 σ2 hv he k=>?_⟩
     unfold Bg
     simp only [ho]
     unfold Gw
     simp only [e2 σ2 hv,e1 σ2 hv]
     exact ⟨h1,.inr (.inr ⟨id,z,els,id2,z2,els2,r,gn,he _ _ _ g1,he _ _ _ g1',g2,g2',g3,g4,g5,k⟩)⟩
   ·exact h.elim
  ·exact h.elim
 ·exact h.elim
theorem EY {C:Ctx} {o:Oper} {σ:St} {K:V→St→Prop} (h:Bg C o σ K):
 ∃r,K r σ∧∀(K2:V→St→Prop) (σ2:St),(∀x∈o.op.operands.toList,σ2.val x=σ.val x)→σ2.heap=σ.heap→K2 r σ2→Bg C o σ2 K2:=by
 obtain ⟨r,h1,h2⟩:=I8 h
 exact ⟨r,h1,fun K2 σ2 hv he k=>h2 K2 σ2 hv (Qy he) k⟩
theorem Ly {C:Ctx} {o:Oper} {σ:St} {K:V→St→Prop} (h:Bg C o σ K):DJ C o σ K:=by
 unfold Bg at h
 unfold DJ
 split at h
 all_goals first|exact h.elim|(rename_i ho;simp only [ho];exact h)|(rename_i mx ho;simp only [ho];cases mx with|none=>exact h|some m=>exact h.elim)|(rename_i ho;simp only [ho];exact .inl (WV h))|(rename_i ho;simp only [ho];exact .inl (TH h))|skip
 ·rename_i c ho
  simp only [ho]
  obtain ⟨callee,args,ts⟩:=c
  simp only at h ⊢
  split at h
  ·rename_i h2 h3
   simp only [h2,h3]
   exact Or.inl (YL h)
  ·rename_i h2
   simp only [h2]
   exact h
  ·rename_i h2
   simp only [h2]
   exact h
  ·rename_i f
   refine BM ?_
   unfold Gw at h
   unfold Dz
   split at h
   ·rename_i g caps hf
    rw [hf]
    rcases h with ⟨h1,⟨h2,r,h3,h4⟩|⟨id,z,els,r,g1,g2,g3,g4,g5,g6⟩|⟨id,z,els,id2,z2,els2,r,gn,g1,g1',g2,g2',g3,g4,g5,g6⟩⟩
    ·exact ⟨h1,F6 h3 h2 (fun r' e=>e▸h4)⟩
    ·exact ⟨h1,IR id g1 g2 g5 g3 g4 g6⟩
    ·exact ⟨h1,Kq id id2 gn g1 g1' g2 g2' g5 g3 g4 g6⟩
   ·exact h.elim
  ·exact h.elim
section bar
variable {ops:Array Oper} {md:Region.Mode}
def jZ (md:Region.Mode) (ops:Array Oper) (j:Nat) (p:Nat→Bool):Bool:=match ops[j]? with
 | some o=>o.after.toList.any fun e=>Region.binds md e&&p e.on
 | none=>false
def LQ (o:Oper):Bool:=match o.op with
 | .move _=>o.guard.isNone&&o.after.isEmpty
 | _=>false
def GU (ops:Array Oper) (i:Nat):Bool:=match ops[i]? with
 | some o=>LQ o
 | none=>false
def PX:Op→Bool
 | .build _ _|.buildSlice _ _ _=>true
 | _=>false
def Lz (ops:Array Oper) (i:Nat):Bool:=match ops[i]? with
 | some o=>PX o.op
 | none=>false
def J0 (md:Region.Mode) (ops:Array Oper) (k:Nat):Bool:=
 ((List.range k).all fun i=>(Lz ops k&&GU ops i) || (List.range (k - i)).any fun d=>jZ md ops (i+1+d) fun t=>decide (t=i))&&
 ((List.range (ops.size - (k+1))).all fun d=>jZ md ops (k+1+d) fun t=>decide (k≤t)&&decide (t < k+1+d))
def CB (md:Region.Mode) (ops:Array Oper) (listed:Array Bool):Prop:=
 ∀j o,ops[j]?=some o→listed.getD j false=true→∀e∈o.after,Region.binds md e=true→listed.getD e.on false=true
theorem Q4 {j:Nat} {p:Nat→Bool} (h:jZ md ops j p=true):∃o,ops[j]?=some o∧∃e∈o.after,Region.binds md e=true∧p e.on=true:=by
 unfold jZ at h
 split at h
 ·rename_i o ho
  obtain ⟨e,he,h⟩:=List.any_eq_true.1 h
  simp only [Bool.and_eq_true] at h
  exact ⟨o,ho,e,by simpa using he,h.1,h.2⟩
 ·cases h
theorem Fe:CB md ops (Array.replicate ops.size false):=fun j o ho h=>by
 have hj:j < ops.size:=(Array.getElem?_eq_some_iff.1 ho).1
 simp [hj] at h
theorem D1 {listed:Array Bool} {i:Nat} (hc:CB md ops listed) (hi:i∈Region.ready md ops listed):CB md ops (listed.setIfInBounds i true):=by
 intro j o ho hj e he hb
 by_cases hji:i=j
 ·subst hji
  obtain ⟨_,o',ho',hall⟩:=mem_ready.1 hi
  rw [ho] at ho'
  cases ho'
  exact getD_set_true (hall e he hb)
 ·rw [getD_set_ne false hji] at hj
  exact getD_set_true (hc j o ho hj e he hb)
theorem S9 {j:Nat} {o:Oper} (ho:ops[j]?=some o) (h:GU ops j=true):∀e∈o.after,False:=by
 unfold GU at h
 simp only [ho] at h
 unfold LQ at h
 split at h
 ·simp only [Bool.and_eq_true,Array.isEmpty_iff] at h
  intro e he
  rw [h.2] at he
  simp at he
 ·cases h
theorem bV {k:Nat} {listed:Array Bool} (hb:J0 md ops k=true) (hc:CB md ops listed) (hk:k∈Region.ready md ops listed) (n:Nat):∀i,i+n=k→0 < n→listed.getD i false=true∨(Lz ops k=true∧GU ops i=true):=by
 induction n using Nat.strongRecOn with
 | _ n ih=>
   intro i hi hn
   simp only [J0,Bool.and_eq_true,List.all_eq_true,List.mem_range,List.any_eq_true,Bool.or_eq_true] at hb
   rcases hb.1 i (by omega) with h|⟨d,hd,h⟩
   ·exact .inr h
   ·obtain ⟨o,ho,e,he,hbi,hp⟩:=Q4 h
    simp only [decide_eq_true_eq] at hp
    refine .inl ?_
    by_cases hjk:i+1+d=k
    ·obtain ⟨_,o',ho',hall⟩:=mem_ready.1 hk
     rw [←hjk,ho] at ho'
     cases ho'
     rw [←hp];exact hall e he hbi
    ·rcases ih (n - (1+d)) (by omega) (i+1+d) (by omega) (by omega) with h1|h1
     ·rw [←hp];exact hc _ o ho h1 e he hbi
     ·exact (S9 ho h1.2 e he).elim
theorem YM {k:Nat} {listed:Array Bool} (hb:J0 md ops k=true) (hc:CB md ops listed) (hk:listed.getD k false=false) (d:Nat):k+1+d < ops.size→listed.getD (k+1+d) false=false∧k+1+d∉Region.ready md ops listed:=by
 induction d using Nat.strongRecOn with
 | _ d ih=>
   intro hlt
   simp only [J0,Bool.and_eq_true,List.all_eq_true,List.mem_range] at hb
   have h:=hb.2 d (by omega)
   obtain ⟨o,ho,e,he,hbi,hp⟩:=Q4 h
   simp only [decide_eq_true_eq,Bool.and_eq_true] at hp
   have hno:listed.getD e.on false=false:=by
    by_cases hek:e.on=k
    ·rw [hek];exact hk
    ·have:=(ih (e.on - (k+1)) (by omega) (by omega)).1
     rwa [show k+1+(e.on - (k+1))=e.on by omega] at this
   refine ⟨?_,fun hr=>?_⟩
   ·cases hx:listed.getD (k+1+d) false with
    | false=>rfl
    | true=>have:=hc _ o ho hx e he hbi;rw [hno] at this;cases this
   ·obtain ⟨_,o',ho',hall⟩:=mem_ready.1 hr
    rw [ho] at ho'
    cases ho'
    have:=hall e he hbi
    rw [hno] at this;cases this
theorem L1 {listed:Array Bool} {i:Nat} (h:listed.getD i true=false):listed.getD i false=false:=by
 rcases Nat.lt_or_ge i listed.size with h'|h'
 ·simpa [h'] using h
 ·simp [Array.getElem?_eq_none h'] at h
theorem OI {k i:Nat} {listed:Array Bool} (hb:J0 md ops k=true) (hc:CB md ops listed) (hk:k∈Region.ready md ops listed) (hi:i∈Region.ready md ops listed):i=k∨(i < k∧Lz ops k=true∧GU ops i=true):=by
 obtain ⟨hu,oi,ho,_⟩:=mem_ready.1 hi
 have hlt:i < ops.size:=(Array.getElem?_eq_some_iff.1 ho).1
 rcases Nat.lt_trichotomy i k with h|h|h
 ·rcases bV hb hc hk (k - i) i (by omega) (by omega) with this|this
  ·rw [L1 hu] at this;cases this
  ·exact .inr ⟨h,this⟩
 ·exact .inl h
 ·have:=(YM hb hc (L1 (mem_ready.1 hk).1) (i - (k+1)) (by omega)).2
  rw [show k+1+(i - (k+1))=i by omega] at this
  exact absurd hi this
theorem YN {k i:Nat} {listed:Array Bool} (hb:J0 md ops k=true) (hc:CB md ops listed) (hpre:∀j < k,listed.getD j false=true) (hk:k∈Region.ready md ops listed) (hi:i∈Region.ready md ops listed):i=k:=by
 rcases OI hb hc hk hi with h|⟨h,_⟩
 ·exact h
 ·have:=hpre i h
  rw [L1 (mem_ready.1 hi).1] at this
  cases this
theorem U1 {k:Nat} {listed:Array Bool} (hpre:∀j < k,listed.getD j false=true) (hs:k < listed.size):∀j < k+1,(listed.setIfInBounds k true).getD j false=true:=fun j hj=>by
 by_cases e:j=k
 ·subst e
  simp [Array.getD,hs]
 ·exact getD_set_true (hpre j (by omega))
end bar
section any
variable {C:Ctx} {ops:Array Oper} {md:Region.Mode}
def As (ops:Array Oper) (o:Oper) (σ:St):Option Bool:=
 match o.guard with
 | none=>some true
 | some (j,want)=>match Ct ops σ j with
   | .bool b=>some (b==want)
   | .tup _=>some false
   | _=>none
def YA (C:Ctx) (ops:Array Oper) (o:Oper) (r:V) (σ:St):Prop:=
 (As ops o σ=some true∧Bg C o σ fun r' σ'=>r'=r∧σ'=σ)∨(As ops o σ=some false∧r= .tup [])
def qOpA (C:Ctx) (md:Region.Mode) (ops:Array Oper) (i:Nat) (K:St→Prop) (σ:St):Prop:=
 match ops[i]? with
 | none=>K σ
 | some o=>(∃r,YA C ops o r σ∧K (σ.put o.dst r))∨(o.guard=none∧J0 md ops i=true∧∃K0:V→St→Prop,DJ C o σ K0∧∀r σ',K0 r σ'→K (σ'.put o.dst r))
def HD (C:Ctx) (md:Region.Mode) (ops:Array Oper) (Q:St→Prop):Nat→Array Bool→St→Prop
 | 0,listed,σ=>Region.ready md ops listed=[]∧Q σ
 | fuel+1,listed,σ=>(Region.ready md ops listed=[]→Q σ)∧∀i∈Region.ready md ops listed,qOpA C md ops i (HD C md ops Q fuel (listed.setIfInBounds i true)) σ
theorem DZ {o:Oper} {σ:St} {a:Act} {w:World} {b:Bool} (hr:Rel C σ a w) (h:As ops o σ=some b):Region.wanted o (yielded ops a.tmps)=b:=by
 unfold As at h
 unfold Region.wanted
 split at h
 ·rename_i hg
  simp only [Option.some.injEq] at h
  simp [hg,h]
 ·rename_i j want hg
  split at h
  ·rename_i b' hb
   simp only [Option.some.injEq] at h
   rw [hg]
   simp only [Lk hr hb]
   rw [←h]
   cases b'<;>cases want<;>rfl
  ·rename_i l hb
   simp only [Option.some.injEq] at h
   rw [hg]
   simp only [Lj hr hb]
   rw [←h]
   rfl
  ·cases h
theorem PY {i:Nat} {σ:St} {a:Act} {w:World} {K:St→Prop} {K':Act→World→Prop} {Q':Exit→Act→World→Prop} (hr:Rel C σ a w) (h:∀σ a w,Rel C σ a w→K σ→K' a w) (hh:qOpA C md ops i K σ):wpOp C.P ops Q' i K' a w:=by
 unfold qOpA at hh
 unfold wpOp
 split
 ·rename_i ho;simp only [ho] at hh;exact h _ _ _ hr hh
 ·rename_i o ho
  simp only [ho] at hh
  obtain ⟨r,hy,hk⟩|⟨hg,_,K0,hS,hK⟩:=hh
  case inr=>
   rw [DZ (o:=o) (b:=true) hr (by simp [As,hg])]
   refine .inl (DT o σ _ hS a w hr _ _ ?_)
   intro v w' r' σ' hk0 hx
   exact h _ _ _ (DI o.dst hx) (hK _ _ hk0)
  rcases hy with ⟨hw,hq⟩|⟨hw,rfl⟩
  ·rw [DZ hr hw]
   refine .inl (DT o σ _ (Ly hq) a w hr _ _ ?_)
   rintro v w' r' σ' ⟨rfl,rfl⟩ hx
   exact h _ _ _ (DI o.dst hx) hk
  ·rw [DZ hr hw]
   obtain ⟨I,bl,hp⟩:=hr.parts
   exact h _ _ _ (DI o.dst (hp.relx Jw)) hk
theorem L2 {Q:St→Prop} {Q':Exit→Act→World→Prop} (hQ:∀σ a w,Rel C σ a w→Q σ→Q' .normal a w):∀(fuel:Nat) (listed:Array Bool) (σ:St) (a:Act) (w:World),Rel C σ a w→
 HD C md ops Q fuel listed σ→wpAny C.P md ops Q' fuel listed a w
 | 0,_,_,_,_,hr,h=>⟨h.1,hQ _ _ _ hr h.2⟩
 | fuel+1,_,_,_,_,hr,h=>⟨fun h0=>hQ _ _ _ hr (h.1 h0),fun i hi=>PY hr (fun σ' a' w' hr'=>L2 hQ fuel _ σ' a' w' hr') (h.2 i hi)⟩
theorem I9 {σ:St} {d:Option Tmp} {x:V} {y:Operand} (h:∀t,d=some t→y≠.tmp t):(σ.put d x).val y=σ.val y:=by
 cases d with
 | none=>rfl
 | some t=>
   cases y with
   | tmp u=>
     have hne:t≠u:=fun e=>h t rfl (e▸rfl)
     simp [St.val,St.put,List.getD,List.getElem?_set_ne hne]
   | _=>rfl
theorem OJ (σ:St) {x y:Option Tmp} (v u:V) (h:∀d,x=some d→y≠some d):(σ.put x v).put y u=(σ.put y u).put x v:=by
 cases x with
 | none=>rfl
 | some d=>
   cases y with
   | none=>rfl
   | some e=>
     have hne:d≠e:=fun he=>h d rfl (he▸rfl)
     simp [St.put,List.set_comm _ _ hne]
theorem L3 (σ:St) (d:Option Tmp) (x:V):(σ.put d x).heap=σ.heap:=by cases d<;>rfl
theorem Ff {o:Oper} {d:Tmp} (h:d∉o.looksAt ops) (x:Operand) (hx:x∈o.op.operands.toList):x≠.tmp d:=by
 intro e
 subst e
 apply h
 unfold Oper.looksAt
 rw [List.mem_append]
 left
 rw [List.mem_filterMap]
 exact ⟨_,hx,rfl⟩
theorem Hm {o:Oper} {σ:St} {d:Option Tmp} {x:V} (h:∀t,d=some t→t∉o.looksAt ops):As ops o (σ.put d x)=As ops o σ:=by
 unfold As
 split
 ·rfl
 ·rename_i j want hg
  have:Ct ops (σ.put d x) j=Ct ops σ j:=by
   unfold Ct
   split
   ·rename_i t ht
    cases d with
    | none=>rfl
    | some u=>
      have hne:u≠t:=by
       intro e
       subst e
       apply h u rfl
       unfold Oper.looksAt
       rw [List.mem_append]
       right
       rw [hg]
       simp [ht]
      simp [St.put,List.getD,List.getElem?_set_ne hne]
   ·rfl
  rw [this]
theorem eU {o:Oper} {r:V} {σ:St} {d:Option Tmp} {x:V} (h:∀t,d=some t→t∉o.looksAt ops) (hy:YA C ops o r σ):YA C ops o r (σ.put d x):=by
 rcases hy with ⟨hw,hq⟩|⟨hw,rfl⟩
 ·refine .inl ⟨by rw [Hm h];exact hw,?_⟩
  obtain ⟨r',⟨rfl,_⟩,h2⟩:=EY hq
  exact h2 _ _ (fun y hy=>I9 fun t ht=>Ff (h t ht) y hy) (L3 _ _ _) ⟨rfl,rfl⟩
 ·exact .inr ⟨by rw [Hm h];exact hw,rfl⟩
theorem YO {o:Oper} {r:V} {σ:St} {d:Option Tmp} {x:V} (h:∀t,d=some t→t∉o.looksAt ops) (hy:YA C ops o r (σ.put d x)):YA C ops o r σ:=by
 rcases hy with ⟨hw,hq⟩|⟨hw,rfl⟩
 ·refine .inl ⟨by rw [Hm h] at hw;exact hw,?_⟩
  obtain ⟨r',⟨rfl,_⟩,h2⟩:=EY hq
  exact h2 _ _ (fun y hy=>(I9 fun t ht=>Ff (h t ht) y hy).symm) (L3 _ _ _).symm ⟨rfl,rfl⟩
 ·exact .inr ⟨by rw [Hm h] at hw;exact hw,rfl⟩
theorem WP {i:Nat} {σ:St} {K K':St→Prop} (h:∀σ,K σ→K' σ) (hh:qOpA C md ops i K σ):qOpA C md ops i K' σ:=by
 unfold qOpA at*
 split
 ·rename_i ho;simp only [ho] at hh;exact h _ hh
 ·rename_i o ho
  simp only [ho] at hh
  obtain ⟨r,hy,hk⟩|⟨hg,hb,K0,hS,hK⟩:=hh
  ·exact .inl ⟨r,hy,h _ hk⟩
  ·exact .inr ⟨hg,hb,K0,hS,fun r σ' hk=>h _ (hK r σ' hk)⟩
theorem YA.qOpA {i:Nat} {o:Oper} {r:V} {σ:St} (hi:ops[i]?=some o) (hy:YA C ops o r σ) {K:St→Prop} (h:K (σ.put o.dst r)):qOpA C md ops i K σ:=by
 unfold Go.Proofs.YtkaiffheakalmaaGreatDoor.qOpA
 simp only [hi]
 exact .inl ⟨r,hy,h⟩
theorem YP (σ:St) (d:Option Tmp) (v:V) (h:List (Option Ob)):{ σ.put d v with heap:=h}=({ σ with heap:=h}:St).put d v:=by cases d<;>rfl
theorem WQ {o:Oper} (hcalm:PX o.op=true) {d:Option Tmp} {v:V} {σ:St} (h:∀t,d=some t→∀x∈o.op.operands.toList,x≠.tmp t) {K0:V→St→Prop} (hS:DJ C o (σ.put d v) K0):DJ C o σ (fun r σ'=>σ'.env=σ.env∧K0 r (σ'.put d v)):=by
 unfold PX at hcalm
 split at hcalm
 ·rename_i t ps ho
  unfold DJ at hS ⊢
  simp only [ho] at hS ⊢
  have e:ps.toList.map (fun p=>(p.1,(σ.put d v).val p.2))=ps.toList.map (fun p=>(p.1,σ.val p.2)):=List.map_congr_left fun p hp=>by
   rw [I9 fun t ht=>h t ht p.2 (by rw [ho];simp [Op.operands];exact ⟨p.1,by simpa using hp⟩)]
  rw [e] at hS
  unfold GR at hS ⊢
  split at hS
  ·rename_i pl c0 h1 h2
   simp only [h1,h2]
   split at hS
   ·exact ⟨trivial,hS⟩
   ·exact hS.elim
  ·exact hS.elim
 ·rename_i t n ps ho
  unfold DJ at hS ⊢
  simp only [ho] at hS ⊢
  have e:ps.toList.map (fun p=>(p.1,(σ.put d v).val p.2))=ps.toList.map (fun p=>(p.1,σ.val p.2)):=List.map_congr_left fun p hp=>by
   rw [I9 fun t ht=>h t ht p.2 (by rw [ho];simp [Op.operands];exact ⟨p.1,by simpa using hp⟩)]
  rw [e] at hS
  unfold Fg at hS ⊢
  split at hS
  ·rename_i e z h1
   obtain ⟨a1,a2,a3,a4,a5⟩:=hS
   rw [L3,YP] at a5
   exact ⟨a1,a2,a3,a4,rfl,a5⟩
  ·exact hS.elim
 ·cases hcalm
theorem bW {σ σ':St} (h:σ'.env=σ.env) (x:Operand):σ'.val x=σ.val x:=by
 cases x<;>simp [St.val,h]
theorem YQ {j i:Nat} {oi oj:Oper} {r:V} (hi:ops[i]?=some oi) (hj:ops[j]?=some oj) (hap:oi.apart ops oj=true) (hnb:J0 md ops j=true→Lz ops j=true∧GU ops i=true) {K:St→Prop} {σ:St} (hy:YA C ops oi r σ) (h:qOpA C md ops j K (σ.put oi.dst r)):
 qOpA C md ops j (fun σ'=>YA C ops oi r σ'∧K (σ'.put oi.dst r)) σ:=by
 obtain ⟨h1,h2,h3⟩:=Oper.apart_spec hap
 unfold qOpA at h ⊢
 simp only [hj] at h ⊢
 obtain ⟨u,hu,hk⟩|⟨hg,hb,K0,hS,hK⟩:=h
 ·refine .inl ⟨u,YO h1 hu,eU h3 hy,?_⟩
  rw [←OJ σ r u h2]
  exact hk
 ·obtain ⟨hc,hf⟩:=hnb hb
  have hc:PX oj.op=true:=by unfold Lz at hc;rw [hj] at hc;exact hc
  have hf:LQ oi=true:=by unfold GU at hf;rw [hi] at hf;exact hf
  refine .inr ⟨hg,hb,_,WQ hc (fun t ht x hx=>Ff (h1 t ht) x hx) hS,?_⟩
  rintro u σ' ⟨he,hk⟩
  have hmv:∃x,oi.op= .move x∧oi.guard=none:=by
   unfold LQ at hf
   split at hf
   ·rename_i x hx
    simp only [Bool.and_eq_true,Option.isNone_iff_eq_none] at hf
    exact ⟨x,hx,hf.1⟩
   ·cases hf
  obtain ⟨x,hx,hgi⟩:=hmv
  refine ⟨?_,?_⟩
  ·rcases hy with ⟨hw,hq⟩|⟨hw,_⟩
   ·refine .inl ⟨by simp [As,hgi],?_⟩
    unfold Bg at hq ⊢
    simp only [hx] at hq ⊢
    refine ⟨?_,trivial⟩
    rw [←hq.1,I9 fun t ht=>Ff (h3 t ht) x (by rw [hx];simp [Op.operands]),bW he]
   ·simp [As,hgi] at hw
  ·rw [←OJ σ' r u h2]
   exact hK _ _ hk
theorem PZ {Q:St→Prop} {i:Nat} {oi:Oper} {r:V} (hi:ops[i]?=some oi):
 ∀(fuel:Nat) (listed:Array Bool) (σ:St),CB md ops listed→
   (∀j oj,ops[j]?=some oj→j≠i→listed.getD j true=false→(∀e∈oj.after,Region.binds md e=true→e.on≠i)→oi.apart ops oj=true)→
   i∈Region.ready md ops listed→YA C ops oi r σ→HD C md ops Q fuel (listed.setIfInBounds i true) (σ.put oi.dst r)→HD C md ops Q (fuel+1) listed σ:=by
 intro fuel
 induction fuel with
 | zero=>
   intro listed σ _ _ hr hy H
   refine ⟨fun h=>(by rw [h] at hr;cases hr),fun j hj=>?_⟩
   by_cases hji:j=i
   ·subst hji;exact hy.qOpA hi H
   ·have:=ready_mono hj hji
    rw [H.1] at this
    cases this
 | succ fuel ih=>
   intro listed σ hc hfree hr hy H
   refine ⟨fun h=>(by rw [h] at hr;cases hr),fun j hj=>?_⟩
   by_cases hji:j=i
   ·subst hji;exact hy.qOpA hi H
   ·have h1:=H.2 j (ready_mono hj hji)
    obtain ⟨hjun,oj,hoj,hall⟩:=mem_ready.1 hj
    have hnot:∀e∈oj.after,Region.binds md e=true→e.on≠i:=fun e he hb heq=>by
     have h1:=hall e he hb
     have h0:=(mem_ready.1 hr).1
     rw [heq] at h1
     rcases Nat.lt_or_ge i listed.size with h'|h'
     ·simp [h'] at h0 h1;rw [h0] at h1;cases h1
     ·simp [Array.getElem?_eq_none h'] at h1
    have h2:=YQ hi hoj (hfree j oj hoj hji hjun hnot) (fun hb=>by
     rcases OI hb hc hj hr with h|h
     ·exact absurd h.symm hji
     ·exact h.2) hy h1
    have hfree':∀k ok,ops[k]?=some ok→k≠i→(listed.setIfInBounds j true).getD k true=false→
     (∀e∈ok.after,Region.binds md e=true→e.on≠i)→oi.apart ops ok=true:=fun k ok hk hki hun hno=>by
     refine hfree k ok hk hki ?_ hno
     by_cases hjk:j=k
     ·subst hjk;exact hjun
     ·rw [getD_set_ne true hjk] at hun;exact hun
    refine WP (fun σ' h3=>ih (listed.setIfInBounds j true) σ' (D1 hc hj) hfree' (ready_mono hr (Ne.symm hji)) h3.1 ?_) h2
    rw [Array.setIfInBounds_comm _ _ hji]
    exact h3.2
end any
end
section
open Go.RowKit
section any
variable {C:Ctx} {ops:Array Oper} {md:Region.Mode}
end any
section unfold
variable {C:Ctx} {Q:Exit→St→Prop} {σ:St}
end unfold
end
end Go.Proofs.YtkaiffheakalmaaGreatDoor
