/- Copied, stripped. No conditions. -/
import Derived.Test.YtkaiffheakalmaaGreatDoorU9Awp
set_option linter.unusedSimpArgs false
set_option linter.unusedVariables false
set_option maxRecDepth 100000
namespace Go.Proofs.YtkaiffheakalmaaGreatDoor
open Go.RowKit
def Mo:IntKind→Int
  | .i8=>-128|.i16=>-32768|.i32=>-2147483648|.i64=>-9223372036854775808|_=>0
def Mp:IntKind→Int
  | .i8=>127|.i16=>32767|.i32=>2147483647|.i64=>9223372036854775807|.u8=>255|.u16=>65535|.u32=>4294967295|.u64=>18446744073709551615
def UU (k:IntKind) (n:Int):Bool:=decide (Mo k≤n)&&decide (n≤Mp k)
theorem Yw {k:IntKind} {n:Int} (h1:Mo k≤n) (h2:n≤Mp k):UU k n=true:=by simp [UU,h1,h2]
theorem UV {k:IntKind} {n:Int} (h:UU k n=true):k.wrap n=n:=by
  simp only [UU,Bool.and_eq_true,decide_eq_true_eq] at h
  cases k<;>simp only [Mo,Mp] at h<;>simp only [IntKind.wrap,IntKind.bits,IntKind.signed]<;>simp<;>omega
structure FitD (k:IntKind) (n:Int) (A B:Prop):Prop where
  out:Br (UU k n) A B
def Mq (k:IntKind) (n:Int) (K:V→Prop):Prop:=FitD k n (K (.int k n)) (K (.int k (k.wrap n)))
theorem dE {k:IntKind} {n:Int} {A B:Prop} (h:Mo k≤n∧n≤Mp k) (a:A):FitD k n A B:=⟨dB (Yw h.1 h.2) a⟩
theorem AS {n:Int} {A B:Prop} (h:-9223372036854775808≤n∧n≤9223372036854775807) (a:A):FitD .i64 n A B:=dE h a
def OC (p:Prop) (K:V→Prop):Prop:=BrD p (K (.bool true)) (K (.bool false))
def PU (p:Prop) (K:V→Prop):Prop:=BrD p (K (.bool false)) (K (.bool true))
theorem M9 {p:Prop} [Decidable p] {K:V→Prop} (h:OC p K):K (.bool (decide p)):=by
  by_cases hp:p
  . rw [decide_eq_true hp];exact h.t hp
  . rw [decide_eq_false hp];exact h.f hp
theorem K9 {p:Prop} [Decidable p] {K:V→Prop} (h:PU p K):K (.bool (decide ¬p)):=by
  by_cases hp:p
  . rw [decide_eq_false (fun n=>n hp)];exact h.t hp
  . rw [decide_eq_true hp];exact h.f hp
theorem NA {p:Prop} {K K':V→Prop} (h:OC p K) (hk:∀r,K r→K' r):OC p K':=IG h (hk _) (hk _)
theorem LA {p:Prop} {K K':V→Prop} (h:PU p K) (hk:∀r,K r→K' r):PU p K':=IG h (hk _) (hk _)
theorem Fe {k:IntKind} {n:Int} {K:V→Prop} (h:Mq k n K):K (.int k (k.wrap n)):=by
  rcases Dp h.out with ⟨h1,h2⟩|⟨_,h2⟩
  . rw [UV h1];exact h2
  . exact h2
def jN (v:V) (K:Bool→Prop):Prop:=match v with|.bool b=>K b|_=>False
theorem PV {v:V} {K:Bool→Prop} (h:jN v K):∃b,v= .bool b∧K b:=by
  cases v<;>first|exact ⟨_,rfl,h⟩|exact h.elim
def Me (a b:IntKind):Bool:=decide (a=b)
def dF (op:BinOp) (b:Bool) (K:V→Prop):Prop:=match op with|.eql=>K (.bool b)|.neq=>K (.bool (!b))|_=>False
def PW (op:BinOp):List Kd→List V→List V→(V→Prop)→Prop
  | [],[],[],K=>dF op true K
  | .s::ks,.str a::l,.str b::r,K=>BrD (a=b) (PW op ks l r K) (dF op false K)
  | .b::ks,.bool a::l,.bool b::r,K=>BrD (a=b) (PW op ks l r K) (dF op false K)
  | .i _::ks,.int k a::l,.int k' b::r,K=>Br (Me k k') (BrD (a=b) (PW op ks l r K) (dF op false K)) False
  | _,_,_,_=>False
def eBin (T:TT) (q:Bool) (t:TypeId) (op:BinOp) (x y:V) (K:V→Prop):Prop:=
  match x with
  | .int k a=>match y with
    | .int k' b=>match op with
      | .add=>Br (Me k k') (Mq k (a+b) K) False
      | .sub=>Br (Me k k') (Mq k (a - b) K) False
      | .mul=>Br (Me k k') (Mq k (a*b) K) False
      | .quo=>Br (Me k k') (AskD (b≠0) (Mq k (a.tdiv b) K)) False
      | .rem=>Br (Me k k') (AskD (b≠0) (K (.int k (a.tmod b)))) False
      | .eql=>Br (Me k k') (OC (a=b) K) False
      | .neq=>Br (Me k k') (PU (a=b) K) False
      | .lss=>Br (Me k k') (OC (a < b) K) False
      | .leq=>Br (Me k k') (OC (a≤b) K) False
      | .gtr=>Br (Me k k') (OC (b < a) K) False
      | .geq=>Br (Me k k') (OC (b≤a) K) False
      | .shl=>AskD (0≤b) (Mq k (a*2 ^ (min b.toNat k.bits)) K)
      | .shr=>AskD (0≤b) (K (.int k (a.fdiv (2 ^ (min b.toNat k.bits)))))
      | .and=>Br (Me k k') (K (.int k (RD k a b))) False
      | .or=>Br (Me k k') (K (.int k (WC k a b))) False
      | .xor=>Br (Me k k') (K (.int k (RE k a b))) False
      | _=>False
    | _=>False
  | .str s=>match y with
    | .str t=>match op with
      | .add=>AskD (s.length+t.length≤9223372036854775807) (K (.str (s++t)))
      | .eql=>OC (s=t) K
      | .neq=>PU (s=t) K
      | _=>False
    | _=>False
  | .bool a=>match y with
    | .bool b=>Br (T.get t).boo (match op with
      | .eql=>K (.bool (a==b))
      | .neq=>K (.bool (a != b))
      | _=>False) False
    | _=>False
  | .agg l=>match y with
    | .agg r=>match (T.get t).sq with
      | some ks=>PW op ks l r K
      | none=>False
    | _=>False
  | .nils=>match y with
    | .nils=>eNil q (T.get t).sli op (fun k=>k true) K
    | .lst l=>eNil q (T.get t).sli op (fun k=>∀b,(b=true→l=[])→k b) K
    | .sl _ _ n=>eNil q (T.get t).sli op (fun k=>∀b,(b=true→n=0)→k b) K
    | _=>False
  | .lst l=>match y with
    | .nils=>eNil q (T.get t).sli op (fun k=>∀b,(b=true→l=[])→k b) K
    | _=>False
  | .sl _ _ n=>match y with
    | .nils=>eNil q (T.get t).sli op (fun k=>∀b,(b=true→n=0)→k b) K
    | _=>False
  | .nilp=>match y with
    | .nilp=>eNil q (T.get t).ptr op (fun k=>k true) K
    | .ptr _ _ _=>eNil q (T.get t).ptr op (fun k=>k false) K
    | .rp _=>eNil q (T.get t).ptr op (fun k=>k false) K
    | _=>False
  | .ptr _ _ _=>match y with
    | .nilp=>eNil q (T.get t).ptr op (fun k=>k false) K
    | _=>False
  | .rp _=>match y with
    | .nilp=>eNil q (T.get t).ptr op (fun k=>k false) K
    | _=>False
  | _=>False
where eNil (q ok:Bool) (op:BinOp) (p:(Bool→Prop)→Prop) (K:V→Prop):Prop:=
  match q with
  | true=>False
  | false=>Br ok (match op with
    | .eql=>p fun b=>K (.bool b)
    | .neq=>p fun b=>K (.bool (!b))
    | _=>False) False
theorem PX {T:TT} {P:Program} {q:Bool} {t:TypeId} {op:BinOp} {k k':IntKind} {a b:Int} {σ:St} {K:V→St→Prop} (h:eBin T q t op (.int k a) (.int k' b) fun r=>K r σ):Kw P t op (.int k a) (.int k' b) K σ:=by
  have kk:∀{A:Prop},Br (Me k k') A False→k=k'∧A:=fun h=>by
    have:=Ap h
    exact ⟨by simpa [Me] using this.1,this.2⟩
  unfold Kw
  cases op
  all_goals first
    | (have:=kk h;exact ⟨this.1,Fe (K:=fun r=>K r σ) this.2⟩)
    | (have:=kk h;exact ⟨this.1,this.2.1,Fe (K:=fun r=>K r σ) this.2.2⟩)
    | (have:=kk h;exact ⟨this.1,this.2.1,this.2.2⟩)
    | (have:=kk h;exact ⟨this.1,M9 (K:=fun r=>K r σ) this.2⟩)
    | (have:=kk h;exact ⟨this.1,K9 (K:=fun r=>K r σ) this.2⟩)
    | (have:=kk h;exact ⟨this.1,this.2⟩)
    | exact ⟨AskD.p h,Fe (K:=fun r=>K r σ) (AskD.a h)⟩
    | exact ⟨AskD.p h,AskD.a h⟩
    | exact (h:False).elim
theorem CS {q ok ok':Bool} {op:BinOp} {p:(Bool→Prop)→Prop} {σ:St} {K:V→St→Prop} (h:eBin.eNil q ok op p fun r=>K r σ) (hok:PT ok ok') (hp:∀k k':Bool→Prop,(∀b,k b→k' b)→p k→p k'):
    ok'=true∧p (fun b=>Jn op b K σ)∧q=false:=by
  cases q with
  | true=>exact h.elim
  | false=>
    have h:=Ap h
    refine ⟨Bm hok h.1,?_,rfl⟩
    have h2:=h.2
    cases op
    all_goals first|exact hp _ _ (fun b hb=>hb) h2|exact h2.elim
theorem RM {op:BinOp} {b:Bool} {K:V→St→Prop} {σ:St} (h:dF op b fun r=>K r σ):Jn op b K σ:=by
  unfold Jn
  cases op<;>first|exact h|exact (h:False).elim
theorem dG {op:BinOp} {K:V→St→Prop} {σ:St}:∀(ks:List Kd) (l r:List V),(PW op ks l r fun x=>K x σ)→K3 op ks l r K σ:=by
  intro ks
  induction ks with
  | nil=>
    intro l r h
    match l,r,h with
    | [],[],h=>exact RM h
    | _::_,_,h=>simp [PW] at h
    | [],_::_,h=>simp [PW] at h
  | cons d ks ih=>
    intro l r h
    cases l with
    | nil=>cases d<;>simp [PW] at h
    | cons x l=>
      cases r with
      | nil=>cases d<;>cases x<;>simp [PW] at h
      | cons y r=>
        cases d<;>cases x<;>cases y<;>first
          | (simp only [PW] at h;done)
          | exact ⟨fun e=>ih l r (BrD.t h e),fun n=>RM (BrD.f h n)⟩
          | (have:=Ap h;exact ⟨by simpa [Me] using this.1,fun e=>ih l r (this.2.t e),fun n=>RM (this.2.f n)⟩)
theorem Yx {T:TT} {P:Program} (hT:T.All P) {q:Bool} {t:TypeId} {op:BinOp} {x y:V} {σ:St} {K:V→St→Prop} (h:eBin T q t op x y fun r=>K r σ):
    OA P t op x y K σ∧(q=true→RL P t op x y K σ):=by
  have ht:=TT.ok hT t
  cases x with
  | int k a=>
    cases y with
    | int k' b=>exact ⟨Bk (PX h),fun _=>PX h⟩
    | _=>exact (h:False).elim
  | str s=>
    cases y with
    | str t'=>
      have:J1 P t op (.str s) (.str t') K σ:=by
        unfold J1
        cases op
        all_goals first|exact ⟨AskD.p h,AskD.a h⟩|exact M9 (K:=fun r=>K r σ) h|exact K9 (K:=fun r=>K r σ) h|exact (h:False).elim
      exact ⟨Bk (GZ this),fun _=>this⟩
    | _=>exact (h:False).elim
  | bool a=>
    cases y with
    | bool b=>
      have:J1 P t op (.bool a) (.bool b) K σ:=by
        unfold J1
        have h:=Ap h
        refine ⟨Bm ht.boo h.1,?_⟩
        have h2:=h.2
        cases op
        all_goals first|exact h2|exact (h2:False).elim
      exact ⟨Bk (GZ this),fun _=>this⟩
    | _=>exact (h:False).elim
  | agg l=>
    cases y with
    | agg r=>
      simp only [eBin] at h
      split at h
      . rename_i ks hks
        have hs:=A5 ht.sq hks
        have:=dG ks l r h
        unfold OA RL
        simp only [hs]
        exact ⟨this,fun _=>this⟩
      . exact h.elim
    | _=>exact (h:False).elim
  | nils=>
    cases y with
    | nils=>
      simp only [eBin] at h
      obtain ⟨h1,h2,rfl⟩:=CS (σ:=σ) (K:=K) h ht.sli (fun k k' hk h=>hk _ h)
      exact ⟨Bk ⟨h1,h2⟩,fun h=>by cases h⟩
    | lst l=>
      simp only [eBin] at h
      obtain ⟨h1,h2,rfl⟩:=CS (σ:=σ) (K:=K) h ht.sli (fun k k' hk h b hb=>hk _ (h b hb))
      exact ⟨Bk ⟨h1,h2⟩,fun h=>by cases h⟩
    | sl _ _ n=>
      simp only [eBin] at h
      obtain ⟨h1,h2,rfl⟩:=CS (σ:=σ) (K:=K) h ht.sli (fun k k' hk h b hb=>hk _ (h b hb))
      exact ⟨Bk ⟨h1,h2⟩,fun h=>by cases h⟩
    | _=>exact (h:False).elim
  | lst l=>
    cases y with
    | nils=>
      simp only [eBin] at h
      obtain ⟨h1,h2,rfl⟩:=CS (σ:=σ) (K:=K) h ht.sli (fun k k' hk h b hb=>hk _ (h b hb))
      exact ⟨Bk ⟨h1,h2⟩,fun h=>by cases h⟩
    | _=>exact (h:False).elim
  | sl _ _ n=>
    cases y with
    | nils=>
      simp only [eBin] at h
      obtain ⟨h1,h2,rfl⟩:=CS (σ:=σ) (K:=K) h ht.sli (fun k k' hk h b hb=>hk _ (h b hb))
      exact ⟨Bk ⟨h1,h2⟩,fun h=>by cases h⟩
    | _=>exact (h:False).elim
  | nilp=>
    cases y with
    | nilp=>
      simp only [eBin] at h
      obtain ⟨h1,h2,rfl⟩:=CS (σ:=σ) (K:=K) h ht.ptr (fun k k' hk h=>hk _ h)
      exact ⟨Bk ⟨h1,h2⟩,fun h=>by cases h⟩
    | ptr _ _ _=>
      simp only [eBin] at h
      obtain ⟨h1,h2,rfl⟩:=CS (σ:=σ) (K:=K) h ht.ptr (fun k k' hk h=>hk _ h)
      exact ⟨Bk ⟨h1,h2⟩,fun h=>by cases h⟩
    | rp _=>
      simp only [eBin] at h
      obtain ⟨h1,h2,rfl⟩:=CS (σ:=σ) (K:=K) h ht.ptr (fun k k' hk h=>hk _ h)
      exact ⟨Bk ⟨h1,h2⟩,fun h=>by cases h⟩
    | _=>exact (h:False).elim
  | ptr _ _ _=>
    cases y with
    | nilp=>
      simp only [eBin] at h
      obtain ⟨h1,h2,rfl⟩:=CS (σ:=σ) (K:=K) h ht.ptr (fun k k' hk h=>hk _ h)
      exact ⟨Bk ⟨h1,h2⟩,fun h=>by cases h⟩
    | _=>exact (h:False).elim
  | rp _=>
    cases y with
    | nilp=>
      simp only [eBin] at h
      obtain ⟨h1,h2,rfl⟩:=CS (σ:=σ) (K:=K) h ht.ptr (fun k k' hk h=>hk _ h)
      exact ⟨Bk ⟨h1,h2⟩,fun h=>by cases h⟩
    | _=>exact (h:False).elim
  | _=>exact (h:False).elim
theorem Dr {b:Bool} {A B A' B':Prop} (h:Br b A B) (ha:A→A') (hb:B→B'):Br b A' B':=by
  cases b
  . exact hb h
  . exact ha h
theorem I7 {k:IntKind} {n:Int} {K K':V→Prop} (h:Mq k n K) (hk:∀r,K r→K' r):Mq k n K':=⟨Dr h.out (hk _) (hk _)⟩
theorem EV {q ok:Bool} {op:BinOp} {p:(Bool→Prop)→Prop} {K K':V→Prop} (hp:∀k k':Bool→Prop,(∀b,k b→k' b)→p k→p k') (h:eBin.eNil q ok op p K) (hk:∀r,K r→K' r):eBin.eNil q ok op p K':=by
  cases q with
  | true=>exact h.elim
  | false=>
    refine Dr h (fun h=>?_) id
    cases op
    all_goals first|exact hp _ _ (fun b hb=>hk _ hb) h|exact h.elim
theorem LB {op:BinOp} {b:Bool} {K K':V→Prop} (h:dF op b K) (hk:∀r,K r→K' r):dF op b K':=by
  cases op<;>first|exact hk _ h|exact (h:False).elim
theorem WM {op:BinOp} {K K':V→Prop} (hk:∀r,K r→K' r):∀(ks:List Kd) (l r:List V),PW op ks l r K→PW op ks l r K':=by
  intro ks
  induction ks with
  | nil=>
    intro l r h
    match l,r,h with
    | [],[],h=>exact LB h hk
    | _::_,_,h=>simp [PW] at h
    | [],_::_,h=>simp [PW] at h
  | cons d ks ih=>
    intro l r h
    cases l with
    | nil=>cases d<;>simp [PW] at h
    | cons x l=>
      cases r with
      | nil=>cases d<;>cases x<;>simp [PW] at h
      | cons y r=>
        cases d<;>cases x<;>cases y<;>first
          | (simp only [PW] at h;done)
          | exact IG h (ih l r) (fun h=>LB h hk)
          | exact Dr h (fun h=>IG h (ih l r) (fun h=>LB h hk)) id
theorem UW {T:TT} {q:Bool} {t:TypeId} {op:BinOp} {x y:V} {K K':V→Prop} (h:eBin T q t op x y K) (hk:∀r,K r→K' r):eBin T q t op x y K':=by
  cases x with
  | int k a=>
    cases y with
    | int k' b=>
      cases op
      all_goals first
        | exact Dr h (fun h=>I7 h hk) id
        | exact Dr h (hk _) id
        | exact Dr h (fun h=>Ga h (fun h=>I7 h hk)) id
        | exact Dr h (fun h=>Ga h (hk _)) id
        | exact Dr h (fun h=>NA h hk) id
        | exact Dr h (fun h=>LA h hk) id
        | exact Ga h (fun h=>I7 h hk)
        | exact Ga h (hk _)
        | exact (h:False).elim
    | _=>exact (h:False).elim
  | str s=>
    cases y with
    | str t'=>
      cases op
      all_goals first|exact Ga h (hk _)|exact NA h hk|exact LA h hk|exact (h:False).elim
    | _=>exact (h:False).elim
  | bool a=>
    cases y with
    | bool b=>
      refine Dr h (fun h=>?_) id
      cases op
      all_goals first|exact hk _ h|exact (h:False).elim
    | _=>exact (h:False).elim
  | agg l=>
    cases y with
    | agg r=>
      simp only [eBin] at h ⊢
      split at h
      . exact WM hk _ _ _ h
      . exact h.elim
    | _=>exact (h:False).elim
  | nils=>cases y<;>first|exact (h:False).elim|(simp only [eBin] at h ⊢;refine EV ?_ h hk;first|exact fun k k' hk h=>hk _ h|exact fun k k' hk h b hb=>hk _ (h b hb))
  | lst l=>cases y<;>first|exact (h:False).elim|(simp only [eBin] at h ⊢;refine EV ?_ h hk;first|exact fun k k' hk h=>hk _ h|exact fun k k' hk h b hb=>hk _ (h b hb))
  | sl _ _ n=>cases y<;>first|exact (h:False).elim|(simp only [eBin] at h ⊢;refine EV ?_ h hk;first|exact fun k k' hk h=>hk _ h|exact fun k k' hk h b hb=>hk _ (h b hb))
  | nilp=>cases y<;>first|exact (h:False).elim|(simp only [eBin] at h ⊢;refine EV ?_ h hk;first|exact fun k k' hk h=>hk _ h|exact fun k k' hk h b hb=>hk _ (h b hb))
  | ptr _ _ _=>cases y<;>first|exact (h:False).elim|(simp only [eBin] at h ⊢;refine EV ?_ h hk;first|exact fun k k' hk h=>hk _ h|exact fun k k' hk h b hb=>hk _ (h b hb))
  | rp _=>cases y<;>first|exact (h:False).elim|(simp only [eBin] at h ⊢;refine EV ?_ h hk;first|exact fun k k' hk h=>hk _ h|exact fun k k' hk h b hb=>hk _ (h b hb))
  | _=>exact (h:False).elim
end Go.Proofs.YtkaiffheakalmaaGreatDoor
