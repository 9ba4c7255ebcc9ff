/- Copied, stripped. No conditions. -/
import Derived.Test.YtkaiffheakalmaaGreatDoorU9Awm
set_option linter.unusedSimpArgs false
set_option linter.unusedVariables false
set_option maxRecDepth 100000
namespace Go.Proofs.YtkaiffheakalmaaGreatDoor
open Go.RowKit
def RD (k:IntKind) (a b:Int):Int:=k.wrap (BitVec.ofInt k.bits a&&&BitVec.ofInt k.bits b).toNat
def WC (k:IntKind) (a b:Int):Int:=k.wrap (BitVec.ofInt k.bits a ||| BitVec.ofInt k.bits b).toNat
def RE (k:IntKind) (a b:Int):Int:=k.wrap (BitVec.ofInt k.bits a ^^^ BitVec.ofInt k.bits b).toNat
def Jn (op:BinOp) (b:Bool) (K:V→St→Prop) (σ:St):Prop:=match op with|.eql=>K (.bool b) σ|.neq=>K (.bool (!b)) σ|_=>False
def Jo (P:Program) (t:TypeId):Bool:=match P.underlying t with|some (.pointer _)=>true|_=>false
def Kw (P:Program) (t:TypeId) (op:BinOp) (x y:V) (K:V→St→Prop) (σ:St):Prop:=
  match x,y with
  | .int k a,.int k' b=>match op with
    | .shl=>0≤b∧K (.int k (k.wrap (a*2 ^ (min b.toNat k.bits)))) σ
    | .shr=>0≤b∧K (.int k (a.fdiv (2 ^ (min b.toNat k.bits)))) σ
    | .and=>k=k'∧K (.int k (RD k a b)) σ
    | .or=>k=k'∧K (.int k (WC k a b)) σ
    | .xor=>k=k'∧K (.int k (RE k a b)) σ
    | op=>J1 P t op (.int k a) (.int k' b) K σ
  | .nils,.nils=>E5 P t=true∧Jn op true K σ
  | .lst l,.nils=>E5 P t=true∧∀b,(b=true→l=[])→Jn op b K σ
  | .nils,.lst l=>E5 P t=true∧∀b,(b=true→l=[])→Jn op b K σ
  | .sl _ _ n,.nils=>E5 P t=true∧∀b,(b=true→n=0)→Jn op b K σ
  | .nils,.sl _ _ n=>E5 P t=true∧∀b,(b=true→n=0)→Jn op b K σ
  | .nilp,.nilp=>Jo P t=true∧Jn op true K σ
  | .ptr _ _ _,.nilp=>Jo P t=true∧Jn op false K σ
  | .nilp,.ptr _ _ _=>Jo P t=true∧Jn op false K σ
  | .rp _,.nilp=>Jo P t=true∧Jn op false K σ
  | .nilp,.rp _=>Jo P t=true∧Jn op false K σ
  | x,y=>J1 P t op x y K σ
theorem GZ {P:Program} {t:TypeId} {op:BinOp} {x y:V} {K:V→St→Prop} {σ:St} (h:J1 P t op x y K σ):Kw P t op x y K σ:=by
  unfold Kw
  split
  . split
    all_goals first|exact h|exact (h:_∧False).2.elim
  all_goals first|exact h|exact (h:False).elim
theorem Ee {P:Program} {t:TypeId} (h:Jo P t=true):∃e,P.underlying t=some (.pointer e):=by
  unfold Jo at h
  split at h
  . exact ⟨_,‹_›⟩
  . simp at h
theorem Fb {P:Program} {t e:TypeId} (h:P.underlying t=some (.pointer e)) (w:World) (a b:Option Addr) (hab:a=none∨b=none):(Op.equal t (.pointer a) (.pointer b)).run P w= .ok (decide (a=b)) w:=by
  unfold Op.equal Op.maxDepth Op.equalIn
  simp only [Sem.run_bind,run_underlying h,Result.andThen_ok]
  rcases hab with rfl|rfl
  . cases b<;>simp
  . cases a<;>simp
theorem Fc {P:Program} {t e:TypeId} (h:P.underlying t=some (.slice e)) (w:World) (a b:Option Addr) (n c n' c':Nat) (hab:a=none∨b=none):(Op.equal t (.slice a n c) (.slice b n' c')).run P w= .ok (decide (a=b)) w:=by
  unfold Op.equal Op.maxDepth Op.equalIn
  simp only [Sem.run_bind,run_underlying h,Result.andThen_ok]
  rcases hab with rfl|rfl
  . cases b<;>simp
  . cases a<;>simp
theorem HV {C:Ctx} {o:Oper} {σ:St} {K:V→St→Prop} {op:BinOp} {t t':TypeId} {x y:Operand} (ho:o.op= .binOp op t x y t') (p:Bool→Prop)
    (hv:∀a w I bl,RP C σ a w I bl→∃b,p b∧((∃q r,a.eval x= .pointer q∧a.eval y= .pointer r)∨(∃q n c q' n' c',a.eval x= .slice q n c∧a.eval y= .slice q' n' c'))∧(Op.equal t (a.eval x) (a.eval y)).run C.P w= .ok b w)
    (h:∀b,p b→Jn op b K σ):BR C o σ K:=by
  refine Am fun a w I bl hp=>?_
  obtain ⟨b,hb,hs,hr⟩:=hv a w I bl hp
  have hk:=h b hb
  unfold Jn at hk
  have hg:(eqGuard op t x y (a.eval x) (a.eval y)).run C.P w= .ok () w:=by
    unfold eqGuard
    rcases hs with ⟨q,r,e1,e2⟩|⟨q,n,c,q',n',c',e1,e2⟩<;>rw [e1,e2]<;>cases op<;>simp
  split at hk
  . refine ⟨.bool b,w,.bool b,σ,?_,hk,hp.relx (.pure _ _ (.bool _))⟩
    simp only [execOp,ho]
    have:(binOp .eql t (a.eval x) (a.eval y)).run C.P w= .ok (.bool b) w:=by
      rcases hs with ⟨q,r,e1,e2⟩|⟨q,n,c,q',n',c',e1,e2⟩<;>rw [e1,e2] at hr ⊢<;>simp [binOp,hr]
    simp [hg,this]
  . refine ⟨.bool (!b),w,.bool (!b),σ,?_,hk,hp.relx (.pure _ _ (.bool _))⟩
    simp only [execOp,ho]
    have:(binOp .neq t (a.eval x) (a.eval y)).run C.P w= .ok (.bool (!b)) w:=by
      rcases hs with ⟨q,r,e1,e2⟩|⟨q,n,c,q',n',c',e1,e2⟩<;>rw [e1,e2] at hr ⊢<;>simp [binOp,hr]
    simp [hg,this]
  . exact hk.elim
theorem N9 {w:World} {I:Nat→Prop} {bl:Nat→Option BI} {v:Value} {l:List V} (h:Rep w I bl v (.lst l)):∃a n c,v= .slice a n c∧(a=none→l=[]):=by
  cases h with
  | pure _ _ h=>cases h with
    | lnil a c=>exact ⟨_,_,_,rfl,fun _=>rfl⟩
    | lst b off cap z l u=>exact ⟨_,_,_,rfl,fun h=>by cases h⟩
theorem RF {w:World} {I:Nat→Prop} {bl:Nat→Option BI} {v:Value} {id off n:Nat} (h:Rep w I bl v (.sl id off n)):∃a m c,v= .slice a m c∧(a=none→n=0):=by
  rcases h.inv_sl with ⟨_,_,_,_,rfl,rfl⟩|⟨_,_,_,rfl,rfl⟩|⟨cap,b,base,z',m,e',hbl,hs,hsz,hlc,hcm,rfl⟩
  . exact ⟨_,_,_,rfl,fun _=>rfl⟩
  . exact ⟨_,_,_,rfl,fun _=>rfl⟩
  . exact ⟨_,_,_,rfl,fun h=>by cases h⟩
theorem Ym {C:Ctx} {o:Oper} {σ:St} {K:V→St→Prop} {op:BinOp} {t t':TypeId} {x y:Operand} (ho:o.op= .binOp op t x y t') (h:Kw C.P t op (σ.val x) (σ.val y) K σ):BR C o σ K:=by
  unfold Kw at h
  split at h
  . rename_i k a k' b hx hy
    have hX:∀ac w I bl,RP C σ ac w I bl→ac.eval x= .int k a:=fun ac w I bl hp=>by have:=hp.val x;rw [hx] at this;exact this.inv_int
    have hY:∀ac w I bl,RP C σ ac w I bl→ac.eval y= .int k' b:=fun ac w I bl hp=>by have:=hp.val y;rw [hy] at this;exact this.inv_int
    have key:∀n:Int,K (.int k n) σ→(op≠.eql∧op≠.neq)→(∀w,(binOp op t (.int k a) (.int k' b)).run C.P w= .ok (.int k n) w)→BR C o σ K:=by
      intro n hk hop hrun
      refine AW _ hk fun ac w I bl hp=>⟨.int k n,?_,.pure _ _ (.int _ _)⟩
      simp only [execOp,ho,hX ac w I bl hp,hY ac w I bl hp]
      have:(eqGuard op t x y (.int k a) (.int k' b)).run C.P w= .ok () w:=by
        unfold eqGuard
        cases op<;>simp
      simp [this,hrun]
    split at h
    . exact key _ h.2 (by simp) (fun w=>by have:=h.1;simp [binOp,Op.shift];omega)
    . exact key _ h.2 (by simp) (fun w=>by have:=h.1;simp [binOp,Op.shift];omega)
    . obtain ⟨rfl,h⟩:=h
      exact key _ h (by simp) (fun w=>by simp [binOp,Op.intBits,RD])
    . obtain ⟨rfl,h⟩:=h
      exact key _ h (by simp) (fun w=>by simp [binOp,Op.intBits,WC])
    . obtain ⟨rfl,h⟩:=h
      exact key _ h (by simp) (fun w=>by simp [binOp,Op.intBits,RE])
    . refine Vt ho ?_
      rw [hx,hy]
      exact h
  . rename_i hx hy
    obtain ⟨e,hu⟩:=CZ h.1
    refine HV ho (fun b=>b=true) (fun a w I bl hp=>?_) (fun b hb=>hb▸h.2)
    have h1:=hp.val x;rw [hx] at h1
    have h2:=hp.val y;rw [hy] at h2
    rw [h1.inv_nils,h2.inv_nils]
    exact ⟨true,rfl,.inr ⟨_,_,_,_,_,_,rfl,rfl⟩,by rw [Fc hu w _ _ _ _ _ _ (.inl rfl)];rfl⟩
  . rename_i l hx hy
    obtain ⟨e,hu⟩:=CZ h.1
    refine HV ho (fun b=>b=true→l=[]) (fun a w I bl hp=>?_) h.2
    have h1:=hp.val x;rw [hx] at h1
    have h2:=hp.val y;rw [hy] at h2
    obtain ⟨q,n,c,e1,hq⟩:=N9 h1
    rw [e1,h2.inv_nils]
    exact ⟨decide (q=none),fun hb=>hq (by simpa using hb),.inr ⟨_,_,_,_,_,_,rfl,rfl⟩,Fc hu w _ _ _ _ _ _ (.inr rfl)⟩
  . rename_i l hx hy
    obtain ⟨e,hu⟩:=CZ h.1
    refine HV ho (fun b=>b=true→l=[]) (fun a w I bl hp=>?_) h.2
    have h1:=hp.val x;rw [hx] at h1
    have h2:=hp.val y;rw [hy] at h2
    obtain ⟨q,n,c,e1,hq⟩:=N9 h2
    rw [e1,h1.inv_nils]
    exact ⟨decide (none=q),fun hb=>hq (by simpa using (of_decide_eq_true hb).symm),.inr ⟨_,_,_,_,_,_,rfl,rfl⟩,Fc hu w _ _ _ _ _ _ (.inl rfl)⟩
  . rename_i id off m hx hy
    obtain ⟨e,hu⟩:=CZ h.1
    refine HV ho (fun b=>b=true→m=0) (fun a w I bl hp=>?_) h.2
    have h1:=hp.val x;rw [hx] at h1
    have h2:=hp.val y;rw [hy] at h2
    obtain ⟨q,n,c,e1,hq⟩:=RF h1
    rw [e1,h2.inv_nils]
    exact ⟨decide (q=none),fun hb=>hq (by simpa using hb),.inr ⟨_,_,_,_,_,_,rfl,rfl⟩,Fc hu w _ _ _ _ _ _ (.inr rfl)⟩
  . rename_i id off m hx hy
    obtain ⟨e,hu⟩:=CZ h.1
    refine HV ho (fun b=>b=true→m=0) (fun a w I bl hp=>?_) h.2
    have h1:=hp.val x;rw [hx] at h1
    have h2:=hp.val y;rw [hy] at h2
    obtain ⟨q,n,c,e1,hq⟩:=RF h2
    rw [e1,h1.inv_nils]
    exact ⟨decide (none=q),fun hb=>hq (by simpa using (of_decide_eq_true hb).symm),.inr ⟨_,_,_,_,_,_,rfl,rfl⟩,Fc hu w _ _ _ _ _ _ (.inl rfl)⟩
  . rename_i hx hy
    obtain ⟨e,hu⟩:=Ee h.1
    refine HV ho (fun b=>b=true) (fun a w I bl hp=>?_) (fun b hb=>hb▸h.2)
    have h1:=hp.val x;rw [hx] at h1
    have h2:=hp.val y;rw [hy] at h2
    rw [h1.inv_nilp,h2.inv_nilp]
    exact ⟨true,rfl,.inl ⟨_,_,rfl,rfl⟩,by rw [Fb hu w _ _ (.inl rfl)];rfl⟩
  . rename_i i1 i2 i3 hx hy
    obtain ⟨e,hu⟩:=Ee h.1
    refine HV ho (fun b=>b=false) (fun a w I bl hp=>?_) (fun b hb=>hb▸h.2)
    have h1:=hp.val x;rw [hx] at h1
    have h2:=hp.val y;rw [hy] at h2
    obtain ⟨_,_,_,_,_,_,_,e1⟩:=h1.inv_ptr
    rw [e1,h2.inv_nilp]
    exact ⟨false,rfl,.inl ⟨_,_,rfl,rfl⟩,by rw [Fb hu w _ _ (.inr rfl)];rfl⟩
  . rename_i i1 i2 i3 hx hy
    obtain ⟨e,hu⟩:=Ee h.1
    refine HV ho (fun b=>b=false) (fun a w I bl hp=>?_) (fun b hb=>hb▸h.2)
    have h1:=hp.val x;rw [hx] at h1
    have h2:=hp.val y;rw [hy] at h2
    obtain ⟨_,_,_,_,_,_,_,e1⟩:=h2.inv_ptr
    rw [e1,h1.inv_nilp]
    exact ⟨false,rfl,.inl ⟨_,_,rfl,rfl⟩,by rw [Fb hu w _ _ (.inl rfl)];rfl⟩
  . rename_i l hx hy
    obtain ⟨e,hu⟩:=Ee h.1
    refine HV ho (fun b=>b=false) (fun a w I bl hp=>?_) (fun b hb=>hb▸h.2)
    have h1:=hp.val x;rw [hx] at h1
    have h2:=hp.val y;rw [hy] at h2
    obtain ⟨_,_,_,_,e1,_⟩:=h1.inv_rp
    rw [e1,h2.inv_nilp]
    exact ⟨false,rfl,.inl ⟨_,_,rfl,rfl⟩,by rw [Fb hu w _ _ (.inr rfl)];rfl⟩
  . rename_i l hx hy
    obtain ⟨e,hu⟩:=Ee h.1
    refine HV ho (fun b=>b=false) (fun a w I bl hp=>?_) (fun b hb=>hb▸h.2)
    have h1:=hp.val x;rw [hx] at h1
    have h2:=hp.val y;rw [hy] at h2
    obtain ⟨_,_,_,_,e1,_⟩:=h2.inv_rp
    rw [e1,h1.inv_nilp]
    exact ⟨false,rfl,.inl ⟨_,_,rfl,rfl⟩,by rw [Fb hu w _ _ (.inl rfl)];rfl⟩
  . exact Vt ho h
end Go.Proofs.YtkaiffheakalmaaGreatDoor
