/- Copied, stripped. No conditions. -/
import Derived.Test.YtkaiffheakalmaaGreatDoorU9Aws
set_option linter.unusedSimpArgs false
set_option linter.unusedVariables false
set_option maxRecDepth 100000
namespace Go.Proofs.YtkaiffheakalmaaGreatDoor
open Go.RowKit
def Gc (x:Option Ob):Option Ob:=match x with
  | none=>some (.hid [] [])
  | some o=>some o
def Bn (p:Nat) (h:List (Option Ob)):List (Option Ob):=(h.take p).map Gc++h.drop p
theorem RT (x:Option Ob):∃o,Gc x=some o:=by cases x<;>exact ⟨_,rfl⟩
theorem NF:∀(A B:List (Option Ob)),(∀x∈A,∃o,x=some o)→AG (A++none::B)=A.length
  | [],B,_=>rfl
  | x::A,B,h=>by
    obtain ⟨o,rfl⟩:=h x (by simp)
    simp only [List.cons_append,AG,List.length_cons]
    rw [NF A B (fun y hy=>h y (by simp [hy]))]
theorem TD (o:Ob):∀(A B:List (Option Ob)),(∀x∈A,∃o,x=some o)→Aj (A++none::B) o=A++some o::B
  | [],B,_=>rfl
  | x::A,B,h=>by
    obtain ⟨o',rfl⟩:=h x (by simp)
    simp only [List.cons_append,Aj]
    rw [TD o A B (fun y hy=>h y (by simp [hy]))]
theorem NG {p:Nat} {h:List (Option Ob)} (hp:h[p]?=some none):Bn p h=(h.take p).map Gc++none::h.drop (p+1):=by
  obtain ⟨hlt,he⟩:=List.getElem?_eq_some_iff.1 hp
  unfold Bn
  rw [List.drop_eq_getElem_cons hlt,he]
theorem Pe (l:List (Option Ob)):∀x∈l.map Gc,∃o,x=some o:=fun x hx=>by
  obtain ⟨y,_,rfl⟩:=List.mem_map.1 hx
  exact RT y
theorem Fh {p:Nat} {h:List (Option Ob)} (hp:h[p]?=some none):AG (Bn p h)=p:=by
  rw [NG hp,NF _ _ (Pe _),List.length_map,List.length_take]
  have:=(List.getElem?_eq_some_iff.1 hp).1
  omega
theorem Y2 {p:Nat} {h:List (Option Ob)} (hp:h[p]?=some none) (o:Ob):Aj (Bn p h) o=(h.take p).map Gc++some o::h.drop (p+1):=by
  rw [NG hp,TD o _ _ (Pe _)]
theorem II (p:Nat) (h:List (Option Ob)) (k:Nat):(Bn p h)[k]?=if k < p then (h[k]?).map Gc else h[k]?:=by
  unfold Bn
  by_cases hk:k < p
  . rw [if_pos hk]
    by_cases hl:k < h.length
    . rw [List.getElem?_append_left (by simp;omega),List.getElem?_map,List.getElem?_take,if_pos hk]
    . rw [List.getElem?_append_right (by simp;omega),List.getElem?_drop,List.length_map,List.length_take,Nat.min_eq_right (by omega)]
      rw [List.getElem?_eq_none (by omega),List.getElem?_eq_none (l:=h) (by omega)]
      rfl
  . rw [if_neg hk]
    by_cases hl:p≤h.length
    . rw [List.getElem?_append_right (by simp;omega),List.getElem?_drop,List.length_map,List.length_take,Nat.min_eq_left hl]
      congr 1;omega
    . rw [List.getElem?_append_right (by simp;omega),List.getElem?_eq_none (by simp;omega),List.getElem?_eq_none (by omega)]
theorem Fv {p:Nat} {h:List (Option Ob)} (hp:h[p]?=some none) (o:Ob) (k:Nat):(Aj (Bn p h) o)[k]?=if k=p then some (some o) else (Bn p h)[k]?:=by
  by_cases hk:k=p
  . rw [if_pos hk,hk]
    have:=Bv (Bn p h) o
    rwa [Fh hp] at this
  . rw [if_neg hk]
    exact BT _ _ _ (by rw [Fh hp];exact hk)
theorem Fi {C:Ctx} {env:List V} {h1 h2:List (Option Ob)} {xs:List V} {a:Act} {w:World} {vs:List Value} (hr:HZ C ⟨env,h1⟩ xs a w vs)
    (h21:∀(k:Nat) (x:Ob),h2[k]?=some (some x)→h1[k]?=some (some x)∨(x= .hid [] []∧∀y,h1[k]?≠some (some y))) (h12:∀(k:Nat) (x:Ob),h1[k]?=some (some x)→h2[k]?=some (some x)∨x= .hid [] []):HZ C ⟨env,h2⟩ xs a w vs:=by
  obtain ⟨I,bl,h0,he,hx,hh⟩:=hr
  refine ⟨I,bl,h0,he,hx,⟨?_,?_,hh.apart,hh.own,hh.imm,hh.kept⟩⟩
  . intro id o ho
    rcases h21 id o ho with h|⟨rfl,h⟩
    . exact hh.obj id o h
    . refine ⟨?_,rfl,fun i v x hv=>by simp at hv⟩
      cases hb:bl id with
      | none=>rfl
      | some i=>
        obtain ⟨y,hy⟩:=hh.live id i hb
        exact absurd hy (h y)
  . intro id i hi
    obtain ⟨o,ho⟩:=hh.live id i hi
    rcases h12 id o ho with h|rfl
    . exact ⟨o,h⟩
    . have:=(hh.obj id _ ho).1
      rw [this] at hi
      cases hi
theorem Y3 {C:Ctx} {env:List V} {h:List (Option Ob)} {a:Act} {w:World} (p:Nat) (hr:Rel C ⟨env,h⟩ a w):Rel C ⟨env,Bn p h⟩ a w:=by
  refine Fi hr (fun k x hx=>?_) (fun k x hx=>?_)
  . rw [II] at hx
    split at hx
    . cases hk:h[k]? with
      | none=>rw [hk] at hx;cases hx
      | some y=>
        rw [hk] at hx
        simp only [Option.map_some,Option.some.injEq] at hx
        cases y with
        | none=>
          simp only [Gc,Option.some.injEq] at hx
          exact .inr ⟨hx.symm,fun y=>by simp⟩
        | some o=>simp only [Gc,Option.some.injEq] at hx;subst hx;exact .inl rfl
    . exact .inl hx
  . rw [II]
    split
    . rw [hx];exact .inl rfl
    . exact .inl hx
theorem RU {C:Ctx} {env:List V} {h:List (Option Ob)} {xs:List V} {a:Act} {w:World} {vs:List Value} {p:Nat} {o:Ob} (hp:h[p]?=some none) (hr:HZ C ⟨env,Aj (Bn p h) o⟩ xs a w vs):HZ C ⟨env,h.set p (some o)⟩ xs a w vs:=by
  have hlt:=(List.getElem?_eq_some_iff.1 hp).1
  refine Fi hr (fun k x hx=>.inl ?_) (fun k x hx=>?_)
  . rw [Fv hp]
    by_cases hk:k=p
    . subst hk
      rw [if_pos rfl]
      simpa [hlt] using hx
    . rw [if_neg hk]
      rw [List.getElem?_set_ne (Ne.symm hk)] at hx
      rw [II]
      split
      . rw [hx];rfl
      . exact hx
  . rw [Fv hp] at hx
    by_cases hk:k=p
    . subst hk
      rw [if_pos rfl] at hx
      exact .inl (by simpa [hlt] using hx)
    . rw [if_neg hk,II] at hx
      rw [List.getElem?_set_ne (Ne.symm hk)]
      split at hx
      . cases hk:h[k]? with
        | none=>rw [hk] at hx;cases hx
        | some y=>
          rw [hk] at hx
          simp only [Option.map_some,Option.some.injEq] at hx
          cases y with
          | none=>
            simp only [Gc,Option.some.injEq] at hx
            exact .inr hx.symm
          | some o=>simp only [Gc,Option.some.injEq] at hx;subst hx;exact .inl rfl
      . exact .inl hx
theorem TE (env env':List V) (p:Nat) (h:List (Option Ob)) (id:Nat):St.row ⟨env,Bn p h⟩ id=St.row ⟨env',h⟩ id:=by
  unfold St.row
  simp only
  rw [II]
  by_cases hp:id < p
  . rw [if_pos hp]
    cases hk:h[id]? with
    | none=>rfl
    | some y=>cases y<;>rfl
  . rw [if_neg hp]
section mk
variable {C:Ctx}
def Hf (o:Oper) (s:St):Prop:=match o.op with
  | .alloc _=>True
  | .makeSlice _ _ _=>True
  | .buildSlice _ _ _=>True
  | .call c=>match c.callee,c.args.toList,c.argTypes.toList with
    | .builtin .append,[s0,_],[_,_]=>s.val s0= .nils
    | _,_,_=>False
  | _=>False
def IJ (op:Op):Bool:=match op with
  | .alloc _=>true
  | .makeSlice _ _ _=>true
  | .buildSlice _ _ _=>true
  | .call c=>(match c.callee with|.value _=>true|_=>false)
  | _=>false
theorem Pf {s:St} {z:Nat} {x:V} {k:List V→Prop} (h:GU s z x k):∃els,k els∧∀s2:St,FN s s2→∀k2:List V→Prop,k2 els→GU s2 z x k2:=by
  unfold GU at h
  split at h
  . rename_i l
    exact ⟨l,h.2,fun s2 he k2 hk=>⟨h.1,hk⟩⟩
  . exact ⟨[],h,fun s2 he k2 hk=>hk⟩
  . rename_i id off n
    split at h
    . rename_i z' els hrow
      refine ⟨_,h.2.2,fun s2 he k2 hk=>?_⟩
      unfold GU
      simp only [he _ _ _ hrow]
      exact ⟨h.1,h.2.1,hk⟩
    . exact h.elim
  . rename_i b
    exact ⟨_,h.2,fun s2 he k2 hk=>⟨h.1,hk⟩⟩
  . exact h.elim
theorem TF {o:Oper} {s:St} {K:V→St→Prop} (hm:Hf o s) (h:C4 C o s K):∃r ob,K r { s with heap:=Aj s.heap ob}∧
    ∀(K2:V→St→Prop) (s2:St),(∀x∈o.op.operands.toList,s2.val x=s.val x)→(FN s s2∨IJ o.op=true)→AG s2.heap=AG s.heap→K2 r { s2 with heap:=Aj s2.heap ob}→C4 C o s2 K2∧Hf o s2:=by
  unfold Hf at hm
  split at hm
  . rename_i t ho
    unfold C4 at h
    simp only [ho] at h
    unfold Hd at h
    split at h
    . rename_i x hx
      refine ⟨_,_,h,fun K2 s2 hv he hf k=>⟨?_,by simp [Hf,ho]⟩⟩
      unfold C4
      simp only [ho]
      unfold Hd
      simp only [hx]
      rw [hf]
      exact k
    . exact h.elim
  . rename_i t l c ho
    unfold C4 at h
    simp only [ho] at h
    unfold K1 at h
    split at h
    . rename_i k1 n k2 m hl hc
      split at h
      . rename_i e z hei
        split at h
        . rename_i x hx
          obtain ⟨a1,a2,a3,a4,a5,a6,a7⟩:=h
          refine ⟨_,_,a7,fun K2 s2 hv he hf k=>⟨?_,by simp [Hf,ho]⟩⟩
          unfold C4
          simp only [ho]
          unfold K1
          rw [hv l (by simp [ho,Op.operands]),hv c (by simp [ho,Op.operands]),hl,hc]
          simp only [hei,hx]
          rw [hf]
          exact ⟨a1,a2,a3,a4,a5,a6,k⟩
        . exact h.elim
      . exact h.elim
    . exact h.elim
  . rename_i t n ps ho
    unfold C4 at h
    simp only [ho] at h
    unfold E8 at h
    split at h
    . rename_i e z hei
      obtain ⟨a1,a2,a3,a4,a5⟩:=h
      refine ⟨_,_,a5,fun K2 s2 hv he hf k=>⟨?_,by simp [Hf,ho]⟩⟩
      unfold C4
      simp only [ho]
      have e1:ps.toList.map (fun p=>(p.1,s2.val p.2))=ps.toList.map (fun p=>(p.1,s.val p.2)):=List.map_congr_left fun p hp=>by
        rw [hv p.2 (by rw [ho];simp [Op.operands];exact ⟨p.1,by simpa using hp⟩)]
      rw [e1]
      unfold E8
      simp only [hei]
      rw [hf]
      exact ⟨a1,a2,a3,a4,k⟩
    . exact h.elim
  . rename_i c ho
    obtain ⟨callee,args,ts⟩:=c
    simp only at hm
    split at hm
    . rename_i s0 x t t' h2 h3
      unfold C4 at h
      simp only [ho,h2,h3] at h
      unfold PE at h
      split at h
      . rename_i e z hei
        obtain ⟨a1,a2,a3⟩:=h
        have e0:s0∈o.op.operands.toList:=by simp [ho,Op.operands,Call.operands,Mk h2]
        have e1:x∈o.op.operands.toList:=by simp [ho,Op.operands,Call.operands,Mk h2]
        obtain ⟨els,b1,c2⟩:=Pf a3
        rw [hm] at b1
        unfold Kj at b1
        simp only at b1
        refine ⟨_,_,b1.2.2,fun K2 s2 hv he hf k=>⟨?_,?_⟩⟩
        . have he:FN s s2:=he.elim id fun h=>by rw [ho] at h;cases h
          unfold C4
          simp only [ho,h2,h3]
          unfold PE
          simp only [hei]
          refine ⟨a1,a2,?_⟩
          rw [hv s0 e0,hv x e1,hm]
          refine c2 s2 he _ ?_
          unfold Kj
          simp only
          rw [hf]
          exact ⟨b1.1,b1.2.1,k⟩
        . simp only [Hf,ho,h2,h3]
          rw [hv s0 e0]
          exact hm
      . exact h.elim
    . exact hm.elim
  . exact hm.elim
def WZ (C:Ctx) (f:FuncId) (xs:List V) (m z:Nat) (els:List V):Prop:=∀s:St,Ko C f xs (fun r s'=>r= .sl (AG s.heap) 0 m∧s'=⟨s.env,Aj s.heap (.row z els)⟩) s
def jD (C:Ctx) (o:Oper) (r:V) (x:Ob) (p:Nat) (s:St):Prop:=
  ∃fop args ts f caps m z els,o.op= .call { callee:=.value fop,args:=args,argTypes:=ts}∧s.val fop= .fn f caps∧AD C.P f=true∧WZ C f (args.toList.map s.val++caps) m z els∧r= .sl p 0 m∧x= .row z els
theorem Wa {o:Oper} {r:V} {x:Ob} {p:Nat} {s:St} (h:jD C o r x p s) (hp:s.heap[p]?=some none):C4 C o ⟨s.env,Bn p s.heap⟩ (fun r' s'=>r'=r∧s'=⟨s.env,Aj (Bn p s.heap) x⟩):=by
  obtain ⟨fop,args,ts,f,caps,m,z,els,ho,hf,hb,hc,rfl,rfl⟩:=h
  unfold C4
  simp only [ho]
  refine Bg ?_
  have hv:∀y,St.val ⟨s.env,Bn p s.heap⟩ y=s.val y:=fun y=>by cases y<;>rfl
  unfold EA
  rw [hv fop,hf]
  refine ⟨hb,?_⟩
  have:=hc ⟨s.env,Bn p s.heap⟩
  rw [show St.val ⟨s.env,Bn p s.heap⟩=s.val from funext hv]
  rw [show AG (St.heap ⟨s.env,Bn p s.heap⟩)=p from Fh hp] at this
  exact this
theorem Wb {o:Oper} {r:V} {x:Ob} {p:Nat} {s s2:St} (h:jD C o r x p s) (hv:∀y∈o.op.operands.toList,s2.val y=s.val y):jD C o r x p s2:=by
  obtain ⟨fop,args,ts,f,caps,m,z,els,ho,hf,hb,hc,rfl,rfl⟩:=h
  have e0:s2.val fop=s.val fop:=hv fop (by simp [ho,Op.operands,Call.operands])
  have e1:args.toList.map s2.val=args.toList.map s.val:=List.map_congr_left fun y hy=>hv y (by simp [ho,Op.operands,Call.operands];exact .inr (by simpa using hy))
  exact ⟨fop,args,ts,f,caps,m,z,els,ho,by rw [e0];exact hf,hb,by rw [e1];exact hc,rfl,rfl⟩
end mk
end Go.Proofs.YtkaiffheakalmaaGreatDoor
