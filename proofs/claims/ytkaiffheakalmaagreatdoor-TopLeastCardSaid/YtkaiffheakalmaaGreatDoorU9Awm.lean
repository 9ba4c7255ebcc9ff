/- Copied, stripped. No conditions. -/
import Derived.Test.YtkaiffheakalmaaGreatDoorU9Awg
set_option linter.unusedSimpArgs false
set_option linter.unusedVariables false
set_option maxRecDepth 100000
namespace Go.Proofs.YtkaiffheakalmaaGreatDoor
open Go.RowKit
theorem Jj {z:Nat}:∀(vs:List V),(∀v∈vs,v.cells.length=z)→∀(i j:Nat) (x:V),vs[i]?=some x→j < z→(vs.flatMap V.cells)[i*z+j]?=x.cells[j]?
  | [],_,i,j,x,h,_=>by simp at h
  | v::vs,hz,0,j,x,h,hj=>by
    simp at h
    subst h
    have:=hz v (by simp)
    rw [List.flatMap_cons,Nat.zero_mul,Nat.zero_add,List.getElem?_append_left (by omega)]
  | v::vs,hz,i+1,j,x,h,hj=>by
    have hv:=hz v (by simp)
    rw [List.flatMap_cons,List.getElem?_append_right (by rw [hv,Nat.add_mul];omega),hv,←Jj vs (fun v hv=>hz v (by simp [hv])) i j x (by simpa using h) hj]
    congr 1
    rw [Nat.add_mul]
    omega
theorem Jk {z:Nat}:∀(vs:List V),(∀v∈vs,v.cells.length=z)→(vs.flatMap V.cells).length=vs.length*z
  | [],_=>by simp
  | v::vs,hz=>by
    rw [List.flatMap_cons,List.length_append,hz v (by simp),Jk vs (fun v hv=>hz v (by simp [hv])),List.length_cons,Nat.add_mul]
    omega
theorem Jl {α β:Type}:∀(l:List (α×β)),l=(l.map (·.1)).zip (l.map (·.2))
  | []=>rfl
  | x::l=>by simp only [List.map_cons,List.zip_cons_cons];rw [←Jl l]
theorem Jm {z:Nat}:∀(vs:List V) (k:Nat) (cs:List V),(∀v∈vs,v.one=true∧v.cells.length=z)→(k+vs.length)*z≤cs.length→
    H7 (fun i=>some (i*z,z)) cs ((List.range' k vs.length).zip vs)=some (cs.take (k*z)++vs.flatMap V.cells++cs.drop ((k+vs.length)*z))
  | [],k,cs,_,_=>by simp [H7]
  | v::vs,k,cs,hv,hl=>by
    obtain ⟨h1,h2⟩:=hv v (by simp)
    simp only [List.length_cons] at hl ⊢
    have hm:(k+1)*z≤(k+(vs.length+1))*z:=Nat.mul_le_mul_right z (by omega)
    have e1:(k+1)*z=k*z+z:=by rw [Nat.add_mul,Nat.one_mul]
    rw [List.range'_succ,List.zip_cons_cons,H7]
    simp only
    rw [if_pos ⟨h1,h2,by omega⟩]
    have hlen:(cs.take (k*z)++v.cells++cs.drop (k*z+z)).length=cs.length:=by simp;omega
    have hk:k+1+vs.length=k+(vs.length+1):=by omega
    rw [Jm vs (k+1) _ (fun v hv'=>hv v (by simp [hv'])) (by rw [hlen,hk];exact hl)]
    have t1:(cs.take (k*z)++v.cells++cs.drop (k*z+z)).take ((k+1)*z)=cs.take (k*z)++v.cells:=by
      apply List.take_left'
      simp;omega
    have hm2:(k+1)*z≤(k+1+vs.length)*z:=Nat.mul_le_mul_right z (by omega)
    have t2:(cs.take (k*z)++v.cells++cs.drop (k*z+z)).drop ((k+1+vs.length)*z)=cs.drop ((k+(vs.length+1))*z):=by
      have hla:(cs.take (k*z)++v.cells).length=(k+1)*z:=by simp;omega
      rw [List.drop_append,List.drop_eq_nil_of_le (by rw [hla];exact hm2),List.nil_append,List.drop_drop,hla]
      congr 1
      have:k+1+vs.length=k+(vs.length+1):=by omega
      rw [this] at hm2 ⊢
      omega
    rw [t1,t2,List.flatMap_cons]
    simp
def E8 (C:Ctx) (t:TypeId) (n:Nat) (ps:List (Nat×V)) (K:V→St→Prop) (σ:St):Prop:=
  match EI C.P t with
  | some (e,z)=>f4 C.P e z=true∧ps.map (·.1)=List.range n∧n*z≤16777216∧(∀v∈ps.map (·.2),v.one=true∧v.cells.length=z)∧
      K (.sl (AG σ.heap) 0 n) { σ with heap:=Aj σ.heap (.row z (ps.map (·.2)))}
  | none=>False
theorem UP {C:Ctx} {o:Oper} {σ:St} {K:V→St→Prop} {t:TypeId} {n:Nat} {ps:Array (Nat×Operand)} (ho:o.op= .buildSlice t n ps) (h:E8 C t n (ps.toList.map fun p=>(p.1,σ.val p.2)) K σ):BR C o σ K:=by
  unfold E8 at h
  split at h
  . rename_i e z hei
    obtain ⟨hz,hord,hsmall,hvs,hk⟩:=h
    obtain ⟨hu,bb,hte⟩:=EH hei
    obtain ⟨i,zv,hi,hiz,hzi,hzs,hz1,hz0⟩:=Ki hz
    refine Am fun a w I bl hp=>?_
    let qs:List (Nat×V):=ps.toList.map fun p=>(p.1,σ.val p.2)
    have hqs:qs=(List.range' 0 (qs.map (·.2)).length).zip (qs.map (·.2)):=by
      have h1:qs.map (·.1)=List.range' 0 (qs.map (·.2)).length:=by
        have hl:n=(qs.map (·.2)).length:=by
          have:=congrArg List.length hord
          simpa [qs] using this.symm
        rw [←hl,←List.range_eq_range']
        exact hord
      rw [←h1]
      exact Jl qs
    have hn:n=(qs.map (·.2)).length:=by
      have:=congrArg List.length hord
      simpa [qs] using this.symm
    let cells:Array Value:=(Array.range (n*z)).map (zv.cells[· % zv.cells.size]!)
    have hcsz:cells.size=n*z:=by simp [cells]
    obtain ⟨cells',h1,h2,h3,h4⟩:=Kh (w:=w) (I:=I) (bl:=bl) (place:=fun i=>some (i*z,z)) (ps.toList.map fun p=>(p.1,a.eval p.2)) qs cells (List.replicate (n*z) .any) ((qs.map (·.2)).flatMap V.cells) (by simp [qs]) (by
        intro k p q hp' hq
        simp only [List.getElem?_map,qs] at hp' hq
        cases hx:ps.toList[k]? with
        | none=>simp [hx] at hp'
        | some x=>
          simp only [hx,Option.map_some,Option.some.injEq] at hp' hq
          subst hp';subst hq
          exact hp.val x.2) (by rw [hcsz];simp) (by
        intro u hu
        simp only [cells,Array.toList_map,List.mem_map] at hu
        obtain ⟨p,_,rfl⟩:=hu
        have hlt:p % zv.cells.size < zv.cells.size:=Nat.mod_lt _ (by omega)
        rw [getElem!_pos zv.cells _ hlt]
        exact hz1 _ (by simp)) (by
        intro j u c _ hc
        have:c= .any:=by
          obtain ⟨_,h2⟩:=List.getElem?_eq_some_iff.1 hc
          rw [←h2];simp
        subst this
        exact .pure _ _ (.any _)) (by
        rw [hqs]
        have hord':(List.range' 0 (qs.map (·.2)).length).zip (qs.map (·.2))=qs:=hqs.symm
        rw [hord']
        have:=Jm (z:=z) (qs.map (·.2)) 0 (List.replicate (n*z) .any) hvs (by simp [←hn])
        rw [←hqs] at this
        rw [this]
        simp [←hn])
    have hlen:=Jk (z:=z) (qs.map (·.2)) (fun v hv=>(hvs v hv).2)
    have hal:=hp.alloc cells' e z (qs.map (·.2)) (fun i x hx=>(hvs x (List.mem_of_getElem? hx)).2) (by rw [h2,hlen];exact Nat.le_refl _) (by
      intro i x j c hx hc
      have hxz:=(hvs x (List.mem_of_getElem? hx)).2
      have hj:j < z:=by rw [←hxz];exact (List.getElem?_eq_some_iff.1 hc).1
      have hg:=Jj (z:=z) (qs.map (·.2)) (fun v hv=>(hvs v hv).2) i j x hx hj
      rw [hc] at hg
      have hlt:i*z+j < cells'.size:=by rw [h2];exact (List.getElem?_eq_some_iff.1 hg).1
      exact ⟨cells'[i*z+j],by simp [hlt],h3 _ (by simp),h4 _ _ c (by simp [hlt]) hg⟩)
    refine ⟨.slice (some ⟨w.heap.size,0,none⟩) n n,w.alloc (.cells cells' e),_,_,?_,hk,hal.relx ?_⟩
    . simp only [execOp,ho]
      have e1:(ps.map fun (i,x)=>(i,a.eval x)).toList=ps.toList.map fun p=>(p.1,a.eval p.2):=by simp
      have e2:¬(n*z > 2 ^ 24):=by omega
      simp only [Instr.buildSlice,Sem.run_bind,run_underlying hu,Result.andThen_ok,Ao hte]
      rw [if_neg e2]
      by_cases h0:n*z=0
      . rw [if_pos h0]
        have e4:((Array.range (n*z)).map ((#[]:Array Value)[· % (#[]:Array Value).size]!))=cells:=by simp [cells,h0]
        simp only [pure_bind]
        rw [e4,e1,h1]
        simp [newRow]
      . rw [if_neg h0]
        simp only [Sem.run_bind,Do hzi,Result.andThen_ok,bind_assoc,pure_bind]
        rw [e1]
        rw [show ((Array.range (n*z)).map (zv.cells[· % zv.cells.size]!))=cells from rfl,h1]
        simp [newRow]
    . have:=Rep.sl (w:=w.alloc (.cells cells' e)) (I:=I) (AG σ.heap) 0 n n w.heap.size 0 z _ e (AX bl _ _) (ET w cells' e) (by rw [h2,hlen,←hn];simp) (Nat.le_refl _) (by
        have:n≤n*z:=Nat.le_mul_of_pos_right n hz0
        simp only [maxLen];omega)
      simpa using this
  . exact h.elim
end Go.Proofs.YtkaiffheakalmaaGreatDoor
