/- Copied, stripped. No conditions. -/
import Derived.Test.YtkaiffheakalmaaGreatDoorU9Awd
set_option linter.unusedSimpArgs false
set_option linter.unusedVariables false
set_option maxRecDepth 100000
namespace Go.Proofs.YtkaiffheakalmaaGreatDoor
open Go.RowKit
def V.setCells (x:V) (j:Nat) (cs:List V):V:=
  match x with
  | .agg l=>.agg (l.take j++cs++l.drop (j+cs.length))
  | _=>cs.headD .any
theorem G0 {α:Type} (l vs:List α) (o p:Nat) (h:o+vs.length≤l.length):(l.take o++vs++l.drop (o+vs.length))[p]?=if p < o then l[p]? else if p < o+vs.length then vs[p - o]? else l[p]?:=by
  have hlo:(l.take o).length=o:=by simp;omega
  rw [List.append_assoc,List.getElem?_append]
  rw [hlo]
  split
  . rename_i hp;rw [List.getElem?_take,if_pos hp]
  . rename_i hp
    rw [List.getElem?_append]
    split
    . rename_i hq
      rw [if_pos (by omega)]
    . rename_i hq
      rw [if_neg (by omega),List.getElem?_drop]
      congr 1
      omega
theorem Eb {w:World} {I:Nat→Prop} {bl:Nat→Option BI} {x:V} {j n:Nat} {cs:List V} {vs:List Value} (hn:cs.length=n) (h0:n≠0) (hj:j+n≤x.cells.length) (hl:vs.length=cs.length) (h1:∀u∈vs,u.oneCell'=true)
    (hr:∀(j:Nat) (u:Value) (c:V),vs[j]?=some u→cs[j]?=some c→Rep w I bl u c) (p:Nat):(x.setCells j cs).cells[p]?=if p < j then x.cells[p]? else if p < j+n then cs[p - j]? else x.cells[p]?:=by
  subst hn
  have other:(∀l,x≠.agg l)→(x.setCells j cs).cells[p]?=if p < j then x.cells[p]? else if p < j+cs.length then cs[p - j]? else x.cells[p]?:=by
    intro hx
    have e1:x.cells=[x]:=by cases x<;>first|rfl|exact absurd rfl (hx _)
    have e2:x.setCells j cs=cs.headD .any:=by cases x<;>first|rfl|exact absurd rfl (hx _)
    rw [e1] at hj
    simp only [List.length_cons,List.length_nil] at hj
    have hj0:j=0:=by omega
    have hc1:cs.length=1:=by omega
    match cs,hc1 with
    | [c],_=>
      match vs,hl with
      | [u],_=>
        have:=Vw (hr 0 u c rfl rfl) (h1 u (by simp))
        rw [e2,e1]
        show c.cells[p]?=_
        rw [this]
        subst hj0
        cases p with
        | zero=>rfl
        | succ p=>simp
  cases x with
  | agg l=>
    simp only [V.setCells,V.cells] at hj ⊢
    exact G0 l cs j p hj
  | _=>exact other (fun l e=>by cases e)
theorem UC {i i' z j k:Nat} (h:i'≠i) (hj:j < z) (hk:k≤z):i'*z+j < i*z∨i*z+k≤i'*z+j:=by
  rcases Nat.lt_or_gt_of_ne h with h|h
  . left
    have:(i'+1)*z≤i*z:=Nat.mul_le_mul_right z h
    rw [Nat.add_mul] at this
    omega
  . right
    have:(i+1)*z≤i'*z:=Nat.mul_le_mul_right z h
    rw [Nat.add_mul] at this
    omega
def Kf (C:Ctx) (t:TypeId) (p v:V) (K:V→St→Prop) (σ:St):Prop:=
  match TI C.P t with
  | some (_,n)=>v.one=true∧v.cells.length=n∧n≠0∧match p with
    | .ptr id i j=>match σ.row id with
      | some (z,els)=>∃x,els[i]?=some x∧j+n≤x.cells.length∧K .any { σ with heap:=σ.heap.set id (some (.row z (els.set i (x.setCells j v.cells))))}
      | none=>False
    | _=>False
  | none=>False
theorem Mz {C:Ctx} {o:Oper} {σ:St} {K:V→St→Prop}
    (h:∀a w I bl,RP C σ a w I bl→∃w' σ',(execOp a.eval o).run C.P w= .ok .skip w'∧K .any σ'∧Rel C σ' a w'):BR C o σ K:=by
  intro a w hr next Q hn
  obtain ⟨I,bl,hp⟩:=hr.parts
  obtain ⟨w',σ',h1,h2,h3⟩:=h a w I bl hp
  rw [h1]
  obtain ⟨I',bl',hp'⟩:=h3.parts
  exact hn undef w' .any σ' h2 (hp'.relx (.pure _ _ (.any _)))
theorem Vx {C:Ctx} {o:Oper} {σ:St} {K:V→St→Prop} {t:TypeId} {x y:Operand} (ho:o.op= .store t x y) (h:Kf C t (σ.val x) (σ.val y) K σ):BR C o σ K:=by
  unfold Kf at h
  split at h
  . rename_i bb n hti
    obtain ⟨h1,hn,h0,h⟩:=h
    split at h
    . rename_i id i j hx
      split at h
      . rename_i z els hrow
        obtain ⟨xo,hxo,hj,hk⟩:=h
        refine Mz fun a w I bl hp=>?_
        have hv:=hp.val x
        rw [hx] at hv
        obtain ⟨b,base,z',m,e,hbl,hs,hv⟩:=hv.inv_ptr
        obtain ⟨hl,hone,hr⟩:=I3 (hp.val y) h1
        obtain ⟨bi,hb1,hb2,hb3,hb4⟩:=hp.heap.obj id _ (DJ hrow)
        rw [hbl] at hb1
        simp only [Option.some.injEq] at hb1
        subst hb1
        simp only at hb2 hb4
        subst hb2
        obtain ⟨cur,e',hg,hsz,hcell⟩:=hb4
        have hil:i < els.length:=(List.getElem?_eq_some_iff.1 hxo).1
        have hxz:=hb3 i xo hxo
        have hmul:(i+1)*z'≤els.length*z':=Nat.mul_le_mul_right z' hil
        rw [Nat.add_mul] at hmul
        have hroom:base+i*z'+j+0+(a.eval y).cells.toList.length≤cur.size:=by omega
        have hgc:=hg
        obtain ⟨fz,hfz,hg⟩:=hg
        have hrun:=B6 (P:=C.P) b (base+i*z'+j) e' fz (a.eval y).cells.toList 0 cur w hg hfz hroom hone
        have hW:=hp.write hbl hgc (cur.toList.take (base+i*z'+j+0)++(a.eval y).cells.toList++cur.toList.drop (base+i*z'+j+0+(a.eval y).cells.toList.length)).toArray
          (by simp only [List.size_toArray,List.length_append,List.length_take,List.length_drop,Array.length_toList];rw [Nat.min_eq_left (by omega)];have:(a.eval y).cells.size=(a.eval y).cells.toList.length:=by simp
              omega)
          (els.set i (xo.setCells j (σ.val y).cells))
        refine ⟨_,_,?_,hk,(hW ?_ ?_ ?_).rel⟩
        . simp only [execOp,ho,hv]
          have hsz':(a.eval y).cells.size=n:=by rw [←hn,←hl];simp
          simp [Instr.storeAt,Instr.sureAddr,storeVar,Ao hti,hsz',hrun]
        . intro i' x' hx'
          by_cases hi:i'=i
          . subst hi
            rw [List.getElem?_set_self hil] at hx'
            simp only [Option.some.injEq] at hx'
            subst hx'
            rw [←hxz]
            refine Nat.le_antisymm ?_ ?_
            . refine Nat.le_of_not_lt fun hlt=>?_
              have:=Eb (x:=xo) hn h0 hj hl hone hr xo.cells.length
              rw [if_neg (by omega),if_neg (by omega)] at this
              rw [List.getElem?_eq_none (Nat.le_refl _)] at this
              rw [List.getElem?_eq_getElem hlt] at this
              cases this
            . refine Nat.le_of_not_lt fun hlt=>?_
              have:=Eb (x:=xo) hn h0 hj hl hone hr (xo.setCells j (σ.val y).cells).cells.length
              rw [List.getElem?_eq_none (Nat.le_refl _)] at this
              split at this
              . rw [List.getElem?_eq_getElem hlt] at this;cases this
              . split at this
                . rw [List.getElem?_eq_getElem (by omega)] at this;cases this
                . rw [List.getElem?_eq_getElem hlt] at this;cases this
          . rw [List.getElem?_set_ne (Ne.symm hi)] at hx'
            exact hb3 i' x' hx'
        . simp only [List.length_set]
          simp only [List.size_toArray,List.length_append,List.length_take,List.length_drop,Array.length_toList]
          rw [Nat.min_eq_left (by omega)]
          have:(a.eval y).cells.size=(a.eval y).cells.toList.length:=by simp
          omega
        . intro i' x' j' c hx' hc
          have hget:∀p,(cur.toList.take (base+i*z'+j+0)++(a.eval y).cells.toList++cur.toList.drop (base+i*z'+j+0+(a.eval y).cells.toList.length)).toArray[p]?=
              if p < base+i*z'+j then cur[p]? else if p < base+i*z'+j+n then (a.eval y).cells.toList[p - (base+i*z'+j)]? else cur[p]?:=by
            intro p
            have:=G0 cur.toList (a.eval y).cells.toList (base+i*z'+j+0) p (by simpa using hroom)
            rw [List.getElem?_toArray,this]
            have e1:(a.eval y).cells.toList.length=n:=by omega
            rw [e1]
            simp
          rw [hget]
          by_cases hi:i'=i
          . subst hi
            rw [List.getElem?_set_self hil] at hx'
            simp only [Option.some.injEq] at hx'
            subst hx'
            rw [Eb (x:=xo) hn h0 hj hl hone hr] at hc
            split at hc
            . rw [if_pos (by omega)];exact hcell i' xo j' c hxo hc
            . split at hc
              . rw [if_neg (by omega),if_pos (by omega)]
                have e2:base+i'*z'+j' - (base+i'*z'+j)=j' - j:=by omega
                rw [e2]
                have hlt:j' - j < (a.eval y).cells.toList.length:=by omega
                exact ⟨_,List.getElem?_eq_getElem hlt,hone _ (List.getElem_mem hlt),hr _ _ _ (List.getElem?_eq_getElem hlt) hc⟩
              . rw [if_neg (by omega),if_neg (by omega)];exact hcell i' xo j' c hxo hc
          . rw [List.getElem?_set_ne (Ne.symm hi)] at hx'
            have hj':j' < z':=by rw [←hb3 i' x' hx'];exact (List.getElem?_eq_some_iff.1 hc).1
            rcases UC (z:=z') (j:=j') (k:=j+n) hi hj' (by omega) with hlt|hge
            . rw [if_pos (by omega)];exact hcell i' x' j' c hx' hc
            . rw [if_neg (by omega),if_neg (by omega)];exact hcell i' x' j' c hx' hc
      . exact h.elim
    . exact h.elim
  . exact h.elim
def Vy (C:Ctx) (t:TypeId) (v:V) (K:V→St→Prop) (σ:St):Prop:=
  match TI C.P t with
  | some (_,n)=>v.one=true∧v.cells.length=n∧K (.ptr (AG σ.heap) 0 0) { σ with heap:=Aj σ.heap (.row n [v])}
  | none=>False
theorem ET (w:World) (cur:Array Value) (e:TypeId):(w.alloc (.cells cur e)).shape? w.heap.size=some (e,cur.size):=by
  simp only [World.shape?]
  rw [heap_alloc_new]
theorem Kg {w:World} {I:Nat→Prop} {bl:Nat→Option BI} {v:Value} {x:V} (h:Rep w I bl v x) (h1:x.one=true∨(x= .any∧v.oneCell'=true)):
    v.cells.toList.length=x.cells.length∧(∀u∈v.cells.toList,u.oneCell'=true)∧∀(j:Nat) (u:Value) (c:V),v.cells.toList[j]?=some u→x.cells[j]?=some c→Rep w I bl u c:=by
  rcases h1 with h1|⟨rfl,h1⟩
  . exact I3 h h1
  . have e1:v.cells=#[v]:=by cases v<;>first|rfl|simp [Value.oneCell'] at h1
    rw [e1]
    refine ⟨rfl,fun u hu=>by simp at hu;subst hu;exact h1,fun j u c hu hc=>?_⟩
    cases j with
    | zero=>simp [V.cells] at hu hc;subst hu;subst hc;exact h
    | succ j=>simp at hu
theorem RP.newVar {C:Ctx} {σ:St} {a:Act} {w:World} {I:Nat→Prop} {bl:Nat→Option BI} (hp:RP C σ a w I bl) {u:Value} {v:V} (hv:Rep w I bl u v) (h1:v.one=true∨(v= .any∧u.oneCell'=true)) (e:TypeId):
    ∃bl',RP C { σ with heap:=Aj σ.heap (.row v.cells.length [v])} a (w.alloc (.cells u.cells e)) I bl'∧Rep (w.alloc (.cells u.cells e)) I bl' (.pointer (some ⟨w.heap.size,0,none⟩)) (.ptr (AG σ.heap) 0 0):=by
  obtain ⟨hl,hone,hr⟩:=Kg hv h1
  have hal:=hp.alloc u.cells e v.cells.length [v] (fun i x hx=>by cases i with|zero=>simp at hx;subst hx;rfl|succ i=>simp at hx)
    (by simp only [List.length_cons,List.length_nil,Nat.zero_add,Nat.one_mul];rw [←hl];simp) (by
      intro i x j c hx hc
      cases i with
      | succ i=>simp at hx
      | zero=>
        simp only [List.getElem?_cons_zero,Option.some.injEq] at hx
        subst hx
        have hj:j < u.cells.toList.length:=by rw [hl];exact (List.getElem?_eq_some_iff.1 hc).1
        refine ⟨u.cells.toList[j],?_,hone _ (List.getElem_mem hj),hr j _ c (List.getElem?_eq_getElem hj) hc⟩
        rw [Nat.zero_mul,Nat.zero_add,←Array.getElem?_toList]
        exact List.getElem?_eq_getElem hj)
  refine ⟨_,hal,?_⟩
  have:=Rep.ptr (w:=w.alloc (.cells u.cells e)) (I:=I) (bl:=Fo bl (AG σ.heap) ⟨some w.heap.size,0,v.cells.length⟩) (AG σ.heap) 0 0 w.heap.size 0 v.cells.length u.cells.size e (AX _ _ _) (ET w u.cells e)
  simpa using this
theorem cv {C:Ctx} {o:Oper} {σ:St} {K:V→St→Prop} {t:TypeId} {x:Operand} (ho:o.op= .box t x) (h:Vy C t (σ.val x) K σ):BR C o σ K:=by
  unfold Vy at h
  split at h
  . rename_i bb n hti
    obtain ⟨h1,rfl,hk⟩:=h
    refine Am fun a w I bl hp=>?_
    obtain ⟨bl',hp',hr⟩:=hp.newVar (hp.val x) (.inl h1) t
    refine ⟨_,_,_,_,?_,hk,hp'.relx hr⟩
    simp [execOp,ho,Instr.box,newVar,newRow]
  . exact h.elim
def ZI (P:Program) (t:TypeId):Option Value:=(P.info? t).bind (·.zero)
theorem Do {P:Program} {t:TypeId} {z:Value} (h:ZI P t=some z) (w:World):(zeroValue t).run P w= .ok z w:=by
  unfold ZI at h
  cases hi:P.info? t with
  | none=>simp [hi] at h
  | some i=>
    simp [hi] at h
    simp [zeroValue,typeInfo,hi,h]
def ZV (P:Program) (t:TypeId):Option V:=
  match ZI P t with
  | some z=>if (V.ofVal z).one then some (V.ofVal z) else if z.oneCell' then some .any else none
  | none=>none
theorem KF {P:Program} {t:TypeId} {x:V} (h:ZV P t=some x):∃z,ZI P t=some z∧(∀(w:World) (I:Nat→Prop),Pr w I z x)∧(x.one=true∨(x= .any∧z.oneCell'=true)):=by
  unfold ZV at h
  split at h
  . rename_i z hz
    split at h
    . rename_i h1
      simp only [Option.some.injEq] at h
      subst h
      exact ⟨z,hz,fun w I=>PA z,.inl h1⟩
    . split at h
      . rename_i h1
        simp only [Option.some.injEq] at h
        subst h
        exact ⟨z,hz,fun w I=>.any _,.inr ⟨rfl,h1⟩⟩
      . cases h
  . cases h
def Q2 (C:Ctx) (t:TypeId) (K:V→St→Prop) (σ:St):Prop:=
  match ZV C.P t with
  | some x=>K (.ptr (AG σ.heap) 0 0) { σ with heap:=Aj σ.heap (.row x.cells.length [x])}
  | none=>False
theorem Vz {C:Ctx} {o:Oper} {σ:St} {K:V→St→Prop} {t:TypeId} (ho:o.op= .alloc t) (h:Q2 C t K σ):BR C o σ K:=by
  unfold Q2 at h
  split at h
  . rename_i x hx
    obtain ⟨z,hz,hp0,h1⟩:=KF hx
    refine Am fun a w I bl hp=>?_
    obtain ⟨bl',hp',hr⟩:=hp.newVar (u:=z) (.pure _ _ (hp0 w I)) h1 t
    refine ⟨_,_,_,_,?_,h,hp'.relx hr⟩
    simp [execOp,ho,Instr.alloc,Do hz,newVar,newRow]
  . exact h.elim
def H7 (place:Nat→Option (Nat×Nat)) (cs:List V):List (Nat×V)→Option (List V)
  | []=>some cs
  | (i,v)::rest=>
    match place i with
    | none=>none
    | some (off,size)=>if v.one=true∧v.cells.length=size∧off+size≤cs.length then H7 place (cs.take off++v.cells++cs.drop (off+size)) rest else none
theorem UD (vs:List Value) (off:Nat) (cells:Array Value) (h:off+vs.length≤cells.size):
    (vs.zipIdx.foldl (fun cs (x:Value×Nat)=>cs.setIfInBounds (off+x.2) x.1) cells).toList=cells.toList.take off++vs++cells.toList.drop (off+vs.length):=by
  have key:∀(vs:List Value) (k:Nat) (cells:Array Value),off+k+vs.length≤cells.size→
      ((vs.zipIdx k).foldl (fun cs (x:Value×Nat)=>cs.setIfInBounds (off+x.2) x.1) cells).toList=cells.toList.take (off+k)++vs++cells.toList.drop (off+k+vs.length):=by
    intro vs
    induction vs with
    | nil=>intro k cells h;simp
    | cons v vs ih=>
      intro k cells h
      simp only [List.zipIdx_cons,List.foldl_cons]
      rw [ih (k+1) _ (by simp at h ⊢;omega)]
      simp only [List.length_cons] at h ⊢
      have hlt:off+k < cells.toList.length:=by simp;omega
      rw [Array.toList_setIfInBounds]
      have e1:(cells.toList.set (off+k) v).take (off+(k+1))=cells.toList.take (off+k)++[v]:=by
        apply List.ext_getElem?
        intro p
        rw [List.getElem?_take,List.getElem?_append,List.getElem?_set]
        have hl:(cells.toList.take (off+k)).length=off+k:=by simp;omega
        rw [hl]
        by_cases hp:p < off+k
        . rw [if_pos (by omega),if_neg (by omega),if_pos hp,List.getElem?_take,if_pos hp]
        . rw [if_neg hp]
          by_cases hp2:p=off+k
          . subst hp2
            rw [if_pos (by omega),if_pos rfl,if_pos hlt]
            simp
          . rw [if_neg (by omega)]
            rw [List.getElem?_eq_none]
            simp;omega
      have e2:(cells.toList.set (off+k) v).drop (off+(k+1)+vs.length)=cells.toList.drop (off+k+(vs.length+1)):=by
        rw [List.drop_set_of_lt (by omega)]
        congr 1
        omega
      rw [e1,e2]
      simp
  simpa using key vs 0 cells (by simpa using h)
theorem Kh {w:World} {I:Nat→Prop} {bl:Nat→Option BI} {place:Nat→Option (Nat×Nat)}:∀(ps:List (Nat×Value)) (qs:List (Nat×V)) (cells:Array Value) (cs cs':List V),
    ps.map (·.1)=qs.map (·.1)→(∀(k:Nat) (p:Nat×Value) (q:Nat×V),ps[k]?=some p→qs[k]?=some q→Rep w I bl p.2 q.2)→cells.size=cs.length→(∀u∈cells.toList,u.oneCell'=true)→
    (∀(j:Nat) (u:Value) (c:V),cells[j]?=some u→cs[j]?=some c→Rep w I bl u c)→H7 place cs qs=some cs'→
    ∃cells',Instr.fill place cells ps=some cells'∧cells'.size=cs'.length∧(∀u∈cells'.toList,u.oneCell'=true)∧∀(j:Nat) (u:Value) (c:V),cells'[j]?=some u→cs'[j]?=some c→Rep w I bl u c
  | [],[],cells,cs,cs',_,_,hsz,h1,hr,hf=>by
    simp only [H7,Option.some.injEq] at hf
    subst hf
    exact ⟨cells,rfl,hsz,h1,hr⟩
  | (i,v)::ps,(i',x)::qs,cells,cs,cs',hm,hps,hsz,h1,hr,hf=>by
    simp only [List.map_cons,List.cons.injEq] at hm
    obtain ⟨rfl,hm⟩:=hm
    simp only [H7] at hf
    split at hf
    . cases hf
    . rename_i off size hpl
      split at hf
      . rename_i hc
        obtain ⟨hone,hlen,hoff⟩:=hc
        obtain ⟨hl,ho1,hrv⟩:=I3 (hps 0 _ _ rfl rfl) hone
        have hvs:v.cells.size=size:=by rw [←hlen,←hl];simp
        have hfold:=UD v.cells.toList off cells (by rw [hl,hlen,hsz];exact hoff)
        have e0:(v.cells.zipIdx.foldl (fun cs (c,j)=>cs.setIfInBounds (off+j) c) cells)=(cells.toList.take off++v.cells.toList++cells.toList.drop (off+v.cells.toList.length)).toArray:=by
          apply Array.ext'
          rw [←hfold]
          rw [←Array.foldl_toList]
          simp
        obtain ⟨cells',h2,h3,h4,h5⟩:=Kh ps qs (cells.toList.take off++v.cells.toList++cells.toList.drop (off+v.cells.toList.length)).toArray (cs.take off++x.cells++cs.drop (off+size)) cs' hm
          (fun k p q hp hq=>hps (k+1) p q (by simpa using hp) (by simpa using hq)) (by simp [hsz,hvs];omega) (by
            intro u hu
            simp only [List.mem_append] at hu
            rcases hu with (hu|hu)|hu
            . exact h1 u (List.mem_of_mem_take hu)
            . exact ho1 u hu
            . exact h1 u (List.mem_of_mem_drop hu)) (by
            intro j u c hu hc
            rw [List.getElem?_toArray,G0 _ _ _ _ (by rw [hl,hlen];simpa [hsz] using hoff)] at hu
            rw [←hlen,G0 _ _ _ _ (by rw [hlen];exact hoff)] at hc
            rw [hl] at hu
            split at hu
            . rename_i hp;rw [if_pos hp] at hc;exact hr j u c (by simpa using hu) hc
            . rename_i hp
              rw [if_neg hp] at hc
              split at hu
              . rename_i hq;rw [if_pos hq] at hc;exact hrv _ u c hu hc
              . rename_i hq;rw [if_neg hq] at hc;exact hr j u c (by simpa using hu) hc) hf
        refine ⟨cells',?_,h3,h4,h5⟩
        simp only [Instr.fill,hpl]
        rw [if_neg (by simp [hvs];omega),e0]
        exact h2
      . cases hf
  | [],_::_,_,_,_,hm,_,_,_,_,_=>by simp at hm
  | _::_,[],_,_,_,hm,_,_,_,_,_=>by simp at hm
def SI (P:Program) (t:TypeId):Option (List (Nat×Nat)):=
  match P.underlying t with
  | some (.struct fs)=>fs.toList.mapM fun f=>(TI P f.type).map fun x=>(f.offset,x.2)
  | _=>none
theorem Q3 {P:Program} {fs:Array Field} {l:List (Nat×Nat)} (h:fs.toList.mapM (fun f=>(TI P f.type).map fun x=>(f.offset,x.2))=some l) (w:World):
    (fs.mapM (fun f=>do pure (f.offset,←sizeOf f.type)):Sem (Array (Nat×Nat))).run P w= .ok l.toArray w:=by
  have key:∀(fs:List Field) (l:List (Nat×Nat)),fs.mapM (fun f=>(TI P f.type).map fun x=>(f.offset,x.2))=some l→
      (fs.mapM (fun f=>Prod.mk f.offset <$> sizeOf f.type):Sem (List (Nat×Nat))).run P w= .ok l w:=by
    intro fs
    induction fs with
    | nil=>intro l h;simp at h;subst h;simp
    | cons f fs ih=>
      intro l h
      simp only [List.mapM_cons] at h ⊢
      cases ht:TI P f.type with
      | none=>simp [ht] at h
      | some x=>
        cases hr:fs.mapM (fun f=>(TI P f.type).map fun x=>(f.offset,x.2)) with
        | none=>simp [ht,hr] at h
        | some r=>
          simp [ht,hr] at h
          subst h
          simp [Ao (b:=x.1) (n:=x.2) ht,ih r hr]
  rw [Array.mapM_eq_mapM_toList]
  simp [key _ _ h]
def Fp (C:Ctx) (t:TypeId) (ps:List (Nat×V)) (K:V→St→Prop) (σ:St):Prop:=
  match SI C.P t,ZV C.P t with
  | some pl,some (.agg c0)=>match H7 (fun i=>pl[i]?) c0 ps with
    | some cs=>K (.agg cs) σ
    | none=>False
  | _,_=>False
theorem Q4 {w:World} {I:Nat→Prop} {z:Value} {l:List V} (h:Pr w I z (.agg l)):∃vs:List Value,z= .agg vs.toArray∧vs.length=l.length∧(∀v∈vs,v.oneCell'=true)∧∀(i:Nat) (v:Value) (c:V),vs[i]?=some v→l[i]?=some c→Pr w I v c:=by
  cases h with
  | agg vs _ h1 h2 h3=>exact ⟨vs,rfl,h1,h2,h3⟩
theorem V0 {C:Ctx} {o:Oper} {σ:St} {K:V→St→Prop} {t:TypeId} {ps:Array (Nat×Operand)} (ho:o.op= .build t ps) (h:Fp C t (ps.toList.map fun p=>(p.1,σ.val p.2)) K σ):BR C o σ K:=by
  unfold Fp at h
  split at h
  . rename_i pl c0 hpl hz0
    obtain ⟨z0,hz,hpz,_⟩:=KF hz0
    split at h
    . rename_i cs hcs
      refine Am fun a w I bl hp=>?_
      obtain ⟨z,rfl,hzl,hone,hzr⟩:=Q4 (hpz w I)
      obtain ⟨cells',h1,h2,h3,h4⟩:=Kh (w:=w) (I:=I) (bl:=bl) (ps.toList.map fun p=>(p.1,a.eval p.2)) (ps.toList.map fun p=>(p.1,σ.val p.2)) z.toArray c0 cs (by simp) (by
          intro k p q hp' hq
          simp only [List.getElem?_map] at hp' hq
          cases hx:ps.toList[k]? with
          | none=>simp [hx] at hp'
          | some x=>
            simp only [hx,Option.map_some,Option.some.injEq] at hp' hq
            subst hp';subst hq
            exact hp.val x.2) (by simpa using hzl) (fun u hu=>hone u (by simpa using hu)) (by
          intro j u c hu hc
          exact .pure _ _ (hzr j u c (by simpa using hu) hc)) hcs
      refine ⟨.agg cells',w,.agg cs,σ,?_,h,hp.relx ?_⟩
      . unfold SI at hpl
        split at hpl
        . rename_i fs hu
          simp only [execOp,ho]
          have e1:(ps.map fun (i,x)=>(i,a.eval x)).toList=ps.toList.map fun p=>(p.1,a.eval p.2):=by simp
          simp only [Instr.build,Sem.run_bind,Do hz,Result.andThen_ok,run_underlying hu,Q3 hpl,e1]
          simp [Value.cells,h1]
        . cases hpl
      . refine Rep.agg cells'.toList cs (by simpa using h2) (fun v hv=>h3 v hv) (fun i v c hv hc=>h4 i v c (by simpa using hv) hc)
    . exact h.elim
  . exact h.elim
end Go.Proofs.YtkaiffheakalmaaGreatDoor
