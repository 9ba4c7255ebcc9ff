/- Copied, stripped. No conditions. -/
import Derived.Test.YtkaiffheakalmaaGreatDoorU9Awsa
set_option linter.unusedSimpArgs false
set_option linter.unusedVariables false
set_option maxRecDepth 100000
namespace Go.Proofs.YtkaiffheakalmaaGreatDoor
open Go.RowKit
section yld
variable {C:Ctx} {ops:Array Oper}
def Ub (C:Ctx) (ops:Array Oper) (o:Oper) (r:V) (ob:Option Ob) (p:Nat) (s:St):Prop:=match ob with
  | none=>YA C ops o r s
  | some x=>BJ ops o s=some true∧s.heap[p]?=some none∧((Hf o s∧C4 C o ⟨s.env,Bn p s.heap⟩ (fun r' s'=>r'=r∧s'=⟨s.env,Aj (Bn p s.heap) x⟩))∨jD C o r x p s)
def DK (s:St) (p:Nat) (ob:Option Ob):St:=match ob with
  | none=>s
  | some x=>⟨s.env,s.heap.set p (some x)⟩
theorem Y4 {o:Oper} {r:V} {ob:Option Ob} {p i:Nat} {s:St} {a:Act} {w:World} {K:Act→World→Prop} {Q':Exit→Act→World→Prop} (hy:Ub C ops o r ob p s) (ho:ops[i]?=some o) (hr:Rel C s a w)
    (h:∀a' w',Rel C ((DK s p ob).put o.dst r) a' w'→K a' w'):wpOp C.P ops Q' i K a w:=by
  unfold wpOp
  simp only [ho]
  cases ob with
  | none=>
    rcases hy with ⟨hw,hq⟩|⟨hw,rfl⟩
    . rw [Db hr hw]
      refine .inl (Da o s _ (Kq hq) a w hr _ _ ?_)
      rintro v w' r' σ' ⟨rfl,rfl⟩ hx
      exact h _ _ (DI o.dst hx)
    . rw [Db hr hw]
      obtain ⟨I,bl,hp⟩:=hr.parts
      exact h _ _ (DI o.dst (hp.relx Iy))
  | some x=>
    obtain ⟨hw,hp,hS⟩:=hy
    have hS:C4 C o ⟨s.env,Bn p s.heap⟩ (fun r' s'=>r'=r∧s'=⟨s.env,Aj (Bn p s.heap) x⟩):=hS.elim And.right fun h=>Wa h hp
    rw [Db hr hw]
    refine .inl (Da o _ _ hS a w (Y3 p hr) _ _ ?_)
    rintro v w' r' σ' ⟨rfl,rfl⟩ hx
    exact h _ _ (DI o.dst (RU hp hx))
theorem G3 {o:Oper} {s s2:St} (hv:∀t∈o.looksAt ops,s2.env.getD t .any=s.env.getD t .any):BJ ops o s2=BJ ops o s:=by
  unfold BJ
  split
  . rfl
  . rename_i j want hg
    have:CW ops s2 j=CW ops s j:=by
      unfold CW
      split
      . rename_i t ht
        refine hv t ?_
        unfold Oper.looksAt
        rw [List.mem_append]
        right
        rw [hg]
        simp [ht]
      . rfl
    rw [this]
theorem LH {o:Oper} {s s2:St} (hv:∀t∈o.looksAt ops,s2.env.getD t .any=s.env.getD t .any):∀x∈o.op.operands.toList,s2.val x=s.val x:=by
  intro x hx
  cases x with
  | tmp t=>
    refine hv t ?_
    unfold Oper.looksAt
    rw [List.mem_append]
    left
    rw [List.mem_filterMap]
    exact ⟨_,hx,rfl⟩
  | _=>rfl
theorem LI (env:List V) (h h':List (Option Ob)) (x:Operand):St.val ⟨env,h⟩ x=St.val ⟨env,h'⟩ x:=by cases x<;>rfl
theorem I9 {o:Oper} {env:List V} {h:List (Option Ob)} (h':List (Option Ob)) (hm:Hf o ⟨env,h⟩):Hf o ⟨env,h'⟩:=by
  have e:St.val ⟨env,h⟩=St.val ⟨env,h'⟩:=funext (LI env h h')
  unfold Hf at hm ⊢
  rw [e] at hm
  exact hm
theorem Pg {o:Oper} {r:V} {ob:Option Ob} {p:Nat} {s s2:St} (hy:Ub C ops o r ob p s) (hv:∀t∈o.looksAt ops,s2.env.getD t .any=s.env.getD t .any) (he:FN s s2∨(IJ o.op=true∧(ob=none→BJ ops o s=some false))) (hp2:ob≠none→s2.heap[p]?=some none):Ub C ops o r ob p s2:=by
  cases ob with
  | none=>
    rcases hy with ⟨hw,hq⟩|⟨hw,rfl⟩
    . have he:FN s s2:=he.elim id fun h=>by rw [h.2 rfl] at hw;cases hw
      refine .inl ⟨by rw [G3 hv];exact hw,?_⟩
      obtain ⟨r',⟨rfl,_⟩,h2⟩:=IC hq
      exact h2 _ _ (LH hv) he ⟨rfl,rfl⟩
    . exact .inr ⟨by rw [G3 hv];exact hw,rfl⟩
  | some x=>
    obtain ⟨hw,hp,⟨hm,hS⟩|hC⟩:=hy
    rotate_left
    . exact ⟨by rw [G3 hv];exact hw,hp2 (by simp),.inr (Wb hC (LH hv))⟩
    have hp2':=hp2 (by simp)
    have hmp:Hf o ⟨s.env,Bn p s.heap⟩:=I9 _ hm
    obtain ⟨r',ob',⟨rfl,e2⟩,h2⟩:=TF hmp hS
    have eo:ob'=x:=by
      have:=congrArg (fun s:St=>s.heap[p]?) e2
      simp only at this
      rw [Fv hp,Fv hp,if_pos rfl,if_pos rfl] at this
      simpa using this
    subst eo
    have h3:=h2 (fun r'' s'=>r''=r'∧s'=⟨s2.env,Aj (Bn p s2.heap) ob'⟩) ⟨s2.env,Bn p s2.heap⟩ (fun y hy=>by
        have:=LH hv y hy
        rw [LI s2.env _ s2.heap,LI s.env _ s.heap]
        exact this) (he.elim (fun he=>.inl fun id z els hrow=>by
        rw [TE s2.env s2.env]
        rw [TE s.env s.env] at hrow
        exact he id z els hrow) fun h=>.inr h.1) ((Fh hp2').trans (Fh hp).symm) ⟨rfl,rfl⟩
    exact ⟨by rw [G3 hv];exact hw,hp2',.inl ⟨I9 _ h3.2,h3.1⟩⟩
end yld
structure Ent where
  i:Nat
  q:Option Nat
  r:V
  ob:Option Ob
def BC (ops:Array Oper) (i:Nat):Option Tmp:=(ops[i]?).bind (·.dst)
def Cw (ops:Array Oper) (ent:List Ent) (env:List V) (L:Nat→Bool) (t:Nat):V:=match ent.find? (fun e=>L e.i&&decide (BC ops e.i=some t)) with
  | some e=>e.r
  | none=>env.getD t .any
def KH (ent:List Ent) (L:Nat→Bool) (p:Nat):Option Ob:=match ent.find? (fun e=>L e.i&&decide (e.q=some p)) with
  | some e=>e.ob
  | none=>none
def SE (ops:Array Oper) (ent:List Ent) (s0:St) (M:Nat) (L:Nat→Bool):St:=
  ⟨(List.range s0.env.length).map (Cw ops ent s0.env L),s0.heap++(List.range M).map (KH ent L)⟩
theorem IK {α:Type} {l:List α} {P:α→Bool} {x:α} (hx:x∈l) (hp:P x=true) (hu:∀y∈l,P y=true→y=x):l.find? P=some x:=by
  cases h:l.find? P with
  | none=>rw [List.find?_eq_none] at h;exact absurd hp (h x hx)
  | some y=>rw [hu y (List.mem_of_find?_eq_some h) (List.find?_some h)]
theorem DB {α:Type} {P Q:α→Bool}:∀{l:List α},(∀x∈l,P x=Q x)→l.find? P=l.find? Q
  | [],_=>rfl
  | x::l,h=>by
    simp only [List.find?_cons]
    rw [h x (by simp),DB (l:=l) (fun y hy=>h y (by simp [hy]))]
structure EntOk (ops:Array Oper) (ent:List Ent) (M:Nat):Prop where
  one:∀e∈ent,∀f∈ent,e.i=f.i→e=f
  dst:∀e∈ent,∀f∈ent,∀t,BC ops e.i=some t→BC ops f.i=some t→e.i=f.i
  rk:∀e∈ent,∀f∈ent,∀p,e.q=some p→f.q=some p→e=f
  lt:∀e∈ent,∀p,e.q=some p→p < M
  ob:∀e∈ent,e.ob≠none→e.q≠none
section se
variable {ops:Array Oper} {ent:List Ent} {s0:St} {M:Nat}
theorem Y5 {L:Nat→Bool} (hL:∀e∈ent,L e.i=false):SE ops ent s0 M L=⟨s0.env,s0.heap++List.replicate M none⟩:=by
  unfold SE
  congr 1
  . apply List.ext_getElem?
    intro t
    rw [List.getElem?_map]
    by_cases ht:t < s0.env.length
    . rw [List.getElem?_range ht,Option.map_some,List.getElem?_eq_getElem ht]
      unfold Cw
      rw [List.find?_eq_none.2 (fun e he=>by rw [hL e he];simp)]
      simp [List.getD,ht]
    . rw [List.getElem?_eq_none (by simp;omega),List.getElem?_eq_none (by omega)];rfl
  . congr 1
    apply List.ext_getElem?
    intro p
    rw [List.getElem?_map,List.getElem?_replicate]
    by_cases hp:p < M
    . rw [List.getElem?_range hp,Option.map_some,if_pos hp]
      unfold KH
      rw [List.find?_eq_none.2 (fun e he=>by rw [hL e he];simp)]
    . rw [List.getElem?_eq_none (by simp;omega),if_neg hp];rfl
theorem TG (hok:EntOk ops ent M) {e:Ent} (he:e∈ent) {L L':Nat→Bool} (h0:L e.i=false) (h1:L' e.i=true) (h2:∀f∈ent,f≠e→L' f.i=L f.i):
    SE ops ent s0 M L'=(DK (SE ops ent s0 M L) (s0.heap.length+e.q.getD 0) e.ob).put (BC ops e.i) e.r:=by
  have hset:∀(l:List V) (d:Option Tmp) (x:V) (h:List (Option Ob)),(⟨l,h⟩:St).put d x=⟨match d with|some d=>l.set d x|none=>l,h⟩:=fun l d x h=>by cases d<;>rfl
  have henv:(List.range s0.env.length).map (Cw ops ent s0.env L')=match BC ops e.i with|some d=>((List.range s0.env.length).map (Cw ops ent s0.env L)).set d e.r|none=>(List.range s0.env.length).map (Cw ops ent s0.env L):=by
    have hoth:∀t,BC ops e.i≠some t→Cw ops ent s0.env L' t=Cw ops ent s0.env L t:=fun t ht=>by
      unfold Cw
      have:ent.find? (fun e=>L' e.i&&decide (BC ops e.i=some t))=ent.find? (fun e=>L e.i&&decide (BC ops e.i=some t)):=DB fun f hf=>by
        by_cases hfe:f=e
        . subst hfe;simp [ht]
        . rw [h2 f hf hfe]
      rw [this]
    cases hd:BC ops e.i with
    | none=>
      simp only
      exact List.map_congr_left fun t _=>hoth t (by rw [hd];simp)
    | some d=>
      simp only
      apply List.ext_getElem?
      intro t
      rw [List.getElem?_set]
      by_cases htd:d=t
      . subst htd
        rw [if_pos rfl,List.getElem?_map,List.length_map,List.length_range]
        by_cases ht:d < s0.env.length
        . rw [List.getElem?_range ht,Option.map_some,if_pos ht]
          unfold Cw
          rw [IK he (by simp [h1,hd]) (fun f hf hP=>by
            simp only [Bool.and_eq_true,decide_eq_true_eq] at hP
            exact hok.one f hf e he (hok.dst f hf e he d hP.2 hd))]
        . rw [List.getElem?_eq_none (l:=List.range s0.env.length) (by rw [List.length_range];exact Nat.le_of_not_lt ht),if_neg ht];rfl
      . rw [if_neg htd,List.getElem?_map,List.getElem?_map]
        cases hr:(List.range s0.env.length)[t]? with
        | none=>rfl
        | some t'=>
          obtain ⟨hlt,rfl⟩:=List.getElem?_eq_some_iff.1 hr
          simp only [Option.map_some,List.getElem_range]
          rw [hoth t (by rw [hd];simpa using htd)]
  have hobo:∀p,e.q≠some p→KH ent L' p=KH ent L p:=fun p hp=>by
    unfold KH
    have:ent.find? (fun e=>L' e.i&&decide (e.q=some p))=ent.find? (fun e=>L e.i&&decide (e.q=some p)):=DB fun f hf=>by
      by_cases hfe:f=e
      . subst hfe;simp [hp]
      . rw [h2 f hf hfe]
    rw [this]
  have hob1:∀p,e.q=some p→KH ent L' p=e.ob∧KH ent L p=none:=fun p hp=>by
    unfold KH
    rw [IK he (by simp [h1,hp]) (fun f hf hP=>by
      simp only [Bool.and_eq_true,decide_eq_true_eq] at hP
      exact hok.rk f hf e he p hP.2 hp),List.find?_eq_none.2 (fun f hf hP=>by
      simp only [Bool.and_eq_true,decide_eq_true_eq] at hP
      have:=hok.rk f hf e he p hP.2 hp
      subst this
      rw [h0] at hP
      cases hP.1)]
    exact ⟨rfl,rfl⟩
  have hheap:s0.heap++(List.range M).map (KH ent L')=(DK (SE ops ent s0 M L) (s0.heap.length+e.q.getD 0) e.ob).heap:=by
    cases hob:e.ob with
    | none=>
      show _=s0.heap++(List.range M).map (KH ent L)
      congr 1
      refine List.map_congr_left fun p _=>?_
      by_cases hp:e.q=some p
      . rw [(hob1 p hp).1,(hob1 p hp).2,hob]
      . exact hobo p hp
    | some x=>
      cases hq:e.q with
      | none=>exact absurd hq (hok.ob e he (by rw [hob];simp))
      | some p=>
        show _=(s0.heap++(List.range M).map (KH ent L)).set (s0.heap.length+p) (some x)
        have hpM:=hok.lt e he p hq
        rw [List.set_append_right _ _ (Nat.le_add_right _ _),Nat.add_sub_cancel_left]
        congr 1
        apply List.ext_getElem?
        intro p'
        rw [List.getElem?_set]
        by_cases hpp:p=p'
        . subst hpp
          rw [if_pos rfl,List.getElem?_map,List.length_map,List.length_range,List.getElem?_range hpM,Option.map_some,if_pos hpM,(hob1 p hq).1,hob]
        . rw [if_neg hpp,List.getElem?_map,List.getElem?_map]
          cases hr:(List.range M)[p']? with
          | none=>rfl
          | some t'=>
            obtain ⟨hlt,rfl⟩:=List.getElem?_eq_some_iff.1 hr
            simp only [Option.map_some,List.getElem_range]
            rw [hobo p' (by rw [hq];simpa using hpp)]
  have hw:DK (SE ops ent s0 M L) (s0.heap.length+e.q.getD 0) e.ob=⟨(SE ops ent s0 M L).env,(DK (SE ops ent s0 M L) (s0.heap.length+e.q.getD 0) e.ob).heap⟩:=by
    cases e.ob<;>rfl
  rw [hw,hset]
  show (⟨_,_⟩:St)=_
  rw [henv,hheap]
  rfl
theorem Y6 {L:Nat→Bool} (hok:EntOk ops ent M) {e:Ent} (he:e∈ent) {p:Nat} (hq:e.q=some p) (h0:L e.i=false):(SE ops ent s0 M L).heap[s0.heap.length+p]?=some none:=by
  show (s0.heap++(List.range M).map (KH ent L))[s0.heap.length+p]?=some none
  have hpM:=hok.lt e he p hq
  rw [List.getElem?_append_right (Nat.le_add_right _ _),Nat.add_sub_cancel_left,List.getElem?_map,List.getElem?_range hpM,Option.map_some]
  unfold KH
  rw [List.find?_eq_none.2 (fun f hf hP=>by
      simp only [Bool.and_eq_true,decide_eq_true_eq] at hP
      have:=hok.rk f hf e he p hP.2 hq
      subst this
      rw [h0] at hP
      cases hP.1)]
theorem dN {L L':Nat→Bool} (hok:EntOk ops ent M) (h:∀e∈ent,e.q≠none→L e.i=true→L' e.i=true):FN (SE ops ent s0 M L) (SE ops ent s0 M L'):=by
  intro id z els hrow
  have hk:(SE ops ent s0 M L).heap[id]?=some (some (.row z els)):=DJ hrow
  have:(SE ops ent s0 M L').heap[id]?=some (some (.row z els)):=by
    change (s0.heap++(List.range M).map (KH ent L))[id]?=_ at hk
    show (s0.heap++(List.range M).map (KH ent L'))[id]?=_
    by_cases hid:id < s0.heap.length
    . rw [List.getElem?_append_left hid] at hk ⊢
      exact hk
    . rw [List.getElem?_append_right (by omega)] at hk ⊢
      rw [List.getElem?_map] at hk ⊢
      cases hr:(List.range M)[id - s0.heap.length]? with
      | none=>rw [hr] at hk;cases hk
      | some p=>
        rw [hr] at hk
        simp only [Option.map_some,Option.some.injEq] at hk ⊢
        unfold KH at hk ⊢
        cases hf:ent.find? (fun e=>L e.i&&decide (e.q=some p)) with
        | none=>rw [hf] at hk;cases hk
        | some e=>
          rw [hf] at hk
          have he:=List.mem_of_find?_eq_some hf
          have hp:=List.find?_some hf
          simp only [Bool.and_eq_true,decide_eq_true_eq] at hp
          rw [IK he (by simp [h e he (by rw [hp.2];simp) hp.1,hp.2]) (fun f hf hP=>by
            simp only [Bool.and_eq_true,decide_eq_true_eq] at hP
            exact hok.rk f hf e he p hP.2 hp.2)]
          exact hk
  simp [St.row,this]
theorem Y7 {L L':Nat→Bool} {t:Nat} (h:∀e∈ent,BC ops e.i=some t→L e.i=L' e.i):(SE ops ent s0 M L').env.getD t .any=(SE ops ent s0 M L).env.getD t .any:=by
  show ((List.range s0.env.length).map (Cw ops ent s0.env L')).getD t .any=((List.range s0.env.length).map (Cw ops ent s0.env L)).getD t .any
  have:Cw ops ent s0.env L' t=Cw ops ent s0.env L t:=by
    unfold Cw
    have:ent.find? (fun e=>L' e.i&&decide (BC ops e.i=some t))=ent.find? (fun e=>L e.i&&decide (BC ops e.i=some t)):=DB fun f hf=>by
      by_cases hd:BC ops f.i=some t
      . rw [h f hf hd]
      . simp [hd]
    rw [this]
  unfold List.getD
  rw [List.getElem?_map,List.getElem?_map]
  cases hr:(List.range s0.env.length)[t]? with
  | none=>rfl
  | some t'=>
    obtain ⟨hlt,rfl⟩:=List.getElem?_eq_some_iff.1 hr
    simp only [Option.map_some,List.getElem_range,Option.getD_some]
    exact this
end se
end Go.Proofs.YtkaiffheakalmaaGreatDoor
