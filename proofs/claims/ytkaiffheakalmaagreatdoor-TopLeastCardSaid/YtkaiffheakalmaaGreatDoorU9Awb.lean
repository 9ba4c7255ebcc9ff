/- Copied, stripped. No conditions. -/
import Derived.Test.YtkaiffheakalmaaGreatDoorU9Awa
set_option linter.unusedSimpArgs false
set_option linter.unusedVariables false
set_option maxRecDepth 100000
namespace Go.Proofs.YtkaiffheakalmaaGreatDoor
open Go.RowKit
def V.ofCell:Value→V
  | .bool b=>.bool b
  | .int k n=>.int k n
  | .string s=>if s.size≤maxLen then .str s.data.toList else .any
  | .slice none 0 0=>.nils
  | .pointer none=>.nilp
  | .nilIface=>.nili
  | _=>.any
def V.ofVal:Value→V
  | .agg cs=>if cs.toList.all (·.oneCell') then .agg (cs.toList.map V.ofCell) else .any
  | .func (.func f) first cs=>if first.toList.isEmpty&&cs.toList.isEmpty then .fn f [] else .any
  | v=>V.ofCell v
def St.val (σ:St):Operand→V
  | .tmp t=>σ.env.getD t .any
  | .const v=>V.ofVal v
  | .global g=>.gp g
  | .func f=>.fn f []
def St.put (σ:St) (d:Option Tmp) (x:V):St:=
  match d with
  | some d=>{ σ with env:=σ.env.set d x}
  | none=>σ
theorem My {w:World} {I:Nat→Prop} (v:Value):Pr w I v (V.ofCell v):=by
  unfold V.ofCell
  split
  . exact .bool _
  . exact .int _ _
  . split
    . exact .str _ ‹_›
    . exact .any _
  . exact .nils
  . exact .nilp
  . exact .nili
  . exact .any _
theorem PA {w:World} {I:Nat→Prop} (v:Value):Pr w I v (V.ofVal v):=by
  unfold V.ofVal
  split
  . rename_i cs
    split
    . rename_i h
      refine .agg cs.toList _ (by simp) (fun v hv=>List.all_eq_true.1 h v hv) ?_
      intro i v c hv hc
      simp only [List.getElem?_map,hv,Option.map_some,Option.some.injEq] at hc
      subst hc
      exact My v
    . exact .any _
  . rename_i f first cs
    split
    . rename_i h
      simp only [Bool.and_eq_true,List.isEmpty_iff,Array.toList_eq_nil_iff] at h
      obtain ⟨rfl,rfl⟩:=h
      exact Pr.fn f [] [] rfl (fun i v c hv hc=>by simp at hv)
    . exact .any _
  . exact My v
structure RP (C:Ctx) (σ:St) (a:Act) (w:World) (I:Nat→Prop) (bl:Nat→Option BI):Prop where
  defers:a.defers=[]
  env:EnvRep σ.env a.tmps w I bl
  heap:HeapRep C σ.heap w I bl
theorem Rel.parts {C:Ctx} {σ:St} {a:Act} {w:World} (h:Rel C σ a w):∃I bl,RP C σ a w I bl:=by
  obtain ⟨I,bl,h1,h2,_,h4⟩:=h
  exact ⟨I,bl,h1,h2,h4⟩
theorem RP.rel {C:Ctx} {σ:St} {a:Act} {w:World} {I:Nat→Prop} {bl:Nat→Option BI} (h:RP C σ a w I bl):Rel C σ a w:=
  ⟨I,bl,h.1,h.2,⟨rfl,fun i v x hv=>by simp at hv⟩,h.3⟩
theorem RP.relx {C:Ctx} {σ:St} {a:Act} {w:World} {I:Nat→Prop} {bl:Nat→Option BI} (h:RP C σ a w I bl) {v:Value} {x:V} (hx:Rep w I bl v x):HZ C σ [x] a w [v]:=
  ⟨I,bl,h.1,h.2,⟨rfl,fun i v' x' hv hx'=>by
    cases i with
    | zero=>simp at hv hx';subst hv;subst hx';exact hx
    | succ i=>simp at hv⟩,h.3⟩
theorem RP.val {C:Ctx} {σ:St} {a:Act} {w:World} {I:Nat→Prop} {bl:Nat→Option BI} (h:RP C σ a w I bl) (o:Operand):Rep w I bl (a.eval o) (σ.val o):=by
  cases o with
  | tmp t=>
    show Rep w I bl (a.tmps.getD t undef) (σ.env.getD t .any)
    by_cases ht:t < a.tmps.size
    . have ht':t < σ.env.length:=by rw [h.env.1];exact ht
      refine h.env.2 t _ _ ?_ ?_
      . simp [Array.getD,ht]
      . simp [List.getD,ht']
    . have ht':¬t < σ.env.length:=by rw [h.env.1];exact ht
      have e:σ.env.getD t .any= .any:=by simp [List.getD,List.getElem?_eq_none (Nat.le_of_not_lt ht')]
      rw [e]
      exact .pure _ _ (.any _)
  | const v=>exact .pure _ _ (PA v)
  | global g=>exact .pure _ _ (.gp g)
  | func f=>exact .pure _ _ (Pr.fn f [] [] rfl (fun i v c hv hc=>by simp at hv))
theorem DI {C:Ctx} {σ:St} {a:Act} {w:World} {v:Value} {x:V} (d:Option Tmp) (h:HZ C σ [x] a w [v]):Rel C (σ.put d x) (a.put d v) w:=by
  obtain ⟨I,bl,h1,h2,h3,h4⟩:=h
  have hx:Rep w I bl v x:=h3.2 0 v x rfl rfl
  refine ⟨I,bl,?_,?_,⟨rfl,fun i v x hv=>by simp at hv⟩,?_⟩
  . cases d<;>exact h1
  . cases d with
    | none=>exact h2
    | some d=>
      refine ⟨by simp [St.put,Act.put,h2.1],?_⟩
      intro i v' x' hv hx'
      simp only [Act.put,St.put] at hv hx'
      by_cases hi:d=i
      . subst hi
        rw [List.getElem?_set_self'] at hx'
        rw [Array.getElem?_setIfInBounds] at hv
        by_cases hlt:d < a.tmps.size
        . have hlt':d < σ.env.length:=by rw [h2.1];exact hlt
          simp [hlt] at hv
          simp [hlt'] at hx'
          subst hv;subst hx'
          exact hx
        . simp [hlt] at hv
      . rw [List.getElem?_set_ne hi] at hx'
        rw [Array.getElem?_setIfInBounds,if_neg hi] at hv
        exact h2.2 i v' x' hv hx'
  . cases d<;>exact h4
def BR (C:Ctx) (o:Oper) (σ:St) (K:V→St→Prop):Prop:=
  ∀a w,Rel C σ a w→∀(next:Act→World→Prop) (Q:Exit→Act→World→Prop),(∀v w' r σ',K r σ'→HZ C σ' [r] a w' [v]→next (a.put o.dst v) w')→
    o.upon C.P a next Q ((execOp a.eval o).run C.P w)
theorem Am {C:Ctx} {o:Oper} {σ:St} {K:V→St→Prop}
    (h:∀a w I bl,RP C σ a w I bl→∃v w' r σ',(execOp a.eval o).run C.P w= .ok (.value v) w'∧K r σ'∧HZ C σ' [r] a w' [v]):BR C o σ K:=by
  intro a w hr next Q hn
  obtain ⟨I,bl,hp⟩:=hr.parts
  obtain ⟨v,w',r,σ',h1,h2,h3⟩:=h a w I bl hp
  rw [h1]
  exact hn v w' r σ' h2 h3
theorem AW {C:Ctx} {o:Oper} {σ:St} {K:V→St→Prop} (r:V) (hk:K r σ)
    (h:∀a w I bl,RP C σ a w I bl→∃v,(execOp a.eval o).run C.P w= .ok (.value v) w∧Rep w I bl v r):BR C o σ K:=
  Am fun a w I bl hp=>let ⟨v,h1,h2⟩:=h a w I bl hp;⟨v,w,r,σ,h1,hk,hp.relx h2⟩
def Vr (d:Option Tmp) (K:St→Prop) (r:V) (σ:St):Prop:=K (σ.put d r)
def CW (ops:Array Oper) (σ:St) (j:Nat):V:=match (ops[j]?).bind (·.dst) with|some t=>σ.env.getD t .any|none=>.any
theorem KZ {C:Ctx} {σ:St} {a:Act} {w:World} {ops:Array Oper} {j:Nat} {l:List V} (h:Rel C σ a w) (hg:CW ops σ j= .tup l):yielded ops a.tmps j=none:=by
  obtain ⟨I,bl,hp⟩:=h.parts
  unfold CW at hg
  unfold yielded
  cases hd:(ops[j]?).bind (·.dst) with
  | none=>simp [hd] at hg
  | some t=>
    simp only [hd] at hg
    have hv:=hp.val (.tmp t)
    simp only [Act.eval,St.val,hg] at hv
    obtain ⟨vs,hv,_⟩:=hv.inv_tup
    by_cases ht:t < a.tmps.size
    . simp [Array.getD,ht] at hv
      simp [ht,hv]
    . simp [ht]
theorem Iy {w:World} {I:Nat→Prop} {bl:Nat→Option BI}:Rep w I bl undef (.tup []):=
  .tup [] [] rfl (fun i v c h=>by simp at h)
theorem Ka {C:Ctx} {σ:St} {a:Act} {w:World} {ops:Array Oper} {j:Nat} {b:Bool} (h:Rel C σ a w) (hg:CW ops σ j= .bool b):yielded ops a.tmps j=some b:=by
  obtain ⟨I,bl,hp⟩:=h.parts
  unfold CW at hg
  unfold yielded
  cases hd:(ops[j]?).bind (·.dst) with
  | none=>simp [hd] at hg
  | some t=>
    simp only [hd] at hg
    have hv:=hp.val (.tmp t)
    simp only [Act.eval,St.val,hg] at hv
    have:a.tmps.getD t undef= .bool b:=hv.inv_bool
    by_cases ht:t < a.tmps.size
    . simp [Array.getD,ht] at this
      simp [ht,this]
    . simp [Array.getD,ht,undef] at this
def J0 (C:Ctx) (step:Oper→St→(V→St→Prop)→Prop) (ops:Array Oper) (K:St→Prop):List Oper→St→Prop
  | [],σ=>K σ
  | o::rest,σ=>
    match o.guard with
    | none=>step o σ (Vr o.dst (J0 C step ops K rest))
    | some (j,want)=>
      match CW ops σ j with
      | .bool b=>(b=want→step o σ (Vr o.dst (J0 C step ops K rest)))∧(b≠want→J0 C step ops K rest (σ.put o.dst (.tup [])))
      | .tup _=>J0 C step ops K rest (σ.put o.dst (.tup []))
      | _=>False
theorem Kb {C:Ctx} {step:Oper→St→(V→St→Prop)→Prop} (hs:∀o σ K,step o σ K→BR C o σ K) {ops:Array Oper} {K:St→Prop} {Q:Exit→Act→World→Prop} (hQ:∀σ a w,K σ→Rel C σ a w→Q .normal a w):
    ∀(l:List Oper) (k:Nat),(∀j,ops[k+j]?=l[j]?)→∀(σ:St) (a:Act) (w:World),J0 C step ops K l σ→Rel C σ a w→wpOps C.P ops Q (List.range' k l.length) a w
  | [],k,hl,σ,a,w,h,hr=>hQ σ a w h hr
  | o::rest,k,hl,σ,a,w,h,hr=>by
    have ho:ops[k]?=some o:=by simpa using hl 0
    have hrest:∀j,ops[k+1+j]?=rest[j]?:=fun j=>by have:=hl (j+1);simpa [Nat.add_assoc,Nat.add_comm 1 j] using this
    have ih:=Kb hs hQ rest (k+1) hrest
    simp only [List.length_cons,List.range'_succ,wpOps,ho]
    have hstep:step o σ (Vr o.dst (J0 C step ops K rest))→o.wp C.P a w (wpOps C.P ops Q (List.range' (k+1) rest.length)) Q:=by
      intro h
      refine hs _ _ _ h a w hr _ _ ?_
      intro v w' r σ' h1 h2
      exact ih (σ'.put o.dst r) _ _ h1 (DI o.dst h2)
    have hskip:J0 C step ops K rest (σ.put o.dst (.tup []))→wpOps C.P ops Q (List.range' (k+1) rest.length) (a.put o.dst undef) w:=by
      intro h
      obtain ⟨I,bl,hp⟩:=hr.parts
      exact ih _ _ _ h (DI o.dst (hp.relx Iy))
    simp only [J0] at h
    cases hg:o.guard with
    | none=>
      simp only [hg] at h
      have hw:Region.wanted o (yielded ops a.tmps)=true:=by simp [Region.wanted,hg]
      rw [if_pos hw]
      exact .inl (hstep h)
    | some jw=>
      obtain ⟨j,want⟩:=jw
      simp only [hg] at h
      split at h
      . rename_i b hb
        have hy:=Ka hr hb
        by_cases he:b=want
        . have hw:Region.wanted o (yielded ops a.tmps)=true:=by simp [Region.wanted,hg,hy,he]
          rw [if_pos hw]
          exact .inl (hstep (h.1 he))
        . have hw:Region.wanted o (yielded ops a.tmps)=false:=by simp [Region.wanted,hg,hy,he]
          rw [if_neg (by simp [hw])]
          exact hskip (h.2 he)
      . rename_i l hb
        have hy:=KZ hr hb
        have hw:Region.wanted o (yielded ops a.tmps)=false:=by simp [Region.wanted,hg,hy]
        rw [if_neg (by simp [hw])]
        exact hskip h
      . exact h.elim
end Go.Proofs.YtkaiffheakalmaaGreatDoor
