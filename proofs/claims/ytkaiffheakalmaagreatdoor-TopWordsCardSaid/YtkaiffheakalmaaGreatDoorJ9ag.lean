/- Joined. No conditions. -/
import Derived.Test.YtkaiffheakalmaaGreatDoorJ9af
set_option linter.unusedSimpArgs false
set_option linter.unusedVariables false
set_option maxRecDepth 100000
namespace Go.Proofs.YtkaiffheakalmaaGreatDoor
open Go.RowKit
mutual
def V.nr:V→Prop
 | .sl _ _ _=>False
 | .ptr _ _ _=>False
 | .it _=>False
 | .agg l=>BT l
 | .fn _ l=>BT l
 | .tup l=>BT l
 | _=>True
def BT:List V→Prop
 | []=>True
 | x::l=>x.nr∧BT l
end
theorem CA:∀(l:List V) (i:Nat) (c:V),BT l→l[i]?=some c→c.nr
 | [],i,c,_,h=>by simp at h
 | x::l,0,c,hl,h=>by simp at h;subst h;exact hl.1
 | x::l,i+1,c,hl,h=>CA l i c hl.2 (by simpa using h)
theorem PW {l:List V}:BT l↔∀x∈l,x.nr:=by
 induction l with
 | nil=>simp [BT]
 | cons x l ih=>simp [BT,ih]
theorem GS (l r:List V):BT (l++r)↔BT l∧BT r:=by
 simp only [PW,List.mem_append]
 exact ⟨fun h=>⟨fun x hx=>h x (.inl hx),fun x hx=>h x (.inr hx)⟩,fun h x hx=>hx.elim (h.1 x) (h.2 x)⟩
theorem EX {x:V} (h:x.nr) (j:Nat) (c:V) (hc:x.cells[j]?=some c):c.nr:=by
 cases x with
 | agg l=>exact CA l j c h hc
 | _=>
   cases j with
   | zero=>simp [V.cells] at hc;subst hc;exact h
   | succ j=>simp [V.cells] at hc
theorem Rep.pr {w:World} {I:Nat→Prop} {bl:Nat→Option BI} {v:Value} {x:V} (h:Rep w I bl v x) (hx:x.nr):Pr w I v x:=by
 induction h with
 | pure v x h=>exact h
 | nsl id base z h=>exact hx.elim
 | sl id off len cap b base z n e h1 h2 h3 h4 h5=>exact hx.elim
 | esl id off a i h=>exact hx.elim
 | ptr id i j b base z n e h1 h2=>exact hx.elim
 | it id b base z h1=>exact hx.elim
 | agg vs l h1 h2 h3 ih=>exact .agg vs l h1 h2 (fun i v c hv hc=>ih i v c hv hc (CA l i c hx hc))
 | fn f vs l h1 h2 ih=>exact .fn f vs l h1 (fun i v c hv hc=>ih i v c hv hc (CA l i c hx hc))
 | tup vs l h1 h2 ih=>exact .tup vs l h1 (fun i v c hv hc=>ih i v c hv hc (CA l i c hx hc))
theorem RP.forget {C:Ctx} {σ:St} {a:Act} {w:World} {I:Nat→Prop} {bl:Nat→Option BI} (hp:RP C σ a w I bl) (id:Nat):
 RP C { env:=AF id σ.env,heap:=(BC id σ.heap).set id none} a w I (fun k=>if k=id then none else bl k):=by
 have hb:∀k,k≠id→(fun k=>if k=id then none else bl k) k=bl k:=fun k hk=>if_neg hk
 have hs:∀k i,(fun k=>if k=id then none else bl k) k=some i→k≠id∧bl k=some i:=by
  intro k i h
  by_cases hk:k=id
  ·subst hk;simp at h
  ·exact ⟨hk,by rw [←hb k hk];exact h⟩
 refine ⟨hp.defers,hp.env.kill id hb,⟨?_,?_,?_,?_,hp.heap.imm,hp.heap.kept⟩⟩
 ·intro k o ho
  by_cases hk:k=id
  ·subst hk
   rw [List.getElem?_set] at ho
   simp only [if_true] at ho
   split at ho<;>simp at ho
  ·simp only [List.getElem?_set_ne (Ne.symm hk)] at ho
   obtain ⟨o',ho',rfl⟩:=F2 id _ k o ho
   exact (hp.heap.obj k o' ho').kill id hk hb
 ·intro k i h
  obtain ⟨hk,h'⟩:=hs k i h
  obtain ⟨o,ho⟩:=hp.heap.live k i h'
  exact ⟨_,by simp only [List.getElem?_set_ne (Ne.symm hk)];exact FE id _ k o ho⟩
 ·intro k k' i i' b h1 h2 h3 h4
  exact hp.heap.apart k k' i i' b (hs k i h1).2 (hs k' i' h2).2 h3 h4
 ·intro k i b h1 h2
  exact hp.heap.own k i b (hs k i h1).2 h2
theorem WH {C:Ctx} {T:St→Prop} {σ:St} (id:Nat) (h:Up C T { env:=AF id σ.env,heap:=(BC id σ.heap).set id none}):Up C T σ:=
 BS (fun _ _ hr=>let ⟨_,_,hp⟩:=hr.parts;(hp.forget id).rel) h
theorem bQ {C:Ctx} {T:St→Prop} {env:List V} {h:List (Option Ob)} (hh:Up C T { env:=env,heap:=h}):Up C T { env:=env,heap:=h++[none]}:=by
 refine BS (fun a w hr=>?_) hh
 obtain ⟨I,bl,hp⟩:=hr.parts
 refine RP.rel (I:=I) (bl:=bl) ⟨hp.defers,hp.env,⟨?_,?_,hp.heap.apart,hp.heap.own,hp.heap.imm,hp.heap.kept⟩⟩
 ·intro id o ho
  refine hp.heap.obj id o ?_
  simp only at ho ⊢
  rw [List.getElem?_append_left (List.getElem?_eq_some_iff.1 ho).1]
  exact ho
 ·intro id i h1
  obtain ⟨o,ho⟩:=hp.heap.live id i h1
  refine ⟨o,?_⟩
  simp only at ho ⊢
  rw [List.getElem?_append] at ho
  split at ho
  ·exact ho
  ·rename_i hi
   cases hk:id - h.length with
   | zero=>simp [hk] at ho
   | succ k=>simp [hk] at ho
def Cf (ks:List Nat):Nat→List V→List V
 | _,[]=>[]
 | k,x::l=>(if ks.contains k then x else .any)::Cf ks (k+1) l
theorem Gv (ks:List Nat):∀k l,(Cf ks k l).length=l.length
 | _,[]=>rfl
 | k,x::l=>by simp [Cf,Gv ks (k+1) l]
theorem I5 (ks:List Nat):∀(k:Nat) (l:List V) (i:Nat) (c:V),(Cf ks k l)[i]?=some c→c= .any∨l[i]?=some c
 | _,[],i,c,h=>by simp [Cf] at h
 | k,x::l,0,c,h=>by
   simp only [Cf,List.getElem?_cons_zero,Option.some.injEq] at h
   subst h
   split
   ·exact .inr rfl
   ·exact .inl rfl
 | k,x::l,i+1,c,h=>by
   simp only [Cf,List.getElem?_cons_succ] at h ⊢
   exact I5 ks (k+1) l i c h
theorem bR {C:Ctx} {T:St→Prop} {σ:St} (ks:List Nat) (h:Up C T { env:=Cf ks 0 σ.env,heap:=σ.heap}):Up C T σ:=by
 refine BS (fun a w hr=>?_) h
 obtain ⟨I,bl,hp⟩:=hr.parts
 refine RP.rel (I:=I) (bl:=bl) ⟨hp.defers,⟨by rw [Gv];exact hp.env.1,fun i v x hv hx=>?_⟩,hp.heap⟩
 rcases I5 ks 0 σ.env i x hx with rfl|hx'
 ·exact .pure _ _ (.any _)
 ·exact hp.env.2 i v x hv hx'
mutual
def V.frz (id:Nat) (els:List V):V→V
 | .sl i off n=>if i=id then (if off+n≤els.length then .lst ((els.drop off).take n) else .any) else .sl i off n
 | .ptr i a b=>if i=id then (match els[a]? with|some x=>.rp (x.cells.drop b)|none=>.any) else .ptr i a b
 | .it i=>if i=id then .any else .it i
 | .agg l=>.agg (Ai id els l)
 | .fn f l=>.fn f (Ai id els l)
 | .tup l=>.tup (Ai id els l)
 | x=>x
def Ai (id:Nat) (els:List V):List V→List V
 | []=>[]
 | x::l=>x.frz id els::Ai id els l
end
def Ob.frz (id:Nat) (els:List V):Ob→Ob
 | .row z l=>.row z (Ai id els l)
 | .hid vs l=>.hid vs (Ai id els l)
 | .bld T y=>.bld T (Uv id y)
 | o=>o
def CG (id:Nat) (els:List V):List (Option Ob)→List (Option Ob)
 | []=>[]
 | none::r=>none::CG id els r
 | some o::r=>some (o.frz id els)::CG id els r
theorem Ar (id:Nat) (els:List V):∀l,(Ai id els l).length=l.length
 | []=>rfl
 | x::l=>by simp [Ai,Ar id els l]
theorem Bf (id:Nat) (els:List V):∀(l:List V) (i:Nat) (c:V),(Ai id els l)[i]?=some c→∃x,l[i]?=some x∧c=x.frz id els
 | [],i,c,h=>by simp [Ai] at h
 | x::l,0,c,h=>by simp [Ai] at h;exact ⟨x,rfl,h.symm⟩
 | x::l,i+1,c,h=>by
   simp only [Ai,List.getElem?_cons_succ] at h
   exact Bf id els l i c h
theorem Lu (id:Nat) (els:List V):∀(h:List (Option Ob)) (k:Nat) (o:Ob),(CG id els h)[k]?=some (some o)→∃o',h[k]?=some (some o')∧o=o'.frz id els
 | [],k,o,h=>by simp [CG] at h
 | none::r,0,o,h=>by simp [CG] at h
 | some x::r,0,o,h=>by simp [CG] at h;exact ⟨x,rfl,h.symm⟩
 | none::r,k+1,o,h=>by simp only [CG,List.getElem?_cons_succ] at h;simpa using Lu id els r k o h
 | some x::r,k+1,o,h=>by simp only [CG,List.getElem?_cons_succ] at h;simpa using Lu id els r k o h
theorem C6 (id:Nat) (els:List V):∀(h:List (Option Ob)) (k:Nat) (o:Ob),h[k]?=some (some o)→(CG id els h)[k]?=some (some (o.frz id els))
 | [],k,o,h=>by simp at h
 | none::r,0,o,h=>by simp at h
 | some x::r,0,o,h=>by simp at h;subst h;rfl
 | none::r,k+1,o,h=>by simp only [CG,List.getElem?_cons_succ] at h ⊢;exact C6 id els r k o h
 | some x::r,k+1,o,h=>by simp only [CG,List.getElem?_cons_succ] at h ⊢;exact C6 id els r k o h
theorem Nv (id:Nat) (els:List V) (x:V):(x.frz id els).cells.length=x.cells.length:=by
 cases x with
 | agg l=>simp [V.frz,V.cells,Ar]
 | sl i o n=>simp only [V.frz];split<;>(try split)<;>rfl
 | ptr i a b=>simp only [V.frz];split<;>(try split)<;>rfl
 | it i=>simp only [V.frz];split<;>rfl
 | _=>rfl
theorem Nw (id:Nat) (els:List V) (x:V) (j:Nat) (c:V) (h:(x.frz id els).cells[j]?=some c):∃c',x.cells[j]?=some c'∧c=c'.frz id els:=by
 have single:x.cells=[x]→(x.frz id els).cells=[x.frz id els]→∃c',x.cells[j]?=some c'∧c=c'.frz id els:=by
  intro e1 e2
  rw [e2] at h
  cases j with
  | zero=>simp at h;exact ⟨x,by rw [e1];rfl,h.symm⟩
  | succ j=>simp at h
 cases x with
 | agg l=>simp only [V.frz,V.cells] at h ⊢;exact Bf id els l j c h
 | sl i o n=>exact single rfl (by simp only [V.frz];split<;>(try split)<;>rfl)
 | ptr i a b=>exact single rfl (by simp only [V.frz];split<;>(try split)<;>rfl)
 | it i=>exact single rfl (by simp only [V.frz];split<;>rfl)
 | _=>exact single rfl rfl
structure Frz (w:World) (I I':Nat→Prop) (bl bl':Nat→Option BI) (id:Nat) (els:List V):Prop where
 imm:∀b,I b→I' b
 others:∀k,k≠id→bl' k=bl k
 lies:∀i b,bl id=some i→i.blk=some b→I' b∧(∀(k:Nat) (x:V),els[k]?=some x→x.cells.length=i.z)∧∀(k:Nat) (x:V) (j:Nat) (c:V),els[k]?=some x→x.cells[j]?=some c→∃u,w.cell? ⟨b,i.base+k*i.z+j,none⟩=some u∧u.oneCell'=true∧Pr w I' u c
 nil:∀i,bl id=some i→i.blk=none→els=[]
theorem Pr.frz {w:World} {I:Nat→Prop} {v:Value} {x:V} (id:Nat) (els:List V) (h:Pr w I v x):Pr w I v (x.frz id els):=by
 induction h with
 | any v=>exact .any v
 | bool b=>exact .bool b
 | int k n=>exact .int k n
 | str s h=>exact .str s h
 | nils=>exact .nils
 | lnil a cap=>exact .lnil a cap
 | lst b off cap z l u h1 h2 h3 h4 h5 h6 h7 ih=>exact .lst b off cap z l u h1 h2 h3 h4 h5 h6 h7
 | agg vs l h1 h2 h3 ih=>
   simp only [V.frz]
   refine .agg vs _ (by rw [Ar,h1]) h2 ?_
   intro i v c hv hc
   obtain ⟨x,hx,rfl⟩:=Bf id els l i c hc
   exact ih i v x hv hx
 | rp b off l u h1 h2 h3 h4 ih=>exact .rp b off l u h1 h2 h3 h4
 | fn f vs l h1 h2 ih=>
   simp only [V.frz]
   refine .fn f vs _ (by rw [Ar,h1]) ?_
   intro i v c hv hc
   obtain ⟨x,hx,rfl⟩:=Bf id els l i c hc
   exact ih i v x hv hx
 | tup vs l h1 h2 ih=>
   simp only [V.frz]
   refine .tup vs _ (by rw [Ar,h1]) ?_
   intro i v c hv hc
   obtain ⟨x,hx,rfl⟩:=Bf id els l i c hc
   exact ih i v x hv hx
 | nilp=>exact .nilp
 | nili=>exact .nili
 | ifi t k n=>exact .ifi t k n
 | ifx t v=>exact .ifx t v
 | gp g=>exact .gp g
 | gsl g n h=>exact .gsl g n h
theorem WI {w:World} {I:Nat→Prop} {b base z off n cap:Nat} {els:List V} (hI:I b) (hz:∀(k:Nat) (x:V),els[k]?=some x→x.cells.length=z)
 (hc:∀(k:Nat) (x:V) (j:Nat) (c:V),els[k]?=some x→x.cells[j]?=some c→∃u,w.cell? ⟨b,base+k*z+j,none⟩=some u∧u.oneCell'=true∧Pr w I u c) (hn:off+n≤els.length) (hcap:n≤cap) (hmax:cap≤maxLen):
 Pr w I (.slice (some ⟨b,base+off*z,none⟩) n cap) (.lst ((els.drop off).take n)):=by
 have hlen:((els.drop off).take n).length=n:=by simp;omega
 have hget:∀(i:Nat) (x:V),((els.drop off).take n)[i]?=some x→els[off+i]?=some x:=by
  intro i x hx
  rw [List.getElem?_take] at hx
  split at hx
  ·rw [List.getElem?_drop] at hx;exact hx
  ·simp at hx
 have key:∀i j,∃u:Value,(i < n→j < z→w.cell? ⟨b,base+off*z+i*z+j,none⟩=some u)∧u.oneCell'=true∧∀(x c:V),((els.drop off).take n)[i]?=some x→x.cells[j]?=some c→Pr w I u c:=by
  intro i j
  by_cases hij:i < n∧j < z
  ·have hlt:off+i < els.length:=by omega
   have hx:els[off+i]?=some els[off+i]:=List.getElem?_eq_getElem hlt
   have hj:j < (els[off+i]).cells.length:=by rw [hz _ _ hx];exact hij.2
   obtain ⟨u,h1,h2,h3⟩:=hc (off+i) _ j _ hx (List.getElem?_eq_getElem hj)
   refine ⟨u,fun _ _=>?_,h2,fun x c hx' hc'=>?_⟩
   ·rw [←h1,Nat.add_mul];congr 2;omega
   ·have e1:=hget i x hx'
    rw [hx] at e1
    simp only [Option.some.injEq] at e1
    subst e1
    rw [List.getElem?_eq_getElem hj] at hc'
    simp only [Option.some.injEq] at hc'
    subst hc'
    exact h3
  ·refine ⟨.bool true,fun h1 h2=>absurd ⟨h1,h2⟩ hij,rfl,fun x c hx' hc'=>?_⟩
   exfalso
   apply hij
   refine ⟨by rw [←hlen];exact (List.getElem?_eq_some_iff.1 hx').1,?_⟩
   rw [←hz _ _ (hget i x hx')]
   exact (List.getElem?_eq_some_iff.1 hc').1
 obtain ⟨u,hu⟩:=Classical.axiomOfChoice fun i=>Classical.axiomOfChoice (key i)
 have:=Pr.lst (w:=w) (I:=I) b (base+off*z) cap z ((els.drop off).take n) u hI (by omega) hmax (fun i x hx=>hz _ x (hget i x hx)) (fun i j hi hj=>(hu i j).1 (by omega) hj) (fun i j=>(hu i j).2.1) (fun i x j c hx hc'=>(hu i j).2.2 x c hx hc')
 rw [hlen] at this
 exact this
theorem bS {w:World} {I:Nat→Prop} {b base z i j:Nat} {els:List V} {x:V} (hI:I b)
 (hc:∀(k:Nat) (x:V) (j:Nat) (c:V),els[k]?=some x→x.cells[j]?=some c→∃u,w.cell? ⟨b,base+k*z+j,none⟩=some u∧u.oneCell'=true∧Pr w I u c) (hx:els[i]?=some x):
 Pr w I (.pointer (some ⟨b,base+i*z+j,none⟩)) (.rp (x.cells.drop j)):=by
 have key:∀k,∃u:Value,(k < (x.cells.drop j).length→w.cell? ⟨b,base+i*z+j+k,none⟩=some u)∧u.oneCell'=true∧∀c:V,(x.cells.drop j)[k]?=some c→Pr w I u c:=by
  intro k
  by_cases hk:k < (x.cells.drop j).length
  ·have hlt:j+k < x.cells.length:=by simp at hk;omega
   obtain ⟨u,h1,h2,h3⟩:=hc i x (j+k) _ hx (List.getElem?_eq_getElem hlt)
   refine ⟨u,fun _=>by rw [←h1];congr 2;omega,h2,fun c hc'=>?_⟩
   rw [List.getElem?_drop,List.getElem?_eq_getElem hlt] at hc'
   simp only [Option.some.injEq] at hc'
   subst hc'
   exact h3
  ·exact ⟨.bool true,fun h=>absurd h hk,rfl,fun c hc'=>absurd (List.getElem?_eq_some_iff.1 hc').1 hk⟩
 obtain ⟨u,hu⟩:=Classical.axiomOfChoice key
 exact .rp b _ _ u hI (fun k hk=>(hu k).1 hk) (fun k=>(hu k).2.1) (fun k c hc'=>(hu k).2.2 c hc')
theorem Rep.frz {w:World} {I I':Nat→Prop} {bl bl':Nat→Option BI} {id:Nat} {els:List V} (hf:Frz w I I' bl bl' id els) {v:Value} {x:V} (h:Rep w I bl v x):Rep w I' bl' v (x.frz id els):=by
 induction h with
 | pure v x h=>exact .pure v _ ((h.frz id els).later (fun _ _=>rfl) hf.imm)
 | nsl k base z h=>
   simp only [V.frz]
   split
   ·split
    ·simp only [List.take_zero];exact .pure _ _ (.lnil _ _)
    ·exact .pure _ _ (.any _)
   ·exact .nsl k base z (by rw [hf.others k ‹_›];exact h)
 | sl k off len cap b base z n e h1 h2 h3 h4 h5=>
   simp only [V.frz]
   split
   ·rename_i hk
    subst hk
    split
    ·rename_i hlen
     obtain ⟨hI,hz,hc⟩:=hf.lies _ b h1 rfl
     exact .pure _ _ (WI hI hz hc hlen h4 h5)
    ·exact .pure _ _ (.any _)
   ·exact .sl k off len cap b base z n e (by rw [hf.others k ‹_›];exact h1) h2 h3 h4 h5
 | esl k off a i h=>
   simp only [V.frz]
   split
   ·split
    ·simp only [List.take_zero];exact .pure _ _ (.lnil _ _)
    ·exact .pure _ _ (.any _)
   ·exact .esl k off a i (by rw [hf.others k ‹_›];exact h)
 | ptr k i j b base z n e h1 h2=>
   simp only [V.frz]
   split
   ·rename_i hk
    subst hk
    split
    ·rename_i x hx
     obtain ⟨hI,hz,hc⟩:=hf.lies _ b h1 rfl
     exact .pure _ _ (bS hI hc hx)
    ·exact .pure _ _ (.any _)
   ·exact .ptr k i j b base z n e (by rw [hf.others k ‹_›];exact h1) h2
 | it k b base z h1=>
   simp only [V.frz]
   split
   ·exact .pure _ _ (.any _)
   ·exact .it k b base z (by rw [hf.others k ‹_›];exact h1)
 | agg vs l h1 h2 h3 ih=>
   simp only [V.frz]
   refine .agg vs _ (by rw [Ar,h1]) h2 ?_
   intro i v c hv hc
   obtain ⟨x,hx,rfl⟩:=Bf id els l i c hc
   exact ih i v x hv hx
 | fn f vs l h1 h2 ih=>
   simp only [V.frz]
   refine .fn f vs _ (by rw [Ar,h1]) ?_
   intro i v c hv hc
   obtain ⟨x,hx,rfl⟩:=Bf id els l i c hc
   exact ih i v x hv hx
 | tup vs l h1 h2 ih=>
   simp only [V.frz]
   refine .tup vs _ (by rw [Ar,h1]) ?_
   intro i v c hv hc
   obtain ⟨x,hx,rfl⟩:=Bf id els l i c hc
   exact ih i v x hv hx
theorem ObRep.frz {w:World} {I I':Nat→Prop} {bl bl':Nat→Option BI} {id:Nat} {els:List V} (hf:Frz w I I' bl bl' id els) {k:Nat} {o:Ob} (h:ObRep w I bl k o) (hk:k≠id):ObRep w I' bl' k (o.frz id els):=by
 cases o with
 | row z l=>
   obtain ⟨bi,h1,h2,h3,h4⟩:=h
   refine ⟨bi,by rw [hf.others k hk];exact h1,h2,fun i x hx=>?_,?_⟩
   ·obtain ⟨y,hy,rfl⟩:=Bf id els l i x hx
    rw [Nv];exact h3 i y hy
   ·cases hbl:bi.blk with
    | none=>simp only [hbl] at h4 ⊢;subst h4;rfl
    | some b=>
      simp only [hbl] at h4 ⊢
      obtain ⟨cur,e,hg,hsz,hc⟩:=h4
      refine ⟨cur,e,hg,by rw [Ar];exact hsz,?_⟩
      intro i x j c hx hxc
      obtain ⟨y,hy,rfl⟩:=Bf id els l i x hx
      obtain ⟨c',hc',rfl⟩:=Nw id els y j c hxc
      obtain ⟨u,hu,h1',hr⟩:=hc i y j c' hy hc'
      exact ⟨u,hu,h1',hr.frz hf⟩
 | iter s pos=>
   obtain ⟨b,base,z,t,h1,h2,h3,h4⟩:=h
   exact ⟨b,base,z,t,by rw [hf.others k hk];exact h1,h2,h3,h4⟩
 | mp es=>
   obtain ⟨b,base,z,t,h1,h2,h3,h4⟩:=h
   exact ⟨b,base,z,t,by rw [hf.others k hk];exact h1,h2,h3,h4⟩
 | bld T y=>
   obtain ⟨b,p,v,h1,h2,h3,h4,h5⟩:=h
   exact ⟨b,p,v,by rw [hf.others k hk];exact h1,h2,h3,h4,OE hf.others (h5.later (Later.refl _ _) hf.imm (fun _ _ h=>h))⟩
 | buf U s=>
   obtain ⟨blk,h1,h2⟩:=h
   exact ⟨blk,by rw [hf.others k hk];exact h1,h2⟩
 | hid vs l=>exact ⟨by rw [hf.others k hk];exact h.1,by simp [Ar,h.2.1],fun i v x hv hx=>by
    obtain ⟨y,hy,rfl⟩:=Bf id els l i x hx
    exact (h.2.2 i v y hv hy).frz hf⟩
def St.frz (id:Nat) (els:List V) (σ:St):St:={ env:=Ai id els σ.env,heap:=(CG id els σ.heap).set id none}
theorem RP.frz {C:Ctx} {σ:St} {a:Act} {w:World} {I:Nat→Prop} {bl:Nat→Option BI} (hp:RP C σ a w I bl) {id z:Nat} {els:List V} (hrow:σ.row id=some (z,els)) (hnr:BT els):Rel C (σ.frz id els) a w:=by
 obtain ⟨bi,hb1,hb2,hb3,hb4⟩:=hp.heap.obj id _ (Dh hrow)
 let I':Nat→Prop:=fun b=>I b∨bi.blk=some b
 let bl':Nat→Option BI:=fun k=>if k=id then none else bl k
 have hb:∀k,k≠id→bl' k=bl k:=fun k hk=>if_neg hk
 have hs:∀k i,bl' k=some i→k≠id∧bl k=some i:=by
  intro k i h
  by_cases hk:k=id
  ·subst hk;simp [bl'] at h
  ·exact ⟨hk,by rw [←hb k hk];exact h⟩
 have hf:Frz w I I' bl bl' id els:=by
  refine ⟨fun b h=>.inl h,hb,?_,?_⟩
  ·intro i b h1 h2
   rw [hb1] at h1
   simp only [Option.some.injEq] at h1
   subst h1
   refine ⟨.inr h2,fun k x hx=>by rw [hb2];exact hb3 k x hx,?_⟩
   rw [h2] at hb4
   obtain ⟨cur,e,hg,hsz,hc⟩:=hb4
   intro k x j c hx hxc
   obtain ⟨u,hu,h1',hr⟩:=hc k x j c hx hxc
   refine ⟨u,?_,h1',(hr.pr (EX (CA els k x hnr hx) j c hxc)).later (fun _ _=>rfl) (fun b h=>.inl h)⟩
   rw [hg.cell,hb2]
   exact hu
  ·intro i h1 h2
   rw [hb1] at h1
   simp only [Option.some.injEq] at h1
   subst h1
   rw [h2] at hb4
   exact hb4
 refine RP.rel (I:=I') (bl:=bl') ⟨hp.defers,⟨by simp only [St.frz,Ar];exact hp.env.1,fun i v x hv hx=>?_⟩,⟨?_,?_,?_,?_,?_,hp.heap.kept⟩⟩
 ·obtain ⟨y,hy,rfl⟩:=Bf id els σ.env i x hx
  exact (hp.env.2 i v y hv hy).frz hf
 ·intro k o ho
  simp only [St.frz] at ho
  by_cases hk:k=id
  ·subst hk
   rw [List.getElem?_set] at ho
   simp only [if_true] at ho
   split at ho<;>simp at ho
  ·simp only [List.getElem?_set_ne (Ne.symm hk)] at ho
   obtain ⟨o',ho',rfl⟩:=Lu id els _ k o ho
   exact (hp.heap.obj k o' ho').frz hf hk
 ·intro k i h
  obtain ⟨hk,h'⟩:=hs k i h
  obtain ⟨o,ho⟩:=hp.heap.live k i h'
  exact ⟨_,by simp only [St.frz,List.getElem?_set_ne (Ne.symm hk)];exact C6 id els _ k o ho⟩
 ·intro k k' i i' b h1 h2 h3 h4
  exact hp.heap.apart k k' i i' b (hs k i h1).2 (hs k' i' h2).2 h3 h4
 ·intro k i b h1 h2
  obtain ⟨hk,h1'⟩:=hs k i h1
  obtain ⟨h3,h4,h5⟩:=hp.heap.own k i b h1' h2
  refine ⟨h3,fun h=>?_,h5⟩
  rcases h with h|h
  ·exact h4 h
  ·exact hk (hp.heap.apart k id i bi b h1' hb1 h2 h)
 ·intro k hk
  rcases hk with hk|hk
  ·exact hp.heap.imm k hk
  ·obtain ⟨h3,_,h5⟩:=hp.heap.own id bi k hb1 hk
   refine ⟨h3,?_⟩
   exact h5.elim (fun h=>.inr (.inl h)) (fun h=>.inr (.inr h))
theorem eR {C:Ctx} {T:St→Prop} {σ:St} (id:Nat) {z:Nat} {els:List V} (hrow:σ.row id=some (z,els)) (hnr:BT els) (h:Up C T (σ.frz id els)):Up C T σ:=
 BS (fun _ _ hr=>let ⟨_,_,hp⟩:=hr.parts;hp.frz hrow hnr) h
theorem YH {C:Ctx} {T:St→Prop} {σ:St} (s z:Nat) (hs:σ.env[s]?=some .nils) (h:Up C T { env:=σ.env.set s (.sl (AG σ.heap) 0 0),heap:=Ag σ.heap (.row z [])}):Up C T σ:=by
 refine BS (fun a w hr=>?_) h
 obtain ⟨I,bl,hp⟩:=hr.parts
 have hp':=hp.adopt z
 refine RP.rel (I:=I) (bl:=GQ bl (AG σ.heap) ⟨none,0,z⟩) ⟨hp.defers,⟨by simp only [List.length_set];exact hp.env.1,fun i v x hv hx=>?_⟩,hp'.heap⟩
 by_cases hi:i=s
 ·subst hi
  rw [List.getElem?_set_self (List.getElem?_eq_some_iff.1 hs).1] at hx
  simp only [Option.some.injEq] at hx
  subst hx
  have:=(hp.env.2 i v _ hv hs).inv_nils
  subst this
  exact .nsl _ _ _ (AT _ _ _)
 ·rw [List.getElem?_set_ne (Ne.symm hi)] at hx
  exact hp'.env.2 i v x hv hx
def Fn1 (P:Program) (f:FuncId) (args:List V) (R:V→Prop):Prop:=
 ∀(w:World) (I:Nat→Prop) (vs:List Value),args.length=vs.length→(∀(i:Nat) (v:Value) (x:V),vs[i]?=some v→args[i]?=some x→Pr w I v x)→(∀b,I b→b < w.heap.size)→
   Calls P f vs.toArray w fun e w'=>∃v r I',e= .returned v∧R r∧Pr w' I' v r∧(∀b,I' b→b < w'.heap.size∧(I b∨w.heap.size≤b))∧Kept (fun _=>False) w w'
def Fn1G (P:Program) (G:World→Prop) (f:FuncId) (args:List V) (R:V→Prop):Prop:=
 ∀(w:World) (I:Nat→Prop) (vs:List Value),G w→args.length=vs.length→(∀(i:Nat) (v:Value) (x:V),vs[i]?=some v→args[i]?=some x→Pr w I v x)→(∀b,I b→b < w.heap.size)→
   Calls P f vs.toArray w fun e w'=>∃v r I',e= .returned v∧R r∧Pr w' I' v r∧(∀b,I' b→b < w'.heap.size∧(I b∨w.heap.size≤b))∧Kept (fun _=>False) w w'
def Xy (C:Ctx) (f:FuncId) (args:List V) (R:V→Prop):Prop:=Fn1G C.P (fun w=>Kept C.E C.W0 w) f args R
theorem Fn1.c {C:Ctx} {f:FuncId} {args:List V} {R:V→Prop} (h:Fn1 C.P f args R):Xy C f args R:=fun w I vs _=>h w I vs
def YI (G:World→Prop):Prop:=∀w w',Kept (fun _=>False) w w'→G w→G w'
theorem Fn1G.c {C:Ctx} {P:Program} {G:World→Prop} {f:FuncId} {args:List V} {R:V→Prop} (h:Fn1G P G f args R) (hC:C.P=P) (hE:C.E=fun _=>False) (hk:YI G) (hG:G C.W0):Xy C f args R:=by
 subst hC
 exact fun w I vs hw=>h w I vs (hk _ _ (hE▸hw) hG)
def I6 (P:Program) (σ:St):ResultVar→V
 | .tmp t=>σ.env.getD t .any
 | .cell a t=>match TI P t with
   | some (b,n)=>match σ.env.getD a .any with
     | .ptr id i j=>match σ.row id with
       | some (_,els)=>match els[i]? with
         | some x=>if (b=false→n=1)∧j+n≤x.cells.length then Sr b ((x.cells.drop j).take n) else .any
         | none=>.any
       | none=>.any
     | .rp l=>if (b=false→n=1)∧n≤l.length then Sr b (l.take n) else .any
     | _=>.any
   | none=>.any
def IQ (P:Program) (l:List ResultVar) (σ:St):V:=
 match l with
 | [x]=>I6 P σ x
 | l=>.tup (l.map (I6 P σ))
def CM (P:Program) (σ:St):ResultVar→Prop
 | .tmp _=>True
 | .cell a t=>match TI P t with
   | some (b,n)=>(b=false→n=1)∧match σ.env.getD a .any with
     | .ptr id i j=>match σ.row id with
       | some (_,els)=>match els[i]? with
         | some x=>j+n≤x.cells.length
         | none=>False
       | none=>False
     | .rp l=>n≤l.length
     | _=>False
   | none=>False
theorem Sz {P:Program} {t:TypeId} {b:Bool} {n:Nat} (hti:TI P t=some (b,n)) (hb:b=false→n=1) {w:World} {I:Nat→Prop} {bl:Nat→Option BI} {av:Value} {l:List V} (hv:Rep w I bl av (.rp l)) (hn:n≤l.length):
 ∃ad v,av= .pointer (some ad)∧(loadVar t ad).run P w= .ok v w∧Rep w I bl v (Sr b (l.take n)):=by
 obtain ⟨blk,off,u,hI,hv,hc,h1,hr'⟩:=hv.inv_rp
 have hrun:=C5 hti hb w blk off u (fun j hj=>hc j (by omega))
 simp only [Instr.loadAt,Instr.sureAddr,Sem.run_bind,Sem.run_pure,Result.andThen_ok] at hrun
 refine ⟨_,_,hv,hrun,LO (u:=u) (by simp;omega) hb h1 (fun j c hj=>.pure _ _ (hr' j c ?_))⟩
 rw [List.getElem?_take] at hj
 split at hj
 ·exact hj
 ·simp at hj
theorem Qu {C:Ctx} {σ:St} {a:Act} {t:TypeId} {b:Bool} {n:Nat} (hti:TI C.P t=some (b,n)) (hb:b=false→n=1) {w:World} {I:Nat→Prop} {bl:Nat→Option BI} (hp:RP C σ a w I bl) {av:Value} {id i j z:Nat} {els:List V} {y:V} (hv:Rep w I bl av (.ptr id i j)) (hrow:σ.row id=some (z,els))
 (hy:els[i]?=some y) (hn:j+n≤y.cells.length):∃ad v,av= .pointer (some ad)∧(loadVar t ad).run C.P w= .ok v w∧Rep w I bl v (Sr b ((y.cells.drop j).take n)):=by
 obtain ⟨blk,base,z',m,e,hbl,_,hv⟩:=hv.inv_ptr
 obtain ⟨rfl,hcell⟩:=hp.objCell hrow hbl
 have hex:∀k,∃u,k < n→w.cell? ⟨blk,base+i*z'+j+k,none⟩=some u∧u.oneCell'=true∧∀c,(y.cells)[j+k]?=some c→Rep w I bl u c:=by
  intro k
  by_cases hk:k < n
  ·have hlt:j+k < y.cells.length:=by omega
   obtain ⟨u,h1,h2,h3⟩:=hcell i y (j+k) _ hy (List.getElem?_eq_getElem hlt)
   refine ⟨u,fun _=>⟨by rw [Nat.add_assoc _ j k];exact h1,h2,fun c hc=>?_⟩⟩
   rw [List.getElem?_eq_getElem hlt] at hc
   simp only [Option.some.injEq] at hc
   subst hc
   exact h3
  ·exact ⟨.bool true,fun h=>absurd h hk⟩
 obtain ⟨u,hu⟩:=Classical.axiomOfChoice hex
 let u':Nat→Value:=fun k=>if k < n then u k else .bool true
 have hrun:=C5 hti hb w blk (base+i*z'+j) u' (fun k hk=>by simp only [u',if_pos hk];exact (hu k hk).1)
 simp only [Instr.loadAt,Instr.sureAddr,Sem.run_bind,Sem.run_pure,Result.andThen_ok] at hrun
 refine ⟨_,_,hv,hrun,LO (u:=u') (by simp;omega) hb (fun k=>?_) (fun k c hc=>?_)⟩
 ·simp only [u']
  split
  ·exact (hu k ‹_›).2.1
  ·rfl
 ·rw [List.getElem?_take] at hc
  split at hc
  ·rename_i hk
   simp only [u',if_pos hk]
   rw [List.getElem?_drop] at hc
   exact (hu k hk).2.2 c hc
  ·simp at hc
def I7 (a:Act) (r:ResultVar):Sem Value:=match r with|.tmp t=>pure (a.tmps.getD t undef)|.cell x t=>do loadVar t (←asAddr (a.tmps.getD x undef))
theorem bT {C:Ctx} {σ:St} {a:Act} {w:World} {I:Nat→Prop} {bl:Nat→Option BI} (hp:RP C σ a w I bl) (r:ResultVar) (hg:CM C.P σ r):
 ∃v,(I7 a r).run C.P w= .ok v w∧Rep w I bl v (I6 C.P σ r):=by
 cases r with
 | tmp t=>exact ⟨_,rfl,hp.val (.tmp t)⟩
 | cell x t=>
   have hv:=hp.val (.tmp x)
   simp only [Act.eval,St.val] at hv
   simp only [CM] at hg
   simp only [I6,I7]
   split at hg
   ·rename_i b n hti
    obtain ⟨hb,hg⟩:=hg
    try rw [hti]
    split at hg
    ·rename_i id i j he
     rw [he] at hv
     split at hg
     ·rename_i z els hrow
      try simp only [hrow]
      split at hg
      ·rename_i y hy
       obtain ⟨ad,v,e1,hrun,hr⟩:=Qu hti hb hp hv hrow hy hg
       try simp only [hy]
       rw [if_pos ⟨hb,hg⟩]
       exact ⟨v,by rw [e1];simpa [asAddr] using hrun,hr⟩
      ·exact hg.elim
     ·exact hg.elim
    ·rename_i l he
     rw [he] at hv
     obtain ⟨ad,v,e1,hrun,hr⟩:=Sz hti hb hv hg
     rw [if_pos ⟨hb,hg⟩]
     exact ⟨v,by rw [e1];simpa [asAddr] using hrun,hr⟩
    ·exact hg.elim
   ·exact hg.elim
theorem Qv {C:Ctx} {σ:St} {a:Act} {w:World} {I:Nat→Prop} {bl:Nat→Option BI} (hp:RP C σ a w I bl):∀l:List ResultVar,(∀r∈l,CM C.P σ r)→
 ∃vs:List Value,(l.mapM (I7 a):Sem (List Value)).run C.P w= .ok vs w∧vs.length=l.length∧
  ∀(i:Nat) (v:Value) (c:V),vs[i]?=some v→(l.map (I6 C.P σ))[i]?=some c→Rep w I bl v c
 | [],_=>⟨[],by simp,rfl,fun i v c hv=>by simp at hv⟩
 | r::l,hg=>by
   obtain ⟨v,h1,h2⟩:=bT hp r (hg r (by simp))
   obtain ⟨vs,h3,h4,h5⟩:=Qv hp l (fun r hr=>hg r (by simp [hr]))
   refine ⟨v::vs,?_,by simp [h4],fun i v' c hv hc=>?_⟩
   ·rw [List.mapM_cons]
    simp only [Sem.run_bind]
    rw [h1]
    simp only [Result.andThen_ok]
    rw [h3]
    rfl
   ·cases i with
    | zero=>simp at hv hc;subst hv;subst hc;exact h2
    | succ i=>exact h5 i v' c (by simpa using hv) (by simpa using hc)
def eS (C:Ctx) (fn:Func) (R:V→Prop):Exit→St→Prop
 | .normal,σ|.ret,σ=>Up C (fun σ=>(∀r∈fn.results.toList,CM C.P σ r)∧(IQ C.P fn.results.toList σ).nr∧R (IQ C.P fn.results.toList σ)) σ
 | _,_=>False
theorem Lv (C:Ctx) (fn:Func) (R:V→Prop) (σ:St):eS C fn R .ret σ=Up C (fun σ=>(∀r∈fn.results.toList,CM C.P σ r)∧(IQ C.P fn.results.toList σ).nr∧R (IQ C.P fn.results.toList σ)) σ:=rfl
theorem Fd {C:Ctx} {σ:St} {a:Act} {w:World} {I:Nat→Prop} {bl:Nat→Option BI} {fn:Func} (hp:RP C σ a w I bl) (hg:∀r∈fn.results.toList,CM C.P σ r):
 ∃v,(results fn a.tmps).run C.P w= .ok v w∧Rep w I bl v (IQ C.P fn.results.toList σ):=by
 obtain ⟨vs,h1,h2,h3⟩:=Qv hp fn.results.toList hg
 have hm:(fn.results.mapM (I7 a):Sem (Array Value)).run C.P w= .ok vs.toArray w:=by
  rw [Array.mapM_eq_mapM_toList]
  simp only [Sem.run_map]
  rw [h1]
  rfl
 refine ⟨if h:vs.toArray.size=1 then vs.toArray[0] else .tuple vs.toArray,?_,?_⟩
 ·show ((fn.results.mapM (I7 a) >>= fun vs=>pure (if h:vs.size=1 then vs[0] else .tuple vs)):Sem Value).run C.P w=_
  simp only [Sem.run_bind]
  rw [hm]
  rfl
 ·generalize hl:fn.results.toList=l at*
  match l,vs,h2 with
  | [],[],_=>exact Rep.tup [] [] rfl (fun i v c hv hc=>by simp at hv)
  | [r],[v],_=>exact h3 0 v _ rfl rfl
  | r::r'::l,v::v'::vs,h2=>
    have:¬(v::v'::vs).toArray.size=1:=by simp
    rw [dif_neg this]
    exact Rep.tup _ _ (by simpa using h2) h3
theorem Qw {P:Program} {G:World→Prop} {f:FuncId} {fn:Func} {c:Code} {args:List V} {R:V→Prop} (hf:P.funcs[f]?=some fn) (hb:fn.body=some c)
 (h:∀C:Ctx,C.P=P→C.E=(fun _=>False)→G C.W0→PP C c (eS C fn R) { env:=args++List.replicate (fn.ntmps - args.length) .any,heap:=[]}):Fn1G P G f args R:=by
 intro w I vs hG hl hvs hI
 refine calls_of_wp hf hb ?_
 let C:Ctx:=⟨P,w,fun _=>False,I⟩
 have hr:Rel C { env:=args++List.replicate (fn.ntmps - args.length) .any,heap:=[]} { tmps:=vs.toArray++Array.replicate (fn.ntmps - vs.toArray.size) undef,defers:=[]} w:=by
  refine RP.rel (I:=I) (bl:=fun _=>none) ⟨rfl,⟨by simp [hl],fun i v x hv hx=>?_⟩,⟨fun id o ho=>(by simp at ho),fun id i h=>(by cases h),fun id id' i i' b h=>(by cases h),fun id i b h=>(by cases h),fun k hk=>⟨hI k hk,.inl hk⟩,Kept.refl _ _⟩⟩
  rw [List.getElem?_append] at hx
  rw [Array.getElem?_append] at hv
  split at hx
  ·rename_i hi
   have hi':i < vs.toArray.size:=by simp;omega
   rw [if_pos hi'] at hv
   exact .pure _ _ (hvs i v x (by simpa [List.getElem?_eq_getElem (show i < vs.length by omega)] using hv) hx)
  ·have:x= .any:=by
    obtain ⟨h1,h2⟩:=List.getElem?_eq_some_iff.1 hx
    rw [←h2];simp
   subst this
   exact .pure _ _ (.any _)
 refine wp_mono (h C rfl rfl hG _ w hr) ?_
 rintro e a' w' ⟨σ',h1,h2⟩
 have fin:Up C (fun σ=>(∀r∈fn.results.toList,CM C.P σ r)∧(IQ C.P fn.results.toList σ).nr∧R (IQ C.P fn.results.toList σ)) σ'→a'.defers=[]∧∃v,(results fn a'.tmps).run P w'= .ok v w'∧
  ∃v' r I',Ending.returned v= .returned v'∧R r∧Pr w' I' v' r∧(∀b,I' b→b < w'.heap.size∧(I b∨w.heap.size≤b))∧Kept (fun _=>False) w w':=by
  intro h1
  obtain ⟨σ2,⟨hg,hnr,hR⟩,hr2⟩:=h1 a' w' h2
  obtain ⟨I',bl',hp⟩:=hr2.parts
  obtain ⟨v,hv,hrep⟩:=Fd hp hg
  refine ⟨hp.defers,v,hv,v,_,I',rfl,hR,hrep.pr hnr,fun b hb=>?_,hp.heap.kept⟩
  obtain ⟨h3,h4⟩:=hp.heap.imm b hb
  exact ⟨h3,h4.elim .inl (fun h=>h.elim False.elim .inr)⟩
 cases e with
 | normal=>exact fin h1
 | ret=>exact fin h1
 | exit id=>exact h1.elim
 | goto l=>exact h1.elim
 | panic ch=>exact h1.elim
 | outgrown=>exact h1.elim
def AB (P:Program) (f:FuncId):Bool:=
 match P.funcs[f]? with
 | some fn => fn.body.isSome && fn.name != "runtime.NumGoroutine"
 | none=>false
def Lw (C:Ctx) (f:FuncId) (xs:List V) (K:V→St→Prop) (σ:St):Prop:=
 ∀a w vs,IA C σ xs a w vs→Calls C.P f vs.toArray w fun e w'=>∃v r σ',e= .returned v∧K r σ'∧IA C σ' [r] a w' [v]
def Dz (C:Ctx) (fop:Operand) (args:List Operand) (K:V→St→Prop) (σ:St):Prop:=
 match σ.val fop with
 | .fn f caps=>AB C.P f=true∧Lw C f (args.map σ.val++caps) K σ
 | _=>False
def Qx (C:Ctx) (fop:Operand) (args:List Operand) (K:V→St→Prop) (σ:St):Prop:=Up C (Dz C fop args K) σ
theorem bU {C:Ctx} {o:Oper} {σ:St} {K:V→St→Prop} {fop:Operand} {args:Array Operand} {ts:Array TypeId} (ho:o.op= .call { callee:=.value fop,args:=args,argTypes:=ts}) (h:Qx C fop args.toList K σ):Bc C o σ K:=by
 intro a w hr next Q hn
 obtain ⟨σ',h1,hr'⟩:=h a w hr
 unfold Dz at h1
 split at h1
 ·rename_i f caps hf
  obtain ⟨hb,hc⟩:=h1
  obtain ⟨I,bl,hp⟩:=hr'.parts
  have hv:=hp.val fop
  rw [hf] at hv
  obtain ⟨vs,hv,hl,hcap⟩:=hv.inv_fn
  have hrun:(execOp a.eval o).run C.P w= .ok (.enter f ((args.toList.map a.eval++vs).toArray)) w:=by
   unfold AB at hb
   split at hb
   ·rename_i fn hfn
    simp only [Bool.and_eq_true,bne_iff_ne] at hb
    have hb1:¬fn.body=none:=by
     intro h
     rw [h] at hb
     simp at hb
    have e1:(args.map a.eval)++vs.toArray=(args.toList.map a.eval++vs).toArray:=by
     apply Array.ext'
     simp
    simp only [execOp,ho,resolve,hv]
    simp [Deferred.ofValue,invoke,callFunc,program,Sem.run,hfn,hb.2,hb1,e1]
   ·cases hb
  rw [hrun]
  simp only [Oper.upon]
  refine (hc a w (args.toList.map a.eval++vs) ⟨I,bl,hp.1,hp.2,⟨by simp [hl],fun i v x hv hx=>?_⟩,hp.3⟩).mono ?_
  ·rw [List.getElem?_append] at hv hx
   simp only [List.length_map] at hv hx
   split at hv
   ·rename_i hi
    rw [if_pos hi] at hx
    simp only [List.getElem?_map] at hv hx
    cases hy:args.toList[i]? with
    | none=>simp [hy] at hv
    | some y=>
      simp only [hy,Option.map_some,Option.some.injEq] at hv hx
      subst hv;subst hx
      exact hp.val y
   ·rename_i hi
    rw [if_neg hi] at hx
    exact hcap _ v x hv hx
  ·rintro e w' ⟨v,r,σ2,rfl,hk,hx⟩
   exact hn v w' r σ2 hk hx
 ·exact h1.elim
theorem F6 {C:Ctx} {f:FuncId} {xs:List V} {R:V→Prop} {K:V→St→Prop} {σ:St} (h:Xy C f xs R) (hx:BT xs) (hk:∀r,R r→K r σ):Lw C f xs K σ:=by
 intro a w vs ⟨I,bl,h1,h2,h3,h4⟩
 refine (h w I vs h4.kept h3.1 (fun i v x hv hx'=>(h3.2 i v x hv hx').pr (CA xs i x hx hx')) (fun b hb=>(h4.imm b hb).1)).mono ?_
 rintro e w' ⟨v,r,I',rfl,hR,hpr,hI',hkept⟩
 refine ⟨v,r,σ,rfl,hk r hR,?_⟩
 have hsame:∀b,b < w.heap.size→w'.heap[b]?=w.heap[b]?:=fun b hb=>hkept.block b hb (fun h=>h)
 have hl:Later I w w':=⟨fun b hb=>hsame b (h4.imm b hb).1,fun b s hs=>by
  have hlt:b < w.heap.size:=by
   unfold World.shape? at hs
   split at hs
   ·rename_i h;exact (Array.getElem?_eq_some_iff.1 h).1
   ·cases hs
  rw [CF (hsame b hlt)];exact hs⟩
 have hI:∀b,I b→(fun b=>I b∨I' b) b:=fun b hb=>.inl hb
 refine ⟨fun b=>I b∨I' b,bl,h1,h2.later hl hI (fun _ _ h=>h),⟨rfl,fun i v' x hv hx'=>?_⟩,⟨fun id o ho=>(h4.obj id o ho).later hl hI (fun _ _ h=>h) (fun i b hb1 hb2=>hsame b (h4.own id i b hb1 hb2).1) (fun h=>h),h4.live,h4.apart,fun id i b hb1 hb2=>?_,fun k hk'=>?_,h4.kept.trans ⟨hkept.os,hkept.tape,hkept.output,hkept.size,fun k hk1 _=>hkept.block k hk1 (fun h=>h),hkept.shape⟩⟩⟩
 ·cases i with
  | zero=>simp at hv hx';subst hv;subst hx';exact .pure _ _ (hpr.later (fun _ _=>rfl) (fun b hb=>.inr hb))
  | succ i=>simp at hv
 ·obtain ⟨g1,g2,g3⟩:=h4.own id i b hb1 hb2
  refine ⟨Nat.lt_of_lt_of_le g1 hkept.size,fun hh=>hh.elim g2 (fun h=>?_),g3⟩
  obtain ⟨_,h5⟩:=hI' b h
  exact h5.elim g2 (fun h=>by omega)
 ·rcases hk' with hk'|hk'
  ·obtain ⟨g1,g2⟩:=h4.imm k hk'
   exact ⟨Nat.lt_of_lt_of_le g1 hkept.size,g2⟩
  ·obtain ⟨g1,g2⟩:=hI' k hk'
   refine ⟨g1,g2.elim (fun h=>(h4.imm k h).2) (fun h=>.inr (.inr ?_))⟩
   exact Nat.le_trans h4.kept.size h
theorem WJ {C:Ctx} {f:FuncId} {xs:List V} {R:V→Prop} {K:V→St→Prop} {σ:St} (h:Fn1 C.P f xs R) (hx:BT xs) (hk:∀r,R r→K r σ):Lw C f xs K σ:=
 F6 h.c hx hk
def Xz:V→Bool
 | .bool _=>true
 | .int _ _=>true
 | .str _=>true
 | _=>false
theorem Pr.sc {w w':World} {I I':Nat→Prop} {v:Value} {x:V} (hs:Xz x=true) (h:Pr w I v x):Pr w' I' v x:=by
 cases h<;>first|(simp [Xz] at hs;done)|exact .bool _|exact .int _ _|exact .str _ (by assumption)
theorem IR {C:Ctx} {f:FuncId} {xs:List V} {r0:V} {K:V→St→Prop} {σ:St} (id:Nat) {z:Nat} {els:List V} (hrow:σ.row id=some (z,els)) (hnr:BT els) (h:Fn1 C.P f (Ai id els xs) (fun r=>r=r0)) (hx:BT (Ai id els xs)) (hs:Xz r0=true) (hk:K r0 σ):Lw C f xs K σ:=by
 intro a w vs ⟨I,bl,h1,h2,h3,h4⟩
 obtain ⟨bi,hb1,hb2,hb3,hb4⟩:=h4.obj id _ (Dh hrow)
 let I':Nat→Prop:=fun b=>I b∨bi.blk=some b
 let bl':Nat→Option BI:=fun k=>if k=id then none else bl k
 have hb:∀k,k≠id→bl' k=bl k:=fun k hk=>if_neg hk
 have hf:Frz w I I' bl bl' id els:=by
  refine ⟨fun b h=>.inl h,hb,?_,?_⟩
  ·intro i b h1 h2
   rw [hb1] at h1
   simp only [Option.some.injEq] at h1
   subst h1
   refine ⟨.inr h2,fun k x hx=>by rw [hb2];exact hb3 k x hx,?_⟩
   rw [h2] at hb4
   obtain ⟨cur,e,hg,hsz,hc⟩:=hb4
   intro k x j c hx hxc
   obtain ⟨u,hu,h1',hr⟩:=hc k x j c hx hxc
   refine ⟨u,?_,h1',(hr.pr (EX (CA els k x hnr hx) j c hxc)).later (fun _ _=>rfl) (fun b h=>.inl h)⟩
   rw [hg.cell,hb2]
   exact hu
  ·intro i h1 h2
   rw [hb1] at h1
   simp only [Option.some.injEq] at h1
   subst h1
   rw [h2] at hb4
   exact hb4
 have hI'lt:∀b,I' b→b < w.heap.size:=by
  rintro b (hb|hb)
  ·exact (h4.imm b hb).1
  ·exact (h4.own id bi b hb1 hb).1
 refine (h w I' vs (by rw [Ar];exact h3.1) (fun i v x hv hx'=>?_) hI'lt).mono ?_
 ·obtain ⟨y,hy,rfl⟩:=Bf id els xs i x hx'
  exact ((h3.2 i v y hv hy).frz hf).pr (CA _ i _ hx hx')
 rintro e w' ⟨v,r,I'',rfl,rfl,hpr,hI'',hkept⟩
 refine ⟨v,r,σ,rfl,hk,?_⟩
 have hsame:∀b,b < w.heap.size→w'.heap[b]?=w.heap[b]?:=fun b hb=>hkept.block b hb (fun h=>h)
 have hl:Later I w w':=⟨fun b hb=>hsame b (h4.imm b hb).1,fun b s hs=>by
  have hlt:b < w.heap.size:=by
   unfold World.shape? at hs
   split at hs
   ·rename_i h;exact (Array.getElem?_eq_some_iff.1 h).1
   ·cases hs
  rw [CF (hsame b hlt)];exact hs⟩
 have hI:∀b,I b→I b:=fun b hb=>hb
 refine ⟨I,bl,h1,h2.later hl hI (fun _ _ h=>h),⟨rfl,fun i v' x hv hx'=>?_⟩,⟨fun id o ho=>(h4.obj id o ho).later hl hI (fun _ _ h=>h) (fun i b hb1 hb2=>hsame b (h4.own id i b hb1 hb2).1) (fun h=>h),h4.live,h4.apart,fun id i b hb1 hb2=>?_,fun k hk'=>?_,h4.kept.trans ⟨hkept.os,hkept.tape,hkept.output,hkept.size,fun k hk1 _=>hkept.block k hk1 (fun h=>h),hkept.shape⟩⟩⟩
 ·cases i with
  | zero=>simp at hv hx';subst hv;subst hx';exact .pure _ _ (hpr.sc hs)
  | succ i=>simp at hv
 ·obtain ⟨g1,g2,g3⟩:=h4.own id i b hb1 hb2
  exact ⟨Nat.lt_of_lt_of_le g1 hkept.size,g2,g3⟩
 ·obtain ⟨g1,g2⟩:=h4.imm k hk'
  exact ⟨Nat.lt_of_lt_of_le g1 hkept.size,g2⟩
theorem Lx {w:World} {I I1:Nat→Prop} {bl bl1:Nat→Option BI} {id z:Nat} {els:List V} {bi:BI} (hb1:bl id=some bi) (hb2:bi.z=z) (hb3:∀(i:Nat) (x:V),els[i]?=some x→x.cells.length=z)
 (hb4:match bi.blk with|none=>els=[]|some b=>∃cur e,CellsAt z w b cur e∧bi.base+els.length*z≤cur.size∧∀(i:Nat) (x:V) (j:Nat) (c:V),els[i]?=some x→x.cells[j]?=some c→∃u,cur[bi.base+i*z+j]?=some u∧u.oneCell'=true∧Rep w I bl u c)
 (hnr:BT els) (hI:∀b,I b→I1 b) (hbl:bl1 id=some bi):Frz w I1 (fun b=>I1 b∨bi.blk=some b) bl1 (fun k=>if k=id then none else bl1 k) id els:=by
 refine ⟨fun b h=>.inl h,fun k hk=>if_neg hk,?_,?_⟩
 ·intro i b h1 h2
  rw [hbl] at h1
  simp only [Option.some.injEq] at h1
  subst h1
  refine ⟨.inr h2,fun k x hx=>by rw [hb2];exact hb3 k x hx,?_⟩
  rw [h2] at hb4
  obtain ⟨cur,e,hg,hsz,hc⟩:=hb4
  intro k x j c hx hxc
  obtain ⟨u,hu,h1',hr⟩:=hc k x j c hx hxc
  refine ⟨u,?_,h1',(hr.pr (EX (CA els k x hnr hx) j c hxc)).later (fun _ _=>rfl) (fun b h=>.inl (hI b h))⟩
  rw [hg.cell,hb2]
  exact hu
 ·intro i h1 h2
  rw [hbl] at h1
  simp only [Option.some.injEq] at h1
  subst h1
  rw [h2] at hb4
  exact hb4
theorem Kq {C:Ctx} {f:FuncId} {xs:List V} {r0:V} {K:V→St→Prop} {σ:St} (id id2:Nat) {z z2:Nat} {els els2:List V} (hne:id2≠id) (hrow:σ.row id=some (z,els)) (hrow2:σ.row id2=some (z2,els2)) (hnr:BT els) (hnr2:BT els2) (h:Fn1 C.P f (Ai id2 els2 (Ai id els xs)) (fun r=>r=r0)) (hx:BT (Ai id2 els2 (Ai id els xs))) (hs:Xz r0=true) (hk:K r0 σ):Lw C f xs K σ:=by
 intro a w vs ⟨I,bl,h1,h2,h3,h4⟩
 obtain ⟨bi,hb1,hb2,hb3,hb4⟩:=h4.obj id _ (Dh hrow)
 obtain ⟨bj,hc1,hc2,hc3,hc4⟩:=h4.obj id2 _ (Dh hrow2)
 have hf:=Lx (I1:=I) (bl1:=bl) hb1 hb2 hb3 hb4 hnr (fun b h=>h) hb1
 have hf2:=Lx (I1:=fun b=>I b∨bi.blk=some b) (bl1:=fun k=>if k=id then none else bl k) hc1 hc2 hc3 hc4 hnr2 (fun b h=>.inl h) (by simp only [if_neg hne];exact hc1)
 have hI'lt:∀b,((I b∨bi.blk=some b)∨bj.blk=some b)→b < w.heap.size:=by
  rintro b ((hb|hb)|hb)
  ·exact (h4.imm b hb).1
  ·exact (h4.own id bi b hb1 hb).1
  ·exact (h4.own id2 bj b hc1 hb).1
 refine (h w (fun b=>(I b∨bi.blk=some b)∨bj.blk=some b) vs (by rw [Ar,Ar];exact h3.1) (fun i v x hv hx'=>?_) hI'lt).mono ?_
 ·obtain ⟨y,hy,rfl⟩:=Bf id2 els2 _ i x hx'
  obtain ⟨y',hy',rfl⟩:=Bf id els xs i y hy
  exact (((h3.2 i v y' hv hy').frz hf).frz hf2).pr (CA _ i _ hx hx')
 rintro e w' ⟨v,r,I'',rfl,rfl,hpr,hI'',hkept⟩
 refine ⟨v,r,σ,rfl,hk,?_⟩
 have hsame:∀b,b < w.heap.size→w'.heap[b]?=w.heap[b]?:=fun b hb=>hkept.block b hb (fun h=>h)
 have hl:Later I w w':=⟨fun b hb=>hsame b (h4.imm b hb).1,fun b s hs=>by
  have hlt:b < w.heap.size:=by
   unfold World.shape? at hs
   split at hs
   ·rename_i h;exact (Array.getElem?_eq_some_iff.1 h).1
   ·cases hs
  rw [CF (hsame b hlt)];exact hs⟩
 have hI:∀b,I b→I b:=fun b hb=>hb
 refine ⟨I,bl,h1,h2.later hl hI (fun _ _ h=>h),⟨rfl,fun i v' x hv hx'=>?_⟩,⟨fun id o ho=>(h4.obj id o ho).later hl hI (fun _ _ h=>h) (fun i b hb1 hb2=>hsame b (h4.own id i b hb1 hb2).1) (fun h=>h),h4.live,h4.apart,fun id i b hb1 hb2=>?_,fun k hk'=>?_,h4.kept.trans ⟨hkept.os,hkept.tape,hkept.output,hkept.size,fun k hk1 _=>hkept.block k hk1 (fun h=>h),hkept.shape⟩⟩⟩
 ·cases i with
  | zero=>simp at hv hx';subst hv;subst hx';exact .pure _ _ (hpr.sc hs)
  | succ i=>simp at hv
 ·obtain ⟨g1,g2,g3⟩:=h4.own id i b hb1 hb2
  exact ⟨Nat.lt_of_lt_of_le g1 hkept.size,g2,g3⟩
 ·obtain ⟨g1,g2⟩:=h4.imm k hk'
  exact ⟨Nat.lt_of_lt_of_le g1 hkept.size,g2⟩
end Go.Proofs.YtkaiffheakalmaaGreatDoor
