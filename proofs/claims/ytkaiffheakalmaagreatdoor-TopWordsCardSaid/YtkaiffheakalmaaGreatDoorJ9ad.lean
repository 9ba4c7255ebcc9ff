/- Joined. No conditions. -/
import Derived.Test.YtkaiffheakalmaaGreatDoorJ9ac
set_option linter.unusedSimpArgs false
set_option linter.unusedVariables false
set_option maxRecDepth 100000
namespace Go.Proofs.YtkaiffheakalmaaGreatDoor
open Go.RowKit
def Ob.kill (id:Nat):Ob→Ob
 | .row z els=>.row z (AF id els)
 | .hid vs l=>.hid vs (AF id l)
 | .bld T y=>.bld T (Uv id y)
 | o=>o
def BC (id:Nat):List (Option Ob)→List (Option Ob)
 | []=>[]
 | none::r=>none::BC id r
 | some o::r=>some (o.kill id)::BC id r
theorem Ez (id:Nat):∀h,(BC id h).length=h.length
 | []=>rfl
 | none::r=>by simp [BC,Ez id r]
 | some _::r=>by simp [BC,Ez id r]
theorem F2 (id:Nat):∀(h:List (Option Ob)) (k:Nat) (o:Ob),(BC id h)[k]?=some (some o)→∃o',h[k]?=some (some o')∧o=o'.kill id
 | [],k,o,h=>by simp [BC] at h
 | none::r,0,o,h=>by simp [BC] at h
 | some x::r,0,o,h=>by simp [BC] at h;exact ⟨x,rfl,h.symm⟩
 | none::r,k+1,o,h=>by simp only [BC,List.getElem?_cons_succ] at h;simpa using F2 id r k o h
 | some x::r,k+1,o,h=>by simp only [BC,List.getElem?_cons_succ] at h;simpa using F2 id r k o h
theorem FE (id:Nat):∀(h:List (Option Ob)) (k:Nat) (o:Ob),h[k]?=some (some o)→(BC id h)[k]?=some (some (o.kill id))
 | [],k,o,h=>by simp at h
 | none::r,0,o,h=>by simp at h
 | some x::r,0,o,h=>by simp at h;subst h;rfl
 | none::r,k+1,o,h=>by simp only [BC,List.getElem?_cons_succ] at h ⊢;exact FE id r k o h
 | some x::r,k+1,o,h=>by simp only [BC,List.getElem?_cons_succ] at h ⊢;exact FE id r k o h
theorem F3 (id:Nat) {α:Type} (f:α→V):∀l:List α,AF id (l.map f)=l.map fun x=>(f x).kill id
 | []=>rfl
 | x::l=>by simp [AF,F3 id f l]
theorem G8 (id:Nat) (x:V):(x.kill id).cells.length=x.cells.length:=by
 cases x with
 | agg l=>simp [V.kill,V.cells,AQ]
 | sl i o n=>simp only [V.kill];split<;>rfl
 | ptr i a b=>simp only [V.kill];split<;>rfl
 | it i=>simp only [V.kill];split<;>rfl
 | _=>rfl
theorem G9 (id:Nat) (x:V) (j:Nat) (c:V) (h:(x.kill id).cells[j]?=some c):∃c',x.cells[j]?=some c'∧c=c'.kill id:=by
 have single:x.cells=[x]→(x.kill id).cells=[x.kill id]→∃c',x.cells[j]?=some c'∧c=c'.kill id:=by
  intro e1 e2
  rw [e2] at h
  cases j with
  | zero=>simp at h;exact ⟨x,by rw [e1];rfl,h.symm⟩
  | succ j=>simp at h
 cases x with
 | agg l=>simp only [V.kill,V.cells] at h ⊢;exact Bj id l j c h
 | sl i o n=>exact single rfl (by simp only [V.kill];split<;>rfl)
 | ptr i a b=>exact single rfl (by simp only [V.kill];split<;>rfl)
 | it i=>exact single rfl (by simp only [V.kill];split<;>rfl)
 | _=>exact single rfl rfl
theorem EnvRep.kill {env:List V} {a:Array Value} {w:World} {I:Nat→Prop} {bl bl':Nat→Option BI} (id:Nat) (h:EnvRep env a w I bl) (hb:∀k,k≠id→bl' k=bl k):EnvRep (AF id env) a w I bl':=
 ⟨by rw [AQ];exact h.1,fun i v x hv hx=>by obtain ⟨y,hy,rfl⟩:=Bj id env i x hx;exact (h.2 i v y hv hy).kill id hb⟩
theorem OE {w:World} {I:Nat→Prop} {bl bl':Nat→Option BI} {v:Value} {id:Nat} (hb:∀k,k≠id→bl' k=bl k):∀{y:Option (Nat×Nat)},Rep w I bl v (yV y)→Rep w I bl' v (yV (Uv id y))
 | none,_=>.pure _ _ (.any _)
 | some (q,n),h=>by
   simp only [Uv]
   by_cases hq:q=id
   ·rw [if_pos hq];exact .pure _ _ (.any _)
   ·rw [if_neg hq]
    have h2:=h.kill id hb
    cases n with
    | zero=>exact h2
    | succ n=>
      simp only [yV,V.kill,if_neg hq] at h2
      exact h2
theorem ObRep.kill {w:World} {I:Nat→Prop} {bl bl':Nat→Option BI} {k:Nat} {o:Ob} (id:Nat) (h:ObRep w I bl k o) (hk:k≠id) (hb:∀k,k≠id→bl' k=bl k):ObRep w I bl' k (o.kill id):=by
 cases o with
 | row z els=>
   obtain ⟨bi,h1,h2,h3,h4⟩:=h
   refine ⟨bi,by rw [hb k hk];exact h1,h2,fun i x hx=>?_,?_⟩
   ·obtain ⟨y,hy,rfl⟩:=Bj id els i x hx
    rw [G8];exact h3 i y hy
   ·cases hbl:bi.blk with
    | none=>simp only [hbl] at h4 ⊢;subst h4;rfl
    | some b=>
      simp only [hbl] at h4 ⊢
      obtain ⟨cur,e,hg,hsz,hc⟩:=h4
      refine ⟨cur,e,hg,by rw [AQ];exact hsz,?_⟩
      intro i x j c hx hxc
      obtain ⟨y,hy,rfl⟩:=Bj id els i x hx
      obtain ⟨c',hc',rfl⟩:=G9 id y j c hxc
      obtain ⟨u,hu,h1',hr⟩:=hc i y j c' hy hc'
      exact ⟨u,hu,h1',hr.kill id hb⟩
 | iter s pos=>
   obtain ⟨b,base,z,t,h1,h2,h3,h4⟩:=h
   exact ⟨b,base,z,t,by rw [hb k hk];exact h1,h2,h3,h4⟩
 | mp es=>
   obtain ⟨b,base,z,t,h1,h2,h3,h4⟩:=h
   exact ⟨b,base,z,t,by rw [hb k hk];exact h1,h2,h3,h4⟩
 | bld T y=>
   obtain ⟨b,p,v,h1,h2,h3,h4,h5⟩:=h
   exact ⟨b,p,v,by rw [hb k hk];exact h1,h2,h3,h4,OE hb h5⟩
 | buf U s=>
   obtain ⟨blk,h1,h2⟩:=h
   exact ⟨blk,by rw [hb k hk];exact h1,h2⟩
 | hid vs l=>exact ⟨by rw [hb k hk];exact h.1,by simp [AQ,h.2.1],fun i v x hv hx=>by
    obtain ⟨y,hy,rfl⟩:=Bj id l i x hx
    exact (h.2.2 i v y hv hy).kill id hb⟩
theorem RP.replace {C:Ctx} {σ:St} {a:Act} {w:World} {I:Nat→Prop} {bl:Nat→Option BI} (hp:RP C σ a w I bl) {id:Nat} {i0:BI} (hbl:bl id=some i0) {w':World} (hl:Later I w w') (hk:Kept C.E C.W0 w') (hsize:w.heap.size≤w'.heap.size)
 (hoth:∀k i b,k≠id→bl k=some i→i.blk=some b→w'.heap[b]?=w.heap[b]?) (bi:BI)
 (hbi:∀b,bi.blk=some b→b < w'.heap.size∧¬I b∧(C.E b∨C.W0.heap.size≤b)∧∀k i b',k≠id→bl k=some i→i.blk=some b'→b'≠b) {z:Nat} {els:List V} (hob:ObRep w' I (GQ bl id bi) id (.row z els)):
 RP C { env:=AF id σ.env,heap:=(BC id σ.heap).set id (some (.row z els))} a w' I (GQ bl id bi):=by
 have hu:∀k,k≠id→GQ bl id bi k=bl k:=fun k hk=>Aa hk
 obtain ⟨o0,ho0⟩:=hp.heap.live id _ hbl
 have hid:id < (BC id σ.heap).length:=by rw [Ez];exact (List.getElem?_eq_some_iff.1 ho0).1
 refine ⟨hp.defers,(hp.env.later hl (fun _ h=>h) (fun _ _ h=>h)).kill id hu,⟨?_,?_,?_,?_,?_,hk⟩⟩
 ·intro k o ho
  by_cases hkid:k=id
  ·subst hkid
   simp only [List.getElem?_set_self hid,Option.some.injEq] at ho
   subst ho
   exact hob
  ·simp only [List.getElem?_set_ne (Ne.symm hkid)] at ho
   obtain ⟨o',ho',rfl⟩:=F2 id _ k o ho
   exact ((hp.heap.obj k o' ho').later hl (fun _ h=>h) (fun _ _ h=>h) (fun i b h1 h2=>hoth k i b hkid h1 h2) (fun h=>h)).kill id hkid hu
 ·intro k i h
  by_cases hkid:k=id
  ·subst hkid;exact ⟨.row z els,by simp only [List.getElem?_set_self hid]⟩
  ·rw [hu k hkid] at h
   obtain ⟨o,ho⟩:=hp.heap.live k i h
   exact ⟨_,by simp only [List.getElem?_set_ne (Ne.symm hkid)];exact FE id _ k o ho⟩
 ·intro k k' i i' b h1 h2 h3 h4
  by_cases hkid:k=id
  ·by_cases hkid':k'=id
   ·rw [hkid,hkid']
   ·subst hkid
    rw [AT] at h1
    simp only [Option.some.injEq] at h1
    subst h1
    rw [hu k' hkid'] at h2
    exact absurd rfl ((hbi b h3).2.2.2 k' i' b hkid' h2 h4)
  ·rw [hu k hkid] at h1
   by_cases hkid':k'=id
   ·subst hkid'
    rw [AT] at h2
    simp only [Option.some.injEq] at h2
    subst h2
    exact absurd rfl ((hbi b h4).2.2.2 k i b hkid h1 h3)
   ·rw [hu k' hkid'] at h2
    exact hp.heap.apart k k' i i' b h1 h2 h3 h4
 ·intro k i b h1 h2
  by_cases hkid:k=id
  ·subst hkid
   rw [AT] at h1
   simp only [Option.some.injEq] at h1
   subst h1
   exact ⟨(hbi b h2).1,(hbi b h2).2.1,(hbi b h2).2.2.1⟩
  ·rw [hu k hkid] at h1
   obtain ⟨h3,h4,h5⟩:=hp.heap.own k i b h1 h2
   exact ⟨by omega,h4,h5⟩
 ·intro k hk
  obtain ⟨h1,h2⟩:=hp.heap.imm k hk
  exact ⟨by omega,h2⟩
theorem RP.adopt {C:Ctx} {σ:St} {a:Act} {w:World} {I:Nat→Prop} {bl:Nat→Option BI} (hp:RP C σ a w I bl) (z:Nat):
 RP C { σ with heap:=Ag σ.heap (.row z [])} a w I (GQ bl (AG σ.heap) ⟨none,0,z⟩):=by
 have hb:∀k i,bl k=some i→GQ bl (AG σ.heap) ⟨none,0,z⟩ k=some i:=fun k i h=>by rw [Aa (hp.live_ne h)];exact h
 refine ⟨hp.defers,hp.env.later (Later.refl _ _) (fun _ h=>h) hb,⟨?_,?_,?_,?_,hp.heap.imm,hp.heap.kept⟩⟩
 ·intro id o ho
  by_cases hid:id=AG σ.heap
  ·subst hid
   rw [B9] at ho
   simp only [Option.some.injEq] at ho
   subst ho
   exact ⟨_,AT _ _ _,rfl,fun i x hx=>by simp at hx,rfl⟩
  ·simp only [Be _ _ _ hid] at ho
   exact (hp.heap.obj id o ho).later (Later.refl _ _) (fun _ h=>h) hb (fun _ _ _ _=>rfl) (fun h=>by rw [Aa hid];exact h)
 ·intro id i h
  by_cases hid:id=AG σ.heap
  ·subst hid;exact ⟨_,B9 _ _⟩
  ·rw [Aa hid] at h
   obtain ⟨o,ho⟩:=hp.heap.live id i h
   exact ⟨o,by simp only [Be _ _ _ hid];exact ho⟩
 ·intro id id' i i' b h1 h2 h3 h4
  by_cases hid:id=AG σ.heap
  ·subst hid
   rw [AT] at h1
   simp only [Option.some.injEq] at h1
   subst h1
   cases h3
  ·rw [Aa hid] at h1
   by_cases hid':id'=AG σ.heap
   ·subst hid'
    rw [AT] at h2
    simp only [Option.some.injEq] at h2
    subst h2
    cases h4
   ·rw [Aa hid'] at h2
    exact hp.heap.apart id id' i i' b h1 h2 h3 h4
 ·intro id i b h1 h2
  by_cases hid:id=AG σ.heap
  ·subst hid
   rw [AT] at h1
   simp only [Option.some.injEq] at h1
   subst h1
   cases h2
  ·rw [Aa hid] at h1
   exact hp.heap.own id i b h1 h2
def CellsOf (w:World) (I:Nat→Prop) (bl:Nat→Option BI) (z:Nat) (els:List V) (vs:List Value):Prop:=
 vs.length=els.length*z∧(∀u∈vs,u.oneCell'=true)∧(∀(i:Nat) (x:V),els[i]?=some x→x.cells.length=z)∧
  ∀(i:Nat) (x:V) (j:Nat) (c:V) (u:Value),els[i]?=some x→x.cells[j]?=some c→vs[i*z+j]?=some u→Rep w I bl u c
theorem CellsOf.append {w:World} {I:Nat→Prop} {bl:Nat→Option BI} {z:Nat} {xs ys:List V} {us vs:List Value} (h:CellsOf w I bl z xs us) (k:CellsOf w I bl z ys vs):CellsOf w I bl z (xs++ys) (us++vs):=by
 obtain ⟨h1,h2,h3,h4⟩:=h
 obtain ⟨k1,k2,k3,k4⟩:=k
 refine ⟨by simp [h1,k1,Nat.add_mul],fun u hu=>by simp at hu;exact hu.elim (h2 u) (k2 u),fun i x hx=>?_,fun i x j c u hx hc hu=>?_⟩
 ·rw [List.getElem?_append] at hx
  split at hx
  ·exact h3 i x hx
  ·exact k3 _ x hx
 ·rw [List.getElem?_append] at hx
  split at hx
  ·rename_i hi
   have hj:j < z:=by rw [←h3 i x hx];exact (List.getElem?_eq_some_iff.1 hc).1
   have hm:(i+1)*z≤xs.length*z:=Nat.mul_le_mul_right z hi
   rw [Nat.add_mul] at hm
   rw [List.getElem?_append_left (by omega)] at hu
   exact h4 i x j c u hx hc hu
  ·rename_i hi
   have hm:xs.length*z≤i*z:=Nat.mul_le_mul_right z (by omega)
   rw [List.getElem?_append_right (by omega)] at hu
   refine k4 (i - xs.length) x j c u hx hc ?_
   rw [Nat.sub_mul]
   rw [←hu]
   congr 1
   omega
theorem CellsOf.later {w w':World} {I I':Nat→Prop} {bl bl':Nat→Option BI} {z:Nat} {xs:List V} {us:List Value} (h:CellsOf w I bl z xs us) (hl:Later I w w') (hI:∀b,I b→I' b) (hb:∀k i,bl k=some i→bl' k=some i):CellsOf w' I' bl' z xs us:=
 ⟨h.1,h.2.1,h.2.2.1,fun i x j c u hx hc hu=>(h.2.2.2 i x j c u hx hc hu).later hl hI hb⟩
theorem CellsOf.kill {w:World} {I:Nat→Prop} {bl bl':Nat→Option BI} {z:Nat} {xs:List V} {us:List Value} (id:Nat) (h:CellsOf w I bl z xs us) (hb:∀k,k≠id→bl' k=bl k):CellsOf w I bl' z (AF id xs) us:=by
 refine ⟨by rw [AQ];exact h.1,h.2.1,fun i x hx=>?_,fun i x j c u hx hc hu=>?_⟩
 ·obtain ⟨y,hy,rfl⟩:=Bj id xs i x hx
  rw [G8];exact h.2.2.1 i y hy
 ·obtain ⟨y,hy,rfl⟩:=Bj id xs i x hx
  obtain ⟨c',hc',rfl⟩:=G9 id y j c hc
  exact (h.2.2.2 i y j c' u hy hc' hu).kill id hb
theorem HA {w:World} {I:Nat→Prop} {bl:Nat→Option BI} {id b base z:Nat} {els:List V} {vs:List Value} {cur:Array Value} {e:TypeId} (hbl:bl id=some ⟨some b,base,z⟩) (hg:CellsAt z w b cur e)
 (hc:CellsOf w I bl z els vs) (hsz:base+els.length*z≤cur.size) (hcur:∀p,p < vs.length→cur[base+p]?=vs[p]?):ObRep w I bl id (.row z els):=by
 refine ⟨_,hbl,rfl,hc.2.2.1,cur,e,hg,hsz,?_⟩
 intro i x j c hx hxc
 have hi:i < els.length:=(List.getElem?_eq_some_iff.1 hx).1
 have hj:j < z:=by rw [←hc.2.2.1 i x hx];exact (List.getElem?_eq_some_iff.1 hxc).1
 have hm:(i+1)*z≤els.length*z:=Nat.mul_le_mul_right z hi
 rw [Nat.add_mul] at hm
 have hlt:i*z+j < vs.length:=by rw [hc.1];omega
 refine ⟨vs[i*z+j],?_,hc.2.1 _ (List.getElem_mem hlt),hc.2.2.2 i x j c _ hx hxc (List.getElem?_eq_getElem hlt)⟩
 rw [Nat.add_assoc,hcur _ hlt]
 exact List.getElem?_eq_getElem hlt
structure Src (P:Program) (w:World) (I:Nat→Prop) (bl:Nat→Option BI) (z:Nat) (x:Value) (els:List V) (news:List Value):Prop where
 len:∀w',(Builtin.lenOf x).run P w'= .ok els.length w'
 first:∀w',w'.heap=w.heap→(Builtin.firstCells z els.length x).run P w'= .ok news.toArray w'
 cells:CellsOf w I bl z els news
theorem cell_of_heap {w w':World} (h:w'.heap=w.heap) (a:Addr):w'.cell? a=w.cell? a:=by simp [World.cell?,h]
theorem PU {P:Program} {w:World} {I:Nat→Prop} {bl:Nat→Option BI} {z b off cap:Nat} {els:List V} {news:List Value} (hn:∀p,p < news.length→w.cell? ⟨b,off+p,none⟩=news[p]?) (hc:CellsOf w I bl z els news):
 Src P w I bl z (.slice (some ⟨b,off,none⟩) els.length cap) els news:=
 ⟨fun w'=>by simp [Builtin.lenOf],fun w' hw=>run_firstCells_some (P:=P) w' z els.length ⟨b,off,none⟩ els.length cap news hc.1 (fun j v hv=>by
   rw [Addr.add_lit,cell_of_heap hw,hn j (List.getElem?_eq_some_iff.1 hv).1];exact hv),hc⟩
theorem F4 {P:Program} {w:World} {I:Nat→Prop} {bl:Nat→Option BI} {z:Nat} (a:Option Addr) (cap:Nat):Src P w I bl z (.slice a 0 cap) [] []:=by
 refine ⟨fun w'=>by simp [Builtin.lenOf],fun w' _=>?_,⟨by simp,by simp,by simp,by simp⟩⟩
 cases a with
 | none=>simp [Builtin.firstCells]
 | some a=>simp [Builtin.firstCells,loadCells,loadCellsFrom]
theorem Uz {P:Program} {w:World} {I:Nat→Prop} {bl:Nat→Option BI} {z:Nat} {x:Value} {l:List V} (h:Rep w I bl x (.lst l)) (hz:∀y∈l,y.cells.length=z):∃news,Src P w I bl z x l news:=by
 obtain ⟨hm,hc⟩:=h.inv_lst
 rcases hc with ⟨rfl,a,cap,rfl⟩|⟨b,off,cap,z',u,hI,h1,h2,rfl,h4,h5,h6,h7⟩
 ·exact ⟨_,F4 a cap⟩
 ·by_cases hl:l=[]
  ·subst hl
   exact ⟨_,F4 _ cap⟩
  ·have hzz:z'=z:=by
    obtain ⟨y,hy⟩:=List.exists_mem_of_ne_nil l hl
    obtain ⟨i,hi⟩:=List.mem_iff_getElem?.1 hy
    rw [←h4 i y hi,hz y hy]
   subst hzz
   by_cases hz0:z'=0
   ·subst hz0
    refine ⟨[],PU (by simp) ⟨by simp,by simp,h4,by simp⟩⟩
   ·have hz0:0 < z':=by omega
    refine ⟨(List.range (l.length*z')).map fun p=>u (p / z') (p % z'),PU (fun p hp=>?_) ⟨by simp,fun v hv=>?_,h4,fun i y j c v hy hc hv=>?_⟩⟩
    ·simp only [List.length_map,List.length_range] at hp
     have hq:p / z' < l.length:=by rw [Nat.div_lt_iff_lt_mul hz0];exact hp
     have:=h5 (p / z') (p % z') hq (Nat.mod_lt _ hz0)
     rw [Nat.add_assoc,Nat.mul_comm,Nat.div_add_mod] at this
     simp [hp,this]
    ·simp only [List.mem_map] at hv
     obtain ⟨p,_,rfl⟩:=hv
     exact h6 _ _
    ·have hj:j < z':=by rw [←h4 i y hy];exact (List.getElem?_eq_some_iff.1 hc).1
     have hi:i < l.length:=(List.getElem?_eq_some_iff.1 hy).1
     have hmm:(i+1)*z'≤l.length*z':=Nat.mul_le_mul_right z' hi
     rw [Nat.add_mul] at hmm
     have hlt:i*z'+j < l.length*z':=by omega
     simp only [List.getElem?_map,List.getElem?_range hlt,Option.map_some,Option.some.injEq] at hv
     have e1:(i*z'+j) / z'=i:=by rw [Nat.mul_comm,Nat.mul_add_div hz0,Nat.div_eq_of_lt hj,Nat.add_zero]
     have e2:(i*z'+j) % z'=j:=by rw [Nat.mul_comm,Nat.mul_add_mod,Nat.mod_eq_of_lt hj]
     rw [e1,e2] at hv
     subst hv
     exact .pure _ _ (h7 i y j c hy hc)
theorem I4 {C:Ctx} {σ:St} {a:Act} {w:World} {I:Nat→Prop} {bl:Nat→Option BI} (hp:RP C σ a w I bl) {id b base z z' off n:Nat} {els:List V} (hrow:σ.row id=some (z,els)) (hbl:bl id=some ⟨some b,base,z'⟩) (hn:off+n≤els.length):
 ∃cur e,z'=z∧CellsAt z w b cur e∧base+els.length*z≤cur.size∧CellsOf w I bl z ((els.drop off).take n) ((cur.toList.drop (base+off*z)).take (n*z)):=by
 obtain ⟨bi,h1,h2,h3,h4⟩:=hp.heap.obj id _ (Dh hrow)
 rw [hbl] at h1
 simp only [Option.some.injEq] at h1
 subst h1
 simp only at h2 h4
 subst h2
 obtain ⟨cur,e,hg,hsz,hcell⟩:=h4
 refine ⟨cur,e,rfl,hg,hsz,?_⟩
 have hm:(off+n)*z'≤els.length*z':=Nat.mul_le_mul_right z' hn
 rw [Nat.add_mul] at hm
 have hlen:((cur.toList.drop (base+off*z')).take (n*z')).length=n*z':=by simp;omega
 have hget:∀(i:Nat) (x:V),((els.drop off).take n)[i]?=some x→i < n∧els[off+i]?=some x:=by
  intro i x hx
  rw [List.getElem?_take] at hx
  split at hx
  ·rename_i hi;rw [List.getElem?_drop] at hx;exact ⟨hi,hx⟩
  ·simp at hx
 have hat:∀(i:Nat) (x:V) (j:Nat) (c:V) (u:Value),((els.drop off).take n)[i]?=some x→x.cells[j]?=some c→((cur.toList.drop (base+off*z')).take (n*z'))[i*z'+j]?=some u→u.oneCell'=true∧Rep w I bl u c:=by
  intro i x j c u hx hc hu
  obtain ⟨hi,hx'⟩:=hget i x hx
  rw [List.getElem?_take] at hu
  split at hu
  ·rw [List.getElem?_drop] at hu
   obtain ⟨u',hu',h1',hr⟩:=hcell (off+i) x j c hx' hc
   rw [Nat.add_mul] at hu'
   have e1:base+off*z'+(i*z'+j)=base+(off*z'+i*z')+j:=by omega
   rw [e1,Array.getElem?_toList,hu'] at hu
   simp only [Option.some.injEq] at hu
   subst hu
   exact ⟨h1',hr⟩
  ·simp at hu
 refine ⟨by rw [hlen];congr 1;simp;omega,fun u hu=>?_,fun i x hx=>h3 _ x (hget i x hx).2,fun i x j c u hx hc hu=>(hat i x j c u hx hc hu).2⟩
 obtain ⟨p,hp'⟩:=List.mem_iff_getElem?.1 hu
 have hlt:p < n*z':=by rw [←hlen];exact (List.getElem?_eq_some_iff.1 hp').1
 have hz0:0 < z':=by
  rcases Nat.eq_zero_or_pos z' with e0|h0
  ·rw [e0] at hlt;simp at hlt
  ·exact h0
 have hq:p / z' < n:=by rw [Nat.div_lt_iff_lt_mul hz0];exact hlt
 have hx:((els.drop off).take n)[p / z']?=some (els[off+p / z']'(by omega)):=by
  rw [List.getElem?_take,if_pos hq,List.getElem?_drop,List.getElem?_eq_getElem]
 have hcz:=h3 _ _ (hget _ _ hx).2
 have hj:p % z' < (els[off+p / z']'(by omega)).cells.length:=by rw [hcz];exact Nat.mod_lt _ hz0
 exact (hat (p / z') _ (p % z') _ u hx (List.getElem?_eq_getElem hj) (by rw [Nat.mul_comm (p / z') z',Nat.div_add_mod];exact hp')).1
theorem PV {P:Program} {C:Ctx} {σ:St} {a:Act} {w:World} {I:Nat→Prop} {bl:Nat→Option BI} (hp:RP C σ a w I bl) {x:Value} {id z off n:Nat} {els:List V} (h:Rep w I bl x (.sl id off n)) (hrow:σ.row id=some (z,els)) (hn:off+n≤els.length):
 ∃news,Src P w I bl z x ((els.drop off).take n) news:=by
 rcases h.inv_sl with ⟨_,_,_,rfl,rfl,rfl⟩|⟨p,i,hbl,rfl,rfl⟩|⟨cap,b,base,z',m,e',hbl,hs,hsz,hlc,hcm,rfl⟩
 ·simp only [List.take_zero];exact ⟨_,F4 _ _⟩
 ·simp only [List.take_zero];exact ⟨_,F4 _ _⟩
 ·obtain ⟨cur,e,rfl,hg,hsz',hc⟩:=I4 hp hrow hbl hn
  have hlen:((els.drop off).take n).length=n:=by simp;omega
  refine ⟨(cur.toList.drop (base+off*z')).take (n*z'),?_⟩
  have:=PU (P:=P) (b:=b) (off:=base+off*z') (cap:=cap) (news:=(cur.toList.drop (base+off*z')).take (n*z')) (fun p hp'=>by
   rw [hg.cell,List.getElem?_take,List.getElem?_drop]
   have:p < n*z':=by simp at hp';omega
   rw [if_pos this];simp) hc
  rw [hlen] at this
  exact this
theorem U0 {P:Program} {w:World} {I:Nat→Prop} {bl:Nat→Option BI} (s:ByteArray):Src P w I bl 1 (.string s) (s.data.toList.map fun c=>.int .u8 c.toNat) (s.data.toList.map fun c=>.int .u8 c.toNat):=by
 have hl:(s.data.toList.map fun c=>V.int .u8 (c.toNat:Int)).length=s.size:=by simp
 refine ⟨fun w'=>by rw [hl];simp [Builtin.lenOf],fun w' _=>?_,⟨by simp,fun u hu=>?_,fun i x hx=>?_,fun i x j c u hx hc hu=>?_⟩⟩
 ·rw [hl]
  simp only [Builtin.firstCells,Sem.run_pure]
  congr 1
  apply Array.ext'
  simp
 ·simp only [List.mem_map] at hu
  obtain ⟨c,_,rfl⟩:=hu
  rfl
 ·simp only [List.getElem?_map] at hx
  cases hc:s.data.toList[i]? with
  | none=>simp [hc] at hx
  | some c=>simp [hc] at hx;subst hx;rfl
 ·simp only [List.getElem?_map] at hx hu
  cases hs:s.data.toList[i]? with
  | none=>simp [hs] at hx
  | some b=>
    simp [hs] at hx
    subst hx
    cases j with
    | succ j=>simp [V.cells] at hc
    | zero=>
      simp [V.cells] at hc
      subst hc
      simp [hs] at hu
      subst hu
      exact .pure _ _ (.int _ _)
end Go.Proofs.YtkaiffheakalmaaGreatDoor
