/- Joined. No conditions. -/
import Derived.Test.YtkaiffheakalmaaGreatDoorJ9ab
import Derived.Room.Entries
set_option linter.unusedSimpArgs false
set_option linter.unusedVariables false
set_option maxRecDepth 100000
namespace Go.Proofs.YtkaiffheakalmaaGreatDoor
open Go.RowKit
def AG:List (Option Ob)→Nat
 | []=>0
 | none::_=>0
 | some _::r=>AG r+1
def Ag:List (Option Ob)→Ob→List (Option Ob)
 | [],o=>[some o]
 | none::r,o=>some o::r
 | some x::r,o=>some x::Ag r o
theorem B9:∀(h:List (Option Ob)) (o:Ob),(Ag h o)[AG h]?=some (some o)
 | [],_=>rfl
 | none::_,_=>rfl
 | some _::r,o=>by simpa [Ag,AG] using B9 r o
theorem Be:∀(h:List (Option Ob)) (o:Ob) (k:Nat),k≠AG h→(Ag h o)[k]?=h[k]?
 | [],o,k,hk=>by
   cases k with
   | zero=>exact absurd rfl hk
   | succ k=>simp [Ag]
 | none::r,o,k,hk=>by
   cases k with
   | zero=>exact absurd rfl hk
   | succ k=>simp [Ag]
 | some x::r,o,k,hk=>by
   cases k with
   | zero=>simp [Ag]
   | succ k=>
     simp only [Ag,List.getElem?_cons_succ]
     exact Be r o k (fun e=>hk (by simp [AG,e]))
theorem IP:∀(h:List (Option Ob)) (o:Ob),¬h[AG h]?=some (some o)
 | [],o=>by simp
 | none::_,o=>by simp [AG]
 | some _::r,o=>by simpa [AG] using IP r o
def GQ (bl:Nat→Option BI) (id:Nat) (i:BI):Nat→Option BI:=fun k=>if k=id then some i else bl k
theorem AT (bl:Nat→Option BI) (id:Nat) (i:BI):GQ bl id i id=some i:=if_pos rfl
theorem Aa {bl:Nat→Option BI} {id k:Nat} {i:BI} (h:k≠id):GQ bl id i k=bl k:=if_neg h
theorem RP.fresh_none {C:Ctx} {σ:St} {a:Act} {w:World} {I:Nat→Prop} {bl:Nat→Option BI} (hp:RP C σ a w I bl):bl (AG σ.heap)=none:=by
 cases h:bl (AG σ.heap) with
 | none=>rfl
 | some i=>
   obtain ⟨o,ho⟩:=hp.heap.live _ _ h
   exact absurd ho (IP _ _)
theorem RP.live_ne {C:Ctx} {σ:St} {a:Act} {w:World} {I:Nat→Prop} {bl:Nat→Option BI} (hp:RP C σ a w I bl) {id:Nat} {i:BI} (h:bl id=some i):id≠AG σ.heap:=by
 intro e
 rw [e,hp.fresh_none] at h
 cases h
theorem ObRep.later {w w':World} {I I':Nat→Prop} {bl bl':Nat→Option BI} {id:Nat} {o:Ob} (h:ObRep w I bl id o) (hl:Later I w w') (hI:∀b,I b→I' b) (hb:∀k i,bl k=some i→bl' k=some i)
 (hown:∀i b,bl id=some i→i.blk=some b→w'.heap[b]?=w.heap[b]?) (hn:bl id=none→bl' id=none):ObRep w' I' bl' id o:=by
 cases o with
 | row z els=>
   obtain ⟨bi,h1,h2,h3,h4⟩:=h
   refine ⟨bi,hb _ _ h1,h2,h3,?_⟩
   cases hbl:bi.blk with
   | none=>simp only [hbl] at h4 ⊢;exact h4
   | some b=>
     simp only [hbl] at h4 ⊢
     obtain ⟨cur,e,hg,hsz,hc⟩:=h4
     refine ⟨cur,e,hg.heap (hown bi b h1 hbl),hsz,?_⟩
     intro i x j c hx hxc
     obtain ⟨u,hu,h1',hr⟩:=hc i x j c hx hxc
     exact ⟨u,hu,h1',hr.later hl hI hb⟩
 | iter s pos=>
   obtain ⟨b,base,z,t,h1,h2,h3,h4⟩:=h
   exact ⟨b,base,z,t,hb _ _ h1,by rw [hown _ b h1 rfl];exact h2,h3,h4⟩
 | mp es=>
   obtain ⟨b,base,z,t,h1,h2,h3,h4⟩:=h
   exact ⟨b,base,z,t,hb _ _ h1,by rw [hown _ b h1 rfl];exact h2,h3,h4⟩
 | bld T y=>
   obtain ⟨b,p,v,h1,h2,h3,h4,h5⟩:=h
   exact ⟨b,p,v,hb _ _ h1,by rw [hown _ b h1 rfl];exact h2,h3,h4,h5.later hl hI hb⟩
 | buf U s=>
   obtain ⟨blk,h1,h2⟩:=h
   refine ⟨blk,hb _ _ h1,?_⟩
   cases blk with
   | none=>exact h2
   | some g=>
     obtain ⟨cur,h3,h4⟩:=h2
     exact ⟨cur,by rw [hown _ g h1 rfl];exact h3,h4⟩
 | hid vs l=>exact ⟨hn h.1,h.2.1,fun i v x hv hx=>(h.2.2 i v x hv hx).later hl hI hb⟩
theorem EnvRep.later {env:List V} {a:Array Value} {w w':World} {I I':Nat→Prop} {bl bl':Nat→Option BI} (h:EnvRep env a w I bl) (hl:Later I w w') (hI:∀b,I b→I' b) (hb:∀k i,bl k=some i→bl' k=some i):EnvRep env a w' I' bl':=
 ⟨h.1,fun i v x hv hx=>(h.2 i v x hv hx).later hl hI hb⟩
theorem BE (w:World) (o:Obj) (k:Nat) (h:k < w.heap.size):(w.alloc o).heap[k]?=w.heap[k]?:=Below.heap_alloc w o k h
theorem CF {w w':World} {b:Nat} (h:w'.heap[b]?=w.heap[b]?):w'.shape? b=w.shape? b:=by simp [World.shape?,h]
theorem EW (I:Nat→Prop) (w:World) (o:Obj) (hI:∀b,I b→b < w.heap.size):Later I w (w.alloc o):=by
 refine ⟨fun b hb=>BE w o b (hI b hb),fun b s hs=>?_⟩
 have hlt:b < w.heap.size:=by
  unfold World.shape? at hs
  split at hs
  ·rename_i h
   exact (Array.getElem?_eq_some_iff.1 h).1
  ·cases hs
 rw [CF (BE w o b hlt)]
 exact hs
theorem Kept.alloc {E:Nat→Prop} {w0 w:World} (h:Kept E w0 w) (o:Obj):Kept E w0 (w.alloc o):=
 h.trans ⟨rfl,rfl,rfl,by simp,fun k hk _=>BE w o k hk,(EW (fun _=>False) w o (fun _ h=>h.elim)).shape⟩
theorem Kept.drew {E:Nat→Prop} {w0 w:World} (h:Kept E w0 w):Kept E w0 w.drew:=h.trans ⟨rfl,rfl,rfl,Nat.le_refl _,fun _ _ _=>rfl,fun _ _ h=>h⟩
theorem RP.drew {C:Ctx} {σ:St} {a:Act} {w:World} {I:Nat→Prop} {bl:Nat→Option BI} (hp:RP C σ a w I bl):RP C σ a w.drew I bl:=by
 have hl:Later I w w.drew:=⟨fun _ _=>rfl,fun _ _ h=>h⟩
 exact ⟨hp.defers,hp.env.later hl (fun _ h=>h) (fun _ _ h=>h),⟨fun id o h=>(hp.heap.obj id o h).later hl (fun _ h=>h) (fun _ _ h=>h) (fun _ _ _ _=>rfl) (fun h=>h),hp.heap.live,hp.heap.apart,hp.heap.own,hp.heap.imm,hp.heap.kept.drew⟩⟩
theorem RP.alloc {C:Ctx} {σ:St} {a:Act} {w:World} {I:Nat→Prop} {bl:Nat→Option BI} (hp:RP C σ a w I bl) (cur:Array Value) (e:TypeId) (z:Nat) (els:List V)
 (hz:∀(i:Nat) (x:V),els[i]?=some x→x.cells.length=z) (hlen:els.length*z≤cur.size)
 (hcell:∀(i:Nat) (x:V) (j:Nat) (c:V),els[i]?=some x→x.cells[j]?=some c→∃u,cur[i*z+j]?=some u∧u.oneCell'=true∧Rep w I bl u c):
 RP C { σ with heap:=Ag σ.heap (.row z els)} a (w.alloc (.cells cur e)) I (GQ bl (AG σ.heap) ⟨some w.heap.size,0,z⟩):=by
 have hl:=EW I w (.cells cur e) (fun b hb=>(hp.heap.imm b hb).1)
 have hb:∀k i,bl k=some i→GQ bl (AG σ.heap) ⟨some w.heap.size,0,z⟩ k=some i:=fun k i h=>by rw [Aa (hp.live_ne h)];exact h
 refine ⟨hp.defers,hp.env.later hl (fun _ h=>h) hb,⟨?_,?_,?_,?_,?_,hp.heap.kept.alloc _⟩⟩
 ·intro id o ho
  by_cases hid:id=AG σ.heap
  ·subst hid
   rw [B9] at ho
   simp only [Option.some.injEq] at ho
   subst ho
   refine ⟨_,AT _ _ _,rfl,hz,?_⟩
   refine ⟨cur,e,.of (heap_alloc_new w _),by simpa using hlen,?_⟩
   intro i x j c hx hc
   obtain ⟨u,hu,h1,hr⟩:=hcell i x j c hx hc
   exact ⟨u,by simpa using hu,h1,hr.later hl (fun _ h=>h) hb⟩
  ·simp only [Be _ _ _ hid] at ho
   refine (hp.heap.obj id o ho).later hl (fun _ h=>h) hb ?_ (fun h=>by rw [Aa hid];exact h)
   intro i b h1 h2
   exact BE w _ b (hp.heap.own id i b h1 h2).1
 ·intro id i h
  by_cases hid:id=AG σ.heap
  ·subst hid;exact ⟨_,B9 _ _⟩
  ·rw [Aa hid] at h
   obtain ⟨o,ho⟩:=hp.heap.live id i h
   exact ⟨o,by simp only [Be _ _ _ hid];exact ho⟩
 ·intro id id' i i' b h1 h2 h3 h4
  by_cases hid:id=AG σ.heap
  ·by_cases hid':id'=AG σ.heap
   ·rw [hid,hid']
   ·subst hid
    rw [AT] at h1
    simp only [Option.some.injEq] at h1
    subst h1
    simp only [Option.some.injEq] at h3
    rw [Aa hid'] at h2
    have:=(hp.heap.own id' i' b h2 h4).1
    omega
  ·rw [Aa hid] at h1
   by_cases hid':id'=AG σ.heap
   ·subst hid'
    rw [AT] at h2
    simp only [Option.some.injEq] at h2
    subst h2
    simp only [Option.some.injEq] at h4
    have:=(hp.heap.own id i b h1 h3).1
    omega
   ·rw [Aa hid'] at h2
    exact hp.heap.apart id id' i i' b h1 h2 h3 h4
 ·intro id i b h1 h2
  by_cases hid:id=AG σ.heap
  ·subst hid
   rw [AT] at h1
   simp only [Option.some.injEq] at h1
   subst h1
   simp only [Option.some.injEq] at h2
   subst h2
   refine ⟨by simp,fun h=>?_,.inr hp.heap.kept.size⟩
   have:=(hp.heap.imm _ h).1
   omega
  ·rw [Aa hid] at h1
   obtain ⟨h3,h4,h5⟩:=hp.heap.own id i b h1 h2
   exact ⟨by simp;omega,h4,h5⟩
 ·intro k hk
  obtain ⟨h1,h2⟩:=hp.heap.imm k hk
  exact ⟨by simp;omega,h2⟩
theorem Ey {I:Nat→Prop} {w:World} {b:Nat} {cur cur':Array Value} {e:TypeId} {fr:Nat×Nat} (hg:w.heap[b]?=some (.cells cur e fr)) (hsz:cur'.size=cur.size) (hI:¬I b):Later I w (w.setRow b cur'):=by
 refine ⟨fun k hk=>setRow_other w b k cur' (fun e=>hI (e▸hk)),fun k s hs=>?_⟩
 by_cases hk:k=b
 ·subst hk
  simp only [World.shape?,hg] at hs
  simp only [World.shape?,setRow_heap w k cur cur' e fr hg,hsz]
  exact hs
 ·rw [CF (setRow_other w b k cur' hk)]
  exact hs
theorem DY (w:World) (b:Nat) (cs:Array Value):(w.setRow b cs).heap.size=w.heap.size:=by simp [World.setRow]
theorem Kept.setRow {E:Nat→Prop} {w0 w:World} (h:Kept E w0 w) {b:Nat} (hb:E b∨w0.heap.size≤b) {cur:Array Value} {e:TypeId} {fr:Nat×Nat} (hg:w.heap[b]?=some (.cells cur e fr)) {cs:Array Value} (hsz:cs.size=cur.size):Kept E w0 (w.setRow b cs):=by
 refine ⟨h.os,h.tape,h.output,by rw [DY];exact h.size,fun k hk hE=>?_,fun k s hs=>(Ey (I:=fun _=>False) hg hsz (fun h=>h)).shape k s (h.shape k s hs)⟩
 rw [setRow_other w b k cs (fun e=>by subst e;exact hb.elim hE (fun hb=>by omega))]
 exact h.block k hk hE
theorem RP.write {C:Ctx} {σ:St} {a:Act} {w:World} {I:Nat→Prop} {bl:Nat→Option BI} (hp:RP C σ a w I bl) {id b base z:Nat} (hbl:bl id=some ⟨some b,base,z⟩) {cur:Array Value} {e:TypeId} (hgc:CellsAt z w b cur e)
 (cur':Array Value) (hsz:cur'.size=cur.size) (els':List V) (hz:∀(i:Nat) (x:V),els'[i]?=some x→x.cells.length=z) (hlen:base+els'.length*z≤cur'.size)
 (hcell:∀(i:Nat) (x:V) (j:Nat) (c:V),els'[i]?=some x→x.cells[j]?=some c→∃u,cur'[base+i*z+j]?=some u∧u.oneCell'=true∧Rep w I bl u c):
 RP C { σ with heap:=σ.heap.set id (some (.row z els'))} a (w.setRow b cur') I bl:=by
 obtain ⟨hb1,hb2,hb3⟩:=hp.heap.own id _ b hbl rfl
 obtain ⟨fz,hfz,hg⟩:=hgc
 have hl:=Ey (I:=I) hg hsz hb2
 obtain ⟨o0,ho0⟩:=hp.heap.live id _ hbl
 have hid:id < σ.heap.length:=(List.getElem?_eq_some_iff.1 ho0).1
 refine ⟨hp.defers,hp.env.later hl (fun _ h=>h) (fun _ _ h=>h),⟨?_,?_,hp.heap.apart,?_,?_,hp.heap.kept.setRow hb3 hg hsz⟩⟩
 ·intro k o ho
  by_cases hk:k=id
  ·subst hk
   simp only [List.getElem?_set_self hid,Option.some.injEq] at ho
   subst ho
   refine ⟨_,hbl,rfl,hz,cur',e,CellsAt.setRow ⟨fz,hfz,hg⟩ hsz,hlen,?_⟩
   intro i x j c hx hc
   obtain ⟨u,hu,h1,hr⟩:=hcell i x j c hx hc
   exact ⟨u,hu,h1,hr.later hl (fun _ h=>h) (fun _ _ h=>h)⟩
  ·simp only [List.getElem?_set_ne (Ne.symm hk)] at ho
   refine (hp.heap.obj k o ho).later hl (fun _ h=>h) (fun _ _ h=>h) ?_ (fun h=>h)
   intro i b' h1 h2
   refine setRow_other w b b' cur' (fun e=>hk ?_)
   subst e
   exact hp.heap.apart k id i _ b' h1 hbl h2 rfl
 ·intro k i h
  by_cases hk:k=id
  ·subst hk;exact ⟨.row z els',by simp only [List.getElem?_set_self hid]⟩
  ·obtain ⟨o,ho⟩:=hp.heap.live k i h
   exact ⟨o,by simp only [List.getElem?_set_ne (Ne.symm hk)];exact ho⟩
 ·intro k i b' h1 h2
  obtain ⟨h3,h4,h5⟩:=hp.heap.own k i b' h1 h2
  exact ⟨by rw [DY];exact h3,h4,h5⟩
 ·intro k hk
  obtain ⟨h1,h2⟩:=hp.heap.imm k hk
  exact ⟨by rw [DY];exact h1,h2⟩
def V.one:V→Bool
 | .any=>false
 | .tup _=>false
 | _=>true
theorem YB {w:World} {I:Nat→Prop} {bl:Nat→Option BI} {u:Value} {c:V} (h:Rep w I bl u c) (h1:u.oneCell'=true):c.cells=[c]:=by
 cases c with
 | agg l=>
   obtain ⟨vs,rfl,_⟩:=h.inv_agg
   simp [Value.oneCell'] at h1
 | _=>rfl
theorem Jy {w:World} {I:Nat→Prop} {bl:Nat→Option BI} {v:Value} {x:V} (h:Rep w I bl v x) (h1:x.one=true):
 v.cells.toList.length=x.cells.length∧(∀u∈v.cells.toList,u.oneCell'=true)∧∀(j:Nat) (u:Value) (c:V),v.cells.toList[j]?=some u→x.cells[j]?=some c→Rep w I bl u c:=by
 have single:(∀cs,v≠.agg cs)→v.oneCell'=true→(∀l,x≠.agg l)→v.cells.toList.length=x.cells.length∧(∀u∈v.cells.toList,u.oneCell'=true)∧∀(j:Nat) (u:Value) (c:V),v.cells.toList[j]?=some u→x.cells[j]?=some c→Rep w I bl u c:=by
  intro hv hone hx
  have e1:v.cells=#[v]:=by cases v<;>first|rfl|exact absurd rfl (hv _)
  have e2:x.cells=[x]:=by cases x<;>first|rfl|exact absurd rfl (hx _)
  rw [e1,e2]
  refine ⟨rfl,fun u hu=>by simp at hu;subst hu;exact hone,fun j u c hu hc=>?_⟩
  cases j with
  | zero=>simp at hu hc;subst hu;subst hc;exact h
  | succ j=>simp at hu
 cases x with
 | any=>simp [V.one] at h1
 | tup l=>simp [V.one] at h1
 | agg l=>
   obtain ⟨vs,rfl,hl,ho,hr⟩:=h.inv_agg
   exact ⟨by simpa [Value.cells,V.cells] using hl,fun u hu=>ho u (by simpa [Value.cells] using hu),fun j u c hu hc=>hr j u c (by simpa [Value.cells] using hu) hc⟩
 | bool b=>rw [h.inv_bool];exact h.inv_bool▸single (by rw [h.inv_bool];intro cs e;cases e) (by rw [h.inv_bool];rfl) (fun l e=>by cases e)
 | int k n=>exact h.inv_int▸single (by rw [h.inv_int];intro cs e;cases e) (by rw [h.inv_int];rfl) (fun l e=>by cases e)
 | str s=>obtain ⟨t,rfl,_⟩:=h.inv_str;exact single (fun cs e=>by cases e) rfl (fun l e=>by cases e)
 | nils=>exact h.inv_nils▸single (by rw [h.inv_nils];intro cs e;cases e) (by rw [h.inv_nils];rfl) (fun l e=>by cases e)
 | nilp=>exact h.inv_nilp▸single (by rw [h.inv_nilp];intro cs e;cases e) (by rw [h.inv_nilp];rfl) (fun l e=>by cases e)
 | nili=>exact h.inv_nili▸single (by rw [h.inv_nili];intro cs e;cases e) (by rw [h.inv_nili];rfl) (fun l e=>by cases e)
 | ifi t k n=>exact h.inv_ifi▸single (by rw [h.inv_ifi];intro cs e;cases e) (by rw [h.inv_ifi];rfl) (fun l e=>by cases e)
 | ifx=>obtain ⟨t,u,rfl⟩:=h.inv_ifx;exact single (fun cs e=>by cases e) rfl (fun l e=>by cases e)
 | gp g=>have e:=h.inv_gp;subst e;exact single (fun cs e=>by cases e) rfl (fun l e=>by cases e)
 | gsl g n=>have e:=h.inv_gsl.1;subst e;exact single (fun cs e=>by cases e) rfl (fun l e=>by cases e)
 | lst l=>
   obtain ⟨_,hc⟩:=h.inv_lst
   rcases hc with ⟨_,p,cap,rfl⟩|⟨b,off,cap,z,u,_,_,_,rfl,_⟩
   ·exact single (fun cs e=>by cases e) rfl (fun l e=>by cases e)
   ·exact single (fun cs e=>by cases e) rfl (fun l e=>by cases e)
 | rp l=>obtain ⟨b,o',u,hI,rfl,_⟩:=h.inv_rp;exact single (fun cs e=>by cases e) rfl (fun l e=>by cases e)
 | fn f l=>obtain ⟨vs,rfl,_⟩:=h.inv_fn;exact single (fun cs e=>by cases e) rfl (fun l e=>by cases e)
 | sl id off n=>obtain ⟨_,p,cap,rfl⟩:=Ln h;exact single (fun cs e=>by cases e) rfl (fun l e=>by cases e)
 | ptr id i j=>obtain ⟨b,base,z',m',e',hbl,hs,rfl⟩:=h.inv_ptr;exact single (fun cs e=>by cases e) rfl (fun l e=>by cases e)
 | it id=>obtain ⟨b,base,z',hbl,rfl⟩:=h.inv_it;cases base<;>exact single (fun cs e=>by cases e) rfl (fun l e=>by cases e)
def V.setCells (x:V) (j:Nat) (cs:List V):V:=
 match x with
 | .agg l=>.agg (l.take j++cs++l.drop (j+cs.length))
 | _=>cs.headD .any
theorem Hl {α:Type} (l vs:List α) (o p:Nat) (h:o+vs.length≤l.length):(l.take o++vs++l.drop (o+vs.length))[p]?=if p < o then l[p]? else if p < o+vs.length then vs[p - o]? else l[p]?:=by
 have hlo:(l.take o).length=o:=by simp;omega
 rw [List.append_assoc,List.getElem?_append]
 rw [hlo]
 split
 ·rename_i hp;rw [List.getElem?_take,if_pos hp]
 ·rename_i hp
  rw [List.getElem?_append]
  split
  ·rename_i hq
   rw [if_pos (by omega)]
  ·rename_i hq
   rw [if_neg (by omega),List.getElem?_drop]
   congr 1
   omega
theorem FD {w:World} {I:Nat→Prop} {bl:Nat→Option BI} {x:V} {j n:Nat} {cs:List V} {vs:List Value} (hn:cs.length=n) (h0:n≠0) (hj:j+n≤x.cells.length) (hl:vs.length=cs.length) (h1:∀u∈vs,u.oneCell'=true)
 (hr:∀(j:Nat) (u:Value) (c:V),vs[j]?=some u→cs[j]?=some c→Rep w I bl u c) (p:Nat):(x.setCells j cs).cells[p]?=if p < j then x.cells[p]? else if p < j+n then cs[p - j]? else x.cells[p]?:=by
 subst hn
 have other:(∀l,x≠.agg l)→(x.setCells j cs).cells[p]?=if p < j then x.cells[p]? else if p < j+cs.length then cs[p - j]? else x.cells[p]?:=by
  intro hx
  have e1:x.cells=[x]:=by cases x<;>first|rfl|exact absurd rfl (hx _)
  have e2:x.setCells j cs=cs.headD .any:=by cases x<;>first|rfl|exact absurd rfl (hx _)
  rw [e1] at hj
  simp only [List.length_cons,List.length_nil] at hj
  have hj0:j=0:=by omega
  have hc1:cs.length=1:=by omega
  match cs,hc1 with
  | [c],_=>
    match vs,hl with
    | [u],_=>
      have:=YB (hr 0 u c rfl rfl) (h1 u (by simp))
      rw [e2,e1]
      show c.cells[p]?=_
      rw [this]
      subst hj0
      cases p with
      | zero=>rfl
      | succ p=>simp
 cases x with
 | agg l=>
   simp only [V.setCells,V.cells] at hj ⊢
   exact Hl l cs j p hj
 | _=>exact other (fun l e=>by cases e)
theorem WD {i i' z j k:Nat} (h:i'≠i) (hj:j < z) (hk:k≤z):i'*z+j < i*z∨i*z+k≤i'*z+j:=by
 rcases Nat.lt_or_gt_of_ne h with h|h
 ·left
  have:(i'+1)*z≤i*z:=Nat.mul_le_mul_right z h
  rw [Nat.add_mul] at this
  omega
 ·right
  have:(i+1)*z≤i'*z:=Nat.mul_le_mul_right z h
  rw [Nat.add_mul] at this
  omega
def Lo (C:Ctx) (t:TypeId) (p v:V) (K:V→St→Prop) (σ:St):Prop:=
 match TI C.P t with
 | some (_,n)=>v.one=true∧v.cells.length=n∧n≠0∧match p with
   | .ptr id i j=>match σ.row id with
     | some (z,els)=>∃x,els[i]?=some x∧j+n≤x.cells.length∧K .any { σ with heap:=σ.heap.set id (some (.row z (els.set i (x.setCells j v.cells))))}
     | none=>False
   | _=>False
 | none=>False
theorem OD {C:Ctx} {o:Oper} {σ:St} {K:V→St→Prop}
 (h:∀a w I bl,RP C σ a w I bl→∃w' σ',(execOp a.eval o).run C.P w= .ok .skip w'∧K .any σ'∧Rel C σ' a w'):Bc C o σ K:=by
 intro a w hr next Q hn
 obtain ⟨I,bl,hp⟩:=hr.parts
 obtain ⟨w',σ',h1,h2,h3⟩:=h a w I bl hp
 rw [h1]
 obtain ⟨I',bl',hp'⟩:=h3.parts
 exact hn undef w' .any σ' h2 (hp'.relx (.pure _ _ (.any _)))
theorem YC {C:Ctx} {o:Oper} {σ:St} {K:V→St→Prop} {t:TypeId} {x y:Operand} (ho:o.op= .store t x y) (h:Lo C t (σ.val x) (σ.val y) K σ):Bc C o σ K:=by
 unfold Lo at h
 split at h
 ·rename_i bb n hti
  obtain ⟨h1,hn,h0,h⟩:=h
  split at h
  ·rename_i id i j hx
   split at h
   ·rename_i z els hrow
    obtain ⟨xo,hxo,hj,hk⟩:=h
    refine OD fun a w I bl hp=>?_
    have hv:=hp.val x
    rw [hx] at hv
    obtain ⟨b,base,z',m,e,hbl,hs,hv⟩:=hv.inv_ptr
    obtain ⟨hl,hone,hr⟩:=Jy (hp.val y) h1
    obtain ⟨bi,hb1,hb2,hb3,hb4⟩:=hp.heap.obj id _ (Dh hrow)
    rw [hbl] at hb1
    simp only [Option.some.injEq] at hb1
    subst hb1
    simp only at hb2 hb4
    subst hb2
    obtain ⟨cur,e',hg,hsz,hcell⟩:=hb4
    have hil:i < els.length:=(List.getElem?_eq_some_iff.1 hxo).1
    have hxz:=hb3 i xo hxo
    have hmul:(i+1)*z'≤els.length*z':=Nat.mul_le_mul_right z' hil
    rw [Nat.add_mul] at hmul
    have hroom:base+i*z'+j+0+(a.eval y).cells.toList.length≤cur.size:=by omega
    have hgc:=hg
    obtain ⟨fz,hfz,hg⟩:=hg
    have hrun:=CL (P:=C.P) b (base+i*z'+j) e' fz (a.eval y).cells.toList 0 cur w hg hfz hroom hone
    have hW:=hp.write hbl hgc (cur.toList.take (base+i*z'+j+0)++(a.eval y).cells.toList++cur.toList.drop (base+i*z'+j+0+(a.eval y).cells.toList.length)).toArray
     (by simp only [List.size_toArray,List.length_append,List.length_take,List.length_drop,Array.length_toList];rw [Nat.min_eq_left (by omega)];have:(a.eval y).cells.size=(a.eval y).cells.toList.length:=by simp
         omega)
     (els.set i (xo.setCells j (σ.val y).cells))
    refine ⟨_,_,?_,hk,(hW ?_ ?_ ?_).rel⟩
    ·simp only [execOp,ho,hv]
     have hsz':(a.eval y).cells.size=n:=by rw [←hn,←hl];simp
     simp [Instr.storeAt,Instr.sureAddr,storeVar,Al hti,hsz',hrun]
    ·intro i' x' hx'
     by_cases hi:i'=i
     ·subst hi
      rw [List.getElem?_set_self hil] at hx'
      simp only [Option.some.injEq] at hx'
      subst hx'
      rw [←hxz]
      refine Nat.le_antisymm ?_ ?_
      ·refine Nat.le_of_not_lt fun hlt=>?_
       have:=FD (x:=xo) hn h0 hj hl hone hr xo.cells.length
       rw [if_neg (by omega),if_neg (by omega)] at this
       rw [List.getElem?_eq_none (Nat.le_refl _)] at this
       rw [List.getElem?_eq_getElem hlt] at this
       cases this
      ·refine Nat.le_of_not_lt fun hlt=>?_
       have:=FD (x:=xo) hn h0 hj hl hone hr (xo.setCells j (σ.val y).cells).cells.length
       rw [List.getElem?_eq_none (Nat.le_refl _)] at this
       split at this
       ·rw [List.getElem?_eq_getElem hlt] at this;cases this
       ·split at this
        ·rw [List.getElem?_eq_getElem (by omega)] at this;cases this
        ·rw [List.getElem?_eq_getElem hlt] at this;cases this
     ·rw [List.getElem?_set_ne (Ne.symm hi)] at hx'
      exact hb3 i' x' hx'
    ·simp only [List.length_set]
     simp only [List.size_toArray,List.length_append,List.length_take,List.length_drop,Array.length_toList]
     rw [Nat.min_eq_left (by omega)]
     have:(a.eval y).cells.size=(a.eval y).cells.toList.length:=by simp
     omega
    ·intro i' x' j' c hx' hc
     have hget:∀p,(cur.toList.take (base+i*z'+j+0)++(a.eval y).cells.toList++cur.toList.drop (base+i*z'+j+0+(a.eval y).cells.toList.length)).toArray[p]?=
      if p < base+i*z'+j then cur[p]? else if p < base+i*z'+j+n then (a.eval y).cells.toList[p - (base+i*z'+j)]? else cur[p]?:=by
      intro p
      have:=Hl cur.toList (a.eval y).cells.toList (base+i*z'+j+0) p (by simpa using hroom)
      rw [List.getElem?_toArray,this]
      have e1:(a.eval y).cells.toList.length=n:=by omega
      rw [e1]
      simp
     rw [hget]
     by_cases hi:i'=i
     ·subst hi
      rw [List.getElem?_set_self hil] at hx'
      simp only [Option.some.injEq] at hx'
      subst hx'
      rw [FD (x:=xo) hn h0 hj hl hone hr] at hc
      split at hc
      ·rw [if_pos (by omega)];exact hcell i' xo j' c hxo hc
      ·split at hc
       ·rw [if_neg (by omega),if_pos (by omega)]
        have e2:base+i'*z'+j' - (base+i'*z'+j)=j' - j:=by omega
        rw [e2]
        have hlt:j' - j < (a.eval y).cells.toList.length:=by omega
        exact ⟨_,List.getElem?_eq_getElem hlt,hone _ (List.getElem_mem hlt),hr _ _ _ (List.getElem?_eq_getElem hlt) hc⟩
       ·rw [if_neg (by omega),if_neg (by omega)];exact hcell i' xo j' c hxo hc
     ·rw [List.getElem?_set_ne (Ne.symm hi)] at hx'
      have hj':j' < z':=by rw [←hb3 i' x' hx'];exact (List.getElem?_eq_some_iff.1 hc).1
      rcases WD (z:=z') (j:=j') (k:=j+n) hi hj' (by omega) with hlt|hge
      ·rw [if_pos (by omega)];exact hcell i' x' j' c hx' hc
      ·rw [if_neg (by omega),if_neg (by omega)];exact hcell i' x' j' c hx' hc
   ·exact h.elim
  ·exact h.elim
 ·exact h.elim
def YD (C:Ctx) (t:TypeId) (v:V) (K:V→St→Prop) (σ:St):Prop:=
 match TI C.P t with
 | some (_,n)=>v.one=true∧v.cells.length=n∧K (.ptr (AG σ.heap) 0 0) { σ with heap:=Ag σ.heap (.row n [v])}
 | none=>False
theorem E6 (w:World) (cur:Array Value) (e:TypeId):(w.alloc (.cells cur e)).shape? w.heap.size=some (e,cur.size):=by
 simp only [World.shape?]
 rw [heap_alloc_new]
theorem Lp {w:World} {I:Nat→Prop} {bl:Nat→Option BI} {v:Value} {x:V} (h:Rep w I bl v x) (h1:x.one=true∨(x= .any∧v.oneCell'=true)):
 v.cells.toList.length=x.cells.length∧(∀u∈v.cells.toList,u.oneCell'=true)∧∀(j:Nat) (u:Value) (c:V),v.cells.toList[j]?=some u→x.cells[j]?=some c→Rep w I bl u c:=by
 rcases h1 with h1|⟨rfl,h1⟩
 ·exact Jy h h1
 ·have e1:v.cells=#[v]:=by cases v<;>first|rfl|simp [Value.oneCell'] at h1
  rw [e1]
  refine ⟨rfl,fun u hu=>by simp at hu;subst hu;exact h1,fun j u c hu hc=>?_⟩
  cases j with
  | zero=>simp [V.cells] at hu hc;subst hu;subst hc;exact h
  | succ j=>simp at hu
theorem RP.newVar {C:Ctx} {σ:St} {a:Act} {w:World} {I:Nat→Prop} {bl:Nat→Option BI} (hp:RP C σ a w I bl) {u:Value} {v:V} (hv:Rep w I bl u v) (h1:v.one=true∨(v= .any∧u.oneCell'=true)) (e:TypeId):
 ∃bl',RP C { σ with heap:=Ag σ.heap (.row v.cells.length [v])} a (w.alloc (.cells u.cells e)) I bl'∧Rep (w.alloc (.cells u.cells e)) I bl' (.pointer (some ⟨w.heap.size,0,none⟩)) (.ptr (AG σ.heap) 0 0):=by
 obtain ⟨hl,hone,hr⟩:=Lp hv h1
 have hal:=hp.alloc u.cells e v.cells.length [v] (fun i x hx=>by cases i with|zero=>simp at hx;subst hx;rfl|succ i=>simp at hx)
  (by simp only [List.length_cons,List.length_nil,Nat.zero_add,Nat.one_mul];rw [←hl];simp) (by
   intro i x j c hx hc
   cases i with
   | succ i=>simp at hx
   | zero=>
     simp only [List.getElem?_cons_zero,Option.some.injEq] at hx
     subst hx
     have hj:j < u.cells.toList.length:=by rw [hl];exact (List.getElem?_eq_some_iff.1 hc).1
     refine ⟨u.cells.toList[j],?_,hone _ (List.getElem_mem hj),hr j _ c (List.getElem?_eq_getElem hj) hc⟩
     rw [Nat.zero_mul,Nat.zero_add,←Array.getElem?_toList]
     exact List.getElem?_eq_getElem hj)
 refine ⟨_,hal,?_⟩
 have:=Rep.ptr (w:=w.alloc (.cells u.cells e)) (I:=I) (bl:=GQ bl (AG σ.heap) ⟨some w.heap.size,0,v.cells.length⟩) (AG σ.heap) 0 0 w.heap.size 0 v.cells.length u.cells.size e (AT _ _ _) (E6 w u.cells e)
 simpa using this
theorem eP {C:Ctx} {o:Oper} {σ:St} {K:V→St→Prop} {t:TypeId} {x:Operand} (ho:o.op= .box t x) (h:YD C t (σ.val x) K σ):Bc C o σ K:=by
 unfold YD at h
 split at h
 ·rename_i bb n hti
  obtain ⟨h1,rfl,hk⟩:=h
  refine Ak fun a w I bl hp=>?_
  obtain ⟨bl',hp',hr⟩:=hp.newVar (hp.val x) (.inl h1) t
  refine ⟨_,_,_,_,?_,hk,hp'.relx hr⟩
  simp [execOp,ho,Instr.box,newVar,newRow]
 ·exact h.elim
def ZI (P:Program) (t:TypeId):Option Value:=(P.info? t).bind (·.zero)
theorem EM {P:Program} {t:TypeId} {z:Value} (h:ZI P t=some z) (w:World):(zeroValue t).run P w= .ok z w:=by
 unfold ZI at h
 cases hi:P.info? t with
 | none=>simp [hi] at h
 | some i=>
   simp [hi] at h
   simp [zeroValue,typeInfo,hi,h]
def ZV (P:Program) (t:TypeId):Option V:=
 match ZI P t with
 | some z=>if (V.ofVal z).one then some (V.ofVal z) else if z.oneCell' then some .any else none
 | none=>none
theorem LP {P:Program} {t:TypeId} {x:V} (h:ZV P t=some x):∃z,ZI P t=some z∧(∀(w:World) (I:Nat→Prop),Pr w I z x)∧(x.one=true∨(x= .any∧z.oneCell'=true)):=by
 unfold ZV at h
 split at h
 ·rename_i z hz
  split at h
  ·rename_i h1
   simp only [Option.some.injEq] at h
   subst h
   exact ⟨z,hz,fun w I=>Qp z,.inl h1⟩
  ·split at h
   ·rename_i h1
    simp only [Option.some.injEq] at h
    subst h
    exact ⟨z,hz,fun w I=>.any _,.inr ⟨rfl,h1⟩⟩
   ·cases h
 ·cases h
def Sv (C:Ctx) (t:TypeId) (K:V→St→Prop) (σ:St):Prop:=
 match ZV C.P t with
 | some x=>K (.ptr (AG σ.heap) 0 0) { σ with heap:=Ag σ.heap (.row x.cells.length [x])}
 | none=>False
theorem YE {C:Ctx} {o:Oper} {σ:St} {K:V→St→Prop} {t:TypeId} (ho:o.op= .alloc t) (h:Sv C t K σ):Bc C o σ K:=by
 unfold Sv at h
 split at h
 ·rename_i x hx
  obtain ⟨z,hz,hp0,h1⟩:=LP hx
  refine Ak fun a w I bl hp=>?_
  obtain ⟨bl',hp',hr⟩:=hp.newVar (u:=z) (.pure _ _ (hp0 w I)) h1 t
  refine ⟨_,_,_,_,?_,h,hp'.relx hr⟩
  simp [execOp,ho,Instr.alloc,EM hz,newVar,newRow]
 ·exact h.elim
def I3 (place:Nat→Option (Nat×Nat)) (cs:List V):List (Nat×V)→Option (List V)
 | []=>some cs
 | (i,v)::rest=>
   match place i with
   | none=>none
   | some (off,size)=>if v.one=true∧v.cells.length=size∧off+size≤cs.length then I3 place (cs.take off++v.cells++cs.drop (off+size)) rest else none
theorem WE (vs:List Value) (off:Nat) (cells:Array Value) (h:off+vs.length≤cells.size):
 (vs.zipIdx.foldl (fun cs (x:Value×Nat)=>cs.setIfInBounds (off+x.2) x.1) cells).toList=cells.toList.take off++vs++cells.toList.drop (off+vs.length):=by
 have key:∀(vs:List Value) (k:Nat) (cells:Array Value),off+k+vs.length≤cells.size→
  ((vs.zipIdx k).foldl (fun cs (x:Value×Nat)=>cs.setIfInBounds (off+x.2) x.1) cells).toList=cells.toList.take (off+k)++vs++cells.toList.drop (off+k+vs.length):=by
  intro vs
  induction vs with
  | nil=>intro k cells h;simp
  | cons v vs ih=>
    intro k cells h
    simp only [List.zipIdx_cons,List.foldl_cons]
    rw [ih (k+1) _ (by simp at h ⊢;omega)]
    simp only [List.length_cons] at h ⊢
    have hlt:off+k < cells.toList.length:=by simp;omega
    rw [Array.toList_setIfInBounds]
    have e1:(cells.toList.set (off+k) v).take (off+(k+1))=cells.toList.take (off+k)++[v]:=by
     apply List.ext_getElem?
     intro p
     rw [List.getElem?_take,List.getElem?_append,List.getElem?_set]
     have hl:(cells.toList.take (off+k)).length=off+k:=by simp;omega
     rw [hl]
     by_cases hp:p < off+k
     ·rw [if_pos (by omega),if_neg (by omega),if_pos hp,List.getElem?_take,if_pos hp]
     ·rw [if_neg hp]
      by_cases hp2:p=off+k
      ·subst hp2
       rw [if_pos (by omega),if_pos rfl,if_pos hlt]
       simp
      ·rw [if_neg (by omega)]
       rw [List.getElem?_eq_none]
       simp;omega
    have e2:(cells.toList.set (off+k) v).drop (off+(k+1)+vs.length)=cells.toList.drop (off+k+(vs.length+1)):=by
     rw [List.drop_set_of_lt (by omega)]
     congr 1
     omega
    rw [e1,e2]
    simp
 simpa using key vs 0 cells (by simpa using h)
theorem Lq {w:World} {I:Nat→Prop} {bl:Nat→Option BI} {place:Nat→Option (Nat×Nat)}:∀(ps:List (Nat×Value)) (qs:List (Nat×V)) (cells:Array Value) (cs cs':List V),
 ps.map (·.1)=qs.map (·.1)→(∀(k:Nat) (p:Nat×Value) (q:Nat×V),ps[k]?=some p→qs[k]?=some q→Rep w I bl p.2 q.2)→cells.size=cs.length→(∀u∈cells.toList,u.oneCell'=true)→
 (∀(j:Nat) (u:Value) (c:V),cells[j]?=some u→cs[j]?=some c→Rep w I bl u c)→I3 place cs qs=some cs'→
 ∃cells',Instr.fill place cells ps=some cells'∧cells'.size=cs'.length∧(∀u∈cells'.toList,u.oneCell'=true)∧∀(j:Nat) (u:Value) (c:V),cells'[j]?=some u→cs'[j]?=some c→Rep w I bl u c
 | [],[],cells,cs,cs',_,_,hsz,h1,hr,hf=>by
   simp only [I3,Option.some.injEq] at hf
   subst hf
   exact ⟨cells,rfl,hsz,h1,hr⟩
 | (i,v)::ps,(i',x)::qs,cells,cs,cs',hm,hps,hsz,h1,hr,hf=>by
   simp only [List.map_cons,List.cons.injEq] at hm
   obtain ⟨rfl,hm⟩:=hm
   simp only [I3] at hf
   split at hf
   ·cases hf
   ·rename_i off size hpl
    split at hf
    ·rename_i hc
     obtain ⟨hone,hlen,hoff⟩:=hc
     obtain ⟨hl,ho1,hrv⟩:=Jy (hps 0 _ _ rfl rfl) hone
     have hvs:v.cells.size=size:=by rw [←hlen,←hl];simp
     have hfold:=WE v.cells.toList off cells (by rw [hl,hlen,hsz];exact hoff)
     have e0:(v.cells.zipIdx.foldl (fun cs (c,j)=>cs.setIfInBounds (off+j) c) cells)=(cells.toList.take off++v.cells.toList++cells.toList.drop (off+v.cells.toList.length)).toArray:=by
      apply Array.ext'
      rw [←hfold]
      rw [←Array.foldl_toList]
      simp
     obtain ⟨cells',h2,h3,h4,h5⟩:=Lq ps qs (cells.toList.take off++v.cells.toList++cells.toList.drop (off+v.cells.toList.length)).toArray (cs.take off++x.cells++cs.drop (off+size)) cs' hm
      (fun k p q hp hq=>hps (k+1) p q (by simpa using hp) (by simpa using hq)) (by simp [hsz,hvs];omega) (by
       intro u hu
       simp only [List.mem_append] at hu
       rcases hu with (hu|hu)|hu
       ·exact h1 u (List.mem_of_mem_take hu)
       ·exact ho1 u hu
       ·exact h1 u (List.mem_of_mem_drop hu)) (by
       intro j u c hu hc
       rw [List.getElem?_toArray,Hl _ _ _ _ (by rw [hl,hlen];simpa [hsz] using hoff)] at hu
       rw [←hlen,Hl _ _ _ _ (by rw [hlen];exact hoff)] at hc
       rw [hl] at hu
       split at hu
       ·rename_i hp;rw [if_pos hp] at hc;exact hr j u c (by simpa using hu) hc
       ·rename_i hp
        rw [if_neg hp] at hc
        split at hu
        ·rename_i hq;rw [if_pos hq] at hc;exact hrv _ u c hu hc
        ·rename_i hq;rw [if_neg hq] at hc;exact hr j u c (by simpa using hu) hc) hf
     refine ⟨cells',?_,h3,h4,h5⟩
     simp only [Instr.fill,hpl]
     rw [if_neg (by simp [hvs];omega),e0]
     exact h2
    ·cases hf
 | [],_::_,_,_,_,hm,_,_,_,_,_=>by simp at hm
 | _::_,[],_,_,_,hm,_,_,_,_,_=>by simp at hm
def SI (P:Program) (t:TypeId):Option (List (Nat×Nat)):=
 match P.underlying t with
 | some (.struct fs)=>fs.toList.mapM fun f=>(TI P f.type).map fun x=>(f.offset,x.2)
 | _=>none
theorem Sw {P:Program} {fs:Array Field} {l:List (Nat×Nat)} (h:fs.toList.mapM (fun f=>(TI P f.type).map fun x=>(f.offset,x.2))=some l) (w:World):
 (fs.mapM (fun f=>do pure (f.offset,←sizeOf f.type)):Sem (Array (Nat×Nat))).run P w= .ok l.toArray w:=by
 have key:∀(fs:List Field) (l:List (Nat×Nat)),fs.mapM (fun f=>(TI P f.type).map fun x=>(f.offset,x.2))=some l→
  (fs.mapM (fun f=>Prod.mk f.offset <$> sizeOf f.type):Sem (List (Nat×Nat))).run P w= .ok l w:=by
  intro fs
  induction fs with
  | nil=>intro l h;simp at h;subst h;simp
  | cons f fs ih=>
    intro l h
    simp only [List.mapM_cons] at h ⊢
    cases ht:TI P f.type with
    | none=>simp [ht] at h
    | some x=>
      cases hr:fs.mapM (fun f=>(TI P f.type).map fun x=>(f.offset,x.2)) with
      | none=>simp [ht,hr] at h
      | some r=>
        simp [ht,hr] at h
        subst h
        simp [Al (b:=x.1) (n:=x.2) ht,ih r hr]
 rw [Array.mapM_eq_mapM_toList]
 simp [key _ _ h]
def GR (C:Ctx) (t:TypeId) (ps:List (Nat×V)) (K:V→St→Prop) (σ:St):Prop:=
 match SI C.P t,ZV C.P t with
 | some pl,some (.agg c0)=>match I3 (fun i=>pl[i]?) c0 ps with
   | some cs=>K (.agg cs) σ
   | none=>False
 | _,_=>False
theorem Sy {w:World} {I:Nat→Prop} {z:Value} {l:List V} (h:Pr w I z (.agg l)):∃vs:List Value,z= .agg vs.toArray∧vs.length=l.length∧(∀v∈vs,v.oneCell'=true)∧∀(i:Nat) (v:Value) (c:V),vs[i]?=some v→l[i]?=some c→Pr w I v c:=by
 cases h with
 | agg vs _ h1 h2 h3=>exact ⟨vs,rfl,h1,h2,h3⟩
theorem YF {C:Ctx} {o:Oper} {σ:St} {K:V→St→Prop} {t:TypeId} {ps:Array (Nat×Operand)} (ho:o.op= .build t ps) (h:GR C t (ps.toList.map fun p=>(p.1,σ.val p.2)) K σ):Bc C o σ K:=by
 unfold GR at h
 split at h
 ·rename_i pl c0 hpl hz0
  obtain ⟨z0,hz,hpz,_⟩:=LP hz0
  split at h
  ·rename_i cs hcs
   refine Ak fun a w I bl hp=>?_
   obtain ⟨z,rfl,hzl,hone,hzr⟩:=Sy (hpz w I)
   obtain ⟨cells',h1,h2,h3,h4⟩:=Lq (w:=w) (I:=I) (bl:=bl) (ps.toList.map fun p=>(p.1,a.eval p.2)) (ps.toList.map fun p=>(p.1,σ.val p.2)) z.toArray c0 cs (by simp) (by
    intro k p q hp' hq
    simp only [List.getElem?_map] at hp' hq
    cases hx:ps.toList[k]? with
    | none=>simp [hx] at hp'
    | some x=>
      simp only [hx,Option.map_some,Option.some.injEq] at hp' hq
      subst hp';subst hq
      exact hp.val x.2) (by simpa using hzl) (fun u hu=>hone u (by simpa using hu)) (by
    intro j u c hu hc
    exact .pure _ _ (hzr j u c (by simpa using hu) hc)) hcs
   refine ⟨.agg cells',w,.agg cs,σ,?_,h,hp.relx ?_⟩
   ·unfold SI at hpl
    split at hpl
    ·rename_i fs hu
     simp only [execOp,ho]
     have e1:(ps.map fun (i,x)=>(i,a.eval x)).toList=ps.toList.map fun p=>(p.1,a.eval p.2):=by simp
     simp only [Instr.build,Sem.run_bind,EM hz,Result.andThen_ok,run_underlying hu,Sw hpl,e1]
     simp [Value.cells,h1]
    ·cases hpl
   ·refine Rep.agg cells'.toList cs (by simpa using h2) (fun v hv=>h3 v hv) (fun i v c hv hc=>h4 i v c (by simpa using hv) hc)
  ·exact h.elim
 ·exact h.elim
end Go.Proofs.YtkaiffheakalmaaGreatDoor
