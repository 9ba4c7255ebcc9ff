/- Joined. No conditions. -/
import Derived.Test.YtkaiffheakalmaaGreatDoorJ9ae
import Derived.RangeFuncRecord
import Derived.Laws.MakeOwn
import Derived.Laws.StructEq
set_option linter.unusedSimpArgs false
set_option linter.unusedVariables false
set_option maxRecDepth 100000
namespace Go.Proofs.YtkaiffheakalmaaGreatDoor
open Go.RowKit
def TD (a b:Int):Int:=if b > a then b else a
def TE (a b:Int):Int:=if b < a then b else a
def JA (f:Int→Int→Int) (x y:V) (K:V→St→Prop) (σ:St):Prop:=
 match x,y with
 | .int k a,.int _ b=>K (.int k (f a b)) σ
 | _,_=>False
theorem eV {C:Ctx} {o:Oper} {σ:St} {K:V→St→Prop} {ts:Array TypeId} {x y:Operand} (ho:o.op= .call { callee:=.builtin .max,args:=#[x,y],argTypes:=ts}) (h:JA TD (σ.val x) (σ.val y) K σ):Bc C o σ K:=by
 unfold JA at h
 split at h
 ·rename_i k a k' b hx hy
  refine AS _ h fun ac w I bl hp=>⟨.int k (TD a b),?_,.pure _ _ (.int _ _)⟩
  have h1:=hp.val x;rw [hx] at h1
  have h2:=hp.val y;rw [hy] at h2
  simp [execOp,ho,resolve,invoke,builtin,h1.inv_int,h2.inv_int,Builtin.max_,Builtin.max2,TD]
 ·exact h.elim
theorem eW {C:Ctx} {o:Oper} {σ:St} {K:V→St→Prop} {ts:Array TypeId} {x y:Operand} (ho:o.op= .call { callee:=.builtin .min,args:=#[x,y],argTypes:=ts}) (h:JA TE (σ.val x) (σ.val y) K σ):Bc C o σ K:=by
 unfold JA at h
 split at h
 ·rename_i k a k' b hx hy
  refine AS _ h fun ac w I bl hp=>⟨.int k (TE a b),?_,.pure _ _ (.int _ _)⟩
  have h1:=hp.val x;rw [hx] at h1
  have h2:=hp.val y;rw [hy] at h2
  simp [execOp,ho,resolve,invoke,builtin,h1.inv_int,h2.inv_int,Builtin.min_,Builtin.min2,TE]
 ·exact h.elim
def F9 (c:UInt8):V:=.int .u8 c.toNat
def IS (C:Ctx) (s t:TypeId) (x:V) (K:V→St→Prop) (σ:St):Prop:=
 match x with
 | .lst _|.sl _ _ _|.nils=>(∃e,EI C.P s=some (e,1)∧PQ C.P e=some .u8)∧ET C.P t=true∧HB σ 1 x fun els=>∃bs:List UInt8,els=bs.map F9∧bs.length≤maxLen∧K (.str bs) σ
 | _=>False
theorem TF (bs:List UInt8):∀acc:ByteArray,(bs.foldl (fun s c=>s.push c) acc).data.toList=acc.data.toList++bs:=by
 induction bs with
 | nil=>intro acc;simp
 | cons c bs ih=>intro acc;rw [List.foldl_cons,ih];simp [ByteArray.push]
theorem TG {P:Program} {w:World} {body:Value→ByteArray→Sem (ForInStep ByteArray)} (hb:∀(c:UInt8) (s:ByteArray),(body (.int .u8 c.toNat) s).run P w= .ok (.yield (s.push c)) w) (bs:List UInt8) (acc:ByteArray):
 (forIn (m:=Sem) (bs.map fun c=>Value.int .u8 c.toNat) acc body).run P w= .ok (bs.foldl (fun s c=>s.push c) acc) w:=by
 induction bs generalizing acc with
 | nil=>simp
 | cons c bs ih=>
   simp only [List.map_cons,List.forIn_cons,Sem.run_bind,List.foldl_cons,hb,Result.andThen_ok]
   exact ih _
theorem L5 {C:Ctx} {o:Oper} {σ:St} {K:V→St→Prop} {s t:TypeId} {x:Operand} (ho:o.op= .convert s t x) (h:IS C s t (σ.val x) K σ):Bc C o σ K:=by
 have h':(∃e,EI C.P s=some (e,1)∧PQ C.P e=some .u8)∧ET C.P t=true∧(∀b,σ.val x≠.str b)∧HB σ 1 (σ.val x) fun els=>∃bs:List UInt8,els=bs.map F9∧bs.length≤maxLen∧K (.str bs) σ:=by
  unfold IS at h
  split at h
  ·rename_i l hx;exact ⟨h.1,h.2.1,by rw [hx];simp,h.2.2⟩
  ·rename_i a b c hx;exact ⟨h.1,h.2.1,by rw [hx];simp,h.2.2⟩
  ·rename_i hx;exact ⟨h.1,h.2.1,by rw [hx];simp,h.2.2⟩
  ·exact h.elim
 obtain ⟨⟨e,hei,hk⟩,hst,hns,hsrc⟩:=h'
 obtain ⟨els,⟨bs,rfl,hbl,hK⟩,hs⟩:=YG hsrc
 obtain ⟨hu,_,_⟩:=Ev hei
 have hue:C.P.underlying e=some (.int .u8):=by
  unfold PQ at hk
  split at hk
  ·rename_i k' he;simp only [Option.some.injEq] at hk;subst hk;exact he
  ·cases hk
 refine Ak fun a w I bl hp=>?_
 obtain ⟨news,hsrc'⟩:=hs a w I bl hp
 have hn:news=bs.map fun c=>Value.int .u8 c.toNat:=by
  have hc:=hsrc'.cells
  apply List.ext_getElem?
  intro i
  have hlen:news.length=bs.length:=by rw [hc.1];simp
  by_cases hi:i < bs.length
  ·have h1:news[i]?=some news[i]:=List.getElem?_eq_getElem (by omega)
   have h2:(bs.map F9)[i]?=some (F9 bs[i]):=by simp [hi]
   have:=hc.2.2.2 i (F9 bs[i]) 0 (F9 bs[i]) news[i] h2 rfl (by simp)
   rw [h1,this.inv_int]
   simp [hi]
  ·rw [List.getElem?_eq_none (by omega),List.getElem?_eq_none (by simp;omega)]
 have hlen:=hsrc'.len w
 have hfirst:=hsrc'.first w rfl
 have hsl:∃q n c,a.eval x= .slice q n c:=by
  have hv:=hp.val x
  cases hx:σ.val x with
  | str b=>exact absurd hx (hns b)
  | lst l=>rw [hx] at hv;obtain ⟨q,n,c,e,_⟩:=Pa hv;exact ⟨q,n,c,e⟩
  | sl i1 i2 i3=>rw [hx] at hv;obtain ⟨q,n,c,e,_⟩:=TC hv;exact ⟨q,n,c,e⟩
  | nils=>rw [hx] at hv;exact ⟨_,_,_,hv.inv_nils⟩
  | _=>rw [hx] at hsrc;simp [HB] at hsrc
 obtain ⟨q,n,c,hq⟩:=hsl
 rw [hq] at hlen hfirst
 have hnl:n=bs.length:=by simpa [Builtin.lenOf] using hlen
 subst hnl
 have hrun:(Conv.bytesToString (.slice q bs.length c)).run C.P w= .ok (.string (bs.foldl (fun s c=>s.push c) ByteArray.empty)) w:=by
  cases q with
  | none=>
    have:news=[]:=by simpa [Builtin.firstCells] using hfirst.symm
    rw [hn] at this
    have:bs=[]:=by simpa using this
    subst this
    simp [Conv.bytesToString]
  | some q=>
    have hld:(loadCells q bs.length).run C.P w= .ok news.toArray w:=by simpa [Builtin.firstCells] using hfirst
    unfold Conv.bytesToString
    simp only [Sem.run_bind,hld,Result.andThen_ok,hn]
    rw [List.forIn_toArray,TG (fun c s=>by simp)]
    simp
 have hd:=TF bs ByteArray.empty
 have hd:(bs.foldl (fun s c=>s.push c) ByteArray.empty).data.toList=bs:=by rw [hd];rfl
 refine ⟨.string (bs.foldl (fun s c=>s.push c) ByteArray.empty),w,.str bs,σ,?_,hK,hp.relx ?_⟩
 ·simp only [execOp,ho,hq]
  have:(convert s t (.slice q bs.length c)).run C.P w= .ok (.string (bs.foldl (fun s c=>s.push c) ByteArray.empty)) w:=by
   unfold convert
   simp only [Sem.run_bind,run_underlying hu,run_underlying (FC hst),Result.andThen_ok,run_underlying hue]
   exact hrun
  simp [this]
 ·have:=Pr.str (w:=w) (I:=I) (bs.foldl (fun s c=>s.push c) ByteArray.empty) (by
   show (bs.foldl (fun s c=>s.push c) ByteArray.empty).data.size≤maxLen
   rw [←Array.length_toList,hd];exact hbl)
  rw [hd] at this
  exact .pure _ _ this
def YS (P:Program) (t:TypeId) (op:BinOp) (x y:V) (K:V→St→Prop) (σ:St):Prop:=
 match x,y with
 | .int k a,.int k' b=>L4 P t op (.int k a) (.int k' b) K σ
 | x,y=>LB P t op x y K σ
theorem WS {P:Program} {t:TypeId} {op:BinOp} {x y:V} {K:V→St→Prop} {σ:St} (h:YS P t op x y K σ):L4 P t op x y K σ:=by
 unfold YS at h
 split at h
 ·exact h
 ·exact HE h
theorem RP.newObB {C:Ctx} {σ:St} {a:Act} {w:World} {I:Nat→Prop} {bl:Nat→Option BI} (hp:RP C σ a w I bl) (obj:Obj) (ob:Ob) (z:Nat) {base:Nat}
 (hob:ObRep (w.alloc obj) I (GQ bl (AG σ.heap) ⟨some w.heap.size,base,z⟩) (AG σ.heap) ob):
 RP C { σ with heap:=Ag σ.heap ob} a (w.alloc obj) I (GQ bl (AG σ.heap) ⟨some w.heap.size,base,z⟩):=by
 have hl:=EW I w obj (fun b hb=>(hp.heap.imm b hb).1)
 have hb:∀k i,bl k=some i→GQ bl (AG σ.heap) ⟨some w.heap.size,base,z⟩ k=some i:=fun k i h=>by rw [Aa (hp.live_ne h)];exact h
 refine ⟨hp.defers,hp.env.later hl (fun _ h=>h) hb,⟨?_,?_,?_,?_,?_,hp.heap.kept.alloc _⟩⟩
 ·intro id o ho
  by_cases hid:id=AG σ.heap
  ·subst hid
   rw [B9] at ho
   simp only [Option.some.injEq] at ho
   subst ho
   exact hob
  ·simp only [Be _ _ _ hid] at ho
   refine (hp.heap.obj id o ho).later hl (fun _ h=>h) hb ?_ (fun h=>by rw [Aa hid];exact h)
   intro i b h1 h2
   exact BE w _ b (hp.heap.own id i b h1 h2).1
 ·intro id i h
  by_cases hid:id=AG σ.heap
  ·subst hid;exact ⟨_,B9 _ _⟩
  ·rw [Aa hid] at h
   obtain ⟨o,ho⟩:=hp.heap.live id i h
   exact ⟨o,by simp only [Be _ _ _ hid];exact ho⟩
 ·intro id id' i i' b h1 h2 h3 h4
  by_cases hid:id=AG σ.heap
  ·by_cases hid':id'=AG σ.heap
   ·rw [hid,hid']
   ·subst hid
    rw [AT] at h1
    simp only [Option.some.injEq] at h1
    subst h1
    simp only [Option.some.injEq] at h3
    rw [Aa hid'] at h2
    have:=(hp.heap.own id' i' b h2 h4).1
    omega
  ·rw [Aa hid] at h1
   by_cases hid':id'=AG σ.heap
   ·subst hid'
    rw [AT] at h2
    simp only [Option.some.injEq] at h2
    subst h2
    simp only [Option.some.injEq] at h4
    have:=(hp.heap.own id i b h1 h3).1
    omega
   ·rw [Aa hid'] at h2
    exact hp.heap.apart id id' i i' b h1 h2 h3 h4
 ·intro id i b h1 h2
  by_cases hid:id=AG σ.heap
  ·subst hid
   rw [AT] at h1
   simp only [Option.some.injEq] at h1
   subst h1
   simp only [Option.some.injEq] at h2
   subst h2
   refine ⟨by simp,fun h=>?_,.inr hp.heap.kept.size⟩
   have:=(hp.heap.imm _ h).1
   omega
  ·rw [Aa hid] at h1
   obtain ⟨h3,h4,h5⟩:=hp.heap.own id i b h1 h2
   exact ⟨by simp;omega,h4,h5⟩
 ·intro k hk
  obtain ⟨h1,h2⟩:=hp.heap.imm k hk
  exact ⟨by simp;omega,h2⟩
def YT (C:Ctx) (s t:TypeId) (b:List UInt8) (K:V→St→Prop) (σ:St):Prop:=
 ∃e,EI C.P t=some (e,1)∧PQ C.P e=some .u8∧ET C.P s=true∧K (.sl (AG σ.heap) 0 b.length) { σ with heap:=Ag σ.heap (.row 1 (b.map F9))}
theorem RP.newOb {C:Ctx} {σ:St} {a:Act} {w:World} {I:Nat→Prop} {bl:Nat→Option BI} (hp:RP C σ a w I bl) (obj:Obj) (ob:Ob) (z:Nat)
 (hob:ObRep (w.alloc obj) I (GQ bl (AG σ.heap) ⟨some w.heap.size,0,z⟩) (AG σ.heap) ob):
 RP C { σ with heap:=Ag σ.heap ob} a (w.alloc obj) I (GQ bl (AG σ.heap) ⟨some w.heap.size,0,z⟩):=hp.newObB obj ob z hob
theorem bY {C:Ctx} {o:Oper} {σ:St} {K:V→St→Prop} {s t:TypeId} {x:Operand} {b:List UInt8} (ho:o.op= .convert s t x) (hx:σ.val x= .str b) (h:YT C s t b K σ):Bc C o σ K:=by
 obtain ⟨e,hei,hk,hst,hK⟩:=h
 obtain ⟨hu,_,_⟩:=Ev hei
 have hue:C.P.underlying e=some (.int .u8):=by
  unfold PQ at hk
  split at hk
  ·rename_i k' he;simp only [Option.some.injEq] at hk;subst hk;exact he
  ·cases hk
 refine Ak fun a w I bl hp=>?_
 have hv:=hp.val x
 rw [hx] at hv
 obtain ⟨bs,hbs,rfl,hmax⟩:=hv.inv_str
 have hsz:bs.data.toList.length=bs.size:=by simp
 have hge:=grownCap_ge w bs.size 0 e
 have hcm:=grownCap_le_maxLen w bs.size 0 e hmax
 have hrun:=run_bytes_of_string (P:=C.P) w s t e bs (FC hst) hu hue
 have hrs:(bytesRow bs (grownCap w bs.size 0 e)).size=grownCap w bs.size 0 e:=by
  simp only [bytesRow,Array.size_append,Array.size_map,Array.size_replicate]
  have:bs.data.size=bs.size:=rfl
  omega
 have hget:∀(i:Nat) (c:UInt8),bs.data.toList[i]?=some c→(bytesRow bs (grownCap w bs.size 0 e))[i]?=some (.int .u8 c.toNat):=by
  intro i c hc
  have hi:=(List.getElem?_eq_some_iff.1 hc).1
  unfold bytesRow
  rw [Array.getElem?_append_left (by simpa using hi),Array.getElem?_map,←Array.getElem?_toList,hc]
  rfl
 have hob:=hp.drew.newOb (.cells (bytesRow bs (grownCap w bs.size 0 e)) e ((bytesRow bs (grownCap w bs.size 0 e)).size,(bytesRow bs (grownCap w bs.size 0 e)).size+1)) (.row 1 (bs.data.toList.map F9)) 1 (by
  refine ⟨_,AT _ _ _,rfl,fun i y hy=>?_,bytesRow bs (grownCap w bs.size 0 e),e,⟨_,.inr ⟨rfl,Nat.le_refl _⟩,heap_alloc_new w.drew _⟩,?_,fun i y j c hy hc=>?_⟩
  ·rw [List.getElem?_map] at hy
   cases h1:bs.data.toList[i]? with
   | none=>simp [h1] at hy
   | some c=>simp [h1] at hy;subst hy;rfl
  ·rw [hrs,List.length_map,hsz];simp only;omega
  ·rw [List.getElem?_map] at hy
   cases h1:bs.data.toList[i]? with
   | none=>simp [h1] at hy
   | some d=>
     simp [h1] at hy
     subst hy
     cases j with
     | succ j=>simp [F9,V.cells] at hc
     | zero=>
       simp only [F9,V.cells,List.getElem?_cons_zero,Option.some.injEq] at hc
       subst hc
       refine ⟨.int .u8 d.toNat,?_,rfl,.pure _ _ (.int _ _)⟩
       simp only [Nat.zero_add,Nat.mul_one,Nat.add_zero]
       exact hget i d h1)
 refine ⟨.slice (some ⟨w.heap.size,0,none⟩) bs.size (grownCap w bs.size 0 e),_,_,_,?_,hK,hob.relx ?_⟩
 ·simp only [execOp,ho,hbs,Sem.run_bind,hrun,Result.andThen_ok]
  rfl
 ·rw [hsz]
  have:=Rep.sl (w:=w.drew.alloc (.cells (bytesRow bs (grownCap w bs.size 0 e)) e ((bytesRow bs (grownCap w bs.size 0 e)).size,(bytesRow bs (grownCap w bs.size 0 e)).size+1))) (I:=I) (bl:=GQ bl (AG σ.heap) ⟨some w.drew.heap.size,0,1⟩) (AG σ.heap) 0 bs.size (grownCap w bs.size 0 e) w.drew.heap.size 0 1 (bytesRow bs (grownCap w bs.size 0 e)).size e (AT bl _ _) (by
   simp only [World.shape?]
   rw [heap_alloc_new w.drew _]) (by rw [hrs];omega) hge hcm
  simpa using this
def L6 (C:Ctx) (s t:TypeId) (x:V) (K:V→St→Prop) (σ:St):Prop:=
 match x with
 | .lst l=>IS C s t (.lst l) K σ
 | .sl a b c=>IS C s t (.sl a b c) K σ
 | .nils=>IS C s t .nils K σ
 | .str b=>Gu C.P s t (.str b) K σ∨YT C s t b K σ
 | x=>Gu C.P s t x K σ
theorem YU {C:Ctx} {o:Oper} {σ:St} {K:V→St→Prop} {s t:TypeId} {x:Operand} (ho:o.op= .convert s t x) (h:L6 C s t (σ.val x) K σ):Bc C o σ K:=by
 unfold L6 at h
 split at h
 ·rename_i hx;exact L5 ho (hx▸h)
 ·rename_i hx;exact L5 ho (hx▸h)
 ·rename_i hx;exact L5 ho (hx▸h)
 ·rename_i b hx
  rcases h with h|h
  ·exact Uy ho (hx▸h)
  ·exact bY ho hx h
 ·exact Uy ho h
theorem N0 {C:Ctx} {s t:TypeId} {x:V} {K:V→St→Prop} {σ:St} (h:Gu C.P s t x K σ):L6 C s t x K σ:=by
 unfold L6
 split
 all_goals first|exact h|exact .inl h|exact (h:False).elim
def OK (C:Ctx) (s t:TypeId) (x:V) (K:V→St→Prop) (σ:St):Prop:=
 match x with
 | .lst l=>IS C s t (.lst l) K σ
 | x=>Gu C.P s t x K σ
theorem TH {C:Ctx} {s t:TypeId} {x:V} {K:V→St→Prop} {σ:St} (h:OK C s t x K σ):L6 C s t x K σ:=by
 unfold OK at h
 split at h
 ·exact h
 ·exact N0 h
theorem JB {I:Nat→Prop} {w:World} {b:Nat} {o0 o:Obj} (hg:w.heap[b]?=some o0) (h0:∀c e f,o0≠.cells c e f) (hI:¬I b):Later I w (w.putObj b o):=by
 refine ⟨fun k hk=>World.putObj_heap_other (fun e=>hI (e▸hk)),fun k s hs=>?_⟩
 by_cases hk:k=b
 ·subst hk
  simp only [World.shape?,hg] at hs
  cases o0<;>simp at hs
  exact absurd rfl (h0 _ _ _)
 ·rw [CF (World.putObj_heap_other hk)]
  exact hs
theorem RP.setOb {C:Ctx} {σ:St} {a:Act} {w:World} {I:Nat→Prop} {bl:Nat→Option BI} (hp:RP C σ a w I bl) {id b base z:Nat} (hbl:bl id=some ⟨some b,base,z⟩) {o0 o:Obj} (hg:w.heap[b]?=some o0) (h0:∀c e f,o0≠.cells c e f) (ob:Ob)
 (hob:ObRep (w.putObj b o) I bl id ob):RP C { σ with heap:=σ.heap.set id (some ob)} a (w.putObj b o) I bl:=by
 obtain ⟨hlt,hnI,hE⟩:=hp.heap.own id _ b hbl rfl
 have hl:=JB (o:=o) hg h0 hnI
 obtain ⟨oo,hoo⟩:=hp.heap.live id _ hbl
 have hid:id < σ.heap.length:=(List.getElem?_eq_some_iff.1 hoo).1
 refine ⟨hp.defers,hp.env.later hl (fun _ h=>h) (fun _ _ h=>h),⟨?_,?_,hp.heap.apart,?_,?_,?_⟩⟩
 ·intro k o' ho
  by_cases hk:k=id
  ·subst hk
   simp only [List.getElem?_set_self hid,Option.some.injEq] at ho
   subst ho
   exact hob
  ·simp only [List.getElem?_set_ne (Ne.symm hk)] at ho
   refine (hp.heap.obj k o' ho).later hl (fun _ h=>h) (fun _ _ h=>h) (fun i b' h1 h2=>World.putObj_heap_other fun e=>hk ?_) (fun h=>h)
   subst e
   exact hp.heap.apart k id i _ b' h1 hbl h2 rfl
 ·intro k i h
  by_cases hk:k=id
  ·subst hk;exact ⟨ob,by simp only [List.getElem?_set_self hid]⟩
  ·obtain ⟨o',ho⟩:=hp.heap.live k i h
   exact ⟨o',by simp only [List.getElem?_set_ne (Ne.symm hk)];exact ho⟩
 ·intro k i b' h1 h2
  obtain ⟨h3,h4,h5⟩:=hp.heap.own k i b' h1 h2
  exact ⟨by simpa using h3,h4,h5⟩
 ·intro k hk
  obtain ⟨h1,h2⟩:=hp.heap.imm k hk
  exact ⟨by simpa using h1,h2⟩
 ·have hk:=hp.heap.kept
  refine ⟨hk.os,hk.tape,hk.output,by simpa using hk.size,fun k h1 h2=>?_,fun k s hs=>(JB (I:=fun _=>False) (o:=o) hg h0 (fun h=>h)).shape k s (hk.shape k s hs)⟩
  rw [World.putObj_heap_other (fun e=>by subst e;rcases hE with h|h;exact h2 h;omega)]
  exact hk.block k h1 h2
def YV (s:List UInt8) (pos:Nat):Nat×Nat:=Utf8.decode ⟨s.toArray⟩ pos
def L7 (C:Ctx) (t:TypeId) (x:V) (K:V→St→Prop) (σ:St):Prop:=
 match x with
 | .str s=>ET C.P t=true∧K (.it (AG σ.heap)) { σ with heap:=Ag σ.heap (.iter s 0)}
 | _=>False
def Q5 (x:V) (isString:Bool) (K:V→St→Prop) (σ:St):Prop:=
 match x with
 | .it id=>isString=true∧match σ.heap[id]? with
   | some (some (.iter s pos))=>(pos < s.length→K (.tup [.bool true,.int .i64 pos,.int .i32 (YV s pos).1]) { σ with heap:=σ.heap.set id (some (.iter s (pos+(YV s pos).2)))})∧(¬pos < s.length→K (.tup [.bool false]) σ)
   | _=>False
 | _=>False
theorem YW {C:Ctx} {o:Oper} {σ:St} {K:V→St→Prop} {t:TypeId} {x:Operand} (ho:o.op= .range t x) (h:L7 C t (σ.val x) K σ):Bc C o σ K:=by
 unfold L7 at h
 split at h
 ·rename_i s hx
  obtain ⟨hs,hk⟩:=h
  refine Ak fun a w I bl hp=>?_
  have hv:=hp.val x
  rw [hx] at hv
  obtain ⟨p,hp1,rfl,hsz⟩:=hv.inv_str
  refine ⟨.pointer (some ⟨w.heap.size,0,none⟩),w.alloc (.stringIter p 0),_,_,?_,hk,(hp.newOb (.stringIter p 0) (.iter p.data.toList 0) 0 ⟨w.heap.size,0,0,p,AT _ _ _,heap_alloc_new w _,rfl,hsz⟩).relx ?_⟩
  ·simp only [execOp,ho,hp1]
   simp [Instr.range,run_underlying (FC hs),newObj,Sem.run]
  ·exact .it _ _ 0 0 (AT _ _ _)
 ·exact h.elim
def U2 (t:TypeId) (x:V):Ob:=match x with|.agg [.nilp,.nils]=>.bld t (some (1000000,0))|x=>.row x.cells.length [x]
def IT (C:Ctx) (t:TypeId) (K:V→St→Prop) (σ:St):Prop:=
 match ZV C.P t with
 | some x=>K (.ptr (AG σ.heap) 0 0) { σ with heap:=Ag σ.heap (U2 t x)}
 | none=>False
theorem WT {C:Ctx} {o:Oper} {σ:St} {K:V→St→Prop} {t:TypeId} (ho:o.op= .alloc t) (h:IT C t K σ):Bc C o σ K:=by
 unfold IT at h
 split at h
 ·rename_i x hx
  by_cases hb:x= .agg [.nilp,.nils]
  ·subst hb
   obtain ⟨z,hz,hp0,h1⟩:=LP hx
   refine Ak fun a w I bl hp=>?_
   obtain ⟨vs,rfl,hl,ho1,hr⟩:=(Rep.pure (bl:=bl) _ _ (hp0 w I)).inv_agg
   match vs,hl with
   | [p,v],_=>
     have e1:p= .pointer none:=(hr 0 p .nilp rfl rfl).inv_nilp
     have e2:v= .slice none 0 0:=(hr 1 v .nils rfl rfl).inv_nils
     subst e1;subst e2
     have hob:ObRep (w.alloc (.cells #[.pointer none,.slice none 0 0] t)) I (GQ bl (AG σ.heap) ⟨some w.heap.size,0,2⟩) (AG σ.heap) (.bld t (some (1000000,0))):=
      ⟨w.heap.size,_,_,AT _ _ _,heap_alloc_new w _,.inl rfl,rfl,.pure _ _ .nils⟩
     refine ⟨.pointer (some ⟨w.heap.size,0,none⟩),w.alloc (.cells #[.pointer none,.slice none 0 0] t),_,_,?_,h,(hp.newOb _ _ 2 hob).relx ?_⟩
     ·simp [execOp,ho,Instr.alloc,EM hz,newVar,newRow,Value.cells]
     ·have:=Rep.ptr (w:=w.alloc (.cells #[.pointer none,.slice none 0 0] t)) (I:=I) (bl:=GQ bl (AG σ.heap) ⟨some w.heap.size,0,2⟩) (AG σ.heap) 0 0 w.heap.size 0 2 2 t (AT _ _ _) (E6 w _ t)
      simpa using this
  ·refine YE ho ?_
   unfold Sv
   rw [hx]
   have:U2 t x= .row x.cells.length [x]:=by
    unfold U2
    split
    ·exact absurd rfl hb
    ·rfl
   simp only
   rw [this] at h
   exact h
 ·exact h.elim
theorem bZ {C:Ctx} {o:Oper} {σ:St} {K:V→St→Prop} {b:Bool} {x:Operand} (ho:o.op= .next x b) (h:Q5 (σ.val x) b K σ):Bc C o σ K:=by
 unfold Q5 at h
 split at h
 ·rename_i id hx
  obtain ⟨rfl,h⟩:=h
  split at h
  ·rename_i s pos hob
   refine Ak fun a w I bl hp=>?_
   have hv:=hp.val x
   rw [hx] at hv
   obtain ⟨b0,base0,z0,hbl0,hv⟩:=hv.inv_it
   obtain ⟨b,base,z,p,hbl,hg,rfl,hsz⟩:=hp.heap.obj id _ hob
   rw [hbl] at hbl0
   simp only [Option.some.injEq,BI.mk.injEq] at hbl0
   obtain ⟨rfl,rfl,rfl⟩:=hbl0
   have hget:(getObj b).run C.P w= .ok (.stringIter p pos) w:=by simp [getObj,Sem.run,hg]
   by_cases hlt:pos < p.size
   ·have hset:(setObj b (.stringIter p (pos+(Utf8.decode p pos).2))).run C.P w= .ok () (w.putObj b (.stringIter p (pos+(Utf8.decode p pos).2))):=by simp [setObj,Sem.run,hg,World.putObj]
    refine ⟨.tuple #[.bool true,goInt pos,.int .i32 (Utf8.decode p pos).1],w.putObj b (.stringIter p (pos+(Utf8.decode p pos).2)),_,_,?_,h.1 hlt,(hp.setOb hbl hg (by simp) (.iter p.data.toList (pos+(Utf8.decode p pos).2)) ⟨b,base,z,p,hbl,World.putObj_heap_same (hp.heap.own id _ b hbl rfl).1,rfl,hsz⟩).relx ?_⟩
    ·simp only [execOp,ho,hv]
     simp [jY,Instr.next,hget,hlt,hset]
    ·exact .pure _ _ (.tup [.bool true,goInt pos,.int .i32 (Utf8.decode p pos).1] [.bool true,.int .i64 pos,.int .i32 (Utf8.decode p pos).1] rfl (by
      intro i v c hv hc
      match i with
      | 0=>simp at hv hc;subst hv;subst hc;exact .bool _
      | 1=>simp at hv hc;subst hv;subst hc;exact .int _ _
      | 2=>simp at hv hc;subst hv;subst hc;exact .int _ _
      | i+3=>simp at hv))
   ·refine ⟨.tuple #[.bool false],w,_,_,?_,h.2 hlt,hp.relx ?_⟩
    ·simp only [execOp,ho,hv]
     simp [jY,Instr.next,hget,hlt]
    ·exact .pure _ _ (.tup [.bool false] [.bool false] rfl (by
      intro i v c hv hc
      match i with
      | 0=>simp at hv hc;subst hv;subst hc;exact .bool _
      | i+1=>simp at hv))
  ·exact h.elim
 ·exact h.elim
def L8 (C:Ctx) (t:TypeId) (l c:V) (K:V→St→Prop) (σ:St):Prop:=
 match l,c with
 | .int _ n,.int _ m=>match EI C.P t with
   | some (e,z)=>match ZV C.P e with
     | some x=>gV C.P e z=true∧x.cells.length=z∧0≤n∧n≤m∧(Nu C.P e:Int)*m≤281474976710656∧m≤9223372036854775807∧
        K (.sl (AG σ.heap) 0 n.toNat) { σ with heap:=Ag σ.heap (.row z (List.replicate n.toNat x))}
     | none=>False
   | none=>False
 | _,_=>False
theorem bc {C:Ctx} {o:Oper} {σ:St} {K:V→St→Prop} {t:TypeId} {lo co:Operand} (ho:o.op= .makeSlice t lo co) (h:L8 C t (σ.val lo) (σ.val co) K σ):Bc C o σ K:=by
 unfold L8 at h
 split at h
 ·rename_i k1 n k2 m hlv hcv
  split at h
  ·rename_i e z hei
   split at h
   ·rename_i x hx
    obtain ⟨hz,hxz,h0,hnm,hby,hm,hk⟩:=h
    obtain ⟨hu,bb,hte⟩:=Ev hei
    obtain ⟨i,zv,hi,hiz,hzi,hzs,hz1,hz0⟩:=Lr hz
    obtain ⟨z0,hz0i,hz0p,hz0one⟩:=LP hx
    rw [hzi] at hz0i
    cases hz0i
    have hsz:i.size=z:=by
     unfold TI at hte
     split at hte
     ·rename_i d i' _ hi'
      rw [hi] at hi'
      cases hi'
      simp at hte
      exact hte.2
     ·cases hte
    refine Ak fun a w I bl hp=>?_
    have hl':=hp.val lo;rw [hlv] at hl'
    have hc':=hp.val co;rw [hcv] at hc'
    have hbyi:(i.bytes:Int)*m≤281474976710656:=by
     have:Nu C.P e=i.bytes:=by unfold Nu;rw [hi];rfl
     rw [←this];exact hby
    have hrun:=run_make (P:=C.P) w t e i zv hu hi hiz k1 k2 n m h0 hnm hbyi hm
    have hrc:=Lp (w:=w) (I:=I) (bl:=bl) (.pure _ _ (hz0p w I)) hz0one
    have hcsz:(madeCells zv.cells (m.toNat*i.size)).size=m.toNat*z:=by rw [size_madeCells,hsz]
    have hnm':n.toNat≤m.toNat:=by omega
    have hmul:n.toNat*z≤m.toNat*z:=Nat.mul_le_mul_right z hnm'
    have hal:=hp.alloc (madeCells zv.cells (m.toNat*i.size)) e z (List.replicate n.toNat x) (fun j y hy=>by
     have:=List.getElem?_eq_some_iff.1 hy
     obtain ⟨_,h2⟩:=this
     rw [←h2];simpa using hxz) (by rw [hcsz];simpa using hmul) (by
     intro j y q c hy hyc
     have hyx:y=x∧j < n.toNat:=by
      obtain ⟨h1,h2⟩:=List.getElem?_eq_some_iff.1 hy
      exact ⟨by rw [←h2];simp,by simpa using h1⟩
     obtain ⟨rfl,hj⟩:=hyx
     have hq:q < z:=by rw [←hxz];exact (List.getElem?_eq_some_iff.1 hyc).1
     have hlt:j*z+q < m.toNat*z:=by
      have:(j+1)*z≤m.toNat*z:=Nat.mul_le_mul_right z (by omega)
      rw [Nat.add_mul] at this
      omega
     have hmod:(j*z+q) % zv.cells.size=q:=by
      rw [hzs,Nat.add_comm,Nat.add_mul_mod_self_right,Nat.mod_eq_of_lt hq]
     have hqs:q < zv.cells.size:=by rw [hzs];exact hq
     refine ⟨zv.cells[q],?_,hz1 _ (by simp),hrc.2.2 q _ c (by simp [hqs]) hyc⟩
     unfold madeCells
     rw [Array.getElem?_map,Array.getElem?_range,if_pos (by rw [hsz];exact hlt)]
     simp only [Option.map_some,hmod]
     rw [getElem!_pos zv.cells q hqs])
    refine ⟨.slice (some ⟨w.heap.size,0,none⟩) n.toNat m.toNat,w.alloc (.cells (madeCells zv.cells (m.toNat*i.size)) e),_,_,?_,hk,hal.relx ?_⟩
    ·simp only [execOp,ho,hl'.inv_int,hc'.inv_int,Sem.run_bind,hrun,Result.andThen_ok]
     rfl
    ·have:=Rep.sl (w:=w.alloc (.cells (madeCells zv.cells (m.toNat*i.size)) e)) (I:=I) (AG σ.heap) 0 n.toNat m.toNat w.heap.size 0 z _ e (AT bl _ _) (E6 w _ e) (by rw [hcsz];simp) hnm' (by simp only [maxLen];omega)
     simpa using this
   ·exact h.elim
  ·exact h.elim
 ·exact h.elim
def Q6 (C:Ctx) (t:TypeId) (x h m:V) (K:V→St→Prop) (σ:St):Prop:=
 match h,m with
 | .int _ n,.int _ k=>n=0∧k=0∧match EI C.P t with
   | some (_,z)=>match x with
     | .lst _|.nils|.sl _ _ _=>K (.sl (AG σ.heap) 0 0) { σ with heap:=Ag σ.heap (.row z [])}
     | _=>False
   | none=>False
 | _,_=>False
def YX:V→Bool
 | .lst _=>true
 | .nils=>true
 | .sl _ _ _=>true
 | _=>false
theorem WU {w:World} {I:Nat→Prop} {bl:Nat→Option BI} {v:Value} {x:V} (h:Rep w I bl v x) (hx:YX x=true):∃a len cap,v= .slice a len cap:=by
 cases x with
 | lst l=>
   rcases h.inv_lst.is with ⟨_,a,cap,rfl⟩|⟨b,off,cap,z,u,_,_,_,rfl,_⟩
   ·exact ⟨_,_,_,rfl⟩
   ·exact ⟨_,_,_,rfl⟩
 | nils=>exact ⟨_,_,_,h.inv_nils⟩
 | sl id off n=>
   rcases h.inv_sl with ⟨_,_,_,_,_,rfl⟩|⟨_,_,_,_,rfl⟩|⟨_,_,_,_,_,_,_,_,_,_,_,rfl⟩
   all_goals exact ⟨_,_,_,rfl⟩
 | _=>cases hx
theorem be {C:Ctx} {o:Oper} {σ:St} {K:V→St→Prop} {t:TypeId} {x hh mm:Operand} (ho:o.op= .slice t x none (some hh) (some mm)) (h:Q6 C t (σ.val x) (σ.val hh) (σ.val mm) K σ):Bc C o σ K:=by
 unfold Q6 at h
 split at h
 ·rename_i k1 n k2 k hhv hmv
  obtain ⟨rfl,rfl,h⟩:=h
  split at h
  ·rename_i e z hei
   obtain ⟨hu,bb,hte⟩:=Ev hei
   have hk:K (.sl (AG σ.heap) 0 0) { σ with heap:=Ag σ.heap (.row z [])}∧YX (σ.val x)=true:=by
    cases hv:σ.val x<;>rw [hv] at h<;>first|exact ⟨h,rfl⟩|exact (h:False).elim
   refine Ak fun a w I bl hp=>?_
   obtain ⟨p,len,cap,hv⟩:=WU (hp.val x) hk.2
   have hh':=hp.val hh;rw [hhv] at hh'
   have hm':=hp.val mm;rw [hmv] at hm'
   refine ⟨.slice p 0 0,w,_,_,?_,hk.1,(hp.adopt z).relx ?_⟩
   ·simp only [execOp,ho,hv,Option.map_some,Option.map_none,hh'.inv_int,hm'.inv_int]
    simp [Instr.sliceAt,Instr.slice,run_underlying hu,Instr.sliceBounds,Instr.sliceBound,asIntOf,Al hte]
   ·cases p with
    | none=>exact .nsl _ 0 z (AT _ _ _)
    | some p=>exact .esl _ 0 p _ (AT _ _ _)
  ·exact h.elim
 ·exact h.elim
inductive Kd where
 | s
 | b
 | i (k:IntKind)
def YY (P:Program) (t:TypeId):Option Kd:=match P.underlying t with|some .string=>some .s|some .bool=>some .b|some (.int k)=>some (.i k)|_=>none
def bg (P:Program):Nat→List Field→Option (List Kd)
 | _,[]=>some []
 | k, f :: fs => if f.name ≠ "_" ∧ f.offset = k then match YY P f.type with | some d => (bg P (k + 1) fs).map (d :: ·) | none => none else none
def SQ (P:Program) (t:TypeId):Option (List Kd):=match P.underlying t with
 | some (.struct fs)=>if P.stoodInHeld t || P.eqGuardType P.depth t then none else bg P 0 fs.toList
 | _=>none
def L9 (op:BinOp):List Kd→List V→List V→(V→St→Prop)→St→Prop
 | [],[],[],K,σ=>Kw op true K σ
 | .s::ks,.str a::l,.str b::r,K,σ=>(a=b→L9 op ks l r K σ)∧(a≠b→Kw op false K σ)
 | .b::ks,.bool a::l,.bool b::r,K,σ=>(a=b→L9 op ks l r K σ)∧(a≠b→Kw op false K σ)
 | .i _::ks,.int k a::l,.int k' b::r,K,σ=>k=k'∧(a=b→L9 op ks l r K σ)∧(a≠b→Kw op false K σ)
 | _,_,_,_,_=>False
theorem OL {P:Program} {t:TypeId} {d:Kd} (h:YY P t=some d) {xs:Array Value} {k:Nat} {v:Value} (hv:xs[k]?=some v) (w:World):(part t xs k).run P w= .ok v w:=by
 unfold YY at h
 split at h
 ·rename_i hu;simp [part,isAgg,run_underlying hu,hv]
 ·rename_i hu;simp [part,isAgg,run_underlying hu,hv]
 ·rename_i k hu;simp [part,isAgg,run_underlying hu,hv]
 ·cases h
theorem bh {P:Program} {w:World} {I:Nat→Prop} {bl:Nat→Option BI} {op:BinOp} {K:V→St→Prop} {σ:St} {m:Nat} {xs ys:List Value}:
 ∀(ks:List Kd) (k:Nat) (fs:List Field) (l r:List V),bg P k fs=some ks→(∀(i:Nat) (x:V),l[i]?=some x→∃v,xs[k+i]?=some v∧Rep w I bl v x)→(∀(i:Nat) (x:V),r[i]?=some x→∃v,ys[k+i]?=some v∧Rep w I bl v x)→L9 op ks l r K σ→
   ∃b,Kw op b K σ∧(Op.eqFields (m+1) xs.toArray ys.toArray fs).run P w= .ok b w:=by
 intro ks
 induction ks with
 | nil=>
   intro k fs l r hs hx hy h
   have hfs:fs=[]:=by
    cases fs with
    | nil=>rfl
    | cons f fs=>
      simp only [bg] at hs
      split at hs
      ·split at hs
       ·cases hq:bg P (k+1) fs<;>simp [hq] at hs
       ·cases hs
      ·cases hs
   subst hfs
   match l,r,h with
   | [],[],h=>exact ⟨true,h,by simp [Op.eqFields]⟩
   | _::_,_,h=>simp [L9] at h
   | [],_::_,h=>simp [L9] at h
 | cons d ks ih=>
   intro k fs l r hs hx hy h
   obtain ⟨f, fs', rfl, hnm, hoff, hkd, hs'⟩ : ∃ f fs', fs = f :: fs' ∧ f.name ≠ "_" ∧ f.offset = k ∧ YY P f.type = some d ∧ bg P (k + 1) fs' = some ks := by
    cases fs with
    | nil=>simp [bg] at hs
    | cons f fs=>
      simp only [bg] at hs
      split at hs
      ·rename_i hc
       split at hs
       ·rename_i d' hd
        cases hq:bg P (k+1) fs with
        | none=>simp [hq] at hs
        | some q=>
          simp [hq] at hs
          obtain ⟨rfl,rfl⟩:=hs
          exact ⟨f,fs,rfl,hc.1,hc.2,hd,hq⟩
       ·cases hs
      ·cases hs
   have tail:∀{c:V} {l':List V} {zs:List Value},(∀(i:Nat) (x:V),(c::l')[i]?=some x→∃v,zs[k+i]?=some v∧Rep w I bl v x)→∀(i:Nat) (x:V),l'[i]?=some x→∃v,zs[k+1+i]?=some v∧Rep w I bl v x:=fun h i x hi=>by
    have:=h (i+1) x (by simpa using hi)
    rwa [show k+(i+1)=k+1+i by omega] at this
   have fin:∀(c e:V) (l' r':List V) (p:Prop),(c::l')=l→(e::r')=r→(∀v u,Rep w I bl v c→Rep w I bl u e→∃q,(Op.equalIn (m+1) f.type v u).run P w= .ok q w∧(q=true↔p))→(p→L9 op ks l' r' K σ)→(¬p→Kw op false K σ)→
    ∃b,Kw op b K σ∧(Op.eqFields (m+1) xs.toArray ys.toArray (f::fs')).run P w= .ok b w:=by
    rintro c e l' r' p rfl rfl hq ht hf
    obtain ⟨v,hv1,hv2⟩:=hx 0 c rfl
    obtain ⟨u,hu1,hu2⟩:=hy 0 e rfl
    rw [Nat.add_zero] at hv1 hu1
    obtain ⟨q,hq1,hq2⟩:=hq v u hv2 hu2
    have r1:=OL (P:=P) (xs:=xs.toArray) (k:=f.offset) hkd (v:=v) (by rw [hoff];simpa using hv1) w
    have r2:=OL (P:=P) (xs:=ys.toArray) (k:=f.offset) hkd (v:=u) (by rw [hoff];simpa using hu1) w
    cases q with
    | true=>
      obtain ⟨b,h1,h2⟩:=ih (k+1) fs' l' r' hs' (tail hx) (tail hy) (ht (hq2.1 rfl))
      refine ⟨b,h1,?_⟩
      simp only [Op.eqFields]
      rw [if_pos hnm]
      simp only [Sem.run_bind,r1,r2,hq1,Result.andThen_ok,Bool.not_true,Bool.false_eq_true,if_false]
      exact h2
    | false=>
      refine ⟨false,hf (fun hp=>by have:=hq2.2 hp;cases this),?_⟩
      simp only [Op.eqFields]
      rw [if_pos hnm]
      simp only [Sem.run_bind,r1,r2,hq1,Result.andThen_ok,Bool.not_false,if_true,Sem.run_pure]
   have hun:=hkd
   unfold YY at hun
   match d,l,r,h with
   | .s,.str a::l',.str b::r',h=>
     simp only [L9] at h
     split at hun
     ·rename_i hu
      refine fin _ _ l' r' (a=b) rfl rfl (fun v u hv hu'=>?_) h.1 h.2
      obtain ⟨s,rfl,rfl,_⟩:=hv.inv_str
      obtain ⟨t,rfl,rfl,_⟩:=hu'.inv_str
      refine ⟨_,run_equalIn_string w m f.type s t hu,?_⟩
      rw [ByteArray.toList_eq,ByteArray.toList_eq]
      simp
     all_goals simp at hun
   | .b,.bool a::l',.bool b::r',h=>
     simp only [L9] at h
     split at hun
     ·simp at hun
     ·rename_i hu
      refine fin _ _ l' r' (a=b) rfl rfl (fun v u hv hu'=>?_) h.1 h.2
      rw [hv.inv_bool,hu'.inv_bool]
      exact ⟨_,run_equalIn_bool' w m f.type a b hu,by simp⟩
     all_goals simp at hun
   | .i kk,.int k1 a::l',.int k2 b::r',h=>
     simp only [L9] at h
     obtain ⟨rfl,h1,h2⟩:=h
     split at hun
     ·simp at hun
     ·simp at hun
     ·rename_i k3 hu
      refine fin _ _ l' r' (a=b) rfl rfl (fun v u hv hu'=>?_) h1 h2
      rw [hv.inv_int,hu'.inv_int]
      exact ⟨_,run_equalIn_int w m f.type k1 k3 a b hu,by simp⟩
     ·simp at hun
   | .s,[],_,h=>simp [L9] at h
   | .b,[],_,h=>simp [L9] at h
   | .i _,[],_,h=>simp [L9] at h
theorem eX {C:Ctx} {o:Oper} {σ:St} {K:V→St→Prop} {op:BinOp} {t t':TypeId} {x y:Operand} (ho:o.op= .binOp op t x y t')
 (hv:∀a w I bl,RP C σ a w I bl→∃b,Kw op b K σ∧(Op.equal t (a.eval x) (a.eval y)).run C.P w= .ok b w∧(∀op',(eqGuard op' t x y (a.eval x) (a.eval y)).run C.P w= .ok () w)∧
   (binOp .eql t (a.eval x) (a.eval y)).run C.P w= .ok (.bool b) w∧(binOp .neq t (a.eval x) (a.eval y)).run C.P w= .ok (.bool (!b)) w):Bc C o σ K:=by
 refine Ak fun a w I bl hp=>?_
 obtain ⟨b,hk,hr,hg,h1,h2⟩:=hv a w I bl hp
 unfold Kw at hk
 split at hk
 ·refine ⟨.bool b,w,.bool b,σ,?_,hk,hp.relx (.pure _ _ (.bool _))⟩
  simp [execOp,ho,hg,h1]
 ·refine ⟨.bool (!b),w,.bool (!b),σ,?_,hk,hp.relx (.pure _ _ (.bool _))⟩
  simp [execOp,ho,hg,h2]
 ·exact hk.elim
theorem eY {C:Ctx} {o:Oper} {σ:St} {K:V→St→Prop} {op:BinOp} {t t':TypeId} {x y:Operand} (ho:o.op= .binOp op t x y t') {l r:List V} {ks:List Kd} (hx:σ.val x= .agg l) (hy:σ.val y= .agg r) (hs:SQ C.P t=some ks) (h:L9 op ks l r K σ):Bc C o σ K:=by
 unfold SQ at hs
 split at hs
 ·rename_i fs hu
  split at hs
  ·cases hs
  ·rename_i hn
   simp only [Bool.or_eq_true,not_or,Bool.not_eq_true] at hn
   refine eX ho fun a w I bl hp=>?_
   have h1:=hp.val x;rw [hx] at h1
   have h2:=hp.val y;rw [hy] at h2
   obtain ⟨vs,e1,l1,_,r1⟩:=h1.inv_agg
   obtain ⟨us,e2,l2,_,r2⟩:=h2.inv_agg
   have hcell:∀{vs:List Value} {l:List V},vs.length=l.length→(∀(i:Nat) (v:Value) (c:V),vs[i]?=some v→l[i]?=some c→Rep w I bl v c)→∀(i:Nat) (x:V),l[i]?=some x→∃v,vs[0+i]?=some v∧Rep w I bl v x:=by
    intro vs l hl hr i x hx
    have hlt:i < vs.length:=by rw [hl];exact (List.getElem?_eq_some_iff.1 hx).1
    rw [Nat.zero_add]
    exact ⟨vs[i],List.getElem?_eq_getElem hlt,hr i _ x (List.getElem?_eq_getElem hlt) hx⟩
   obtain ⟨b,hk,hb⟩:=bh (P:=C.P) (w:=w) (I:=I) (bl:=bl) (m:=9998) (xs:=vs) (ys:=us) ks 0 fs.toList l r hs (hcell l1 r1) (hcell l2 r2) h
   have hf:C.P.fieldsOf t=fs:=by unfold Program.fieldsOf;rw [hu]
   have hr:(Op.equal t (a.eval x) (a.eval y)).run C.P w= .ok b w:=by
    rw [e1,e2]
    have:=run_equalIn_struct (P:=C.P) w 9999 t vs.toArray us.toArray (by rw [hf];exact hu) hn.1
    rw [hf] at this
    exact this.trans hb
   refine ⟨b,hk,hr,fun op'=>?_,?_,?_⟩
   ·rw [e1,e2]
    unfold eqGuard
    cases op'<;>simp [run_program,hn.2]
   ·rw [e1,e2] at hr ⊢
    simp [binOp,hr]
   ·rw [e1,e2] at hr ⊢
    simp [binOp,hr]
 ·cases hs
def Pb (P:Program) (t:TypeId) (op:BinOp) (x y:V) (K:V→St→Prop) (σ:St):Prop:=
 match x,y with
 | .agg l,.agg r=>match SQ P t with|some ks=>L9 op ks l r K σ|none=>False
 | x,y=>L4 P t op x y K σ
def TJ (P:Program) (t:TypeId) (op:BinOp) (x y:V) (K:V→St→Prop) (σ:St):Prop:=
 match x,y with
 | .agg l,.agg r=>match SQ P t with|some ks=>L9 op ks l r K σ|none=>False
 | x,y=>YS P t op x y K σ
theorem bk {C:Ctx} {o:Oper} {σ:St} {K:V→St→Prop} {op:BinOp} {t t':TypeId} {x y:Operand} (ho:o.op= .binOp op t x y t') (h:Pb C.P t op (σ.val x) (σ.val y) K σ):Bc C o σ K:=by
 unfold Pb at h
 split at h
 ·rename_i l r hx hy
  split at h
  ·rename_i ks hs
   exact eY ho hx hy hs h
  ·exact h.elim
 ·exact bX ho h
theorem Bu {P:Program} {t:TypeId} {op:BinOp} {x y:V} {K:V→St→Prop} {σ:St} (h:L4 P t op x y K σ):Pb P t op x y K σ:=by
 unfold Pb
 split
 ·exact (h:False).elim
 ·exact h
theorem WV {P:Program} {t:TypeId} {op:BinOp} {x y:V} {K:V→St→Prop} {σ:St} (h:TJ P t op x y K σ):Pb P t op x y K σ:=by
 unfold TJ at h
 unfold Pb
 split at h
 ·exact h
 ·exact WS h
end Go.Proofs.YtkaiffheakalmaaGreatDoor
