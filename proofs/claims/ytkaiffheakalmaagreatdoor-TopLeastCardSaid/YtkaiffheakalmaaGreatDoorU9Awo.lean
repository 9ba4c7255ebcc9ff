/- Copied, stripped. No conditions. -/
import Derived.Test.YtkaiffheakalmaaGreatDoorU9Awn
import Derived.RangeFuncRecord
set_option linter.unusedSimpArgs false
set_option linter.unusedVariables false
set_option maxRecDepth 100000
namespace Go.Proofs.YtkaiffheakalmaaGreatDoor
open Go.RowKit
def RG (a b:Int):Int:=if b > a then b else a
def RH (a b:Int):Int:=if b < a then b else a
def IE (f:Int→Int→Int) (x y:V) (K:V→St→Prop) (σ:St):Prop:=
  match x,y with
  | .int k a,.int _ b=>K (.int k (f a b)) σ
  | _,_=>False
theorem c7 {C:Ctx} {o:Oper} {σ:St} {K:V→St→Prop} {ts:Array TypeId} {x y:Operand} (ho:o.op= .call { callee:=.builtin .max,args:=#[x,y],argTypes:=ts}) (h:IE RG (σ.val x) (σ.val y) K σ):BR C o σ K:=by
  unfold IE at h
  split at h
  . rename_i k a k' b hx hy
    refine AW _ h fun ac w I bl hp=>⟨.int k (RG a b),?_,.pure _ _ (.int _ _)⟩
    have h1:=hp.val x;rw [hx] at h1
    have h2:=hp.val y;rw [hy] at h2
    simp [execOp,ho,resolve,invoke,builtin,h1.inv_int,h2.inv_int,Builtin.max_,Builtin.max2,RG]
  . exact h.elim
theorem c8 {C:Ctx} {o:Oper} {σ:St} {K:V→St→Prop} {ts:Array TypeId} {x y:Operand} (ho:o.op= .call { callee:=.builtin .min,args:=#[x,y],argTypes:=ts}) (h:IE RH (σ.val x) (σ.val y) K σ):BR C o σ K:=by
  unfold IE at h
  split at h
  . rename_i k a k' b hx hy
    refine AW _ h fun ac w I bl hp=>⟨.int k (RH a b),?_,.pure _ _ (.int _ _)⟩
    have h1:=hp.val x;rw [hx] at h1
    have h2:=hp.val y;rw [hy] at h2
    simp [execOp,ho,resolve,invoke,builtin,h1.inv_int,h2.inv_int,Builtin.min_,Builtin.min2,RH]
  . exact h.elim
def Fd (c:UInt8):V:=.int .u8 c.toNat
def Hc (C:Ctx) (s t:TypeId) (x:V) (K:V→St→Prop) (σ:St):Prop:=
  match x with
  | .lst _|.sl _ _ _|.nils=>(∃e,EI C.P s=some (e,1)∧N0 C.P e=some .u8)∧Du C.P t=true∧GU σ 1 x fun els=>∃bs:List UInt8,els=bs.map Fd∧bs.length≤maxLen∧K (.str bs) σ
  | _=>False
theorem RI (bs:List UInt8):∀acc:ByteArray,(bs.foldl (fun s c=>s.push c) acc).data.toList=acc.data.toList++bs:=by
  induction bs with
  | nil=>intro acc;simp
  | cons c bs ih=>intro acc;rw [List.foldl_cons,ih];simp [ByteArray.push]
theorem RJ {P:Program} {w:World} {body:Value→ByteArray→Sem (ForInStep ByteArray)} (hb:∀(c:UInt8) (s:ByteArray),(body (.int .u8 c.toNat) s).run P w= .ok (.yield (s.push c)) w) (bs:List UInt8) (acc:ByteArray):
    (forIn (m:=Sem) (bs.map fun c=>Value.int .u8 c.toNat) acc body).run P w= .ok (bs.foldl (fun s c=>s.push c) acc) w:=by
  induction bs generalizing acc with
  | nil=>simp
  | cons c bs ih=>
    simp only [List.map_cons,List.forIn_cons,Sem.run_bind,List.foldl_cons,hb,Result.andThen_ok]
    exact ih _
theorem Kx {C:Ctx} {o:Oper} {σ:St} {K:V→St→Prop} {s t:TypeId} {x:Operand} (ho:o.op= .convert s t x) (h:Hc C s t (σ.val x) K σ):BR C o σ K:=by
  have h':(∃e,EI C.P s=some (e,1)∧N0 C.P e=some .u8)∧Du C.P t=true∧(∀b,σ.val x≠.str b)∧GU σ 1 (σ.val x) fun els=>∃bs:List UInt8,els=bs.map Fd∧bs.length≤maxLen∧K (.str bs) σ:=by
    unfold Hc at h
    split at h
    . rename_i l hx;exact ⟨h.1,h.2.1,by rw [hx];simp,h.2.2⟩
    . rename_i a b c hx;exact ⟨h.1,h.2.1,by rw [hx];simp,h.2.2⟩
    . rename_i hx;exact ⟨h.1,h.2.1,by rw [hx];simp,h.2.2⟩
    . exact h.elim
  obtain ⟨⟨e,hei,hk⟩,hst,hns,hsrc⟩:=h'
  obtain ⟨els,⟨bs,rfl,hbl,hK⟩,hs⟩:=V1 hsrc
  obtain ⟨hu,_,_⟩:=EH hei
  have hue:C.P.underlying e=some (.int .u8):=by
    unfold N0 at hk
    split at hk
    . rename_i k' he;simp only [Option.some.injEq] at hk;subst hk;exact he
    . cases hk
  refine Am fun a w I bl hp=>?_
  obtain ⟨news,hsrc'⟩:=hs a w I bl hp
  have hn:news=bs.map fun c=>Value.int .u8 c.toNat:=by
    have hc:=hsrc'.cells
    apply List.ext_getElem?
    intro i
    have hlen:news.length=bs.length:=by rw [hc.1];simp
    by_cases hi:i < bs.length
    . have h1:news[i]?=some news[i]:=List.getElem?_eq_getElem (by omega)
      have h2:(bs.map Fd)[i]?=some (Fd bs[i]):=by simp [hi]
      have:=hc.2.2.2 i (Fd bs[i]) 0 (Fd bs[i]) news[i] h2 rfl (by simp)
      rw [h1,this.inv_int]
      simp [hi]
    . rw [List.getElem?_eq_none (by omega),List.getElem?_eq_none (by simp;omega)]
  have hlen:=hsrc'.len w
  have hfirst:=hsrc'.first w rfl
  have hsl:∃q n c,a.eval x= .slice q n c:=by
    have hv:=hp.val x
    cases hx:σ.val x with
    | str b=>exact absurd hx (hns b)
    | lst l=>rw [hx] at hv;obtain ⟨q,n,c,e,_⟩:=N9 hv;exact ⟨q,n,c,e⟩
    | sl i1 i2 i3=>rw [hx] at hv;obtain ⟨q,n,c,e,_⟩:=RF hv;exact ⟨q,n,c,e⟩
    | nils=>rw [hx] at hv;exact ⟨_,_,_,hv.inv_nils⟩
    | _=>rw [hx] at hsrc;simp [GU] at hsrc
  obtain ⟨q,n,c,hq⟩:=hsl
  rw [hq] at hlen hfirst
  have hnl:n=bs.length:=by simpa [Builtin.lenOf] using hlen
  subst hnl
  have hrun:(Conv.bytesToString (.slice q bs.length c)).run C.P w= .ok (.string (bs.foldl (fun s c=>s.push c) ByteArray.empty)) w:=by
    cases q with
    | none=>
      have:news=[]:=by simpa [Builtin.firstCells] using hfirst.symm
      rw [hn] at this
      have:bs=[]:=by simpa using this
      subst this
      simp [Conv.bytesToString]
    | some q=>
      have hld:(loadCells q bs.length).run C.P w= .ok news.toArray w:=by simpa [Builtin.firstCells] using hfirst
      unfold Conv.bytesToString
      simp only [Sem.run_bind,hld,Result.andThen_ok,hn]
      rw [List.forIn_toArray,RJ (fun c s=>by simp)]
      simp
  have hd:=RI bs ByteArray.empty
  have hd:(bs.foldl (fun s c=>s.push c) ByteArray.empty).data.toList=bs:=by rw [hd];rfl
  refine ⟨.string (bs.foldl (fun s c=>s.push c) ByteArray.empty),w,.str bs,σ,?_,hK,hp.relx ?_⟩
  . simp only [execOp,ho,hq]
    have:(convert s t (.slice q bs.length c)).run C.P w= .ok (.string (bs.foldl (fun s c=>s.push c) ByteArray.empty)) w:=by
      unfold convert
      simp only [Sem.run_bind,run_underlying hu,run_underlying (Ea hst),Result.andThen_ok,run_underlying hue]
      exact hrun
    simp [this]
  . have:=Pr.str (w:=w) (I:=I) (bs.foldl (fun s c=>s.push c) ByteArray.empty) (by
      show (bs.foldl (fun s c=>s.push c) ByteArray.empty).data.size≤maxLen
      rw [←Array.length_toList,hd];exact hbl)
    rw [hd] at this
    exact .pure _ _ this
def WD (P:Program) (t:TypeId) (op:BinOp) (x y:V) (K:V→St→Prop) (σ:St):Prop:=
  match x,y with
  | .int k a,.int k' b=>Kw P t op (.int k a) (.int k' b) K σ
  | x,y=>J1 P t op x y K σ
theorem UQ {P:Program} {t:TypeId} {op:BinOp} {x y:V} {K:V→St→Prop} {σ:St} (h:WD P t op x y K σ):Kw P t op x y K σ:=by
  unfold WD at h
  split at h
  . exact h
  . exact GZ h
theorem RP.newObB {C:Ctx} {σ:St} {a:Act} {w:World} {I:Nat→Prop} {bl:Nat→Option BI} (hp:RP C σ a w I bl) (obj:Obj) (ob:Ob) (z:Nat) {base:Nat}
    (hob:ObRep (w.alloc obj) I (Fo bl (AG σ.heap) ⟨some w.heap.size,base,z⟩) (AG σ.heap) ob):
    RP C { σ with heap:=Aj σ.heap ob} a (w.alloc obj) I (Fo bl (AG σ.heap) ⟨some w.heap.size,base,z⟩):=by
  have hl:=Dx I w obj (fun b hb=>(hp.heap.imm b hb).1)
  have hb:∀k i,bl k=some i→Fo bl (AG σ.heap) ⟨some w.heap.size,base,z⟩ k=some i:=fun k i h=>by rw [Ac (hp.live_ne h)];exact h
  refine ⟨hp.defers,hp.env.later hl (fun _ h=>h) hb,⟨?_,?_,?_,?_,?_,hp.heap.kept.alloc _⟩⟩
  . intro id o ho
    by_cases hid:id=AG σ.heap
    . subst hid
      rw [Bv] at ho
      simp only [Option.some.injEq] at ho
      subst ho
      exact hob
    . simp only [BT _ _ _ hid] at ho
      refine (hp.heap.obj id o ho).later hl (fun _ h=>h) hb ?_ (fun h=>by rw [Ac hid];exact h)
      intro i b h1 h2
      exact A8 w _ b (hp.heap.own id i b h1 h2).1
  . intro id i h
    by_cases hid:id=AG σ.heap
    . subst hid;exact ⟨_,Bv _ _⟩
    . rw [Ac hid] at h
      obtain ⟨o,ho⟩:=hp.heap.live id i h
      exact ⟨o,by simp only [BT _ _ _ hid];exact ho⟩
  . intro id id' i i' b h1 h2 h3 h4
    by_cases hid:id=AG σ.heap
    . by_cases hid':id'=AG σ.heap
      . rw [hid,hid']
      . subst hid
        rw [AX] at h1
        simp only [Option.some.injEq] at h1
        subst h1
        simp only [Option.some.injEq] at h3
        rw [Ac hid'] at h2
        have:=(hp.heap.own id' i' b h2 h4).1
        omega
    . rw [Ac hid] at h1
      by_cases hid':id'=AG σ.heap
      . subst hid'
        rw [AX] at h2
        simp only [Option.some.injEq] at h2
        subst h2
        simp only [Option.some.injEq] at h4
        have:=(hp.heap.own id i b h1 h3).1
        omega
      . rw [Ac hid'] at h2
        exact hp.heap.apart id id' i i' b h1 h2 h3 h4
  . intro id i b h1 h2
    by_cases hid:id=AG σ.heap
    . subst hid
      rw [AX] at h1
      simp only [Option.some.injEq] at h1
      subst h1
      simp only [Option.some.injEq] at h2
      subst h2
      refine ⟨by simp,fun h=>?_,.inr hp.heap.kept.size⟩
      have:=(hp.heap.imm _ h).1
      omega
    . rw [Ac hid] at h1
      obtain ⟨h3,h4,h5⟩:=hp.heap.own id i b h1 h2
      exact ⟨by simp;omega,h4,h5⟩
  . intro k hk
    obtain ⟨h1,h2⟩:=hp.heap.imm k hk
    exact ⟨by simp;omega,h2⟩
def WE (C:Ctx) (s t:TypeId) (b:List UInt8) (K:V→St→Prop) (σ:St):Prop:=
  ∃e,EI C.P t=some (e,1)∧N0 C.P e=some .u8∧Du C.P s=true∧K (.sl (AG σ.heap) 0 b.length) { σ with heap:=Aj σ.heap (.row 1 (b.map Fd))}
theorem RP.newOb {C:Ctx} {σ:St} {a:Act} {w:World} {I:Nat→Prop} {bl:Nat→Option BI} (hp:RP C σ a w I bl) (obj:Obj) (ob:Ob) (z:Nat)
    (hob:ObRep (w.alloc obj) I (Fo bl (AG σ.heap) ⟨some w.heap.size,0,z⟩) (AG σ.heap) ob):
    RP C { σ with heap:=Aj σ.heap ob} a (w.alloc obj) I (Fo bl (AG σ.heap) ⟨some w.heap.size,0,z⟩):=hp.newObB obj ob z hob
theorem Yn {C:Ctx} {o:Oper} {σ:St} {K:V→St→Prop} {s t:TypeId} {x:Operand} {b:List UInt8} (ho:o.op= .convert s t x) (hx:σ.val x= .str b) (h:WE C s t b K σ):BR C o σ K:=by
  obtain ⟨e,hei,hk,hst,hK⟩:=h
  obtain ⟨hu,_,_⟩:=EH hei
  have hue:C.P.underlying e=some (.int .u8):=by
    unfold N0 at hk
    split at hk
    . rename_i k' he;simp only [Option.some.injEq] at hk;subst hk;exact he
    . cases hk
  refine Am fun a w I bl hp=>?_
  have hv:=hp.val x
  rw [hx] at hv
  obtain ⟨bs,hbs,rfl,hmax⟩:=hv.inv_str
  have hsz:bs.data.toList.length=bs.size:=by simp
  have hge:=grownCap_ge w bs.size 0 e
  have hcm:=grownCap_le_maxLen w bs.size 0 e hmax
  have hrun:=run_bytes_of_string (P:=C.P) w s t e bs (Ea hst) hu hue
  have hrs:(bytesRow bs (grownCap w bs.size 0 e)).size=grownCap w bs.size 0 e:=by
    simp only [bytesRow,Array.size_append,Array.size_map,Array.size_replicate]
    have:bs.data.size=bs.size:=rfl
    omega
  have hget:∀(i:Nat) (c:UInt8),bs.data.toList[i]?=some c→(bytesRow bs (grownCap w bs.size 0 e))[i]?=some (.int .u8 c.toNat):=by
    intro i c hc
    have hi:=(List.getElem?_eq_some_iff.1 hc).1
    unfold bytesRow
    rw [Array.getElem?_append_left (by simpa using hi),Array.getElem?_map,←Array.getElem?_toList,hc]
    rfl
  have hob:=hp.drew.newOb (.cells (bytesRow bs (grownCap w bs.size 0 e)) e ((bytesRow bs (grownCap w bs.size 0 e)).size,(bytesRow bs (grownCap w bs.size 0 e)).size+1)) (.row 1 (bs.data.toList.map Fd)) 1 (by
    refine ⟨_,AX _ _ _,rfl,fun i y hy=>?_,bytesRow bs (grownCap w bs.size 0 e),e,⟨_,.inr ⟨rfl,Nat.le_refl _⟩,heap_alloc_new w.drew _⟩,?_,fun i y j c hy hc=>?_⟩
    . rw [List.getElem?_map] at hy
      cases h1:bs.data.toList[i]? with
      | none=>simp [h1] at hy
      | some c=>simp [h1] at hy;subst hy;rfl
    . rw [hrs,List.length_map,hsz];simp only;omega
    . rw [List.getElem?_map] at hy
      cases h1:bs.data.toList[i]? with
      | none=>simp [h1] at hy
      | some d=>
        simp [h1] at hy
        subst hy
        cases j with
        | succ j=>simp [Fd,V.cells] at hc
        | zero=>
          simp only [Fd,V.cells,List.getElem?_cons_zero,Option.some.injEq] at hc
          subst hc
          refine ⟨.int .u8 d.toNat,?_,rfl,.pure _ _ (.int _ _)⟩
          simp only [Nat.zero_add,Nat.mul_one,Nat.add_zero]
          exact hget i d h1)
  refine ⟨.slice (some ⟨w.heap.size,0,none⟩) bs.size (grownCap w bs.size 0 e),_,_,_,?_,hK,hob.relx ?_⟩
  . simp only [execOp,ho,hbs,Sem.run_bind,hrun,Result.andThen_ok]
    rfl
  . rw [hsz]
    have:=Rep.sl (w:=w.drew.alloc (.cells (bytesRow bs (grownCap w bs.size 0 e)) e ((bytesRow bs (grownCap w bs.size 0 e)).size,(bytesRow bs (grownCap w bs.size 0 e)).size+1))) (I:=I) (bl:=Fo bl (AG σ.heap) ⟨some w.drew.heap.size,0,1⟩) (AG σ.heap) 0 bs.size (grownCap w bs.size 0 e) w.drew.heap.size 0 1 (bytesRow bs (grownCap w bs.size 0 e)).size e (AX bl _ _) (by
      simp only [World.shape?]
      rw [heap_alloc_new w.drew _]) (by rw [hrs];omega) hge hcm
    simpa using this
def Ky (C:Ctx) (s t:TypeId) (x:V) (K:V→St→Prop) (σ:St):Prop:=
  match x with
  | .lst l=>Hc C s t (.lst l) K σ
  | .sl a b c=>Hc C s t (.sl a b c) K σ
  | .nils=>Hc C s t .nils K σ
  | .str b=>GD C.P s t (.str b) K σ∨WE C s t b K σ
  | x=>GD C.P s t x K σ
theorem WG {C:Ctx} {o:Oper} {σ:St} {K:V→St→Prop} {s t:TypeId} {x:Operand} (ho:o.op= .convert s t x) (h:Ky C s t (σ.val x) K σ):BR C o σ K:=by
  unfold Ky at h
  split at h
  . rename_i hx;exact Kx ho (hx▸h)
  . rename_i hx;exact Kx ho (hx▸h)
  . rename_i hx;exact Kx ho (hx▸h)
  . rename_i b hx
    rcases h with h|h
    . exact S3 ho (hx▸h)
    . exact Yn ho hx h
  . exact S3 ho h
theorem Mn {C:Ctx} {s t:TypeId} {x:V} {K:V→St→Prop} {σ:St} (h:GD C.P s t x K σ):Ky C s t x K σ:=by
  unfold Ky
  split
  all_goals first|exact h|exact .inl h|exact (h:False).elim
def M7 (C:Ctx) (s t:TypeId) (x:V) (K:V→St→Prop) (σ:St):Prop:=
  match x with
  | .lst l=>Hc C s t (.lst l) K σ
  | x=>GD C.P s t x K σ
theorem RK {C:Ctx} {s t:TypeId} {x:V} {K:V→St→Prop} {σ:St} (h:M7 C s t x K σ):Ky C s t x K σ:=by
  unfold M7 at h
  split at h
  . exact h
  . exact Mn h
theorem IF {I:Nat→Prop} {w:World} {b:Nat} {o0 o:Obj} (hg:w.heap[b]?=some o0) (h0:∀c e f,o0≠.cells c e f) (hI:¬I b):Later I w (w.putObj b o):=by
  refine ⟨fun k hk=>World.putObj_heap_other (fun e=>hI (e▸hk)),fun k s hs=>?_⟩
  by_cases hk:k=b
  . subst hk
    simp only [World.shape?,hg] at hs
    cases o0<;>simp at hs
    exact absurd rfl (h0 _ _ _)
  . rw [B0 (World.putObj_heap_other hk)]
    exact hs
theorem RP.setOb {C:Ctx} {σ:St} {a:Act} {w:World} {I:Nat→Prop} {bl:Nat→Option BI} (hp:RP C σ a w I bl) {id b base z:Nat} (hbl:bl id=some ⟨some b,base,z⟩) {o0 o:Obj} (hg:w.heap[b]?=some o0) (h0:∀c e f,o0≠.cells c e f) (ob:Ob)
    (hob:ObRep (w.putObj b o) I bl id ob):RP C { σ with heap:=σ.heap.set id (some ob)} a (w.putObj b o) I bl:=by
  obtain ⟨hlt,hnI,hE⟩:=hp.heap.own id _ b hbl rfl
  have hl:=IF (o:=o) hg h0 hnI
  obtain ⟨oo,hoo⟩:=hp.heap.live id _ hbl
  have hid:id < σ.heap.length:=(List.getElem?_eq_some_iff.1 hoo).1
  refine ⟨hp.defers,hp.env.later hl (fun _ h=>h) (fun _ _ h=>h),⟨?_,?_,hp.heap.apart,?_,?_,?_⟩⟩
  . intro k o' ho
    by_cases hk:k=id
    . subst hk
      simp only [List.getElem?_set_self hid,Option.some.injEq] at ho
      subst ho
      exact hob
    . simp only [List.getElem?_set_ne (Ne.symm hk)] at ho
      refine (hp.heap.obj k o' ho).later hl (fun _ h=>h) (fun _ _ h=>h) (fun i b' h1 h2=>World.putObj_heap_other fun e=>hk ?_) (fun h=>h)
      subst e
      exact hp.heap.apart k id i _ b' h1 hbl h2 rfl
  . intro k i h
    by_cases hk:k=id
    . subst hk;exact ⟨ob,by simp only [List.getElem?_set_self hid]⟩
    . obtain ⟨o',ho⟩:=hp.heap.live k i h
      exact ⟨o',by simp only [List.getElem?_set_ne (Ne.symm hk)];exact ho⟩
  . intro k i b' h1 h2
    obtain ⟨h3,h4,h5⟩:=hp.heap.own k i b' h1 h2
    exact ⟨by simpa using h3,h4,h5⟩
  . intro k hk
    obtain ⟨h1,h2⟩:=hp.heap.imm k hk
    exact ⟨by simpa using h1,h2⟩
  . have hk:=hp.heap.kept
    refine ⟨hk.os,hk.tape,hk.output,by simpa using hk.size,fun k h1 h2=>?_,fun k s hs=>(IF (I:=fun _=>False) (o:=o) hg h0 (fun h=>h)).shape k s (hk.shape k s hs)⟩
    rw [World.putObj_heap_other (fun e=>by subst e;rcases hE with h|h;exact h2 h;omega)]
    exact hk.block k h1 h2
def WH (s:List UInt8) (pos:Nat):Nat×Nat:=Utf8.decode ⟨s.toArray⟩ pos
def Kz (C:Ctx) (t:TypeId) (x:V) (K:V→St→Prop) (σ:St):Prop:=
  match x with
  | .str s=>Du C.P t=true∧K (.it (AG σ.heap)) { σ with heap:=Aj σ.heap (.iter s 0)}
  | _=>False
def PQ (x:V) (isString:Bool) (K:V→St→Prop) (σ:St):Prop:=
  match x with
  | .it id=>isString=true∧match σ.heap[id]? with
    | some (some (.iter s pos))=>(pos < s.length→K (.tup [.bool true,.int .i64 pos,.int .i32 (WH s pos).1]) { σ with heap:=σ.heap.set id (some (.iter s (pos+(WH s pos).2)))})∧(¬pos < s.length→K (.tup [.bool false]) σ)
    | _=>False
  | _=>False
theorem WI {C:Ctx} {o:Oper} {σ:St} {K:V→St→Prop} {t:TypeId} {x:Operand} (ho:o.op= .range t x) (h:Kz C t (σ.val x) K σ):BR C o σ K:=by
  unfold Kz at h
  split at h
  . rename_i s hx
    obtain ⟨hs,hk⟩:=h
    refine Am fun a w I bl hp=>?_
    have hv:=hp.val x
    rw [hx] at hv
    obtain ⟨p,hp1,rfl,hsz⟩:=hv.inv_str
    refine ⟨.pointer (some ⟨w.heap.size,0,none⟩),w.alloc (.stringIter p 0),_,_,?_,hk,(hp.newOb (.stringIter p 0) (.iter p.data.toList 0) 0 ⟨w.heap.size,0,0,p,AX _ _ _,heap_alloc_new w _,rfl,hsz⟩).relx ?_⟩
    . simp only [execOp,ho,hp1]
      simp [Instr.range,run_underlying (Ea hs),newObj,Sem.run]
    . exact .it _ _ 0 0 (AX _ _ _)
  . exact h.elim
def S7 (t:TypeId) (x:V):Ob:=match x with|.agg [.nilp,.nils]=>.bld t (some (1000000,0))|x=>.row x.cells.length [x]
def Hd (C:Ctx) (t:TypeId) (K:V→St→Prop) (σ:St):Prop:=
  match ZV C.P t with
  | some x=>K (.ptr (AG σ.heap) 0 0) { σ with heap:=Aj σ.heap (S7 t x)}
  | none=>False
theorem UR {C:Ctx} {o:Oper} {σ:St} {K:V→St→Prop} {t:TypeId} (ho:o.op= .alloc t) (h:Hd C t K σ):BR C o σ K:=by
  unfold Hd at h
  split at h
  . rename_i x hx
    by_cases hb:x= .agg [.nilp,.nils]
    . subst hb
      obtain ⟨z,hz,hp0,h1⟩:=KF hx
      refine Am fun a w I bl hp=>?_
      obtain ⟨vs,rfl,hl,ho1,hr⟩:=(Rep.pure (bl:=bl) _ _ (hp0 w I)).inv_agg
      match vs,hl with
      | [p,v],_=>
        have e1:p= .pointer none:=(hr 0 p .nilp rfl rfl).inv_nilp
        have e2:v= .slice none 0 0:=(hr 1 v .nils rfl rfl).inv_nils
        subst e1;subst e2
        have hob:ObRep (w.alloc (.cells #[.pointer none,.slice none 0 0] t)) I (Fo bl (AG σ.heap) ⟨some w.heap.size,0,2⟩) (AG σ.heap) (.bld t (some (1000000,0))):=
          ⟨w.heap.size,_,_,AX _ _ _,heap_alloc_new w _,.inl rfl,rfl,.pure _ _ .nils⟩
        refine ⟨.pointer (some ⟨w.heap.size,0,none⟩),w.alloc (.cells #[.pointer none,.slice none 0 0] t),_,_,?_,h,(hp.newOb _ _ 2 hob).relx ?_⟩
        . simp [execOp,ho,Instr.alloc,Do hz,newVar,newRow,Value.cells]
        . have:=Rep.ptr (w:=w.alloc (.cells #[.pointer none,.slice none 0 0] t)) (I:=I) (bl:=Fo bl (AG σ.heap) ⟨some w.heap.size,0,2⟩) (AG σ.heap) 0 0 w.heap.size 0 2 2 t (AX _ _ _) (ET w _ t)
          simpa using this
    . refine Vz ho ?_
      unfold Q2
      rw [hx]
      have:S7 t x= .row x.cells.length [x]:=by
        unfold S7
        split
        . exact absurd rfl hb
        . rfl
      simp only
      rw [this] at h
      exact h
  . exact h.elim
theorem Yo {C:Ctx} {o:Oper} {σ:St} {K:V→St→Prop} {b:Bool} {x:Operand} (ho:o.op= .next x b) (h:PQ (σ.val x) b K σ):BR C o σ K:=by
  unfold PQ at h
  split at h
  . rename_i id hx
    obtain ⟨rfl,h⟩:=h
    split at h
    . rename_i s pos hob
      refine Am fun a w I bl hp=>?_
      have hv:=hp.val x
      rw [hx] at hv
      obtain ⟨b0,base0,z0,hbl0,hv⟩:=hv.inv_it
      obtain ⟨b,base,z,p,hbl,hg,rfl,hsz⟩:=hp.heap.obj id _ hob
      rw [hbl] at hbl0
      simp only [Option.some.injEq,BI.mk.injEq] at hbl0
      obtain ⟨rfl,rfl,rfl⟩:=hbl0
      have hget:(getObj b).run C.P w= .ok (.stringIter p pos) w:=by simp [getObj,Sem.run,hg]
      by_cases hlt:pos < p.size
      . have hset:(setObj b (.stringIter p (pos+(Utf8.decode p pos).2))).run C.P w= .ok () (w.putObj b (.stringIter p (pos+(Utf8.decode p pos).2))):=by simp [setObj,Sem.run,hg,World.putObj]
        refine ⟨.tuple #[.bool true,goInt pos,.int .i32 (Utf8.decode p pos).1],w.putObj b (.stringIter p (pos+(Utf8.decode p pos).2)),_,_,?_,h.1 hlt,(hp.setOb hbl hg (by simp) (.iter p.data.toList (pos+(Utf8.decode p pos).2)) ⟨b,base,z,p,hbl,World.putObj_heap_same (hp.heap.own id _ b hbl rfl).1,rfl,hsz⟩).relx ?_⟩
        . simp only [execOp,ho,hv]
          simp [i7,Instr.next,hget,hlt,hset]
        . exact .pure _ _ (.tup [.bool true,goInt pos,.int .i32 (Utf8.decode p pos).1] [.bool true,.int .i64 pos,.int .i32 (Utf8.decode p pos).1] rfl (by
            intro i v c hv hc
            match i with
            | 0=>simp at hv hc;subst hv;subst hc;exact .bool _
            | 1=>simp at hv hc;subst hv;subst hc;exact .int _ _
            | 2=>simp at hv hc;subst hv;subst hc;exact .int _ _
            | i+3=>simp at hv))
      . refine ⟨.tuple #[.bool false],w,_,_,?_,h.2 hlt,hp.relx ?_⟩
        . simp only [execOp,ho,hv]
          simp [i7,Instr.next,hget,hlt]
        . exact .pure _ _ (.tup [.bool false] [.bool false] rfl (by
            intro i v c hv hc
            match i with
            | 0=>simp at hv hc;subst hv;subst hc;exact .bool _
            | i+1=>simp at hv))
    . exact h.elim
  . exact h.elim
end Go.Proofs.YtkaiffheakalmaaGreatDoor
