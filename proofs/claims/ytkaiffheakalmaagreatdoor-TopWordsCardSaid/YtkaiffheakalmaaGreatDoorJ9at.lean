/- Joined. No conditions. -/
import Derived.Test.YtkaiffheakalmaaGreatDoorJ9as
import Derived.Shelf.Strings.OnBuilder
import Derived.RangeFuncNested
import Derived.RangeFuncBound
import Derived.RangeFuncCalls
import Derived.RangeFuncLeaves
import Derived.RangeFuncBox
import Derived.Maps.AppendAt
import Derived.Shelf.Abstract
import Derived.Shelf.RegionOpen
import Derived.WalkKit
import Derived.OwnWalkIn
import Derived.TacticsInMore
import Derived.LoopNIn
import Derived.LoopIn
set_option linter.unusedSimpArgs false
set_option linter.unusedVariables false
set_option maxRecDepth 100000
namespace Go.Proofs.YtkaiffheakalmaaGreatDoor
open Go.RowKit Go.Shelf
theorem Ih {w w':World} (h:Below w.heap.size w w'):Kept (fun _=>False) w w':=by
 refine ⟨h.os,h.tape,h.output,h.size,fun k hk _=>h.block k hk,fun b s hs=>?_⟩
 have hb:b < w.heap.size:=by
  rcases Nat.lt_or_ge b w.heap.size with hb|hb
  ·exact hb
  ·simp only [World.shape?,Array.getElem?_eq_none hb] at hs
   cases hs
 simp only [World.shape?] at hs ⊢
 rw [h.block b hb]
 exact hs
theorem Ii {w:World} {I:Nat→Prop} {v:Value} {s:List UInt8} (h:Pr w I v (.str s)):v= .string ⟨s.toArray⟩∧s.length≤maxLen:=by
 generalize hx:V.str s=x at h
 cases h with
 | str t ht=>
   cases hx
   exact ⟨by simp,by rw [Array.length_toList];exact ht⟩
 | _=>cases hx
theorem Rq {w:World} {I:Nat→Prop} {v:Value} {xs:List (List UInt8)} (h:Pr w I v (.lst (xs.map V.str))):(∃a c,v= .slice a 0 c∧xs=[])∨
 ∃b off c,v= .slice (some ⟨b,off,none⟩) xs.length c∧I b∧xs.length≤c∧∀(j:Nat) x,(xs.map fun x=>(⟨x.toArray⟩:ByteArray))[j]?=some x→w.cell? ⟨b,off+j,none⟩=some (.string x):=by
 generalize hL:xs.map V.str=L at h
 generalize hx:V.lst L=y at h
 cases h with
 | lnil a c=>
   cases hx
   refine .inl ⟨a,c,rfl,?_⟩
   simpa using hL
 | lst b off c z l u hI hlc hcm hz hcell hone hpr=>
   cases hx
   subst hL
   by_cases h0:xs=[]
   ·subst h0
    exact .inl ⟨_,c,rfl,rfl⟩
   ·have hl:0 < xs.length:=List.length_pos_iff.2 h0
    have hz1:z=1:=by
     have:=hz 0 (.str xs[0]) (by simp [List.getElem?_eq_getElem hl])
     simpa [V.cells] using this.symm
    subst hz1
    refine .inr ⟨b,off,c,by simp,hI,by simpa using hlc,fun j x hj=>?_⟩
    rw [List.getElem?_map,Option.map_eq_some_iff] at hj
    obtain ⟨s,hs,rfl⟩:=hj
    have hjl:=(List.getElem?_eq_some_iff.1 hs).1
    have h1:=hcell j 0 (by simpa using hjl) (by decide)
    have h2:=hpr j (.str s) 0 (.str s) (by simp [hs]) rfl
    rw [(Ii h2).1] at h1
    simpa using h1
 | _=>cases hx
theorem VY {P:Program} {f:FuncId} {w:World} {I:Nat→Prop} {vs:List Value} {s:List UInt8} (hI:∀b,I b→b < w.heap.size) (hs:s.length≤140737488355328)
 (h:Calls P f vs.toArray w fun e w'=>e= .returned (.string ⟨s.toArray⟩)∧Below w.heap.size w w'):
 Calls P f vs.toArray w fun e w'=>∃v r I',e= .returned v∧r=V.str s∧Pr w' I' v r∧(∀b,I' b→b < w'.heap.size∧(I b∨w.heap.size≤b))∧Kept (fun _=>False) w w':=by
 refine h.mono ?_
 rintro e w' ⟨rfl,hb⟩
 refine ⟨_,_,I,rfl,rfl,?_,fun b hIb=>⟨Nat.lt_of_lt_of_le (hI b hIb) hb.size,.inl hIb⟩,Ih hb⟩
 have:=Pr.str (w:=w') (I:=I) (⟨s.toArray⟩:ByteArray) (by simp only [ByteArray.size,List.size_toArray,maxLen];omega)
 simpa using this
def VZ:Ren:={
 f:=fun x=>match x with|156=>73|165=>91|166=>80|169=>82|240=>96|241=>102|276=>115|277=>118|n=>n
 t:=fun x=>match x with|31=>35|9=>9|3=>3|4=>4|0=>0|20=>20|72=>138|76=>141|70=>135|37=>136|75=>140|127=>158|164=>177|5=>5|80=>144|n=>n
 g:=fun x=>x}
theorem Rr:Lays.n156 Tryz.prog VZ:={
 mixed:=by kernel_rfl
 f156:=Tryz.func73.trans (congrArg some (by kernel_rfl))
 f165:=Tryz.func91.trans (congrArg some (by kernel_rfl))
 f166:=Tryz.func80.trans (congrArg some (by kernel_rfl))
 f169:=Tryz.func82.trans (congrArg some (by kernel_rfl))
 f240:=Tryz.func96.trans (congrArg some (by kernel_rfl))
 f241:=Tryz.func102.trans (congrArg some (by kernel_rfl))
 f276:=Tryz.func115.trans (congrArg some (by kernel_rfl))
 f277:=Tryz.func118.trans (congrArg some (by kernel_rfl))
 t0:=Tryz.underlying0
 a0:=Tryz.isAgg0
 z0:=Tryz.sizeOf0
 v0:=Tryz.zeroValue0
 t3:=Tryz.underlying3
 a3:=Tryz.isAgg3
 z3:=Tryz.sizeOf3
 v3:=Tryz.zeroValue3
 t4:=Tryz.underlying4
 a4:=Tryz.isAgg4
 z4:=Tryz.sizeOf4
 v4:=Tryz.zeroValue4
 t9:=Tryz.underlying9
 a9:=Tryz.isAgg9
 z9:=Tryz.sizeOf9
 v9:=Tryz.zeroValue9
 t20:=Tryz.underlying20
 a20:=Tryz.isAgg20
 z20:=Tryz.sizeOf20
 v20:=Tryz.zeroValue20
 t31:=Tryz.underlying35
 a31:=Tryz.isAgg35
 z31:=Tryz.sizeOf35
 v31:=Tryz.zeroValue35
 t37:=Tryz.underlying136
 a37:=Tryz.isAgg136
 z37:=Tryz.sizeOf136
 v37:=Tryz.zeroValue136
 t70:=Tryz.underlying135
 a70:=Tryz.isAgg135
 z70:=Tryz.sizeOf135
 v70:=Tryz.zeroValue135
 t72:=Tryz.underlying138
 a72:=Tryz.isAgg138
 z72:=Tryz.sizeOf138
 v72:=Tryz.zeroValue138
 t75:=Tryz.underlying140
 a75:=Tryz.isAgg140
 z75:=Tryz.sizeOf140
 v75:=Tryz.zeroValue140
 t76:=Tryz.underlying141
 a76:=Tryz.isAgg141
 z76:=Tryz.sizeOf141
 v76:=Tryz.zeroValue141
 t127:=Tryz.underlying158
 a127:=Tryz.isAgg158
 z127:=Tryz.sizeOf158
 v127:=Tryz.zeroValue158
 t164:=Tryz.underlying177
 a164:=Tryz.isAgg177
 z164:=Tryz.sizeOf177
 v164:=Tryz.zeroValue177}
theorem Oo:Builder.Extra Tryz.prog VZ:={
 sizeBuilder:=by kernel_rfl
 liesBuilder:=by kernel_rfl
 t5:=Tryz.underlying5
 a5:=Tryz.isAgg5
 z5:=Tryz.sizeOf5
 v5:=Tryz.zeroValue5
 infoByte:=by kernel_rfl
 cellsByte:=by kernel_rfl
 sizeByte:=by kernel_rfl
 neB5:=by decide}
theorem Oq (xs:List (List UInt8)) (sep:List UInt8) (h1:xs.length≤140737488355328) (h2:(Lib.join xs sep).length≤140737488355328):Fn1 Tryz.prog 73 [.lst (xs.map V.str),.str sep] (fun r=>r= .str (Lib.join xs sep)):=by
 intro w I vs hl hv hI
 obtain ⟨v0,v1,rfl⟩:∃v0 v1,vs=[v0,v1]:=by
  match vs,hl with
  | [a,b],_=>exact ⟨a,b,rfl⟩
 have p0:=hv 0 v0 _ rfl rfl
 obtain ⟨rfl,hsl⟩:=Ii (hv 1 v1 _ rfl rfl)
 refine VY hI h2 ?_
 rcases Rq p0 with ⟨a,c,rfl,rfl⟩|⟨b,off,c,rfl,hb,hc,hcell⟩
 ·refine (Any.strings_Join_none Rr Oo a c ⟨sep.toArray⟩ w).mono ?_
  rintro e w' ⟨rfl,rfl⟩
  exact ⟨rfl,Below.refl _ _⟩
 ·have hm:(xs.map fun x=>(⟨x.toArray⟩:ByteArray)).map (fun x=>x.data.toList)=xs:=by
   rw [List.map_map]
   exact (List.map_congr_left (g:=id) (fun x _=>by simp)).trans (List.map_id xs)
  have hlen:(xs.map fun x=>(⟨x.toArray⟩:ByteArray)).length=xs.length:=by simp
  have:=Any.strings_Join Rr Oo b off c (xs.map fun x=>(⟨x.toArray⟩:ByteArray)) ⟨sep.toArray⟩ w hcell (hI b hb) (by rw [hlen];exact h1) (by rw [hlen];exact hc) (by rw [hm];simpa using h2)
  rw [hm,hlen] at this
  exact this.mono fun e w' h=>by simpa using h
attribute [local go_sem] Oper.semAt_some
structure VBox (w:World) (bp off:Nat) (l:List Int) (u:Value):Prop where
 lt:bp < w.heap.size
 cell:w.cell? ⟨bp,off,none⟩=some u
 is:(l=[]∧∃a cap,u= .slice a 0 cap)∨∃b o cap,u= .slice (some ⟨b,o,none⟩) l.length cap∧b < w.heap.size∧∀(i:Nat) (x:Int),l[i]?=some x→w.cell? ⟨b,o+i,none⟩=some (.int .i64 x)
def i7 (v:Value):Int:=match v with|.int _ n=>n|_=>0
set_option maxRecDepth 100000 in
set_option maxHeartbeats 8000000 in
theorem aT (ly bp off:Nat) (l:List Int) (w0:World) (u:Value) (h:VBox w0 bp off l u) (hl:l.length≤1048576) (J:List Int→World→Prop) (hJ:∀pre W,J pre W→Below w0.heap.size w0 W)
 (hY:∀(pre:List Int) (x:Int) W,J pre W→pre.length < l.length→YieldAt Fence.wide 3 Tryz.prog ly #[.int .i64 x] W fun e W'=>e= .returned (.bool true)∧J (pre++[x]) W')
 (W:World) (h0:J [] W):
 CallsIn Fence.wide 4 Tryz.prog 79 #[.func (.yield ly) #[] #[],.pointer (some ⟨bp,off,none⟩)] W fun e W'=>(∃v,e= .returned v)∧J l W':=by
 have hc:W.cell? ⟨bp,off,none⟩=some u:=((hJ _ _ h0).cell (p:=⟨bp,off,none⟩) h.lt).trans h.cell
 refine callsIn_of_wp Tryz.func79 rfl trivial ?_
 simp only [Tryz.ntmps79,List.size_toArray,List.length_cons,List.length_nil,Nat.reduceAdd,Nat.reduceSub,Array.replicate_succ,Array.replicate_zero,List.push_toArray,List.append_toArray,List.nil_append,List.cons_append]
 rcases h.is with ⟨rfl,a,cap,rfl⟩|⟨b,o,cap,rfl,hb,hel⟩
 ·gi_wp2
  gi_loopw [7] (fun vi wr=>vi= .int .i64 0∧wr=W) (fun _ _=>0)
  case atStart=>exact ⟨rfl,rfl⟩
  case round=>
   obtain ⟨rfl,rfl⟩:=hrel
   gi_wp2
   go_end0
   exact ⟨⟨_,rfl⟩,h0⟩
 ·gi_wp2
  gi_loopw [7] (fun vi wr=>∃i:Nat,vi= .int .i64 i∧i≤l.length∧J (l.take i) wr) (fun vi _=>l.length - (i7 vi).toNat)
  case atStart=>exact ⟨0,rfl,Nat.zero_le _,h0⟩
  case round=>
   obtain ⟨i,rfl,hi,hJr⟩:=hrel
   by_cases hlt:i < l.length
   ·have hg:=List.getElem?_eq_getElem hlt
    have hcx:=((hJ _ _ hJr).cell (p:=⟨b,o+i,none⟩) hb).trans (hel i _ hg)
    obtain ⟨fn,tmps,assign,body,hy,hR⟩:=hY (l.take i) l[i] _ hJr (by rw [List.length_take];omega)
    have hlt':(i:Int) < (l.length:Int):=by omega
    gi_wp2
    refine hR.mono ?_
    rintro e W3 ⟨rfl,hJ3⟩
    gi_wp2
    go_roundw
    case rel=>
     refine ⟨i+1,by simp,hlt,?_⟩
     rw [List.take_add_one,hg]
     exact hJ3
    case measure=>
     simp only [i7]
     omega
   ·have hge:¬((i:Int) < (l.length:Int)):=by omega
    gi_wp2
    go_end0
    refine ⟨⟨_,rfl⟩,?_⟩
    rw [List.take_of_length_le (by omega)] at hJr
    exact hJr
set_option maxHeartbeats 4000000 in
theorem UB {g:Operand} {p:Tmp} {assign body:Code} {Q:Exit→Act→World→Prop} {a:Act} {w wb:World} {bp off:Nat} {u:Value} (l:List Int) (hl:l.length≤1048576) (hb:VBox wb bp off l u)
 (hg:a.eval g= .func (.func 79) #[] #[.pointer (some ⟨bp,off,none⟩)]) (I:List Int→World→Prop)
 (hIb:∀pre W,I pre W→Below wb.heap.size wb W) (hIp:∀pre W o,I pre W→I pre (W.putObj (w.heap.size+1) o))
 (h0:∀o1 o2,I [] ((w.alloc o1).alloc o2)) (a1:Int→Act)
 (hassign:∀(ly:Nat) (x:Int) (W:World) (K:Act→World→Prop),K (a1 x) W→assign.wpIn (Fence.wide.inRound ly) 3 Tryz.prog (Exit.then K (fun _ _ _=>False)) { tmps:=a.tmps.setIfInBounds p (.int .i64 x),defers:=[]} W)
 (hbody:∀(ly:Nat) (pre:List Int) (x:Int) (W:World),I pre W→pre.length < l.length→w.heap.size+2≤W.heap.size→
   body.wpIn (Fence.wide.inRound ly) 3 Tryz.prog (fun e _ W'=>e= .normal∧I (pre++[x]) W'∧W'.heap[w.heap.size]?=W.heap[w.heap.size]?∧W'.heap[w.heap.size+1]?=W.heap[w.heap.size+1]?) (a1 x) W)
 (hdone:∀W,I l W→W.heap[w.heap.size]?=some (.deferred (some []))→Q .normal { a with defers:={ target:=.collected w.heap.size,args:=#[]}::a.defers} W):
 (Code.rangeFunc g #[p] assign body).wpIn Fence.wide 5 Tryz.prog Q a w:=by
 refine wpIn_rangeFunc ?_
 intro fn hfn
 obtain ⟨rec,hrec⟩:∃rec:LoopState→Loop,rec=fun st=>{ state:=st,pending:=none,fn,tmps:=a.tmps,params:=#[p],assign,body,defers:=w.heap.size}:=⟨_,rfl⟩
 obtain ⟨W1,hW1⟩:∃W1,(w.alloc (.deferred (some []))).alloc (.loop (rec .ready))=W1:=⟨_,rfl⟩
 have hR1:W1.heap[w.heap.size+1]?=some (.loop (rec .ready)):=by
  rw [←hW1];have:=World.alloc_heap_new (w.alloc (.deferred (some []))) (.loop (rec .ready));rwa [World.size_alloc] at this
 have hD1:W1.heap[w.heap.size]?=some (.deferred (some [])):=by
  rw [←hW1,BE _ _ _ (by simp)];exact World.alloc_heap_new w _
 have hI0:I [] W1:=by rw [←hW1];exact h0 _ _
 have hz1:w.heap.size+2≤W1.heap.size:=by rw [←hW1];simp
 refine ⟨w.heap.size+1,[{ target:=.collected w.heap.size,args:=#[]}],W1,{ target:=.fn (.func 79) #[.pointer (some ⟨bp,off,none⟩)],args:=#[.func (.yield (w.heap.size+1)) #[] #[]]},W1,79,
  #[.func (.yield (w.heap.size+1)) #[] #[],.pointer (some ⟨bp,off,none⟩)],W1,?_,?_,?_,?_,?_,?_⟩
 ·rw [←hW1,hrec];exact run_enterLoop_outer _ _ _ _ _
 ·simp only [resolve,hg]
  simp [go_sem]
 ·intro f' _
  trivial
 ·simp [invoke,go_sem]
 ·intro h;cases h
 ·refine (aT (w.heap.size+1) bp off l wb u hb hl (fun pre W=>I pre W∧w.heap.size+2≤W.heap.size∧W.heap[w.heap.size+1]?=some (.loop (rec .ready))∧W.heap[w.heap.size]?=some (.deferred (some []))) (fun pre W h=>hIb pre W h.1) ?_ W1 ⟨hI0,hz1,hR1,hD1⟩).mono ?_
  ·rintro pre x W ⟨h1,h2,h3,h4⟩ hx
   have hy:=run_yield (P:=Tryz.prog) (args:=#[Value.int .i64 x]) h3 (by rw [hrec];rfl)
   rw [hrec] at hy
   have ef:((#[p]:Array Tmp).zip #[Value.int .i64 x]).foldl (fun tmps (t,a)=>tmps.setIfInBounds t a) a.tmps=a.tmps.setIfInBounds p (.int .i64 x):=by simp
   simp only [] at hy
   rw [ef] at hy
   refine ⟨fn,_,assign,body,hy,roundIn_of_wpIn hfn (hassign _ x W _ ?_)⟩
   refine ⟨_,run_beginRound h3 (by rw [hrec]),?_⟩
   have h3':(W.putObj (w.heap.size+1) (.loop { rec .ready with state:=.busy})).heap[w.heap.size+1]?=some (.loop { rec .ready with state:=.busy}):=World.putObj_heap_same (by omega)
   have h4':(W.putObj (w.heap.size+1) (.loop { rec .ready with state:=.busy})).heap[w.heap.size]?=some (.deferred (some [])):=(World.putObj_heap_other (by omega)).trans h4
   refine wpIn_mono (hbody _ pre x _ (hIp _ _ _ h1) hx (by simpa using h2)) ?_
   rintro e a3 W3 ⟨rfl,q1,q3,q4⟩
   rw [h4'] at q3
   rw [h3'] at q4
   have hlt3:=(Array.getElem?_eq_some_iff.1 q4).1
   refine ⟨_,_,run_endRound none q4,rfl,hIp _ _ _ q1,by simp;omega,?_,(World.putObj_heap_other (by omega)).trans q3⟩
   rw [World.putObj_heap_same hlt3,hrec]
   rfl
  ·rintro e W2 ⟨⟨v,rfl⟩,h1,h2,h3,h4⟩
   have:=run_endLoop (P:=Tryz.prog) h3 (by rw [hrec];simp)
   exact ⟨_,_,this,by
    rw [hrec]
    exact hdone _ (hIp _ _ _ h1) ((World.putObj_heap_other (by omega)).trans h4)⟩
theorem Vu {x:Int}:∀u∈[Value.int .i64 x],u.oneCell'=true:=by
 intro u hu
 rw [List.mem_singleton] at hu
 subst hu
 rfl
theorem Vv:(Tryz.prog.info? 3).map (fun i=>(i.zero,i.size,i.bytes))=some (some (.int .i64 0),1,8):=by kernel_rfl
structure SInv (o:Nat) (w0 W:World) (acc:List Int):Prop where
 below:Below o w0 W
 out:∃v,Boxed W o 22 v∧W.ownsRow (o+3) 3 1 v acc.length (acc.map (Value.int .i64))
 size:o+1≤W.heap.size
theorem SInv.put {o:Nat} {w W:World} {a:List Int} (ob:Obj) (h:SInv o w W a):SInv o w (W.putObj (o+1+1) ob) a:=by
 have hk:∀k,k≠o+1+1→(W.putObj (o+1+1) ob).heap[k]?=W.heap[k]?:=fun k hk=>World.putObj_heap_other hk
 obtain ⟨hbel,⟨u,hv,hrow⟩,hsz⟩:=h
 refine ⟨⟨hbel.os,hbel.tape,hbel.output,by simpa using hbel.size,fun k hlt=>(hk k (by omega)).trans (hbel.block k hlt)⟩,⟨u,(hk o (by omega)).trans hv,hrow.kept (grownBy_putObj' W (o+1+1) ob) ?_⟩,by simpa using hsz⟩
 cases hvb:u.ownBlock with
 | none=>exact .inl rfl
 | some b=>exact .inr (fun e=>by cases e;have:=(hrow.lt _ hvb).1;omega)
theorem SInv.alloc {o:Nat} {w W:World} {a:List Int} (ob:Obj) (h:SInv o w W a):SInv o w (W.alloc ob) a:=by
 obtain ⟨hbel,⟨u,hv,hrow⟩,hsz⟩:=h
 exact ⟨hbel.alloc (by omega) _,⟨u,hv.alloc _,hrow.alloc _⟩,by simp;omega⟩
def j6 (o:Nat) (sv:Value) (x:Int):Act:={ tmps:=#[.slice none 0 0,sv,.pointer (some ⟨o,0,none⟩),undef,.slice none 0 0,.int .i64 x,sv,.int .i64 x,undef,undef,undef,undef,undef],defers:=[]}
set_option maxRecDepth 100000 in
set_option maxHeartbeats 8000000 in
theorem SP (bp off:Nat) (l:List Int) (w:World) (u:Value) (hb:VBox w bp off l u) (hl:l.length≤1048576):
 CallsIn Fence.wide 5 Tryz.prog 93 #[.slice none 0 0,.func (.func 79) #[] #[.pointer (some ⟨bp,off,none⟩)]] w fun e w'=>
  ∃v,e= .returned v∧w'.ownsRow w.heap.size 3 1 v l.length (l.map (Value.int .i64))∧Below w.heap.size w w':=by
 refine callsIn_of_wp_marks Tryz.func93 rfl trivial ?_
 simp only [Tryz.ntmps93,List.size_toArray,List.length_cons,List.length_nil,Nat.reduceAdd,Nat.reduceSub,Array.replicate_succ,Array.replicate_zero,List.push_toArray,List.append_toArray,List.nil_append,List.cons_append]
 gi_wp2
 obtain ⟨W0,hW0⟩:∃W0,w.alloc (.cells #[.slice none 0 0] 22)=W0:=⟨_,rfl⟩
 obtain ⟨o,ho⟩:∃o,w.heap.size=o:=⟨_,rfl⟩
 have hsz:W0.heap.size=o+1:=by rw [←hW0,←ho];simp
 have hP0:SInv o w W0 []:=by
  rw [←hW0]
  refine ⟨(Below.refl o w).alloc (by omega) _,⟨.slice none 0 0,?_,World.ownsRow_nil _ _ _ _⟩,by simp;omega⟩
  have:=World.alloc_heap_new w (.cells #[.slice none 0 0] 22)
  rw [ho] at this
  exact this
 rw [hW0,ho]
 refine UB l hl hb rfl (fun pre W=>SInv o w W pre) ?_ ?_ ?_ (fun x=>j6 o (.func (.func 79) #[] #[.pointer (some ⟨bp,off,none⟩)]) x) ?assign ?body ?done
 ·intro pre W h;rw [ho];exact h.below
 ·intro pre W ob h;rw [hsz];exact h.put ob
 ·intro o1 o2;exact (hP0.alloc o1).alloc o2
 case assign=>
  intro ly x W K hK
  unfold j6 at hK
  gi_wp2
  exact hK
 case body=>
  intro ly pre x W hP hx hl2
  rw [hsz] at hl2
  obtain ⟨hbel,⟨v,hv,hrow⟩,hs⟩:=hP
  have hvc:=hv.cell
  have hvf:=hv.frozen
  obtain ⟨i0,hi,hz0,hz1,hz2⟩:=info_parts Vv
  unfold j6
  gi_wp2_with (gi_at_builtin;refine wpListIn_append_own _ rfl _ _ 22 rfl (o+3) 3 i0 (.int .i64 0) 1 8 Tryz.underlying22 hi hz0 hz1 hz2 rfl (by decide) _ _ _ rfl (hrow.alloc _) ⟨W.heap.size,0,none⟩ 1 1 [.int .i64 x] rfl rfl (cell_one_new _ _ _) Vu (by simp only [maxLen];omega) (by omega) (by simp;omega) ?_;intro v' w1 hown' hgrow _;have hkk:∀k,k < o+3→w1.heap[k]?=W.heap[k]?:=fun k hk=>(by rw [hgrow.block k (by simp;omega) (fun e=>by have:=(hrow.lt k e.symm).1;omega),BE _ _ _ (by omega)]);have e1:Boxed w1 o 22 v:=(hkk o (by omega)).trans hv;have e3:=e1.cell;have e4:=e1.frozen;obtain ⟨bb,cc,rfl⟩:=ownsRow_succ hown')
  have hkk:∀k,k < o+3→w1.heap[k]?=W.heap[k]?:=fun k hk=>(by rw [hgrow.block k (by simp;omega) (fun e=>by have:=(hrow.lt k e.symm).1;omega),BE _ _ _ (by omega)])
  have hsz1:=hgrow.size
  rw [World.size_alloc] at hsz1
  have hk2:∀k,k < o+3→k≠o→(w1.setCell ⟨o,0,none⟩ (.slice (some ⟨bb,0,none⟩) (pre.length+1) cc)).heap[k]?=W.heap[k]?:=fun k h1 h2=>(Below.heap_setCell w1 _ _ k h2).trans (hkk k h1)
  refine ⟨⟨⟨?_,?_,?_,?_,?_⟩,⟨_,e1.set _,?_⟩,?_⟩,?_,?_⟩
  ·exact hgrow.os.trans hbel.os
  ·exact hgrow.tape.trans hbel.tape
  ·exact hgrow.output.trans hbel.output
  ·have:=hbel.size
   simp only [World.size_setCell]
   omega
  ·intro k hlt
   exact (hk2 k (by omega) (by omega)).trans (hbel.block k hlt)
  ·have h1:=hown'.kept (grownBy_setCell' w1 o (.slice (some ⟨bb,0,none⟩) (pre.length+1) cc)) (.inr (fun e=>by cases e;have:=(hown'.lt _ rfl).1;omega))
   simpa using h1
  ·simp only [World.size_setCell]
   omega
  ·exact hk2 _ (by omega) (by omega)
  ·exact hk2 _ (by omega) (by omega)
 case done=>
  intro W hP hD
  rw [hsz] at hD ⊢
  obtain ⟨hbel,⟨v,hv,hrow⟩,hs⟩:=hP
  have hvc:=hv.cell
  have hvf:=hv.frozen
  have hl5:o+1 < W.heap.size:=(Array.getElem?_eq_some_iff.1 hD).1
  gi_wp2
  refine ⟨by simp,.inl ⟨_,_,rfl,run_takeDeferred hD,?_⟩⟩
  refine ⟨_,results_tmp rfl _ _ _,v,rfl,?_,?_⟩
  ·have h1:=hrow.kept (grownBy_putObj' W (o+1) (.deferred none)) (by
    cases hvb:v.ownBlock with
    | none=>exact .inl rfl
    | some b=>exact .inr (fun e=>by cases e;have:=(hrow.lt _ hvb).1;omega))
   rcases h1 with ⟨g1,g2⟩
   refine ⟨g1,?_⟩
   rcases g2 with g2|⟨g,cap,cur,g3,g4,g5⟩
   ·exact .inl g2
   ·exact .inr ⟨g,cap,cur,g3,by omega,g5⟩
  ·refine ⟨hbel.os,hbel.tape,hbel.output,?_,fun k hlt=>?_⟩
   ·have:=hbel.size;simpa using this
   ·exact (World.putObj_heap_other (by omega)).trans (hbel.block k (by omega))
set_option maxHeartbeats 4000000 in
theorem Jm (bp off:Nat) (l:List Int) (w:World) (u:Value) (hb:VBox w bp off l u) (hl:l.length≤1048576):
 Calls Tryz.prog 77 #[.func (.func 79) #[] #[.pointer (some ⟨bp,off,none⟩)]] w fun e w'=>
  ∃v,e= .returned v∧w'.ownsRow w.heap.size 3 1 v l.length (l.map (Value.int .i64))∧Below w.heap.size w w':=by
 refine (callsIn_wide (n:=6)).1 ?_
 refine callsIn_of_wp Tryz.func77 rfl trivial ?_
 simp only [Tryz.ntmps77,List.size_toArray,List.length_cons,List.length_nil,Nat.reduceAdd,Nat.reduceSub,Array.replicate_succ,Array.replicate_zero,List.push_toArray,List.append_toArray,List.nil_append,List.cons_append]
 gi_wp2_with (refine ⟨trivial,?_⟩;gi_at_call 93;refine (SP bp off l w u hb hl).mono ?_;rintro e w' ⟨v,rfl,h1,h2⟩)
 exact ⟨rfl,_,results_tmp rfl _ _ _,v,rfl,h1,h2⟩
theorem Xd (l:List Int) (hl:l.length≤1048576):HFn Tryz.prog 77 [.fn 79 [.rp [.lst (l.map (V.int .i64))]]] [.row 1 []] [] (fun r o=>r= .sl 0 0 l.length∧o=[.row 1 (l.map (V.int .i64))]):=by
 intro w I bl vs hlen hv hH
 obtain ⟨v0,rfl⟩:∃v0,vs=[v0]:=by
  match vs,hlen with
  | [a],_=>exact ⟨a,rfl⟩
 obtain ⟨us,rfl,hul,hus⟩:=(hv 0 v0 _ rfl rfl).inv_fn
 obtain ⟨p,rfl⟩:∃p,us=[p]:=by
  match us,hul with
  | [a],_=>exact ⟨a,rfl⟩
 obtain ⟨b,off,u,hIb,rfl,hc,h1,hr⟩:=(hus 0 p _ rfl rfl).inv_rp
 have hlt:=(hH.imm b hIb).1
 have hu:=(Rep.pure (bl:=bl) _ _ (hr 0 _ rfl)).inv_lst
 have hbox:VBox w b off l (u 0):=by
  refine ⟨hlt,hc 0 (by simp),?_⟩
  rcases hu.is with ⟨h2,a,cap,h3⟩|⟨b',o,cap,z,uu,hI',g1,g2,g3,g4,g5,g6,g7⟩
  ·exact .inl ⟨List.map_eq_nil_iff.1 h2,a,cap,h3⟩
  ·refine .inr ⟨b',o,cap,by rw [g3,List.length_map],(hH.imm b' hI').1,fun i x hx=>?_⟩
   have hi:i < l.length:=(List.getElem?_eq_some_iff.1 hx).1
   have hxm:(l.map (V.int .i64))[i]?=some (.int .i64 x):=by rw [List.getElem?_map,hx];rfl
   have hz:z=1:=(g4 i _ hxm).symm
   subst hz
   have e1:=g5 i 0 (by simpa using hi) (by omega)
   have e2:=g7 i _ 0 (.int .i64 x) hxm rfl
   have e3:=(Rep.pure (bl:=bl) _ _ e2).inv_int
   rw [e3] at e1
   simpa using e1
 refine (Jm b off l w (u 0) hbox hl).mono ?_
 rintro e w' ⟨v,rfl,hrow,hbel⟩
 let bl':Nat→Option BI:=fun j=>if j=0 then some ⟨v.ownBlock,0,1⟩ else none
 have hbl0:bl' 0=some ⟨v.ownBlock,0,1⟩:=rfl
 have hbl:∀j i,bl' j=some i→j=0∧i=⟨v.ownBlock,0,1⟩:=fun j i h=>by
  by_cases e:j=0
  ·subst e;rw [hbl0] at h;cases h;exact ⟨rfl,rfl⟩
  ·simp only [bl',if_neg e] at h;cases h
 have hkb:=Ih hbel
 have hob:∀g,v.ownBlock=some g→g < w'.heap.size∧w.heap.size≤g:=fun g hg=>⟨(hrow.lt g hg).2,(hrow.lt g hg).1⟩
 refine ⟨v,.sl 0 0 l.length,[.row 1 (l.map (V.int .i64))],I,bl',rfl,⟨rfl,rfl⟩,rfl,?_,⟨fun id o ho=>?_,fun id i hi=>?_,fun id id' i i' b h1 h2 _ _=>by rw [(hbl _ _ h1).1,(hbl _ _ h2).1],fun id i g h1 h2=>?_,fun k hk=>⟨Nat.lt_of_lt_of_le (hH.imm k hk).1 hbel.size,.inl hk⟩,⟨hkb.os,hkb.tape,hkb.output,hkb.size,fun k hk _=>hkb.block k hk (fun h=>h),hkb.shape⟩⟩,fun j hj=>by cases hj⟩
 ·rcases id hrow.2 with ⟨rfl,h0⟩|⟨g,cap,cur,rfl,hg,hb,q1,q2,q3,q4⟩
  ·rw [h0]
   exact .nsl 0 0 1 rfl
  ·have:=Rep.sl (w:=w') (I:=I) (bl:=bl') 0 0 l.length cap g 0 1 cur.size 3 rfl (by simp [World.shape?,hb]) (by omega) q1 q2
   simpa using this
 ·match id,ho with
  | 0,ho=>
    cases ho
    refine ⟨_,hbl0,rfl,fun i x hx=>?_,?_⟩
    ·obtain ⟨q,_,rfl⟩:=List.mem_map.1 (List.mem_of_getElem? hx);rfl
    ·rcases _root_.id hrow.2 with ⟨rfl,h0⟩|⟨g,cap,cur,rfl,hg,hb,q1,q2,q3,q4⟩
     ·show l.map _=[]
      rw [List.length_eq_zero_iff.1 h0]
      rfl
     ·refine ⟨cur,3,CellsAt.of hb,?_,fun i x j c hx hxc=>?_⟩
      ·rw [List.length_map]
       show 0+l.length*1≤cur.size
       omega
      ·obtain ⟨y,hy,rfl⟩:∃y,l[i]?=some y∧V.int .i64 y=x:=by
        rw [List.getElem?_map,Option.map_eq_some_iff] at hx
        exact hx
       have hi:=(List.getElem?_eq_some_iff.1 hy).1
       match j,hxc with
       | 0,hxc=>
         cases hxc
         have e:=congrArg (fun t:List Value=>t[i]?) q4
         simp only [List.getElem?_take,List.getElem?_map,hy,Option.map_some,Nat.mul_one,if_pos hi,Array.getElem?_toList] at e
         exact ⟨_,by rw [show (BI.mk (Value.ownBlock (.slice (some ⟨g,0,none⟩) l.length cap)) 0 1).base+i*1+0=i by show 0+i*1+0=i;omega];exact e,rfl,.pure _ _ (.int _ _)⟩
       | j+1,hxc=>simp [V.cells] at hxc
  | id+1,ho=>simp at ho
 ·obtain ⟨rfl,rfl⟩:=hbl _ _ hi
  exact ⟨_,rfl⟩
 ·obtain ⟨rfl,rfl⟩:=hbl _ _ h1
  obtain ⟨g1,g2⟩:=hob g h2
  exact ⟨g1,fun h=>by have:=(hH.imm g h).1;omega,.inr g2⟩
end Go.Proofs.YtkaiffheakalmaaGreatDoor
