/- Copied, stripped. No conditions. -/
import Derived.Test.YtkaiffheakalmaaGreatDoorU9Data
import Derived.Lib.Builder
import Derived.Lib.UnsafeStr
import Derived.Test.YtkaiffheakalmaaGreatDoorU9Awx
import Derived.Lib.AppendStr
import Derived.Test.YtkaiffheakalmaaGreatDoorU9Awz
import Derived.Test.YtkaiffheakalmaaGreatDoorU9TlZb
import Derived.Test.YtkaiffheakalmaaGreatDoorU9TlZa
import Derived.Shelf.Strconv.Itoa3
import Derived.Lib.ItoaLen
import Derived.Lib.AppendIntMem
import Derived.Test.YtkaiffheakalmaaGreatDoorU9Awh
set_option linter.unusedSimpArgs false
set_option linter.unusedVariables false
set_option maxRecDepth 100000
namespace Go.Proofs.YtkaiffheakalmaaGreatDoor
open Go.RowKit
theorem P8:(Tryz.prog.info? 138).map (·.size)=some 2:=by kernel_rfl
theorem XE:liesAt Tryz.prog Tryz.prog.depth 138 (2 / Tryz.prog.cellsOf 138) 0 138 1=true:=by kernel_rfl
set_option maxHeartbeats 1000000 in
set_option maxRecDepth 100000 in
theorem ZY (b:Nat) (w:World) (h0:w.cell? ⟨b,0,none⟩=some (.pointer (some ⟨b,0,none⟩))):
    Calls Tryz.prog 96 #[.pointer (some ⟨b,0,none⟩)] w fun e w'=>e= .returned (.tuple #[])∧w'=w:=by
  obtain ⟨j,hj,_⟩:=Option.map_eq_some_iff.1 P8
  go_enter Tryz.func96,Tryz.ntmps96
  go_wp2
  rw [Lib.run_neq_ptr_same w _ Tryz.underlying135 hj]
  go_wp2
  go_end0
  exact ⟨rfl,rfl⟩
set_option maxHeartbeats 1000000 in
set_option maxRecDepth 100000 in
theorem XF (b:Nat) (w:World) (h0:w.cell? ⟨b,0,none⟩=some (.pointer none)) (hsh:w.shape? b=some (138,2)) (hfz:w.frozen? ⟨b,0,none⟩=false):
    Calls Tryz.prog 96 #[.pointer (some ⟨b,0,none⟩)] w fun e w'=>e= .returned (.tuple #[])∧w'=w.setCell ⟨b,0,none⟩ (.pointer (some ⟨b,0,none⟩)):=by
  obtain ⟨j,hj,hjs⟩:=Option.map_eq_some_iff.1 P8
  go_enter Tryz.func96,Tryz.ntmps96
  go_wp2
  rw [Lib.run_to_unsafe w ⟨b,0,none⟩ Tryz.underlying135 Tryz.underlying177 hj (by rw [hjs];decide) hsh (Nat.zero_lt_succ 1)]
  simp only [Result.andThen]
  rw [Oper.upon_value]
  go_wp2
  rw [run_callFunc_extern Tryz.func115 (by kernel_rfl) (by kernel_rfl) (by kernel_rfl) (e:=Extern.AbiNoEscape.same) (by kernel_rfl)]
  rw [Lib.run_noEscape]
  simp only [Result.andThen]
  rw [Oper.upon_value]
  go_wp2
  rw [Lib.run_from_unsafe w ⟨b,0,none⟩ Tryz.underlying177 Tryz.underlying135 hj hsh XE]
  simp only [Result.andThen]
  rw [Oper.upon_value]
  go_wp2
  go_end0
  exact ⟨rfl,rfl⟩
end Go.Proofs.YtkaiffheakalmaaGreatDoor
namespace Go.Proofs.YtkaiffheakalmaaGreatDoor
open Go.RowKit
def Tg (c:UInt8):Value:=.int .u8 c.toNat
def BufIs (U:TypeId) (w:World) (v:Value) (s:List UInt8):Prop:=
  (v= .slice none 0 0∧s=[])∨∃g cap cur,v= .slice (some ⟨g,0,none⟩) s.length cap∧s≠[]∧w.heap[g]?=some (.cells cur U (0,0))∧s.length≤cap∧cap≤maxLen∧cap≤cur.size∧
    ∀(i:Nat) (x:UInt8),s[i]?=some x→cur[i]?=some (Tg x)
structure BFrame (w w':World) (v v':Value):Prop where
  os:w'.os=w.os
  tape:w'.tape=w.tape
  output:w'.output=w.output
  size:w.heap.size≤w'.heap.size
  block:∀k,k < w.heap.size→v.ownBlock≠some k→w'.heap[k]?=w.heap[k]?
  shape:∀b s,w.shape? b=some s→w'.shape? b=some s
  own:∀g,v'.ownBlock=some g→v.ownBlock=some g∨(w.heap.size≤g∧g < w'.heap.size)
theorem Uq {U:TypeId} {w:World} {v:Value} {s:List UInt8} (h:BufIs U w v s):∃a cap,v= .slice a s.length cap:=by
  rcases h with ⟨rfl,rfl⟩|⟨g,cap,cur,rfl,_⟩
  . exact ⟨_,_,rfl⟩
  . exact ⟨_,_,rfl⟩
theorem Ri {P:Program} {t t' ty U:TypeId} {i:TypeInfo} {zv:Value} (w:World) (ht:P.underlying t=some (.slice U)) (hi:P.info? U=some i) (hiz:i.size=1) (hz:i.zero=some zv) (hzs:zv.cells.size=1) (hby:i.bytes=1) (ht':D8 P t'=true)
    {v x:Value} {s news:List UInt8} (hv:BufIs U w v s) (hlen:∀w',(Builtin.lenOf x).run P w'= .ok (news.length:Nat) w') (hf:∀w',w'.heap=w.heap→(Builtin.firstCells 1 news.length x).run P w'= .ok (news.map Tg).toArray w')
    (hb:s.length+news.length≤140737488355328):
    ∃v' w',(Builtin.append_ #[t,t'] ty #[v,x]).run P w= .ok v' w'∧BufIs U w' v' (s++news)∧BFrame w w' v v':=by
  have hmax:s.length+news.length≤maxLen:=by simp only [maxLen];omega
  have h1:∀u∈news.map Tg,u.oneCell'=true:=by
    intro u hu
    obtain ⟨c,_,rfl⟩:=List.mem_map.1 hu
    rfl
  have grow:∀(base:Option Addr) (cap:Nat) (olds:List Value),v= .slice base s.length cap→olds=s.map Tg→(Builtin.firstCells 1 s.length (.slice base s.length cap)).run P w.drew= .ok olds.toArray w.drew→cap < s.length+news.length→
      ∃v' w',(Builtin.append_ #[t,t'] ty #[v,x]).run P w= .ok v' w'∧BufIs U w' v' (s++news)∧BFrame w w' v v':=by
    intro base cap olds hvv holds hf0 hlt
    have hr:=DZ (P:=P) (t:=t) (t':=t') (ty:=ty) (z:=1) w ht hi hiz hz ht' hf0 hlen (hf w.drew rfl) hlt hmax (by rw [hby];omega)
    have hge:=grownCap_ge w (s.length+news.length) cap U
    have hcm:=grownCap_le_maxLen w (s.length+news.length) cap U hmax
    refine ⟨_,_,by rw [hvv];exact hr,.inr ⟨w.heap.size,grownCap w (s.length+news.length) cap U,_,by rw [List.length_append],?_,heap_alloc_new w.drew _,by rw [List.length_append];exact hge,hcm,?_,?_⟩,?_⟩
    . intro e
      have:(s++news).length=0:=by rw [e];rfl
      rw [List.length_append] at this
      omega
    . simp only [Array.size_append,List.size_toArray,holds,List.length_map,size_zeroCells,hzs]
      omega
    . intro j y hy
      have hj:j < (s++news).length:=(List.getElem?_eq_some_iff.1 hy).1
      have e1:olds.toArray++(news.map Tg).toArray++Builtin.zeroCells zv.cells (grownCap w (s.length+news.length) cap U - (s.length+news.length))=((s++news).map Tg).toArray++Builtin.zeroCells zv.cells (grownCap w (s.length+news.length) cap U - (s.length+news.length)):=by
        rw [holds];simp
      rw [e1,Array.getElem?_append_left (by simpa using hj)]
      simp only [List.getElem?_toArray,List.getElem?_map,hy,Option.map_some]
    . have hl:=Dx (fun _=>False) w.drew (.cells (olds.toArray++(news.map Tg).toArray++Builtin.zeroCells zv.cells (grownCap w (s.length+news.length) cap U - (s.length+news.length))) U) (fun b hb=>hb.elim)
      refine ⟨rfl,rfl,rfl,by simp,fun k hk _=>A8 w.drew _ k hk,fun b s hs=>hl.shape b s hs,fun g hg=>.inr ?_⟩
      simp only [Value.ownBlock,Option.some.injEq] at hg
      subst hg
      exact ⟨Nat.le_refl _,by simp⟩
  rcases hv with ⟨rfl,rfl⟩|⟨g,cap,cur,rfl,hne,hg,hlc,hcm,hcs,hcell⟩
  . by_cases h0:news=[]
    . subst h0
      exact ⟨_,_,C3 w ht hi ht' hlen (by rw [hiz];exact hf w rfl),.inl ⟨rfl,rfl⟩,⟨rfl,rfl,rfl,Nat.le_refl _,fun _ _ _=>rfl,fun _ _ h=>h,fun g hg=>.inl hg⟩⟩
    . have:0 < news.length:=List.length_pos_iff.2 h0
      exact grow none 0 [] rfl rfl (by simp [Builtin.firstCells]) (by simp;omega)
  . by_cases hroom:s.length+news.length≤cap
    . have hfit:0+s.length*1+(news.map Tg).length≤cur.size:=by simp;omega
      have hr:=FZ (P:=P) (t:=t) (t':=t') (ty:=ty) (z:=1) w ht hi hiz ht' (.of hg) hlen (hf w rfl) h1 hroom hfit
      have hsame:(cur.toList.take (0+s.length*1)++news.map Tg++cur.toList.drop (0+s.length*1+(news.map Tg).length)).toArray.size=cur.size:=by
        simp only [List.size_toArray,List.length_append,List.length_take,List.length_drop,Array.length_toList,List.length_map] at hfit ⊢
        omega
      refine ⟨_,_,hr,.inr ⟨g,cap,_,by rw [List.length_append],by simp [hne],setRow_heap w g cur _ U _ hg,by rw [List.length_append];exact hroom,hcm,by rw [hsame];exact hcs,?_⟩,?_⟩
      . intro j y hy
        rw [List.getElem?_toArray,G0 _ _ _ _ (by simpa using hfit)]
        rw [List.getElem?_append] at hy
        simp only [Nat.zero_add,Nat.mul_one,List.length_map]
        by_cases hj:j < s.length
        . rw [if_pos hj] at hy ⊢
          rw [Array.getElem?_toList]
          exact hcell j y hy
        . rw [if_neg hj] at hy ⊢
          have:j - s.length < news.length:=(List.getElem?_eq_some_iff.1 hy).1
          rw [if_pos (by omega),List.getElem?_map,hy]
          rfl
      . have hl:=EK (I:=fun _=>False) hg hsame (fun h=>h)
        refine ⟨rfl,rfl,rfl,by rw [DA];exact Nat.le_refl _,fun k hk hn=>setRow_other w g k _ (fun e=>hn (by simp [Value.ownBlock,e])),fun b s hs=>hl.shape b s hs,fun g' hg'=>.inl ?_⟩
        simpa [Value.ownBlock] using hg'
    . refine grow _ cap (s.map Tg) rfl rfl (run_firstCells_some (P:=P) w.drew 1 s.length ⟨g,0,none⟩ s.length cap (s.map Tg) (by simp) (fun j u hj=>?_)) (by omega)
      rw [Addr.add_lit]
      show w.cell? _=_
      rw [cell_of_row w g _ cur U (0,0) hg,Nat.zero_add]
      rw [List.getElem?_map,Option.map_eq_some_iff] at hj
      obtain ⟨y,hy,rfl⟩:=hj
      exact hcell j y hy
theorem Rj {P:Program} {ops:Array Oper} {rest:List Oper} {o:Oper} {a:Act} {Q:Exit→Act→World→Prop} (w:World) (hgd:o.guard=none) (sl x:Operand) (t t':TypeId)
    (ho:o.op= .call { callee:=.builtin .append,args:=#[sl,x],argTypes:=#[t,t']})
    {U:TypeId} {i:TypeInfo} {zv:Value} (ht:P.underlying t=some (.slice U)) (hi:P.info? U=some i) (hiz:i.size=1) (hz:i.zero=some zv) (hzs:zv.cells.size=1) (hby:i.bytes=1) (ht':D8 P t'=true)
    (v:Value) (s news:List UInt8) (hs:a.eval sl=v) (hv:BufIs U w v s) (hlen:∀w',(Builtin.lenOf (a.eval x)).run P w'= .ok (news.length:Nat) w') (hf:∀w',w'.heap=w.heap→(Builtin.firstCells 1 news.length (a.eval x)).run P w'= .ok (news.map Tg).toArray w')
    (hb:s.length+news.length≤140737488355328)
    (h:∀v' w',BufIs U w' v' (s++news)→BFrame w w' v v'→wpList P ops Q rest (a.put o.dst v') w'):wpList P ops Q (o::rest) a w:=by
  refine wpList_plain hgd fun K hK=>?_
  obtain ⟨v',w',hr,h2,h3⟩:=Ri (P:=P) (t:=t) (t':=t') (ty:=o.type) w ht hi hiz hz hzs hby ht' hv hlen hf hb
  unfold Oper.wp execOp
  simp only [ho,resolve,invoke,builtin,Sem.run_bind,Sem.run_pure,Result.andThen_ok,List.map_toArray,List.map_cons,List.map_nil,hs,hr]
  exact hK _ _ (h v' w' h2 h3)
theorem cY {P:Program} {w w':World} {I:Nat→Prop} {bl:Nat→Option BI} {o0 o1 o0' o1':Ob} (hH:HeapRep ⟨P,w,Ah bl,I⟩ [some o0,some o1] w I bl) {b:Nat} (h0:bl 0=some ⟨some b,0,2⟩) {g0 g1:Option Nat} (h1:bl 1=some ⟨g0,0,1⟩)
    (hos:w'.os=w.os) (htape:w'.tape=w.tape) (hout:w'.output=w.output) (hsize:w.heap.size≤w'.heap.size) (hblock:∀k,k < w.heap.size→k≠b→g0≠some k→w'.heap[k]?=w.heap[k]?) (hshape:∀b s,w.shape? b=some s→w'.shape? b=some s)
    (hown:∀g,g1=some g→g0=some g∨(w.heap.size≤g∧g < w'.heap.size))
    (r0:ObRep w' I (Fo bl 1 ⟨g1,0,1⟩) 0 o0') (r1:ObRep w' I (Fo bl 1 ⟨g1,0,1⟩) 1 o1'):HeapRep ⟨P,w,Ah bl,I⟩ [some o0',some o1'] w' I (Fo bl 1 ⟨g1,0,1⟩):=by
  have two:∀id i,bl id=some i→id=0∨id=1:=by
    intro id i h
    obtain ⟨o,ho⟩:=hH.live id i h
    have:=(List.getElem?_eq_some_iff.1 ho).1
    simp at this
    omega
  have hb:=hH.own 0 _ b h0 rfl
  have hu0:Fo bl 1 (⟨g1,0,1⟩:BI) 0=some ⟨some b,0,2⟩:=by rw [Ac (by decide)];exact h0
  have hu1:Fo bl 1 (⟨g1,0,1⟩:BI) 1=some ⟨g1,0,1⟩:=AX _ _ _
  have hE:∀k,k < w.heap.size→¬Ah bl k→w'.heap[k]?=w.heap[k]?:=by
    intro k hk hn
    refine hblock k hk (fun e=>hn ⟨0,_,h0,by rw [e]⟩) (fun e=>hn ⟨1,_,h1,e⟩)
  have gne:∀g,g1=some g→g≠b:=by
    intro g hg e
    rcases hown g hg with h|h
    . subst e
      have:=hH.apart 0 1 _ _ g h0 h1 rfl h
      omega
    . have:=hb.1;omega
  have cases2:∀id i,Fo bl 1 (⟨g1,0,1⟩:BI) id=some i→(id=0∧i=⟨some b,0,2⟩)∨(id=1∧i=⟨g1,0,1⟩):=by
    intro id i h
    by_cases e:id=1
    . subst e;rw [hu1] at h;exact .inr ⟨rfl,(Option.some.inj h).symm⟩
    . rw [Ac e] at h
      rcases two id i h with e'|e'
      . subst e';rw [h0] at h;exact .inl ⟨rfl,(Option.some.inj h).symm⟩
      . exact absurd e' e
  refine ⟨fun id o ho=>?_,fun id i hi=>?_,fun id id' i i' c h2 h3 h4 h5=>?_,fun id i c h2 h3=>?_,fun k hk=>?_,⟨hos,htape,hout,hsize,hE,hshape⟩⟩
  . match id,ho with
    | 0,ho=>simp at ho;subst ho;exact r0
    | 1,ho=>simp at ho;subst ho;exact r1
    | n+2,ho=>simp at ho
  . rcases cases2 id i hi with ⟨rfl,_⟩|⟨rfl,_⟩
    . exact ⟨_,rfl⟩
    . exact ⟨_,rfl⟩
  . rcases cases2 id i h2 with ⟨rfl,rfl⟩|⟨rfl,rfl⟩<;>rcases cases2 id' i' h3 with ⟨rfl,rfl⟩|⟨rfl,rfl⟩
    . rfl
    . simp at h4;subst h4;exact absurd rfl (gne _ h5)
    . simp at h5;subst h5;exact absurd rfl (gne _ h4)
    . rfl
  . rcases cases2 id i h2 with ⟨rfl,rfl⟩|⟨rfl,rfl⟩
    . simp at h3;subst h3
      exact ⟨Nat.lt_of_lt_of_le hb.1 hsize,hb.2.1,.inl ⟨0,_,h0,rfl⟩⟩
    . rcases hown c h3 with h|h
      . have:=hH.own 1 _ c h1 h
        exact ⟨Nat.lt_of_lt_of_le this.1 hsize,this.2.1,.inl ⟨1,_,h1,h⟩⟩
      . refine ⟨h.2,fun hI=>?_,.inr h.1⟩
        have:=(hH.imm c hI).1
        omega
  . have:=hH.imm k hk
    exact ⟨Nat.lt_of_lt_of_le this.1 hsize,.inl hk⟩
def da (q:Nat) (s:List UInt8):V:=yV (some (q,s.length))
theorem XG {U:TypeId} {w:World} {I:Nat→Prop} {bl:Nat→Option BI} {v:Value} {s:List UInt8} (hr:Rep w I bl v (da 1 s)) (h1:ObRep w I bl 1 (.buf U s)):BufIs U w v s∧∃g0,bl 1=some ⟨g0,0,1⟩∧(s≠[]→g0=v.ownBlock)∧(s=[]→v= .slice none 0 0):=by
  obtain ⟨blk,hb,hm⟩:=h1
  cases s with
  | nil=>exact ⟨.inl ⟨hr.inv_nils,rfl⟩,blk,hb,fun h=>absurd rfl h,fun _=>hr.inv_nils⟩
  | cons c s=>
    rcases Rep.inv_sl (id:=1) (off:=0) (len:=(c::s).length) hr with ⟨base,z,_,_,h,_⟩|⟨a,i,_,h,_⟩|⟨cap,b,base,z,n,e,hbl,hsh,hsz,hlc,hcm,hv⟩
    . simp at h
    . simp at h
    . rw [hb] at hbl
      simp only [Option.some.injEq,BI.mk.injEq] at hbl
      obtain ⟨rfl,rfl,rfl⟩:=hbl
      obtain ⟨cur,hg,hle,hcell⟩:=hm
      simp only [World.shape?,hg,Option.some.injEq,Prod.mk.injEq] at hsh
      obtain ⟨rfl,rfl⟩:=hsh
      subst hv
      exact ⟨.inr ⟨b,cap,cur,by simp,by simp,hg,hlc,hcm,by omega,hcell⟩,some b,hb,fun _=>by simp [Value.ownBlock],fun h=>by cases h⟩
theorem db {U:TypeId} {w:World} {I:Nat→Prop} {bl:Nat→Option BI} {v:Value} {s:List UInt8} (h:BufIs U w v s) (hb:bl 1=some ⟨v.ownBlock,0,1⟩):Rep w I bl v (da 1 s)∧ObRep w I bl 1 (.buf U s)∧v.oneCell'=true:=by
  rcases h with ⟨rfl,rfl⟩|⟨g,cap,cur,rfl,hne,hg,hlc,hcm,hcs,hcell⟩
  . exact ⟨.pure _ _ .nils,⟨none,hb,rfl⟩,rfl⟩
  . refine ⟨?_,⟨some g,hb,cur,hg,by omega,hcell⟩,rfl⟩
    have hsl:da 1 s= .sl 1 0 s.length:=by
      cases s with
      | nil=>exact absurd rfl hne
      | cons c s=>rfl
    rw [hsl]
    have:=Rep.sl (w:=w) (I:=I) (bl:=bl) 1 0 s.length cap g 0 1 cur.size U hb (by simp [World.shape?,hg]) (by omega) hlc hcm
    simpa using this
end Go.Proofs.YtkaiffheakalmaaGreatDoor
namespace Go.Proofs.YtkaiffheakalmaaGreatDoor
open Go.RowKit
theorem Za:∃i,Tryz.prog.info? 5=some i∧i.zero=some (.int .u8 0)∧i.size=1∧i.bytes=1:=by
  have h:(Tryz.prog.info? 5).map (fun i=>(i.zero,i.size,i.bytes))=some (some (.int .u8 0),1,1):=by kernel_rfl
  obtain ⟨i,hi,e⟩:=Option.map_eq_some_iff.1 h
  simp only [Prod.mk.injEq] at e
  exact ⟨i,hi,e.1,e.2.1,e.2.2⟩
structure CFrame (w w':World) (b:Nat):Prop where
  os:w'.os=w.os
  tape:w'.tape=w.tape
  output:w'.output=w.output
  size:w'.heap.size=w.heap.size
  block:∀k,k≠b→w'.heap[k]?=w.heap[k]?
  shape:∀b s,w.shape? b=some s→w'.shape? b=some s
theorem HX {w:World} {b:Nat} {c0 c1:Value} {T:TypeId} (hb:w.heap[b]?=some (.cells #[c0,c1] T (0,0))) (o:Nat) (v:Value):
    CFrame w (w.setCell ⟨b,o,none⟩ v) b∧(w.setCell ⟨b,o,none⟩ v).heap[b]?=some (.cells (#[c0,c1].setIfInBounds o v) T (0,0)):=by
  have h1:(w.setCell ⟨b,o,none⟩ v).heap[b]?=some (.cells (#[c0,c1].setIfInBounds o v) T (0,0)):=by
    simp [World.setCell,Array.getElem?_modify,hb]
  have h2:∀k,k≠b→(w.setCell ⟨b,o,none⟩ v).heap[k]?=w.heap[k]?:=fun k hk=>Below.heap_setCell _ _ _ _ (fun e=>hk (by simp [e]))
  refine ⟨⟨rfl,rfl,rfl,by simp [World.setCell],h2,fun k s hs=>?_⟩,h1⟩
  by_cases hk:k=b
  . subst hk
    simp only [World.shape?,hb,Option.some.injEq] at hs
    subst hs
    simp [World.shape?,h1]
  . simpa [World.shape?,h2 k hk] using hs
theorem CFrame.refl (w:World) (b:Nat):CFrame w w b:=⟨rfl,rfl,rfl,rfl,fun _ _=>rfl,fun _ _ h=>h⟩
theorem dc (b:Nat) (p v:Value) (w:World) (hb:w.heap[b]?=some (.cells #[p,v] 138 (0,0))) (hp:p= .pointer none∨p= .pointer (some ⟨b,0,none⟩)):
    Calls Tryz.prog 96 #[.pointer (some ⟨b,0,none⟩)] w fun e w'=>e= .returned (.tuple #[])∧w'.heap[b]?=some (.cells #[.pointer (some ⟨b,0,none⟩),v] 138 (0,0))∧CFrame w w' b:=by
  rcases hp with rfl|rfl
  . refine (XF b w (by rw [Lib.cell_of_heap hb];rfl) (by simp [World.shape?,hb]) (Lib.frozen_of_heap hb 0)).mono ?_
    rintro e w' ⟨rfl,rfl⟩
    have h:=HX hb 0 (.pointer (some ⟨b,0,none⟩))
    exact ⟨rfl,h.2,h.1⟩
  . refine (ZY b w (by rw [Lib.cell_of_heap hb];rfl)).mono ?_
    rintro e w' ⟨rfl,rfl⟩
    exact ⟨rfl,hb,CFrame.refl _ _⟩
structure WFrame (w w':World) (b:Nat) (v v':Value):Prop where
  os:w'.os=w.os
  tape:w'.tape=w.tape
  output:w'.output=w.output
  size:w.heap.size≤w'.heap.size
  block:∀k,k < w.heap.size→k≠b→v.ownBlock≠some k→w'.heap[k]?=w.heap[k]?
  shape:∀b s,w.shape? b=some s→w'.shape? b=some s
  own:∀g,v'.ownBlock=some g→v.ownBlock=some g∨(w.heap.size≤g∧g < w'.heap.size)
theorem WFrame.mk3 {w w1 w2 w3:World} {b:Nat} {v v':Value} (h1:CFrame w w1 b) (h2:BFrame w1 w2 v v') (h3:CFrame w2 w3 b):WFrame w w3 b v v':=
  ⟨h3.os.trans (h2.os.trans h1.os),h3.tape.trans (h2.tape.trans h1.tape),h3.output.trans (h2.output.trans h1.output),by rw [h3.size,←h1.size];exact h2.size,
    fun k hk hkb hv=>(h3.block k hkb).trans ((h2.block k (by rw [h1.size];exact hk) hv).trans (h1.block k hkb)),fun b s hs=>h3.shape b s (h2.shape b s (h1.shape b s hs)),
    fun g hg=>(h2.own g hg).imp id (fun h=>by rw [h3.size,←h1.size];exact h)⟩
theorem BufIs.other {U:TypeId} {w w':World} {v:Value} {s:List UInt8} (h:BufIs U w v s) (hb:∀g,v.ownBlock=some g→w'.heap[g]?=w.heap[g]?):BufIs U w' v s:=by
  rcases h with h|⟨g,cap,cur,rfl,h2,h3,h4⟩
  . exact .inl h
  . exact .inr ⟨g,cap,cur,rfl,h2,by rw [hb g rfl];exact h3,h4⟩
theorem JN {U T:TypeId} {w:World} {v:Value} {s:List UInt8} {b:Nat} {cs:Array Value} {fr:Nat×Nat} (h:BufIs U w v s) (hb:w.heap[b]?=some (.cells cs T fr)) (hne:T≠U):v.ownBlock≠some b:=by
  rcases h with ⟨rfl,_⟩|⟨g,cap,cur,rfl,_,h3,_⟩
  . simp [Value.ownBlock]
  . intro e
    simp only [Value.ownBlock,Option.some.injEq] at e
    subst e
    rw [hb] at h3
    simp only [Option.some.injEq,Obj.cells.injEq] at h3
    exact hne h3.2.1
theorem XH {w:World} {b:Nat} {o:Obj} (h:w.heap[b]?=some o):b < w.heap.size:=by
  rcases Nat.lt_or_ge b w.heap.size with h'|h'
  . exact h'
  . simp [Array.getElem?_eq_none h'] at h
set_option maxHeartbeats 2000000 in
set_option maxRecDepth 100000 in
theorem dd (b:Nat) (p v:Value) (s:List UInt8) (t:ByteArray) (w:World) (hb:w.heap[b]?=some (.cells #[p,v] 138 (0,0))) (hp:p= .pointer none∨p= .pointer (some ⟨b,0,none⟩)) (hv:BufIs 5 w v s) (hlen:s.length+t.size≤140737488355328):
    Calls Tryz.prog 80 #[.pointer (some ⟨b,0,none⟩),.string t] w fun e w'=>e= .returned (.tuple #[.int .i64 t.size,.nilIface])∧∃v',w'.heap[b]?=some (.cells #[.pointer (some ⟨b,0,none⟩),v'] 138 (0,0))∧BufIs 5 w' v' (s++t.data.toList)∧WFrame w w' b v v':=by
  obtain ⟨i0,hi,hz0,hz1,hz2⟩:=Za
  have hvb:=JN hv hb (by decide)
  go_enter Tryz.func80,Tryz.ntmps80
  go_wp2_with (go_at_call 96;refine (dc b p v w hb hp).mono ?_)
  rintro e w1 ⟨rfl,hb1,hf1⟩
  have hv1:BufIs 5 w1 v s:=hv.other fun g hg=>hf1.block g (fun e=>hvb (e▸hg))
  have c0:w1.cell? ⟨b,0,none⟩=some (.pointer (some ⟨b,0,none⟩)):=by rw [Lib.cell_of_heap hb1];rfl
  have c1:w1.cell? ⟨b,1,none⟩=some v:=by rw [Lib.cell_of_heap hb1];rfl
  have hS:=S5 (P:=Tryz.prog) (w:=w1) (I:=fun _=>False) (bl:=fun _=>none) t
  have hL:∀w',(Builtin.lenOf (.string t)).run Tryz.prog w'= .ok (t.data.toList.length:Nat) w':=fun w'=>by have:=hS.len w';rw [List.length_map] at this;exact this
  have hF:∀w',w'.heap=w1.heap→(Builtin.firstCells 1 t.data.toList.length (.string t)).run Tryz.prog w'= .ok (t.data.toList.map Tg).toArray w':=fun w' hw=>by
    have:=hS.first w' hw
    rw [List.length_map] at this
    exact this
  have hB:s.length+t.data.toList.length≤140737488355328:=by simpa using hlen
  go_wp2_with (at_builtin;refine Rj _ rfl _ _ _ _ rfl Tryz.underlying136 hi hz1 hz0 rfl hz2 (by kernel_rfl) _ s t.data.toList rfl hv1 hL hF hB ?_)
  intro v2 w2 h2 hf2
  have hb2:w2.heap[b]?=some (.cells #[.pointer (some ⟨b,0,none⟩),v] 138 (0,0)):=(hf2.block b (XH hb1) hvb).trans hb1
  have d0:w2.cell? ⟨b,0,none⟩=some (.pointer (some ⟨b,0,none⟩)):=by rw [Lib.cell_of_heap hb2];rfl
  have d1:w2.cell? ⟨b,1,none⟩=some v:=by rw [Lib.cell_of_heap hb2];rfl
  have f1:w2.frozen? ⟨b,1,none⟩=false:=Lib.frozen_of_heap hb2 1
  have hs:=HX hb2 1 v2
  have h2b:=JN h2 hb2 (by decide)
  have h3:=h2.other (w':=w2.setCell ⟨b,1,none⟩ v2) fun g hg=>hs.1.block g (fun e=>h2b (e▸hg))
  obtain ⟨a2,m2,n2,rfl⟩:∃a m n,v2= .slice a m n:=by obtain ⟨a,n,e⟩:=Uq h2;exact ⟨_,_,_,e⟩
  go_wp2
  go_ret2
  exact ⟨rfl,_,hs.2,h3,WFrame.mk3 hf1 hf2 hs.1⟩
set_option maxHeartbeats 2000000 in
set_option maxRecDepth 100000 in
theorem Zb (b:Nat) (p v:Value) (s:List UInt8) (w:World) (hb:w.heap[b]?=some (.cells #[p,v] 138 (0,0))) (hv:BufIs 5 w v s):
    Calls Tryz.prog 82 #[.pointer (some ⟨b,0,none⟩)] w fun e w'=>e= .returned (.string ⟨s.toArray⟩)∧WFrame w w' b v (.slice none 0 0)∧w'.heap[b]?=w.heap[b]?:=by
  have hvb:=JN hv hb (by decide)
  rcases hv with ⟨rfl,rfl⟩|⟨g,cap,cur,rfl,hne,hg,hlc,hcm,hcs,hcell⟩
  . have hUS:∀W q,(Builtin.unsafeString_ #[158,3] 9 #[.pointer q,.int .i64 0]).run Tryz.prog W= .ok (.string .empty) W:=fun W q=>Lib.run_unsafeString_none W _ _ _ q
    have c1:w.drew.cell? ⟨b,1,none⟩=some (.slice none 0 0):=by
      have:w.drew.heap[b]?=some (.cells #[p,.slice none 0 0] 138 (0,0)):=hb
      rw [Lib.cell_of_heap this];rfl
    have hSD:(Builtin.unsafeSliceData_ #[136] 158 #[.slice none 0 0]).run Tryz.prog w.drew= .ok (.pointer none) w.drew:=rfl
    go_enter Tryz.func82,Tryz.ntmps82
    go_wp2
    go_region
    all_goals (go_wp2;go_ret;exact ⟨rfl,⟨rfl,rfl,rfl,Nat.le_refl _,fun _ _ _ _=>rfl,fun _ _ h=>h,fun g hg=>by simp [Value.ownBlock] at hg⟩,rfl⟩)
  . have hl0:s.length≠0:=by simpa using hne
    have c1:w.drew.cell? ⟨b,1,none⟩=some (.slice (some ⟨g,0,none⟩) s.length cap):=by
      have:w.drew.heap[b]?=some (.cells #[p,.slice (some ⟨g,0,none⟩) s.length cap] 138 (0,0)):=hb
      rw [Lib.cell_of_heap this];rfl
    have hSD:(Builtin.unsafeSliceData_ #[136] 158 #[.slice (some ⟨g,0,none⟩) s.length cap]).run Tryz.prog w.drew= .ok (.pointer (some ⟨g,0,none⟩)) w.drew:=
      Lib.run_unsafeSliceData_row _ _ _ _ _ _ (by omega)
    have hgd:w.drew.heap[g]?=some (.cells cur 5 (0,0)):=hg
    have hUS:(Builtin.unsafeString_ #[158,3] 9 #[.pointer (some ⟨g,0,none⟩),.int .i64 s.length]).run Tryz.prog w.drew= .ok (.string ⟨s.toArray⟩) (w.drew.freeze ⟨g,0,none⟩ s.length):=by
      refine Lib.run_unsafeString_row w.drew 158 3 9 5 Tryz.underlying158 (by kernel_rfl) g cur.size (by simp [World.shape?,hgd]) s hne (by omega) (by unfold maxLen at hcm;omega) ?_
      intro j x hx
      rw [Addr.add_lit,Lib.cell_of_heap hgd,Nat.zero_add]
      exact hcell j x hx
    go_enter Tryz.func82,Tryz.ntmps82
    go_wp2
    go_region
    all_goals go_wp2
    all_goals go_ret
    have hfr:∀k,k≠g→(w.drew.freeze ⟨g,0,none⟩ s.length).heap[k]?=w.heap[k]?:=by
      intro k hk
      unfold World.freeze
      rw [if_neg hl0]
      simp only [Array.getElem?_modify]
      rw [if_neg (fun e=>hk e.symm)]
      rfl
    have hgb:g≠b:=by simpa [Value.ownBlock] using hvb
    have hsh:∀b s',w.shape? b=some s'→(w.drew.freeze ⟨g,0,none⟩ s.length).shape? b=some s':=by
      intro k s' hs
      by_cases hk:k=g
      . subst hk
        simp only [World.shape?,hg] at hs
        unfold World.freeze
        rw [if_neg hl0]
        simp only [World.shape?,Array.getElem?_modify,hgd]
        exact hs
      . simpa [World.shape?,hfr k hk] using hs
    have hsz:(w.drew.freeze ⟨g,0,none⟩ s.length).heap.size=w.heap.size:=by
      unfold World.freeze
      rw [if_neg hl0]
      simp
    have hrest:(w.drew.freeze ⟨g,0,none⟩ s.length).os=w.os∧(w.drew.freeze ⟨g,0,none⟩ s.length).tape=w.tape∧(w.drew.freeze ⟨g,0,none⟩ s.length).output=w.output:=by
      unfold World.freeze
      rw [if_neg hl0]
      exact ⟨rfl,rfl,rfl⟩
    all_goals exact ⟨rfl,⟨hrest.1,hrest.2.1,hrest.2.2,by rw [hsz];exact Nat.le_refl _,fun k hk hkb hv=>hfr k (fun e=>hv (by simp [Value.ownBlock,e])),hsh,fun g hg=>by simp [Value.ownBlock] at hg⟩,hfr b (fun e=>hgb e.symm)⟩
end Go.Proofs.YtkaiffheakalmaaGreatDoor
namespace Go.Proofs.YtkaiffheakalmaaGreatDoor
open Go.RowKit
theorem Th {v:Value} (h:v= .slice none 0 0):v.ownBlock=none:=by subst h;rfl
theorem jS (s t:List UInt8) (hlen:s.length+t.length≤140737488355328):HFn Tryz.prog 80 [.ptr 0 0 0,.str t] [.bld 138 (some (1,s.length)),.buf 5 s] [0]
    (fun r o=>r= .tup [.int .i64 t.length,.any]∧o=[.bld 138 (some (1,(s++t).length)),.buf 5 (s++t)]):=by
  intro w I bl vs hl hvs hH
  match vs,hl with
  | [v0,v1],_=>
    obtain ⟨b,base,z,n,e,hbl,hsh,rfl⟩:=(hvs 0 v0 _ rfl rfl).inv_ptr
    obtain ⟨t',rfl,rfl,_⟩:=(hvs 1 v1 _ rfl rfl).inv_str
    obtain ⟨b',p,v,h0,hb,hp,hone,hr⟩:=hH.obj 0 _ rfl
    rw [h0] at hbl
    simp only [Option.some.injEq,BI.mk.injEq] at hbl
    obtain ⟨rfl,rfl,rfl⟩:=hbl
    obtain ⟨hv,g0,h1,hg0,hnil⟩:=XG hr (hH.obj 1 _ rfl)
    have hg:∀k,v.ownBlock=some k→g0=some k:=by
      intro k hk
      by_cases hs:s=[]
      . rw [Th (hnil hs)] at hk;cases hk
      . rw [hg0 hs];exact hk
    refine (dd b' p v s t' w hb hp hv (by simpa using hlen)).mono ?_
    rintro e w' ⟨rfl,v',hb',hv',hf⟩
    obtain ⟨r1,r2,r3⟩:=db (I:=I) (bl:=Fo bl 1 ⟨v'.ownBlock,0,1⟩) hv' (AX _ _ _)
    refine ⟨.tuple #[.int .i64 t'.size,.nilIface],_,_,I,Fo bl 1 ⟨v'.ownBlock,0,1⟩,rfl,⟨rfl,rfl⟩,rfl,.pure _ _ (Pr.tup [.int .i64 t'.size,.nilIface] _ rfl ?_),cY hH h0 h1 hf.os hf.tape hf.output hf.size (fun k hk h2 h3=>hf.block k hk h2 (fun e=>h3 (hg k e))) hf.shape (fun g hg'=>(hf.own g hg').imp (hg g) id) ⟨b',_,v',by rw [Ac (by decide)];exact h0,hb',.inr rfl,r3,?_⟩ r2,fun j hj=>?_⟩
    . intro i u c hu hc
      match i,hu,hc with
      | 0,hu,hc=>
        simp at hu hc
        subst hu;subst hc
        exact .int _ _
      | 1,hu,hc=>
        simp at hu hc
        subst hu;subst hc
        exact .any _
      | n+2,hu,hc=>simp at hu
    . exact r1
    . simp at hj
      subst hj
      exact Ac (by decide)
theorem gZ (s:List UInt8):HFn Tryz.prog 82 [.ptr 0 0 0] [.bld 138 (some (1,s.length)),.buf 5 s] [0]
    (fun r o=>r= .str s∧o=[.bld 138 none,.buf 5 []]):=by
  intro w I bl vs hl hvs hH
  match vs,hl with
  | [v0],_=>
    obtain ⟨b,base,z,n,e,hbl,hsh,rfl⟩:=(hvs 0 v0 _ rfl rfl).inv_ptr
    obtain ⟨b',p,v,h0,hb,hp,hone,hr⟩:=hH.obj 0 _ rfl
    rw [h0] at hbl
    simp only [Option.some.injEq,BI.mk.injEq] at hbl
    obtain ⟨rfl,rfl,rfl⟩:=hbl
    obtain ⟨hv,g0,h1,hg0,hnil⟩:=XG hr (hH.obj 1 _ rfl)
    have hg:∀k,v.ownBlock=some k→g0=some k:=by
      intro k hk
      by_cases hs:s=[]
      . rw [Th (hnil hs)] at hk;cases hk
      . rw [hg0 hs];exact hk
    have hmax:s.length≤maxLen:=by
      rcases hv with ⟨_,rfl⟩|⟨g,cap,cur,_,_,_,h1,h2,_⟩
      . exact Nat.zero_le _
      . exact Nat.le_trans h1 h2
    refine (Zb b' p v s w hb hv).mono ?_
    rintro e w' ⟨rfl,hf,hbb⟩
    refine ⟨.string ⟨s.toArray⟩,_,_,I,Fo bl 1 ⟨none,0,1⟩,rfl,⟨rfl,rfl⟩,rfl,.pure _ _ ?_,cY hH h0 h1 hf.os hf.tape hf.output hf.size (fun k hk h2 h3=>hf.block k hk h2 (fun e=>h3 (hg k e))) hf.shape (fun g hg'=>by cases hg') ⟨b',p,v,by rw [Ac (by decide)];exact h0,hbb.trans hb,hp,hone,.pure _ _ (.any _)⟩ ⟨none,AX _ _ _,rfl⟩,fun j hj=>?_⟩
    . have:=Pr.str (w:=w') (I:=I) ⟨s.toArray⟩ (by simpa [ByteArray.size] using hmax)
      simpa using this
    . simp at hj
      subst hj
      exact Ac (by decide)
theorem RP.adoptB {C:Ctx} {σ:St} {a:Act} {w:World} {I:Nat→Prop} {bl:Nat→Option BI} (hp:RP C σ a w I bl) {p:Nat} {T:TypeId} {q0:Nat} (U:TypeId) (ho:σ.heap[p]?=some (some (.bld T (some (q0,0))))):
    RP C { σ with heap:=Aj (σ.heap.set p (some (.bld T (some (AG σ.heap,0))))) (.buf U [])} a w I (Fo bl (AG σ.heap) ⟨none,0,1⟩):=by
  have hpl:p < σ.heap.length:=(List.getElem?_eq_some_iff.1 ho).1
  have fr:∀(l l':List (Option Ob)),l.length=l'.length→(∀i:Nat,((l[i]?).bind fun x=>x).isSome=((l'[i]?).bind fun x=>x).isSome)→AG l=AG l':=by
    intro l
    induction l with
    | nil=>
      intro l' h _
      cases l' with
      | nil=>rfl
      | cons _ _=>simp at h
    | cons x l ih=>
      intro l' h hh
      cases l' with
      | nil=>simp at h
      | cons y l'=>
        have h0:=hh 0
        have hr:=ih l' (by simpa using h) (fun i=>by simpa using hh (i+1))
        cases x<;>cases y<;>simp at h0
        . rfl
        . simp only [AG,hr]
  have hfr:AG (σ.heap.set p (some (.bld T (some (AG σ.heap,0)))))=AG σ.heap:=by
    refine fr _ _ (by simp) fun i=>?_
    by_cases e:i=p
    . subst e;rw [List.getElem?_set_self hpl,ho];rfl
    . rw [List.getElem?_set_ne (Ne.symm e)]
  have hne:p≠AG σ.heap:=fun e=>Ha σ.heap _ (e▸ho)
  generalize hq:AG σ.heap=q at*
  have hb:∀k i,bl k=some i→Fo bl q ⟨none,0,1⟩ k=some i:=fun k i h=>by rw [Ac (hq▸hp.live_ne h)];exact h
  have hat:(Aj (σ.heap.set p (some (.bld T (some (q,0))))) (.buf U []))[q]?=some (some (.buf U [])):=by
    have:=Bv (σ.heap.set p (some (.bld T (some (q,0))))) (.buf U [])
    rwa [hfr] at this
  have hoth:∀id,id≠q→(Aj (σ.heap.set p (some (.bld T (some (q,0))))) (.buf U []))[id]?=(σ.heap.set p (some (.bld T (some (q,0)))))[id]?:=fun id h=>BT _ _ _ (by rw [hfr];exact h)
  refine ⟨hp.defers,hp.env.later (Later.refl _ _) (fun _ h=>h) hb,⟨?_,?_,?_,?_,hp.heap.imm,hp.heap.kept⟩⟩
  . intro id o hoo
    have hoo:(Aj (σ.heap.set p (some (.bld T (some (q,0))))) (.buf U []))[id]?=some (some o):=hoo
    by_cases hid:id=q
    . subst hid
      rw [hat] at hoo
      simp only [Option.some.injEq] at hoo
      subst hoo
      exact ⟨none,AX _ _ _,rfl⟩
    . rw [hoth id hid] at hoo
      have old:∀o',σ.heap[id]?=some (some o')→ObRep w I (Fo bl q ⟨none,0,1⟩) id o':=fun o' h=>(hp.heap.obj id o' h).later (Later.refl _ _) (fun _ h=>h) hb (fun _ _ _ _=>rfl) (fun h=>by rw [Ac hid];exact h)
      by_cases e:id=p
      . subst e
        rw [List.getElem?_set_self hpl] at hoo
        simp only [Option.some.injEq] at hoo
        subst hoo
        have h9:ObRep w I (Fo bl q ⟨none,0,1⟩) id (.bld T (some (q0,0))):=old _ ho
        exact h9
      . rw [List.getElem?_set_ne (Ne.symm e)] at hoo
        exact old o hoo
  . intro id i h
    show ∃o,(Aj (σ.heap.set p (some (.bld T (some (q,0))))) (.buf U []))[id]?=some (some o)
    by_cases hid:id=q
    . subst hid;exact ⟨_,hat⟩
    . rw [Ac hid] at h
      obtain ⟨o,hoo⟩:=hp.heap.live id i h
      rw [hoth id hid]
      by_cases e:id=p
      . subst e;rw [List.getElem?_set_self hpl];exact ⟨_,rfl⟩
      . rw [List.getElem?_set_ne (Ne.symm e)];exact ⟨o,hoo⟩
  . intro id id' i i' b h1 h2 h3 h4
    by_cases hid:id=q
    . subst hid
      rw [AX] at h1
      simp only [Option.some.injEq] at h1
      subst h1
      cases h3
    . rw [Ac hid] at h1
      by_cases hid':id'=q
      . subst hid'
        rw [AX] at h2
        simp only [Option.some.injEq] at h2
        subst h2
        cases h4
      . rw [Ac hid'] at h2
        exact hp.heap.apart id id' i i' b h1 h2 h3 h4
  . intro id i b h1 h2
    by_cases hid:id=q
    . subst hid
      rw [AX] at h1
      simp only [Option.some.injEq] at h1
      subst h1
      cases h2
    . rw [Ac hid] at h1
      exact hp.heap.own id i b h1 h2
theorem de {C:Ctx} {K:ES→Prop} (p:Nat) (U:TypeId) {n:Nat} {T:TypeId} {q0:Nat} {u:List (Nat×V)} {h:List (Option Ob)} (ho:h[p]?=some (some (.bld T (some (q0,0)))))
    (hk:UpE C K ⟨n,u,Aj (h.set p (some (.bld T (some (AG h,0))))) (.buf U [])⟩):UpE C K ⟨n,u,h⟩:=by
  refine ⟨BQ (fun a w hr=>?_) hk.out⟩
  obtain ⟨I,bl,hp⟩:=hr.parts
  exact (hp.adoptB (p:=p) U ho).rel
section
variable {C:Ctx} {fop:Operand} {args:List Operand} {xs:List V} {K:V→ES→Prop} {σ:ES}
def df (p q j:Nat):Nat:=match j with|0=>p|_=>q
theorem P9 {f:FuncId} {xs0 xs1:List V} {s s':List UInt8} {y:Option (Nat×Nat)} {R0:V} (hC:C.P=Tryz.prog) (hb:AD Tryz.prog f=true) (p q:Nat) (hpq:p≠q)
    (h:HFn Tryz.prog f (.ptr 0 0 0::xs0) [.bld 138 (some (1,s.length)),.buf 5 s] [0] (fun r o=>r=R0∧o=[.bld 138 y,.buf 5 s']))
    (he:B3 σ fop args=some (f,.ptr p 0 0::xs1)) (hx:FC 2 (df p q) xs0 xs1) (hR:Bu 2 (df p q) R0 R0) (hy:y=none∨∃n,y=some (1,n))
    (hp:σ.heap[p]?=some (some (.bld 138 (some (q,s.length))))) (hq:σ.heap[q]?=some (some (.buf 5 s)))
    (hK:FP q σ.u fun u=>fH (((Ba q σ.heap).set p (some (.bld 138 (y.map fun y=>(q,y.2))))).set q (some (.buf 5 s'))) fun h=>K R0 ⟨σ.n,u,h⟩):CallN C fop args f (.ptr p 0 0::xs1) K σ:=by
  rw [EU,BB] at hK
  have yv:∀n,Bu 2 (df p q) (yV (some (1,n))) (yV (some (q,n))):=by
    intro n
    cases n with
    | zero=>simp [yV,Bu]
    | succ n=>simp [yV,Bu,df]
  refine FS h hC hb he (df p q) ?_ ?_ ?_ [q] ?_ ?_ ?_
  . intro i j hi hj e
    match i,j,hi,hj with
    | 0,0,_,_=>rfl
    | 1,1,_,_=>rfl
    | 0,1,_,_=>exact absurd e hpq
    | 1,0,_,_=>exact absurd e.symm hpq
    | n+2,_,hi,_=>simp at hi;omega
    | _,n+2,_,hj=>simp at hj;omega
  . simp only [FC]
    exact ⟨.ptr p 0 0,xs1,rfl,by simp [Bu,df],hx⟩
  . intro j o ho
    match j,ho with
    | 0,ho=>
      simp at ho
      subst ho
      exact ⟨_,hp,_,rfl,yv _⟩
    | 1,ho=>
      simp at ho
      subst ho
      exact ⟨_,hq,rfl⟩
    | n+2,ho=>simp at ho
  . intro j hj hn
    match j,hj with
    | 0,_=>simp
    | 1,_=>exact absurd (by simp [df]) hn
    | n+2,hj=>simp at hj;omega
  . intro id hid
    simp at hid
    exact ⟨1,by simp,hid.symm⟩
  . rintro r0 objs' ⟨rfl,rfl⟩ _
    refine ⟨r0,[.bld 138 (y.map fun y=>(q,y.2)),.buf 5 s'],hR,rfl,?_,?_⟩
    rotate_left
    . exact hK
    intro j o o' ho ho'
    match j,ho,ho' with
    | 0,ho,ho'=>
      simp at ho ho'
      subst ho;subst ho'
      refine ⟨_,rfl,?_⟩
      rcases hy with rfl|⟨n,rfl⟩
      . simp [yV,Bu]
      . exact yv n
    | 1,ho,ho'=>
      simp at ho ho'
      subst ho;subst ho'
      rfl
    | n+2,ho,_=>simp at ho
theorem Zc (hC:C.P=Tryz.prog) (p q:Nat) (hpq:p≠q) {s t:List UInt8} (hlen:s.length+t.length≤140737488355328) (he:B3 σ fop args=some (80,[.ptr p 0 0,.str t]))
    (hp:σ.heap[p]?=some (some (.bld 138 (some (q,s.length))))) (hq:σ.heap[q]?=some (some (.buf 5 s)))
    (hK:FP q σ.u fun u=>fH (((Ba q σ.heap).set p (some (.bld 138 (some (q,(s++t).length))))).set q (some (.buf 5 (s++t)))) fun h=>K (.tup [.int .i64 t.length,.any]) ⟨σ.n,u,h⟩):CallN C fop args 80 [.ptr p 0 0,.str t] K σ:=
  P9 hC (by kernel_rfl) p q hpq (jS s t hlen) he (by simp [FC,Bu]) (by simp [FC,Bu]) (.inr ⟨_,rfl⟩) hp hq hK
theorem XI (hC:C.P=Tryz.prog) (p q:Nat) (hpq:p≠q) {s:List UInt8} (he:B3 σ fop args=some (82,[.ptr p 0 0]))
    (hp:σ.heap[p]?=some (some (.bld 138 (some (q,s.length))))) (hq:σ.heap[q]?=some (some (.buf 5 s)))
    (hK:FP q σ.u fun u=>fH (((Ba q σ.heap).set p (some (.bld 138 none))).set q (some (.buf 5 []))) fun h=>K (.str s) ⟨σ.n,u,h⟩):CallN C fop args 82 [.ptr p 0 0] K σ:=
  P9 hC (by kernel_rfl) p q hpq (gZ s) he (by simp [FC]) (by simp [Bu]) (.inl rfl) hp hq hK
end
end Go.Proofs.YtkaiffheakalmaaGreatDoor
namespace Go.Proofs.YtkaiffheakalmaaGreatDoor
open Go.RowKit Go.Shelf
def Zd:Ren:={
  f:=fun x=>match x with|171=>81|243=>97|246=>116|283=>125|284=>126|285=>127|286=>128|129=>114|317=>130|318=>131|319=>132|320=>133|337=>134|338=>135|n=>n
  t:=fun x=>match x with|3=>3|9=>9|2=>2|4=>4|171=>187|0=>0|53=>162|37=>136|5=>5|173=>189|212=>195|51=>159|20=>20|213=>196|46=>146|232=>197|233=>198|n=>n
  g:=fun x=>match x with|17=>1|18=>2|19=>3|n=>n}
theorem XJ:LaysM.n171 Tryz.prog Zd:={
  mixed:=by kernel_rfl
  f129:=Tryz.func114.trans (congrArg some (by kernel_rfl))
  f171:=Tryz.func81.trans (congrArg some (by kernel_rfl))
  f243:=Tryz.func97.trans (congrArg some (by kernel_rfl))
  f246:=Tryz.func116.trans (congrArg some (by kernel_rfl))
  f283:=Tryz.func125.trans (congrArg some (by kernel_rfl))
  f284:=Tryz.func126.trans (congrArg some (by kernel_rfl))
  f285:=Tryz.func127.trans (congrArg some (by kernel_rfl))
  f286:=Tryz.func128.trans (congrArg some (by kernel_rfl))
  f317:=Tryz.func130.trans (congrArg some (by kernel_rfl))
  f318:=Tryz.func131.trans (congrArg some (by kernel_rfl))
  f319:=Tryz.func132.trans (congrArg some (by kernel_rfl))
  f320:=Tryz.func133.trans (congrArg some (by kernel_rfl))
  f337:=Tryz.func134.trans (congrArg some (by kernel_rfl))
  f338:=Tryz.func135.trans (congrArg some (by kernel_rfl))
  t0:=Tryz.underlying0
  a0:=Tryz.isAgg0
  z0:=Tryz.sizeOf0
  v0:=Tryz.zeroValue0
  t2:=Tryz.underlying2
  a2:=Tryz.isAgg2
  z2:=Tryz.sizeOf2
  v2:=Tryz.zeroValue2
  t3:=Tryz.underlying3
  a3:=Tryz.isAgg3
  z3:=Tryz.sizeOf3
  v3:=Tryz.zeroValue3
  t4:=Tryz.underlying4
  a4:=Tryz.isAgg4
  z4:=Tryz.sizeOf4
  v4:=Tryz.zeroValue4
  t5:=Tryz.underlying5
  a5:=Tryz.isAgg5
  z5:=Tryz.sizeOf5
  v5:=Tryz.zeroValue5
  t9:=Tryz.underlying9
  a9:=Tryz.isAgg9
  z9:=Tryz.sizeOf9
  v9:=Tryz.zeroValue9
  t20:=Tryz.underlying20
  a20:=Tryz.isAgg20
  z20:=Tryz.sizeOf20
  v20:=Tryz.zeroValue20
  t37:=Tryz.underlying136
  a37:=Tryz.isAgg136
  z37:=Tryz.sizeOf136
  v37:=Tryz.zeroValue136
  t46:=Tryz.underlying146
  a46:=Tryz.isAgg146
  z46:=Tryz.sizeOf146
  v46:=Tryz.zeroValue146
  t51:=Tryz.underlying159
  a51:=Tryz.isAgg159
  z51:=Tryz.sizeOf159
  v51:=Tryz.zeroValue159
  t53:=Tryz.underlying162
  a53:=Tryz.isAgg162
  z53:=Tryz.sizeOf162
  v53:=Tryz.zeroValue162
  t171:=Tryz.underlying187
  a171:=Tryz.isAgg187
  z171:=Tryz.sizeOf187
  v171:=Tryz.zeroValue187
  t173:=Tryz.underlying189
  a173:=Tryz.isAgg189
  z173:=Tryz.sizeOf189
  v173:=Tryz.zeroValue189
  t212:=Tryz.underlying195
  a212:=Tryz.isAgg195
  z212:=Tryz.sizeOf195
  v212:=Tryz.zeroValue195
  t213:=Tryz.underlying196
  a213:=Tryz.isAgg196
  z213:=Tryz.sizeOf196
  t232:=Tryz.underlying197
  a232:=Tryz.isAgg197
  z232:=Tryz.sizeOf197
  v232:=Tryz.zeroValue197
  t233:=Tryz.underlying198
  a233:=Tryz.isAgg198
  z233:=Tryz.sizeOf198
  v233:=Tryz.zeroValue198
  g17:=by kernel_rfl
  g18:=by kernel_rfl
  g19:=by kernel_rfl
  i0:=by kernel_rfl
  i2:=by kernel_rfl
  i3:=by kernel_rfl
  i4:=by kernel_rfl
  i5:=by kernel_rfl
  i9:=by kernel_rfl
  i20:=by kernel_rfl
  i37:=by kernel_rfl
  i46:=by kernel_rfl
  i51:=by kernel_rfl
  i53:=by kernel_rfl
  i171:=by kernel_rfl
  i173:=by kernel_rfl
  i212:=by kernel_rfl
  i232:=by kernel_rfl
  i233:=by kernel_rfl
  m17:=by kernel_rfl
  m18:=by kernel_rfl
  m19:=by kernel_rfl}
def GT (w : World) : Prop := Lib.TabIs Tryz.prog w "internal/strconv.uint64pow10" .u64 Lib.pow10Tab
theorem DQ:V3 GT:=fun w w' hk h=>by
  unfold GT Lib.TabIs World.var? at*
  cases hg : Tryz.prog.globalNamed "internal/strconv.uint64pow10" with
  | none=>simp [hg] at h
  | some g=>
    simp only [hg,Option.bind_some] at h ⊢
    have hlt:g < w.heap.size:=by
      rcases Nat.lt_or_ge g w.heap.size with h'|h'
      . exact h'
      . rw [Array.getElem?_eq_none h'] at h;simp at h
    rw [hk.block g hlt (fun h=>h)]
    exact h
theorem Ur (n:Int) (h0:-9223372036854775808≤n) (h1:n≤9223372036854775807):Fn1G Tryz.prog GT 81 [.int .i64 n] (fun r=>r= .str (Lib.itoa n)):=by
  intro w I vs hG hl hv hI
  obtain ⟨v0,rfl⟩:∃v0,vs=[v0]:=by
    match vs,hl with
    | [a],_=>exact ⟨a,rfl⟩
  have e0:v0= .int .i64 n:=(Rep.pure (bl:=fun _=>none) _ _ (hv 0 v0 _ rfl rfl)).inv_int
  subst e0
  have hlen:=Lib.itoa_length_le n h0 h1
  refine Ta hI (by omega) ((Any.strconv_Itoa XJ n h0 h1 w hG).mono ?_)
  rintro e w' ⟨rfl,k,os,rfl⟩
  exact ⟨rfl,Lib.below_grow _ _ (Nat.le_refl _) k os⟩
def Gr (l:List Int):List UInt8:=l.flatMap fun n=>Lib.itoa n++[32]
def Us (l:List UInt8):Nat:=l.foldl (fun a d=>a*10+(d.toNat - 48)) 0
theorem QA (u:Nat):Us (Lib.decDigits u)=u:=by
  induction u using Nat.strongRecOn with
  | _ u ih=>
    rw [Lib.decDigits]
    split
    . rename_i h
      simp only [Us,List.foldl_cons,List.foldl_nil,UInt8.toNat_ofNat']
      omega
    . rename_i h
      have:=ih (u / 10) (by omega)
      unfold Us at this ⊢
      rw [List.foldl_append,this]
      simp only [List.foldl_cons,List.foldl_nil,UInt8.toNat_ofNat']
      omega
theorem JO (u:Nat):∀c∈Lib.decDigits u,48≤c.toNat∧c.toNat≤57:=by
  induction u using Nat.strongRecOn with
  | _ u ih=>
    rw [Lib.decDigits]
    split
    . rename_i h
      intro c hc
      simp only [List.mem_singleton] at hc
      subst hc
      rw [UInt8.toNat_ofNat']
      omega
    . rename_i h
      intro c hc
      rcases List.mem_append.1 hc with hc|hc
      . exact ih (u / 10) (by omega) c hc
      . simp only [List.mem_singleton] at hc
        subst hc
        rw [UInt8.toNat_ofNat']
        omega
theorem Rk (n:Int):∀c∈Lib.itoa n,45≤c.toNat:=by
  intro c hc
  unfold Lib.itoa at hc
  split at hc
  . rcases List.mem_cons.1 hc with rfl|hc
    . decide
    . have:=JO _ c hc;omega
  . have:=JO _ c hc;omega
def XK (l:List UInt8):Int:=match l with
  | []=>0
  | c::r=>if c=45 then -(Us r:Int) else Us (c::r)
theorem Ni (n:Int):XK (Lib.itoa n)=n:=by
  unfold Lib.itoa
  split
  . simp only [XK,if_true,QA]
    omega
  . have h1:=JO n.toNat
    have h2:=QA n.toNat
    cases h:Lib.decDigits n.toNat with
    | nil=>rw [h] at h2;simp only [XK];simp [Us] at h2;omega
    | cons c r=>
      rw [h] at h1 h2
      have hc:=h1 c (by simp)
      have:c≠45:=fun e=>by subst e;simp at hc
      simp only [XK,if_neg this,h2]
      omega
theorem Ze {a b x y:List UInt8} (ha:(32:UInt8)∉a) (hb:(32:UInt8)∉b) (h:a++32::x=b++32::y):a=b∧x=y:=by
  induction a generalizing b with
  | nil=>
    cases b with
    | nil=>simp at h;exact ⟨rfl,h⟩
    | cons c b=>simp at h;exact absurd (by simp [h.1]) hb
  | cons d a ih=>
    cases b with
    | nil=>simp at h;exact absurd (by simp [h.1]) ha
    | cons c b=>
      simp only [List.cons_append,List.cons.injEq] at h
      obtain ⟨rfl,h⟩:=h
      obtain ⟨e1,e2⟩:=ih (fun m=>ha (by simp [m])) (fun m=>hb (by simp [m])) h
      exact ⟨by rw [e1],e2⟩
theorem QB (n:Int):(32:UInt8)∉Lib.itoa n:=fun h=>by
  have:=Rk n 32 h
  simp at this
theorem If:∀{l m:List Int},Gr l=Gr m→l=m
  | [],[],_=>rfl
  | [],n::m,h=>by simp [Gr] at h
  | n::l,[],h=>by simp [Gr] at h
  | n::l,k::m,h=>by
    simp only [Gr,List.flatMap_cons,List.append_assoc,List.cons_append,List.nil_append] at h
    obtain ⟨e1,e2⟩:=Ze (QB n) (QB k) h
    have:=congrArg XK e1
    rw [Ni,Ni] at this
    rw [this,If e2]
def Es (l:List Int):Value:=.string ⟨(Gr l).toArray⟩
def Lo (l:List Int):V:=.str (Gr l)
theorem key_ok:KeyOk Tryz.prog 106 Es Lo where
  map:=⟨9,3,by kernel_rfl,fun w=>Tryz.zeroValue3 w,fun e a w=>MapKept.run_checkKey (d:=.string) (k:=Es a) (by kernel_rfl) (show MapKept.IsKey .string (Es a) from trivial) e 9999,fun a w L es h=>Gq (d:=.string) (by kernel_rfl) (fun a b=>by
    simp only [Es,Instr.sameNow]
    congr 1
    rw [Bool.eq_iff_iff,MapKept.bytes_beq]
    simp only [decide_eq_true_eq]
    constructor
    . intro e
      have:=congrArg (fun x:ByteArray=>x.data.toList) e
      exact If (by simpa using this)
    . rintro rfl;rfl) a w L es h⟩
  rep:=fun w I bl v a h=>by
    obtain ⟨t,rfl,ht,_⟩:=h.inv_str
    unfold Es
    rw [←ht]
theorem Lp (l:List Int) (h:∀x∈l,-9223372036854775808≤x∧x≤9223372036854775807):(Gr l).length≤22*l.length:=by
  induction l with
  | nil=>simp [Gr]
  | cons n l ih=>
    have h1:=ih (fun x hx=>h x (by simp [hx]))
    have h2:=Lib.itoa_length_le n (h n (by simp)).1 (h n (by simp)).2
    simp only [Gr,List.flatMap_cons,List.length_append,List.length_cons,List.length_nil] at h1 ⊢
    omega
set_option maxHeartbeats 8000000 in
theorem Lq (l:List Int) (hl:l.length≤1000) (h:∀x∈l,-9223372036854775808≤x∧x≤9223372036854775807):Fn1G Tryz.prog GT 57 [AY l] (fun r=>r= .str (Gr l)):=by
  have hlm:(l.map (V.int .i64)).length=l.length:=by simp
  unfold AY
  refine Gm (T:=Tryz.tt) Tryz.func57 rfl AR AB ?_ ?_ fun C hC hW hG hE=>?_
  . kernel_rfl
  . exact Nat.le_of_ble_eq_true (by kernel_rfl)
  conv=>whnf
  repeat' (intro hlen;conv=>whnf)
  refine Ae (fun ((k,o):Nat×List UInt8)=>⟨18,[(3,.ptr 0 0 0),(6,.lst (l.map (V.int .i64))),(7,.int .i64 (l.map (V.int .i64)).length),(8,.int .i64 k)],[some (.bld 138 (some (1,o.length))),some (.buf 5 o)]⟩)
    (fun (k,o)=>k≤l.length∧o=Gr (l.take k)) (fun (k,_)=>l.length - k) (0,[]) hE ?_ ?_ ⟨Nat.zero_le _,rfl⟩ ?_
  . kernel_rfl
  . exact de 0 5 rfl (AU [3,6,7,8] rfl)
  rintro ⟨k,o⟩ ⟨hk,ho⟩
  have hol:o.length≤22*k:=by
    rw [ho]
    have:=Lp (l.take k) (fun x hx=>h x (List.mem_of_mem_take hx))
    simp at this
    omega
  by_cases hlt:k < l.length
  . obtain ⟨x,hx⟩:∃x,l[k]?=some x:=⟨_,List.getElem?_eq_getElem hlt⟩
    obtain ⟨hx0,hx1⟩:=h x (List.mem_of_getElem? hx)
    have hit:=(Ur x hx0 hx1).c hC hW DQ hG
    have hil:=Lib.itoa_length_le x hx0 hx1
    have hnew:o++(Lib.itoa x++[32])=Gr (l.take (k+1)):=by
      rw [ho,List.take_add_one,hx]
      simp [Gr]
    conv=>whnf
    repeat' (first|(refine AN (by first|assumption|omega) ?_;conv=>whnf)|(refine Af (by first|assumption|omega) ?_;conv=>whnf)|(refine AS (by omega) ?_;conv=>whnf)|(refine G5 (by assumption) ?_;conv=>whnf)|(refine Cx (hit) hC Sp rfl ?_ ?_ ?_;kernel_rfl;kernel_rfl;conv=>whnf)|(refine Zc hC 0 1 (by decide) ?_ rfl rfl rfl ?_;(simp;omega);conv=>whnf)|(refine Af ?_ ?_;(simp;omega);conv=>whnf))
    exact AJ [3,6,7,8] (k+1,o++(Lib.itoa x++[32])) ⟨hlt,hnew⟩ (show l.length - (k+1) < l.length - k by omega) rfl
  . conv=>whnf
    repeat' (first|(refine AM (by first|assumption|omega) ?_;conv=>whnf)|(refine XI hC 0 1 (by decide) rfl rfl rfl ?_;conv=>whnf)|(refine AH hE ?_;conv=>whnf))
    exact ⟨rfl,by rw [ho,List.take_of_length_le (by omega)]⟩
end Go.Proofs.YtkaiffheakalmaaGreatDoor
namespace Go.Proofs.YtkaiffheakalmaaGreatDoor
open Go.RowKit
def OT (b:Bool):List UInt8:=if b then [116,114,117,101] else [102,97,108,115,101]
def XL (q:List Int×Bool):List UInt8:=Gr q.1++OT q.2
theorem XM {p q:List Int×Bool} (h:XL p=XL q):p=q:=by
  obtain ⟨l,b⟩:=p
  obtain ⟨m,c⟩:=q
  unfold XL at h
  simp only at h
  cases b<;>cases c
  . have:=If (List.append_cancel_right h)
    rw [this]
  . have:=congrArg List.reverse h
    simp [OT] at this
  . have:=congrArg List.reverse h
    simp [OT] at this
  . have:=If (List.append_cancel_right h)
    rw [this]
def Cp (q:List Int×Bool):Value:=.string ⟨(XL q).toArray⟩
def Lr (q:List Int×Bool):V:=.str (XL q)
theorem HA:KeyOk Tryz.prog 106 Cp Lr where
  map:=⟨9,3,by kernel_rfl,fun w=>Tryz.zeroValue3 w,fun e a w=>MapKept.run_checkKey (d:=.string) (k:=Cp a) (by kernel_rfl) (show MapKept.IsKey .string (Cp a) from trivial) e 9999,fun a w L es h=>Gq (d:=.string) (by kernel_rfl) (fun a b=>by
    simp only [Cp,Instr.sameNow]
    congr 1
    rw [Bool.eq_iff_iff,MapKept.bytes_beq]
    simp only [decide_eq_true_eq]
    constructor
    . intro e
      have:=congrArg (fun x:ByteArray=>x.data.toList) e
      exact XM (by simpa using this)
    . rintro rfl;rfl) a w L es h⟩
  rep:=fun w I bl v a h=>by
    obtain ⟨t,rfl,ht,_⟩:=h.inv_str
    unfold Cp
    rw [←ht]
end Go.Proofs.YtkaiffheakalmaaGreatDoor
namespace Go.Proofs.YtkaiffheakalmaaGreatDoor
open Go.RowKit
def dg (P:Program) (G:World→Prop) (f:FuncId) (args:List V) (objs:List Ob) (fixed:List Nat) (R:V→List Ob→Prop):Prop:=
  ∀(w:World) (I:Nat→Prop) (bl:Nat→Option BI) (vs:List Value),(∀w',Kept (Ah bl) w w'→G w')→args.length=vs.length→(∀(i:Nat) (v:Value) (x:V),vs[i]?=some v→args[i]?=some x→Rep w I bl v x)→
    HeapRep ⟨P,w,Ah bl,I⟩ (objs.map some) w I bl→
    Calls P f vs.toArray w fun e w'=>∃v r objs' I' bl',e= .returned v∧R r objs'∧objs'.length=objs.length∧Rep w' I' bl' v r∧HeapRep ⟨P,w,Ah bl,I⟩ (objs'.map some) w' I' bl'∧∀j∈fixed,bl' j=bl j
def GC (C:Ctx) (G:World→Prop):Prop:=∀w,Kept C.E C.W0 w→G w
theorem ga {C:Ctx} {G:World→Prop} (hE:C.E=fun _=>False) (hk:V3 G) (hG:G C.W0):GC C G:=fun w hw=>hk _ _ (hE▸hw) hG
theorem Fn1G.cg {C:Ctx} {P:Program} {G:World→Prop} {f:FuncId} {args:List V} {R:V→Prop} (h:Fn1G P G f args R) (hC:C.P=P) (hg:GC C G):YT C f args R:=by
  subst hC
  exact fun w I vs hw=>h w I vs (hg w hw)
section
variable {T:TT} {C:Ctx} {σ:ES}
theorem cZ {G:World→Prop} {P:Program} {f:FuncId} {fn:Func} {c:Code} {args:List V} {objs:List Ob} {fixed:List Nat} {R:V→List Ob→Prop} (hf:P.funcs[f]?=some fn) (hb:fn.body=some c) (hall:T.All P) (hany:P.follows .mixedOrders=true) (hc:C8 c=true) (hn:args.length≤fn.ntmps)
    (h:∀(C:Ctx) (vs:List Value),C.P=P→GC C G→EOk T C→GH T C c (cW T C fn args objs vs fixed R) ⟨fn.ntmps,J3 0 args,objs.map some++[some (.hid vs args)]⟩):dg P G f args objs fixed R:=by
  intro w I bl vs hg hl hvs hH
  refine calls_of_wp hf hb ?_
  let C:Ctx:=⟨P,w,Ah bl,I⟩
  have hE:EOk T C:=⟨hall,hany⟩
  have hbn:bl objs.length=none:=by
    cases hb:bl objs.length with
    | none=>rfl
    | some i=>
      obtain ⟨o,ho⟩:=hH.live _ _ hb
      have:=(List.getElem?_eq_some_iff.1 ho).1
      simp at this
  have hH2:HeapRep C (objs.map some++[some (.hid vs args)]) w I bl:=by
    refine ⟨fun id o ho=>?_,fun id i hi=>?_,hH.apart,hH.own,hH.imm,hH.kept⟩
    . rw [List.getElem?_append] at ho
      split at ho
      . exact hH.obj id o ho
      . rename_i hlt
        simp only [List.length_map] at hlt ho
        cases hk:id - objs.length with
        | zero=>
          simp [hk] at ho
          subst ho
          have:id=objs.length:=by omega
          subst this
          exact ⟨hbn,hl.symm,hvs⟩
        | succ k=>simp [hk] at ho
    . obtain ⟨o,ho⟩:=hH.live id i hi
      exact ⟨o,by rw [List.getElem?_append_left (List.getElem?_eq_some_iff.1 ho).1];exact ho⟩
  have hr:Rel C (⟨fn.ntmps,J3 0 args,objs.map some++[some (.hid vs args)]⟩:ES).st { tmps:=vs.toArray++Array.replicate (fn.ntmps - vs.toArray.size) undef,defers:=[]} w:=by
    rw [TU _ _ _ hn]
    refine RP.rel (I:=I) (bl:=bl) ⟨rfl,⟨by simp [hl],fun i v x hv hx=>?_⟩,hH2⟩
    rw [List.getElem?_append] at hx
    rw [Array.getElem?_append] at hv
    split at hx
    . rename_i hi
      have hi':i < vs.toArray.size:=by simp;omega
      rw [if_pos hi'] at hv
      exact hvs i v x (by simpa [List.getElem?_eq_getElem (show i < vs.length by omega)] using hv) hx
    . have:x= .any:=by
        obtain ⟨h1,h2⟩:=List.getElem?_eq_some_iff.1 hx
        rw [←h2];simp
      subst this
      exact .pure _ _ (.any _)
  refine wp_mono (IN hE c hc _ _ (h C vs rfl hg hE) _ w hr) ?_
  rintro e a' w' ⟨s',⟨σ',rfl,h1⟩,h2⟩
  have fin:HRetN T C fn args objs vs fixed R σ'→a'.defers=[]∧∃v,(results fn a'.tmps).run P w'= .ok v w'∧
      ∃v' r objs' I' bl',Ending.returned v= .returned v'∧R r objs'∧objs'.length=objs.length∧Rep w' I' bl' v' r∧HeapRep ⟨P,w,Ah bl,I⟩ (objs'.map some) w' I' bl'∧∀j∈fixed,bl' j=bl j:=by
    intro h1
    obtain ⟨s2,⟨objs',args',rest,g1,g2,g3,g4,g5,g6⟩,hr2⟩:=h1.out a' w' h2
    obtain ⟨I',bl',hp⟩:=hr2.parts
    obtain ⟨v,hv,hrep⟩:=GV hp g4
    have hhid:ObRep w' I' bl' objs'.length (.hid vs args'):=hp.heap.obj _ _ (by rw [g1,List.getElem?_append_right (by simp)];simp)
    obtain ⟨hn1,hn2,hn3⟩:=hhid
    have hHr:HeapRep C s2.heap w' I' bl':=hp.heap
    have hfix:∀j∈fixed,bl' j=bl j:=by
      intro j hj
      have hfx:=List.all_eq_true.1 g6 j hj
      simp only [Co,Bool.and_eq_true,List.any_eq_true,List.mem_range] at hfx
      obtain ⟨hz,i,hi,hx,hx'⟩:=hfx
      obtain ⟨x,hxa⟩:∃x,args[i]?=some x:=⟨_,List.getElem?_eq_getElem hi⟩
      obtain ⟨u,hu⟩:∃u,vs[i]?=some u:=⟨_,List.getElem?_eq_getElem (by omega)⟩
      obtain ⟨x',hxa'⟩:∃x,args'[i]?=some x:=⟨_,List.getElem?_eq_getElem (by omega)⟩
      simp only [hxa] at hx
      simp only [hxa'] at hx'
      obtain ⟨b1,base1,z1,k1,k3⟩:=G6 hx (hvs i u _ hu hxa)
      obtain ⟨b2,base2,z2,k4,k6⟩:=G6 hx' (hn3 i u _ hu hxa')
      have kk:b1=b2∧base1=base2:=by
        rcases k3 with rfl|⟨m,cap,rfl,_⟩
        . rcases k6 with k6|⟨m',cap',k6,_⟩
          . simp only [Value.pointer.injEq,Option.some.injEq,Addr.mk.injEq,and_true] at k6
            exact k6
          . cases k6
        . rcases k6 with k6|⟨m',cap',k6,_⟩
          . cases k6
          . simp only [Value.slice.injEq,Option.some.injEq,Addr.mk.injEq,and_true] at k6
            exact k6.1
      obtain ⟨rfl,rfl⟩:=kk
      -- the width
      split at hz
      . rename_i o ho
        split at hz
        . rename_i o' ho'
          split at hz
          . rename_i z hoz
            split at hz
            . rename_i z' hoz'
              obtain ⟨bi,m1,m2⟩:=KJ (hH.obj j o (by rw [List.getElem?_map,ho];rfl)) hoz
              obtain ⟨bi',m3,m4⟩:=KJ (hHr.obj j o' (by
                have hlt:j < objs'.length:=(List.getElem?_eq_some_iff.1 ho').1
                rw [g1,List.getElem?_append_left (by simpa using hlt),List.getElem?_map,ho'];rfl)) hoz'
              rw [k1] at m1
              rw [k4] at m3
              simp only [Option.some.injEq] at m1 m3
              subst m1;subst m3
              simp only at m2 m4
              have:=Dz hz
              rw [k4,k1]
              subst m2;subst m4
              rw [this]
            . cases hz
          . cases hz
        . cases hz
      . cases hz
    rcases g2 with g2|⟨gl1,gl2⟩
    rotate_left
    . refine ⟨hp.defers,v,hv,v,_,objs',I',RZ objs'.length bl',rfl,g5,g3,hrep.cut _ (by rw [g3];exact gl1),⟨fun id o ho=>?_,fun id i hi=>?_,fun id id' i i' b hi hi'=>hHr.apart id id' i i' b (DC hi).2 (DC hi').2,fun id i b hi=>hHr.own id i b (DC hi).2,hHr.imm,hHr.kept⟩,fun j hj=>?_⟩
      . have hlt:id < objs'.length:=by simpa using (List.getElem?_eq_some_iff.1 ho).1
        refine ObRep.cut (hHr.obj id o (by rw [g1,List.getElem?_append_left (by simpa using hlt)];exact ho)) hlt ?_
        rw [g3]
        refine JE _ objs' id o gl2 ?_
        simpa using ho
      . obtain ⟨hlt,hi⟩:=DC hi
        exact ⟨objs'[id],by simp [hlt]⟩
      . rw [Ck,hfix j hj]
        have hfx:=List.all_eq_true.1 g6 j hj
        simp only [Co,Bool.and_eq_true] at hfx
        obtain ⟨hz,_⟩:=hfx
        split at hz
        . split at hz
          . rename_i ho'
            exact (List.getElem?_eq_some_iff.1 ho').1
          . cases hz
        . cases hz
    . refine ⟨hp.defers,v,hv,v,_,objs',I',bl',rfl,g5,g3,hrep,⟨fun id o ho=>?_,fun id i hi=>?_,hHr.apart,hHr.own,hHr.imm,hHr.kept⟩,hfix⟩
      . exact hHr.obj id o (by rw [g1,List.getElem?_append_left (List.getElem?_eq_some_iff.1 ho).1];exact ho)
      . obtain ⟨o,ho⟩:=hHr.live id i hi
        rw [g1,List.getElem?_append] at ho
        split at ho
        . exact ⟨o,ho⟩
        . rename_i hlt
          simp only [List.length_map] at hlt ho
          cases hk:id - objs'.length with
          | zero=>
            have:id=objs'.length:=by omega
            subst this
            rw [hn1] at hi;cases hi
          | succ k=>
            rw [hk] at ho
            simp only [List.getElem?_cons_succ] at ho
            exact absurd ho (Gn rest k o g2)
  cases e with
  | normal=>exact fin h1
  | ret=>exact fin h1
  | exit id=>exact h1.elim
  | goto l=>exact h1.elim
  | panic ch=>exact h1.elim
  | outgrown=>exact h1.elim
end
theorem Zf {G:World→Prop} {C:Ctx} {P:Program} {f:FuncId} {args0:List V} {objs0:List Ob} {fixed:List Nat} {R:V→List Ob→Prop} (h:dg P G f args0 objs0 fixed R) (hg:GC C G) (hC:C.P=P) (hb:AD P f=true) {fop:Operand} {args:List Operand} {xs:List V} {K:V→ES→Prop} {σ:ES}
    (he:B3 σ fop args=some (f,xs)) (ρ:Nat→Nat) (hinj:∀i j,i < objs0.length→j < objs0.length→ρ i=ρ j→i=j) (hx:FC objs0.length ρ args0 xs) (hobj:∀(j:Nat) (o:Ob),objs0[j]?=some o→∃o',σ.heap[ρ j]?=some (some o')∧Mf objs0.length ρ o o')
    (M:List Nat) (hM:∀j,j < objs0.length→ρ j∉M→j∈fixed) (hMi:∀id∈M,∃j,j < objs0.length∧ρ j=id)
    (hK:∀r0 objs',R r0 objs'→objs'.length=objs0.length→∃(r:V) (objs'':List Ob),Bu objs0.length ρ r0 r∧objs''.length=objs0.length∧(∀(j:Nat) (o o':Ob),objs'[j]?=some o→objs''[j]?=some o'→Mf objs0.length ρ o o')∧K r ⟨σ.n,Cq M σ.u,BG ρ objs'' 0 (BA M σ.heap)⟩):
    CallN C fop args f xs K σ:=by
  subst hC
  generalize hk:objs0.length=k at*
  obtain ⟨caps,e1,e2⟩:=CE he
  refine ⟨Bg ?_⟩
  unfold EA
  rw [e1]
  simp only
  rw [e2]
  refine ⟨hb,?_⟩
  rintro a w vs ⟨I,bl,hdef,henv,hxs,hH⟩
  have hH:HeapRep C σ.heap w I bl:=hH
  -- the callee's view
  let blc:Nat→Option BI:=fun j=>if j < k then bl (ρ j) else none
  have hblc:∀j,j < k→blc j=bl (ρ j):=fun j hj=>if_pos hj
  have hblc':∀j i,blc j=some i→j < k∧bl (ρ j)=some i:=by
    intro j i hj
    by_cases hjk:j < k
    . exact ⟨hjk,by rw [←hblc j hjk];exact hj⟩
    . simp only [blc,if_neg hjk] at hj;cases hj
  have hown:∀b,Ah blc b→b < w.heap.size∧¬I b∧(C.E b∨C.W0.heap.size≤b):=by
    rintro b ⟨j,i,h1,h2⟩
    exact hH.own _ i b (hblc' j i h1).2 h2
  obtain ⟨hxl,hxr⟩:=By hx
  have hHc:HeapRep ⟨C.P,w,Ah blc,I⟩ (objs0.map some) w I blc:=by
    refine ⟨fun j o ho=>?_,fun j i hj=>?_,fun j j' i i' b h1 h2 h3 h4=>?_,fun j i b h1 h2=>?_,fun b hb=>⟨(hH.imm b hb).1,.inl hb⟩,Kept.refl _ _⟩
    . have ho':objs0[j]?=some o:=by
        rw [List.getElem?_map,Option.map_eq_some_iff] at ho
        obtain ⟨o2,h1,h2⟩:=ho
        simp only [Option.some.injEq] at h2
        rw [h1,h2]
      have hj:j < k:=by rw [←hk];exact (List.getElem?_eq_some_iff.1 ho').1
      obtain ⟨o',h1,h2⟩:=hobj j o ho'
      exact TV hblc hj h2 (hH.obj _ o' h1)
    . obtain ⟨hj,_⟩:=hblc' j i hj
      exact ⟨objs0[j]'(by omega),by rw [List.getElem?_map,List.getElem?_eq_getElem (by omega)];rfl⟩
    . obtain ⟨hj,h1⟩:=hblc' j i h1
      obtain ⟨hj',h2⟩:=hblc' j' i' h2
      exact hinj j j' hj hj' (hH.apart _ _ i i' b h1 h2 h3 h4)
    . have h3:=hown b ⟨j,i,h1,h2⟩
      exact ⟨h3.1,h3.2.1,.inl ⟨j,i,h1,h2⟩⟩
  have hgc:∀w',Kept (Ah blc) w w'→G w':=fun w' hk'=>hg w' (by
    have hk0:=hH.kept
    refine ⟨hk'.os.trans hk0.os,hk'.tape.trans hk0.tape,hk'.output.trans hk0.output,Nat.le_trans hk0.size hk'.size,fun b h1 h2=>?_,fun b s hs=>hk'.shape b s (hk0.shape b s hs)⟩
    rw [hk'.block b (Nat.lt_of_lt_of_le h1 hk0.size) (fun hb'=>(hown b hb').2.2.elim h2 (fun h3=>by omega))]
    exact hk0.block b h1 h2)
  refine (h w I blc vs hgc (by rw [hxl];exact hxs.1) (fun i v x hv hx'=>?_) hHc).mono ?_
  . obtain ⟨y,hy⟩:=DD hxl hx'
    exact IT hblc x v y (hxr i x y hx' hy) (hxs.2 i v y hv hy)
  rintro e w' ⟨v,r0,objs',I',bl',rfl,hR,hlen,hrep,hH',hfix⟩
  obtain ⟨r,objs'',hrr,hl2,hro,hKK⟩:=hK r0 objs' hR (by rw [hlen,hk])
  rw [hk] at hlen
  have hown':∀j i b,bl' j=some i→i.blk=some b→b < w'.heap.size∧¬I' b∧(Ah blc b∨w.heap.size≤b):=fun j i b h1 h2=>hH'.own j i b h1 h2
  have hlive':∀j i,bl' j=some i→j < k:=by
    intro j i h1
    obtain ⟨o,ho⟩:=hH'.live j i h1
    have:=(List.getElem?_eq_some_iff.1 ho).1
    simpa [hlen] using this
  have hkeep:∀b,b < w.heap.size→¬Ah blc b→w'.heap[b]?=w.heap[b]?:=fun b h1 h2=>hH'.kept.block b h1 h2
  have hsize:w.heap.size≤w'.heap.size:=hH'.kept.size
  have hnotI:∀b,I b→¬Ah blc b:=fun b hb h=>(hown b h).2.1 hb
  have hlater:Later I w w':=⟨fun b hb=>hkeep b (hH.imm b hb).1 (hnotI b hb),hH'.kept.shape⟩
  let I2:Nat→Prop:=fun b=>I b∨I' b
  -- the caller's places
  let bl2:Nat→Option BI:=fun id=>match (List.range k).find? (fun j=>decide (ρ j=id)) with|some j=>bl' j|none=>bl id
  have hin:∀j,j < k→bl2 (ρ j)=bl' j:=by
    intro j hj
    have:(List.range k).find? (fun i=>decide (ρ i=ρ j))=some j:=by
      cases hf:(List.range k).find? (fun i=>decide (ρ i=ρ j)) with
      | none=>
        have:=List.find?_eq_none.1 hf j (by simpa using hj)
        simp at this
      | some i=>
        have h1:=List.find?_some hf
        have h2:=List.mem_of_find?_eq_some hf
        simp at h1 h2
        rw [hinj i j h2 hj h1]
    simp only [bl2,this]
  have hout:∀id,(∀j,j < k→ρ j≠id)→bl2 id=bl id:=by
    intro id hid
    have:(List.range k).find? (fun i=>decide (ρ i=id))=none:=by
      rw [List.find?_eq_none]
      intro i hi
      simp at hi ⊢
      exact hid i hi
    simp only [bl2,this]
  have hM2:∀id,id∉M→bl2 id=bl id:=by
    intro id hid
    by_cases hex:∃j,j < k∧ρ j=id
    . obtain ⟨j,hj,rfl⟩:=hex
      rw [hin j hj,hfix j (hM j hj hid),hblc j hj]
    . exact hout id fun j hj e=>hex ⟨j,hj,e⟩
  have hI2:∀b,I b→I2 b:=fun b hb=>.inl hb
  have hI2':∀b,I' b→I2 b:=fun b hb=>.inr hb
  have hρlt:∀j,j < k→ρ j < σ.heap.length:=by
    intro j hj
    obtain ⟨o',h1,_⟩:=hobj j _ (List.getElem?_eq_getElem (by omega:j < objs0.length))
    exact (List.getElem?_eq_some_iff.1 h1).1
  have hsetlen:(BG ρ objs'' 0 (BA M σ.heap)).length=σ.heap.length:=by rw [FR,Cz]
  have hat:∀j,(hj:j < k)→(BG ρ objs'' 0 (BA M σ.heap))[ρ j]?=some (some (objs''[j]'(by omega))):=by
    intro j hj
    have:=JH (ρ:=ρ) objs'' 0 (BA M σ.heap) j _ (List.getElem?_eq_getElem (by omega)) (fun a b ha hb e=>hinj a b (by omega) (by omega) (by simpa using e)) (by rw [Cz,Nat.zero_add];exact hρlt j hj)
    rwa [Nat.zero_add] at this
  have hoth:∀id,(∀j,j < k→ρ j≠id)→(BG ρ objs'' 0 (BA M σ.heap))[id]?=(BA M σ.heap)[id]?:=by
    intro id hid
    exact EN objs'' 0 _ id fun i hi=>by rw [Nat.zero_add];exact hid i (by omega)
  have hnotblk:∀id i b,bl id=some i→i.blk=some b→(∀j,j < k→ρ j≠id)→¬Ah blc b:=by
    rintro id i b h1 h2 h3 ⟨j,i',h4,h5⟩
    obtain ⟨hj,h4⟩:=hblc' j i' h4
    exact h3 j hj (hH.apart _ _ i' i b h4 h1 h5 h2)
  have hI'cases:∀b,I' b→b < w'.heap.size∧(I b∨Ah blc b∨w.heap.size≤b):=fun b hb=>hH'.imm b hb
  refine ⟨v,r,⟨JF M σ.env,BG ρ objs'' 0 (BA M σ.heap)⟩,rfl,⟨_,?_,hKK⟩,I2,bl2,hdef,?_,⟨rfl,fun i v' x hv hx'=>?_⟩,?_⟩
  . unfold ES.st
    congr 1
    exact Hm σ.n M σ.u σ.heap _
  . exact JG M bl _ hM2 (henv.later hlater hI2 (fun _ _ h=>h))
  . cases i with
    | succ i=>simp at hv
    | zero=>
      simp at hv hx'
      subst hv;subst hx'
      exact OI hI2' hin hrep r hrr
  . refine ⟨fun id o ho=>?_,fun id i hi=>?_,fun id id' i i' b h1 h2 h3 h4=>?_,fun id i b h1 h2=>?_,fun b hb=>?_,?_⟩
    . have ho:(BG ρ objs'' 0 (BA M σ.heap))[id]?=some (some o):=ho
      by_cases hex:∃j,j < k∧ρ j=id
      . obtain ⟨j,hj,rfl⟩:=hex
        rw [hat j hj] at ho
        simp only [Option.some.injEq] at ho
        have ho1:objs'[j]?=some (objs'[j]'(by omega)):=List.getElem?_eq_getElem (by omega)
        have ho2:objs''[j]?=some (objs''[j]'(by omega)):=List.getElem?_eq_getElem (by omega)
        subst ho
        exact cX hI2' hin hj (hro j _ _ ho1 ho2) (hH'.obj j _ (by rw [List.getElem?_map,ho1];rfl))
      . have hid:∀j,j < k→ρ j≠id:=fun j hj e=>hex ⟨j,hj,e⟩
        rw [hoth id hid] at ho
        refine Hl M bl σ.heap o hM2 (fun hm=>?_) (fun o2 ho2=>?_) ho
        . obtain ⟨j,hj,e⟩:=hMi id hm
          exact hid j hj e
        . exact (hH.obj id o2 ho2).later hlater hI2 (fun _ _ h=>h) (fun i b h1 h2=>hkeep b (hH.own id i b h1 h2).1 (hnotblk id i b h1 h2 hid)) (fun h=>h)
    . show ∃o,(BG ρ objs'' 0 (BA M σ.heap))[id]?=some (some o)
      by_cases hex:∃j,j < k∧ρ j=id
      . obtain ⟨j,hj,rfl⟩:=hex
        exact ⟨_,hat j hj⟩
      . have hid:∀j,j < k→ρ j≠id:=fun j hj e=>hex ⟨j,hj,e⟩
        rw [hoth id hid]
        rw [hout id hid] at hi
        obtain ⟨o,ho⟩:=hH.live id i hi
        exact Gp M σ.heap o ho
    . by_cases hex:∃j,j < k∧ρ j=id
      . obtain ⟨j,hj,rfl⟩:=hex
        rw [hin j hj] at h1
        by_cases hex':∃j,j < k∧ρ j=id'
        . obtain ⟨j',hj',rfl⟩:=hex'
          rw [hin j' hj'] at h2
          rw [hH'.apart j j' i i' b h1 h2 h3 h4]
        . have hid:∀j,j < k→ρ j≠id':=fun j hj e=>hex' ⟨j,hj,e⟩
          rw [hout id' hid] at h2
          obtain ⟨g1,g2,g3⟩:=hown' j i b h1 h3
          have g4:=hH.own id' i' b h2 h4
          rcases g3 with g3|g3
          . exact absurd g3 (hnotblk id' i' b h2 h4 hid)
          . omega
      . have hid:∀j,j < k→ρ j≠id:=fun j hj e=>hex ⟨j,hj,e⟩
        rw [hout id hid] at h1
        by_cases hex':∃j,j < k∧ρ j=id'
        . obtain ⟨j',hj',rfl⟩:=hex'
          rw [hin j' hj'] at h2
          obtain ⟨g1,g2,g3⟩:=hown' j' i' b h2 h4
          have g4:=hH.own id i b h1 h3
          rcases g3 with g3|g3
          . exact absurd g3 (hnotblk id i b h1 h3 hid)
          . omega
        . have hid':∀j,j < k→ρ j≠id':=fun j hj e=>hex' ⟨j,hj,e⟩
          rw [hout id' hid'] at h2
          exact hH.apart id id' i i' b h1 h2 h3 h4
    . by_cases hex:∃j,j < k∧ρ j=id
      . obtain ⟨j,hj,rfl⟩:=hex
        rw [hin j hj] at h1
        obtain ⟨g1,g2,g3⟩:=hown' j i b h1 h2
        refine ⟨g1,fun hb=>?_,?_⟩
        . rcases hb with hb|hb
          . rcases g3 with g3|g3
            . exact hnotI b hb g3
            . have:=(hH.imm b hb).1;omega
          . exact g2 hb
        . rcases g3 with g3|g3
          . exact (hown b g3).2.2
          . exact .inr (Nat.le_trans hH.kept.size g3)
      . have hid:∀j,j < k→ρ j≠id:=fun j hj e=>hex ⟨j,hj,e⟩
        rw [hout id hid] at h1
        obtain ⟨g1,g2,g3⟩:=hH.own id i b h1 h2
        refine ⟨Nat.lt_of_lt_of_le g1 hsize,fun hb=>?_,g3⟩
        rcases hb with hb|hb
        . exact g2 hb
        . rcases (hI'cases b hb).2 with h5|h5|h5
          . exact g2 h5
          . exact hnotblk id i b h1 h2 hid h5
          . omega
    . rcases hb with hb|hb
      . obtain ⟨g1,g2⟩:=hH.imm b hb
        exact ⟨Nat.lt_of_lt_of_le g1 hsize,g2⟩
      . obtain ⟨g1,g2⟩:=hI'cases b hb
        refine ⟨g1,?_⟩
        rcases g2 with g2|g2|g2
        . exact (hH.imm b g2).2
        . have:=(hown b g2).2.2
          exact this.elim (fun h=>.inr (.inl h)) (fun h=>.inr (.inr h))
        . exact .inr (.inr (Nat.le_trans hH.kept.size g2))
    . have hk1:=hH.kept
      have hk2:=hH'.kept
      refine ⟨hk2.os.trans hk1.os,hk2.tape.trans hk1.tape,hk2.output.trans hk1.output,Nat.le_trans hk1.size hsize,fun b h1 h2=>?_,fun b s hs=>hk2.shape b s (hk1.shape b s hs)⟩
      have hlt:b < w.heap.size:=Nat.lt_of_lt_of_le h1 hk1.size
      have hnb:¬Ah blc b:=fun hb=>by
        rcases (hown b hb).2.2 with h|h
        . exact h2 h
        . omega
      rw [hkeep b hlt hnb]
      exact hk1.block b h1 h2
end Go.Proofs.YtkaiffheakalmaaGreatDoor
namespace Go.Proofs.YtkaiffheakalmaaGreatDoor
open Go.RowKit
abbrev Kn:=List (List Int×Bool)
def f7:Nat→Kn→List ((List Int×Bool)×Int)
  | _,[]=>[]
  | i,q::K=>(q,(i:Int))::f7 (i+1) K
def J8 (K:Kn):List ((List Int×Bool)×Int):=f7 0 K
theorem Zg (K:Kn) (q:List Int×Bool):∀i,f7 i (K++[q])=f7 i K++[(q,((i+K.length:Nat):Int))]:=by
  induction K with
  | nil=>intro i;simp [f7]
  | cons p K ih=>
    intro i
    simp only [List.cons_append,f7,List.cons_append,ih (i+1),List.length_cons]
    rw [show i+1+K.length=i+(K.length+1) by omega]
theorem Ti (K:Kn) (q:List Int×Bool):J8 (K++[q])=J8 K++[(q,(K.length:Int))]:=by
  unfold J8
  rw [Zg,Nat.zero_add]
def Ls (l:List Int) (f:Bool) (K:Kn):Int×Kn:=match Az (Bz l,f) (J8 K) with
  | some i=>(i,K)
  | none=>((K.length:Int),K++[(Bz l,f)])
theorem Ig {l:List Int} {f:Bool} {K:Kn} {i:Int} (h:Az (Bz l,f) (J8 K)=some i):Ls l f K=(i,K):=by unfold Ls;rw [h]
theorem Ih {l:List Int} {f:Bool} {K:Kn} (h:Az (Bz l,f) (J8 K)=none):Ls l f K=((K.length:Int),K++[(Bz l,f)]):=by unfold Ls;rw [h]
def dh (K:Kn) (N:List (List Int)):List Ob:=[.row 1 [.it 3],.row 1 [.sl 4 0 K.length],.row 2 [.agg [.sl 5 0 N.length,.sl 6 0 K.length]],H3 Cp (J8 K),.row 1 (K.map fun q=>AY q.1),.row 8 (N.map A9),.row 1 (K.map fun q=>V.bool q.2)]
theorem Jt (L:List V) (hL:BN L):Fn1 Tryz.prog 56 [.lst L] (fun r=>r= .fn 79 [.rp [.lst L]]):=by
  refine A4 (T:=Tryz.tt) Tryz.func56 rfl AR AB ?_ ?_ fun C hC hE=>?_
  . kernel_rfl
  . exact Nat.le_of_ble_eq_true (by kernel_rfl)
  conv=>whnf
  repeat' (refine Ca (AO 0 (z:=1) (els:=[.lst L]) rfl ⟨trivial,trivial⟩ (AP (AH hE ?_)));conv=>whnf)
  exact ⟨rfl,rfl⟩
theorem Rl:AD Tryz.prog 83=true:=by kernel_rfl
theorem QC (f:Bool):Fn1 Tryz.prog 58 [.bool f] (fun r=>r= .str (OT f)):=by
  have h:Fn1 Tryz.prog 83 [.bool f] (fun r=>r= .str (OT f)):=by
    cases f
    all_goals
      refine A4 (T:=Tryz.tt) Tryz.func83 rfl AR AB ?_ ?_ fun C hC hE=>?_
      . kernel_rfl
      . exact Nat.le_of_ble_eq_true (by kernel_rfl)
      conv=>whnf
      repeat' (refine AH hE ?_;conv=>whnf)
      exact ⟨rfl,rfl⟩
  cases f
  all_goals
    refine A4 (T:=Tryz.tt) Tryz.func58 rfl AR AB ?_ ?_ fun C hC hE=>?_
    . kernel_rfl
    . exact Nat.le_of_ble_eq_true (by kernel_rfl)
    conv=>whnf
    repeat' (first|(refine AC (h) hC Rl ?_ ?_ ?_;kernel_rfl;kernel_rfl;conv=>whnf)|(refine AH hE ?_;conv=>whnf))
    exact ⟨rfl,rfl⟩
theorem QD {C:Ctx} {P:Program} {f:FuncId} {z m:Nat} {xs0 xs1:List V} {Q:List V→Prop} {fop:Operand} {args:List Operand} {K:V→ES→Prop} {σ:ES} (h:HFn P f xs0 [.row z []] [] (fun r o=>r= .sl 0 0 m∧∃els',Q els'∧o=[.row z els'])) (hC:C.P=P) (hb:AD P f=true)
    (p:Nat) (he:B3 σ fop args=some (f,xs1)) (hx:FC 1 (fun _=>p) xs0 xs1) (hrow:σ.heap[p]?=some (some (.row z []))) (hn':∀els',Q els'→BN els')
    (hK:∀els',Q els'→FP p σ.u fun u=>fH ((Ba p σ.heap).set p (some (.row z els'))) fun h=>K (.sl p 0 m) ⟨σ.n,u,h⟩):CallN C fop args f xs1 K σ:=by
  refine FS h hC hb he (fun _=>p) ?_ ?_ ?_ [p] ?_ ?_ ?_
  . intro i j hi hj _
    simp at hi hj
    omega
  . exact hx
  . intro j o ho
    match j,ho with
    | 0,ho=>
      simp at ho
      subst ho
      exact ⟨_,hrow,[],rfl,A6 trivial⟩
    | n+1,ho=>simp at ho
  . intro j _ hn
    exact absurd (by simp) hn
  . intro id hid
    simp at hid
    exact ⟨0,by simp,hid.symm⟩
  . rintro r0 objs' ⟨rfl,els',hq,rfl⟩ _
    have hK:=hK els' hq
    rw [EU,BB] at hK
    refine ⟨.sl p 0 m,[.row z els'],by simp [Bu],rfl,?_,hK⟩
    intro j o o' ho ho'
    match j,ho,ho' with
    | 0,ho,ho'=>
      simp at ho ho'
      subst ho;subst ho'
      exact ⟨els',rfl,A6 (hn' _ hq)⟩
    | n+1,ho,_=>simp at ho
theorem Ut {C:Ctx} {P:Program} {f:FuncId} {z n0:Nat} {els els' xs0:List V} {R0:V} {fop:Operand} {args:List Operand} {K:V→ES→Prop} {σ:ES} (h:HFn P f (.sl 0 0 n0::xs0) [.row z els] [] (fun r o=>r=R0∧o=[.row z els'])) (hC:C.P=P) (hb:AD P f=true)
    (p:Nat) (he:B3 σ fop args=some (f,.sl p 0 n0::xs0)) (hx:BN xs0) (hR:R0.nr) (hrow:σ.heap[p]?=some (some (.row z els))) (hn:BN els) (hn':BN els')
    (hK:FP p σ.u fun u=>fH ((Ba p σ.heap).set p (some (.row z els'))) fun h=>K R0 ⟨σ.n,u,h⟩):CallN C fop args f (.sl p 0 n0::xs0) K σ:=by
  rw [EU,BB] at hK
  refine FS h hC hb he (fun _=>p) ?_ ?_ ?_ [p] ?_ ?_ ?_
  . intro i j hi hj _
    simp at hi hj
    omega
  . simp only [FC]
    exact ⟨.sl p 0 n0,xs0,rfl,by simp [Bu],A6 hx⟩
  . intro j o ho
    match j,ho with
    | 0,ho=>
      simp at ho
      subst ho
      exact ⟨_,hrow,els,rfl,A6 hn⟩
    | n+1,ho=>simp at ho
  . intro j _ hn
    exact absurd (by simp) hn
  . intro id hid
    simp at hid
    exact ⟨0,by simp,hid.symm⟩
  . rintro r0 objs' ⟨rfl,rfl⟩ _
    refine ⟨r0,[.row z els'],En r0 hR,rfl,?_,hK⟩
    intro j o o' ho ho'
    match j,ho,ho' with
    | 0,ho,ho'=>
      simp at ho ho'
      subst ho;subst ho'
      exact ⟨els',rfl,A6 hn'⟩
    | n+1,ho,_=>simp at ho
theorem QE (x:Int):∀l,(JL x l).length≤l.length+1
  | []=>by simp [JL]
  | y::l=>by
    unfold JL
    split
    . simp
    . split
      . simp
      . simpa using QE x l
theorem Nj:∀l,(Bz l).length≤l.length
  | []=>Nat.le_refl _
  | x::l=>by
    have:=QE x (Bz l)
    have h2:=Nj l
    show (JL x (Bz l)).length≤l.length+1
    omega
theorem FU (K:Kn):BN (K.map fun q=>AY q.1):=by
  induction K with
  | nil=>trivial
  | cons q K ih=>exact ⟨trivial,ih⟩
theorem DS (K:Kn):BN (K.map fun q=>V.bool q.2):=by
  induction K with
  | nil=>trivial
  | cons q K ih=>exact ⟨trivial,ih⟩
set_option maxHeartbeats 8000000 in
theorem Zh (l:List Int) (f:Bool) (K:Kn) (N:List (List Int)) (hl:l.length≤12) (hK:K.length≤1000) (hb:∀x∈l,-9223372036854775808≤x∧x≤9223372036854775807):
    dg Tryz.prog GT 53 [AY l,.bool f,.ptr 0 0 0,.ptr 1 0 0,.ptr 2 0 0] (dh K N) [0,1,2] (fun r o=>r= .int .i64 (Ls l f K).1∧o=dh (Ls l f K).2 N):=by
  have hsb:∀x∈Bz l,-9223372036854775808≤x∧x≤9223372036854775807:=fun x hx=>hb x ((JM x l).1 hx)
  have hsl:(Bz l).length≤12:=Nat.le_trans (Nj l) hl
  have hkey:=Lq (Bz l) (by omega) hsb
  have hfb:=QC f
  have k1:∀id,AK id (K.map fun q=>AY q.1)=K.map fun q=>AY q.1:=fun id=>AA id (FU K)
  have k2:∀id,AK id (K.map fun q=>V.bool q.2)=K.map fun q=>V.bool q.2:=fun id=>AA id (DS K)
  have k3:∀id,AK id (N.map A9)=N.map A9:=fun id=>AA id (CG N)
  by_cases h0:0 < l.length
  . have hval:=Jt (l.map (V.int .i64)) (Cr l)
    have hsr:=W5 l h0 hl
    refine cZ (T:=Tryz.tt) Tryz.func53 rfl AR AB ?_ ?_ fun C vs hC hg hE=>?_
    . kernel_rfl
    . exact Nat.le_of_ble_eq_true (by kernel_rfl)
    have hkw:=hkey.cg hC hg
    have hadd:(Gr (Bz l)).length+(OT f).length≤9223372036854775807:=by
      have h1:=Lp (Bz l) hsb
      have h2:(OT f).length≤5:=by cases f<;>decide
      omega
    have kI:(K.map fun q=>AY q.1).length=K.length:=by simp
    have kB:(K.map fun q=>V.bool q.2).length=K.length:=by simp
    have t1:(K.map fun q=>AY q.1).take K.length=K.map fun q=>AY q.1:=List.take_of_length_le (by rw [kI];exact Nat.le_refl _)
    have t2:(K.map fun q=>V.bool q.2).take K.length=K.map fun q=>V.bool q.2:=List.take_of_length_le (by rw [kB];exact Nat.le_refl _)
    obtain ⟨o,ho⟩:∃o,Az (Bz l,f) (J8 K)=o:=⟨_,rfl⟩
    unfold dh AY at*
    cases f
    all_goals
      conv=>whnf
      repeat' (refine AC (hval) hC H2 ?_ ?_ ?_;kernel_rfl;kernel_rfl;conv=>whnf)
      refine Ak (FT 1 (AP ?_))
      conv=>whnf
      simp only [k1,k2,k3]
      refine QD (Q:=IY l) hsr hC H1 8 rfl (A6 ⟨⟨trivial,trivial⟩,trivial⟩) rfl IZ ?_
      rintro els' ⟨A,hA,rfl⟩
      conv=>whnf
      simp only [k1,k2,k3]
      refine Ut (Uo l A hA h0 hl) hC H0 8 rfl trivial trivial rfl (Cr A) trivial ?_
      conv=>whnf
      simp only [k1,k2,k3]
      cases o with
      | some v=>
        repeat' (first|(refine Af (by first|assumption|omega) ?_;conv=>whnf)|(refine Cx (hkw) hC Cd rfl ?_ ?_ ?_;kernel_rfl;kernel_rfl;conv=>whnf)|(refine AC (hfb) hC F9 ?_ ?_ ?_;kernel_rfl;kernel_rfl;conv=>whnf)|(refine Ep (kV:=Cp) (kA:=Lr) (by rw [hC];exact HA) 3 (J8 K) _ v rfl rfl rfl ho ?_;conv=>whnf))
        refine Aq (Bc 8 (AP (BK hE ?_)))
        conv=>whnf
        refine ⟨rfl,?_,?_,?_⟩
        . simp [Co,Qv,El,AK,V.kill,Ob.kill]
          exact ⟨⟨2,by decide,rfl⟩,⟨3,by decide,rfl⟩,⟨4,by decide,rfl⟩⟩
        . rw [Ig ho]
        . rw [Ig ho]
          simp only [Ob.kill,k1,k2,k3]
          rfl
      | none=>
        repeat' (first|(refine Af (by first|assumption|omega) ?_;conv=>whnf)|(refine AS (by omega) ?_;conv=>whnf)|(refine Cx (hkw) hC Cd rfl ?_ ?_ ?_;kernel_rfl;kernel_rfl;conv=>whnf)|(refine AC (hfb) hC F9 ?_ ?_ ?_;kernel_rfl;kernel_rfl;conv=>whnf)|(refine Eq (kV:=Cp) (kA:=Lr) (by rw [hC];exact HA) 3 (J8 K) _ rfl rfl rfl ho ?_;conv=>whnf)|(refine Ic (kV:=Cp) (kA:=Lr) (by rw [hC];exact HA) 3 (J8 K) _ K.length rfl rfl rfl rfl ho ?_;conv=>whnf)|(refine Af (Nat.le_refl 1) ?_;conv=>whnf)|(refine Af ⟨?_,?_,?_⟩ ?_;(simp [AT]<;>omega);(show _+1≤9223372036854775807;omega);(show (_+1)*_≤140737488355328;omega);conv=>whnf)|(intro hlen;conv=>whnf))
        refine Aq (Gk [8,9,10] (AP (BK hE ?_)))
        conv=>whnf
        refine ⟨rfl,?_,?_,?_⟩
        . simp [Co,Qv,El,AK,V.kill,Ob.kill]
          exact ⟨⟨2,by decide,rfl⟩,⟨3,by decide,rfl⟩,⟨4,by decide,rfl⟩⟩
        . rw [Ih ho]
          show V.int .i64 (((K.length+1:Nat):Int) - 1)=V.int .i64 (K.length:Int)
          congr 1
          omega
        . rw [Ih ho]
          simp only [H3,Ti,List.map_append,List.length_append,Ob.kill,BD,List.drop_zero,t1,t2,k1,k2,k3]
          rfl
  . obtain rfl:l=[]:=List.length_eq_zero_iff.1 (by omega)
    have hval:=Jt [] trivial
    refine cZ (T:=Tryz.tt) Tryz.func53 rfl AR AB ?_ ?_ fun C vs hC hg hE=>?_
    . kernel_rfl
    . exact Nat.le_of_ble_eq_true (by kernel_rfl)
    have hkw:=hkey.cg hC hg
    have hadd:(Gr (Bz [])).length+(OT f).length≤9223372036854775807:=by
      have h1:=Lp (Bz []) hsb
      have h2:(OT f).length≤5:=by cases f<;>decide
      omega
    have kI:(K.map fun q=>AY q.1).length=K.length:=by simp
    have kB:(K.map fun q=>V.bool q.2).length=K.length:=by simp
    have t1:(K.map fun q=>AY q.1).take K.length=K.map fun q=>AY q.1:=List.take_of_length_le (by rw [kI];exact Nat.le_refl _)
    have t2:(K.map fun q=>V.bool q.2).take K.length=K.map fun q=>V.bool q.2:=List.take_of_length_le (by rw [kB];exact Nat.le_refl _)
    obtain ⟨o,ho⟩:∃o,Az (Bz [],f) (J8 K)=o:=⟨_,rfl⟩
    unfold dh AY at*
    cases f
    all_goals
      conv=>whnf
      cases o with
      | some v=>
        repeat' (first|(refine Af (by first|assumption|omega) ?_;conv=>whnf)|(refine AC (hval) hC H2 ?_ ?_ ?_;kernel_rfl;kernel_rfl;conv=>whnf)|(refine AC (Le) hC H1 ?_ ?_ ?_;kernel_rfl;kernel_rfl;conv=>whnf)|(refine AC (Js) hC H0 ?_ ?_ ?_;kernel_rfl;kernel_rfl;conv=>whnf)|(refine Cx (hkw) hC Cd rfl ?_ ?_ ?_;kernel_rfl;kernel_rfl;conv=>whnf)|(refine AC (hfb) hC F9 ?_ ?_ ?_;kernel_rfl;kernel_rfl;conv=>whnf)|(refine Ep (kV:=Cp) (kA:=Lr) (by rw [hC];exact HA) 3 (J8 K) _ v rfl rfl rfl ho ?_;conv=>whnf))
        refine Aq (Bc 8 (AP (BK hE ?_)))
        conv=>whnf
        refine ⟨rfl,?_,?_,?_⟩
        . simp [Co,Qv,El,AK,V.kill,Ob.kill]
          exact ⟨⟨2,by decide,rfl⟩,⟨3,by decide,rfl⟩,⟨4,by decide,rfl⟩⟩
        . rw [Ig ho]
        . rw [Ig ho]
          simp only [Ob.kill,k1,k2,k3]
          rfl
      | none=>
        repeat' (first|(refine Af (by first|assumption|omega) ?_;conv=>whnf)|(refine AS (by omega) ?_;conv=>whnf)|(refine AC (hval) hC H2 ?_ ?_ ?_;kernel_rfl;kernel_rfl;conv=>whnf)|(refine AC (Le) hC H1 ?_ ?_ ?_;kernel_rfl;kernel_rfl;conv=>whnf)|(refine AC (Js) hC H0 ?_ ?_ ?_;kernel_rfl;kernel_rfl;conv=>whnf)|(refine Cx (hkw) hC Cd rfl ?_ ?_ ?_;kernel_rfl;kernel_rfl;conv=>whnf)|(refine AC (hfb) hC F9 ?_ ?_ ?_;kernel_rfl;kernel_rfl;conv=>whnf)|(refine Eq (kV:=Cp) (kA:=Lr) (by rw [hC];exact HA) 3 (J8 K) _ rfl rfl rfl ho ?_;conv=>whnf)|(refine Ic (kV:=Cp) (kA:=Lr) (by rw [hC];exact HA) 3 (J8 K) _ K.length rfl rfl rfl rfl ho ?_;conv=>whnf)|(refine Af (Nat.le_refl 1) ?_;conv=>whnf)|(refine Af ⟨?_,?_,?_⟩ ?_;(simp [AT]<;>omega);(show _+1≤9223372036854775807;omega);(show (_+1)*_≤140737488355328;omega);conv=>whnf)|(intro hlen;conv=>whnf))
        refine Aq (Gk [8,9,10] (AP (BK hE ?_)))
        conv=>whnf
        refine ⟨rfl,?_,?_,?_⟩
        . simp [Co,Qv,El,AK,V.kill,Ob.kill]
          exact ⟨⟨2,by decide,rfl⟩,⟨3,by decide,rfl⟩,⟨4,by decide,rfl⟩⟩
        . rw [Ih ho]
          show V.int .i64 (((K.length+1:Nat):Int) - 1)=V.int .i64 (K.length:Int)
          congr 1
          omega
        . rw [Ih ho]
          simp only [H3,Ti,List.map_append,List.length_append,Ob.kill,BD,List.drop_zero,t1,t2,k1,k2,k3]
          rfl
end Go.Proofs.YtkaiffheakalmaaGreatDoor
