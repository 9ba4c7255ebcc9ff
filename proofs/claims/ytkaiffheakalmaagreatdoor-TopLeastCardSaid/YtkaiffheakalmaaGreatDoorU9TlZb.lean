/- Copied, stripped. No conditions. -/
import Derived.Test.YtkaiffheakalmaaGreatDoorU9TlZa
import Derived.Test.YtkaiffheakalmaaGreatDoorU9Data
import Derived.Tactics
import Derived.MapKept
import Derived.Handy
import Derived.Laws.AppendOwn
set_option linter.unusedSimpArgs false
set_option linter.unusedVariables false
set_option maxRecDepth 100000
namespace Go.Proofs.YtkaiffheakalmaaGreatDoor
open Go.RowKit
inductive Ex where
  | mk (k t:Int) (ps:List Ex)
def Ex.kind:Ex→Int|.mk k _ _=>k
def Ex.type:Ex→Int|.mk _ t _=>t
def Ex.parts:Ex→List Ex|.mk _ _ ps=>ps
mutual
def f6:Ex→V
  | .mk k t ps=>.agg [.int .i64 k,.int .i64 t,.lst (JK ps)]
def JK:List Ex→List V
  | []=>[]
  | x::xs=>f6 x::JK xs
end
def Ai (x:Ex):V:=.agg [.int .i64 x.kind,.int .i64 x.type,.lst (JK x.parts)]
theorem W6 (x:Ex):f6 x=Ai x:=by cases x;rw [f6];rfl
theorem Lf:∀ps,JK ps=ps.map Ai
  | []=>by simp [JK]
  | x::xs=>by simp [JK,Lf xs,W6]
theorem Cs (k t:Int) (ps:List Ex):Ai (.mk k t ps)= .agg [.int .i64 k,.int .i64 t,.lst (ps.map Ai)]:=by rw [←Lf];rfl
mutual
def EY:Ex→Nat
  | .mk _ _ ps=>A7 ps+4
def A7:List Ex→Nat
  | []=>0
  | x::xs=>EY x+A7 xs
end
theorem Bi:∀ps,A7 ps=(ps.map EY).sum
  | []=>by simp [A7]
  | x::xs=>by simp [A7,Bi xs]
theorem CV (k t:Int) (ps:List Ex):EY (.mk k t ps)=A7 ps+4:=by rw [EY]
theorem Eo {l:List Ex} {x:Ex} (h:x∈l):EY x≤A7 l:=by rw [Bi];exact TW EY l x h
theorem Ia (x:Ex):4≤EY x:=by cases x;rw [CV];omega
theorem D2 (l:List Ex):l.length≤A7 l:=by rw [Bi];exact NV EY (fun x=>by have:=Ia x;omega) l
theorem P2 {l:List Ex} {k:Nat} (h:k < l.length):∃a t ps,l[k]?=some (.mk a t ps)∧(l.map Ai)[k]?=some (.agg [.int .i64 a,.int .i64 t,.lst (ps.map Ai)]):=by
  have hx:l[k]?=some l[k]:=List.getElem?_eq_getElem h
  cases hn:l[k] with
  | mk a t ps=>rw [hn] at hx;exact ⟨a,t,ps,hx,by rw [List.getElem?_map,hx,Option.map_some,Cs]⟩
theorem Uj (x:Ex):(Ai x).cells.length=3:=by cases x;rw [Cs];rfl
theorem BX (x:Ex):(Ai x).nr:=by cases x;rw [Cs];exact ⟨trivial,trivial,trivial,trivial⟩
theorem Fx (l:List Ex):BN (l.map Ai):=by
  rw [N5]
  intro x hx
  obtain ⟨q,_,rfl⟩:=List.mem_map.1 hx
  exact BX q
def CF (k t:Int) (n:Nat):Bool:=
  decide (k=1∧0 < n) || decide (k≠1∧t≠0) || decide ((k=2∨k=3)∧n=1) || decide (k=3∧n=0) || decide (4≤k∧n≠1)
mutual
def Lg:Ex→Int
  | .mk k t ps=>if k < 1∨6 < k then 3 else if CF k t ps.length=true then 4 else if (k=2∨k=3)∧(ps.any fun p=>decide (p.kind=k))=true then 4 else if t < 0∨8≤t then 2 else J5 ps
def J5:List Ex→Int
  | []=>0
  | x::xs=>if Lg x≠0 then Lg x else J5 xs
end
section
variable {k t:Int} {ps:List Ex}
theorem ZR (h:k < 1∨6 < k):Lg (.mk k t ps)=3:=by rw [Lg,if_pos h]
theorem ZS (h:¬(k < 1∨6 < k)) (hf:CF k t ps.length=true):Lg (.mk k t ps)=4:=by rw [Lg,if_neg h,if_pos hf]
theorem ZT (h:¬(k < 1∨6 < k)) (hf:CF k t ps.length=false) (hs:(k=2∨k=3)∧(ps.any fun p=>decide (p.kind=k))=true):Lg (.mk k t ps)=4:=by rw [Lg,if_neg h,if_neg (by simp [hf]),if_pos hs]
theorem W7 (h:¬(k < 1∨6 < k)) (hf:CF k t ps.length=false) (hs:¬((k=2∨k=3)∧(ps.any fun p=>decide (p.kind=k))=true)) (ht:t < 0∨8≤t):Lg (.mk k t ps)=2:=by
  rw [Lg,if_neg h,if_neg (by simp [hf]),if_neg hs,if_pos ht]
theorem W8 (h:¬(k < 1∨6 < k)) (hf:CF k t ps.length=false) (hs:¬((k=2∨k=3)∧(ps.any fun p=>decide (p.kind=k))=true)) (ht:¬(t < 0∨8≤t)):Lg (.mk k t ps)=J5 ps:=by
  rw [Lg,if_neg h,if_neg (by simp [hf]),if_neg hs,if_neg ht]
end
theorem Uk {l:List Ex} {k:Nat} {x:Ex} (hx:l[k]?=some x):J5 (l.drop k)=if Lg x≠0 then Lg x else J5 (l.drop (k+1)):=by
  obtain ⟨hlt,rfl⟩:=List.getElem?_eq_some_iff.1 hx
  rw [List.drop_eq_getElem_cons hlt,J5]
theorem dZ (p:Ex) (k t:Int) (ps:List V):Fn1 Tryz.prog 72 [Ai p,.rp [.int .i64 k,.int .i64 t,.lst ps]] (fun r=>r= .bool (decide (p.kind=k))):=by
  cases p with
  | mk a b qs=>
    rw [Cs]
    refine A4 (T:=Tryz.tt) Tryz.func72 rfl AR AB ?_ ?_ fun C hC hE=>?_
    . kernel_rfl
    . exact Nat.le_of_ble_eq_true (by kernel_rfl)
    conv=>whnf
    repeat' (first|(refine He (fun h=>?_) (fun h=>?_)<;>conv=>whnf)|(refine AH hE ?_;conv=>whnf))
    all_goals exact ⟨rfl,by congr 1;first|exact (decide_eq_true (by assumption)).symm|exact (decide_eq_false (by assumption)).symm⟩
theorem OO (l:List Ex) (h:FuncId) (caps:List V) (p:Ex→Bool) (hb:AD Tryz.prog h=true) (hc:Fw caps=true) (hp:∀a∈l,Fn1 Tryz.prog h (Ai a::caps) (fun r=>r= .bool (p a))):
    Fn1 Tryz.prog 90 [.lst (l.map Ai),.fn h caps] (fun r=>r= .int .i64 (GI p l)):=by
  refine A4 (T:=Tryz.tt) Tryz.func90 rfl AR AB ?_ ?_ fun C hC hE=>?_
  . kernel_rfl
  . exact Nat.le_of_ble_eq_true (by kernel_rfl)
  conv=>whnf
  intro hl
  conv=>whnf
  refine Ae (fun k:Nat=>⟨19,[(0,.lst (l.map Ai)),(1,.fn h caps),(7,.int .i64 (l.map Ai).length),(8,.int .i64 k)],[]⟩) (fun k=>k≤l.length∧∀j < k,∀x,l[j]?=some x→p x=false) (fun k=>l.length - k) 0 hE ?_ ?_ ?_ ?_
  . kernel_rfl
  . exact AU [0,1,7,8] rfl
  . exact ⟨Nat.zero_le _,fun j hj=>by omega⟩
  intro k hkj
  obtain ⟨hk,hj⟩:=hkj
  have hlm:(l.map Ai).length=l.length:=by simp
  by_cases hlt:k < l.length
  . obtain ⟨x,hx⟩:∃x,l[k]?=some x:=⟨_,List.getElem?_eq_getElem hlt⟩
    have hpx:=hp x (List.mem_of_getElem? hx)
    conv=>whnf
    repeat' (first|(refine AN (by first|assumption|omega) ?_;conv=>whnf)|(refine Af (by first|assumption|omega) ?_;conv=>whnf)|(refine AS (by omega) ?_;conv=>whnf)|(refine G5 (by assumption) ?_;conv=>whnf)|(refine AC hpx hC hb ?_ ?_ ?_;kernel_rfl;exact Gl (by kernel_rfl) hc;conv=>whnf)|(refine br (fun h=>?_) (fun h=>?_)<;>conv=>whnf)|(refine AH hE ?_;conv=>whnf))
    . exact ⟨rfl,by rw [EW hx (by assumption) hj]⟩
    . refine AJ [0,1,7,8] (k+1) ⟨hlt,?_⟩ (by omega) rfl
      intro j hjk y hy
      by_cases e:j=k
      . subst e;rw [hx] at hy;cases hy;assumption
      . exact hj j (by omega) y hy
  . conv=>whnf
    repeat' (first|(refine AM (by first|assumption|omega) ?_;conv=>whnf)|(refine AH hE ?_;conv=>whnf))
    exact ⟨rfl,by rw [De (fun x hx=>by obtain ⟨j,hj'⟩:=List.mem_iff_getElem?.1 hx;exact hj j (by have:=(List.getElem?_eq_some_iff.1 hj').1;omega) x hj')]⟩
theorem J6 (l:List Ex) (h:FuncId) (caps:List V) (p:Ex→Bool) (hb:AD Tryz.prog h=true) (hc:Fw caps=true) (hp:∀a∈l,Fn1 Tryz.prog h (Ai a::caps) (fun r=>r= .bool (p a))):
    Fn1 Tryz.prog 71 [.lst (l.map Ai),.fn h caps] (fun r=>r= .bool (l.any p)):=by
  have hi:=OO l h caps p hb hc hp
  have ha:=EX p l
  refine A4 (T:=Tryz.tt) Tryz.func71 rfl AR AB ?_ ?_ fun C hC hE=>?_
  . kernel_rfl
  . exact Nat.le_of_ble_eq_true (by kernel_rfl)
  conv=>whnf
  repeat' (first|(refine AC hi hC Sv ?_ ?_ ?_;kernel_rfl;exact LW rfl hc;conv=>whnf)|(refine He (fun h=>?_) (fun h=>?_)<;>conv=>whnf)|(refine AH hE ?_;conv=>whnf))
  all_goals exact ⟨rfl,by rw [←ha];congr 1;first|exact (decide_eq_true (by assumption)).symm|exact (decide_eq_false (by assumption)).symm⟩
set_option maxHeartbeats 8000000 in
theorem Rg:∀(N:Nat) (k t:Int) (ps:List Ex),A7 ps≤N→Fn1 Tryz.prog 42 [.agg [.int .i64 k,.int .i64 t,.lst (ps.map Ai)]] (fun r=>r= .int .i64 (Lg (.mk k t ps))):=by
  intro N
  induction N using Nat.strongRecOn with
  | _ N ih=>
    intro k t ps hps
    have hlm:(ps.map Ai).length=ps.length:=by simp
    have hcf:=J6 ps 72 [.rp [.int .i64 k,.int .i64 t,.lst (ps.map Ai)]] (fun p=>decide (p.kind=k)) So rfl (fun q _=>dZ q k t _)
    obtain ⟨b,hb⟩:∃b,(ps.any fun p=>decide (p.kind=k))=b:=⟨_,rfl⟩
    rw [hb] at hcf
    refine A4 (T:=Tryz.tt) Tryz.func42 rfl AR AB ?_ ?_ fun C hC hE=>?_
    . kernel_rfl
    . exact Nat.le_of_ble_eq_true (by kernel_rfl)
    conv=>whnf
    repeat' (first|(refine AN (by first|assumption|omega) ?_;conv=>whnf)|(refine AM (by first|assumption|omega) ?_;conv=>whnf)|(refine Ak (AO 0 (z:=3) (els:=[.agg [.int .i64 k,.int .i64 t,.lst (ps.map Ai)]]) rfl ?_ (AP ?_));exact ⟨⟨trivial,trivial,trivial,trivial⟩,trivial⟩;conv=>whnf)|(refine AC (hcf) hC Sn ?_ ?_ ?_;kernel_rfl;kernel_rfl;conv=>whnf)|(refine He (fun h=>?_) (fun h=>?_)<;>conv=>whnf)|(refine br (fun h=>?_) (fun h=>?_)<;>conv=>whnf)|(refine AH hE ?_;conv=>whnf)|(intro hlen;conv=>whnf))
    all_goals try (first
      | exact ⟨rfl,by rw [ZR (by omega)]⟩
      | exact ⟨rfl,by rw [ZS (by omega) (by unfold CF;simp only [Bool.or_eq_true,decide_eq_true_eq];omega)]⟩
      | exact ⟨rfl,by rw [ZT (by omega) (by unfold CF;simp only [Bool.or_eq_false_iff,decide_eq_false_iff_not];omega) ⟨by omega,by rw [hb];assumption⟩]⟩
      | exact ⟨rfl,by rw [W7 (by omega) (by unfold CF;simp only [Bool.or_eq_false_iff,decide_eq_false_iff_not];omega) (fun h=>by first|omega|(rw [hb] at h;simp_all;done)) (by omega)]⟩)
    all_goals
      have h1:¬(k < 1∨6 < k):=by omega
      have h2:CF k t ps.length=false:=by unfold CF;simp only [Bool.or_eq_false_iff,decide_eq_false_iff_not];omega
      have h3:¬((k=2∨k=3)∧(ps.any fun p=>decide (p.kind=k))=true):=fun h=>by first|omega|(rw [hb] at h;simp_all;done)
      have h4:¬(t < 0∨8≤t):=by omega
      have he:=W8 h1 h2 h3 h4
      refine Ae (fun j:Nat=>⟨93,[(1,.rp [.int .i64 k,.int .i64 t,.lst (ps.map Ai)]),(81,.lst (ps.map Ai)),(82,.int .i64 (ps.map Ai).length),(83,.int .i64 j)],[]⟩) (fun j=>j≤ps.length∧J5 ps=J5 (ps.drop j)) (fun j=>ps.length - j) 0 hE ?_ ?_ ⟨Nat.zero_le _,rfl⟩ ?_
      . kernel_rfl
      . first
          | exact DP [1,81,82,83] [] rfl
          | exact AO 0 (z:=3) (els:=[.agg [.int .i64 k,.int .i64 t,.lst (ps.map Ai)]]) rfl ⟨⟨trivial,trivial,trivial,trivial⟩,trivial⟩ (DP [1,81,82,83] [] rfl)
      intro j hj
      obtain ⟨hj,hI⟩:=hj
      by_cases hlt:j < ps.length
      . obtain ⟨a,u,qs,hx,hx'⟩:=P2 hlt
        have hp2:=Eo (List.mem_of_getElem? hx)
        rw [CV] at hp2
        have ih':=ih (A7 qs) (by omega) a u qs (Nat.le_refl _)
        have hst:=Uk hx
        conv=>whnf
        repeat' (first|(refine AN (by first|assumption|omega) ?_;conv=>whnf)|(refine Af (by first|assumption|omega) ?_;conv=>whnf)|(refine AS (by omega) ?_;conv=>whnf)|(refine AQ (by assumption) ?_;conv=>whnf)|(refine AC (ih') hC MV ?_ ?_ ?_;kernel_rfl;kernel_rfl;conv=>whnf)|(refine He (fun h=>?_) (fun h=>?_)<;>conv=>whnf)|(refine AH hE ?_;conv=>whnf))
        all_goals first
          | exact ⟨rfl,by rw [he,hI,hst,if_pos (by assumption)]⟩
          | exact AL [1,81,82,83] [0] (j+1) ⟨hlt,by rw [hI,hst,if_neg (by simp;omega)]⟩ (by omega) rfl
      . rw [List.drop_eq_nil_of_le (by omega),J5] at hI
        conv=>whnf
        repeat' (first|(refine AM (by first|assumption|omega) ?_;conv=>whnf)|(refine AH hE ?_;conv=>whnf))
        exact ⟨rfl,by rw [he,hI]⟩
end Go.Proofs.YtkaiffheakalmaaGreatDoor
namespace Go.Proofs.YtkaiffheakalmaaGreatDoor
def EC (w:List Nat):Prop:=∀c∈w,c < 8
end Go.Proofs.YtkaiffheakalmaaGreatDoor
namespace Go.Proofs.YtkaiffheakalmaaGreatDoor
open Go.RowKit
def Az {α:Type} [DecidableEq α] (a:α):List (α×Int)→Option Int
  | []=>none
  | q::L=>if a=q.1 then some q.2 else Az a L
structure KeyOk {α:Type} [DecidableEq α] (P:Program) (t:TypeId) (kV:α→Value) (kA:α→V):Prop where
  map:∃kt vt,P.underlying t=some (.map kt vt)∧(∀w,(zeroValue vt).run P w= .ok (.int .i64 0) w)∧(∀e a w,(Instr.checkKey e 10000 kt (kV a)).run P w= .ok () w)∧
    ∀a w (L:List (α×Int)) (es:List MapEntry),es.map (fun e=>(e.key,e.val))=L.map (fun p=>(kV p.1,Value.int .i64 p.2))→∃r,(Instr.findKey kt (kV a) es).run P w= .ok r w∧r.map (·.2)=((Az a L)).map (Value.int .i64)
  rep:∀w I bl v a,Rep w I bl v (kA a)→v=kV a
theorem Df {α:Type} [DecidableEq α] (a:α) (q:α×Int) (L:List (α×Int)):Az a (q::L)=if a=q.1 then some q.2 else Az a L:=rfl
theorem FE {α:Type} [DecidableEq α] (a:α) (L M:List (α×Int)):Az a (L++M)=((Az a L)).or ((Az a M)):=by
  induction L with
  | nil=>simp [Az]
  | cons q L ih=>
    rw [List.cons_append,Df,Df,ih]
    split<;>simp
theorem Ul {P:Program} {α:Type} [DecidableEq α] {kt:TypeId} {kV:α→Value} (heq:∀a b w,(Op.equal kt (kV a) (kV b)).run P w= .ok (decide (a=b)) w) (a:α) (w:World):∀(L:List (α×Int)) (es:List MapEntry) (i:Nat),
    es.map (fun e=>(e.key,e.val))=L.map (fun p=>(kV p.1,Value.int .i64 p.2))→∃r,(Instr.findAsking kt (kV a) es i).run P w= .ok r w∧r.map (·.2)=((Az a L)).map (Value.int .i64)
  | [],[],i,_=>⟨none,by simp [Instr.findAsking],by simp [Az]⟩
  | [],_::_,i,h=>by simp at h
  | _::_,[],i,h=>by simp at h
  | q::L,e::es,i,h=>by
    simp only [List.map_cons,List.cons.injEq,Prod.mk.injEq] at h
    obtain ⟨⟨h1,h2⟩,h3⟩:=h
    unfold Instr.findAsking
    rw [h1,Df]
    by_cases hq:a=q.1
    . exact ⟨some (i,e.val),by simp [heq,hq,Result.andThen],by simp [hq,h2]⟩
    . obtain ⟨r,h4,h5⟩:=Ul heq a w L es (i+1) h3
      exact ⟨r,by simp [heq,hq,Result.andThen,h4],by simp [hq,h5]⟩
theorem W9 {α:Type} [DecidableEq α] {d:TypeDesc} {kV:α→Value} (heq:∀a b,Instr.sameNow d (kV a) (kV b)=some (decide (a=b))) (a:α):∀(L:List (α×Int)) (es:List MapEntry) (i:Nat),
    es.map (fun e=>(e.key,e.val))=L.map (fun p=>(kV p.1,Value.int .i64 p.2))→∃r,Instr.findNow d (kV a) es i=some r∧r.map (·.2)=((Az a L)).map (Value.int .i64)
  | [],[],i,_=>⟨none,by simp [Instr.findNow],by simp [Az]⟩
  | [],_::_,i,h=>by simp at h
  | _::_,[],i,h=>by simp at h
  | q::L,e::es,i,h=>by
    simp only [List.map_cons,List.cons.injEq,Prod.mk.injEq] at h
    obtain ⟨⟨h1,h2⟩,h3⟩:=h
    unfold Instr.findNow
    rw [h1,Df,heq]
    by_cases hq:a=q.1
    . exact ⟨some (i,e.val),by simp [hq],by simp [hq,h2]⟩
    . obtain ⟨r,h4,h5⟩:=W9 heq a L es (i+1) h3
      exact ⟨r,by simp [hq,h4],by simp [hq,h5]⟩
theorem Gq {P:Program} {α:Type} [DecidableEq α] {kt:TypeId} {d:TypeDesc} {kV:α→Value} (hd:P.underlying kt=some d) (heq:∀a b,Instr.sameNow d (kV a) (kV b)=some (decide (a=b))) (a:α) (w:World) (L:List (α×Int)) (es:List MapEntry)
    (h:es.map (fun e=>(e.key,e.val))=L.map (fun p=>(kV p.1,Value.int .i64 p.2))):∃r,(Instr.findKey kt (kV a) es).run P w= .ok r w∧r.map (·.2)=((Az a L)).map (Value.int .i64):=by
  obtain ⟨r,h1,h2⟩:=W9 heq a L es 0 h
  exact ⟨r,MapKept.run_findKey hd h1,h2⟩
def H3 {α:Type} (kV:α→Value) (L:List (α×Int)):Ob:=.mp (L.map fun p=>(kV p.1,Value.int .i64 p.2))
section
variable {C:Ctx} {α:Type} [DecidableEq α] {t:TypeId} {kV:α→Value} {kA:α→V} {K:V→ES→Prop} {σ:ES}
theorem Lh {a:Act} {w:World} {I:Nat→Prop} {bl:Nat→Option BI} (hp:RP C σ.st a w I bl) {m:Operand} {id:Nat} {es:List (Value×Value)} (hm:σ.val m= .it id) (ho:σ.heap[id]?=some (some (.mp es))):
    ∃b z arr clock,bl id=some ⟨some b,1,z⟩∧w.heap[b]?=some (.map arr clock)∧arr.toList.map (fun e=>(e.key,e.val))=es∧a.eval m= .map (some b):=by
  have hv:=hp.val m
  rw [Av,hm] at hv
  obtain ⟨b0,base0,z0,hbl0,hv⟩:=hv.inv_it
  obtain ⟨b,_,z,t,hbl,hg,he,_⟩:=hp.heap.obj id _ ho
  rw [hbl] at hbl0
  simp only [Option.some.injEq,BI.mk.injEq] at hbl0
  obtain ⟨rfl,rfl,rfl⟩:=hbl0
  exact ⟨b,z,t.1,t.2,hbl,hg,he,hv⟩
theorem Ib (h:LF σ (.mp []) fun id σ=>K (.it id) σ):OpN C (.makeMap t none) K σ:=
  ⟨fun o ho=>Am fun a w I bl hp=>⟨.map (some w.heap.size),w.alloc (.map #[] 0),_,_,by
    simp [execOp,ho,Instr.makeMap,newObj,Sem.run],Cv (Cj h),(hp.newObB (base:=1) (.map #[] 0) (.mp []) 0 ⟨w.heap.size,0,0,(#[],0),AX _ _ _,heap_alloc_new w _,rfl,trivial⟩).relx (.it _ _ 1 0 (AX _ _ _))⟩⟩
theorem Li (hk:KeyOk C.P t kV kA) {w:World} {b:Nat} {arr:Array MapEntry} {clock:Nat} {L:List (α×Int)} (hg:w.heap[b]?=some (.map arr clock)) (he:arr.toList.map (fun e=>(e.key,e.val))=L.map (fun p=>(kV p.1,Value.int .i64 p.2))) (x:α) (ok:Bool):
    (Instr.lookup t (.map (some b)) (kV x) ok).run C.P w= .ok (if ok then .tuple #[.int .i64 (((Az x L)).getD 0),.bool ((Az x L)).isSome] else .int .i64 (((Az x L)).getD 0)) w:=by
  obtain ⟨kt,vt,h1,h2,h3,h4⟩:=hk.map
  obtain ⟨r,h5,h6⟩:=h4 x w L arr.toList he
  unfold Instr.lookup
  cases hl:(Az x L) with
  | none=>
    rw [hl] at h6
    obtain rfl:r=none:=by simpa using h6
    simp [run_underlying h1,MapKept.run_getObj_map hg,h3,h5,h2,Result.andThen]
  | some n=>
    rw [hl] at h6
    obtain ⟨i,rfl⟩:∃i,r=some (i,.int .i64 n):=by
      cases r with
      | none=>simp at h6
      | some r=>obtain ⟨i,v⟩:=r;simp at h6;subst h6;exact ⟨i,rfl⟩
    simp [run_underlying h1,MapKept.run_getObj_map hg,h3,h5,Result.andThen]
theorem Ep (hk:KeyOk C.P t kV kA) {m k:Operand} (id:Nat) (L:List (α×Int)) (x:α) (n:Int) (hm:σ.val m= .it id) (hx:σ.val k=kA x) (ho:σ.heap[id]?=some (some (H3 kV L))) (hl:(Az x L)=some n)
    (h:K (.tup [.int .i64 n,.bool true]) σ):OpN C (.lookup t m k true) K σ:=
  ⟨fun o ho'=>AW _ (Cv h) fun a w I bl hp=>by
    obtain ⟨b,z,arr,clock,_,hg,he,hv⟩:=Lh hp hm ho
    have hkv:=hp.val k
    rw [Av,hx] at hkv
    have hr:=Li hk hg he x true
    rw [hl] at hr
    refine ⟨_,by simp [execOp,ho',hv,hk.rep _ _ _ _ _ hkv,hr],.pure _ _ (.tup [.int .i64 n,.bool true] [.int .i64 n,.bool true] rfl fun i v c hv hc=>?_)⟩
    match i with
    | 0=>simp at hv hc;subst hv;subst hc;exact .int _ _
    | 1=>simp at hv hc;subst hv;subst hc;exact .bool _
    | i+2=>simp at hv⟩
theorem Eq (hk:KeyOk C.P t kV kA) {m k:Operand} (id:Nat) (L:List (α×Int)) (x:α) (hm:σ.val m= .it id) (hx:σ.val k=kA x) (ho:σ.heap[id]?=some (some (H3 kV L))) (hl:(Az x L)=none)
    (h:K (.tup [.int .i64 0,.bool false]) σ):OpN C (.lookup t m k true) K σ:=
  ⟨fun o ho'=>AW _ (Cv h) fun a w I bl hp=>by
    obtain ⟨b,z,arr,clock,_,hg,he,hv⟩:=Lh hp hm ho
    have hkv:=hp.val k
    rw [Av,hx] at hkv
    have hr:=Li hk hg he x true
    rw [hl] at hr
    refine ⟨_,by simp [execOp,ho',hv,hk.rep _ _ _ _ _ hkv,hr],.pure _ _ (.tup [.int .i64 0,.bool false] [.int .i64 0,.bool false] rfl fun i v c hv hc=>?_)⟩
    match i with
    | 0=>simp at hv hc;subst hv;subst hc;exact .int _ _
    | 1=>simp at hv hc;subst hv;subst hc;exact .bool _
    | i+2=>simp at hv⟩
theorem Fy (hk:KeyOk C.P t kV kA) {m k:Operand} (id:Nat) (L:List (α×Int)) (x:α) (n:Int) (hm:σ.val m= .it id) (hx:σ.val k=kA x) (ho:σ.heap[id]?=some (some (H3 kV L))) (hl:((Az x L)).getD 0=n)
    (h:K (.int .i64 n) σ):OpN C (.lookup t m k false) K σ:=
  ⟨fun o ho'=>AW _ (Cv h) fun a w I bl hp=>by
    obtain ⟨b,z,arr,clock,_,hg,he,hv⟩:=Lh hp hm ho
    have hkv:=hp.val k
    rw [Av,hx] at hkv
    have hr:=Li hk hg he x false
    rw [hl] at hr
    exact ⟨_,by simp [execOp,ho',hv,hk.rep _ _ _ _ _ hkv,hr],.pure _ _ (.int _ _)⟩⟩
theorem ZU (hk:KeyOk C.P t kV kA) {w:World} {b:Nat} {arr:Array MapEntry} {clock:Nat} {L:List (α×Int)} (hg:w.heap[b]?=some (.map arr clock)) (he:arr.toList.map (fun e=>(e.key,e.val))=L.map (fun p=>(kV p.1,Value.int .i64 p.2))) (x:α) (v:Value) (hl:(Az x L)=none):
    (Instr.mapUpdate t (.map (some b)) (kV x) v).run C.P w= .ok () (w.putObj b (.map (arr.push { key:=kV x,val:=v,born:=clock}) (clock+1))):=by
  obtain ⟨kt,vt,h1,h2,h3,h4⟩:=hk.map
  obtain ⟨r,h5,h6⟩:=h4 x w L arr.toList he
  rw [hl] at h6
  obtain rfl:r=none:=by simpa using h6
  unfold Instr.mapUpdate
  simp [run_underlying h1,MapKept.run_getObj_map hg,h3,h5,MapKept.run_setObj_map _ hg,Result.andThen,World.putObj]
theorem XA (hk:KeyOk C.P t kV kA) {m k y:Operand} (id:Nat) (L:List (α×Int)) (x:α) (n:Int) (hm:σ.val m= .it id) (hx:σ.val k=kA x) (hy:σ.val y= .int .i64 n) (ho:σ.heap[id]?=some (some (H3 kV L))) (hl:(Az x L)=none)
    (h:K .any ⟨σ.n,σ.u,σ.heap.set id (some (H3 kV (L++[(x,n)])))⟩) {o:Oper} (ho':o.op= .mapUpdate t m k y∨o.op= .insert t m k y):BR C o σ.st (E9 K):=
  Mz fun a w I bl hp=>by
    obtain ⟨b,z,arr,clock,hbl,hg,he,hv⟩:=Lh hp hm ho
    have hkv:=hp.val k
    rw [Av,hx] at hkv
    have hyv:=hp.val y
    rw [Av,hy] at hyv
    have hr:=ZU hk hg he x (.int .i64 n) hl
    refine ⟨_,_,?_,Cv h,(hp.setOb hbl hg (by simp) (H3 kV (L++[(x,n)])) ⟨b,0,z,(arr.push { key:=kV x,val:=.int .i64 n,born:=clock},clock+1),hbl,World.putObj_heap_same (hp.heap.own id _ b hbl rfl).1,?_,trivial⟩).rel⟩
    . rcases ho' with ho'|ho'<;>simp [execOp,ho',hv,hk.rep _ _ _ _ _ hkv,hyv.inv_int,hr]
    . simp [he]
theorem Ic (hk:KeyOk C.P t kV kA) {m k y:Operand} (id:Nat) (L:List (α×Int)) (x:α) (n:Int) (hm:σ.val m= .it id) (hx:σ.val k=kA x) (hy:σ.val y= .int .i64 n) (ho:σ.heap[id]?=some (some (H3 kV L))) (hl:(Az x L)=none)
    (h:fH (σ.heap.set id (some (H3 kV (L++[(x,n)])))) fun hh=>K .any ⟨σ.n,σ.u,hh⟩):OpN C (.mapUpdate t m k y) K σ:=
  ⟨fun _ ho'=>XA hk id L x n hm hx hy ho hl (by rw [BB] at h;exact h) (.inl ho')⟩
theorem ZW (hk:KeyOk C.P t kV kA) {m k y:Operand} (id:Nat) (L:List (α×Int)) (x:α) (n:Int) (hm:σ.val m= .it id) (hx:σ.val k=kA x) (hy:σ.val y= .int .i64 n) (ho:σ.heap[id]?=some (some (H3 kV L))) (hl:(Az x L)=none)
    (h:fH (σ.heap.set id (some (H3 kV (L++[(x,n)])))) fun hh=>K .any ⟨σ.n,σ.u,hh⟩):OpN C (.insert t m k y) K σ:=
  ⟨fun _ ho'=>XA hk id L x n hm hx hy ho hl (by rw [BB] at h;exact h) (.inr ho')⟩
end
theorem KN {C:Ctx} {α:Type} {t:TypeId} {kV:α→Value} {K:V→ES→Prop} {σ:ES} {m:Operand} (id:Nat) (L:List (α×Int)) (hm:σ.val m= .it id) (ho:σ.heap[id]?=some (some (H3 kV L))) (hu:∃kt vt,C.P.underlying t=some (.map kt vt))
    (h:K (.int .i64 (L.length:Nat)) σ):OpN C (.call { callee:=.builtin .len,args:=#[m],argTypes:=#[t]}) K σ:=
  ⟨fun o ho'=>AW _ (Cv h) fun a w I bl hp=>by
    obtain ⟨b,z,arr,clock,_,hg,he,hv⟩:=Lh hp hm ho
    obtain ⟨kt,vt,hu⟩:=hu
    have hs:arr.size=L.length:=by have:=congrArg List.length he;simpa using this
    refine ⟨.int .i64 (L.length:Nat),?_,.pure _ _ (.int _ _)⟩
    simp [execOp,ho',resolve,invoke,builtin,hv,Builtin.len_,run_underlying hu,MapKept.run_getObj_map hg,hs,goInt]⟩
end Go.Proofs.YtkaiffheakalmaaGreatDoor
namespace Go.Proofs.YtkaiffheakalmaaGreatDoor
open Go.RowKit
end Go.Proofs.YtkaiffheakalmaaGreatDoor
namespace Go.Proofs.YtkaiffheakalmaaGreatDoor
open Go.RowKit
theorem OP (l:List Int) (h:FuncId) (caps:List V) (p:Int→Bool) (hb:AD Tryz.prog h=true) (hc:Fw caps=true) (hp:∀a∈l,Fn1 Tryz.prog h ((V.int .i64) a::caps) (fun r=>r= .bool (p a))):
    Fn1 Tryz.prog 44 [.lst (l.map (V.int .i64)),.fn h caps] (fun r=>r= .int .i64 (GI p l)):=by
  refine A4 (T:=Tryz.tt) Tryz.func44 rfl AR AB ?_ ?_ fun C hC hE=>?_
  . kernel_rfl
  . exact Nat.le_of_ble_eq_true (by kernel_rfl)
  conv=>whnf
  intro hl
  conv=>whnf
  refine Ae (fun k:Nat=>⟨19,[(0,.lst (l.map (V.int .i64))),(1,.fn h caps),(7,.int .i64 (l.map (V.int .i64)).length),(8,.int .i64 k)],[]⟩) (fun k=>k≤l.length∧∀j < k,∀x,l[j]?=some x→p x=false) (fun k=>l.length - k) 0 hE ?_ ?_ ?_ ?_
  . kernel_rfl
  . exact AU [0,1,7,8] rfl
  . exact ⟨Nat.zero_le _,fun j hj=>by omega⟩
  intro k hkj
  obtain ⟨hk,hj⟩:=hkj
  have hlm:(l.map (V.int .i64)).length=l.length:=by simp
  by_cases hlt:k < l.length
  . obtain ⟨x,hx⟩:∃x,l[k]?=some x:=⟨_,List.getElem?_eq_getElem hlt⟩
    have hpx:=hp x (List.mem_of_getElem? hx)
    conv=>whnf
    repeat' (first|(refine AN (by first|assumption|omega) ?_;conv=>whnf)|(refine Af (by first|assumption|omega) ?_;conv=>whnf)|(refine AS (by omega) ?_;conv=>whnf)|(refine G5 (by assumption) ?_;conv=>whnf)|(refine AC hpx hC hb ?_ ?_ ?_;kernel_rfl;exact Gl (by kernel_rfl) hc;conv=>whnf)|(refine br (fun h=>?_) (fun h=>?_)<;>conv=>whnf)|(refine AH hE ?_;conv=>whnf))
    . exact ⟨rfl,by rw [EW hx (by assumption) hj]⟩
    . refine AJ [0,1,7,8] (k+1) ⟨hlt,?_⟩ (by omega) rfl
      intro j hjk y hy
      by_cases e:j=k
      . subst e;rw [hx] at hy;cases hy;assumption
      . exact hj j (by omega) y hy
  . conv=>whnf
    repeat' (first|(refine AM (by first|assumption|omega) ?_;conv=>whnf)|(refine AH hE ?_;conv=>whnf))
    exact ⟨rfl,by rw [De (fun x hx=>by obtain ⟨j,hj'⟩:=List.mem_iff_getElem?.1 hx;exact hj j (by have:=(List.getElem?_eq_some_iff.1 hj').1;omega) x hj')]⟩
theorem ED (l:List Int) (h:FuncId) (caps:List V) (p:Int→Bool) (hb:AD Tryz.prog h=true) (hc:Fw caps=true) (hp:∀a∈l,Fn1 Tryz.prog h ((V.int .i64) a::caps) (fun r=>r= .bool (p a))):
    Fn1 Tryz.prog 19 [.lst (l.map (V.int .i64)),.fn h caps] (fun r=>r= .bool (l.any p)):=by
  have hi:=OP l h caps p hb hc hp
  have ha:=EX p l
  refine A4 (T:=Tryz.tt) Tryz.func19 rfl AR AB ?_ ?_ fun C hC hE=>?_
  . kernel_rfl
  . exact Nat.le_of_ble_eq_true (by kernel_rfl)
  conv=>whnf
  repeat' (first|(refine AC hi hC Sc ?_ ?_ ?_;kernel_rfl;exact LW rfl hc;conv=>whnf)|(refine He (fun h=>?_) (fun h=>?_)<;>conv=>whnf)|(refine AH hE ?_;conv=>whnf))
  all_goals exact ⟨rfl,by rw [←ha];congr 1;first|exact (decide_eq_true (by assumption)).symm|exact (decide_eq_false (by assumption)).symm⟩
end Go.Proofs.YtkaiffheakalmaaGreatDoor
namespace Go.Proofs.YtkaiffheakalmaaGreatDoor
open Go.RowKit
end Go.Proofs.YtkaiffheakalmaaGreatDoor
namespace Go.Proofs.YtkaiffheakalmaaGreatDoor
open Go.RowKit
theorem Nd (h:List (Option Ob)):∀o,h[AG h]?≠some (some o):=by
  induction h with
  | nil=>intro o ho;simp [AG] at ho
  | cons x r ih=>
    intro o ho
    cases x with
    | none=>simp [AG] at ho
    | some y=>exact ih o (by simpa [AG] using ho)
theorem CY {C:Ctx} {K:ES→Prop} (p c z':Nat) {z n:Nat} {l:List V} {u:List (Nat×V)} {h:List (Option Ob)} (ho:h[p]?=some (some (.row z [.agg l]))) (hl:l[c]?=some .nils)
    (hk:UpE C K ⟨n,u,(Aj h (.row z' [])).set p (some (.row z [.agg (l.set c (.sl (AG h) 0 0))]))⟩):UpE C K ⟨n,u,h⟩:=by
  refine ⟨BQ (fun a w hr=>?_) hk.out⟩
  obtain ⟨I,bl,hp0⟩:=hr.parts
  have hp:=hp0.adopt z'
  have hne:p≠AG h:=fun e=>Nd h _ (e▸ho)
  have ho':(Aj h (.row z' []))[p]?=some (some (.row z [.agg l])):=(BT h _ p hne).trans ho
  have hpl:p < (Aj h (.row z' [])).length:=(List.getElem?_eq_some_iff.1 ho').1
  refine RP.rel (I:=I) (bl:=Fo bl (AG h) ⟨none,0,z'⟩) ⟨hp.defers,hp.env,⟨fun id o hoo=>?_,fun id i hi=>?_,hp.heap.apart,hp.heap.own,hp.heap.imm,hp.heap.kept⟩⟩
  . have hoo:((Aj h (.row z' [])).set p (some (.row z [.agg (l.set c (.sl (AG h) 0 0))])))[id]?=some (some o):=hoo
    by_cases e:id=p
    . subst e
      rw [List.getElem?_set_self hpl] at hoo
      simp only [Option.some.injEq] at hoo
      subst hoo
      obtain ⟨bi,h1,h2,h3,h4⟩:=hp.heap.obj id _ ho'
      refine ⟨bi,h1,h2,fun i x hx=>?_,?_⟩
      . cases i with
        | zero=>
          simp only [List.getElem?_cons_zero,Option.some.injEq] at hx
          subst hx
          have:=h3 0 (.agg l) rfl
          simp only [V.cells] at this ⊢
          simpa using this
        | succ i=>simp at hx
      . cases hbl:bi.blk with
        | none=>
          simp only [hbl] at h4
          cases h4
        | some b=>
          simp only [hbl] at h4 ⊢
          obtain ⟨cur,e,hg,hsz,hc⟩:=h4
          refine ⟨cur,e,hg,by simpa using hsz,fun i x j v hx hxc=>?_⟩
          cases i with
          | succ i=>simp at hx
          | zero=>
            simp only [List.getElem?_cons_zero,Option.some.injEq] at hx
            subst hx
            simp only [V.cells] at hxc
            by_cases hj:j=c
            . subst hj
              have hlt:j < l.length:=(List.getElem?_eq_some_iff.1 hl).1
              rw [List.getElem?_set_self hlt] at hxc
              simp only [Option.some.injEq] at hxc
              subst hxc
              obtain ⟨y,hy,h1',hr'⟩:=hc 0 (.agg l) j .nils rfl hl
              have:=hr'.inv_nils
              subst this
              exact ⟨_,hy,h1',.nsl _ _ _ (AX _ _ _)⟩
            . rw [List.getElem?_set_ne (Ne.symm hj)] at hxc
              exact hc 0 (.agg l) j v rfl hxc
    . rw [List.getElem?_set_ne (Ne.symm e)] at hoo
      exact hp.heap.obj id o hoo
  . show ∃o,((Aj h (.row z' [])).set p (some (.row z [.agg (l.set c (.sl (AG h) 0 0))])))[id]?=some (some o)
    by_cases e:id=p
    . subst e;exact ⟨_,List.getElem?_set_self hpl⟩
    . rw [List.getElem?_set_ne (Ne.symm e)]
      exact hp.heap.live id i hi
end Go.Proofs.YtkaiffheakalmaaGreatDoor
namespace Go.Proofs.YtkaiffheakalmaaGreatDoor
open Go.RowKit
section
variable {C:Ctx} {K:ES→Prop}
theorem P3 {p k:Nat} {x:Ob} {o:Ob} (h:(List.replicate p none++[some x])[k]?=some (some o)):k=p∧o=x:=by
  rw [List.getElem?_append] at h
  split at h
  . rename_i hk
    simp at hk
    rw [List.getElem?_replicate,if_pos hk] at h
    cases h
  . rename_i hk
    simp at hk
    have:k - (List.replicate p (none:Option Ob)).length=k - p:=by simp
    rw [this] at h
    match hj:k - p with
    | 0=>rw [hj] at h;cases h;exact ⟨by omega,rfl⟩
    | j+1=>rw [hj] at h;simp at h
theorem Tf (p:Nat) (x:Ob):(List.replicate p none++[some x])[p]?=some (some x):=by
  rw [List.getElem?_append_right (by simp)]
  simp
theorem ZX (p t:Nat) {z n:Nat} {els:List V} {u:List (Nat×V)} {h:List (Option Ob)} (ho:h[p]?=some (some (.row z els))) (hnr:BN els) (ht:Al u t= .ptr p 0 0)
    (hk:UpE C K ⟨n,[(t,.ptr p 0 0)],List.replicate p none++[some (.row z els)]⟩):UpE C K ⟨n,u,h⟩:=by
  refine B8 [t] ?_
  refine ⟨BQ (fun a w hr=>?_) hk.out⟩
  obtain ⟨I,bl,hp⟩:=hr.parts
  refine RP.rel (I:=I) (bl:=fun k=>if k=p then bl p else none) ⟨hp.defers,⟨by have:=hp.env.1;simpa [ES.st,ES.env] using this,fun i v x hv hx=>?_⟩,⟨fun id o hoo=>?_,fun id i hi=>?_,fun id id' i i' b h1 h2 h3 h4=>?_,fun id i b h1 h2=>?_,hp.heap.imm,hp.heap.kept⟩⟩
  . have hx:(ES.env ⟨n,[(t,.ptr p 0 0)],List.replicate p none++[some (.row z els)]⟩)[i]?=some x:=hx
    have hx':(ES.env ⟨n,A1 [t] u,h⟩)[i]?=some x:=by
      have e:A1 [t] u=[(t,.ptr p 0 0)]:=by simp [A1,ht]
      rw [e]
      simpa [ES.env] using hx
    have hrep:=hp.env.2 i v x hv hx'
    unfold ES.env at hx
    rw [List.getElem?_map,Option.map_eq_some_iff] at hx
    obtain ⟨s,_,rfl⟩:=hx
    by_cases e:s=t
    . subst e
      have e2:Al [(s,V.ptr p 0 0)] s= .ptr p 0 0:=by simp [Al]
      rw [e2] at hrep ⊢
      obtain ⟨b,base,z',m,e',h1,h2,rfl⟩:=hrep.inv_ptr
      exact .ptr p 0 0 b base z' m e' (by simp [h1]) h2
    . have e2:Al [(t,V.ptr p 0 0)] s= .any:=by
        have:Nat.beq s t=false:=by cases hb:Nat.beq s t with
          | false=>rfl
          | true=>exact absurd (Nat.eq_of_beq_eq_true hb) e
        simp [Al,this]
      rw [e2]
      exact .pure _ _ (.any _)
  . obtain ⟨rfl,rfl⟩:=P3 (show (List.replicate p none++[some (Ob.row z els)])[id]?=some (some o) from hoo)
    obtain ⟨bi,h1,h2,h3,h4⟩:=hp.heap.obj id _ ho
    refine ⟨bi,by simpa using h1,h2,h3,?_⟩
    cases hb:bi.blk with
    | none=>simpa only [hb] using h4
    | some b=>
      simp only [hb] at h4 ⊢
      obtain ⟨cur,e,hg,hsz,hc⟩:=h4
      refine ⟨cur,e,hg,hsz,fun i x j c hx hxc=>?_⟩
      obtain ⟨v,hv,h1',hr'⟩:=hc i x j c hx hxc
      exact ⟨v,hv,h1',.pure _ _ (hr'.pr (Dy (Bw els i x hnr hx) j c hxc))⟩
  . have hi:(if id=p then bl p else none)=some i:=hi
    split at hi
    . rename_i e
      subst e
      exact ⟨_,Tf _ _⟩
    . cases hi
  . have h1:(if id=p then bl p else none)=some i:=h1
    have h2:(if id'=p then bl p else none)=some i':=h2
    split at h1
    . rename_i e1
      split at h2
      . rename_i e2
        rw [e1,e2]
      . cases h2
    . cases h1
  . have h1:(if id=p then bl p else none)=some i:=h1
    split at h1
    . exact hp.heap.own p i b h1 h2
    . cases h1
theorem BY (id:Nat) (els:List V) {m:Nat} (hm:m=els.length):(V.sl id 0 m).frz id els= .lst els:=by
  subst hm
  simp [V.frz]
theorem Er {id i off m:Nat} (els:List V) (h:i≠id):(V.sl i off m).frz id els= .sl i off m:=by simp [V.frz,h]
theorem P4 (p t a b:Nat) {za zb n m1 m2:Nat} {la lb:List V} {u:List (Nat×V)} {h:List (Option Ob)} (ho:h[p]?=some (some (.row 2 [.agg [.sl a 0 m1,.sl b 0 m2]]))) (ht:Al u t= .ptr p 0 0)
    (ha:h[a]?=some (some (.row za la))) (hb:h[b]?=some (some (.row zb lb))) (hab:a≠b) (hpa:p≠a) (hpb:p≠b) (na:BN la) (nb:BN lb) (e1:m1=la.length) (e2:m2=lb.length)
    (hk:UpE C K ⟨n,[(t,.ptr p 0 0)],List.replicate p none++[some (.row 2 [.agg [.lst la,.lst lb]])]⟩):UpE C K ⟨n,u,h⟩:=by
  refine AO a ha na ?_
  have hb':((B1 a la h).set a none)[b]?=some (some (.row zb lb)):=by
    rw [List.getElem?_set_ne hab,Cg a la h b _ hb]
    simp [Ob.frz,AZ _ _ nb]
  have ho':((B1 a la h).set a none)[p]?=some (some (.row 2 [.agg [.lst la,.sl b 0 m2]])):=by
    rw [List.getElem?_set_ne (Ne.symm hpa),Cg a la h p _ ho]
    simp only [Ob.frz,An,V.frz]
    rw [if_pos trivial,if_pos (by omega),if_neg (Ne.symm hab),List.drop_zero,List.take_of_length_le (by omega)]
  refine AO b hb' nb ?_
  refine ZX p t (z:=2) (els:=[.agg [.lst la,.lst lb]]) ?_ ⟨⟨trivial,trivial,trivial⟩,trivial⟩ ?_ hk
  . rw [List.getElem?_set_ne (Ne.symm hpb),Cg b lb _ p _ ho']
    simp only [Ob.frz,An,V.frz]
    rw [if_pos trivial,if_pos (by omega),List.drop_zero,List.take_of_length_le (by omega)]
  . rw [Bb,Bb,ht]
    simp [V.frz,hpa,hpb]
theorem XB (p t q:Nat) {y:V} {z n:Nat} {els:List V} {u:List (Nat×V)} {h:List (Option Ob)} (ho:h[p]?=some (some (.row z els))) (hnr:BN els) (ht:Al u t= .ptr p 0 0) (hqt:q≠t) (hq:Al u q=y) (hy:y.nr)
    (hk:UpE C K ⟨n,[(t,.ptr p 0 0),(q,y)],List.replicate p none++[some (.row z els)]⟩):UpE C K ⟨n,u,h⟩:=by
  refine B8 [t,q] ?_
  refine ⟨BQ (fun a w hr=>?_) hk.out⟩
  obtain ⟨I,bl,hp⟩:=hr.parts
  refine RP.rel (I:=I) (bl:=fun k=>if k=p then bl p else none) ⟨hp.defers,⟨by have:=hp.env.1;simpa [ES.st,ES.env] using this,fun i v x hv hx=>?_⟩,⟨fun id o hoo=>?_,fun id i hi=>?_,fun id id' i i' b h1 h2 h3 h4=>?_,fun id i b h1 h2=>?_,hp.heap.imm,hp.heap.kept⟩⟩
  . have hx:(ES.env ⟨n,[(t,.ptr p 0 0),(q,y)],List.replicate p none++[some (.row z els)]⟩)[i]?=some x:=hx
    have hx':(ES.env ⟨n,A1 [t,q] u,h⟩)[i]?=some x:=by
      have e:A1 [t,q] u=[(t,.ptr p 0 0),(q,y)]:=by simp [A1,ht,hq]
      rw [e]
      simpa [ES.env] using hx
    have hrep:=hp.env.2 i v x hv hx'
    unfold ES.env at hx
    rw [List.getElem?_map,Option.map_eq_some_iff] at hx
    obtain ⟨s,_,rfl⟩:=hx
    have hrep:Rep w I bl v (Al [(t,V.ptr p 0 0),(q,y)] s):=hrep
    show Rep w I _ v (Al [(t,V.ptr p 0 0),(q,y)] s)
    by_cases e:s=t
    . subst e
      have e2:Al [(s,V.ptr p 0 0),(q,y)] s= .ptr p 0 0:=by simp [Al]
      rw [e2] at hrep ⊢
      obtain ⟨b,base,z',m,e',h1,h2,rfl⟩:=hrep.inv_ptr
      exact .ptr p 0 0 b base z' m e' (by simp [h1]) h2
    . have e1:Nat.beq s t=false:=by cases hb:Nat.beq s t with
          | false=>rfl
          | true=>exact absurd (Nat.eq_of_beq_eq_true hb) e
      by_cases e3:s=q
      . subst e3
        have e2:Al [(t,V.ptr p 0 0),(s,y)] s=y:=by simp [Al,e1]
        rw [e2] at hrep ⊢
        exact .pure _ _ (hrep.pr hy)
      . have e4:Nat.beq s q=false:=by cases hb:Nat.beq s q with
            | false=>rfl
            | true=>exact absurd (Nat.eq_of_beq_eq_true hb) e3
        have e2:Al [(t,V.ptr p 0 0),(q,y)] s= .any:=by simp [Al,e1,e4]
        rw [e2]
        exact .pure _ _ (.any _)
  . obtain ⟨rfl,rfl⟩:=P3 (show (List.replicate p none++[some (Ob.row z els)])[id]?=some (some o) from hoo)
    obtain ⟨bi,h1,h2,h3,h4⟩:=hp.heap.obj id _ ho
    refine ⟨bi,by simpa using h1,h2,h3,?_⟩
    cases hb:bi.blk with
    | none=>simpa only [hb] using h4
    | some b=>
      simp only [hb] at h4 ⊢
      obtain ⟨cur,e,hg,hsz,hc⟩:=h4
      refine ⟨cur,e,hg,hsz,fun i x j c hx hxc=>?_⟩
      obtain ⟨v,hv,h1',hr'⟩:=hc i x j c hx hxc
      exact ⟨v,hv,h1',.pure _ _ (hr'.pr (Dy (Bw els i x hnr hx) j c hxc))⟩
  . have hi:(if id=p then bl p else none)=some i:=hi
    split at hi
    . rename_i e
      subst e
      exact ⟨_,Tf _ _⟩
    . cases hi
  . have h1:(if id=p then bl p else none)=some i:=h1
    have h2:(if id'=p then bl p else none)=some i':=h2
    split at h1
    . rename_i e1
      split at h2
      . rename_i e2
        rw [e1,e2]
      . cases h2
    . cases h1
  . have h1:(if id=p then bl p else none)=some i:=h1
    split at h1
    . exact hp.heap.own p i b h1 h2
    . cases h1
theorem Nf (p t q a b:Nat) {y:V} {za zb n m1 m2:Nat} {la lb:List V} {u:List (Nat×V)} {h:List (Option Ob)} (ho:h[p]?=some (some (.row 2 [.agg [.sl a 0 m1,.sl b 0 m2]]))) (ht:Al u t= .ptr p 0 0)
    (ha:h[a]?=some (some (.row za la))) (hb:h[b]?=some (some (.row zb lb))) (hab:a≠b) (hpa:p≠a) (hpb:p≠b) (na:BN la) (nb:BN lb) (e1:m1=la.length) (e2:m2=lb.length) (hqt:q≠t) (hq:Al u q=y) (hy:Vn y=true)
    (hk:UpE C K ⟨n,[(t,.ptr p 0 0),(q,y)],List.replicate p none++[some (.row 2 [.agg [.lst la,.lst lb]])]⟩):UpE C K ⟨n,u,h⟩:=by
  refine AO a ha na ?_
  have hb':((B1 a la h).set a none)[b]?=some (some (.row zb lb)):=by
    rw [List.getElem?_set_ne hab,Cg a la h b _ hb]
    simp [Ob.frz,AZ _ _ nb]
  have ho':((B1 a la h).set a none)[p]?=some (some (.row 2 [.agg [.lst la,.sl b 0 m2]])):=by
    rw [List.getElem?_set_ne (Ne.symm hpa),Cg a la h p _ ho]
    simp only [Ob.frz,An,V.frz]
    rw [if_pos trivial,if_pos (by omega),if_neg (Ne.symm hab),List.drop_zero,List.take_of_length_le (by omega)]
  refine AO b hb' nb ?_
  have hyf:∀id els,y.frz id els=y:=fun id els=>by cases y<;>first|(exfalso;simp [Vn] at hy;done)|simp [V.frz]
  have hyn:y.nr:=by cases y<;>first|(exfalso;simp [Vn] at hy;done)|trivial
  refine XB p t q (z:=2) (els:=[.agg [.lst la,.lst lb]]) ?_ ⟨⟨trivial,trivial,trivial⟩,trivial⟩ ?_ hqt (by rw [Bb,Bb,hq,hyf,hyf]) hyn hk
  . rw [List.getElem?_set_ne (Ne.symm hpb),Cg b lb _ p _ ho']
    simp only [Ob.frz,An,V.frz]
    rw [if_pos trivial,if_pos (by omega),List.drop_zero,List.take_of_length_le (by omega)]
  . rw [Bb,Bb,ht]
    simp [V.frz,hpa,hpb]
end
end Go.Proofs.YtkaiffheakalmaaGreatDoor
namespace Go.Proofs.YtkaiffheakalmaaGreatDoor
open Go.RowKit
theorem AE:∀L:List Int,BN (L.map (V.int .i64))
  | []=>trivial
  | x::L=>⟨trivial,AE L⟩
theorem Id:∀N:List (List Int),BN (N.map AY)
  | []=>trivial
  | r::N=>⟨trivial,Id N⟩
theorem Ng (id:Nat) (els:List V):∀a b:List V,An id els (a++b)=An id els a++An id els b
  | [],b=>by simp [An]
  | x::a,b=>by simp [An,Ng id els a b]
theorem Lj (id:Nat):∀a b:List V,AK id (a++b)=AK id a++AK id b
  | [],b=>by simp [AK]
  | x::a,b=>by simp [AK,Lj id a b]
theorem Cm (l:List Int):∀y,y∈l.map (V.int .i64)→y.cells.length=1:=fun y hy=>by
  obtain ⟨x,_,rfl⟩:=List.mem_map.1 hy
  rfl
theorem Fz:∀L:List Bool,BN (L.map V.bool)
  | []=>trivial
  | _::L=>⟨trivial,Fz L⟩
end Go.Proofs.YtkaiffheakalmaaGreatDoor
namespace Go.Proofs.YtkaiffheakalmaaGreatDoor
open Go.RowKit
def A9 (l:List Int):V:=.agg (l.map (V.int .i64))
theorem Ie {α:Type} [DecidableEq α] {a:α} {n:Int}:∀{M:List (α×Int)},(Az a M)=some n→∃j:Nat,M[j]?=some (a,n)
  | [],h=>by simp [Az] at h
  | q::M,h=>by
    rw [Df] at h
    split at h
    . rename_i e
      cases h
      exact ⟨0,by rw [e];rfl⟩
    . obtain ⟨j,hj⟩:=Ie h
      exact ⟨j+1,by simpa using hj⟩
theorem OQ {α:Type} [DecidableEq α] {a:α}:∀{M:List (α×Int)},(Az a M)=none→a∉M.map (·.1)
  | [],_=>by simp
  | q::M,h=>by
    rw [Df] at h
    split at h
    . cases h
    . rename_i e
      have:=OQ h
      simp only [List.map_cons,List.mem_cons,not_or]
      exact ⟨e,this⟩
theorem DE:∀(n:Nat) (l:List Nat),l.Nodup→(∀x∈l,x < n)→l.length≤n
  | 0,l,_,h=>by
    cases l with
    | nil=>simp
    | cons x l=>exact absurd (h x (by simp)) (by omega)
  | n+1,l,hd,h=>by
    by_cases hm:n∈l
    . have h1:=DE n (l.erase n) (hd.erase n) (fun x hx=>by
        have h2:=h x (List.mem_of_mem_erase hx)
        have h3:x≠n:=fun e=>by subst e;exact (List.Nodup.not_mem_erase hd) hx
        omega)
      rw [List.length_erase_of_mem hm] at h1
      omega
    . have:=DE n l hd (fun x hx=>by
        have h2:=h x hx
        have h3:x≠n:=fun e=>by subst e;exact hm hx
        omega)
      omega
theorem J7 {α:Type} {l:List α} (h:l.length=8):∃a b c d e f g i,l=[a,b,c,d,e,f,g,i]:=by
  match l,h with
  | [a,b,c,d,e,f,g,i],_=>exact ⟨a,b,c,d,e,f,g,i,rfl⟩
theorem OR:∀L:List Int,BN (L.map (V.int .i64))
  | []=>trivial
  | x::L=>⟨trivial,OR L⟩
theorem CG:∀N:List (List Int),BN (N.map A9)
  | []=>trivial
  | r::N=>⟨OR r,CG N⟩
theorem P5 (N:List (List Int)) (a0 a1 a2 a3 a4 a5 a6 a7:Int):List.take N.length (List.drop 0 (List.map A9 N))++List.take 1 (List.drop 0 [V.agg [V.int .i64 a0,V.int .i64 a1,V.int .i64 a2,V.int .i64 a3,V.int .i64 a4,V.int .i64 a5,V.int .i64 a6,V.int .i64 a7]])=List.map A9 (N++[[a0,a1,a2,a3,a4,a5,a6,a7]]):=by
  rw [List.drop_zero,List.take_of_length_le (by simp),List.map_append]
  rfl
theorem P6 (N:List (List Int)) (a0 a1 a2 a3 a4 a5 a6 a7:Int):N.length+(List.take 1 (List.drop 0 [V.agg [V.int .i64 a0,V.int .i64 a1,V.int .i64 a2,V.int .i64 a3,V.int .i64 a4,V.int .i64 a5,V.int .i64 a6,V.int .i64 a7]])).length=(N++[[a0,a1,a2,a3,a4,a5,a6,a7]]).length:=by
  rw [List.length_append]
  rfl
end Go.Proofs.YtkaiffheakalmaaGreatDoor
namespace Go.Proofs.YtkaiffheakalmaaGreatDoor
open Go.RowKit
def AF (F:List (List Int)) (i:Nat):List Int:=F.getD i []
def DF (i k:Int) (F:List (List Int)):List (List Int):=if k∈AF F i.toNat then F else F.set i.toNat (AF F i.toNat++[k])
def Ab (i:Int) (to:List Int) (F:List (List Int)):List (List Int):=to.foldl (fun F k=>DF i k F) F
def Au (fr to:List Int) (F:List (List Int)):List (List Int):=fr.foldl (fun F i=>Ab i to F) F
structure Pt where
  first:List Int
  last:List Int
  none:Bool
structure Ps where
  T:List Int
  F:List (List Int)
def OS (k:Int) (r:Pt×Ps):Pt×Ps:=
  (⟨r.1.first,r.1.last,r.1.none || decide (k=4) || decide (k=6)⟩,if k=4∨k=5 then ⟨r.2.T,Au r.1.last r.1.first r.2.F⟩ else r.2)
def GJ (k:Int) (out q:Pt) (S:Ps):Pt×Ps:=
  if k≠2 then (⟨out.first++q.first,out.last++q.last,out.none || q.none⟩,S)
  else (⟨if out.none then out.first++q.first else out.first,(if q.none then out.last else [])++q.last,out.none&&q.none⟩,⟨S.T,Au out.last q.first S.F⟩)
mutual
def BO:Ex→Ps→Pt×Ps
  | .mk k t ps,S=>if k=1 then (⟨[(S.T.length:Int)],[(S.T.length:Int)],false⟩,⟨S.T++[t],S.F++[[]]⟩) else OS k (Cn k ps ⟨[],[],decide (k=2)⟩ S)
def Cn (k:Int):List Ex→Pt→Ps→Pt×Ps
  | [],out,S=>(out,S)
  | y::ps,out,S=>Cn k ps (GJ k out (BO y S).1 (BO y S).2).1 (GJ k out (BO y S).1 (BO y S).2).2
end
theorem Um (i k:Int) (F:List (List Int)):(DF i k F).length=F.length:=by
  unfold DF
  split<;>simp
theorem EZ (i:Int):∀(to:List Int) (F:List (List Int)),(Ab i to F).length=F.length
  | [],F=>rfl
  | k::to,F=>by
    show (Ab i to (DF i k F)).length=_
    rw [EZ i to,Um]
theorem CA (to:List Int):∀(fr:List Int) (F:List (List Int)),(Au fr to F).length=F.length
  | [],F=>rfl
  | i::fr,F=>by
    show (Au fr to (Ab i to F)).length=_
    rw [CA to fr,EZ]
theorem F0 (i:Int) (to:List Int) (k:Int) (F:List (List Int)):Ab i (to++[k]) F=DF i k (Ab i to F):=by simp [Ab]
theorem Rh (fr:List Int) (i:Int) (to:List Int) (F:List (List Int)):Au (fr++[i]) to F=Ab i to (Au fr to F):=by simp [Au]
def BdF (n:Nat) (F:List (List Int)):Prop:=∀r∈F,r.Nodup∧∀x∈r,0≤x∧x < n
theorem G9 {n:Nat} {r:List Int} (h:r.Nodup∧∀x∈r,0≤x∧x < (n:Int)):r.length≤n:=by
  have h1:(r.map Int.toNat).Nodup:=by
    have:=h.1
    have h2:=h.2
    clear h
    induction r with
    | nil=>exact List.nodup_nil
    | cons x r ih=>
      rw [List.map_cons,List.nodup_cons]
      rw [List.nodup_cons] at this
      refine ⟨fun hm=>?_,ih this.2 fun y hy=>h2 y (List.mem_cons_of_mem _ hy)⟩
      obtain ⟨y,hy,e⟩:=List.mem_map.1 hm
      have a:=h2 x List.mem_cons_self
      have b:=h2 y (List.mem_cons_of_mem _ hy)
      have:x=y:=by omega
      subst this
      exact this.1 hy
  have h2:∀x∈r.map Int.toNat,x < n:=fun x hx=>by
    obtain ⟨y,hy,rfl⟩:=List.mem_map.1 hx
    have:=h.2 y hy
    omega
  have h3:=DE n _ h1 h2
  rw [List.length_map] at h3
  exact h3
theorem XC {n:Nat} {i k:Int} {F:List (List Int)} (h:BdF n F) (hk:0≤k∧k < (n:Int)):BdF n (DF i k F):=by
  unfold DF
  split
  . exact h
  . rename_i hm
    intro r hr
    rcases List.mem_or_eq_of_mem_set hr with h1|h1
    . exact h r h1
    . subst h1
      have h0:(AF F i.toNat).Nodup∧∀x∈AF F i.toNat,0≤x∧x < (n:Int):=by
        unfold AF
        rw [List.getD_eq_getElem?_getD]
        cases hg:F[i.toNat]? with
        | none=>exact ⟨List.nodup_nil,fun x hx=>by cases hx⟩
        | some r0=>exact h r0 (List.mem_of_getElem? hg)
      refine ⟨?_,fun x hx=>?_⟩
      . rw [List.nodup_append]
        refine ⟨h0.1,by simp,fun a ha b hb=>?_⟩
        rw [List.mem_singleton] at hb
        subst hb
        intro e;subst e;exact hm ha
      . rcases List.mem_append.1 hx with h2|h2
        . exact h0.2 x h2
        . rw [List.mem_singleton] at h2;subst h2;exact hk
theorem Fk {n:Nat} {i:Int}:∀{to:List Int} {F:List (List Int)},BdF n F→(∀k∈to,0≤k∧k < (n:Int))→BdF n (Ab i to F)
  | [],F,h,_=>h
  | k::to,F,h,hk=>by
    show BdF n (Ab i to (DF i k F))
    exact Fk (XC h (hk k List.mem_cons_self)) fun x hx=>hk x (List.mem_cons_of_mem _ hx)
theorem Lk {n:Nat} {to:List Int} (hk:∀k∈to,0≤k∧k < (n:Int)):∀{fr:List Int} {F:List (List Int)},BdF n F→BdF n (Au fr to F)
  | [],F,h=>h
  | i::fr,F,h=>by
    show BdF n (Au fr to (Ab i to F))
    exact Lk hk (Fk h hk)
end Go.Proofs.YtkaiffheakalmaaGreatDoor
namespace Go.Proofs.YtkaiffheakalmaaGreatDoor
def JL (x:Int):List Int→List Int
  | []=>[x]
  | y::l=>if x < y then x::y::l else if x=y then y::l else y::JL x l
def Bz (l:List Int):List Int:=l.foldr JL []
theorem Ll (x z:Int):∀l,z∈JL x l↔z=x∨z∈l
  | []=>by simp [JL]
  | y::l=>by
    unfold JL
    split
    . simp
    . split
      . rename_i h;subst h;simp
      . simp only [List.mem_cons,Ll x z l]
        constructor
        . rintro (h|h|h)
          . exact .inr (.inl h)
          . exact .inl h
          . exact .inr (.inr h)
        . rintro (h|h|h)
          . exact .inr (.inl h)
          . exact .inl h
          . exact .inr (.inr h)
theorem JM (z:Int):∀l,z∈Bz l↔z∈l
  | []=>by simp [Bz]
  | x::l=>by
    show z∈JL x (Bz l)↔_
    rw [Ll,JM z l,List.mem_cons]
theorem P7 (x:Int):∀{l:List Int},l.Pairwise (· < ·)→(JL x l).Pairwise (· < ·)
  | [],_=>by simp [JL]
  | y::l,h=>by
    have h':=List.pairwise_cons.1 h
    unfold JL
    split
    . rename_i hxy
      refine List.pairwise_cons.2 ⟨fun z hz=>?_,h⟩
      rcases List.mem_cons.1 hz with rfl|hz
      . exact hxy
      . have:=h'.1 z hz;omega
    . split
      . exact h
      . rename_i h1 h2
        refine List.pairwise_cons.2 ⟨fun z hz=>?_,P7 x h'.2⟩
        rcases (Ll x z l).1 hz with rfl|hz
        . omega
        . exact h'.1 z hz
theorem Nh:∀l:List Int,(Bz l).Pairwise (· < ·)
  | []=>List.Pairwise.nil
  | x::l=>P7 x (Nh l)
theorem XD:∀{a b:List Int},a.Pairwise (· < ·)→b.Pairwise (· < ·)→(∀z,z∈a↔z∈b)→a=b
  | [],[],_,_,_=>rfl
  | [],y::b,_,_,h=>by have:=(h y).2 (by simp);simp at this
  | x::a,[],_,_,h=>by have:=(h x).1 (by simp);simp at this
  | x::a,y::b,ha,hb,h=>by
    have ha':=List.pairwise_cons.1 ha
    have hb':=List.pairwise_cons.1 hb
    have e:x=y:=by
      rcases List.mem_cons.1 ((h x).1 (by simp)) with h1|h1
      . exact h1
      . rcases List.mem_cons.1 ((h y).2 (by simp)) with h2|h2
        . exact h2.symm
        . have:=hb'.1 x h1;have:=ha'.1 y h2;omega
    subst e
    rw [XD ha'.2 hb'.2 fun z=>?_]
    constructor
    . intro hz
      rcases List.mem_cons.1 ((h z).1 (by simp [hz])) with h1|h1
      . subst h1;have:=ha'.1 z hz;omega
      . exact h1
    . intro hz
      rcases List.mem_cons.1 ((h z).2 (by simp [hz])) with h1|h1
      . subst h1;have:=hb'.1 z hz;omega
      . exact h1
end Go.Proofs.YtkaiffheakalmaaGreatDoor
namespace Go.Proofs.YtkaiffheakalmaaGreatDoor
open Go.RowKit
theorem Lm {zv:Array Value} (h:∀u∈zv.toList,u.oneCell'=true) (n:Nat):∀u∈(Builtin.zeroCells zv n).toList,u.oneCell'=true:=by
  intro u hu
  simp only [Builtin.zeroCells,Array.toList_map,List.mem_map] at hu
  obtain ⟨i,hi,rfl⟩:=hu
  have hi:i < n*zv.size:=by simpa using hi
  have hz:0 < zv.size:=by
    rcases Nat.eq_zero_or_pos zv.size with h0|h0
    . rw [h0] at hi;omega
    . exact h0
  have hlt:=Nat.mod_lt i hz
  rw [getElem!_pos zv (i % zv.size) hlt]
  exact h _ (by simp)
theorem Un {C:Ctx} {P:Program} {K:V→ES→Prop} {σ:ES} (hC:C.P=P) {t e:TypeId} {i:TypeInfo} {zv:Value} (hu:P.underlying t=some (.slice e)) (hi:P.info? e=some i) (hz:i.zero=some zv) {z:Nat} (hzl:zv.cells.size=z) (hz1:∀u∈zv.cells.toList,u.oneCell'=true)
    {x:Operand} (id off len:Nat) {els:List V} (hx:σ.val x= .sl id off len) (hrow:σ.heap[id]?=some (some (.row z els))) (hoff:off≤els.length) (h0:0 < len)
    (hK:fH (σ.heap.set id (some (.row z (els.take off)))) fun h=>K (.tup []) ⟨σ.n,σ.u,h⟩):OpN C (.call { callee:=.builtin .clear,args:=#[x],argTypes:=#[t]}) K σ:=by
  subst hC
  rw [BB] at hK
  refine ⟨fun o ho=>Am fun a w I bl hp=>?_⟩
  have hv:=hp.val x
  rw [Av,hx] at hv
  rcases hv.inv_sl with ⟨base,z',_,_,h5,_⟩|⟨a',i',_,h5,_⟩|⟨cap,b,base,z',n,e',h1,h2,h3,h4,h5,h6⟩
  . omega
  . omega
  obtain ⟨bi,g1,g2,g3,g4⟩:=hp.heap.obj id _ hrow
  rw [h1] at g1
  simp only [Option.some.injEq] at g1
  subst g1
  simp only at g2
  subst g2
  simp only at g4
  obtain ⟨cur,e2,hg,hsz,hc⟩:=g4
  have hsh:=hg.shape
  rw [h2] at hsh
  simp only [Option.some.injEq,Prod.mk.injEq] at hsh
  obtain ⟨rfl,rfl⟩:=hsh
  have hzc:(Builtin.zeroCells zv.cells len).size=len*z':=by rw [size_zeroCells,hzl]
  have hm:(off+len)*z'≤(off+cap)*z':=Nat.mul_le_mul_right _ (by omega)
  have hm2:(off+len)*z'=off*z'+len*z':=Nat.add_mul _ _ _
  have hfit:base+off*z'+(Builtin.zeroCells zv.cells len).size≤cur.size:=by rw [hzc];omega
  obtain ⟨fz,hfz,hgh⟩:=hg
  have hst:=B6 (z:=z') (P:=C.P) b (base+off*z') e' fz (Builtin.zeroCells zv.cells len).toList 0 cur w hgh hfz (by simpa using hfit) (Lm hz1 len)
  simp only [Nat.add_zero] at hst
  have hrun:(Builtin.clear_ #[t] o.type #[.slice (some ⟨b,base+off*z',none⟩) len cap]).run C.P w= .ok (.tuple #[]) (w.setRow b (cur.toList.take (base+off*z')++(Builtin.zeroCells zv.cells len).toList++cur.toList.drop (base+off*z'+(Builtin.zeroCells zv.cells len).toList.length)).toArray):=by
    cases len with
    | zero=>omega
    | succ k=>simp [Builtin.clear_,run_underlying hu,zeroValue,typeInfo,hi,hz,hst]
  have hmo:(els.take off).length*z'≤off*z':=Nat.mul_le_mul_right _ (by simp;omega)
  have hw:=hp.write h1 ⟨fz,hfz,hgh⟩ (cur.toList.take (base+off*z')++(Builtin.zeroCells zv.cells len).toList++cur.toList.drop (base+off*z'+(Builtin.zeroCells zv.cells len).toList.length)).toArray (by simp at hfit ⊢;omega) (els.take off)
      (fun k y hy=>by
        rw [List.getElem?_take] at hy
        split at hy
        . exact g3 k y hy
        . cases hy) (by simp at hfit hmo ⊢;omega) (fun k y j c hy hc'=>by
        rw [List.getElem?_take] at hy
        split at hy
        . rename_i hk
          obtain ⟨u,hu1,hu2,hu3⟩:=hc k y j c hy hc'
          refine ⟨u,?_,hu2,hu3⟩
          have hj:j < z':=by rw [←g3 k y hy];exact (List.getElem?_eq_some_iff.1 hc').1
          have hkm:(k+1)*z'≤off*z':=Nat.mul_le_mul_right _ hk
          rw [Nat.add_mul,Nat.one_mul] at hkm
          have hlt:base+k*z'+j < cur.size:=(Array.getElem?_eq_some_iff.1 hu1).1
          have:base+k*z'+j < base+off*z':=by omega
          simp only [List.getElem?_toArray]
          rw [List.append_assoc,List.getElem?_append_left (by simp;omega),List.getElem?_take,if_pos this]
          simpa using hu1
        . cases hy)
  have hr1:HZ C (⟨σ.n,σ.u,σ.heap.set id (some (.row z' (els.take off)))⟩:ES).st [.tup []] a _ [.tuple #[]]:=hw.relx (.pure _ _ (.tup [] [] rfl (fun i v c hv=>by simp at hv)))
  exact ⟨.tuple #[],_,.tup [],_,by simp [execOp,ho,resolve,invoke,builtin,h6,hrun],Cv hK,hr1⟩
end Go.Proofs.YtkaiffheakalmaaGreatDoor
namespace Go.Proofs.YtkaiffheakalmaaGreatDoor
open Go.RowKit
structure Cmp (M A:List Int) (k m:Nat):Prop where
  len:A.length=M.length
  pos:1≤k
  le:k+1≤m
  top:m≤M.length
  asc:∀p q,p < q→q < k→CB A p < CB A q
  mem:∀z,(∃p,p < k∧CB A p=z)↔∃p,p < m∧CB M p=z
  last:CB A (k - 1)=CB M (m - 1)
  rest:∀p,m - 1≤p→CB A p=CB M p
section
variable {M A:List Int} {k m:Nat}
theorem Cmp.start (h1:1≤k) (hk:k < M.length) (ha:∀p q,p < q→q < k→CB M p < CB M q) (he:CB M k=CB M (k - 1)):Cmp M M k (k+1):=by
  refine ⟨rfl,h1,Nat.le_refl _,hk,ha,fun z=>⟨fun ⟨p,hp,e⟩=>⟨p,by omega,e⟩,fun ⟨p,hp,e⟩=>?_⟩,by rw [Nat.add_sub_cancel];exact he.symm,fun _ _=>rfl⟩
  by_cases e1:p=k
  . exact ⟨k - 1,by omega,by rw [←he,←e1];exact e⟩
  . exact ⟨p,by omega,e⟩
theorem Cmp.same (h:Cmp M A k m) (hm:m < M.length) (he:CB M m=CB M (m - 1)):Cmp M A k (m+1):=by
  have h1:=h.le
  refine ⟨h.len,h.pos,by omega,hm,h.asc,fun z=>(h.mem z).trans ⟨fun ⟨p,hp,e⟩=>⟨p,by omega,e⟩,fun ⟨p,hp,e⟩=>?_⟩,by rw [Nat.add_sub_cancel,he];exact h.last,fun p hp=>h.rest p (by omega)⟩
  by_cases e1:p=m
  . exact ⟨m - 1,by omega,by rw [←he,←e1];exact e⟩
  . exact ⟨p,by omega,e⟩
theorem Cmp.new (h:Cmp M A k m) (hs:∀p q,p < q→q < M.length→CB M p≤CB M q) (hm:m < M.length) (he:CB M m≠CB M (m - 1)):Cmp M (A.set k (CB M m)) (k+1) (m+1):=by
  have h1:=h.le
  have h2:=h.pos
  have h3:=h.len
  have hw:=OM (A:=A) (i:=k) (by omega) (CB M m)
  have hlt:CB M (m - 1) < CB M m:=by have:=hs (m - 1) m (by omega) hm;omega
  refine ⟨by rw [List.length_set];exact h3,by omega,by omega,hm,fun p q g1 g2=>?_,fun z=>?_,?_,fun p hp=>?_⟩
  . rw [hw,hw,if_neg (show ¬p=k by omega)]
    by_cases e:q=k
    . rw [if_pos e]
      by_cases e2:p=k - 1
      . rw [e2,h.last];exact hlt
      . have:=h.asc p (k - 1) (by omega) (by omega)
        rw [h.last] at this
        omega
    . rw [if_neg e];exact h.asc p q g1 (by omega)
  . constructor
    . rintro ⟨p,hp,e⟩
      rw [hw] at e
      by_cases e1:p=k
      . rw [if_pos e1] at e;exact ⟨m,by omega,e⟩
      . rw [if_neg e1] at e
        obtain ⟨q,hq,e2⟩:=(h.mem z).1 ⟨p,by omega,e⟩
        exact ⟨q,by omega,e2⟩
    . rintro ⟨p,hp,e⟩
      by_cases e1:p=m
      . exact ⟨k,by omega,by rw [hw,if_pos rfl,←e1];exact e⟩
      . obtain ⟨q,hq,e2⟩:=(h.mem z).2 ⟨p,by omega,e⟩
        exact ⟨q,by omega,by rw [hw,if_neg (by omega)];exact e2⟩
  . rw [Nat.add_sub_cancel,Nat.add_sub_cancel,hw,if_pos rfl]
  . rw [hw,if_neg (by omega)];exact h.rest p (by omega)
theorem Ln {L:List Int} (hk:k≤A.length) (ha:∀p q,p < q→q < k→CB A p < CB A q) (hm:∀z,(∃p,p < k∧CB A p=z)↔z∈L):A.take k=Bz L:=by
  have hg:∀p,p < k→(A.take k)[p]?=some (CB A p):=fun p hp=>by rw [List.getElem?_take,if_pos hp,FD (by omega)]
  refine XD (List.pairwise_iff_getElem.2 fun i j hi hj hij=>?_) (Nh L) fun z=>?_
  . rw [List.length_take] at hi hj
    have e1:=hg i (by omega)
    have e2:=hg j (by omega)
    rw [List.getElem?_eq_getElem (by rw [List.length_take];omega)] at e1 e2
    rw [Option.some.inj e1,Option.some.inj e2]
    exact ha i j hij (by omega)
  . rw [JM,←hm]
    constructor
    . intro h
      obtain ⟨p,hp⟩:=List.mem_iff_getElem?.1 h
      have hlt:=(List.getElem?_eq_some_iff.1 hp).1
      rw [List.length_take] at hlt
      rw [hg p (by omega)] at hp
      exact ⟨p,by omega,Option.some.inj hp⟩
    . rintro ⟨p,hp,rfl⟩
      exact List.mem_of_getElem? (hg p hp)
end
set_option maxHeartbeats 8000000 in
theorem Uo (L M:List Int) (hM:Rf L M) (h0:0 < L.length) (h12:L.length≤12):HFn Tryz.prog 54 [.sl 0 0 L.length] [.row 1 (M.map (V.int .i64))] [] (fun r o=>r=AY (Bz L)∧o=[.row 1 []]):=by
  have hl:=hM.len
  rw [←hl] at h0 h12 ⊢
  have hs:=hM.ord
  rw [←hl] at hs
  have hmem:∀z,(∃p,p < M.length∧CB M p=z)↔z∈L:=fun z=>by rw [←ON,hM.mem]
  clear hM hl
  have hMm:(M.map (V.int .i64)).length=M.length:=by simp
  have hend:(∀p q,p < q→q < M.length→CB M p < CB M q)→M=Bz L:=fun h=>by
    have:=Ln (Nat.le_refl _) h hmem
    rwa [List.take_length] at this
  refine HO (T:=Tryz.tt) Tryz.func54 rfl AR AB ?_ ?_ fun C vs hC hE=>?_
  . kernel_rfl
  . exact Nat.le_of_ble_eq_true (by kernel_rfl)
  conv=>whnf
  repeat' (first|(refine He (fun h=>?_) (fun h=>?_)<;>conv=>whnf)|(intro hlen;conv=>whnf))
  . refine Aq (BM 0 2 [] rfl (Cr M) rfl hMm.symm rfl (FT 1 (AP (BK hE ?_))))
    conv=>whnf
    have:=hend fun p q h1 h2=>by omega
    rw [←this]
    exact ⟨rfl,rfl,rfl,rfl⟩
  refine Ae (fun k:Nat=>⟨61,[(0,.sl 0 0 M.length),(3,.int .i64 k)],[some (.row 1 (M.map (V.int .i64))),some (.hid vs [.sl 0 0 M.length])]⟩)
    (fun k=>1≤k∧k≤M.length∧∀p q,p < q→q < k→CB M p < CB M q) (fun k=>M.length - k) 1 hE ?_ ?_ ⟨Nat.le_refl _,h0,fun p q h1 h2=>by omega⟩ ?_
  . kernel_rfl
  . refine AU [0,3] ?_
    conv=>whnf
    try rfl
  rintro k0 ⟨hk1,hk,hasc⟩
  by_cases hlt:k0 < M.length
  . have g1:=KM (A:=M) hlt
    have g2:=Pz (A:=M) hk1 hlt
    by_cases he:CB M k0=CB M (k0 - 1)
    . conv=>whnf
      repeat' (first|(refine AN (by first|assumption|omega) ?_;conv=>whnf)|(refine Af (by first|assumption|omega) ?_;conv=>whnf)|(refine AS (by omega) ?_;conv=>whnf)|(refine AQ (by assumption) ?_;conv=>whnf)|(refine BW hE ?_ ?_;decide +kernel;conv=>whnf)|(intro hlen;conv=>whnf))
      refine Ae (fun ((k,j,A):Nat×Nat×List Int)=>⟨61,[(0,.sl 0 0 M.length),(3,.int .i64 k),(4,.sl 0 k0 (M.length - k0)),(5,.int .i64 j)],[some (.row 1 (A.map (V.int .i64))),some (.hid vs [.sl 0 0 M.length])]⟩)
        (fun (k,j,A)=>1≤j∧k0+j≤M.length∧Cmp M A k (k0+j)) (fun (_,j,_)=>M.length - j) (k0,1,M) hE ?_ ?_ ⟨Nat.le_refl _,hlt,Cmp.start hk1 hlt hasc he⟩ ?_
      . kernel_rfl
      . refine AU [0,3,4,5] ?_
        conv=>whnf
        rw [Nat.zero_add,Int.toNat_natCast]
        try rfl
      rintro ⟨k,j,A⟩ ⟨hj1,hj,hC0⟩
      have hAl:=hC0.len
      have hle:=hC0.le
      have hAm:(A.map (V.int .i64)).length=A.length:=by simp
      by_cases hjt:k0+j < M.length
      . have g1:(A.map (V.int .i64))[k0+Int.toNat (j:Int)]?=some (.int .i64 (CB M (k0+j))):=by
          rw [Int.toNat_natCast,List.getElem?_map,FD (by omega),hC0.rest _ (by omega)];rfl
        have g2:(A.map (V.int .i64))[k0+Int.toNat ((j:Int) - 1)]?=some (.int .i64 (CB M (k0+j - 1))):=by
          rw [show Int.toNat ((j:Int) - 1)=j - 1 by omega,show k0+(j - 1)=k0+j - 1 by omega,List.getElem?_map,FD (by omega),hC0.rest _ (by omega)];rfl
        have g3:(A.map (V.int .i64))[0+Int.toNat (k:Int)]?=some (.int .i64 (CB A k)):=KM (by omega)
        by_cases he2:CB M (k0+j)=CB M (k0+j - 1)
        . conv=>whnf
          repeat' (first|(refine AN (by first|assumption|omega) ?_;conv=>whnf)|(refine Af (by first|assumption|omega) ?_;conv=>whnf)|(refine AS (by omega) ?_;conv=>whnf)|(refine AQ (by assumption) ?_;conv=>whnf)|(refine BW hE ?_ ?_;decide +kernel;conv=>whnf)|(intro hlen;conv=>whnf))
          refine AJ [0,3,4,5] (k,j+1,A) ⟨by omega,by omega,hC0.same hjt he2⟩ (by show M.length - (j+1) < M.length - j;omega) ?_
          conv=>whnf
          try rfl
        . conv=>whnf
          repeat' (first|(refine AN (by first|assumption|omega) ?_;conv=>whnf)|(refine AM (by first|assumption|omega) ?_;conv=>whnf)|(refine Af (by first|assumption|omega) ?_;conv=>whnf)|(refine AS (by omega) ?_;conv=>whnf)|(refine AQ (by assumption) ?_;conv=>whnf)|(refine BW hE ?_ ?_;decide +kernel;conv=>whnf)|(intro hlen;conv=>whnf))
          refine AJ [0,3,4,5] (k+1,j+1,A.set k (CB M (k0+j))) ⟨by omega,by omega,hC0.new hs hjt he2⟩ (by show M.length - (j+1) < M.length - j;omega) ?_
          conv=>whnf
          rw [Nat.zero_add,Int.toNat_natCast]
          show _=(⟨61,_,[some (.row 1 ((A.set k (CB M (k0+j))).map (V.int .i64))),_]⟩:ES)
          rw [List.map_set]
          rfl
      . have hm:k0+j=M.length:=by omega
        have hD:A.take k=Bz L:=Ln (by omega) hC0.asc fun z=>by rw [hC0.mem,hm];exact hmem z
        have hDl:(Bz L).length=k:=by rw [←hD,List.length_take];omega
        obtain ⟨i0,hi1,hi2,hi3,_⟩:=info_parts Td
        have hz1:∀u∈(Value.int .i64 0).cells.toList,u.oneCell'=true:=Tc
        have hcm:0+Int.toNat (k:Int)≤(A.map (V.int .i64)).length:=by rw [hAm];omega
        conv=>whnf
        repeat' (first|(refine AM (by first|assumption|omega) ?_;conv=>whnf)|(refine Af (by first|assumption|omega) ?_;conv=>whnf)|(refine Un hC Tryz.underlying22 hi1 hi2 rfl hz1 0 _ _ rfl rfl hcm ?_ ?_;omega;conv=>whnf)|(intro hlen;conv=>whnf))
        have e1:(A.map (V.int .i64)).take (0+Int.toNat (k:Int))=(Bz L).map (V.int .i64):=by rw [Nat.zero_add,Int.toNat_natCast,←hD,List.map_take]
        have e2:Int.toNat (k:Int)=((Bz L).map (V.int .i64)).length:=by rw [List.length_map,hDl,Int.toNat_natCast]
        rw [e1]
        refine Aq (BM 0 2 [] rfl (Cr (Bz L)) rfl e2 rfl (FT 1 (AP (BK hE ?_))))
        conv=>whnf
        exact ⟨rfl,rfl,rfl,rfl⟩
    . conv=>whnf
      repeat' (first|(refine AN (by first|assumption|omega) ?_;conv=>whnf)|(refine AM (by first|assumption|omega) ?_;conv=>whnf)|(refine Af (by first|assumption|omega) ?_;conv=>whnf)|(refine AS (by omega) ?_;conv=>whnf)|(refine AQ (by assumption) ?_;conv=>whnf)|(refine BW hE ?_ ?_;decide +kernel;conv=>whnf)|(intro hlen;conv=>whnf))
      refine AJ [0,3] (k0+1) ⟨by omega,hlt,fun p q h1 h2=>?_⟩ (by show M.length - (k0+1) < M.length - k0;omega) ?_
      . by_cases e:q=k0
        . subst e
          have hx:CB M (q - 1) < CB M q:=by have:=hs (q - 1) q (by omega) hlt;omega
          by_cases e2:p=q - 1
          . rw [e2];exact hx
          . have:=hasc p (q - 1) (by omega) (by omega);omega
        . exact hasc p q h1 (by omega)
      conv=>whnf
      try rfl
  . obtain rfl:k0=M.length:=by omega
    conv=>whnf
    repeat' (first|(refine AM (by first|assumption|omega) ?_;conv=>whnf)|(intro hlen;conv=>whnf))
    refine Aq (BM 0 2 [] rfl (Cr M) rfl hMm.symm rfl (FT 1 (AP (BK hE ?_))))
    conv=>whnf
    have:=hend hasc
    rw [←this]
    exact ⟨rfl,rfl,rfl,rfl⟩
theorem Js:Fn1 Tryz.prog 54 [.lst []] (fun r=>r= .lst []):=by
  have h2:((([]:List V).length:Nat):Int) < 2:=by decide
  refine A4 (T:=Tryz.tt) Tryz.func54 rfl AR AB ?_ ?_ fun C hC hE=>?_
  . kernel_rfl
  . exact Nat.le_of_ble_eq_true (by kernel_rfl)
  conv=>whnf
  repeat' (first|(refine AN (by first|assumption|omega) ?_;conv=>whnf)|(refine AH hE ?_;conv=>whnf)|(intro hlen;conv=>whnf))
  exact ⟨rfl,rfl⟩
end Go.Proofs.YtkaiffheakalmaaGreatDoor
