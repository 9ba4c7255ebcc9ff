/- Joined. No conditions. -/
import Derived.Test.YtkaiffheakalmaaGreatDoorJ9aw
import Derived.Shelf.Strconv.Itoa3
import Derived.Lib.ItoaLen
import Derived.Lib.AppendIntMem
set_option linter.unusedSimpArgs false
set_option linter.unusedVariables false
set_option maxRecDepth 100000
namespace Go.Proofs.YtkaiffheakalmaaGreatDoor
section
open Go.RowKit
theorem VQ {v:Value} (h:v= .slice none 0 0):v.ownBlock=none:=by subst h;rfl
theorem jv (s t:List UInt8) (hlen:s.length+t.length≤140737488355328):HFn Tryz.prog 80 [.ptr 0 0 0,.str t] [.bld 138 (some (1,s.length)),.buf 5 s] [0]
 (fun r o=>r= .tup [.int .i64 t.length,.any]∧o=[.bld 138 (some (1,(s++t).length)),.buf 5 (s++t)]):=by
 intro w I bl vs hl hvs hH
 match vs,hl with
 | [v0,v1],_=>
   obtain ⟨b,base,z,n,e,hbl,hsh,rfl⟩:=(hvs 0 v0 _ rfl rfl).inv_ptr
   obtain ⟨t',rfl,rfl,_⟩:=(hvs 1 v1 _ rfl rfl).inv_str
   obtain ⟨b',p,v,h0,hb,hp,hone,hr⟩:=hH.obj 0 _ rfl
   rw [h0] at hbl
   simp only [Option.some.injEq,BI.mk.injEq] at hbl
   obtain ⟨rfl,rfl,rfl⟩:=hbl
   obtain ⟨hv,g0,h1,hg0,hnil⟩:=Y5 hr (hH.obj 1 _ rfl)
   have hg:∀k,v.ownBlock=some k→g0=some k:=by
    intro k hk
    by_cases hs:s=[]
    ·rw [VQ (hnil hs)] at hk;cases hk
    ·rw [hg0 hs];exact hk
   refine (ew b' p v s t' w hb hp hv (by simpa using hlen)).mono ?_
   rintro e w' ⟨rfl,v',hb',hv',hf⟩
   obtain ⟨r1,r2,r3⟩:=eu (I:=I) (bl:=GQ bl 1 ⟨v'.ownBlock,0,1⟩) hv' (AT _ _ _)
   refine ⟨.tuple #[.int .i64 t'.size,.nilIface],_,_,I,GQ bl 1 ⟨v'.ownBlock,0,1⟩,rfl,⟨rfl,rfl⟩,rfl,.pure _ _ (Pr.tup [.int .i64 t'.size,.nilIface] _ rfl ?_),d6 hH h0 h1 hf.os hf.tape hf.output hf.size (fun k hk h2 h3=>hf.block k hk h2 (fun e=>h3 (hg k e))) hf.shape (fun g hg'=>(hf.own g hg').imp (hg g) id) ⟨b',_,v',by rw [Aa (by decide)];exact h0,hb',.inr rfl,r3,?_⟩ r2,fun j hj=>?_⟩
   ·intro i u c hu hc
    match i,hu,hc with
    | 0,hu,hc=>
      simp at hu hc
      subst hu;subst hc
      exact .int _ _
    | 1,hu,hc=>
      simp at hu hc
      subst hu;subst hc
      exact .any _
    | n+2,hu,hc=>simp at hu
   ·exact r1
   ·simp at hj
    subst hj
    exact Aa (by decide)
theorem iN (s:List UInt8):HFn Tryz.prog 82 [.ptr 0 0 0] [.bld 138 (some (1,s.length)),.buf 5 s] [0]
 (fun r o=>r= .str s∧o=[.bld 138 none,.buf 5 []]):=by
 intro w I bl vs hl hvs hH
 match vs,hl with
 | [v0],_=>
   obtain ⟨b,base,z,n,e,hbl,hsh,rfl⟩:=(hvs 0 v0 _ rfl rfl).inv_ptr
   obtain ⟨b',p,v,h0,hb,hp,hone,hr⟩:=hH.obj 0 _ rfl
   rw [h0] at hbl
   simp only [Option.some.injEq,BI.mk.injEq] at hbl
   obtain ⟨rfl,rfl,rfl⟩:=hbl
   obtain ⟨hv,g0,h1,hg0,hnil⟩:=Y5 hr (hH.obj 1 _ rfl)
   have hg:∀k,v.ownBlock=some k→g0=some k:=by
    intro k hk
    by_cases hs:s=[]
    ·rw [VQ (hnil hs)] at hk;cases hk
    ·rw [hg0 hs];exact hk
   have hmax:s.length≤maxLen:=by
    rcases hv with ⟨_,rfl⟩|⟨g,cap,cur,_,_,_,h1,h2,_⟩
    ·exact Nat.zero_le _
    ·exact Nat.le_trans h1 h2
   refine (cP b' p v s w hb hv).mono ?_
   rintro e w' ⟨rfl,hf,hbb⟩
   refine ⟨.string ⟨s.toArray⟩,_,_,I,GQ bl 1 ⟨none,0,1⟩,rfl,⟨rfl,rfl⟩,rfl,.pure _ _ ?_,d6 hH h0 h1 hf.os hf.tape hf.output hf.size (fun k hk h2 h3=>hf.block k hk h2 (fun e=>h3 (hg k e))) hf.shape (fun g hg'=>by cases hg') ⟨b',p,v,by rw [Aa (by decide)];exact h0,hbb.trans hb,hp,hone,.pure _ _ (.any _)⟩ ⟨none,AT _ _ _,rfl⟩,fun j hj=>?_⟩
   ·have:=Pr.str (w:=w') (I:=I) ⟨s.toArray⟩ (by simpa [ByteArray.size] using hmax)
    simpa using this
   ·simp at hj
    subst hj
    exact Aa (by decide)
theorem RP.adoptB {C:Ctx} {σ:St} {a:Act} {w:World} {I:Nat→Prop} {bl:Nat→Option BI} (hp:RP C σ a w I bl) {p:Nat} {T:TypeId} {q0:Nat} (U:TypeId) (ho:σ.heap[p]?=some (some (.bld T (some (q0,0))))):
 RP C { σ with heap:=Ag (σ.heap.set p (some (.bld T (some (AG σ.heap,0))))) (.buf U [])} a w I (GQ bl (AG σ.heap) ⟨none,0,1⟩):=by
 have hpl:p < σ.heap.length:=(List.getElem?_eq_some_iff.1 ho).1
 have fr:∀(l l':List (Option Ob)),l.length=l'.length→(∀i:Nat,((l[i]?).bind fun x=>x).isSome=((l'[i]?).bind fun x=>x).isSome)→AG l=AG l':=by
  intro l
  induction l with
  | nil=>
    intro l' h _
    cases l' with
    | nil=>rfl
    | cons _ _=>simp at h
  | cons x l ih=>
    intro l' h hh
    cases l' with
    | nil=>simp at h
    | cons y l'=>
      have h0:=hh 0
      have hr:=ih l' (by simpa using h) (fun i=>by simpa using hh (i+1))
      cases x<;>cases y<;>simp at h0
      ·rfl
      ·simp only [AG,hr]
 have hfr:AG (σ.heap.set p (some (.bld T (some (AG σ.heap,0)))))=AG σ.heap:=by
  refine fr _ _ (by simp) fun i=>?_
  by_cases e:i=p
  ·subst e;rw [List.getElem?_set_self hpl,ho];rfl
  ·rw [List.getElem?_set_ne (Ne.symm e)]
 have hne:p≠AG σ.heap:=fun e=>IP σ.heap _ (e▸ho)
 generalize hq:AG σ.heap=q at*
 have hb:∀k i,bl k=some i→GQ bl q ⟨none,0,1⟩ k=some i:=fun k i h=>by rw [Aa (hq▸hp.live_ne h)];exact h
 have hat:(Ag (σ.heap.set p (some (.bld T (some (q,0))))) (.buf U []))[q]?=some (some (.buf U [])):=by
  have:=B9 (σ.heap.set p (some (.bld T (some (q,0))))) (.buf U [])
  rwa [hfr] at this
 have hoth:∀id,id≠q→(Ag (σ.heap.set p (some (.bld T (some (q,0))))) (.buf U []))[id]?=(σ.heap.set p (some (.bld T (some (q,0)))))[id]?:=fun id h=>Be _ _ _ (by rw [hfr];exact h)
 refine ⟨hp.defers,hp.env.later (Later.refl _ _) (fun _ h=>h) hb,⟨?_,?_,?_,?_,hp.heap.imm,hp.heap.kept⟩⟩
 ·intro id o hoo
  have hoo:(Ag (σ.heap.set p (some (.bld T (some (q,0))))) (.buf U []))[id]?=some (some o):=hoo
  by_cases hid:id=q
  ·subst hid
   rw [hat] at hoo
   simp only [Option.some.injEq] at hoo
   subst hoo
   exact ⟨none,AT _ _ _,rfl⟩
  ·rw [hoth id hid] at hoo
   have old:∀o',σ.heap[id]?=some (some o')→ObRep w I (GQ bl q ⟨none,0,1⟩) id o':=fun o' h=>(hp.heap.obj id o' h).later (Later.refl _ _) (fun _ h=>h) hb (fun _ _ _ _=>rfl) (fun h=>by rw [Aa hid];exact h)
   by_cases e:id=p
   ·subst e
    rw [List.getElem?_set_self hpl] at hoo
    simp only [Option.some.injEq] at hoo
    subst hoo
    have h9:ObRep w I (GQ bl q ⟨none,0,1⟩) id (.bld T (some (q0,0))):=old _ ho
    exact h9
   ·rw [List.getElem?_set_ne (Ne.symm e)] at hoo
    exact old o hoo
 ·intro id i h
  show ∃o,(Ag (σ.heap.set p (some (.bld T (some (q,0))))) (.buf U []))[id]?=some (some o)
  by_cases hid:id=q
  ·subst hid;exact ⟨_,hat⟩
  ·rw [Aa hid] at h
   obtain ⟨o,hoo⟩:=hp.heap.live id i h
   rw [hoth id hid]
   by_cases e:id=p
   ·subst e;rw [List.getElem?_set_self hpl];exact ⟨_,rfl⟩
   ·rw [List.getElem?_set_ne (Ne.symm e)];exact ⟨o,hoo⟩
 ·intro id id' i i' b h1 h2 h3 h4
  by_cases hid:id=q
  ·subst hid
   rw [AT] at h1
   simp only [Option.some.injEq] at h1
   subst h1
   cases h3
  ·rw [Aa hid] at h1
   by_cases hid':id'=q
   ·subst hid'
    rw [AT] at h2
    simp only [Option.some.injEq] at h2
    subst h2
    cases h4
   ·rw [Aa hid'] at h2
    exact hp.heap.apart id id' i i' b h1 h2 h3 h4
 ·intro id i b h1 h2
  by_cases hid:id=q
  ·subst hid
   rw [AT] at h1
   simp only [Option.some.injEq] at h1
   subst h1
   cases h2
  ·rw [Aa hid] at h1
   exact hp.heap.own id i b h1 h2
theorem ey {C:Ctx} {K:ES→Prop} (p:Nat) (U:TypeId) {n:Nat} {T:TypeId} {q0:Nat} {u:List (Nat×V)} {h:List (Option Ob)} (ho:h[p]?=some (some (.bld T (some (q0,0)))))
 (hk:UpE C K ⟨n,u,Ag (h.set p (some (.bld T (some (AG h,0))))) (.buf U [])⟩):UpE C K ⟨n,u,h⟩:=by
 refine ⟨BS (fun a w hr=>?_) hk.out⟩
 obtain ⟨I,bl,hp⟩:=hr.parts
 exact (hp.adoptB (p:=p) U ho).rel
section
variable {C:Ctx} {fop:Operand} {args:List Operand} {xs:List V} {K:V→ES→Prop} {σ:ES}
def e5 (p q j:Nat):Nat:=match j with|0=>p|_=>q
theorem RZ {f:FuncId} {xs0 xs1:List V} {s s':List UInt8} {y:Option (Nat×Nat)} {R0:V} (hC:C.P=Tryz.prog) (hb:AB Tryz.prog f=true) (p q:Nat) (hpq:p≠q)
 (h:HFn Tryz.prog f (.ptr 0 0 0::xs0) [.bld 138 (some (1,s.length)),.buf 5 s] [0] (fun r o=>r=R0∧o=[.bld 138 y,.buf 5 s']))
 (he:BO σ fop args=some (f,.ptr p 0 0::xs1)) (hx:Fj 2 (e5 p q) xs0 xs1) (hR:B7 2 (e5 p q) R0 R0) (hy:y=none∨∃n,y=some (1,n))
 (hp:σ.heap[p]?=some (some (.bld 138 (some (q,s.length))))) (hq:σ.heap[q]?=some (some (.buf 5 s)))
 (hK:Fv q σ.u fun u=>fH (((BC q σ.heap).set p (some (.bld 138 (y.map fun y=>(q,y.2))))).set q (some (.buf 5 s'))) fun h=>K R0 ⟨σ.n,u,h⟩):CallN C fop args f (.ptr p 0 0::xs1) K σ:=by
 rw [E7,A7] at hK
 have yv:∀n,B7 2 (e5 p q) (yV (some (1,n))) (yV (some (q,n))):=by
  intro n
  cases n with
  | zero=>simp [yV,B7]
  | succ n=>simp [yV,B7,e5]
 refine Fy h hC hb he (e5 p q) ?_ ?_ ?_ [q] ?_ ?_ ?_
 ·intro i j hi hj e
  match i,j,hi,hj with
  | 0,0,_,_=>rfl
  | 1,1,_,_=>rfl
  | 0,1,_,_=>exact absurd e hpq
  | 1,0,_,_=>exact absurd e.symm hpq
  | n+2,_,hi,_=>simp at hi;omega
  | _,n+2,_,hj=>simp at hj;omega
 ·simp only [Fj]
  exact ⟨.ptr p 0 0,xs1,rfl,by simp [B7,e5],hx⟩
 ·intro j o ho
  match j,ho with
  | 0,ho=>
    simp at ho
    subst ho
    exact ⟨_,hp,_,rfl,yv _⟩
  | 1,ho=>
    simp at ho
    subst ho
    exact ⟨_,hq,rfl⟩
  | n+2,ho=>simp at ho
 ·intro j hj hn
  match j,hj with
  | 0,_=>simp
  | 1,_=>exact absurd (by simp [e5]) hn
  | n+2,hj=>simp at hj;omega
 ·intro id hid
  simp at hid
  exact ⟨1,by simp,hid.symm⟩
 ·rintro r0 objs' ⟨rfl,rfl⟩ _
  refine ⟨r0,[.bld 138 (y.map fun y=>(q,y.2)),.buf 5 s'],hR,rfl,?_,?_⟩
  rotate_left
  ·exact hK
  intro j o o' ho ho'
  match j,ho,ho' with
  | 0,ho,ho'=>
    simp at ho ho'
    subst ho;subst ho'
    refine ⟨_,rfl,?_⟩
    rcases hy with rfl|⟨n,rfl⟩
    ·simp [yV,B7]
    ·exact yv n
  | 1,ho,ho'=>
    simp at ho ho'
    subst ho;subst ho'
    rfl
  | n+2,ho,_=>simp at ho
theorem cQ (hC:C.P=Tryz.prog) (p q:Nat) (hpq:p≠q) {s t:List UInt8} (hlen:s.length+t.length≤140737488355328) (he:BO σ fop args=some (80,[.ptr p 0 0,.str t]))
 (hp:σ.heap[p]?=some (some (.bld 138 (some (q,s.length))))) (hq:σ.heap[q]?=some (some (.buf 5 s)))
 (hK:Fv q σ.u fun u=>fH (((BC q σ.heap).set p (some (.bld 138 (some (q,(s++t).length))))).set q (some (.buf 5 (s++t)))) fun h=>K (.tup [.int .i64 t.length,.any]) ⟨σ.n,u,h⟩):CallN C fop args 80 [.ptr p 0 0,.str t] K σ:=
 RZ hC (by kernel_rfl) p q hpq (jv s t hlen) he (by simp [Fj,B7]) (by simp [Fj,B7]) (.inr ⟨_,rfl⟩) hp hq hK
theorem Y7 (hC:C.P=Tryz.prog) (p q:Nat) (hpq:p≠q) {s:List UInt8} (he:BO σ fop args=some (82,[.ptr p 0 0]))
 (hp:σ.heap[p]?=some (some (.bld 138 (some (q,s.length))))) (hq:σ.heap[q]?=some (some (.buf 5 s)))
 (hK:Fv q σ.u fun u=>fH (((BC q σ.heap).set p (some (.bld 138 none))).set q (some (.buf 5 []))) fun h=>K (.str s) ⟨σ.n,u,h⟩):CallN C fop args 82 [.ptr p 0 0] K σ:=
 RZ hC (by kernel_rfl) p q hpq (iN s) he (by simp [Fj]) (by simp [B7]) (.inl rfl) hp hq hK
end
end
section
open Go.RowKit Go.Shelf
def cS:Ren:={
 f:=fun x=>match x with|171=>81|243=>97|246=>116|283=>125|284=>126|285=>127|286=>128|129=>114|317=>130|318=>131|319=>132|320=>133|337=>134|338=>135|n=>n
 t:=fun x=>match x with|3=>3|9=>9|2=>2|4=>4|171=>187|0=>0|53=>162|37=>136|5=>5|173=>189|212=>195|51=>159|20=>20|213=>196|46=>146|232=>197|233=>198|n=>n
 g:=fun x=>match x with|17=>1|18=>2|19=>3|n=>n}
theorem ZB:LaysM.n171 Tryz.prog cS:={
 mixed:=by kernel_rfl
 f129:=Tryz.func114.trans (congrArg some (by kernel_rfl))
 f171:=Tryz.func81.trans (congrArg some (by kernel_rfl))
 f243:=Tryz.func97.trans (congrArg some (by kernel_rfl))
 f246:=Tryz.func116.trans (congrArg some (by kernel_rfl))
 f283:=Tryz.func125.trans (congrArg some (by kernel_rfl))
 f284:=Tryz.func126.trans (congrArg some (by kernel_rfl))
 f285:=Tryz.func127.trans (congrArg some (by kernel_rfl))
 f286:=Tryz.func128.trans (congrArg some (by kernel_rfl))
 f317:=Tryz.func130.trans (congrArg some (by kernel_rfl))
 f318:=Tryz.func131.trans (congrArg some (by kernel_rfl))
 f319:=Tryz.func132.trans (congrArg some (by kernel_rfl))
 f320:=Tryz.func133.trans (congrArg some (by kernel_rfl))
 f337:=Tryz.func134.trans (congrArg some (by kernel_rfl))
 f338:=Tryz.func135.trans (congrArg some (by kernel_rfl))
 t0:=Tryz.underlying0
 a0:=Tryz.isAgg0
 z0:=Tryz.sizeOf0
 v0:=Tryz.zeroValue0
 t2:=Tryz.underlying2
 a2:=Tryz.isAgg2
 z2:=Tryz.sizeOf2
 v2:=Tryz.zeroValue2
 t3:=Tryz.underlying3
 a3:=Tryz.isAgg3
 z3:=Tryz.sizeOf3
 v3:=Tryz.zeroValue3
 t4:=Tryz.underlying4
 a4:=Tryz.isAgg4
 z4:=Tryz.sizeOf4
 v4:=Tryz.zeroValue4
 t5:=Tryz.underlying5
 a5:=Tryz.isAgg5
 z5:=Tryz.sizeOf5
 v5:=Tryz.zeroValue5
 t9:=Tryz.underlying9
 a9:=Tryz.isAgg9
 z9:=Tryz.sizeOf9
 v9:=Tryz.zeroValue9
 t20:=Tryz.underlying20
 a20:=Tryz.isAgg20
 z20:=Tryz.sizeOf20
 v20:=Tryz.zeroValue20
 t37:=Tryz.underlying136
 a37:=Tryz.isAgg136
 z37:=Tryz.sizeOf136
 v37:=Tryz.zeroValue136
 t46:=Tryz.underlying146
 a46:=Tryz.isAgg146
 z46:=Tryz.sizeOf146
 v46:=Tryz.zeroValue146
 t51:=Tryz.underlying159
 a51:=Tryz.isAgg159
 z51:=Tryz.sizeOf159
 v51:=Tryz.zeroValue159
 t53:=Tryz.underlying162
 a53:=Tryz.isAgg162
 z53:=Tryz.sizeOf162
 v53:=Tryz.zeroValue162
 t171:=Tryz.underlying187
 a171:=Tryz.isAgg187
 z171:=Tryz.sizeOf187
 v171:=Tryz.zeroValue187
 t173:=Tryz.underlying189
 a173:=Tryz.isAgg189
 z173:=Tryz.sizeOf189
 v173:=Tryz.zeroValue189
 t212:=Tryz.underlying195
 a212:=Tryz.isAgg195
 z212:=Tryz.sizeOf195
 v212:=Tryz.zeroValue195
 t213:=Tryz.underlying196
 a213:=Tryz.isAgg196
 z213:=Tryz.sizeOf196
 t232:=Tryz.underlying197
 a232:=Tryz.isAgg197
 z232:=Tryz.sizeOf197
 v232:=Tryz.zeroValue197
 t233:=Tryz.underlying198
 a233:=Tryz.isAgg198
 z233:=Tryz.sizeOf198
 v233:=Tryz.zeroValue198
 g17:=by kernel_rfl
 g18:=by kernel_rfl
 g19:=by kernel_rfl
 i0:=by kernel_rfl
 i2:=by kernel_rfl
 i3:=by kernel_rfl
 i4:=by kernel_rfl
 i5:=by kernel_rfl
 i9:=by kernel_rfl
 i20:=by kernel_rfl
 i37:=by kernel_rfl
 i46:=by kernel_rfl
 i51:=by kernel_rfl
 i53:=by kernel_rfl
 i171:=by kernel_rfl
 i173:=by kernel_rfl
 i212:=by kernel_rfl
 i232:=by kernel_rfl
 i233:=by kernel_rfl
 m17:=by kernel_rfl
 m18:=by kernel_rfl
 m19:=by kernel_rfl}
def GT (w : World) : Prop := Lib.TabIs Tryz.prog w "internal/strconv.uint64pow10" .u64 Lib.pow10Tab
theorem CD:YI GT:=fun w w' hk h=>by
 unfold GT Lib.TabIs World.var? at*
 cases hg : Tryz.prog.globalNamed "internal/strconv.uint64pow10" with
 | none=>simp [hg] at h
 | some g=>
   simp only [hg,Option.bind_some] at h ⊢
   have hlt:g < w.heap.size:=by
    rcases Nat.lt_or_ge g w.heap.size with h'|h'
    ·exact h'
    ·rw [Array.getElem?_eq_none h'] at h;simp at h
   rw [hk.block g hlt (fun h=>h)]
   exact h
theorem Wi (n:Int) (h0:-9223372036854775808≤n) (h1:n≤9223372036854775807):Fn1G Tryz.prog GT 81 [.int .i64 n] (fun r=>r= .str (Lib.itoa n)):=by
 intro w I vs hG hl hv hI
 obtain ⟨v0,rfl⟩:∃v0,vs=[v0]:=by
  match vs,hl with
  | [a],_=>exact ⟨a,rfl⟩
 have e0:v0= .int .i64 n:=(Rep.pure (bl:=fun _=>none) _ _ (hv 0 v0 _ rfl rfl)).inv_int
 subst e0
 have hlen:=Lib.itoa_length_le n h0 h1
 refine VY hI (by omega) ((Any.strconv_Itoa ZB n h0 h1 w hG).mono ?_)
 rintro e w' ⟨rfl,k,os,rfl⟩
 exact ⟨rfl,Lib.below_grow _ _ (Nat.le_refl _) k os⟩
def HW (l:List Int):List UInt8:=l.flatMap fun n=>Lib.itoa n++[32]
def Wj (l:List UInt8):Nat:=l.foldl (fun a d=>a*10+(d.toNat - 48)) 0
theorem Rc (u:Nat):Wj (Lib.decDigits u)=u:=by
 induction u using Nat.strongRecOn with
 | _ u ih=>
   rw [Lib.decDigits]
   split
   ·rename_i h
    simp only [Wj,List.foldl_cons,List.foldl_nil,UInt8.toNat_ofNat']
    omega
   ·rename_i h
    have:=ih (u / 10) (by omega)
    unfold Wj at this ⊢
    rw [List.foldl_append,this]
    simp only [List.foldl_cons,List.foldl_nil,UInt8.toNat_ofNat']
    omega
theorem KI (u:Nat):∀c∈Lib.decDigits u,48≤c.toNat∧c.toNat≤57:=by
 induction u using Nat.strongRecOn with
 | _ u ih=>
   rw [Lib.decDigits]
   split
   ·rename_i h
    intro c hc
    simp only [List.mem_singleton] at hc
    subst hc
    rw [UInt8.toNat_ofNat']
    omega
   ·rename_i h
    intro c hc
    rcases List.mem_append.1 hc with hc|hc
    ·exact ih (u / 10) (by omega) c hc
    ·simp only [List.mem_singleton] at hc
     subst hc
     rw [UInt8.toNat_ofNat']
     omega
theorem Tb (n:Int):∀c∈Lib.itoa n,45≤c.toNat:=by
 intro c hc
 unfold Lib.itoa at hc
 split at hc
 ·rcases List.mem_cons.1 hc with rfl|hc
  ·decide
  ·have:=KI _ c hc;omega
 ·have:=KI _ c hc;omega
def ZC (l:List UInt8):Int:=match l with
 | []=>0
 | c::r=>if c=45 then -(Wj r:Int) else Wj (c::r)
theorem Oi (n:Int):ZC (Lib.itoa n)=n:=by
 unfold Lib.itoa
 split
 ·simp only [ZC,if_true,Rc]
  omega
 ·have h1:=KI n.toNat
  have h2:=Rc n.toNat
  cases h:Lib.decDigits n.toNat with
  | nil=>rw [h] at h2;simp only [ZC];simp [Wj] at h2;omega
  | cons c r=>
    rw [h] at h1 h2
    have hc:=h1 c (by simp)
    have:c≠45:=fun e=>by subst e;simp at hc
    simp only [ZC,if_neg this,h2]
    omega
theorem cT {a b x y:List UInt8} (ha:(32:UInt8)∉a) (hb:(32:UInt8)∉b) (h:a++32::x=b++32::y):a=b∧x=y:=by
 induction a generalizing b with
 | nil=>
   cases b with
   | nil=>simp at h;exact ⟨rfl,h⟩
   | cons c b=>simp at h;exact absurd (by simp [h.1]) hb
 | cons d a ih=>
   cases b with
   | nil=>simp at h;exact absurd (by simp [h.1]) ha
   | cons c b=>
     simp only [List.cons_append,List.cons.injEq] at h
     obtain ⟨rfl,h⟩:=h
     obtain ⟨e1,e2⟩:=ih (fun m=>ha (by simp [m])) (fun m=>hb (by simp [m])) h
     exact ⟨by rw [e1],e2⟩
theorem Rd (n:Int):(32:UInt8)∉Lib.itoa n:=fun h=>by
 have:=Tb n 32 h
 simp at this
theorem JQ:∀{l m:List Int},HW l=HW m→l=m
 | [],[],_=>rfl
 | [],n::m,h=>by simp [HW] at h
 | n::l,[],h=>by simp [HW] at h
 | n::l,k::m,h=>by
   simp only [HW,List.flatMap_cons,List.append_assoc,List.cons_append,List.nil_append] at h
   obtain ⟨e1,e2⟩:=cT (Rd n) (Rd k) h
   have:=congrArg ZC e1
   rw [Oi,Oi] at this
   rw [this,JQ e2]
def JR (l:List Int):Value:=.string ⟨(HW l).toArray⟩
def Wk (l:List Int):V:=.str (HW l)
theorem key_ok:KeyOk Tryz.prog 106 JR Wk where
 map:=⟨9,3,by kernel_rfl,fun w=>Tryz.zeroValue3 w,fun e a w=>MapKept.run_checkKey (d:=.string) (k:=JR a) (by kernel_rfl) (show MapKept.IsKey .string (JR a) from trivial) e 9999,fun a w L es h=>Hc (d:=.string) (by kernel_rfl) (fun a b=>by
  simp only [JR,Instr.sameNow]
  congr 1
  rw [Bool.eq_iff_iff,MapKept.bytes_beq]
  simp only [decide_eq_true_eq]
  constructor
  ·intro e
   have:=congrArg (fun x:ByteArray=>x.data.toList) e
   exact JQ (by simpa using this)
  ·rintro rfl;rfl) a w L es h⟩
 rep:=fun w I bl v a h=>by
  obtain ⟨t,rfl,ht,_⟩:=h.inv_str
  unfold JR
  rw [←ht]
theorem Mb (l:List Int) (h:∀x∈l,-9223372036854775808≤x∧x≤9223372036854775807):(HW l).length≤22*l.length:=by
 induction l with
 | nil=>simp [HW]
 | cons n l ih=>
   have h1:=ih (fun x hx=>h x (by simp [hx]))
   have h2:=Lib.itoa_length_le n (h n (by simp)).1 (h n (by simp)).2
   simp only [HW,List.flatMap_cons,List.length_append,List.length_cons,List.length_nil] at h1 ⊢
   omega
set_option maxHeartbeats 8000000 in
theorem Re (l:List Int) (hl:l.length≤1000) (h:∀x∈l,-9223372036854775808≤x∧x≤9223372036854775807):Fn1G Tryz.prog GT 57 [AL l] (fun r=>r= .str (HW l)):=by
 have hlm:(l.map (V.int .i64)).length=l.length:=by simp
 unfold AL
 refine GN Tryz.func57 fun C hC hW hG hE=>?_
 conv=>whnf
 repeat' intro hlen<;>conv=>whnf
 refine Ab (fun ((k,o):Nat×List UInt8)=>⟨18,[(3,.ptr 0 0 0),(6,.lst (l.map (V.int .i64))),(7,.int .i64 (l.map (V.int .i64)).length),(8,.int .i64 k)],[some (.bld 138 (some (1,o.length))),some (.buf 5 o)]⟩)
  (fun (k,o)=>k≤l.length∧o=HW (l.take k)) (fun (k,_)=>l.length - k) (0,[]) hE ?_ ⟨Nat.zero_le _,rfl⟩ ?_
 ·exact ey 0 5 rfl (AP [3,6,7,8] rfl)
 rintro ⟨k,o⟩ ⟨hk,ho⟩
 have hol:o.length≤22*k:=by
  rw [ho]
  have:=Mb (l.take k) (fun x hx=>h x (List.mem_of_mem_take hx))
  simp at this
  omega
 by_cases hlt:k < l.length
 ·obtain ⟨x,hx⟩:∃x,l[k]?=some x:=⟨_,List.getElem?_eq_getElem hlt⟩
  obtain ⟨hx0,hx1⟩:=h x (List.mem_of_getElem? hx)
  have hit:=(Wi x hx0 hx1).c hC hW CD hG
  have hil:=Lib.itoa_length_le x hx0 hx1
  have hnew:o++(Lib.itoa x++[32])=HW (l.take (k+1)):=by
   rw [ho,List.take_add_one,hx]
   simp [HW]
  conv=>whnf
  repeat' (first|refine A2 ?_|refine AO ?_|refine AV ?_|refine Hk ?_|refine EL hit hC Ul rfl ?_|(refine cQ hC 0 1 (by decide) ?_ rfl rfl rfl ?_;(simp;omega))|(refine EN ?_ ?_;(simp;omega)))<;>conv=>whnf
  exact AD [3,6,7,8] (k+1,o++(Lib.itoa x++[32])) ⟨hlt,hnew⟩ (show l.length - (k+1) < l.length - k by omega) rfl
 ·conv=>whnf
  repeat' (first|refine A1 ?_|refine Y7 hC 0 1 (by decide) rfl rfl rfl ?_|refine AC hE ?_)<;>conv=>whnf
  exact ⟨rfl,by rw [ho,List.take_of_length_le (by omega)]⟩
end
section
open Go.RowKit
def QM (b:Bool):List UInt8:=if b then [116,114,117,101] else [102,97,108,115,101]
def Z5 (q:List Int×Bool):List UInt8:=HW q.1++QM q.2
theorem Z6 {p q:List Int×Bool} (h:Z5 p=Z5 q):p=q:=by
 obtain ⟨l,b⟩:=p
 obtain ⟨m,c⟩:=q
 unfold Z5 at h
 simp only at h
 cases b<;>cases c
 ·have:=JQ (List.append_cancel_right h)
  rw [this]
 ·have:=congrArg List.reverse h
  simp [QM] at this
 ·have:=congrArg List.reverse h
  simp [QM] at this
 ·have:=JQ (List.append_cancel_right h)
  rw [this]
def DC (q:List Int×Bool):Value:=.string ⟨(Z5 q).toArray⟩
def NF (q:List Int×Bool):V:=.str (Z5 q)
theorem H0:KeyOk Tryz.prog 106 DC NF where
 map:=⟨9,3,by kernel_rfl,fun w=>Tryz.zeroValue3 w,fun e a w=>MapKept.run_checkKey (d:=.string) (k:=DC a) (by kernel_rfl) (show MapKept.IsKey .string (DC a) from trivial) e 9999,fun a w L es h=>Hc (d:=.string) (by kernel_rfl) (fun a b=>by
  simp only [DC,Instr.sameNow]
  congr 1
  rw [Bool.eq_iff_iff,MapKept.bytes_beq]
  simp only [decide_eq_true_eq]
  constructor
  ·intro e
   have:=congrArg (fun x:ByteArray=>x.data.toList) e
   exact Z6 (by simpa using this)
  ·rintro rfl;rfl) a w L es h⟩
 rep:=fun w I bl v a h=>by
  obtain ⟨t,rfl,ht,_⟩:=h.inv_str
  unfold DC
  rw [←ht]
end
end Go.Proofs.YtkaiffheakalmaaGreatDoor
