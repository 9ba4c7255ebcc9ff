/- Joined. No conditions. -/
import Derived.Test.YtkaiffheakalmaaGreatDoorJ9au
import Derived.Handy
import Derived.Laws.AppendOwn
set_option linter.unusedSimpArgs false
set_option linter.unusedVariables false
set_option maxRecDepth 100000
namespace Go.Proofs.YtkaiffheakalmaaGreatDoor
section
open Go.RowKit
def FO (n:Nat) (x:Int):Bool:=decide (x < -1) || decide ((n:Int)≤x)
def Ij (n:Nat) (l:List Int):Bool:=decide ((l.length:Int)≠8) || l.any (FO n)
def Zd (T:List (List Int)) (F:List Bool):V:=.agg [.lst (T.map AL),.lst (F.map V.bool)]
def Mo (T:List (List Int)) (F:List Bool):Bool:=decide (1≤T.length)&&decide (T.length≤40)&&decide (F.length=T.length)&&!(T.any (Ij T.length))
theorem jz (n:Nat) (x:Int):Fn1 Tryz.prog 27 [.int .i64 x,.rp [.int .i64 n]] (fun r=>r= .bool (FO n x)):=by
 refine Ax Tryz.func27 fun C hC hE=>?_
 conv=>whnf
 repeat' (first|refine GV (fun h=>?_) (fun h=>?_)|refine AC hE ?_)<;>conv=>whnf
 all_goals exact ⟨rfl,by unfold FO;congr 1;simp;omega⟩
theorem P2 (l:List Int) (h:FuncId) (caps:List V) (p:Int→Bool) (hb:AB Tryz.prog h=true) (hc:Fa caps=true) (hp:∀a∈l,Fn1 Tryz.prog h ((V.int .i64) a::caps) (fun r=>r= .bool (p a))):
 Fn1 Tryz.prog 44 [.lst (l.map (V.int .i64)),.fn h caps] (fun r=>r= .int .i64 (GH p l)):=by
 refine Ax Tryz.func44 fun C hC hE=>?_
 conv=>whnf
 intro hl
 conv=>whnf
 refine Ab (fun k:Nat=>⟨19,[(0,.lst (l.map (V.int .i64))),(1,.fn h caps),(7,.int .i64 (l.map (V.int .i64)).length),(8,.int .i64 k)],[]⟩) (fun k=>k≤l.length∧∀j < k,∀x,l[j]?=some x→p x=false) (fun k=>l.length - k) 0 hE ?_ ?_ ?_
 ·exact AP [0,1,7,8] rfl
 ·exact ⟨Nat.zero_le _,fun j hj=>by omega⟩
 intro k hkj
 obtain ⟨hk,hj⟩:=hkj
 have hlm:(l.map (V.int .i64)).length=l.length:=by simp
 by_cases hlt:k < l.length
 ·obtain ⟨x,hx⟩:∃x,l[k]?=some x:=⟨_,List.getElem?_eq_getElem hlt⟩
  have hpx:=hp x (List.mem_of_getElem? hx)
  conv=>whnf
  repeat' (first|refine A2 ?_|refine AO ?_|refine AV ?_|refine Hk ?_|(refine CX hpx hC hb ?_ ?_ ?_;kernel_rfl;exact GG (by kernel_rfl) hc)|refine br (fun h=>?_) (fun h=>?_)|refine AC hE ?_)<;>conv=>whnf
  ·exact ⟨rfl,by rw [D7 hx (by assumption) hj]⟩
  ·refine AD [0,1,7,8] (k+1) ⟨hlt,?_⟩ (by omega) rfl
   intro j hjk y hy
   by_cases e:j=k
   ·subst e;rw [hx] at hy;cases hy;assumption
   ·exact hj j (by omega) y hy
 ·conv=>whnf
  repeat' (first|refine A1 ?_|refine AC hE ?_)<;>conv=>whnf
  exact ⟨rfl,by rw [DW (fun x hx=>by obtain ⟨j,hj'⟩:=List.mem_iff_getElem?.1 hx;exact hj j (by have:=(List.getElem?_eq_some_iff.1 hj').1;omega) x hj')]⟩
theorem B8 (l:List Int) (h:FuncId) (caps:List V) (p:Int→Bool) (hb:AB Tryz.prog h=true) (hc:Fa caps=true) (hp:∀a∈l,Fn1 Tryz.prog h ((V.int .i64) a::caps) (fun r=>r= .bool (p a))):
 Fn1 Tryz.prog 19 [.lst (l.map (V.int .i64)),.fn h caps] (fun r=>r= .bool (l.any p)):=by
 have hi:=P2 l h caps p hb hc hp
 have ha:=D8 p l
 refine Ax Tryz.func19 fun C hC hE=>?_
 conv=>whnf
 repeat' (first|(refine CX hi hC UW ?_ ?_ ?_;kernel_rfl;exact KA rfl hc)|refine GV (fun h=>?_) (fun h=>?_)|refine AC hE ?_)<;>conv=>whnf
 all_goals exact ⟨rfl,by rw [←ha];congr 1;first|exact (decide_eq_true (by assumption)).symm|exact (decide_eq_false (by assumption)).symm⟩
theorem j0 (n:Nat) (l:List Int):Fn1 Tryz.prog 29 [AL l,.rp [.fn 27 [.rp [.int .i64 n]]]] (fun r=>r= .bool (Ij n l)):=by
 have hlm:(l.map (V.int .i64)).length=l.length:=by simp
 have hcf:=B8 l 27 [.rp [.int .i64 n]] (FO n) US rfl (fun q _=>jz n q)
 obtain ⟨b,hb⟩:∃b,(l.any (FO n))=b:=⟨_,rfl⟩
 rw [hb] at hcf
 refine Ax Tryz.func29 fun C hC hE=>?_
 conv=>whnf
 repeat' (first|refine AN hcf hC EF ?_|refine GV (fun h=>?_) (fun h=>?_)|refine br (fun h=>?_) (fun h=>?_)|refine AC hE ?_|intro hlen)<;>conv=>whnf
 all_goals exact ⟨rfl,by unfold Ij;rw [hb];congr 1;simp;first|omega|(simp_all;done)|(simp_all;omega)⟩
theorem P3 (l:List (List Int)) (h:FuncId) (caps:List V) (p:(List Int)→Bool) (hb:AB Tryz.prog h=true) (hc:Fa caps=true) (hp:∀a∈l,Fn1 Tryz.prog h (AL a::caps) (fun r=>r= .bool (p a))):
 Fn1 Tryz.prog 61 [.lst (l.map AL),.fn h caps] (fun r=>r= .int .i64 (GH p l)):=by
 refine Ax Tryz.func61 fun C hC hE=>?_
 conv=>whnf
 intro hl
 conv=>whnf
 refine Ab (fun k:Nat=>⟨19,[(0,.lst (l.map AL)),(1,.fn h caps),(7,.int .i64 (l.map AL).length),(8,.int .i64 k)],[]⟩) (fun k=>k≤l.length∧∀j < k,∀x,l[j]?=some x→p x=false) (fun k=>l.length - k) 0 hE ?_ ?_ ?_
 ·exact AP [0,1,7,8] rfl
 ·exact ⟨Nat.zero_le _,fun j hj=>by omega⟩
 intro k hkj
 obtain ⟨hk,hj⟩:=hkj
 have hlm:(l.map AL).length=l.length:=by simp
 by_cases hlt:k < l.length
 ·obtain ⟨x,hx⟩:∃x,l[k]?=some x:=⟨_,List.getElem?_eq_getElem hlt⟩
  have hpx:=hp x (List.mem_of_getElem? hx)
  conv=>whnf
  repeat' (first|refine A2 ?_|refine AO ?_|refine AV ?_|refine Hk ?_|(refine CX hpx hC hb ?_ ?_ ?_;kernel_rfl;exact GG (by kernel_rfl) hc)|refine br (fun h=>?_) (fun h=>?_)|refine AC hE ?_)<;>conv=>whnf
  ·exact ⟨rfl,by rw [D7 hx (by assumption) hj]⟩
  ·refine AD [0,1,7,8] (k+1) ⟨hlt,?_⟩ (by omega) rfl
   intro j hjk y hy
   by_cases e:j=k
   ·subst e;rw [hx] at hy;cases hy;assumption
   ·exact hj j (by omega) y hy
 ·conv=>whnf
  repeat' (first|refine A1 ?_|refine AC hE ?_)<;>conv=>whnf
  exact ⟨rfl,by rw [DW (fun x hx=>by obtain ⟨j,hj'⟩:=List.mem_iff_getElem?.1 hx;exact hj j (by have:=(List.getElem?_eq_some_iff.1 hj').1;omega) x hj')]⟩
theorem LG (l:List (List Int)) (h:FuncId) (caps:List V) (p:(List Int)→Bool) (hb:AB Tryz.prog h=true) (hc:Fa caps=true) (hp:∀a∈l,Fn1 Tryz.prog h (AL a::caps) (fun r=>r= .bool (p a))):
 Fn1 Tryz.prog 28 [.lst (l.map AL),.fn h caps] (fun r=>r= .bool (l.any p)):=by
 have hi:=P3 l h caps p hb hc hp
 have ha:=D8 p l
 refine Ax Tryz.func28 fun C hC hE=>?_
 conv=>whnf
 repeat' (first|(refine CX hi hC Uc ?_ ?_ ?_;kernel_rfl;exact KA rfl hc)|refine GV (fun h=>?_) (fun h=>?_)|refine AC hE ?_)<;>conv=>whnf
 all_goals exact ⟨rfl,by rw [←ha];congr 1;first|exact (decide_eq_true (by assumption)).symm|exact (decide_eq_false (by assumption)).symm⟩
set_option maxHeartbeats 8000000 in
theorem kL (T:List (List Int)) (F:List Bool):Fn1 Tryz.prog 14 [Zd T F] (fun r=>r= .bool (Mo T F)):=by
 have hTm:(T.map AL).length=T.length:=by simp
 have hFm:(F.map V.bool).length=F.length:=by simp
 have hcf:=LG T 29 [.rp [.fn 27 [.rp [.int .i64 T.length]]]] (Ij T.length) UU rfl (fun q _=>j0 T.length q)
 obtain ⟨b,hb⟩:∃b,(T.any (Ij T.length))=b:=⟨_,rfl⟩
 rw [hb] at hcf
 refine Ax Tryz.func14 fun C hC hE=>?_
 conv=>whnf
 repeat' (first|(refine AY (AK 1 (z:=1) (els:=[.int .i64 (T.map AL).length]) rfl ?_ (AK 2 (z:=1) (els:=[.fn 27 [.rp [.int .i64 (T.map AL).length]]]) rfl ?_ (AH ?_)));exact ⟨trivial,trivial⟩;exact ⟨⟨trivial,trivial⟩,trivial⟩)|(refine cJ hcf hC UT ?_ ?_ ?_ ?_;(rw [←hTm];rfl);kernel_rfl;kernel_rfl)|refine GV (fun h=>?_) (fun h=>?_)|refine br (fun h=>?_) (fun h=>?_)|refine AC hE ?_|intro hlen)<;>conv=>whnf
 all_goals refine ⟨rfl,?_⟩
 all_goals first
  | (have h1:¬1≤T.length:=by omega
     simp [Mo,h1];done)
  | (have h1:¬T.length≤40:=by omega
     simp [Mo,h1];done)
  | (have h1:¬F.length=T.length:=by omega
     simp [Mo,h1];done)
  | (have h1:1≤T.length:=by omega
     have h2:T.length≤40:=by omega
     have h3:F.length=T.length:=by omega
     simp only [Mo,h1,h2,h3,decide_true,Bool.true_and,hb]
     congr 1
     simp_all;done)
  | trace_state
theorem Ow (h:List (Option Ob)):∀o,h[AG h]?≠some (some o):=by
 induction h with
 | nil=>intro o ho;simp [AG] at ho
 | cons x r ih=>
   intro o ho
   cases x with
   | none=>simp [AG] at ho
   | some y=>exact ih o (by simpa [AG] using ho)
theorem Cw {C:Ctx} {K:ES→Prop} (p c z':Nat) {z n:Nat} {l:List V} {u:List (Nat×V)} {h:List (Option Ob)} (ho:h[p]?=some (some (.row z [.agg l]))) (hl:l[c]?=some .nils)
 (hk:UpE C K ⟨n,u,(Ag h (.row z' [])).set p (some (.row z [.agg (l.set c (.sl (AG h) 0 0))]))⟩):UpE C K ⟨n,u,h⟩:=by
 refine ⟨BS (fun a w hr=>?_) hk.out⟩
 obtain ⟨I,bl,hp0⟩:=hr.parts
 have hp:=hp0.adopt z'
 have hne:p≠AG h:=fun e=>Ow h _ (e▸ho)
 have ho':(Ag h (.row z' []))[p]?=some (some (.row z [.agg l])):=(Be h _ p hne).trans ho
 have hpl:p < (Ag h (.row z' [])).length:=(List.getElem?_eq_some_iff.1 ho').1
 refine RP.rel (I:=I) (bl:=GQ bl (AG h) ⟨none,0,z'⟩) ⟨hp.defers,hp.env,⟨fun id o hoo=>?_,fun id i hi=>?_,hp.heap.apart,hp.heap.own,hp.heap.imm,hp.heap.kept⟩⟩
 ·have hoo:((Ag h (.row z' [])).set p (some (.row z [.agg (l.set c (.sl (AG h) 0 0))])))[id]?=some (some o):=hoo
  by_cases e:id=p
  ·subst e
   rw [List.getElem?_set_self hpl] at hoo
   simp only [Option.some.injEq] at hoo
   subst hoo
   obtain ⟨bi,h1,h2,h3,h4⟩:=hp.heap.obj id _ ho'
   refine ⟨bi,h1,h2,fun i x hx=>?_,?_⟩
   ·cases i with
    | zero=>
      simp only [List.getElem?_cons_zero,Option.some.injEq] at hx
      subst hx
      have:=h3 0 (.agg l) rfl
      simp only [V.cells] at this ⊢
      simpa using this
    | succ i=>simp at hx
   ·cases hbl:bi.blk with
    | none=>
      simp only [hbl] at h4
      cases h4
    | some b=>
      simp only [hbl] at h4 ⊢
      obtain ⟨cur,e,hg,hsz,hc⟩:=h4
      refine ⟨cur,e,hg,by simpa using hsz,fun i x j v hx hxc=>?_⟩
      cases i with
      | succ i=>simp at hx
      | zero=>
        simp only [List.getElem?_cons_zero,Option.some.injEq] at hx
        subst hx
        simp only [V.cells] at hxc
        by_cases hj:j=c
        ·subst hj
         have hlt:j < l.length:=(List.getElem?_eq_some_iff.1 hl).1
         rw [List.getElem?_set_self hlt] at hxc
         simp only [Option.some.injEq] at hxc
         subst hxc
         obtain ⟨y,hy,h1',hr'⟩:=hc 0 (.agg l) j .nils rfl hl
         have:=hr'.inv_nils
         subst this
         exact ⟨_,hy,h1',.nsl _ _ _ (AT _ _ _)⟩
        ·rw [List.getElem?_set_ne (Ne.symm hj)] at hxc
         exact hc 0 (.agg l) j v rfl hxc
  ·rw [List.getElem?_set_ne (Ne.symm e)] at hoo
   exact hp.heap.obj id o hoo
 ·show ∃o,((Ag h (.row z' [])).set p (some (.row z [.agg (l.set c (.sl (AG h) 0 0))])))[id]?=some (some o)
  by_cases e:id=p
  ·subst e;exact ⟨_,List.getElem?_set_self hpl⟩
  ·rw [List.getElem?_set_ne (Ne.symm e)]
   exact hp.heap.live id i hi
section
variable {C:Ctx} {K:ES→Prop}
theorem Rh {p k:Nat} {x:Ob} {o:Ob} (h:(List.replicate p none++[some x])[k]?=some (some o)):k=p∧o=x:=by
 rw [List.getElem?_append] at h
 split at h
 ·rename_i hk
  simp at hk
  rw [List.getElem?_replicate,if_pos hk] at h
  cases h
 ·rename_i hk
  simp at hk
  have:k - (List.replicate p (none:Option Ob)).length=k - p:=by simp
  rw [this] at h
  match hj:k - p with
  | 0=>rw [hj] at h;cases h;exact ⟨by omega,rfl⟩
  | j+1=>rw [hj] at h;simp at h
theorem VT (p:Nat) (x:Ob):(List.replicate p none++[some x])[p]?=some (some x):=by
 rw [List.getElem?_append_right (by simp)]
 simp
theorem cW (p t:Nat) {z n:Nat} {els:List V} {u:List (Nat×V)} {h:List (Option Ob)} (ho:h[p]?=some (some (.row z els))) (hnr:BT els) (ht:AU u t= .ptr p 0 0)
 (hk:UpE C K ⟨n,[(t,.ptr p 0 0)],List.replicate p none++[some (.row z els)]⟩):UpE C K ⟨n,u,h⟩:=by
 refine Bm [t] ?_
 refine ⟨BS (fun a w hr=>?_) hk.out⟩
 obtain ⟨I,bl,hp⟩:=hr.parts
 refine RP.rel (I:=I) (bl:=fun k=>if k=p then bl p else none) ⟨hp.defers,⟨by have:=hp.env.1;simpa [ES.st,ES.env] using this,fun i v x hv hx=>?_⟩,⟨fun id o hoo=>?_,fun id i hi=>?_,fun id id' i i' b h1 h2 h3 h4=>?_,fun id i b h1 h2=>?_,hp.heap.imm,hp.heap.kept⟩⟩
 ·have hx:(ES.env ⟨n,[(t,.ptr p 0 0)],List.replicate p none++[some (.row z els)]⟩)[i]?=some x:=hx
  have hx':(ES.env ⟨n,Az [t] u,h⟩)[i]?=some x:=by
   have e:Az [t] u=[(t,.ptr p 0 0)]:=by simp [Az,ht]
   rw [e]
   simpa [ES.env] using hx
  have hrep:=hp.env.2 i v x hv hx'
  unfold ES.env at hx
  rw [List.getElem?_map,Option.map_eq_some_iff] at hx
  obtain ⟨s,_,rfl⟩:=hx
  by_cases e:s=t
  ·subst e
   have e2:AU [(s,V.ptr p 0 0)] s= .ptr p 0 0:=by simp [AU]
   rw [e2] at hrep ⊢
   obtain ⟨b,base,z',m,e',h1,h2,rfl⟩:=hrep.inv_ptr
   exact .ptr p 0 0 b base z' m e' (by simp [h1]) h2
  ·have e2:AU [(t,V.ptr p 0 0)] s= .any:=by
    have:Nat.beq s t=false:=by cases hb:Nat.beq s t with
     | false=>rfl
     | true=>exact absurd (Nat.eq_of_beq_eq_true hb) e
    simp [AU,this]
   rw [e2]
   exact .pure _ _ (.any _)
 ·obtain ⟨rfl,rfl⟩:=Rh (show (List.replicate p none++[some (Ob.row z els)])[id]?=some (some o) from hoo)
  obtain ⟨bi,h1,h2,h3,h4⟩:=hp.heap.obj id _ ho
  refine ⟨bi,by simpa using h1,h2,h3,?_⟩
  cases hb:bi.blk with
  | none=>simpa only [hb] using h4
  | some b=>
    simp only [hb] at h4 ⊢
    obtain ⟨cur,e,hg,hsz,hc⟩:=h4
    refine ⟨cur,e,hg,hsz,fun i x j c hx hxc=>?_⟩
    obtain ⟨v,hv,h1',hr'⟩:=hc i x j c hx hxc
    exact ⟨v,hv,h1',.pure _ _ (hr'.pr (EX (CA els i x hnr hx) j c hxc))⟩
 ·have hi:(if id=p then bl p else none)=some i:=hi
  split at hi
  ·rename_i e
   subst e
   exact ⟨_,VT _ _⟩
  ·cases hi
 ·have h1:(if id=p then bl p else none)=some i:=h1
  have h2:(if id'=p then bl p else none)=some i':=h2
  split at h1
  ·rename_i e1
   split at h2
   ·rename_i e2
    rw [e1,e2]
   ·cases h2
  ·cases h1
 ·have h1:(if id=p then bl p else none)=some i:=h1
  split at h1
  ·exact hp.heap.own p i b h1 h2
  ·cases h1
theorem B0 (id:Nat) (els:List V) {m:Nat} (hm:m=els.length):(V.sl id 0 m).frz id els= .lst els:=by
 subst hm
 simp [V.frz]
theorem FL {id i off m:Nat} (els:List V) (h:i≠id):(V.sl i off m).frz id els= .sl i off m:=by simp [V.frz,h]
theorem Ri (p t a b:Nat) {za zb n m1 m2:Nat} {la lb:List V} {u:List (Nat×V)} {h:List (Option Ob)} (ho:h[p]?=some (some (.row 2 [.agg [.sl a 0 m1,.sl b 0 m2]]))) (ht:AU u t= .ptr p 0 0)
 (ha:h[a]?=some (some (.row za la))) (hb:h[b]?=some (some (.row zb lb))) (hab:a≠b) (hpa:p≠a) (hpb:p≠b) (na:BT la) (nb:BT lb) (e1:m1=la.length) (e2:m2=lb.length)
 (hk:UpE C K ⟨n,[(t,.ptr p 0 0)],List.replicate p none++[some (.row 2 [.agg [.lst la,.lst lb]])]⟩):UpE C K ⟨n,u,h⟩:=by
 refine AK a ha na ?_
 have hb':((CG a la h).set a none)[b]?=some (some (.row zb lb)):=by
  rw [List.getElem?_set_ne hab,C6 a la h b _ hb]
  simp [Ob.frz,AX _ _ nb]
 have ho':((CG a la h).set a none)[p]?=some (some (.row 2 [.agg [.lst la,.sl b 0 m2]])):=by
  rw [List.getElem?_set_ne (Ne.symm hpa),C6 a la h p _ ho]
  simp only [Ob.frz,Ai,V.frz]
  rw [if_pos trivial,if_pos (by omega),if_neg (Ne.symm hab),List.drop_zero,List.take_of_length_le (by omega)]
 refine AK b hb' nb ?_
 refine cW p t (z:=2) (els:=[.agg [.lst la,.lst lb]]) ?_ ⟨⟨trivial,trivial,trivial⟩,trivial⟩ ?_ hk
 ·rw [List.getElem?_set_ne (Ne.symm hpb),C6 b lb _ p _ ho']
  simp only [Ob.frz,Ai,V.frz]
  rw [if_pos trivial,if_pos (by omega),List.drop_zero,List.take_of_length_le (by omega)]
 ·rw [Bk,Bk,ht]
  simp [V.frz,hpa,hpb]
theorem ZG (p t q:Nat) {y:V} {z n:Nat} {els:List V} {u:List (Nat×V)} {h:List (Option Ob)} (ho:h[p]?=some (some (.row z els))) (hnr:BT els) (ht:AU u t= .ptr p 0 0) (hqt:q≠t) (hq:AU u q=y) (hy:y.nr)
 (hk:UpE C K ⟨n,[(t,.ptr p 0 0),(q,y)],List.replicate p none++[some (.row z els)]⟩):UpE C K ⟨n,u,h⟩:=by
 refine Bm [t,q] ?_
 refine ⟨BS (fun a w hr=>?_) hk.out⟩
 obtain ⟨I,bl,hp⟩:=hr.parts
 refine RP.rel (I:=I) (bl:=fun k=>if k=p then bl p else none) ⟨hp.defers,⟨by have:=hp.env.1;simpa [ES.st,ES.env] using this,fun i v x hv hx=>?_⟩,⟨fun id o hoo=>?_,fun id i hi=>?_,fun id id' i i' b h1 h2 h3 h4=>?_,fun id i b h1 h2=>?_,hp.heap.imm,hp.heap.kept⟩⟩
 ·have hx:(ES.env ⟨n,[(t,.ptr p 0 0),(q,y)],List.replicate p none++[some (.row z els)]⟩)[i]?=some x:=hx
  have hx':(ES.env ⟨n,Az [t,q] u,h⟩)[i]?=some x:=by
   have e:Az [t,q] u=[(t,.ptr p 0 0),(q,y)]:=by simp [Az,ht,hq]
   rw [e]
   simpa [ES.env] using hx
  have hrep:=hp.env.2 i v x hv hx'
  unfold ES.env at hx
  rw [List.getElem?_map,Option.map_eq_some_iff] at hx
  obtain ⟨s,_,rfl⟩:=hx
  have hrep:Rep w I bl v (AU [(t,V.ptr p 0 0),(q,y)] s):=hrep
  show Rep w I _ v (AU [(t,V.ptr p 0 0),(q,y)] s)
  by_cases e:s=t
  ·subst e
   have e2:AU [(s,V.ptr p 0 0),(q,y)] s= .ptr p 0 0:=by simp [AU]
   rw [e2] at hrep ⊢
   obtain ⟨b,base,z',m,e',h1,h2,rfl⟩:=hrep.inv_ptr
   exact .ptr p 0 0 b base z' m e' (by simp [h1]) h2
  ·have e1:Nat.beq s t=false:=by cases hb:Nat.beq s t with
    | false=>rfl
    | true=>exact absurd (Nat.eq_of_beq_eq_true hb) e
   by_cases e3:s=q
   ·subst e3
    have e2:AU [(t,V.ptr p 0 0),(s,y)] s=y:=by simp [AU,e1]
    rw [e2] at hrep ⊢
    exact .pure _ _ (hrep.pr hy)
   ·have e4:Nat.beq s q=false:=by cases hb:Nat.beq s q with
     | false=>rfl
     | true=>exact absurd (Nat.eq_of_beq_eq_true hb) e3
    have e2:AU [(t,V.ptr p 0 0),(q,y)] s= .any:=by simp [AU,e1,e4]
    rw [e2]
    exact .pure _ _ (.any _)
 ·obtain ⟨rfl,rfl⟩:=Rh (show (List.replicate p none++[some (Ob.row z els)])[id]?=some (some o) from hoo)
  obtain ⟨bi,h1,h2,h3,h4⟩:=hp.heap.obj id _ ho
  refine ⟨bi,by simpa using h1,h2,h3,?_⟩
  cases hb:bi.blk with
  | none=>simpa only [hb] using h4
  | some b=>
    simp only [hb] at h4 ⊢
    obtain ⟨cur,e,hg,hsz,hc⟩:=h4
    refine ⟨cur,e,hg,hsz,fun i x j c hx hxc=>?_⟩
    obtain ⟨v,hv,h1',hr'⟩:=hc i x j c hx hxc
    exact ⟨v,hv,h1',.pure _ _ (hr'.pr (EX (CA els i x hnr hx) j c hxc))⟩
 ·have hi:(if id=p then bl p else none)=some i:=hi
  split at hi
  ·rename_i e
   subst e
   exact ⟨_,VT _ _⟩
  ·cases hi
 ·have h1:(if id=p then bl p else none)=some i:=h1
  have h2:(if id'=p then bl p else none)=some i':=h2
  split at h1
  ·rename_i e1
   split at h2
   ·rename_i e2
    rw [e1,e2]
   ·cases h2
  ·cases h1
 ·have h1:(if id=p then bl p else none)=some i:=h1
  split at h1
  ·exact hp.heap.own p i b h1 h2
  ·cases h1
theorem Ok (p t q a b:Nat) {y:V} {za zb n m1 m2:Nat} {la lb:List V} {u:List (Nat×V)} {h:List (Option Ob)} (ho:h[p]?=some (some (.row 2 [.agg [.sl a 0 m1,.sl b 0 m2]]))) (ht:AU u t= .ptr p 0 0)
 (ha:h[a]?=some (some (.row za la))) (hb:h[b]?=some (some (.row zb lb))) (hab:a≠b) (hpa:p≠a) (hpb:p≠b) (na:BT la) (nb:BT lb) (e1:m1=la.length) (e2:m2=lb.length) (hqt:q≠t) (hq:AU u q=y) (hy:Xz y=true)
 (hk:UpE C K ⟨n,[(t,.ptr p 0 0),(q,y)],List.replicate p none++[some (.row 2 [.agg [.lst la,.lst lb]])]⟩):UpE C K ⟨n,u,h⟩:=by
 refine AK a ha na ?_
 have hb':((CG a la h).set a none)[b]?=some (some (.row zb lb)):=by
  rw [List.getElem?_set_ne hab,C6 a la h b _ hb]
  simp [Ob.frz,AX _ _ nb]
 have ho':((CG a la h).set a none)[p]?=some (some (.row 2 [.agg [.lst la,.sl b 0 m2]])):=by
  rw [List.getElem?_set_ne (Ne.symm hpa),C6 a la h p _ ho]
  simp only [Ob.frz,Ai,V.frz]
  rw [if_pos trivial,if_pos (by omega),if_neg (Ne.symm hab),List.drop_zero,List.take_of_length_le (by omega)]
 refine AK b hb' nb ?_
 have hyf:∀id els,y.frz id els=y:=fun id els=>by cases y<;>first|(exfalso;simp [Xz] at hy;done)|simp [V.frz]
 have hyn:y.nr:=by cases y<;>first|(exfalso;simp [Xz] at hy;done)|trivial
 refine ZG p t q (z:=2) (els:=[.agg [.lst la,.lst lb]]) ?_ ⟨⟨trivial,trivial,trivial⟩,trivial⟩ ?_ hqt (by rw [Bk,Bk,hq,hyf,hyf]) hyn hk
 ·rw [List.getElem?_set_ne (Ne.symm hpb),C6 b lb _ p _ ho']
  simp only [Ob.frz,Ai,V.frz]
  rw [if_pos trivial,if_pos (by omega),List.drop_zero,List.take_of_length_le (by omega)]
 ·rw [Bk,Bk,ht]
  simp [V.frz,hpa,hpb]
end
theorem AJ:∀L:List Int,BT (L.map (V.int .i64))
 | []=>trivial
 | x::L=>⟨trivial,AJ L⟩
theorem Jg:∀N:List (List Int),BT (N.map AL)
 | []=>trivial
 | r::N=>⟨trivial,Jg N⟩
theorem O0 (id:Nat) (els:List V):∀a b:List V,Ai id els (a++b)=Ai id els a++Ai id els b
 | [],b=>by simp [Ai]
 | x::a,b=>by simp [Ai,O0 id els a b]
theorem M7 (id:Nat):∀a b:List V,AF id (a++b)=AF id a++AF id b
 | [],b=>by simp [AF]
 | x::a,b=>by simp [AF,M7 id a b]
theorem CR (l:List Int):∀y,y∈l.map (V.int .i64)→y.cells.length=1:=fun y hy=>by
 obtain ⟨x,_,rfl⟩:=List.mem_map.1 hy
 rfl
theorem Gf:∀L:List Bool,BT (L.map V.bool)
 | []=>trivial
 | _::L=>⟨trivial,Gf L⟩
def BV (l:List Int):V:=.agg (l.map (V.int .i64))
theorem Jf {α:Type} [DecidableEq α] {a:α} {n:Int}:∀{M:List (α×Int)},(A8 a M)=some n→∃j:Nat,M[j]?=some (a,n)
 | [],h=>by simp [A8] at h
 | q::M,h=>by
   rw [D9] at h
   split at h
   ·rename_i e
    cases h
    exact ⟨0,by rw [e];rfl⟩
   ·obtain ⟨j,hj⟩:=Jf h
    exact ⟨j+1,by simpa using hj⟩
theorem P9 {α:Type} [DecidableEq α] {a:α}:∀{M:List (α×Int)},(A8 a M)=none→a∉M.map (·.1)
 | [],_=>by simp
 | q::M,h=>by
   rw [D9] at h
   split at h
   ·cases h
   ·rename_i e
    have:=P9 h
    simp only [List.map_cons,List.mem_cons,not_or]
    exact ⟨e,this⟩
theorem De:∀(n:Nat) (l:List Nat),l.Nodup→(∀x∈l,x < n)→l.length≤n
 | 0,l,_,h=>by
   cases l with
   | nil=>simp
   | cons x l=>exact absurd (h x (by simp)) (by omega)
 | n+1,l,hd,h=>by
   by_cases hm:n∈l
   ·have h1:=De n (l.erase n) (hd.erase n) (fun x hx=>by
     have h2:=h x (List.mem_of_mem_erase hx)
     have h3:x≠n:=fun e=>by subst e;exact (List.Nodup.not_mem_erase hd) hx
     omega)
    rw [List.length_erase_of_mem hm] at h1
    omega
   ·have:=De n l hd (fun x hx=>by
     have h2:=h x hx
     have h3:x≠n:=fun e=>by subst e;exact hm hx
     omega)
    omega
theorem M6 {α:Type} {l:List α} (h:l.length=8):∃a b c d e f g i,l=[a,b,c,d,e,f,g,i]:=by
 match l,h with
 | [a,b,c,d,e,f,g,i],_=>exact ⟨a,b,c,d,e,f,g,i,rfl⟩
theorem QA:∀L:List Int,BT (L.map (V.int .i64))
 | []=>trivial
 | x::L=>⟨trivial,QA L⟩
theorem Cc:∀N:List (List Int),BT (N.map BV)
 | []=>trivial
 | r::N=>⟨QA r,Cc N⟩
theorem R5 (N:List (List Int)) (a0 a1 a2 a3 a4 a5 a6 a7:Int):List.take N.length (List.drop 0 (List.map BV N))++List.take 1 (List.drop 0 [V.agg [V.int .i64 a0,V.int .i64 a1,V.int .i64 a2,V.int .i64 a3,V.int .i64 a4,V.int .i64 a5,V.int .i64 a6,V.int .i64 a7]])=List.map BV (N++[[a0,a1,a2,a3,a4,a5,a6,a7]]):=by
 rw [List.drop_zero,List.take_of_length_le (by simp),List.map_append]
 rfl
theorem R6 (N:List (List Int)) (a0 a1 a2 a3 a4 a5 a6 a7:Int):N.length+(List.take 1 (List.drop 0 [V.agg [V.int .i64 a0,V.int .i64 a1,V.int .i64 a2,V.int .i64 a3,V.int .i64 a4,V.int .i64 a5,V.int .i64 a6,V.int .i64 a7]])).length=(N++[[a0,a1,a2,a3,a4,a5,a6,a7]]).length:=by
 rw [List.length_append]
 rfl
def AE (F:List (List Int)) (i:Nat):List Int:=F.getD i []
def Df (i k:Int) (F:List (List Int)):List (List Int):=if k∈AE F i.toNat then F else F.set i.toNat (AE F i.toNat++[k])
def AZ (i:Int) (to:List Int) (F:List (List Int)):List (List Int):=to.foldl (fun F k=>Df i k F) F
def Au (fr to:List Int) (F:List (List Int)):List (List Int):=fr.foldl (fun F i=>AZ i to F) F
structure Pt where
 first:List Int
 last:List Int
 none:Bool
structure Ps where
 T:List Int
 F:List (List Int)
def QT (k:Int) (r:Pt×Ps):Pt×Ps:=
 (⟨r.1.first,r.1.last,r.1.none || decide (k=4) || decide (k=6)⟩,if k=4∨k=5 then ⟨r.2.T,Au r.1.last r.1.first r.2.F⟩ else r.2)
def Gx (k:Int) (out q:Pt) (S:Ps):Pt×Ps:=
 if k≠2 then (⟨out.first++q.first,out.last++q.last,out.none || q.none⟩,S)
 else (⟨if out.none then out.first++q.first else out.first,(if q.none then out.last else [])++q.last,out.none&&q.none⟩,⟨S.T,Au out.last q.first S.F⟩)
mutual
def BY:Ex→Ps→Pt×Ps
 | .mk k t ps,S=>if k=1 then (⟨[(S.T.length:Int)],[(S.T.length:Int)],false⟩,⟨S.T++[t],S.F++[[]]⟩) else QT k (DA k ps ⟨[],[],decide (k=2)⟩ S)
def DA (k:Int):List Ex→Pt→Ps→Pt×Ps
 | [],out,S=>(out,S)
 | y::ps,out,S=>DA k ps (Gx k out (BY y S).1 (BY y S).2).1 (Gx k out (BY y S).1 (BY y S).2).2
end
theorem XY (i k:Int) (F:List (List Int)):(Df i k F).length=F.length:=by
 unfold Df
 split<;>simp
theorem FA (i:Int):∀(to:List Int) (F:List (List Int)),(AZ i to F).length=F.length
 | [],F=>rfl
 | k::to,F=>by
   show (AZ i to (Df i k F)).length=_
   rw [FA i to,XY]
theorem CS (to:List Int):∀(fr:List Int) (F:List (List Int)),(Au fr to F).length=F.length
 | [],F=>rfl
 | i::fr,F=>by
   show (Au fr to (AZ i to F)).length=_
   rw [CS to fr,FA]
theorem Gi (i:Int) (to:List Int) (k:Int) (F:List (List Int)):AZ i (to++[k]) F=Df i k (AZ i to F):=by simp [AZ]
theorem T4 (fr:List Int) (i:Int) (to:List Int) (F:List (List Int)):Au (fr++[i]) to F=AZ i to (Au fr to F):=by simp [Au]
def BdF (n:Nat) (F:List (List Int)):Prop:=∀r∈F,r.Nodup∧∀x∈r,0≤x∧x < n
theorem H6 {n:Nat} {r:List Int} (h:r.Nodup∧∀x∈r,0≤x∧x < (n:Int)):r.length≤n:=by
 have h1:(r.map Int.toNat).Nodup:=by
  have:=h.1
  have h2:=h.2
  clear h
  induction r with
  | nil=>exact List.nodup_nil
  | cons x r ih=>
    rw [List.map_cons,List.nodup_cons]
    rw [List.nodup_cons] at this
    refine ⟨fun hm=>?_,ih this.2 fun y hy=>h2 y (List.mem_cons_of_mem _ hy)⟩
    obtain ⟨y,hy,e⟩:=List.mem_map.1 hm
    have a:=h2 x List.mem_cons_self
    have b:=h2 y (List.mem_cons_of_mem _ hy)
    have:x=y:=by omega
    subst this
    exact this.1 hy
 have h2:∀x∈r.map Int.toNat,x < n:=fun x hx=>by
  obtain ⟨y,hy,rfl⟩:=List.mem_map.1 hx
  have:=h.2 y hy
  omega
 have h3:=De n _ h1 h2
 rw [List.length_map] at h3
 exact h3
theorem aL {n:Nat} {i k:Int} {F:List (List Int)} (h:BdF n F) (hk:0≤k∧k < (n:Int)):BdF n (Df i k F):=by
 unfold Df
 split
 ·exact h
 ·rename_i hm
  intro r hr
  rcases List.mem_or_eq_of_mem_set hr with h1|h1
  ·exact h r h1
  ·subst h1
   have h0:(AE F i.toNat).Nodup∧∀x∈AE F i.toNat,0≤x∧x < (n:Int):=by
    unfold AE
    rw [List.getD_eq_getElem?_getD]
    cases hg:F[i.toNat]? with
    | none=>exact ⟨List.nodup_nil,fun x hx=>by cases hx⟩
    | some r0=>exact h r0 (List.mem_of_getElem? hg)
   refine ⟨?_,fun x hx=>?_⟩
   ·rw [List.nodup_append]
    refine ⟨h0.1,by simp,fun a ha b hb=>?_⟩
    rw [List.mem_singleton] at hb
    subst hb
    intro e;subst e;exact hm ha
   ·rcases List.mem_append.1 hx with h2|h2
    ·exact h0.2 x h2
    ·rw [List.mem_singleton] at h2;subst h2;exact hk
theorem GI {n:Nat} {i:Int}:∀{to:List Int} {F:List (List Int)},BdF n F→(∀k∈to,0≤k∧k < (n:Int))→BdF n (AZ i to F)
 | [],F,h,_=>h
 | k::to,F,h,hk=>by
   show BdF n (AZ i to (Df i k F))
   exact GI (aL h (hk k List.mem_cons_self)) fun x hx=>hk x (List.mem_cons_of_mem _ hx)
theorem NL {n:Nat} {to:List Int} (hk:∀k∈to,0≤k∧k < (n:Int)):∀{fr:List Int} {F:List (List Int)},BdF n F→BdF n (Au fr to F)
 | [],F,h=>h
 | i::fr,F,h=>by
   show BdF n (Au fr to (AZ i to F))
   exact NL hk (GI h hk)
end
section
def Ke (x:Int):List Int→List Int
 | []=>[x]
 | y::l=>if x < y then x::y::l else if x=y then y::l else y::Ke x l
def CE (l:List Int):List Int:=l.foldr Ke []
theorem NR (x z:Int):∀l,z∈Ke x l↔z=x∨z∈l
 | []=>by simp [Ke]
 | y::l=>by
   unfold Ke
   split
   ·simp
   ·split
    ·rename_i h;subst h;simp
    ·simp only [List.mem_cons,NR x z l]
     constructor
     ·rintro (h|h|h)
      ·exact .inr (.inl h)
      ·exact .inl h
      ·exact .inr (.inr h)
     ·rintro (h|h|h)
      ·exact .inr (.inl h)
      ·exact .inl h
      ·exact .inr (.inr h)
theorem Kf (z:Int):∀l,z∈CE l↔z∈l
 | []=>by simp [CE]
 | x::l=>by
   show z∈Ke x (CE l)↔_
   rw [NR,Kf z l,List.mem_cons]
theorem SW (x:Int):∀{l:List Int},l.Pairwise (· < ·)→(Ke x l).Pairwise (· < ·)
 | [],_=>by simp [Ke]
 | y::l,h=>by
   have h':=List.pairwise_cons.1 h
   unfold Ke
   split
   ·rename_i hxy
    refine List.pairwise_cons.2 ⟨fun z hz=>?_,h⟩
    rcases List.mem_cons.1 hz with rfl|hz
    ·exact hxy
    ·have:=h'.1 z hz;omega
   ·split
    ·exact h
    ·rename_i h1 h2
     refine List.pairwise_cons.2 ⟨fun z hz=>?_,SW x h'.2⟩
     rcases (NR x z l).1 hz with rfl|hz
     ·omega
     ·exact h'.1 z hz
theorem PC:∀l:List Int,(CE l).Pairwise (· < ·)
 | []=>List.Pairwise.nil
 | x::l=>SW x (PC l)
theorem ah:∀{a b:List Int},a.Pairwise (· < ·)→b.Pairwise (· < ·)→(∀z,z∈a↔z∈b)→a=b
 | [],[],_,_,_=>rfl
 | [],y::b,_,_,h=>by have:=(h y).2 (by simp);simp at this
 | x::a,[],_,_,h=>by have:=(h x).1 (by simp);simp at this
 | x::a,y::b,ha,hb,h=>by
   have ha':=List.pairwise_cons.1 ha
   have hb':=List.pairwise_cons.1 hb
   have e:x=y:=by
    rcases List.mem_cons.1 ((h x).1 (by simp)) with h1|h1
    ·exact h1
    ·rcases List.mem_cons.1 ((h y).2 (by simp)) with h2|h2
     ·exact h2.symm
     ·have:=hb'.1 x h1;have:=ha'.1 y h2;omega
   subst e
   rw [ah ha'.2 hb'.2 fun z=>?_]
   constructor
   ·intro hz
    rcases List.mem_cons.1 ((h z).1 (by simp [hz])) with h1|h1
    ·subst h1;have:=ha'.1 z hz;omega
    ·exact h1
   ·intro hz
    rcases List.mem_cons.1 ((h z).2 (by simp [hz])) with h1|h1
    ·subst h1;have:=hb'.1 z hz;omega
    ·exact h1
end
section
open Go.RowKit
theorem Mh {zv:Array Value} (h:∀u∈zv.toList,u.oneCell'=true) (n:Nat):∀u∈(Builtin.zeroCells zv n).toList,u.oneCell'=true:=by
 intro u hu
 simp only [Builtin.zeroCells,Array.toList_map,List.mem_map] at hu
 obtain ⟨i,hi,rfl⟩:=hu
 have hi:i < n*zv.size:=by simpa using hi
 have hz:0 < zv.size:=by
  rcases Nat.eq_zero_or_pos zv.size with h0|h0
  ·rw [h0] at hi;omega
  ·exact h0
 have hlt:=Nat.mod_lt i hz
 rw [getElem!_pos zv (i % zv.size) hlt]
 exact h _ (by simp)
theorem Wm {C:Ctx} {P:Program} {K:V→ES→Prop} {σ:ES} (hC:C.P=P) {t e:TypeId} {i:TypeInfo} {zv:Value} (hu:P.underlying t=some (.slice e)) (hi:P.info? e=some i) (hz:i.zero=some zv) {z:Nat} (hzl:zv.cells.size=z) (hz1:∀u∈zv.cells.toList,u.oneCell'=true)
 {x:Operand} (id off len:Nat) {els:List V} (hx:σ.val x= .sl id off len) (hrow:σ.heap[id]?=some (some (.row z els))) (hoff:off≤els.length) (h0:0 < len)
 (hK:fH (σ.heap.set id (some (.row z (els.take off)))) fun h=>K (.tup []) ⟨σ.n,σ.u,h⟩):OpN C (.call { callee:=.builtin .clear,args:=#[x],argTypes:=#[t]}) K σ:=by
 subst hC
 rw [A7] at hK
 refine ⟨fun o ho=>Ak fun a w I bl hp=>?_⟩
 have hv:=hp.val x
 rw [Ao,hx] at hv
 rcases hv.inv_sl with ⟨base,z',_,_,h5,_⟩|⟨a',i',_,h5,_⟩|⟨cap,b,base,z',n,e',h1,h2,h3,h4,h5,h6⟩
 ·omega
 ·omega
 obtain ⟨bi,g1,g2,g3,g4⟩:=hp.heap.obj id _ hrow
 rw [h1] at g1
 simp only [Option.some.injEq] at g1
 subst g1
 simp only at g2
 subst g2
 simp only at g4
 obtain ⟨cur,e2,hg,hsz,hc⟩:=g4
 have hsh:=hg.shape
 rw [h2] at hsh
 simp only [Option.some.injEq,Prod.mk.injEq] at hsh
 obtain ⟨rfl,rfl⟩:=hsh
 have hzc:(Builtin.zeroCells zv.cells len).size=len*z':=by rw [size_zeroCells,hzl]
 have hm:(off+len)*z'≤(off+cap)*z':=Nat.mul_le_mul_right _ (by omega)
 have hm2:(off+len)*z'=off*z'+len*z':=Nat.add_mul _ _ _
 have hfit:base+off*z'+(Builtin.zeroCells zv.cells len).size≤cur.size:=by rw [hzc];omega
 obtain ⟨fz,hfz,hgh⟩:=hg
 have hst:=CL (z:=z') (P:=C.P) b (base+off*z') e' fz (Builtin.zeroCells zv.cells len).toList 0 cur w hgh hfz (by simpa using hfit) (Mh hz1 len)
 simp only [Nat.add_zero] at hst
 have hrun:(Builtin.clear_ #[t] o.type #[.slice (some ⟨b,base+off*z',none⟩) len cap]).run C.P w= .ok (.tuple #[]) (w.setRow b (cur.toList.take (base+off*z')++(Builtin.zeroCells zv.cells len).toList++cur.toList.drop (base+off*z'+(Builtin.zeroCells zv.cells len).toList.length)).toArray):=by
  cases len with
  | zero=>omega
  | succ k=>simp [Builtin.clear_,run_underlying hu,zeroValue,typeInfo,hi,hz,hst]
 have hmo:(els.take off).length*z'≤off*z':=Nat.mul_le_mul_right _ (by simp;omega)
 have hw:=hp.write h1 ⟨fz,hfz,hgh⟩ (cur.toList.take (base+off*z')++(Builtin.zeroCells zv.cells len).toList++cur.toList.drop (base+off*z'+(Builtin.zeroCells zv.cells len).toList.length)).toArray (by simp at hfit ⊢;omega) (els.take off)
  (fun k y hy=>by
    rw [List.getElem?_take] at hy
    split at hy
    ·exact g3 k y hy
    ·cases hy) (by simp at hfit hmo ⊢;omega) (fun k y j c hy hc'=>by
    rw [List.getElem?_take] at hy
    split at hy
    ·rename_i hk
     obtain ⟨u,hu1,hu2,hu3⟩:=hc k y j c hy hc'
     refine ⟨u,?_,hu2,hu3⟩
     have hj:j < z':=by rw [←g3 k y hy];exact (List.getElem?_eq_some_iff.1 hc').1
     have hkm:(k+1)*z'≤off*z':=Nat.mul_le_mul_right _ hk
     rw [Nat.add_mul,Nat.one_mul] at hkm
     have hlt:base+k*z'+j < cur.size:=(Array.getElem?_eq_some_iff.1 hu1).1
     have:base+k*z'+j < base+off*z':=by omega
     simp only [List.getElem?_toArray]
     rw [List.append_assoc,List.getElem?_append_left (by simp;omega),List.getElem?_take,if_pos this]
     simpa using hu1
    ·cases hy)
 have hr1:IA C (⟨σ.n,σ.u,σ.heap.set id (some (.row z' (els.take off)))⟩:ES).st [.tup []] a _ [.tuple #[]]:=hw.relx (.pure _ _ (.tup [] [] rfl (fun i v c hv=>by simp at hv)))
 exact ⟨.tuple #[],_,.tup [],_,by simp [execOp,ho,resolve,invoke,builtin,h6,hrun],DH hK,hr1⟩
end
end Go.Proofs.YtkaiffheakalmaaGreatDoor
